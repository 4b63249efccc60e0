/- A rule is written as the reference writes it, for rules of small bulk. Conditions: none. -/
import Derived.Test.YtdffbjbpolhliaaDoorLRuleWritesOp
import Derived.Lib.ItoaLen
set_option linter.unusedVariables false
set_option linter.unusedSimpArgs false
namespace Go.Proofs.YtdffbjbpolhliaaDoor.LRuleWrites
open Go Go.Proofs.YtdffbjbpolhliaaDoor.Lift

theorem eta (y : T_lang_Test) : T_lang_Test.mk y.fOp y.fModulus y.fLow y.fHigh y.fKids = y := by cases y; rfl

mutual
/-- How many tests. -/
def nT : T_lang_Test → Nat
  | ⟨_, _, _, _, ks⟩ => nTs ks + 1
def nTs : List T_lang_Test → Nat
  | [] => 0
  | t :: r => nT t + nTs r
end
mutual
/-- How many levels. -/
def lv : T_lang_Test → Nat
  | ⟨_, _, _, _, ks⟩ => lvs ks + 1
def lvs : List T_lang_Test → Nat
  | [] => 0
  | t :: r => max (lv t) (lvs r)
end
def okN (op : Int) (n : Nat) : Bool := ((decide (op = 2) || decide (op = 3)) && decide (2 ≤ n)) || (decide (op = 4) && decide (1 ≤ n))
mutual
/-- Are the fields right. -/
def tf : T_lang_Test → Bool
  | ⟨op, m, lo, hi, ks⟩ => bif decide (op = 1) then decide (ks.length = 0) else (okN op ks.length && (decide (m = 0) && decide (lo = 0) && decide (hi = 0))) && tfs op ks
def tfs (op : Int) : List T_lang_Test → Bool
  | [] => true
  | t :: r => (tf t && !(decide (t.fOp = op) && !decide (op = 4))) && tfs op r
end
def num (m lo hi : Int) : Bool := bif (bif (bif (bif (ieq m 0) then true else (bif (ile 2 m) then (ile m 1000000) else false)) then (ile 0 lo) else false) then (ile lo hi) else false) then (ile hi 1000000000) else false
mutual
/-- Are the numbers right: as the program asks. -/
def rL : T_lang_Test → Bool
  | ⟨op, m, lo, hi, ks⟩ => rLs ks && (bif decide (op = 1) then num m lo hi else true)
def rLs : List T_lang_Test → Bool
  | [] => true
  | t :: r => rL t && rLs r
end
mutual
/-- As the reference asks. -/
def rR : T_lang_Test → Bool
  | ⟨op, m, lo, hi, ks⟩ => bif decide (op = 1) then num m lo hi else rRs ks
def rRs : List T_lang_Test → Bool
  | [] => true
  | t :: r => rR t && rRs r
end


theorem nT_eq (t : T_lang_Test) : nT t = nTs t.fKids + 1 := by cases t; simp [nT]
theorem lv_eq (t : T_lang_Test) : lv t = lvs t.fKids + 1 := by cases t; simp [lv]
theorem tf_eq (t : T_lang_Test) : tf t = bif decide (t.fOp = 1) then decide (t.fKids.length = 0) else (okN t.fOp t.fKids.length && (decide (t.fModulus = 0) && decide (t.fLow = 0) && decide (t.fHigh = 0))) && tfs t.fOp t.fKids := by cases t; simp [tf]
theorem rL_eq (t : T_lang_Test) : rL t = (rLs t.fKids && (bif decide (t.fOp = 1) then num t.fModulus t.fLow t.fHigh else true)) := by cases t; simp [rL]
theorem rR_eq (t : T_lang_Test) : rR t = bif decide (t.fOp = 1) then num t.fModulus t.fLow t.fHigh else rRs t.fKids := by cases t; simp [rR]

theorem nT_pos (t : T_lang_Test) : 1 ≤ nT t := by rw [nT_eq]; omega
theorem nT_mem : ∀ {l : List T_lang_Test} {t : T_lang_Test}, t ∈ l → nT t ≤ nTs l
  | a :: l, t, h => by
    simp only [nTs]
    rcases List.mem_cons.1 h with rfl | h
    · omega
    · have := nT_mem h; omega
theorem len_le : ∀ l : List T_lang_Test, l.length ≤ nTs l
  | [] => Nat.zero_le _
  | a :: l => by
    have := len_le l
    have := nT_pos a
    simp only [nTs, List.length_cons]; omega
theorem lvs_le : ∀ (n : Nat) (l : List T_lang_Test), nTs l ≤ n → lvs l ≤ nTs l
  | _, [], _ => Nat.zero_le _
  | 0, a :: l, h => by have := nT_pos a; simp only [nTs] at h; omega
  | n + 1, a :: l, h => by
    have h1 := nT_eq a
    simp only [nTs] at h
    have h2 := lvs_le n a.fKids (by omega)
    have h3 := nT_pos a
    have h4 := lvs_le n l (by omega)
    have h5 := lv_eq a
    simp only [lvs, nTs]
    omega

theorem tree {P : T_lang_Test → Prop} (h : ∀ t, (∀ k ∈ t.fKids, P k) → P t) : ∀ t, P t := by
  have : ∀ (n : Nat) (t : T_lang_Test), nT t ≤ n → P t := by
    intro n
    induction n with
    | zero => intro t ht; have := nT_pos t; omega
    | succ n ih => intro t ht; exact h t fun k hk => ih k (by have := nT_mem hk; rw [nT_eq] at ht; omega)
  exact fun t => this _ t (Nat.le_refl _)

theorem u0 {j : Nat} (h : j ≤ 2000000) : wadd .i64 (j : Int) 1 = ((j + 1 : Nat) : Int) := wadd64 (by omega) (by omega)



/-! How many tests. -/
theorem tests_loop (l : List T_lang_Test) (hl : nTs l ≤ 1048576) (ih : ∀ k ∈ l, ∃ r : Nat, Ev (fun f => lang_tests.f f k) (r : Int) ∧ r ≤ nT k ∧ (20 < r ∨ r = nT k)) : ∀ (d j a : Nat), l.length - j ≤ d → j ≤ l.length → a + nTs (l.drop j) ≤ 1048576 + 1 →
    ∃ r : Nat, Ev (fun f => lang_tests.l0 f (a : Int) l (llen l) (j : Int)) (r : Int) ∧ r ≤ a + nTs (l.drop j) ∧ (20 < r ∨ r = a + nTs (l.drop j)) := by
  have hlen := len_le l
  have fin : ∀ j a : Nat, l.length ≤ j → ∃ r : Nat, Ev (fun f => lang_tests.l0 f (a : Int) l (llen l) (j : Int)) (r : Int) ∧ r ≤ a + nTs (l.drop j) ∧ (20 < r ∨ r = a + nTs (l.drop j)) := fun j a h => by
    refine ⟨a, Ev.step (g := fun _ => some (a : Int)) (fun k => ?_) (Ev.now fun _ => rfl), by omega, ?_⟩
    · simp only [lang_tests.l0, llen_eq, ilt_f (show (l.length : Int) ≤ (j : Int) by omega), cond_false]
    · rw [List.drop_eq_nil_of_le h]; simp [nTs]
  intro d
  induction d with
  | zero => intro j a hd hj hb; exact fin j a (by omega)
  | succ d ihd =>
    intro j a hd hj hb
    rcases Nat.lt_or_ge j l.length with hlt | hge
    · rw [List.drop_eq_getElem_cons hlt] at hb ⊢
      simp only [nTs] at hb ⊢
      by_cases ha : 20 < a
      · refine ⟨a, Ev.step (g := fun _ => some (a : Int)) (fun k => ?_) (Ev.now fun _ => rfl), by omega, .inl ha⟩
        simp only [lang_tests.l0, llen_eq, ilt_t (show (j : Int) < (l.length : Int) by omega), cond_true, lat_lt hlt, Option.bind_some, ilt_t (show (20 : Int) < (a : Int) by omega)]
      · obtain ⟨r, r1, r2, r3⟩ := ih _ (List.getElem_mem hlt)
        obtain ⟨q, q1, q2, q3⟩ := ihd (j + 1) (a + r) (by omega) hlt (by omega)
        have w : wadd .i64 (a : Int) (r : Int) = ((a + r : Nat) : Int) := by rw [wadd64 (by omega) (by omega)]; omega
        refine ⟨q, Ev.step (g := fun k => (lang_tests.f k l[j]).bind fun y2 => lang_tests.l0 k (wadd .i64 (a : Int) y2) l (llen l) ((j + 1 : Nat) : Int)) (fun k => ?_) (Ev.bind r1 (by rw [w]; exact q1)), by omega, by omega⟩
        simp only [lang_tests.l0, llen_eq, ilt_t (show (j : Int) < (l.length : Int) by omega), cond_true, lat_lt hlt, Option.bind_some, ilt_f (show (a : Int) ≤ 20 by omega), cond_false, eta, u0 (show j ≤ 2000000 by omega)]
    · exact fin j a hge

theorem tests_ok : ∀ t, nT t ≤ 1048576 → ∃ r : Nat, Ev (fun f => lang_tests.f f t) (r : Int) ∧ r ≤ nT t ∧ (20 < r ∨ r = nT t) := tree fun t ih hn => by
  rw [nT_eq] at hn
  obtain ⟨r, r1, r2, r3⟩ := tests_loop t.fKids (by omega) (fun k hk => ih k hk (by have := nT_mem hk; omega)) t.fKids.length 0 1 (by omega) (by omega) (by rw [List.drop_zero]; omega)
  rw [List.drop_zero] at r2 r3
  rw [nT_eq]
  exact ⟨r, Ev.step (fun k => by simp only [lang_tests.f]; rfl) r1, by omega, by omega⟩

/-! How many levels. -/
theorem imax_nat (a b : Nat) : imax (a : Int) (b : Int) = ((max a b : Nat) : Int) := by unfold imax; split <;> omega

theorem levels_loop (l : List T_lang_Test) (hl : nTs l ≤ 1048576) (ih : ∀ k ∈ l, Ev (fun f => lang_levels.f f k) (lv k : Int)) : ∀ (d j a : Nat), l.length - j ≤ d → j ≤ l.length → a ≤ 1048576 →
    Ev (fun f => lang_levels.l0 f (a : Int) l (llen l) (j : Int)) ((max a (lvs (l.drop j)) + 1 : Nat) : Int) := by
  have hlen := len_le l
  have hlv := fun k (hk : k ∈ l) => (show lv k ≤ 1048576 by have h1 := nT_mem hk; have h2 := nT_eq k; have h3 := lvs_le _ k.fKids (Nat.le_refl _); have h4 := lv_eq k; omega)
  have fin : ∀ j a : Nat, l.length ≤ j → a ≤ 1048576 → Ev (fun f => lang_levels.l0 f (a : Int) l (llen l) (j : Int)) ((max a (lvs (l.drop j)) + 1 : Nat) : Int) := fun j a h ha => by
    rw [List.drop_eq_nil_of_le h]
    refine Ev.step (g := fun _ => some ((max a (lvs []) + 1 : Nat) : Int)) (fun k => ?_) (Ev.now fun _ => rfl)
    simp only [lang_levels.l0, llen_eq, ilt_f (show (l.length : Int) ≤ (j : Int) by omega), cond_false, lvs, u0 (show a ≤ 2000000 by omega)]
    simp
  intro d
  induction d with
  | zero => intro j a hd hj ha; exact fin j a (by omega) ha
  | succ d ihd =>
    intro j a hd hj ha
    rcases Nat.lt_or_ge j l.length with hlt | hge
    · rw [List.drop_eq_getElem_cons hlt]
      have hk := hlv _ (List.getElem_mem hlt)
      have := ihd (j + 1) (max a (lv l[j])) (by omega) hlt (by omega)
      rw [show max (max a (lv l[j])) (lvs (l.drop (j + 1))) = max a (lvs (l[j] :: l.drop (j + 1))) by simp only [lvs]; omega] at this
      refine Ev.step (g := fun k => (lang_levels.f k l[j]).bind fun y2 => lang_levels.l0 k (imax (a : Int) y2) l (llen l) ((j + 1 : Nat) : Int)) (fun k => ?_) (Ev.bind (ih _ (List.getElem_mem hlt)) (by rw [imax_nat]; exact this))
      simp only [lang_levels.l0, llen_eq, ilt_t (show (j : Int) < (l.length : Int) by omega), cond_true, lat_lt hlt, Option.bind_some, eta, u0 (show j ≤ 2000000 by omega)]
    · exact fin j a hge ha

theorem levels_ok : ∀ t, nT t ≤ 1048576 → Ev (fun f => lang_levels.f f t) (lv t : Int) := tree fun t ih hn => by
  rw [nT_eq] at hn
  have := levels_loop t.fKids (by omega) (fun k hk => ih k hk (by have := nT_mem hk; omega)) t.fKids.length 0 0 (by omega) (by omega) (by omega)
  rw [List.drop_zero, Nat.zero_max] at this
  rw [lv_eq]
  exact Ev.step (fun k => by simp only [lang_levels.f]; rfl) this

theorem both_loop (l : List T_lang_Test) (hl : nTs l ≤ 1048576) (ih : ∀ k ∈ l, Ev (fun f => mastref2_testsIn.f f k) ((nT k : Int), (lv k : Int))) : ∀ (d j a b : Nat), l.length - j ≤ d → j ≤ l.length → a + nTs (l.drop j) ≤ 1048576 + 1 → b ≤ 1048576 →
    Ev (fun f => mastref2_testsIn.l0 f (a : Int) (b : Int) l (llen l) (j : Int)) (((a + nTs (l.drop j) : Nat) : Int), ((max b (lvs (l.drop j)) + 1 : Nat) : Int)) := by
  have hlen := len_le l
  have hlv := fun k (hk : k ∈ l) => (show lv k ≤ 1048576 by have h1 := nT_mem hk; have h2 := nT_eq k; have h3 := lvs_le _ k.fKids (Nat.le_refl _); have h4 := lv_eq k; omega)
  have fin : ∀ j a b : Nat, l.length ≤ j → b ≤ 1048576 → Ev (fun f => mastref2_testsIn.l0 f (a : Int) (b : Int) l (llen l) (j : Int)) (((a + nTs (l.drop j) : Nat) : Int), ((max b (lvs (l.drop j)) + 1 : Nat) : Int)) := fun j a b h hb => by
    rw [List.drop_eq_nil_of_le h]
    refine Ev.step (g := fun _ => some (((a + nTs [] : Nat) : Int), ((max b (lvs []) + 1 : Nat) : Int))) (fun k => ?_) (Ev.now fun _ => rfl)
    simp only [mastref2_testsIn.l0, llen_eq, ilt_f (show (l.length : Int) ≤ (j : Int) by omega), cond_false, lvs, nTs, u0 (show b ≤ 2000000 by omega)]
    simp
  intro d
  induction d with
  | zero => intro j a b hd hj ha hb; exact fin j a b (by omega) hb
  | succ d ihd =>
    intro j a b hd hj ha hb
    rcases Nat.lt_or_ge j l.length with hlt | hge
    · rw [List.drop_eq_getElem_cons hlt] at ha ⊢
      have hk := hlv _ (List.getElem_mem hlt)
      simp only [nTs] at ha
      have := ihd (j + 1) (a + nT l[j]) (max b (lv l[j])) (by omega) hlt (by omega) (by omega)
      rw [show max (max b (lv l[j])) (lvs (l.drop (j + 1))) = max b (lvs (l[j] :: l.drop (j + 1))) by simp only [lvs]; omega, show a + nT l[j] + nTs (l.drop (j + 1)) = a + nTs (l[j] :: l.drop (j + 1)) by simp only [nTs]; omega] at this
      have w : wadd .i64 (a : Int) (nT l[j] : Int) = ((a + nT l[j] : Nat) : Int) := by rw [wadd64 (by omega) (by omega)]; omega
      refine Ev.step (g := fun k => (mastref2_testsIn.f k l[j]).bind fun y2 => mastref2_testsIn.l0 k (wadd .i64 (a : Int) y2.1) (imax (b : Int) y2.2) l (llen l) ((j + 1 : Nat) : Int)) (fun k => ?_) (Ev.bind (ih _ (List.getElem_mem hlt)) (by rw [imax_nat, w]; exact this))
      simp only [mastref2_testsIn.l0, llen_eq, ilt_t (show (j : Int) < (l.length : Int) by omega), cond_true, lat_lt hlt, Option.bind_some, eta, u0 (show j ≤ 2000000 by omega)]
    · exact fin j a b hge hb

theorem both_ok : ∀ t, nT t ≤ 1048576 → Ev (fun f => mastref2_testsIn.f f t) ((nT t : Int), (lv t : Int)) := tree fun t ih hn => by
  rw [nT_eq] at hn
  have := both_loop t.fKids (by omega) (fun k hk => ih k hk (by have := nT_mem hk; omega)) t.fKids.length 0 1 0 (by omega) (by omega) (by rw [List.drop_zero]; omega) (by omega)
  rw [List.drop_zero, Nat.zero_max, Nat.add_comm 1] at this
  rw [lv_eq, nT_eq]
  exact Ev.step (fun k => by simp only [mastref2_testsIn.f]; rfl) this

/-! The fields. -/
theorem form_loop (op m lo hi : Int) (ks l : List T_lang_Test) (hl : nTs l ≤ 1048576) (ih : ∀ k ∈ l, Ev (fun f => lang_testForm.f f k) (tf k)) : ∀ (d j : Nat), l.length - j ≤ d → j ≤ l.length →
    Ev (fun f => lang_testForm.l2 f op m lo hi ks l (llen l) (j : Int)) (tfs op (l.drop j) && (decide (m = 0) && decide (lo = 0) && decide (hi = 0))) := by
  have hlen := len_le l
  have fin : ∀ j : Nat, l.length ≤ j → Ev (fun f => lang_testForm.l2 f op m lo hi ks l (llen l) (j : Int)) (tfs op (l.drop j) && (decide (m = 0) && decide (lo = 0) && decide (hi = 0))) := fun j h => by
    rw [List.drop_eq_nil_of_le h]
    refine Ev.step (g := fun _ => some (decide (m = 0) && decide (lo = 0) && decide (hi = 0))) (fun k => ?_) (Ev.now fun _ => by simp [tfs])
    simp only [lang_testForm.l2, llen_eq, ilt_f (show (l.length : Int) ≤ (j : Int) by omega), cond_false, ieq_d]
    cases decide (m = 0) <;> cases decide (lo = 0) <;> rfl
  intro d
  induction d with
  | zero => intro j hd hj; exact fin j (by omega)
  | succ d ihd =>
    intro j hd hj
    rcases Nat.lt_or_ge j l.length with hlt | hge
    · rw [List.drop_eq_getElem_cons hlt]
      simp only [tfs]
      have hk := ih _ (List.getElem_mem hlt)
      have hrec := ihd (j + 1) (by omega) hlt
      by_cases hc : l[j].fOp = op ∧ ¬ op = 4
      · refine Ev.step (g := fun _ => some false) (fun k => ?_) (Ev.now fun _ => by simp [hc.1, hc.2])
        simp only [lang_testForm.l2, llen_eq, ilt_t (show (j : Int) < (l.length : Int) by omega), cond_true, lat_lt hlt, Option.bind_some, ieq_f hc.2, ieq_t hc.1, Bool.not_false]
      · have hc2 : (bif (!ieq op 4) then (ieq l[j].fOp op) else false) = false := by
          simp only [ieq_d]
          by_cases h4 : op = 4
          · simp [h4]
          · have : ¬ l[j].fOp = op := fun e => hc ⟨e, h4⟩
            simp [h4, this]
        have hc3 : (decide (l[j].fOp = op) && !decide (op = 4)) = false := by
          by_cases h4 : op = 4
          · simp [h4]
          · have : ¬ l[j].fOp = op := fun e => hc ⟨e, h4⟩
            simp [this]
        rw [hc3]
        refine Ev.step (g := fun k => (lang_testForm.f k l[j]).bind fun y2 => bif (!y2) then some false else lang_testForm.l2 k op m lo hi ks l (llen l) ((j + 1 : Nat) : Int)) (fun k => ?_) (Ev.bind hk ?_)
        · simp only [lang_testForm.l2, llen_eq, ilt_t (show (j : Int) < (l.length : Int) by omega), cond_true, lat_lt hlt, Option.bind_some, hc2, cond_false, eta, u0 (show j ≤ 2000000 by omega)]
        · cases tf l[j] with
          | false => exact Ev.now fun _ => rfl
          | true => simpa using hrec
    · exact fin j hge

theorem form_ok : ∀ t, nT t ≤ 1048576 → Ev (fun f => lang_testForm.f f t) (tf t) := tree fun t ih hn => by
  rw [nT_eq] at hn
  have hlen := len_le t.fKids
  have hl := form_loop t.fOp t.fModulus t.fLow t.fHigh t.fKids t.fKids (by omega) (fun k hk => ih k hk (by have := nT_mem hk; omega)) t.fKids.length 0 (by omega) (by omega)
  rw [List.drop_zero] at hl
  have l1 : Ev (fun f => lang_testForm.l1 f t.fOp t.fModulus t.fLow t.fHigh t.fKids) (tfs t.fOp t.fKids && (decide (t.fModulus = 0) && decide (t.fLow = 0) && decide (t.fHigh = 0))) := Ev.step (fun k => by simp only [lang_testForm.l1]; rfl) hl
  rw [tf_eq]
  by_cases h1 : t.fOp = 1
  · refine Ev.step (g := fun _ => some (decide (t.fKids.length = 0))) (fun k => ?_) (Ev.now fun _ => by simp [h1])
    simp only [lang_testForm.f, ieq_t h1, cond_true, llen_eq, ieq_d]
    congr 2
    exact propext (by omega)
  · have l0 : ∀ b : Bool, b = (decide (t.fOp = 2) || decide (t.fOp = 3)) → Ev (fun f => lang_testForm.l0 f t.fOp t.fModulus t.fLow t.fHigh t.fKids (llen t.fKids) t.fOp b) ((okN t.fOp t.fKids.length && (decide (t.fModulus = 0) && decide (t.fLow = 0) && decide (t.fHigh = 0))) && tfs t.fOp t.fKids) := fun b hb => by
      cases b with
      | true =>
        have h23 : t.fOp = 2 ∨ t.fOp = 3 := by simpa using hb.symm
        have h4 : ¬ t.fOp = 4 := by omega
        by_cases hk : t.fKids.length < 2
        · have : okN t.fOp t.fKids.length = false := by
            unfold okN
            rw [← hb]
            have : ¬ 2 ≤ t.fKids.length := by omega
            simp [h4, this]
          rw [this]
          refine Ev.step (g := fun _ => some false) (fun k => ?_) (Ev.now fun _ => rfl)
          simp only [lang_testForm.l0, cond_true, llen_eq, ilt_t (show (t.fKids.length : Int) < 2 by omega)]
        · have : okN t.fOp t.fKids.length = true := by
            unfold okN
            rw [← hb]
            have : 2 ≤ t.fKids.length := by omega
            simp [this]
          rw [this, Bool.true_and, Bool.and_comm]
          refine Ev.step (fun k => ?_) l1
          simp only [lang_testForm.l0, cond_true, llen_eq, ilt_f (show (2 : Int) ≤ (t.fKids.length : Int) by omega), cond_false]
      | false =>
        by_cases h4 : t.fOp = 4
        · by_cases hk : t.fKids.length < 1
          · have : okN t.fOp t.fKids.length = false := by
              unfold okN
              rw [← hb]
              have : ¬ 1 ≤ t.fKids.length := by omega
              simp [this]
            rw [this]
            refine Ev.step (g := fun _ => some false) (fun k => ?_) (Ev.now fun _ => rfl)
            simp only [lang_testForm.l0, cond_false, ieq_t h4, cond_true, llen_eq, ilt_t (show (t.fKids.length : Int) < 1 by omega)]
          · have : okN t.fOp t.fKids.length = true := by
              unfold okN
              rw [← hb]
              have : 1 ≤ t.fKids.length := by omega
              simp [h4, this]
            rw [this, Bool.true_and, Bool.and_comm]
            refine Ev.step (fun k => ?_) l1
            simp only [lang_testForm.l0, cond_false, ieq_t h4, cond_true, llen_eq, ilt_f (show (1 : Int) ≤ (t.fKids.length : Int) by omega)]
        · have : okN t.fOp t.fKids.length = false := by
            unfold okN
            rw [← hb]
            simp [h4]
          rw [this]
          refine Ev.step (g := fun _ => some false) (fun k => ?_) (Ev.now fun _ => rfl)
          simp only [lang_testForm.l0, cond_false, ieq_f h4]
    rw [show decide (t.fOp = 1) = false by simp [h1], cond_false]
    by_cases h2 : t.fOp = 2
    · refine Ev.step (fun k => ?_) (l0 true (by simp [h2]))
      simp only [lang_testForm.f, ieq_f h1, cond_false, ieq_t h2, cond_true]
    · refine Ev.step (fun k => ?_) (l0 (ieq t.fOp 3) (by rw [ieq_d]; simp [h2]))
      simp only [lang_testForm.f, ieq_f h1, cond_false, ieq_f h2]

theorem formR_loop (op m lo hi : Int) (ks l : List T_lang_Test) (hl : nTs l ≤ 1048576) (ih : ∀ k ∈ l, Ev (fun f => mastref2_testForm.f f k) (tf k)) : ∀ (d j : Nat), l.length - j ≤ d → j ≤ l.length →
    Ev (fun f => mastref2_testForm.l0 f op m lo hi ks l (llen l) (j : Int)) (tfs op (l.drop j)) := by
  have hlen := len_le l
  have fin : ∀ j : Nat, l.length ≤ j → Ev (fun f => mastref2_testForm.l0 f op m lo hi ks l (llen l) (j : Int)) (tfs op (l.drop j)) := fun j h => by
    rw [List.drop_eq_nil_of_le h]
    refine Ev.step (g := fun _ => some true) (fun k => ?_) (Ev.now fun _ => by simp [tfs])
    simp only [mastref2_testForm.l0, llen_eq, ilt_f (show (l.length : Int) ≤ (j : Int) by omega), cond_false]
  intro d
  induction d with
  | zero => intro j hd hj; exact fin j (by omega)
  | succ d ihd =>
    intro j hd hj
    rcases Nat.lt_or_ge j l.length with hlt | hge
    · rw [List.drop_eq_getElem_cons hlt]
      simp only [tfs]
      have hk := ih _ (List.getElem_mem hlt)
      have hrec := ihd (j + 1) (by omega) hlt
      refine Ev.step (g := fun k => (mastref2_testForm.f k l[j]).bind fun y8 => bif (bif (!y8) then true else (bif (ieq l[j].fOp op) then (!ieq op 4) else false)) then some false else mastref2_testForm.l0 k op m lo hi ks l (llen l) ((j + 1 : Nat) : Int)) (fun k => ?_) (Ev.bind hk ?_)
      · simp only [mastref2_testForm.l0, llen_eq, ilt_t (show (j : Int) < (l.length : Int) by omega), cond_true, lat_lt hlt, Option.bind_some, eta, u0 (show j ≤ 2000000 by omega)]
      · simp only [ieq_d]
        cases tf l[j] <;> cases decide (l[j].fOp = op) <;> cases decide (op = 4) <;> simp <;> first | exact hrec | exact Ev.now fun _ => rfl
    · exact fin j hge

theorem formR_ok : ∀ t, nT t ≤ 1048576 → Ev (fun f => mastref2_testForm.f f t) (tf t) := tree fun t ih hn => by
  rw [nT_eq] at hn
  have hlen := len_le t.fKids
  have hl := formR_loop t.fOp t.fModulus t.fLow t.fHigh t.fKids t.fKids (by omega) (fun k hk => ih k hk (by have := nT_mem hk; omega)) t.fKids.length 0 (by omega) (by omega)
  rw [List.drop_zero] at hl
  have e5 : mputK ieq (mputK ieq (mputK ieq [] 2) 3) 4 = [2, 3, 4] := rfl
  have e6 : mputV ieq (mputK ieq (mputK ieq [] 2) 3) (mputV ieq (mputK ieq [] 2) (mputV ieq [] [] 2 2) 3 2) 4 1 = ([2, 2, 1] : List Int) := rfl
  rw [tf_eq]
  by_cases h1 : t.fOp = 1
  · refine Ev.step (g := fun _ => some (decide (t.fKids.length = 0))) (fun k => ?_) (Ev.now fun _ => by simp [h1])
    simp only [mastref2_testForm.f, ieq_t h1, cond_true, llen_eq, ieq_d]
    congr 2
    exact propext (by omega)
  · rw [show decide (t.fOp = 1) = false by simp [h1], cond_false]
    have hg : mget ieq ([2, 3, 4] : List Int) ([2, 2, 1] : List Int) t.fOp = if t.fOp = 2 then some 2 else if t.fOp = 3 then some 2 else if t.fOp = 4 then some 1 else none := by
      simp only [mget, ieq_d]
      by_cases h2 : t.fOp = 2
      · simp [h2]
      · by_cases h3 : t.fOp = 3
        · simp [h3]
        · by_cases h4 : t.fOp = 4
          · simp [h4]
          · simp [h2, h3, h4]
    have hb : (bif (bif (bif (bif (!((mget ieq ([2, 3, 4] : List Int) ([2, 2, 1] : List Int) t.fOp).isSome)) then true else (ilt (llen t.fKids) ((mget ieq ([2, 3, 4] : List Int) ([2, 2, 1] : List Int) t.fOp).getD 0))) then true else (!ieq t.fModulus 0)) then true else (!ieq t.fLow 0)) then true else (!ieq t.fHigh 0)) = !(okN t.fOp t.fKids.length && (decide (t.fModulus = 0) && decide (t.fLow = 0) && decide (t.fHigh = 0))) := by
      rw [hg]
      simp only [ieq_d, okN, llen_eq]
      by_cases h2 : t.fOp = 2
      · by_cases hk : 2 ≤ t.fKids.length
        · rw [if_pos h2, Option.getD_some, ilt_f (show (2 : Int) ≤ (t.fKids.length : Int) by omega)]
          cases decide (t.fModulus = 0) <;> cases decide (t.fLow = 0) <;> cases decide (t.fHigh = 0) <;> simp [h2, hk]
        · rw [if_pos h2, Option.getD_some, ilt_t (show (t.fKids.length : Int) < 2 by omega)]
          simp [h2, hk]
      · by_cases h3 : t.fOp = 3
        · by_cases hk : 2 ≤ t.fKids.length
          · rw [if_neg h2, if_pos h3, Option.getD_some, ilt_f (show (2 : Int) ≤ (t.fKids.length : Int) by omega)]
            cases decide (t.fModulus = 0) <;> cases decide (t.fLow = 0) <;> cases decide (t.fHigh = 0) <;> simp [h3, hk]
          · rw [if_neg h2, if_pos h3, Option.getD_some, ilt_t (show (t.fKids.length : Int) < 2 by omega)]
            simp [h3, hk]
        · by_cases h4 : t.fOp = 4
          · by_cases hk : 1 ≤ t.fKids.length
            · rw [if_neg h2, if_neg h3, if_pos h4, Option.getD_some, ilt_f (show (1 : Int) ≤ (t.fKids.length : Int) by omega)]
              cases decide (t.fModulus = 0) <;> cases decide (t.fLow = 0) <;> cases decide (t.fHigh = 0) <;> simp [h4, hk]
            · rw [if_neg h2, if_neg h3, if_pos h4, Option.getD_some, ilt_t (show (t.fKids.length : Int) < 1 by omega)]
              simp [h4, hk]
          · rw [if_neg h2, if_neg h3, if_neg h4]
            simp [h2, h3, h4]
    refine Ev.step (g := fun k => bif !(okN t.fOp t.fKids.length && (decide (t.fModulus = 0) && decide (t.fLow = 0) && decide (t.fHigh = 0))) then some false else mastref2_testForm.l0 k t.fOp t.fModulus t.fLow t.fHigh t.fKids t.fKids (llen t.fKids) 0) (fun k => ?_) ?_
    · simp only [mastref2_testForm.f, e5, e6, ieq_f h1, cond_false, hb]
    · cases (okN t.fOp t.fKids.length && (decide (t.fModulus = 0) && decide (t.fLow = 0) && decide (t.fHigh = 0))) with
      | false => exact Ev.now fun _ => rfl
      | true => exact hl

/-! The first that is found. -/
def fl {β : Type} (q : T_lang_Test → Bool) (hit : Nat → β) (fin : β) : Nat → List T_lang_Test → β
  | _, [] => fin
  | j, t :: r => bif q t then hit j else fl q hit fin (j + 1) r

theorem find_loop {β γ : Type} (l : List T_lang_Test) (L : Nat → Nat → Option β) (G : Nat → T_lang_Test → Option γ) (S : Nat → Nat → γ → Option β) (E : Nat → Option β) (q : T_lang_Test → Bool) (hit : Nat → β) (fin : β)
    (hs : ∀ (k j : Nat) (h : j < l.length), L (k + 1) j = (G k l[j]).bind (S k j))
    (he : ∀ k, L (k + 1) l.length = E k) (hE : Ev E fin)
    (hg : ∀ (j : Nat) (h : j < l.length), ∃ y, Ev (fun k => G k l[j]) y ∧ ∀ k, S k j y = bif q l[j] then some (hit j) else L k (j + 1)) :
    Ev (fun k => L k 0) (fl q hit fin 0 l) := by
  have : ∀ (d j : Nat), l.length - j ≤ d → j ≤ l.length → Ev (fun k => L k j) (fl q hit fin j (l.drop j)) := by
    intro d
    induction d with
    | zero =>
      intro j hd hj
      obtain rfl : j = l.length := by omega
      rw [List.drop_eq_nil_of_le (Nat.le_refl _)]
      exact Ev.step he hE
    | succ d ih =>
      intro j hd hj
      rcases Nat.lt_or_ge j l.length with hlt | hge
      · rw [List.drop_eq_getElem_cons hlt]
        obtain ⟨y, y1, y2⟩ := hg j hlt
        refine Ev.step (fun k => hs k j hlt) (Ev.bind y1 ?_)
        simp only [y2, fl]
        cases q l[j] with
        | true => exact Ev.now fun _ => rfl
        | false => exact ih (j + 1) (by omega) hlt
      · obtain rfl : j = l.length := by omega
        rw [List.drop_eq_nil_of_le (Nat.le_refl _)]
        exact Ev.step he hE
  have := this l.length 0 (by omega) (by omega)
  rwa [List.drop_zero] at this

theorem fl_const {β : Type} (q : T_lang_Test → Bool) (c fin : β) : ∀ (l : List T_lang_Test) (j : Nat), fl q (fun _ => c) fin j l = bif l.any q then c else fin
  | [], _ => rfl
  | t :: r, j => by simp only [fl, fl_const q c fin r, List.any_cons]; cases q t <;> simp
theorem fl_map {β γ : Type} (w : β → γ) (q : T_lang_Test → Bool) (hit : Nat → β) (fin : β) : ∀ (l : List T_lang_Test) (j : Nat), w (fl q hit fin j l) = fl q (fun j => w (hit j)) (w fin) j l
  | [], _ => rfl
  | t :: r, j => by simp only [fl]; cases q t <;> simp [fl_map w q hit fin r]
theorem fl_any (q : T_lang_Test → Bool) (l : List T_lang_Test) : ile 0 (fl q (fun j => (j : Int)) (-1) 0 l) = l.any q := by
  rw [fl_map (ile 0), show (fun j : Nat => ile 0 (j : Int)) = fun _ => true from funext fun j => ile_t (by omega), fl_const, show ile 0 (-1) = false from rfl]
  cases l.any q <;> rfl
theorem ilen (l : List T_lang_Test) : ∀ (j : Nat), j < l.length → ilt (j : Int) (l.length : Int) = true := fun j h => ilt_t (by omega)
theorem ilen' (l : List T_lang_Test) : ilt (l.length : Int) (l.length : Int) = false := ilt_f (by omega)

theorem rLs_any : ∀ l, rLs l = !l.any fun t => !rL t
  | [] => rfl
  | t :: r => by simp only [rLs, rLs_any r, List.any_cons]; cases rL t <;> simp
theorem rRs_any : ∀ l, rRs l = !l.any fun t => !rR t
  | [] => rfl
  | t :: r => by simp only [rRs, rRs_any r, List.any_cons]; cases rR t <;> simp

/-! The numbers. -/
theorem range_ok : ∀ t, nT t ≤ 1048576 → Ev (fun f => lang_testRange.f f t) (rL t) := tree fun t ih hn => by
  rw [nT_eq] at hn
  have hlen := len_le t.fKids
  rw [rL_eq, rLs_any]
  have h := find_loop t.fKids (fun k j => lang_testRange.l0 k t.fOp t.fModulus t.fLow t.fHigh t.fKids t.fKids (llen t.fKids) (j : Int)) (fun k t => lang_testRange.f k t)
    (fun k j y => bif (!y) then some false else lang_testRange.l0 k t.fOp t.fModulus t.fLow t.fHigh t.fKids t.fKids (llen t.fKids) ((j + 1 : Nat) : Int))
    (fun _ => some (bif decide (t.fOp = 1) then num t.fModulus t.fLow t.fHigh else true)) (fun t => !rL t) (fun _ => false) (bif decide (t.fOp = 1) then num t.fModulus t.fLow t.fHigh else true)
    (fun k j h => by simp only [lang_testRange.l0, llen_eq, ilen _ _ h, cond_true, lat_lt h, Option.bind_some, eta, u0 (show j ≤ 2000000 by omega)])
    (fun k => by
      simp only [lang_testRange.l0, llen_eq, ilen', cond_false, ieq_d, num]
      cases decide (t.fOp = 1) <;> rfl)
    (Ev.now fun _ => rfl)
    (fun j h => ⟨_, ih _ (List.getElem_mem h) (by have := nT_mem (List.getElem_mem h); omega), fun k => rfl⟩)
  rw [fl_const] at h
  have e : (bif t.fKids.any fun t => !rL t then false else bif decide (t.fOp = 1) then num t.fModulus t.fLow t.fHigh else true) = ((!t.fKids.any fun t => !rL t) && bif decide (t.fOp = 1) then num t.fModulus t.fLow t.fHigh else true) := by
    cases t.fKids.any fun t => !rL t <;> rfl
  rw [e] at h
  exact Ev.step (fun k => by simp only [lang_testRange.f]; rfl) h

theorem rangeR_ok : ∀ t, nT t ≤ 1048576 → Ev (fun f => mastref2_testRange.f f t) (rR t) := tree fun t ih hn => by
  rw [nT_eq] at hn
  have hlen := len_le t.fKids
  rw [rR_eq, rRs_any]
  by_cases h1 : t.fOp = 1
  · refine Ev.step (g := fun _ => some (num t.fModulus t.fLow t.fHigh)) (fun k => ?_) (Ev.now fun _ => by simp [h1])
    simp only [mastref2_testRange.f, ieq_t h1, cond_true, num]
  · have h := find_loop t.fKids (fun k j => slices_IndexFunc_lang_Test_lang_Test_at_mastref2_testRange_c1.l0 k t.fKids (llen t.fKids) (j : Int)) (fun k t => mastref2_testRange_c1.f k t)
      (fun k j y => bif y then some (j : Int) else slices_IndexFunc_lang_Test_lang_Test_at_mastref2_testRange_c1.l0 k t.fKids (llen t.fKids) ((j + 1 : Nat) : Int))
      (fun _ => some (-1)) (fun t => !rR t) (fun j => (j : Int)) (-1)
      (fun k j h => by simp only [slices_IndexFunc_lang_Test_lang_Test_at_mastref2_testRange_c1.l0, llen_eq, ilen _ _ h, cond_true, lat_lt h, Option.bind_some, u0 (show j ≤ 2000000 by omega)])
      (fun k => by simp only [slices_IndexFunc_lang_Test_lang_Test_at_mastref2_testRange_c1.l0, llen_eq, ilen', cond_false])
      (Ev.now fun _ => rfl)
      (fun j h => ⟨!rR t.fKids[j], Ev.step (fun k => by simp only [mastref2_testRange_c1.f, eta]; rfl) (Ev.bind (ih _ (List.getElem_mem h) (by have := nT_mem (List.getElem_mem h); omega)) (Ev.now fun _ => rfl)), fun k => rfl⟩)
    have hi : Ev (fun k => slices_IndexFunc_lang_Test_lang_Test_at_mastref2_testRange_c1.f k t.fKids) _ := Ev.step (fun k => by simp only [slices_IndexFunc_lang_Test_lang_Test_at_mastref2_testRange_c1.f]; rfl) h
    have hc : Ev (fun k => slices_ContainsFunc_lang_Test_lang_Test_at_mastref2_testRange_c1.f k t.fKids) (t.fKids.any fun t => !rR t) := Ev.step (fun k => by simp only [slices_ContainsFunc_lang_Test_lang_Test_at_mastref2_testRange_c1.f]; rfl) (Ev.bind hi (Ev.now fun _ => by rw [fl_any]))
    rw [show decide (t.fOp = 1) = false by simp [h1], cond_false]
    refine Ev.step (g := fun k => (slices_ContainsFunc_lang_Test_lang_Test_at_mastref2_testRange_c1.f k t.fKids).bind fun y1 => some (!y1)) (fun k => ?_) (Ev.bind hc (Ev.now fun _ => rfl))
    simp only [mastref2_testRange.f, ieq_f h1, cond_false]

theorem tfs_mem (op : Int) : ∀ {l : List T_lang_Test}, tfs op l = true → ∀ k ∈ l, tf k = true
  | a :: l, h, k, hk => by
    simp only [tfs, Bool.and_eq_true] at h
    rcases List.mem_cons.1 hk with rfl | hk
    · exact h.1.1
    · exact tfs_mem op h.2 k hk
theorem tf_kids {t : T_lang_Test} (h : tf t = true) : ∀ k ∈ t.fKids, tf k = true := by
  rw [tf_eq] at h
  by_cases h1 : t.fOp = 1
  · rw [show decide (t.fOp = 1) = true by simp [h1], cond_true] at h
    have : t.fKids = [] := List.eq_nil_of_length_eq_zero (by simpa using h)
    rw [this]; intro k hk; cases hk
  · rw [show decide (t.fOp = 1) = false by simp [h1], cond_false, Bool.and_eq_true] at h
    exact tfs_mem _ h.2
theorem any_congr {q r : T_lang_Test → Bool} : ∀ {l : List T_lang_Test}, (∀ k ∈ l, q k = r k) → l.any q = l.any r
  | [], _ => rfl
  | a :: l, h => by rw [List.any_cons, List.any_cons, h a (List.mem_cons_self ..), any_congr fun k hk => h k (List.mem_cons_of_mem _ hk)]
theorem rL_rR : ∀ t, tf t = true → rL t = rR t := tree fun t ih h => by
  have hk : t.fKids.any (fun t => !rL t) = t.fKids.any fun t => !rR t := any_congr fun k hk => by rw [ih k hk (tf_kids h k hk)]
  rw [rL_eq, rR_eq, rLs_any, rRs_any, hk]
  by_cases h1 : t.fOp = 1
  · rw [tf_eq, show decide (t.fOp = 1) = true by simp [h1], cond_true] at h
    have : t.fKids = [] := List.eq_nil_of_length_eq_zero (by simpa using h)
    rw [this]; simp [h1]
  · simp [h1]

/-! What is wrong with a rule. -/
def pl (l : List T_lang_Test) : Int := bif l.any (fun t => decide (20 < nT t)) then 4 else bif l.any (fun t => decide (12 < lv t)) then 13 else bif l.any (fun t => !tf t) then 1 else bif l.any (fun t => !rL t) then 2 else 0

theorem faultL (l : List T_lang_Test) (hl : nTs l ≤ 1048576) : Ev (fun k => lang_ruleFault.l0 k l l (llen l) 0) (pl l) := by
  have hlen := len_le l
  have hn : ∀ (j : Nat) (h : j < l.length), nT l[j] ≤ 1048576 := fun j h => by have := nT_mem (List.getElem_mem h); omega
  have h3 := find_loop l (fun k j => lang_ruleFault.l3 k l (llen l) (j : Int)) (fun k t => lang_testRange.f k t)
    (fun k j y => bif (!y) then some 2 else lang_ruleFault.l3 k l (llen l) ((j + 1 : Nat) : Int)) (fun _ => some 0) (fun t => !rL t) (fun _ => 2) 0
    (fun k j h => by simp only [lang_ruleFault.l3, llen_eq, ilen _ _ h, cond_true, lat_lt h, Option.bind_some, eta, u0 (show j ≤ 2000000 by omega)])
    (fun k => by simp only [lang_ruleFault.l3, llen_eq, ilen', cond_false])
    (Ev.now fun _ => rfl)
    (fun j h => ⟨_, range_ok _ (hn j h), fun k => rfl⟩)
  have h2 := find_loop l (fun k j => lang_ruleFault.l2 k l l (llen l) (j : Int)) (fun k t => lang_testForm.f k t)
    (fun k j y => bif (!y) then some 1 else lang_ruleFault.l2 k l l (llen l) ((j + 1 : Nat) : Int)) (fun k => lang_ruleFault.l3 k l (llen l) 0) (fun t => !tf t) (fun _ => 1) _
    (fun k j h => by simp only [lang_ruleFault.l2, llen_eq, ilen _ _ h, cond_true, lat_lt h, Option.bind_some, eta, u0 (show j ≤ 2000000 by omega)])
    (fun k => by simp only [lang_ruleFault.l2, llen_eq, ilen', cond_false])
    h3
    (fun j h => ⟨_, form_ok _ (hn j h), fun k => rfl⟩)
  have h1 := find_loop l (fun k j => lang_ruleFault.l1 k l l (llen l) (j : Int)) (fun k t => lang_levels.f k t)
    (fun k j y => bif ilt 12 y then some 13 else lang_ruleFault.l1 k l l (llen l) ((j + 1 : Nat) : Int)) (fun k => lang_ruleFault.l2 k l l (llen l) 0) (fun t => decide (12 < lv t)) (fun _ => 13) _
    (fun k j h => by simp only [lang_ruleFault.l1, llen_eq, ilen _ _ h, cond_true, lat_lt h, Option.bind_some, eta, u0 (show j ≤ 2000000 by omega)])
    (fun k => by simp only [lang_ruleFault.l1, llen_eq, ilen', cond_false])
    h2
    (fun j h => ⟨_, levels_ok _ (hn j h), fun k => by
      by_cases c : 12 < lv l[j]
      · simp only [ilt_t (show (12 : Int) < (lv l[j] : Int) by omega), show decide (12 < lv l[j]) = true by simp [c]]
      · simp only [ilt_f (show (lv l[j] : Int) ≤ 12 by omega), show decide (12 < lv l[j]) = false by simp [c]]⟩)
  have h0 := find_loop l (fun k j => lang_ruleFault.l0 k l l (llen l) (j : Int)) (fun k t => lang_tests.f k t)
    (fun k j y => bif ilt 20 y then some 4 else lang_ruleFault.l0 k l l (llen l) ((j + 1 : Nat) : Int)) (fun k => lang_ruleFault.l1 k l l (llen l) 0) (fun t => decide (20 < nT t)) (fun _ => 4) _
    (fun k j h => by simp only [lang_ruleFault.l0, llen_eq, ilen _ _ h, cond_true, lat_lt h, Option.bind_some, eta, u0 (show j ≤ 2000000 by omega)])
    (fun k => by simp only [lang_ruleFault.l0, llen_eq, ilen', cond_false])
    h1
    (fun j h => by
      obtain ⟨r, r1, r2, r3⟩ := tests_ok _ (hn j h)
      refine ⟨_, r1, fun k => ?_⟩
      by_cases c : 20 < nT l[j]
      · simp only [ilt_t (show (20 : Int) < (r : Int) by omega), show decide (20 < nT l[j]) = true by simp [c]]
      · simp only [ilt_f (show (r : Int) ≤ 20 by omega), show decide (20 < nT l[j]) = false by simp [c]])
  rw [fl_const, fl_const, fl_const, fl_const] at h0
  exact h0

def rf : Bool → Bool → Bool → List T_lang_Test → Int
  | a, b, c, [] => bif a then 13 else bif !b then 1 else bif !c then 2 else 0
  | a, b, c, t :: r => bif decide (20 < nT t) then 4 else rf (bif a then true else decide (12 < lv t)) (b && tf t) (c && rR t) r

theorem faultR (l : List T_lang_Test) (hl : nTs l ≤ 1048576) : ∀ (d j : Nat) (a b c : Bool), l.length - j ≤ d → j ≤ l.length → Ev (fun k => mastref2_RuleFault.l0 k a b c l (llen l) (j : Int)) (rf a b c (l.drop j)) := by
  have hlen := len_le l
  have fin : ∀ (j : Nat) (a b c : Bool), l.length ≤ j → Ev (fun k => mastref2_RuleFault.l0 k a b c l (llen l) (j : Int)) (rf a b c (l.drop j)) := fun j a b c h => by
    rw [List.drop_eq_nil_of_le h]
    refine Ev.step (g := fun _ => some (rf a b c [])) (fun k => ?_) (Ev.now fun _ => rfl)
    simp only [mastref2_RuleFault.l0, llen_eq, ilt_f (show (l.length : Int) ≤ (j : Int) by omega), cond_false, rf]
    cases a <;> cases b <;> cases c <;> rfl
  intro d
  induction d with
  | zero => intro j a b c hd hj; exact fin j a b c (by omega)
  | succ d ih =>
    intro j a b c hd hj
    rcases Nat.lt_or_ge j l.length with hlt | hge
    · rw [List.drop_eq_getElem_cons hlt]
      have hn : nT l[j] ≤ 1048576 := by have := nT_mem (List.getElem_mem hlt); omega
      have hr := ih (j + 1) (bif a then true else decide (12 < lv l[j])) (b && tf l[j]) (c && rR l[j]) (by omega) hlt
      have el : ilt 12 (lv l[j] : Int) = decide (12 < lv l[j]) := by
        by_cases c : 12 < lv l[j]
        · simp only [ilt_t (show (12 : Int) < (lv l[j] : Int) by omega), show decide (12 < lv l[j]) = true by simp [c]]
        · simp only [ilt_f (show (lv l[j] : Int) ≤ 12 by omega), show decide (12 < lv l[j]) = false by simp [c]]
      simp only [rf]
      by_cases c20 : 20 < nT l[j]
      · rw [show decide (20 < nT l[j]) = true by simp [c20], cond_true]
        refine Ev.step (fun k => by simp only [mastref2_RuleFault.l0, llen_eq, ilen _ _ hlt, cond_true, lat_lt hlt, Option.bind_some, eta]; rfl) (Ev.bind (both_ok _ hn) (Ev.now fun k => ?_))
        simp only [ilt_t (show (20 : Int) < (nT l[j] : Int) by omega), cond_true]
      · rw [show decide (20 < nT l[j]) = false by simp [c20], cond_false]
        refine Ev.step (fun k => by simp only [mastref2_RuleFault.l0, llen_eq, ilen _ _ hlt, cond_true, lat_lt hlt, Option.bind_some, eta]; rfl) (Ev.bind (both_ok _ hn) ?_)
        simp only [ilt_f (show (nT l[j] : Int) ≤ 20 by omega), cond_false, el, u0 (show j ≤ 2000000 by omega)]
        cases b with
        | true =>
          simp only [cond_true]
          refine Ev.bind (formR_ok _ hn) ?_
          cases c with
          | true => simp only [cond_true]; exact Ev.bind (rangeR_ok _ hn) (by simpa [llen_eq] using hr)
          | false => simpa [llen_eq] using hr
        | false =>
          simp only [cond_false]
          cases c with
          | true => simp only [cond_true]; exact Ev.bind (rangeR_ok _ hn) (by simpa [llen_eq] using hr)
          | false => simpa [llen_eq] using hr
    · exact fin j a b c hge

theorem rf_eq : ∀ (l : List T_lang_Test) (a b c : Bool), rf a b c l = bif l.any (fun t => decide (20 < nT t)) then 4 else bif a || l.any (fun t => decide (12 < lv t)) then 13 else bif !b || l.any (fun t => !tf t) then 1 else bif !c || l.any (fun t => !rR t) then 2 else 0
  | [], a, b, c => by cases a <;> cases b <;> cases c <;> rfl
  | t :: r, a, b, c => by
    simp only [rf, rf_eq r, List.any_cons]
    cases decide (20 < nT t) <;> cases a <;> cases b <;> cases c <;> cases tf t <;> cases rR t <;> simp
theorem pl_rf (l : List T_lang_Test) : pl l = rf false true true l := by
  rw [rf_eq, pl]
  cases h : l.any fun t => !tf t with
  | true => simp
  | false =>
    have : l.any (fun t => !rL t) = l.any fun t => !rR t := any_congr fun k hk => by
      rw [rL_rR k (by
        cases e : tf k with
        | true => rfl
        | false => rw [List.any_eq_true.2 ⟨k, hk, by rw [e]; rfl⟩] at h; exact nomatch h)]
    rw [this]; simp
theorem any_f {q : T_lang_Test → Bool} {l : List T_lang_Test} (h : l.any q = false) : ∀ k ∈ l, q k = false := fun k hk => by
  cases e : q k with
  | false => rfl
  | true => rw [List.any_eq_true.2 ⟨k, hk, e⟩] at h; exact nomatch h
theorem pl_zero {l : List T_lang_Test} (h : pl l = 0) : ∀ k ∈ l, tf k = true ∧ rR k = true := by
  rw [pl_rf, rf_eq] at h
  cases h1 : l.any (fun t => decide (20 < nT t)) <;> simp only [h1, cond_true, cond_false] at h
  · cases h2 : l.any (fun t => decide (12 < lv t)) <;> simp only [h2, cond_true, cond_false, Bool.or_false, Bool.or_true] at h
    · cases h3 : l.any (fun t => !tf t) <;> simp only [h3, cond_true, cond_false, Bool.or_false, Bool.or_true, Bool.not_true] at h
      · cases h4 : l.any (fun t => !rR t) <;> simp only [h4, cond_true, cond_false, Bool.or_false, Bool.or_true, Bool.not_true] at h
        · exact fun k hk => ⟨by simpa using any_f h3 k hk, by simpa using any_f h4 k hk⟩
        · exact nomatch h
      · exact nomatch h
    · exact nomatch h
  · exact nomatch h

theorem faults (x0 : T_lang_Rule) (hl : nTs x0.fForms ≤ 1048576) : ∃ v : Int, Ev (fun k => lang_ruleFault.f k x0) v ∧ Ev (fun k => mastref2_RuleFault.f k x0) v ∧ (v = 0 → ∀ k ∈ x0.fForms, tf k = true ∧ rR k = true) := by
  have hlen := len_le x0.fForms
  by_cases h6 : 6 < x0.fForms.length
  · refine ⟨4, Ev.now fun k => ?_, Ev.now fun k => ?_, fun h => nomatch h⟩
    · simp only [lang_ruleFault.f, llen_eq, ilt_t (show (6 : Int) < (x0.fForms.length : Int) by omega), cond_true]
    · simp only [mastref2_RuleFault.f, llen_eq, ilt_t (show (6 : Int) < (x0.fForms.length : Int) by omega), cond_true]
  · refine ⟨pl x0.fForms, Ev.congr (fun k => ?_) (faultL _ hl), Ev.congr (fun k => ?_) (by have := faultR _ hl x0.fForms.length 0 false true true (by omega) (by omega); rw [List.drop_zero, ← pl_rf] at this; exact this), pl_zero⟩
    · simp only [lang_ruleFault.f, llen_eq, ilt_f (show (x0.fForms.length : Int) ≤ 6 by omega), cond_false]
    · simp only [mastref2_RuleFault.f, llen_eq, ilt_f (show (x0.fForms.length : Int) ≤ 6 by omega), cond_false]; rfl

/-! How much is held. -/
theorem nT_bulk : ∀ (D : Nat) (t : T_lang_Test), good ctx D (.st 1) t → nT t ≤ bulk ctx D (.st 1) t
  | 0, t, h => h.1.elim
  | 1, t, h => by
    have hk : t.fKids = [] := List.eq_nil_iff_forall_not_mem.2 fun k hk => h.2.2.2.2.2.2 k hk
    rw [nT_eq, hk]
    show 0 + 1 ≤ bulkH (bulk ctx 0) [(.int .i64), (.int .i64), (.int .i64), (.int .i64), (.sl (.st 1))] (t.fOp, t.fModulus, t.fLow, t.fHigh, t.fKids, ()) + 1
    omega
  | D + 2, t, h => by
    have hk : ∀ k ∈ t.fKids, nT k ≤ bulk ctx D (.st 1) k := fun k hk => nT_bulk D k (h.2.2.2.2.2.2 k hk)
    have hs : ∀ l : List T_lang_Test, (∀ k ∈ l, nT k ≤ bulk ctx D (.st 1) k) → nTs l ≤ (l.map (bulk ctx D (.st 1))).sum := by
      intro l
      induction l with
      | nil => intro _; exact Nat.zero_le _
      | cons a l ih =>
        intro h
        have h1 := h a (List.mem_cons_self ..)
        have h2 := ih fun k hk => h k (List.mem_cons_of_mem _ hk)
        simp only [nTs, List.map_cons, List.sum_cons]
        exact Nat.add_le_add h1 h2
    have := hs t.fKids hk
    rw [nT_eq]
    show _ ≤ 1 + (1 + (1 + (1 + (((t.fKids.map (bulk ctx D (.st 1))).sum + 1) + 0)))) + 1
    omega
theorem nTs_bulk : ∀ (D : Nat) (x : T_lang_Rule), good ctx D (.st 0) x → nTs x.fForms ≤ bulk ctx D (.st 0) x
  | 0, x, h => h.elim
  | 1, x, h => by
    have hk : x.fForms = [] := List.eq_nil_iff_forall_not_mem.2 fun k hk => h.2.2 k hk
    rw [hk]; exact Nat.zero_le _
  | D + 2, x, h => by
    have hk : ∀ k ∈ x.fForms, nT k ≤ bulk ctx D (.st 1) k := fun k hk => nT_bulk D k (h.2.2 k hk)
    have hs : ∀ l : List T_lang_Test, (∀ k ∈ l, nT k ≤ bulk ctx D (.st 1) k) → nTs l ≤ (l.map (bulk ctx D (.st 1))).sum := by
      intro l
      induction l with
      | nil => intro _; exact Nat.zero_le _
      | cons a l ih =>
        intro h
        have h1 := h a (List.mem_cons_self ..)
        have h2 := ih fun k hk => h k (List.mem_cons_of_mem _ hk)
        simp only [nTs, List.map_cons, List.sum_cons]
        exact Nat.add_le_add h1 h2
    have := hs x.fForms hk
    show _ ≤ (((x.fForms.map (bulk ctx D (.st 1))).sum + 1) + 0) + 1
    omega

theorem rR_kids {t : T_lang_Test} (h : rR t = true) (h1 : ¬ t.fOp = 1) : ∀ k ∈ t.fKids, rR k = true := by
  rw [rR_eq, show decide (t.fOp = 1) = false by simp [h1], cond_false, rRs_any] at h
  intro k hk
  cases e : rR k with
  | true => rfl
  | false => rw [List.any_eq_true.2 ⟨k, hk, by rw [e]; rfl⟩] at h; exact nomatch h
theorem ops {t : T_lang_Test} (h : tf t = true) (h1 : ¬ t.fOp = 1) : t.fOp = 2 ∨ t.fOp = 3 ∨ t.fOp = 4 := by
  rw [tf_eq, show decide (t.fOp = 1) = false by simp [h1], cond_false, Bool.and_eq_true, Bool.and_eq_true] at h
  have := h.1.1
  unfold okN at this
  simp only [Bool.or_eq_true, Bool.and_eq_true, decide_eq_true_eq] at this
  omega
theorem modu {m lo hi : Int} (h : num m lo hi = true) : m = 0 ∨ 2 ≤ m ∧ m ≤ 1000000 := by
  unfold num at h
  rw [ieq_d] at h
  by_cases h0 : m = 0
  · exact .inl h0
  · refine .inr ?_
    simp only [h0, decide_false, cond_false] at h
    by_cases a : 2 ≤ m
    · by_cases b : m ≤ 1000000
      · exact ⟨a, b⟩
      · rw [ile_t a, ile_f (show (1000000 : Int) < m by omega)] at h; exact nomatch h
    · rw [ile_f (show m < 2 by omega)] at h; exact nomatch h

/-! The text of a test. -/
theorem scat_ok {a b : ByteArray} (h : a.size + b.size ≤ 4611686018427387904) : scat a b = some (a ++ b) := by
  unfold scat; rw [if_pos (by omega)]
def it (n : Int) : ByteArray := ⟨(Lib.itoa n).toArray⟩
theorem itoa_ok (n : Int) (h : -9223372036854775808 ≤ n ∧ n ≤ 9223372036854775807) : strconv_Itoa.f n = some (it n) := by
  unfold strconv_Itoa.f; rw [if_pos h]; rfl
theorem it_len (n : Int) (h : -9223372036854775808 ≤ n ∧ n ≤ 9223372036854775807) : (it n).size ≤ 21 := by
  have := Lib.itoa_length_le n h.1 h.2
  show (Lib.itoa n).toArray.size ≤ 21
  simpa using this
def jn (l : List ByteArray) (sep : ByteArray) : ByteArray := ⟨(Lib.join (l.map (·.data.toList)) sep.data.toList).toArray⟩
def tot (d : Nat) : List ByteArray → Nat
  | [] => 0
  | a :: r => a.size + d + tot d r
theorem tail_len (d : List UInt8) : ∀ l : List ByteArray, (Lib.joinTail d (l.map (·.data.toList))).length = tot d.length l
  | [] => rfl
  | a :: r => by
    have := tail_len d r
    simp only [Lib.joinTail, List.map_cons, List.flatten_cons, List.length_append, tot] at this ⊢
    rw [this, size_l]; omega
theorem jn_len (l : List ByteArray) (sep : ByteArray) : (jn l sep).size ≤ tot sep.size l := by
  show (Lib.join (l.map (·.data.toList)) sep.data.toList).toArray.size ≤ _
  rw [List.size_toArray]
  cases l with
  | nil => simp [Lib.join_nil]
  | cons a r =>
    rw [List.map_cons, Lib.join_cons, List.length_append, tail_len, size_l sep]
    simp only [tot]
    rw [size_l a]; omega
theorem tot_len (d : Nat) : ∀ l : List ByteArray, l.length * d ≤ tot d l
  | [] => by simp [tot]
  | a :: r => by
    have := tot_len d r
    simp only [tot, List.length_cons, Nat.succ_mul]; omega
theorem join_ok (l : List ByteArray) (sep : ByteArray) (h1 : tot sep.size l ≤ 140737488355328) (h2 : l.length ≤ 140737488355328) : strings_Join.f l sep = some (jn l sep) := by
  unfold strings_Join.f joinF
  have := jn_len l sep
  have e : (jn l sep).size = (Lib.join (l.map (·.data.toList)) sep.data.toList).length := by
    show (Lib.join (l.map (·.data.toList)) sep.data.toList).toArray.size = _
    rw [List.size_toArray]
  rw [if_pos ⟨by omega, h2⟩]; rfl

def leaf (m lo hi : Int) : ByteArray :=
  bif !ieq hi lo then (bif ieq m 0 then c_n else c_n ++ (c__25 ++ it m)) ++ (c__3d ++ it lo) ++ (c__2e_2e ++ it hi) else (bif ieq m 0 then c_n else c_n ++ (c__25 ++ it m)) ++ (c__3d ++ it lo)
mutual
def tx : T_lang_Test → ByteArray
  | ⟨op, m, lo, hi, ks⟩ => bif ieq op 1 then leaf m lo hi else bif ieq op 2 then jn (txs op ks) c__20_26_20 else bif ieq op 3 then jn (txs op ks) c__20_7c_20 else c__21_28 ++ jn (txs op ks) c__20_7c_20 ++ c__29
def txs (op : Int) : List T_lang_Test → List ByteArray
  | [] => []
  | t :: r => (bif ieq t.fOp 3 && !ieq op 3 then c__28 ++ tx t ++ c__29 else tx t) :: txs op r
end
def wr (op : Int) (t : T_lang_Test) : ByteArray := bif ieq t.fOp 3 && !ieq op 3 then c__28 ++ tx t ++ c__29 else tx t
theorem txs_map (op : Int) : ∀ l, txs op l = l.map (wr op)
  | [] => rfl
  | t :: r => by simp only [txs, List.map_cons, txs_map op r, wr]
theorem tx_eq (t : T_lang_Test) : tx t = bif ieq t.fOp 1 then leaf t.fModulus t.fLow t.fHigh else bif ieq t.fOp 2 then jn (t.fKids.map (wr t.fOp)) c__20_26_20 else bif ieq t.fOp 3 then jn (t.fKids.map (wr t.fOp)) c__20_7c_20 else c__21_28 ++ jn (t.fKids.map (wr t.fOp)) c__20_7c_20 ++ c__29 := by
  cases t; simp only [tx, txs_map]
theorem nums {m lo hi : Int} (h : num m lo hi = true) : (0 ≤ m ∧ m ≤ 1000000) ∧ (0 ≤ lo ∧ lo ≤ 1000000000) ∧ 0 ≤ hi ∧ hi ≤ 1000000000 := by
  have hm := modu h
  unfold num at h
  by_cases a : 0 ≤ lo
  · by_cases b : lo ≤ hi
    · by_cases c : hi ≤ 1000000000
      · omega
      · rw [ile_f (show (1000000000 : Int) < hi by omega)] at h
        exact absurd h (by simp)
    · rw [ile_f (show hi < lo by omega)] at h
      exact absurd h (by simp)
  · rw [ile_f (show lo < 0 by omega)] at h
    exact absurd h (by simp)
theorem leaf_len {m lo hi : Int} (h : num m lo hi = true) : (leaf m lo hi).size ≤ 90 := by
  have hh := nums h
  have h1 := it_len m (by omega)
  have h2 := it_len lo (by omega)
  have h3 := it_len hi (by omega)
  have c1 : c_n.size = 1 := rfl
  have c2 : c__25.size = 1 := rfl
  have c3 : c__3d.size = 1 := rfl
  have c4 : c__2e_2e.size = 2 := rfl
  have hx : (bif ieq m 0 then c_n else c_n ++ (c__25 ++ it m)).size ≤ 23 := by
    cases ieq m 0 with
    | true => simp only [cond_true]; omega
    | false => simp only [cond_false, ByteArray.size_append]; omega
  unfold leaf
  cases ieq hi lo with
  | true => simp only [Bool.not_true, cond_false, ByteArray.size_append]; omega
  | false => simp only [Bool.not_false, cond_true, ByteArray.size_append]; omega
theorem wr_len (op : Int) (t : T_lang_Test) : (wr op t).size ≤ (tx t).size + 2 := by
  have c1 : c__28.size = 1 := rfl
  have c2 : c__29.size = 1 := rfl
  unfold wr
  cases (ieq t.fOp 3 && !ieq op 3) with
  | true => simp only [cond_true, ByteArray.size_append]; omega
  | false => simp only [cond_false]; omega
theorem tx_len : ∀ t, tf t = true → rR t = true → (tx t).size + 10 ≤ 100 * nT t := tree fun t ih ht hr => by
  rw [tx_eq, nT_eq]
  by_cases h1 : t.fOp = 1
  · rw [ieq_t h1, cond_true]
    rw [rR_eq, show decide (t.fOp = 1) = true by simp [h1], cond_true] at hr
    have := leaf_len hr
    omega
  · have hk := fun k hk => ih k hk (tf_kids ht k hk) (rR_kids hr h1 k hk)
    have ht : ∀ l : List T_lang_Test, (∀ k ∈ l, (tx k).size + 10 ≤ 100 * nT k) → tot 3 (l.map (wr t.fOp)) ≤ 100 * nTs l := by
      intro l
      induction l with
      | nil => intro _; exact Nat.zero_le _
      | cons a l ihl =>
        intro h
        have h1 := h a (List.mem_cons_self ..)
        have h2 := ihl fun k hk => h k (List.mem_cons_of_mem _ hk)
        have h3 := wr_len t.fOp a
        simp only [List.map_cons, tot, nTs]; omega
    have h2 := ht t.fKids hk
    have j1 := jn_len (t.fKids.map (wr t.fOp)) c__20_26_20
    have j2 := jn_len (t.fKids.map (wr t.fOp)) c__20_7c_20
    rw [show c__20_26_20.size = 3 from rfl] at j1
    rw [show c__20_7c_20.size = 3 from rfl] at j2
    have c1 : c__21_28.size = 2 := rfl
    have c2 : c__29.size = 1 := rfl
    rw [ieq_f h1, cond_false]
    cases ieq t.fOp 2 with
    | true => simp only [cond_true]; omega
    | false =>
      cases ieq t.fOp 3 with
      | true => simp only [cond_true, cond_false]; omega
      | false => simp only [cond_false, ByteArray.size_append]; omega
theorem tot_wr (op : Int) : ∀ l : List T_lang_Test, (∀ k ∈ l, tf k = true ∧ rR k = true) → tot 3 (l.map (wr op)) ≤ 100 * nTs l
  | [], _ => Nat.zero_le _
  | a :: l, h => by
    have h1 := tx_len a (h a (List.mem_cons_self ..)).1 (h a (List.mem_cons_self ..)).2
    have h2 := tot_wr op l fun k hk => h k (List.mem_cons_of_mem _ hk)
    have h3 := wr_len op a
    simp only [List.map_cons, tot, nTs]; omega
theorem tot_tx (d : Nat) (hd : d ≤ 3) : ∀ l : List T_lang_Test, (∀ k ∈ l, tf k = true ∧ rR k = true) → tot d (l.map tx) ≤ 100 * nTs l
  | [], _ => Nat.zero_le _
  | a :: l, h => by
    have h1 := tx_len a (h a (List.mem_cons_self ..)).1 (h a (List.mem_cons_self ..)).2
    have h2 := tot_tx d hd l fun k hk => h k (List.mem_cons_of_mem _ hk)
    simp only [List.map_cons, tot, nTs]; omega

theorem kids_lang (sep : ByteArray) (h3 : sep.size = 3) (t : T_lang_Test) (hn : nTs t.fKids ≤ 1048576) (hg : ∀ k ∈ t.fKids, tf k = true ∧ rR k = true) (ih : ∀ k ∈ t.fKids, Ev (fun f => lang_testText.f f k) (tx k)) :
    Ev (fun k => lang_testText_c1.f k sep t.fOp t.fModulus t.fLow t.fHigh t.fKids) (jn (t.fKids.map (wr t.fOp)) sep, t.fOp, t.fModulus, t.fLow, t.fHigh, t.fKids, ()) := by
  have hlen := len_le t.fKids
  have tw := tot_wr t.fOp t.fKids hg
  have hj : strings_Join.f (t.fKids.map (wr t.fOp)) sep = some (jn (t.fKids.map (wr t.fOp)) sep) := join_ok _ _ (by rw [h3]; omega) (by rw [List.length_map]; omega)
  have q := map_loop t.fKids (wr t.fOp) (fun k acc j => lang_testText_c1.l0 k sep t.fOp t.fModulus t.fLow t.fHigh t.fKids acc t.fKids (llen t.fKids) (j : Int)) (fun k t => lang_testText.f k t)
    (fun k j y2 => bif (bif (ieq (t.fKids[j]?.getD default).fOp 3) then (!ieq t.fOp 3) else false) then ((scat c__28 y2).bind fun y3 => ((scat y3 c__29).bind fun y4 => (lang_testText_c1.l1 k sep t.fOp t.fModulus t.fLow t.fHigh t.fKids ((t.fKids.take j).map (wr t.fOp)) y4 t.fKids (llen t.fKids) (j : Int)))) else (lang_testText_c1.l1 k sep t.fOp t.fModulus t.fLow t.fHigh t.fKids ((t.fKids.take j).map (wr t.fOp)) y2 t.fKids (llen t.fKids) (j : Int)))
    (fun _ => some (jn (t.fKids.map (wr t.fOp)) sep, t.fOp, t.fModulus, t.fLow, t.fHigh, t.fKids, ())) (jn (t.fKids.map (wr t.fOp)) sep, t.fOp, t.fModulus, t.fLow, t.fHigh, t.fKids, ())
    (fun k j h => by simp only [lang_testText_c1.l0, llen_eq, Go.Proofs.YtdffbjbpolhliaaDoor.Lift.ilen _ _ h, cond_true, lat_lt h, Option.bind_some, eta, List.getElem?_eq_getElem h, Option.getD_some])
    (fun k => by simp only [lang_testText_c1.l0, llen_eq, Go.Proofs.YtdffbjbpolhliaaDoor.Lift.ilen', cond_false, hj, Option.bind_some]) (Ev.now fun _ => rfl)
    (fun j h => by
      refine ⟨_, ih _ (List.getElem_mem h), fun v hv => ?_⟩
      have hm := tx_len t.fKids[j] (hg _ (List.getElem_mem h)).1 (hg _ (List.getElem_mem h)).2
      have hnm := nT_mem (List.getElem_mem h)
      have c1 : c__28.size = 1 := rfl
      have c2 : c__29.size = 1 := rfl
      have l1 : Ev (fun k => lang_testText_c1.l1 k sep t.fOp t.fModulus t.fLow t.fHigh t.fKids ((t.fKids.take j).map (wr t.fOp)) (wr t.fOp t.fKids[j]) t.fKids (llen t.fKids) (j : Int)) v := by
        have hap : lapp 16 ((t.fKids.take j).map (wr t.fOp)) [wr t.fOp t.fKids[j]] = some ((t.fKids.take (j + 1)).map (wr t.fOp)) := by
          rw [take_map h]
          exact lapp_ok (by simp only [List.length_map, List.length_take, List.length_singleton]; omega) (by simp only [List.length_map, List.length_take, List.length_singleton]; omega)
        exact Ev.step (fun k => by simp only [lang_testText_c1.l1, hap, Option.bind_some, u0 (show j ≤ 2000000 by omega)]) hv
      have et : (bif (ieq t.fKids[j].fOp 3) then (!ieq t.fOp 3) else false) = (ieq t.fKids[j].fOp 3 && !ieq t.fOp 3) := by cases ieq t.fKids[j].fOp 3 <;> rfl
      simp only [List.getElem?_eq_getElem h, Option.getD_some]
      rw [et]
      unfold wr at l1
      cases hc : (ieq t.fKids[j].fOp 3 && !ieq t.fOp 3) with
      | true =>
        rw [hc] at l1
        have s1 : scat c__28 (tx t.fKids[j]) = some (c__28 ++ tx t.fKids[j]) := scat_ok (by omega)
        have z1 : (c__28 ++ tx t.fKids[j]).size = 1 + (tx t.fKids[j]).size := by rw [ByteArray.size_append, c1]
        have s2 : scat (c__28 ++ tx t.fKids[j]) c__29 = some (c__28 ++ tx t.fKids[j] ++ c__29) := scat_ok (by omega)
        simp only [cond_true, s1, s2, Option.bind_some]
        exact l1
      | false =>
        rw [hc] at l1
        exact l1)
  exact Ev.step (fun k => by simp only [lang_testText_c1.f]; rfl) q

theorem kids_ref (sep : ByteArray) (b : Bool) (h3 : sep.size = 3) (t : T_lang_Test) (hb : b = !ieq t.fOp 3) (hn : nTs t.fKids ≤ 1048576) (hg : ∀ k ∈ t.fKids, tf k = true ∧ rR k = true) (ih : ∀ k ∈ t.fKids, Ev (fun f => mastref2_testString.f f k) (tx k)) :
    Ev (fun k => mastref2_testString_c1.f k sep b t.fOp t.fModulus t.fLow t.fHigh t.fKids) (jn (t.fKids.map (wr t.fOp)) sep, t.fOp, t.fModulus, t.fLow, t.fHigh, t.fKids, ()) := by
  have hlen := len_le t.fKids
  have tw := tot_wr t.fOp t.fKids hg
  have hj : strings_Join.f (t.fKids.map (wr t.fOp)) sep = some (jn (t.fKids.map (wr t.fOp)) sep) := join_ok _ _ (by rw [h3]; omega) (by rw [List.length_map]; omega)
  have q := map_loop t.fKids (wr t.fOp) (fun k acc j => mastref2_testString_c1.l0 k sep b t.fOp t.fModulus t.fLow t.fHigh t.fKids acc t.fKids (llen t.fKids) (j : Int)) (fun k t => mastref2_testString.f k t)
    (fun k j y2 => bif (bif b then (ieq (t.fKids[j]?.getD default).fOp 3) else false) then ((scat c__28 y2).bind fun y3 => ((scat y3 c__29).bind fun y4 => (mastref2_testString_c1.l1 k sep b t.fOp t.fModulus t.fLow t.fHigh t.fKids ((t.fKids.take j).map (wr t.fOp)) y4 t.fKids (llen t.fKids) (j : Int)))) else (mastref2_testString_c1.l1 k sep b t.fOp t.fModulus t.fLow t.fHigh t.fKids ((t.fKids.take j).map (wr t.fOp)) y2 t.fKids (llen t.fKids) (j : Int)))
    (fun _ => some (jn (t.fKids.map (wr t.fOp)) sep, t.fOp, t.fModulus, t.fLow, t.fHigh, t.fKids, ())) (jn (t.fKids.map (wr t.fOp)) sep, t.fOp, t.fModulus, t.fLow, t.fHigh, t.fKids, ())
    (fun k j h => by simp only [mastref2_testString_c1.l0, llen_eq, Go.Proofs.YtdffbjbpolhliaaDoor.Lift.ilen _ _ h, cond_true, lat_lt h, Option.bind_some, eta, List.getElem?_eq_getElem h, Option.getD_some])
    (fun k => by simp only [mastref2_testString_c1.l0, llen_eq, Go.Proofs.YtdffbjbpolhliaaDoor.Lift.ilen', cond_false, hj, Option.bind_some]) (Ev.now fun _ => rfl)
    (fun j h => by
      refine ⟨_, ih _ (List.getElem_mem h), fun v hv => ?_⟩
      have hm := tx_len t.fKids[j] (hg _ (List.getElem_mem h)).1 (hg _ (List.getElem_mem h)).2
      have hnm := nT_mem (List.getElem_mem h)
      have c1 : c__28.size = 1 := rfl
      have c2 : c__29.size = 1 := rfl
      have l1 : Ev (fun k => mastref2_testString_c1.l1 k sep b t.fOp t.fModulus t.fLow t.fHigh t.fKids ((t.fKids.take j).map (wr t.fOp)) (wr t.fOp t.fKids[j]) t.fKids (llen t.fKids) (j : Int)) v := by
        have hap : lapp 16 ((t.fKids.take j).map (wr t.fOp)) [wr t.fOp t.fKids[j]] = some ((t.fKids.take (j + 1)).map (wr t.fOp)) := by
          rw [take_map h]
          exact lapp_ok (by simp only [List.length_map, List.length_take, List.length_singleton]; omega) (by simp only [List.length_map, List.length_take, List.length_singleton]; omega)
        exact Ev.step (fun k => by simp only [mastref2_testString_c1.l1, hap, Option.bind_some, u0 (show j ≤ 2000000 by omega)]) hv
      have et : (bif b then (ieq t.fKids[j].fOp 3) else false) = (ieq t.fKids[j].fOp 3 && !ieq t.fOp 3) := by rw [hb]; cases ieq t.fKids[j].fOp 3 <;> cases ieq t.fOp 3 <;> rfl
      simp only [List.getElem?_eq_getElem h, Option.getD_some]
      rw [et]
      unfold wr at l1
      cases hc : (ieq t.fKids[j].fOp 3 && !ieq t.fOp 3) with
      | true =>
        rw [hc] at l1
        have s1 : scat c__28 (tx t.fKids[j]) = some (c__28 ++ tx t.fKids[j]) := scat_ok (by omega)
        have z1 : (c__28 ++ tx t.fKids[j]).size = 1 + (tx t.fKids[j]).size := by rw [ByteArray.size_append, c1]
        have s2 : scat (c__28 ++ tx t.fKids[j]) c__29 = some (c__28 ++ tx t.fKids[j] ++ c__29) := scat_ok (by omega)
        simp only [cond_true, s1, s2, Option.bind_some]
        exact l1
      | false =>
        rw [hc] at l1
        exact l1)
  exact Ev.step (fun k => by simp only [mastref2_testString_c1.f]; rfl) q


theorem leaf_gen (F : Nat → ByteArray → Option ByteArray) (m lo hi : Int) (x : ByteArray) (hx : x.size ≤ 100) (h : num m lo hi = true)
    (hF : ∀ k, F (k + 1) x = ((strconv_Itoa.f lo).bind fun y9 => ((scat c__3d y9).bind fun y10 => ((scat x y10).bind fun y11 => (bif (!ieq hi lo) then ((strconv_Itoa.f hi).bind fun y12 => ((scat c__2e_2e y12).bind fun y13 => ((scat y11 y13).bind fun y14 => (some y14)))) else (some y11)))))) :
    Ev (fun k => F k x) (bif !ieq hi lo then x ++ (c__3d ++ it lo) ++ (c__2e_2e ++ it hi) else x ++ (c__3d ++ it lo)) := by
  have hh := nums h
  have h2 := it_len lo (by omega)
  have h3 := it_len hi (by omega)
  have c3 : c__3d.size = 1 := rfl
  have c4 : c__2e_2e.size = 2 := rfl
  have s1 : scat c__3d (it lo) = some (c__3d ++ it lo) := scat_ok (by omega)
  have z1 : (c__3d ++ it lo).size = 1 + (it lo).size := by rw [ByteArray.size_append, c3]
  have s2 : scat x (c__3d ++ it lo) = some (x ++ (c__3d ++ it lo)) := scat_ok (by omega)
  have z2 : (x ++ (c__3d ++ it lo)).size = x.size + (c__3d ++ it lo).size := ByteArray.size_append
  have s3 : scat c__2e_2e (it hi) = some (c__2e_2e ++ it hi) := scat_ok (by omega)
  have z3 : (c__2e_2e ++ it hi).size = 2 + (it hi).size := by rw [ByteArray.size_append, c4]
  have s4 : scat (x ++ (c__3d ++ it lo)) (c__2e_2e ++ it hi) = some (x ++ (c__3d ++ it lo) ++ (c__2e_2e ++ it hi)) := scat_ok (by omega)
  refine Ev.step (g := fun _ => some (bif !ieq hi lo then x ++ (c__3d ++ it lo) ++ (c__2e_2e ++ it hi) else x ++ (c__3d ++ it lo))) (fun k => ?_) (Ev.now fun _ => rfl)
  rw [hF]
  simp only [itoa_ok lo (by omega), itoa_ok hi (by omega), Option.bind_some, s1, s2, s3, s4]
  cases ieq hi lo <;> rfl
theorem mod_ok {m : Int} (h : 0 ≤ m ∧ m ≤ 1000000) : ((strconv_Itoa.f m).bind fun y6 => ((scat c__25 y6).bind fun y7 => scat c_n y7)) = some (c_n ++ (c__25 ++ it m)) := by
  have h1 := it_len m (by omega)
  have c1 : c_n.size = 1 := rfl
  have c2 : c__25.size = 1 := rfl
  have s1 : scat c__25 (it m) = some (c__25 ++ it m) := scat_ok (by omega)
  have z1 : (c__25 ++ it m).size = 1 + (it m).size := by rw [ByteArray.size_append, c2]
  have s2 : scat c_n (c__25 ++ it m) = some (c_n ++ (c__25 ++ it m)) := scat_ok (by omega)
  rw [itoa_ok m (by omega)]
  simp only [Option.bind_some, s1, s2]

theorem tx_ok : ∀ t, nT t ≤ 1048576 → tf t = true → rR t = true → Ev (fun f => lang_testText.f f t) (tx t) := tree fun t ih hn ht hr => by
  rw [nT_eq] at hn
  rw [tx_eq]
  by_cases h1 : t.fOp = 1
  · rw [rR_eq, show decide (t.fOp = 1) = true by simp [h1], cond_true] at hr
    rw [ieq_t h1, cond_true]
    have hh := nums hr
    have e1 : ∀ k, lang_testText.f (k + 1) t = bif !ieq t.fModulus 0 then ((strconv_Itoa.f t.fModulus).bind fun y6 => ((scat c__25 y6).bind fun y7 => scat c_n y7)).bind fun y8 => lang_testText.l0 k t.fOp t.fModulus t.fLow t.fHigh t.fKids y8 else lang_testText.l0 k t.fOp t.fModulus t.fLow t.fHigh t.fKids c_n := fun k => by
      simp only [lang_testText.f, ieq_f (show ¬ t.fOp = 2 by omega), ieq_f (show ¬ t.fOp = 3 by omega), ieq_f (show ¬ t.fOp = 4 by omega), cond_false, Option.bind_assoc]
    have c1 : c_n.size = 1 := rfl
    have c2 : c__25.size = 1 := rfl
    have i1 := it_len t.fModulus (by omega)
    unfold leaf
    cases hm : ieq t.fModulus 0 with
    | true => exact Ev.step (fun k => by rw [e1, hm]; rfl) (leaf_gen (fun k x => lang_testText.l0 k t.fOp t.fModulus t.fLow t.fHigh t.fKids x) t.fModulus t.fLow t.fHigh c_n (by omega) hr (fun k => by simp only [lang_testText.l0]))
    | false => exact Ev.step (fun k => by rw [e1, hm, mod_ok hh.1]; rfl) (leaf_gen (fun k x => lang_testText.l0 k t.fOp t.fModulus t.fLow t.fHigh t.fKids x) t.fModulus t.fLow t.fHigh (c_n ++ (c__25 ++ it t.fModulus)) (by rw [ByteArray.size_append, ByteArray.size_append]; omega) hr (fun k => by simp only [lang_testText.l0]))
  · have hg := fun k hk => (⟨tf_kids ht k hk, rR_kids hr h1 k hk⟩ : tf k = true ∧ rR k = true)
    have hk := fun k hk => ih k hk (by have := nT_mem hk; omega) (hg k hk).1 (hg k hk).2
    have h := ops ht h1
    rw [ieq_f h1, cond_false]
    by_cases h2 : t.fOp = 2
    · rw [ieq_t h2, cond_true]
      exact Ev.step (fun k => by simp only [lang_testText.f, ieq_t h2, cond_true]; rfl) (Ev.bind (kids_lang c__20_26_20 rfl t (by omega) hg hk) (Ev.now fun _ => rfl))
    · rw [ieq_f h2, cond_false]
      by_cases h3 : t.fOp = 3
      · rw [ieq_t h3, cond_true]
        exact Ev.step (fun k => by simp only [lang_testText.f, ieq_f h2, ieq_t h3, cond_true, cond_false]; rfl) (Ev.bind (kids_lang c__20_7c_20 rfl t (by omega) hg hk) (Ev.now fun _ => rfl))
      · rw [ieq_f h3, cond_false]
        have j2 := jn_len (t.fKids.map (wr t.fOp)) c__20_7c_20
        rw [show c__20_7c_20.size = 3 from rfl] at j2
        have tw := tot_wr t.fOp t.fKids hg
        have c1 : c__21_28.size = 2 := rfl
        have c2 : c__29.size = 1 := rfl
        have s1 : scat c__21_28 (jn (t.fKids.map (wr t.fOp)) c__20_7c_20) = some (c__21_28 ++ jn (t.fKids.map (wr t.fOp)) c__20_7c_20) := scat_ok (by omega)
        have z1 : (c__21_28 ++ jn (t.fKids.map (wr t.fOp)) c__20_7c_20).size = 2 + (jn (t.fKids.map (wr t.fOp)) c__20_7c_20).size := by rw [ByteArray.size_append, c1]
        have s2 : scat (c__21_28 ++ jn (t.fKids.map (wr t.fOp)) c__20_7c_20) c__29 = some (c__21_28 ++ jn (t.fKids.map (wr t.fOp)) c__20_7c_20 ++ c__29) := scat_ok (by omega)
        exact Ev.step (fun k => by simp only [lang_testText.f, ieq_f h2, ieq_f h3, ieq_t (show t.fOp = 4 by omega), cond_true, cond_false]; rfl) (Ev.bind (kids_lang c__20_7c_20 rfl t (by omega) hg hk) (Ev.now fun _ => by simp only [s1, s2, Option.bind_some]))

theorem txR_ok : ∀ t, nT t ≤ 1048576 → tf t = true → rR t = true → Ev (fun f => mastref2_testString.f f t) (tx t) := tree fun t ih hn ht hr => by
  rw [nT_eq] at hn
  rw [tx_eq]
  by_cases h1 : t.fOp = 1
  · rw [rR_eq, show decide (t.fOp = 1) = true by simp [h1], cond_true] at hr
    rw [ieq_t h1, cond_true]
    have hh := nums hr
    have e1 : ∀ k, mastref2_testString.f (k + 1) t = bif ilt 0 t.fModulus then ((strconv_Itoa.f t.fModulus).bind fun y6 => ((scat c__25 y6).bind fun y7 => scat c_n y7)).bind fun y8 => mastref2_testString.l0 k t.fOp t.fModulus t.fLow t.fHigh t.fKids y8 else mastref2_testString.l0 k t.fOp t.fModulus t.fLow t.fHigh t.fKids c_n := fun k => by
      simp only [mastref2_testString.f, ieq_t h1, cond_true, Option.bind_assoc]
    have c1 : c_n.size = 1 := rfl
    have c2 : c__25.size = 1 := rfl
    have i1 := it_len t.fModulus (by omega)
    unfold leaf
    by_cases hm : t.fModulus = 0
    · rw [ieq_t hm]
      exact Ev.step (fun k => by rw [e1, ilt_f (show t.fModulus ≤ 0 by omega)]; rfl) (leaf_gen (fun k x => mastref2_testString.l0 k t.fOp t.fModulus t.fLow t.fHigh t.fKids x) t.fModulus t.fLow t.fHigh c_n (by omega) hr (fun k => by simp only [mastref2_testString.l0]))
    · rw [ieq_f hm]
      exact Ev.step (fun k => by rw [e1, ilt_t (show 0 < t.fModulus by omega), mod_ok hh.1]; rfl) (leaf_gen (fun k x => mastref2_testString.l0 k t.fOp t.fModulus t.fLow t.fHigh t.fKids x) t.fModulus t.fLow t.fHigh (c_n ++ (c__25 ++ it t.fModulus)) (by rw [ByteArray.size_append, ByteArray.size_append]; omega) hr (fun k => by simp only [mastref2_testString.l0]))
  · have hg := fun k hk => (⟨tf_kids ht k hk, rR_kids hr h1 k hk⟩ : tf k = true ∧ rR k = true)
    have hk := fun k hk => ih k hk (by have := nT_mem hk; omega) (hg k hk).1 (hg k hk).2
    have h := ops ht h1
    rw [ieq_f h1, cond_false]
    by_cases h2 : t.fOp = 2
    · rw [ieq_t h2, cond_true]
      exact Ev.step (fun k => by simp only [mastref2_testString.f, ieq_f h1, ieq_t h2, cond_true, cond_false]; rfl) (Ev.bind (kids_ref c__20_26_20 true rfl t (by rw [ieq_f (show ¬ t.fOp = 3 by omega)]; rfl) (by omega) hg hk) (Ev.now fun _ => rfl))
    · rw [ieq_f h2, cond_false]
      by_cases h3 : t.fOp = 3
      · rw [ieq_t h3, cond_true]
        exact Ev.step (fun k => by simp only [mastref2_testString.f, ieq_f h1, ieq_f h2, ieq_t h3, cond_true, cond_false]; rfl) (Ev.bind (kids_ref c__20_7c_20 false rfl t (by rw [ieq_t h3]; rfl) (by omega) hg hk) (Ev.now fun _ => rfl))
      · rw [ieq_f h3, cond_false]
        have j2 := jn_len (t.fKids.map (wr t.fOp)) c__20_7c_20
        rw [show c__20_7c_20.size = 3 from rfl] at j2
        have tw := tot_wr t.fOp t.fKids hg
        have c1 : c__21_28.size = 2 := rfl
        have c2 : c__29.size = 1 := rfl
        have s1 : scat c__21_28 (jn (t.fKids.map (wr t.fOp)) c__20_7c_20) = some (c__21_28 ++ jn (t.fKids.map (wr t.fOp)) c__20_7c_20) := scat_ok (by omega)
        have z1 : (c__21_28 ++ jn (t.fKids.map (wr t.fOp)) c__20_7c_20).size = 2 + (jn (t.fKids.map (wr t.fOp)) c__20_7c_20).size := by rw [ByteArray.size_append, c1]
        have s2 : scat (c__21_28 ++ jn (t.fKids.map (wr t.fOp)) c__20_7c_20) c__29 = some (c__21_28 ++ jn (t.fKids.map (wr t.fOp)) c__20_7c_20 ++ c__29) := scat_ok (by omega)
        exact Ev.step (fun k => by simp only [mastref2_testString.f, ieq_f h1, ieq_f h2, ieq_f h3, cond_true, cond_false]; rfl) (Ev.bind (kids_ref c__20_7c_20 true rfl t (by rw [ieq_f h3]; rfl) (by omega) hg hk) (Ev.now fun _ => by simp only [s1, s2, Option.bind_some]))

/-! The text of a rule. -/
theorem rule_gen {γ : Type} (l : List T_lang_Test) (hl : nTs l ≤ 1048576) (hg : ∀ k ∈ l, tf k = true ∧ rR k = true) (L : Nat → List ByteArray → Nat → Option γ) (G : Nat → T_lang_Test → Option ByteArray) (hG : ∀ t, nT t ≤ 1048576 → tf t = true → rR t = true → Ev (fun f => G f t) (tx t)) (E : ByteArray → Option γ) (fin : γ)
    (hs : ∀ (k j : Nat) (h : j < l.length) (acc : List ByteArray), L (k + 1) acc j = (G k l[j]).bind fun y3 => (lapp 16 acc [y3]).bind fun y4 => L k y4 (j + 1))
    (he : ∀ k acc, L (k + 1) acc l.length = (strings_Join.f acc c__3b_20).bind E) (hE : E (jn (l.map tx) c__3b_20) = some fin) : Ev (fun k => L k [] 0) fin := by
  have hlen := len_le l
  have ht := tot_tx 2 (by omega) l hg
  have hj : strings_Join.f (l.map tx) c__3b_20 = some (jn (l.map tx) c__3b_20) := join_ok _ _ (by rw [show c__3b_20.size = 2 from rfl]; omega) (by rw [List.length_map]; omega)
  refine map_loop l tx L G (fun k j y3 => (lapp 16 ((l.take j).map tx) [y3]).bind fun y4 => L k y4 (j + 1)) (fun _ => some fin) fin (fun k j h => hs k j h _) (fun k => by rw [he, hj]; exact hE) (Ev.now fun _ => rfl) (fun j h => ?_)
  refine ⟨_, hG _ (by have := nT_mem (List.getElem_mem h); omega) (hg _ (List.getElem_mem h)).1 (hg _ (List.getElem_mem h)).2, fun v hv => Ev.congr (fun k => ?_) hv⟩
  have : lapp 16 ((l.take j).map tx) [tx l[j]] = some ((l.take (j + 1)).map tx) := by
    rw [take_map h]
    exact lapp_ok (by simp only [List.length_map, List.length_take, List.length_singleton]; omega) (by simp only [List.length_map, List.length_take, List.length_singleton]; omega)
  rw [this]; rfl

/-- The text, or why there is none. -/
def rtx (l : List T_lang_Test) : ByteArray × Int := bif ilt 2000 (slen (jn (l.map tx) c__3b_20)) then (c_empty, 4) else (jn (l.map tx) c__3b_20, 0)
theorem ruleL (x0 : T_lang_Rule) (hl : nTs x0.fForms ≤ 1048576) (hg : ∀ k ∈ x0.fForms, tf k = true ∧ rR k = true) : Ev (fun k => lang_RuleString.l0 k [] x0.fForms (llen x0.fForms) 0) (rtx x0.fForms) := by
  have hlen := len_le x0.fForms
  exact rule_gen x0.fForms hl hg (fun k acc j => lang_RuleString.l0 k acc x0.fForms (llen x0.fForms) (j : Int)) (fun k t => lang_testText.f k t) tx_ok (fun y5 => bif ilt 2000 (slen y5) then some (c_empty, 4) else some (y5, 0)) _
    (fun k j h acc => by simp only [lang_RuleString.l0, llen_eq, Go.Proofs.YtdffbjbpolhliaaDoor.Lift.ilen _ _ h, cond_true, lat_lt h, Option.bind_some, eta, u0 (show j ≤ 2000000 by omega)])
    (fun k acc => by simp only [lang_RuleString.l0, llen_eq, Go.Proofs.YtdffbjbpolhliaaDoor.Lift.ilen', cond_false])
    (by unfold rtx; cases ilt 2000 (slen (jn (x0.fForms.map tx) c__3b_20)) <;> rfl)
theorem ruleR (x0 : T_lang_Rule) (hl : nTs x0.fForms ≤ 1048576) (hg : ∀ k ∈ x0.fForms, tf k = true ∧ rR k = true) : Ev (fun k => mastref2_ruleString.f k x0) (jn (x0.fForms.map tx) c__3b_20) := by
  have hlen := len_le x0.fForms
  refine Ev.congr (fun k => by simp only [mastref2_ruleString.f]; rfl) (rule_gen x0.fForms hl hg (fun k acc j => mastref2_ruleString.l0 k acc x0.fForms (llen x0.fForms) (j : Int)) (fun k t => mastref2_testString.f k t) txR_ok (fun y5 => some y5) _
    (fun k j h acc => by simp only [mastref2_ruleString.l0, llen_eq, Go.Proofs.YtdffbjbpolhliaaDoor.Lift.ilen _ _ h, cond_true, lat_lt h, Option.bind_some, eta, u0 (show j ≤ 2000000 by omega)])
    (fun k acc => by simp only [mastref2_ruleString.l0, llen_eq, Go.Proofs.YtdffbjbpolhliaaDoor.Lift.ilen', cond_false]) rfl)

theorem pure_holds : Pure := fun x0 h0 => by
  obtain ⟨D, d1, d2⟩ := h0
  have hl := Nat.le_trans (nTs_bulk D x0 d1) d2
  obtain ⟨v, v1, v2, v3⟩ := faults x0 hl
  refine (show Ev (fun k => mastlaw2_RuleWrites.f k x0) true from ?_).get
  have cmp : ∀ (r : ByteArray × Int), Ev (fun k => lang_RuleString.f k x0) r → Ev (fun k => mastref2_RuleStringOf.f k x0) r → Ev (fun k => mastlaw2_RuleWrites.f k x0) true := fun r a b =>
    Ev.congr (g := fun k => (lang_RuleString.f k x0).bind fun y1 => (mastref2_RuleStringOf.f k x0).bind fun y2 => some (bif (ieq y1.2 y2.2) then (seq y1.1 y2.1) else false)) (fun k => by simp only [mastlaw2_RuleWrites.f]) (Ev.bind a (Ev.bind b (Ev.now fun _ => by rw [ieq_self, seq_self]; rfl)))
  by_cases hv0 : v = 0
  · refine cmp (rtx x0.fForms) ?_ ?_
    · refine Ev.congr (g := fun k => (lang_ruleFault.f k x0).bind fun y1 => bif !ieq y1 0 then some (c_empty, y1) else lang_RuleString.l0 k [] x0.fForms (llen x0.fForms) 0) (fun k => by simp only [lang_RuleString.f]) (Ev.bind v1 ?_)
      simp only [ieq_t hv0, Bool.not_true, cond_false]
      exact ruleL x0 hl (v3 hv0)
    · refine Ev.congr (g := fun k => (mastref2_RuleFault.f k x0).bind fun y1 => bif !ieq y1 0 then some (c_empty, y1) else (mastref2_ruleString.f k x0).bind fun y2 => bif ilt 2000 (slen y2) then some (c_empty, 4) else some (y2, 0)) (fun k => by simp only [mastref2_RuleStringOf.f]) (Ev.bind v2 ?_)
      simp only [ieq_t hv0, Bool.not_true, cond_false]
      exact Ev.bind (ruleR x0 hl (v3 hv0)) (Ev.now fun _ => by unfold rtx; cases ilt 2000 (slen (jn (x0.fForms.map tx) c__3b_20)) <;> rfl)
  · refine cmp (c_empty, v) ?_ ?_
    · refine Ev.congr (g := fun k => (lang_ruleFault.f k x0).bind fun y1 => bif !ieq y1 0 then some (c_empty, y1) else lang_RuleString.l0 k [] x0.fForms (llen x0.fForms) 0) (fun k => by simp only [lang_RuleString.f]) (Ev.bind v1 ?_)
      simp only [ieq_f hv0, Bool.not_false, cond_true]
      exact Ev.now fun _ => rfl
    · refine Ev.congr (g := fun k => (mastref2_RuleFault.f k x0).bind fun y1 => bif !ieq y1 0 then some (c_empty, y1) else (mastref2_ruleString.f k x0).bind fun y2 => bif ilt 2000 (slen y2) then some (c_empty, 4) else some (y2, 0)) (fun k => by simp only [mastref2_RuleStringOf.f]) (Ev.bind v2 ?_)
      simp only [ieq_f hv0, Bool.not_false, cond_true]
      exact Ev.now fun _ => rfl

end Go.Proofs.YtdffbjbpolhliaaDoor.LRuleWrites
