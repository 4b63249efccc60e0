/- The form of a rule is found as the reference finds it, of rules of small bulk. Conditions: none. -/
import Derived.Test.YtmjfjjnmdljkeaaLRuleFormsOp
set_option linter.unusedVariables false
set_option linter.unusedSimpArgs false
namespace Go.Proofs.Ytmjfjjnmdljkeaa.LRuleForms
open Go Go.Proofs.Ytmjfjjnmdljkeaa.Lift

theorem eta (y : T_lang_Test) : T_lang_Test.mk y.fOp y.fModulus y.fLow y.fHigh y.fKids = y := by cases y; rfl

mutual
/-- How many tests. -/
def nT : T_lang_Test → Nat
  | ⟨_, _, _, _, ks⟩ => nTs ks + 1
def nTs : List T_lang_Test → Nat
  | [] => 0
  | t :: r => nT t + nTs r
end
mutual
/-- How many levels. -/
def lv : T_lang_Test → Nat
  | ⟨_, _, _, _, ks⟩ => lvs ks + 1
def lvs : List T_lang_Test → Nat
  | [] => 0
  | t :: r => max (lv t) (lvs r)
end
def okN (op : Int) (n : Nat) : Bool := ((decide (op = 2) || decide (op = 3)) && decide (2 ≤ n)) || (decide (op = 4) && decide (1 ≤ n))
mutual
/-- Are the fields right. -/
def tf : T_lang_Test → Bool
  | ⟨op, m, lo, hi, ks⟩ => bif decide (op = 1) then decide (ks.length = 0) else (okN op ks.length && (decide (m = 0) && decide (lo = 0) && decide (hi = 0))) && tfs op ks
def tfs (op : Int) : List T_lang_Test → Bool
  | [] => true
  | t :: r => (tf t && !(decide (t.fOp = op) && !decide (op = 4))) && tfs op r
end
def num (m lo hi : Int) : Bool := bif (bif (bif (bif (ieq m 0) then true else (bif (ile 2 m) then (ile m 1000000) else false)) then (ile 0 lo) else false) then (ile lo hi) else false) then (ile hi 1000000000) else false
mutual
/-- Are the numbers right: as the program asks. -/
def rL : T_lang_Test → Bool
  | ⟨op, m, lo, hi, ks⟩ => rLs ks && (bif decide (op = 1) then num m lo hi else true)
def rLs : List T_lang_Test → Bool
  | [] => true
  | t :: r => rL t && rLs r
end
mutual
/-- As the reference asks. -/
def rR : T_lang_Test → Bool
  | ⟨op, m, lo, hi, ks⟩ => bif decide (op = 1) then num m lo hi else rRs ks
def rRs : List T_lang_Test → Bool
  | [] => true
  | t :: r => rR t && rRs r
end
def wi (w lo hi : Int) : Bool := bif ile (wcv .u64 lo) w then ile w (wcv .u64 hi) else false
mutual
/-- Does it hold. -/
def hv (x : Int) : T_lang_Test → Bool
  | ⟨op, m, lo, hi, ks⟩ => bif decide (op = 1) then wi (bif decide (m = 0) then x else irem x (wcv .u64 m)) lo hi else bif decide (op = 2) then hvA x ks else bif decide (op = 3) then hvS x ks else !hvS x ks
def hvA (x : Int) : List T_lang_Test → Bool
  | [] => true
  | t :: r => hv x t && hvA x r
def hvS (x : Int) : List T_lang_Test → Bool
  | [] => false
  | t :: r => hv x t || hvS x r
end

theorem nT_eq (t : T_lang_Test) : nT t = nTs t.fKids + 1 := by cases t; simp [nT]
theorem lv_eq (t : T_lang_Test) : lv t = lvs t.fKids + 1 := by cases t; simp [lv]
theorem tf_eq (t : T_lang_Test) : tf t = bif decide (t.fOp = 1) then decide (t.fKids.length = 0) else (okN t.fOp t.fKids.length && (decide (t.fModulus = 0) && decide (t.fLow = 0) && decide (t.fHigh = 0))) && tfs t.fOp t.fKids := by cases t; simp [tf]
theorem rL_eq (t : T_lang_Test) : rL t = (rLs t.fKids && (bif decide (t.fOp = 1) then num t.fModulus t.fLow t.fHigh else true)) := by cases t; simp [rL]
theorem rR_eq (t : T_lang_Test) : rR t = bif decide (t.fOp = 1) then num t.fModulus t.fLow t.fHigh else rRs t.fKids := by cases t; simp [rR]
theorem hv_eq (x : Int) (t : T_lang_Test) : hv x t = bif decide (t.fOp = 1) then wi (bif decide (t.fModulus = 0) then x else irem x (wcv .u64 t.fModulus)) t.fLow t.fHigh else bif decide (t.fOp = 2) then hvA x t.fKids else bif decide (t.fOp = 3) then hvS x t.fKids else !hvS x t.fKids := by cases t; simp [hv]

theorem nT_pos (t : T_lang_Test) : 1 ≤ nT t := by rw [nT_eq]; omega
theorem nT_mem : ∀ {l : List T_lang_Test} {t : T_lang_Test}, t ∈ l → nT t ≤ nTs l
  | a :: l, t, h => by
    simp only [nTs]
    rcases List.mem_cons.1 h with rfl | h
    · omega
    · have := nT_mem h; omega
theorem len_le : ∀ l : List T_lang_Test, l.length ≤ nTs l
  | [] => Nat.zero_le _
  | a :: l => by
    have := len_le l
    have := nT_pos a
    simp only [nTs, List.length_cons]; omega
theorem lvs_le : ∀ (n : Nat) (l : List T_lang_Test), nTs l ≤ n → lvs l ≤ nTs l
  | _, [], _ => Nat.zero_le _
  | 0, a :: l, h => by have := nT_pos a; simp only [nTs] at h; omega
  | n + 1, a :: l, h => by
    have h1 := nT_eq a
    simp only [nTs] at h
    have h2 := lvs_le n a.fKids (by omega)
    have h3 := nT_pos a
    have h4 := lvs_le n l (by omega)
    have h5 := lv_eq a
    simp only [lvs, nTs]
    omega

theorem tree {P : T_lang_Test → Prop} (h : ∀ t, (∀ k ∈ t.fKids, P k) → P t) : ∀ t, P t := by
  have : ∀ (n : Nat) (t : T_lang_Test), nT t ≤ n → P t := by
    intro n
    induction n with
    | zero => intro t ht; have := nT_pos t; omega
    | succ n ih => intro t ht; exact h t fun k hk => ih k (by have := nT_mem hk; rw [nT_eq] at ht; omega)
  exact fun t => this _ t (Nat.le_refl _)

theorem u0 {j : Nat} (h : j ≤ 2000000) : wadd .i64 (j : Int) 1 = ((j + 1 : Nat) : Int) := wadd64 (by omega) (by omega)



/-! How many tests. -/
theorem tests_loop (l : List T_lang_Test) (hl : nTs l ≤ 1048576) (ih : ∀ k ∈ l, ∃ r : Nat, Ev (fun f => lang_tests.f f k) (r : Int) ∧ r ≤ nT k ∧ (20 < r ∨ r = nT k)) : ∀ (d j a : Nat), l.length - j ≤ d → j ≤ l.length → a + nTs (l.drop j) ≤ 1048576 + 1 →
    ∃ r : Nat, Ev (fun f => lang_tests.l0 f (a : Int) l (llen l) (j : Int)) (r : Int) ∧ r ≤ a + nTs (l.drop j) ∧ (20 < r ∨ r = a + nTs (l.drop j)) := by
  have hlen := len_le l
  have fin : ∀ j a : Nat, l.length ≤ j → ∃ r : Nat, Ev (fun f => lang_tests.l0 f (a : Int) l (llen l) (j : Int)) (r : Int) ∧ r ≤ a + nTs (l.drop j) ∧ (20 < r ∨ r = a + nTs (l.drop j)) := fun j a h => by
    refine ⟨a, Ev.step (g := fun _ => some (a : Int)) (fun k => ?_) (Ev.now fun _ => rfl), by omega, ?_⟩
    · simp only [lang_tests.l0, llen_eq, ilt_f (show (l.length : Int) ≤ (j : Int) by omega), cond_false]
    · rw [List.drop_eq_nil_of_le h]; simp [nTs]
  intro d
  induction d with
  | zero => intro j a hd hj hb; exact fin j a (by omega)
  | succ d ihd =>
    intro j a hd hj hb
    rcases Nat.lt_or_ge j l.length with hlt | hge
    · rw [List.drop_eq_getElem_cons hlt] at hb ⊢
      simp only [nTs] at hb ⊢
      by_cases ha : 20 < a
      · refine ⟨a, Ev.step (g := fun _ => some (a : Int)) (fun k => ?_) (Ev.now fun _ => rfl), by omega, .inl ha⟩
        simp only [lang_tests.l0, llen_eq, ilt_t (show (j : Int) < (l.length : Int) by omega), cond_true, lat_lt hlt, Option.bind_some, ilt_t (show (20 : Int) < (a : Int) by omega)]
      · obtain ⟨r, r1, r2, r3⟩ := ih _ (List.getElem_mem hlt)
        obtain ⟨q, q1, q2, q3⟩ := ihd (j + 1) (a + r) (by omega) hlt (by omega)
        have w : wadd .i64 (a : Int) (r : Int) = ((a + r : Nat) : Int) := by rw [wadd64 (by omega) (by omega)]; omega
        refine ⟨q, Ev.step (g := fun k => (lang_tests.f k l[j]).bind fun y2 => lang_tests.l0 k (wadd .i64 (a : Int) y2) l (llen l) ((j + 1 : Nat) : Int)) (fun k => ?_) (Ev.bind r1 (by rw [w]; exact q1)), by omega, by omega⟩
        simp only [lang_tests.l0, llen_eq, ilt_t (show (j : Int) < (l.length : Int) by omega), cond_true, lat_lt hlt, Option.bind_some, ilt_f (show (a : Int) ≤ 20 by omega), cond_false, eta, u0 (show j ≤ 2000000 by omega)]
    · exact fin j a hge

theorem tests_ok : ∀ t, nT t ≤ 1048576 → ∃ r : Nat, Ev (fun f => lang_tests.f f t) (r : Int) ∧ r ≤ nT t ∧ (20 < r ∨ r = nT t) := tree fun t ih hn => by
  rw [nT_eq] at hn
  obtain ⟨r, r1, r2, r3⟩ := tests_loop t.fKids (by omega) (fun k hk => ih k hk (by have := nT_mem hk; omega)) t.fKids.length 0 1 (by omega) (by omega) (by rw [List.drop_zero]; omega)
  rw [List.drop_zero] at r2 r3
  rw [nT_eq]
  exact ⟨r, Ev.step (fun k => by simp only [lang_tests.f]; rfl) r1, by omega, by omega⟩

/-! How many levels. -/
theorem imax_nat (a b : Nat) : imax (a : Int) (b : Int) = ((max a b : Nat) : Int) := by unfold imax; split <;> omega

theorem levels_loop (l : List T_lang_Test) (hl : nTs l ≤ 1048576) (ih : ∀ k ∈ l, Ev (fun f => lang_levels.f f k) (lv k : Int)) : ∀ (d j a : Nat), l.length - j ≤ d → j ≤ l.length → a ≤ 1048576 →
    Ev (fun f => lang_levels.l0 f (a : Int) l (llen l) (j : Int)) ((max a (lvs (l.drop j)) + 1 : Nat) : Int) := by
  have hlen := len_le l
  have hlv := fun k (hk : k ∈ l) => (show lv k ≤ 1048576 by have h1 := nT_mem hk; have h2 := nT_eq k; have h3 := lvs_le _ k.fKids (Nat.le_refl _); have h4 := lv_eq k; omega)
  have fin : ∀ j a : Nat, l.length ≤ j → a ≤ 1048576 → Ev (fun f => lang_levels.l0 f (a : Int) l (llen l) (j : Int)) ((max a (lvs (l.drop j)) + 1 : Nat) : Int) := fun j a h ha => by
    rw [List.drop_eq_nil_of_le h]
    refine Ev.step (g := fun _ => some ((max a (lvs []) + 1 : Nat) : Int)) (fun k => ?_) (Ev.now fun _ => rfl)
    simp only [lang_levels.l0, llen_eq, ilt_f (show (l.length : Int) ≤ (j : Int) by omega), cond_false, lvs, u0 (show a ≤ 2000000 by omega)]
    simp
  intro d
  induction d with
  | zero => intro j a hd hj ha; exact fin j a (by omega) ha
  | succ d ihd =>
    intro j a hd hj ha
    rcases Nat.lt_or_ge j l.length with hlt | hge
    · rw [List.drop_eq_getElem_cons hlt]
      have hk := hlv _ (List.getElem_mem hlt)
      have := ihd (j + 1) (max a (lv l[j])) (by omega) hlt (by omega)
      rw [show max (max a (lv l[j])) (lvs (l.drop (j + 1))) = max a (lvs (l[j] :: l.drop (j + 1))) by simp only [lvs]; omega] at this
      refine Ev.step (g := fun k => (lang_levels.f k l[j]).bind fun y2 => lang_levels.l0 k (imax (a : Int) y2) l (llen l) ((j + 1 : Nat) : Int)) (fun k => ?_) (Ev.bind (ih _ (List.getElem_mem hlt)) (by rw [imax_nat]; exact this))
      simp only [lang_levels.l0, llen_eq, ilt_t (show (j : Int) < (l.length : Int) by omega), cond_true, lat_lt hlt, Option.bind_some, eta, u0 (show j ≤ 2000000 by omega)]
    · exact fin j a hge ha

theorem levels_ok : ∀ t, nT t ≤ 1048576 → Ev (fun f => lang_levels.f f t) (lv t : Int) := tree fun t ih hn => by
  rw [nT_eq] at hn
  have := levels_loop t.fKids (by omega) (fun k hk => ih k hk (by have := nT_mem hk; omega)) t.fKids.length 0 0 (by omega) (by omega) (by omega)
  rw [List.drop_zero, Nat.zero_max] at this
  rw [lv_eq]
  exact Ev.step (fun k => by simp only [lang_levels.f]; rfl) this

theorem both_loop (l : List T_lang_Test) (hl : nTs l ≤ 1048576) (ih : ∀ k ∈ l, Ev (fun f => mastref2_testsIn.f f k) ((nT k : Int), (lv k : Int))) : ∀ (d j a b : Nat), l.length - j ≤ d → j ≤ l.length → a + nTs (l.drop j) ≤ 1048576 + 1 → b ≤ 1048576 →
    Ev (fun f => mastref2_testsIn.l0 f (a : Int) (b : Int) l (llen l) (j : Int)) (((a + nTs (l.drop j) : Nat) : Int), ((max b (lvs (l.drop j)) + 1 : Nat) : Int)) := by
  have hlen := len_le l
  have hlv := fun k (hk : k ∈ l) => (show lv k ≤ 1048576 by have h1 := nT_mem hk; have h2 := nT_eq k; have h3 := lvs_le _ k.fKids (Nat.le_refl _); have h4 := lv_eq k; omega)
  have fin : ∀ j a b : Nat, l.length ≤ j → b ≤ 1048576 → Ev (fun f => mastref2_testsIn.l0 f (a : Int) (b : Int) l (llen l) (j : Int)) (((a + nTs (l.drop j) : Nat) : Int), ((max b (lvs (l.drop j)) + 1 : Nat) : Int)) := fun j a b h hb => by
    rw [List.drop_eq_nil_of_le h]
    refine Ev.step (g := fun _ => some (((a + nTs [] : Nat) : Int), ((max b (lvs []) + 1 : Nat) : Int))) (fun k => ?_) (Ev.now fun _ => rfl)
    simp only [mastref2_testsIn.l0, llen_eq, ilt_f (show (l.length : Int) ≤ (j : Int) by omega), cond_false, lvs, nTs, u0 (show b ≤ 2000000 by omega)]
    simp
  intro d
  induction d with
  | zero => intro j a b hd hj ha hb; exact fin j a b (by omega) hb
  | succ d ihd =>
    intro j a b hd hj ha hb
    rcases Nat.lt_or_ge j l.length with hlt | hge
    · rw [List.drop_eq_getElem_cons hlt] at ha ⊢
      have hk := hlv _ (List.getElem_mem hlt)
      simp only [nTs] at ha
      have := ihd (j + 1) (a + nT l[j]) (max b (lv l[j])) (by omega) hlt (by omega) (by omega)
      rw [show max (max b (lv l[j])) (lvs (l.drop (j + 1))) = max b (lvs (l[j] :: l.drop (j + 1))) by simp only [lvs]; omega, show a + nT l[j] + nTs (l.drop (j + 1)) = a + nTs (l[j] :: l.drop (j + 1)) by simp only [nTs]; omega] at this
      have w : wadd .i64 (a : Int) (nT l[j] : Int) = ((a + nT l[j] : Nat) : Int) := by rw [wadd64 (by omega) (by omega)]; omega
      refine Ev.step (g := fun k => (mastref2_testsIn.f k l[j]).bind fun y2 => mastref2_testsIn.l0 k (wadd .i64 (a : Int) y2.1) (imax (b : Int) y2.2) l (llen l) ((j + 1 : Nat) : Int)) (fun k => ?_) (Ev.bind (ih _ (List.getElem_mem hlt)) (by rw [imax_nat, w]; exact this))
      simp only [mastref2_testsIn.l0, llen_eq, ilt_t (show (j : Int) < (l.length : Int) by omega), cond_true, lat_lt hlt, Option.bind_some, eta, u0 (show j ≤ 2000000 by omega)]
    · exact fin j a b hge hb

theorem both_ok : ∀ t, nT t ≤ 1048576 → Ev (fun f => mastref2_testsIn.f f t) ((nT t : Int), (lv t : Int)) := tree fun t ih hn => by
  rw [nT_eq] at hn
  have := both_loop t.fKids (by omega) (fun k hk => ih k hk (by have := nT_mem hk; omega)) t.fKids.length 0 1 0 (by omega) (by omega) (by rw [List.drop_zero]; omega) (by omega)
  rw [List.drop_zero, Nat.zero_max, Nat.add_comm 1] at this
  rw [lv_eq, nT_eq]
  exact Ev.step (fun k => by simp only [mastref2_testsIn.f]; rfl) this

/-! The fields. -/
theorem form_loop (op m lo hi : Int) (ks l : List T_lang_Test) (hl : nTs l ≤ 1048576) (ih : ∀ k ∈ l, Ev (fun f => lang_testForm.f f k) (tf k)) : ∀ (d j : Nat), l.length - j ≤ d → j ≤ l.length →
    Ev (fun f => lang_testForm.l2 f op m lo hi ks l (llen l) (j : Int)) (tfs op (l.drop j) && (decide (m = 0) && decide (lo = 0) && decide (hi = 0))) := by
  have hlen := len_le l
  have fin : ∀ j : Nat, l.length ≤ j → Ev (fun f => lang_testForm.l2 f op m lo hi ks l (llen l) (j : Int)) (tfs op (l.drop j) && (decide (m = 0) && decide (lo = 0) && decide (hi = 0))) := fun j h => by
    rw [List.drop_eq_nil_of_le h]
    refine Ev.step (g := fun _ => some (decide (m = 0) && decide (lo = 0) && decide (hi = 0))) (fun k => ?_) (Ev.now fun _ => by simp [tfs])
    simp only [lang_testForm.l2, llen_eq, ilt_f (show (l.length : Int) ≤ (j : Int) by omega), cond_false, ieq_d]
    cases decide (m = 0) <;> cases decide (lo = 0) <;> rfl
  intro d
  induction d with
  | zero => intro j hd hj; exact fin j (by omega)
  | succ d ihd =>
    intro j hd hj
    rcases Nat.lt_or_ge j l.length with hlt | hge
    · rw [List.drop_eq_getElem_cons hlt]
      simp only [tfs]
      have hk := ih _ (List.getElem_mem hlt)
      have hrec := ihd (j + 1) (by omega) hlt
      by_cases hc : l[j].fOp = op ∧ ¬ op = 4
      · refine Ev.step (g := fun _ => some false) (fun k => ?_) (Ev.now fun _ => by simp [hc.1, hc.2])
        simp only [lang_testForm.l2, llen_eq, ilt_t (show (j : Int) < (l.length : Int) by omega), cond_true, lat_lt hlt, Option.bind_some, ieq_f hc.2, ieq_t hc.1, Bool.not_false]
      · have hc2 : (bif (!ieq op 4) then (ieq l[j].fOp op) else false) = false := by
          simp only [ieq_d]
          by_cases h4 : op = 4
          · simp [h4]
          · have : ¬ l[j].fOp = op := fun e => hc ⟨e, h4⟩
            simp [h4, this]
        have hc3 : (decide (l[j].fOp = op) && !decide (op = 4)) = false := by
          by_cases h4 : op = 4
          · simp [h4]
          · have : ¬ l[j].fOp = op := fun e => hc ⟨e, h4⟩
            simp [this]
        rw [hc3]
        refine Ev.step (g := fun k => (lang_testForm.f k l[j]).bind fun y2 => bif (!y2) then some false else lang_testForm.l2 k op m lo hi ks l (llen l) ((j + 1 : Nat) : Int)) (fun k => ?_) (Ev.bind hk ?_)
        · simp only [lang_testForm.l2, llen_eq, ilt_t (show (j : Int) < (l.length : Int) by omega), cond_true, lat_lt hlt, Option.bind_some, hc2, cond_false, eta, u0 (show j ≤ 2000000 by omega)]
        · cases tf l[j] with
          | false => exact Ev.now fun _ => rfl
          | true => simpa using hrec
    · exact fin j hge

theorem form_ok : ∀ t, nT t ≤ 1048576 → Ev (fun f => lang_testForm.f f t) (tf t) := tree fun t ih hn => by
  rw [nT_eq] at hn
  have hlen := len_le t.fKids
  have hl := form_loop t.fOp t.fModulus t.fLow t.fHigh t.fKids t.fKids (by omega) (fun k hk => ih k hk (by have := nT_mem hk; omega)) t.fKids.length 0 (by omega) (by omega)
  rw [List.drop_zero] at hl
  have l1 : Ev (fun f => lang_testForm.l1 f t.fOp t.fModulus t.fLow t.fHigh t.fKids) (tfs t.fOp t.fKids && (decide (t.fModulus = 0) && decide (t.fLow = 0) && decide (t.fHigh = 0))) := Ev.step (fun k => by simp only [lang_testForm.l1]; rfl) hl
  rw [tf_eq]
  by_cases h1 : t.fOp = 1
  · refine Ev.step (g := fun _ => some (decide (t.fKids.length = 0))) (fun k => ?_) (Ev.now fun _ => by simp [h1])
    simp only [lang_testForm.f, ieq_t h1, cond_true, llen_eq, ieq_d]
    congr 2
    exact propext (by omega)
  · have l0 : ∀ b : Bool, b = (decide (t.fOp = 2) || decide (t.fOp = 3)) → Ev (fun f => lang_testForm.l0 f t.fOp t.fModulus t.fLow t.fHigh t.fKids (llen t.fKids) t.fOp b) ((okN t.fOp t.fKids.length && (decide (t.fModulus = 0) && decide (t.fLow = 0) && decide (t.fHigh = 0))) && tfs t.fOp t.fKids) := fun b hb => by
      cases b with
      | true =>
        have h23 : t.fOp = 2 ∨ t.fOp = 3 := by simpa using hb.symm
        have h4 : ¬ t.fOp = 4 := by omega
        by_cases hk : t.fKids.length < 2
        · have : okN t.fOp t.fKids.length = false := by
            unfold okN
            rw [← hb]
            have : ¬ 2 ≤ t.fKids.length := by omega
            simp [h4, this]
          rw [this]
          refine Ev.step (g := fun _ => some false) (fun k => ?_) (Ev.now fun _ => rfl)
          simp only [lang_testForm.l0, cond_true, llen_eq, ilt_t (show (t.fKids.length : Int) < 2 by omega)]
        · have : okN t.fOp t.fKids.length = true := by
            unfold okN
            rw [← hb]
            have : 2 ≤ t.fKids.length := by omega
            simp [this]
          rw [this, Bool.true_and, Bool.and_comm]
          refine Ev.step (fun k => ?_) l1
          simp only [lang_testForm.l0, cond_true, llen_eq, ilt_f (show (2 : Int) ≤ (t.fKids.length : Int) by omega), cond_false]
      | false =>
        by_cases h4 : t.fOp = 4
        · by_cases hk : t.fKids.length < 1
          · have : okN t.fOp t.fKids.length = false := by
              unfold okN
              rw [← hb]
              have : ¬ 1 ≤ t.fKids.length := by omega
              simp [this]
            rw [this]
            refine Ev.step (g := fun _ => some false) (fun k => ?_) (Ev.now fun _ => rfl)
            simp only [lang_testForm.l0, cond_false, ieq_t h4, cond_true, llen_eq, ilt_t (show (t.fKids.length : Int) < 1 by omega)]
          · have : okN t.fOp t.fKids.length = true := by
              unfold okN
              rw [← hb]
              have : 1 ≤ t.fKids.length := by omega
              simp [h4, this]
            rw [this, Bool.true_and, Bool.and_comm]
            refine Ev.step (fun k => ?_) l1
            simp only [lang_testForm.l0, cond_false, ieq_t h4, cond_true, llen_eq, ilt_f (show (1 : Int) ≤ (t.fKids.length : Int) by omega)]
        · have : okN t.fOp t.fKids.length = false := by
            unfold okN
            rw [← hb]
            simp [h4]
          rw [this]
          refine Ev.step (g := fun _ => some false) (fun k => ?_) (Ev.now fun _ => rfl)
          simp only [lang_testForm.l0, cond_false, ieq_f h4]
    rw [show decide (t.fOp = 1) = false by simp [h1], cond_false]
    by_cases h2 : t.fOp = 2
    · refine Ev.step (fun k => ?_) (l0 true (by simp [h2]))
      simp only [lang_testForm.f, ieq_f h1, cond_false, ieq_t h2, cond_true]
    · refine Ev.step (fun k => ?_) (l0 (ieq t.fOp 3) (by rw [ieq_d]; simp [h2]))
      simp only [lang_testForm.f, ieq_f h1, cond_false, ieq_f h2]

theorem formR_loop (op m lo hi : Int) (ks l : List T_lang_Test) (hl : nTs l ≤ 1048576) (ih : ∀ k ∈ l, Ev (fun f => mastref2_testForm.f f k) (tf k)) : ∀ (d j : Nat), l.length - j ≤ d → j ≤ l.length →
    Ev (fun f => mastref2_testForm.l0 f op m lo hi ks l (llen l) (j : Int)) (tfs op (l.drop j)) := by
  have hlen := len_le l
  have fin : ∀ j : Nat, l.length ≤ j → Ev (fun f => mastref2_testForm.l0 f op m lo hi ks l (llen l) (j : Int)) (tfs op (l.drop j)) := fun j h => by
    rw [List.drop_eq_nil_of_le h]
    refine Ev.step (g := fun _ => some true) (fun k => ?_) (Ev.now fun _ => by simp [tfs])
    simp only [mastref2_testForm.l0, llen_eq, ilt_f (show (l.length : Int) ≤ (j : Int) by omega), cond_false]
  intro d
  induction d with
  | zero => intro j hd hj; exact fin j (by omega)
  | succ d ihd =>
    intro j hd hj
    rcases Nat.lt_or_ge j l.length with hlt | hge
    · rw [List.drop_eq_getElem_cons hlt]
      simp only [tfs]
      have hk := ih _ (List.getElem_mem hlt)
      have hrec := ihd (j + 1) (by omega) hlt
      refine Ev.step (g := fun k => (mastref2_testForm.f k l[j]).bind fun y8 => bif (bif (!y8) then true else (bif (ieq l[j].fOp op) then (!ieq op 4) else false)) then some false else mastref2_testForm.l0 k op m lo hi ks l (llen l) ((j + 1 : Nat) : Int)) (fun k => ?_) (Ev.bind hk ?_)
      · simp only [mastref2_testForm.l0, llen_eq, ilt_t (show (j : Int) < (l.length : Int) by omega), cond_true, lat_lt hlt, Option.bind_some, eta, u0 (show j ≤ 2000000 by omega)]
      · simp only [ieq_d]
        cases tf l[j] <;> cases decide (l[j].fOp = op) <;> cases decide (op = 4) <;> simp <;> first | exact hrec | exact Ev.now fun _ => rfl
    · exact fin j hge

theorem formR_ok : ∀ t, nT t ≤ 1048576 → Ev (fun f => mastref2_testForm.f f t) (tf t) := tree fun t ih hn => by
  rw [nT_eq] at hn
  have hlen := len_le t.fKids
  have hl := formR_loop t.fOp t.fModulus t.fLow t.fHigh t.fKids t.fKids (by omega) (fun k hk => ih k hk (by have := nT_mem hk; omega)) t.fKids.length 0 (by omega) (by omega)
  rw [List.drop_zero] at hl
  have e5 : mputK ieq (mputK ieq (mputK ieq [] 2) 3) 4 = [2, 3, 4] := rfl
  have e6 : mputV ieq (mputK ieq (mputK ieq [] 2) 3) (mputV ieq (mputK ieq [] 2) (mputV ieq [] [] 2 2) 3 2) 4 1 = ([2, 2, 1] : List Int) := rfl
  rw [tf_eq]
  by_cases h1 : t.fOp = 1
  · refine Ev.step (g := fun _ => some (decide (t.fKids.length = 0))) (fun k => ?_) (Ev.now fun _ => by simp [h1])
    simp only [mastref2_testForm.f, ieq_t h1, cond_true, llen_eq, ieq_d]
    congr 2
    exact propext (by omega)
  · rw [show decide (t.fOp = 1) = false by simp [h1], cond_false]
    have hg : mget ieq ([2, 3, 4] : List Int) ([2, 2, 1] : List Int) t.fOp = if t.fOp = 2 then some 2 else if t.fOp = 3 then some 2 else if t.fOp = 4 then some 1 else none := by
      simp only [mget, ieq_d]
      by_cases h2 : t.fOp = 2
      · simp [h2]
      · by_cases h3 : t.fOp = 3
        · simp [h3]
        · by_cases h4 : t.fOp = 4
          · simp [h4]
          · simp [h2, h3, h4]
    have hb : (bif (bif (bif (bif (!((mget ieq ([2, 3, 4] : List Int) ([2, 2, 1] : List Int) t.fOp).isSome)) then true else (ilt (llen t.fKids) ((mget ieq ([2, 3, 4] : List Int) ([2, 2, 1] : List Int) t.fOp).getD 0))) then true else (!ieq t.fModulus 0)) then true else (!ieq t.fLow 0)) then true else (!ieq t.fHigh 0)) = !(okN t.fOp t.fKids.length && (decide (t.fModulus = 0) && decide (t.fLow = 0) && decide (t.fHigh = 0))) := by
      rw [hg]
      simp only [ieq_d, okN, llen_eq]
      by_cases h2 : t.fOp = 2
      · by_cases hk : 2 ≤ t.fKids.length
        · rw [if_pos h2, Option.getD_some, ilt_f (show (2 : Int) ≤ (t.fKids.length : Int) by omega)]
          cases decide (t.fModulus = 0) <;> cases decide (t.fLow = 0) <;> cases decide (t.fHigh = 0) <;> simp [h2, hk]
        · rw [if_pos h2, Option.getD_some, ilt_t (show (t.fKids.length : Int) < 2 by omega)]
          simp [h2, hk]
      · by_cases h3 : t.fOp = 3
        · by_cases hk : 2 ≤ t.fKids.length
          · rw [if_neg h2, if_pos h3, Option.getD_some, ilt_f (show (2 : Int) ≤ (t.fKids.length : Int) by omega)]
            cases decide (t.fModulus = 0) <;> cases decide (t.fLow = 0) <;> cases decide (t.fHigh = 0) <;> simp [h3, hk]
          · rw [if_neg h2, if_pos h3, Option.getD_some, ilt_t (show (t.fKids.length : Int) < 2 by omega)]
            simp [h3, hk]
        · by_cases h4 : t.fOp = 4
          · by_cases hk : 1 ≤ t.fKids.length
            · rw [if_neg h2, if_neg h3, if_pos h4, Option.getD_some, ilt_f (show (1 : Int) ≤ (t.fKids.length : Int) by omega)]
              cases decide (t.fModulus = 0) <;> cases decide (t.fLow = 0) <;> cases decide (t.fHigh = 0) <;> simp [h4, hk]
            · rw [if_neg h2, if_neg h3, if_pos h4, Option.getD_some, ilt_t (show (t.fKids.length : Int) < 1 by omega)]
              simp [h4, hk]
          · rw [if_neg h2, if_neg h3, if_neg h4]
            simp [h2, h3, h4]
    refine Ev.step (g := fun k => bif !(okN t.fOp t.fKids.length && (decide (t.fModulus = 0) && decide (t.fLow = 0) && decide (t.fHigh = 0))) then some false else mastref2_testForm.l0 k t.fOp t.fModulus t.fLow t.fHigh t.fKids t.fKids (llen t.fKids) 0) (fun k => ?_) ?_
    · simp only [mastref2_testForm.f, e5, e6, ieq_f h1, cond_false, hb]
    · cases (okN t.fOp t.fKids.length && (decide (t.fModulus = 0) && decide (t.fLow = 0) && decide (t.fHigh = 0))) with
      | false => exact Ev.now fun _ => rfl
      | true => exact hl

/-! The first that is found. -/
def fl {β : Type} (q : T_lang_Test → Bool) (hit : Nat → β) (fin : β) : Nat → List T_lang_Test → β
  | _, [] => fin
  | j, t :: r => bif q t then hit j else fl q hit fin (j + 1) r

theorem find_loop {β γ : Type} (l : List T_lang_Test) (L : Nat → Nat → Option β) (G : Nat → T_lang_Test → Option γ) (S : Nat → Nat → γ → Option β) (E : Nat → Option β) (q : T_lang_Test → Bool) (hit : Nat → β) (fin : β)
    (hs : ∀ (k j : Nat) (h : j < l.length), L (k + 1) j = (G k l[j]).bind (S k j))
    (he : ∀ k, L (k + 1) l.length = E k) (hE : Ev E fin)
    (hg : ∀ (j : Nat) (h : j < l.length), ∃ y, Ev (fun k => G k l[j]) y ∧ ∀ k, S k j y = bif q l[j] then some (hit j) else L k (j + 1)) :
    Ev (fun k => L k 0) (fl q hit fin 0 l) := by
  have : ∀ (d j : Nat), l.length - j ≤ d → j ≤ l.length → Ev (fun k => L k j) (fl q hit fin j (l.drop j)) := by
    intro d
    induction d with
    | zero =>
      intro j hd hj
      obtain rfl : j = l.length := by omega
      rw [List.drop_eq_nil_of_le (Nat.le_refl _)]
      exact Ev.step he hE
    | succ d ih =>
      intro j hd hj
      rcases Nat.lt_or_ge j l.length with hlt | hge
      · rw [List.drop_eq_getElem_cons hlt]
        obtain ⟨y, y1, y2⟩ := hg j hlt
        refine Ev.step (fun k => hs k j hlt) (Ev.bind y1 ?_)
        simp only [y2, fl]
        cases q l[j] with
        | true => exact Ev.now fun _ => rfl
        | false => exact ih (j + 1) (by omega) hlt
      · obtain rfl : j = l.length := by omega
        rw [List.drop_eq_nil_of_le (Nat.le_refl _)]
        exact Ev.step he hE
  have := this l.length 0 (by omega) (by omega)
  rwa [List.drop_zero] at this

theorem fl_const {β : Type} (q : T_lang_Test → Bool) (c fin : β) : ∀ (l : List T_lang_Test) (j : Nat), fl q (fun _ => c) fin j l = bif l.any q then c else fin
  | [], _ => rfl
  | t :: r, j => by simp only [fl, fl_const q c fin r, List.any_cons]; cases q t <;> simp
theorem fl_map {β γ : Type} (w : β → γ) (q : T_lang_Test → Bool) (hit : Nat → β) (fin : β) : ∀ (l : List T_lang_Test) (j : Nat), w (fl q hit fin j l) = fl q (fun j => w (hit j)) (w fin) j l
  | [], _ => rfl
  | t :: r, j => by simp only [fl]; cases q t <;> simp [fl_map w q hit fin r]
theorem fl_any (q : T_lang_Test → Bool) (l : List T_lang_Test) : ile 0 (fl q (fun j => (j : Int)) (-1) 0 l) = l.any q := by
  rw [fl_map (ile 0), show (fun j : Nat => ile 0 (j : Int)) = fun _ => true from funext fun j => ile_t (by omega), fl_const, show ile 0 (-1) = false from rfl]
  cases l.any q <;> rfl
theorem ilen (l : List T_lang_Test) : ∀ (j : Nat), j < l.length → ilt (j : Int) (l.length : Int) = true := fun j h => ilt_t (by omega)
theorem ilen' (l : List T_lang_Test) : ilt (l.length : Int) (l.length : Int) = false := ilt_f (by omega)

theorem rLs_any : ∀ l, rLs l = !l.any fun t => !rL t
  | [] => rfl
  | t :: r => by simp only [rLs, rLs_any r, List.any_cons]; cases rL t <;> simp
theorem rRs_any : ∀ l, rRs l = !l.any fun t => !rR t
  | [] => rfl
  | t :: r => by simp only [rRs, rRs_any r, List.any_cons]; cases rR t <;> simp
theorem hvA_any (x : Int) : ∀ l, hvA x l = !l.any fun t => !hv x t
  | [] => rfl
  | t :: r => by simp only [hvA, hvA_any x r, List.any_cons]; cases hv x t <;> simp
theorem hvS_any (x : Int) : ∀ l, hvS x l = l.any fun t => hv x t
  | [] => rfl
  | t :: r => by simp only [hvS, hvS_any x r, List.any_cons]

/-! The numbers. -/
theorem range_ok : ∀ t, nT t ≤ 1048576 → Ev (fun f => lang_testRange.f f t) (rL t) := tree fun t ih hn => by
  rw [nT_eq] at hn
  have hlen := len_le t.fKids
  rw [rL_eq, rLs_any]
  have h := find_loop t.fKids (fun k j => lang_testRange.l0 k t.fOp t.fModulus t.fLow t.fHigh t.fKids t.fKids (llen t.fKids) (j : Int)) (fun k t => lang_testRange.f k t)
    (fun k j y => bif (!y) then some false else lang_testRange.l0 k t.fOp t.fModulus t.fLow t.fHigh t.fKids t.fKids (llen t.fKids) ((j + 1 : Nat) : Int))
    (fun _ => some (bif decide (t.fOp = 1) then num t.fModulus t.fLow t.fHigh else true)) (fun t => !rL t) (fun _ => false) (bif decide (t.fOp = 1) then num t.fModulus t.fLow t.fHigh else true)
    (fun k j h => by simp only [lang_testRange.l0, llen_eq, ilen _ _ h, cond_true, lat_lt h, Option.bind_some, eta, u0 (show j ≤ 2000000 by omega)])
    (fun k => by
      simp only [lang_testRange.l0, llen_eq, ilen', cond_false, ieq_d, num]
      cases decide (t.fOp = 1) <;> rfl)
    (Ev.now fun _ => rfl)
    (fun j h => ⟨_, ih _ (List.getElem_mem h) (by have := nT_mem (List.getElem_mem h); omega), fun k => rfl⟩)
  rw [fl_const] at h
  have e : (bif t.fKids.any fun t => !rL t then false else bif decide (t.fOp = 1) then num t.fModulus t.fLow t.fHigh else true) = ((!t.fKids.any fun t => !rL t) && bif decide (t.fOp = 1) then num t.fModulus t.fLow t.fHigh else true) := by
    cases t.fKids.any fun t => !rL t <;> rfl
  rw [e] at h
  exact Ev.step (fun k => by simp only [lang_testRange.f]; rfl) h

theorem rangeR_ok : ∀ t, nT t ≤ 1048576 → Ev (fun f => mastref2_testRange.f f t) (rR t) := tree fun t ih hn => by
  rw [nT_eq] at hn
  have hlen := len_le t.fKids
  rw [rR_eq, rRs_any]
  by_cases h1 : t.fOp = 1
  · refine Ev.step (g := fun _ => some (num t.fModulus t.fLow t.fHigh)) (fun k => ?_) (Ev.now fun _ => by simp [h1])
    simp only [mastref2_testRange.f, ieq_t h1, cond_true, num]
  · have h := find_loop t.fKids (fun k j => slices_IndexFunc_lang_Test_lang_Test_at_mastref2_testRange_c1.l0 k t.fKids (llen t.fKids) (j : Int)) (fun k t => mastref2_testRange_c1.f k t)
      (fun k j y => bif y then some (j : Int) else slices_IndexFunc_lang_Test_lang_Test_at_mastref2_testRange_c1.l0 k t.fKids (llen t.fKids) ((j + 1 : Nat) : Int))
      (fun _ => some (-1)) (fun t => !rR t) (fun j => (j : Int)) (-1)
      (fun k j h => by simp only [slices_IndexFunc_lang_Test_lang_Test_at_mastref2_testRange_c1.l0, llen_eq, ilen _ _ h, cond_true, lat_lt h, Option.bind_some, u0 (show j ≤ 2000000 by omega)])
      (fun k => by simp only [slices_IndexFunc_lang_Test_lang_Test_at_mastref2_testRange_c1.l0, llen_eq, ilen', cond_false])
      (Ev.now fun _ => rfl)
      (fun j h => ⟨!rR t.fKids[j], Ev.step (fun k => by simp only [mastref2_testRange_c1.f, eta]; rfl) (Ev.bind (ih _ (List.getElem_mem h) (by have := nT_mem (List.getElem_mem h); omega)) (Ev.now fun _ => rfl)), fun k => rfl⟩)
    have hi : Ev (fun k => slices_IndexFunc_lang_Test_lang_Test_at_mastref2_testRange_c1.f k t.fKids) _ := Ev.step (fun k => by simp only [slices_IndexFunc_lang_Test_lang_Test_at_mastref2_testRange_c1.f]; rfl) h
    have hc : Ev (fun k => slices_ContainsFunc_lang_Test_lang_Test_at_mastref2_testRange_c1.f k t.fKids) (t.fKids.any fun t => !rR t) := Ev.step (fun k => by simp only [slices_ContainsFunc_lang_Test_lang_Test_at_mastref2_testRange_c1.f]; rfl) (Ev.bind hi (Ev.now fun _ => by rw [fl_any]))
    rw [show decide (t.fOp = 1) = false by simp [h1], cond_false]
    refine Ev.step (g := fun k => (slices_ContainsFunc_lang_Test_lang_Test_at_mastref2_testRange_c1.f k t.fKids).bind fun y1 => some (!y1)) (fun k => ?_) (Ev.bind hc (Ev.now fun _ => rfl))
    simp only [mastref2_testRange.f, ieq_f h1, cond_false]

theorem tfs_mem (op : Int) : ∀ {l : List T_lang_Test}, tfs op l = true → ∀ k ∈ l, tf k = true
  | a :: l, h, k, hk => by
    simp only [tfs, Bool.and_eq_true] at h
    rcases List.mem_cons.1 hk with rfl | hk
    · exact h.1.1
    · exact tfs_mem op h.2 k hk
theorem tf_kids {t : T_lang_Test} (h : tf t = true) : ∀ k ∈ t.fKids, tf k = true := by
  rw [tf_eq] at h
  by_cases h1 : t.fOp = 1
  · rw [show decide (t.fOp = 1) = true by simp [h1], cond_true] at h
    have : t.fKids = [] := List.eq_nil_of_length_eq_zero (by simpa using h)
    rw [this]; intro k hk; cases hk
  · rw [show decide (t.fOp = 1) = false by simp [h1], cond_false, Bool.and_eq_true] at h
    exact tfs_mem _ h.2
theorem any_congr {q r : T_lang_Test → Bool} : ∀ {l : List T_lang_Test}, (∀ k ∈ l, q k = r k) → l.any q = l.any r
  | [], _ => rfl
  | a :: l, h => by rw [List.any_cons, List.any_cons, h a (List.mem_cons_self ..), any_congr fun k hk => h k (List.mem_cons_of_mem _ hk)]
theorem rL_rR : ∀ t, tf t = true → rL t = rR t := tree fun t ih h => by
  have hk : t.fKids.any (fun t => !rL t) = t.fKids.any fun t => !rR t := any_congr fun k hk => by rw [ih k hk (tf_kids h k hk)]
  rw [rL_eq, rR_eq, rLs_any, rRs_any, hk]
  by_cases h1 : t.fOp = 1
  · rw [tf_eq, show decide (t.fOp = 1) = true by simp [h1], cond_true] at h
    have : t.fKids = [] := List.eq_nil_of_length_eq_zero (by simpa using h)
    rw [this]; simp [h1]
  · simp [h1]

/-! Does a form hold. -/
theorem rR_kids {t : T_lang_Test} (h : rR t = true) (h1 : ¬ t.fOp = 1) : ∀ k ∈ t.fKids, rR k = true := by
  rw [rR_eq, show decide (t.fOp = 1) = false by simp [h1], cond_false, rRs_any] at h
  intro k hk
  cases e : rR k with
  | true => rfl
  | false => rw [List.any_eq_true.2 ⟨k, hk, by rw [e]; rfl⟩] at h; exact nomatch h
theorem ops {t : T_lang_Test} (h : tf t = true) (h1 : ¬ t.fOp = 1) : t.fOp = 2 ∨ t.fOp = 3 ∨ t.fOp = 4 := by
  rw [tf_eq, show decide (t.fOp = 1) = false by simp [h1], cond_false, Bool.and_eq_true, Bool.and_eq_true] at h
  have := h.1.1
  unfold okN at this
  simp only [Bool.or_eq_true, Bool.and_eq_true, decide_eq_true_eq] at this
  omega
theorem modu {m lo hi : Int} (h : num m lo hi = true) : m = 0 ∨ 2 ≤ m ∧ m ≤ 1000000 := by
  unfold num at h
  rw [ieq_d] at h
  by_cases h0 : m = 0
  · exact .inl h0
  · refine .inr ?_
    simp only [h0, decide_false, cond_false] at h
    by_cases a : 2 ≤ m
    · by_cases b : m ≤ 1000000
      · exact ⟨a, b⟩
      · rw [ile_t a, ile_f (show (1000000 : Int) < m by omega)] at h; exact nomatch h
    · rw [ile_f (show m < 2 by omega)] at h; exact nomatch h
theorem wcv_m {m : Int} (h : 2 ≤ m ∧ m ≤ 1000000) : ieq (wcv .u64 m) 0 = false := ieq_f (by
  have : wcv .u64 m = m := by
    unfold wcv
    simp [IntKind.wrap, IntKind.bits, IntKind.signed]
    omega
  omega)

theorem l3_ok (x op m lo hi : Int) (ks : List T_lang_Test) : Ev (fun k => lang_holds.l3 k x op m lo hi ks) (wi x lo hi) :=
  Ev.step (g := fun _ => some (wi x lo hi)) (fun k => by simp only [lang_holds.l3, wi]; cases ile (wcv .u64 lo) x <;> rfl) (Ev.now fun _ => rfl)
theorem l0R_ok (x op m lo hi : Int) (ks : List T_lang_Test) : Ev (fun k => mastref2_testHolds.l0 k op m lo hi ks x) (wi x lo hi) :=
  Ev.step (g := fun _ => some (wi x lo hi)) (fun k => by simp only [mastref2_testHolds.l0, wi]; cases ile (wcv .u64 lo) x <;> rfl) (Ev.now fun _ => rfl)

theorem holds_ok (x : Int) : ∀ t, nT t ≤ 1048576 → tf t = true → rR t = true → Ev (fun f => lang_holds.f f t x) (hv x t) := tree fun t ih hn ht hr => by
  rw [nT_eq] at hn
  have hlen := len_le t.fKids
  rw [hv_eq]
  by_cases h1 : t.fOp = 1
  · rw [rR_eq, show decide (t.fOp = 1) = true by simp [h1], cond_true] at hr
    have f1 : Ev (fun f => lang_holds.l0 f x t.fOp t.fModulus t.fLow t.fHigh t.fKids t.fOp false) (wi (bif decide (t.fModulus = 0) then x else irem x (wcv .u64 t.fModulus)) t.fLow t.fHigh) := by
      by_cases h0 : t.fModulus = 0
      · rw [show decide (t.fModulus = 0) = true by simp [h0], cond_true]
        refine Ev.step (fun k => ?_) (l3_ok x t.fOp t.fModulus t.fLow t.fHigh t.fKids)
        simp only [lang_holds.l0, cond_false, ieq_f (show ¬ t.fOp = 3 by omega), ieq_t h0, Bool.not_true]
      · rw [show decide (t.fModulus = 0) = false by simp [h0], cond_false]
        refine Ev.step (fun k => ?_) (l3_ok (irem x (wcv .u64 t.fModulus)) t.fOp t.fModulus t.fLow t.fHigh t.fKids)
        have hm := (modu hr).resolve_left h0
        simp only [lang_holds.l0, cond_false, ieq_f (show ¬ t.fOp = 3 by omega), ieq_f h0, Bool.not_false, cond_true, wcv_m hm]
    rw [show decide (t.fOp = 1) = true by simp [h1], cond_true]
    refine Ev.step (fun k => ?_) f1
    simp only [lang_holds.f, ieq_f (show ¬ t.fOp = 2 by omega), cond_false, ieq_f (show ¬ t.fOp = 4 by omega)]
  · have hk := fun k hk => ih k hk (by have := nT_mem hk; omega) (tf_kids ht k hk) (rR_kids hr h1 k hk)
    have h := ops ht h1
    rw [show decide (t.fOp = 1) = false by simp [h1], cond_false]
    have hA : ∀ b : Bool, ieq t.fOp 2 = b → Ev (fun f => lang_holds.l0 f x t.fOp t.fModulus t.fLow t.fHigh t.fKids t.fOp true) (!t.fKids.any fun t => !(hv x t == b)) := fun b hb => by
      have h := find_loop t.fKids (fun k j => lang_holds.l1 k x t.fOp t.fModulus t.fLow t.fHigh t.fKids t.fKids (llen t.fKids) (j : Int)) (fun k t => lang_holds.f k t x)
        (fun k j y => bif (!(y == b)) then some false else lang_holds.l1 k x t.fOp t.fModulus t.fLow t.fHigh t.fKids t.fKids (llen t.fKids) ((j + 1 : Nat) : Int))
        (fun _ => some true) (fun t => !(hv x t == b)) (fun _ => false) true
        (fun k j h => by simp only [lang_holds.l1, llen_eq, ilen _ _ h, cond_true, lat_lt h, Option.bind_some, eta, hb, u0 (show j ≤ 2000000 by omega)])
        (fun k => by simp only [lang_holds.l1, llen_eq, ilen', cond_false])
        (Ev.now fun _ => rfl)
        (fun j h => ⟨_, hk _ (List.getElem_mem h), fun k => rfl⟩)
      rw [fl_const] at h
      have e : (bif t.fKids.any fun t => !(hv x t == b) then false else true) = !t.fKids.any fun t => !(hv x t == b) := by cases t.fKids.any fun t => !(hv x t == b) <;> rfl
      rw [e] at h
      exact Ev.step (fun k => by simp only [lang_holds.l0, cond_true]; rfl) h
    by_cases h2 : t.fOp = 2
    · rw [show decide (t.fOp = 2) = true by simp [h2], cond_true, hvA_any]
      have := hA true (ieq_t h2)
      rw [show (fun t => !(hv x t == true)) = fun t => !hv x t from funext fun t => by cases hv x t <;> rfl] at this
      refine Ev.step (fun k => ?_) this
      simp only [lang_holds.f, ieq_t h2, cond_true]
    · rw [show decide (t.fOp = 2) = false by simp [h2], cond_false]
      by_cases h3 : t.fOp = 3
      · rw [show decide (t.fOp = 3) = true by simp [h3], cond_true, hvS_any]
        have h := find_loop t.fKids (fun k j => lang_holds.l2 k x t.fKids (llen t.fKids) (j : Int)) (fun k t => lang_holds.f k t x)
          (fun k j y => bif y then some true else lang_holds.l2 k x t.fKids (llen t.fKids) ((j + 1 : Nat) : Int))
          (fun _ => some false) (fun t => hv x t) (fun _ => true) false
          (fun k j h => by simp only [lang_holds.l2, llen_eq, ilen _ _ h, cond_true, lat_lt h, Option.bind_some, eta, u0 (show j ≤ 2000000 by omega)])
          (fun k => by simp only [lang_holds.l2, llen_eq, ilen', cond_false])
          (Ev.now fun _ => rfl)
          (fun j h => ⟨_, hk _ (List.getElem_mem h), fun k => rfl⟩)
        rw [fl_const] at h
        have e : (bif t.fKids.any fun t => hv x t then true else false) = t.fKids.any fun t => hv x t := by cases t.fKids.any fun t => hv x t <;> rfl
        rw [e] at h
        have h0 : Ev (fun f => lang_holds.l0 f x t.fOp t.fModulus t.fLow t.fHigh t.fKids t.fOp false) (t.fKids.any fun t => hv x t) := Ev.step (fun k => by simp only [lang_holds.l0, cond_false, ieq_t h3, cond_true]; rfl) h
        refine Ev.step (fun k => ?_) h0
        simp only [lang_holds.f, ieq_f h2, cond_false, ieq_f (show ¬ t.fOp = 4 by omega)]
      · have h4 : t.fOp = 4 := by omega
        rw [show decide (t.fOp = 3) = false by simp [h3], cond_false, hvS_any]
        have := hA false (ieq_f h2)
        rw [show (fun t => !(hv x t == false)) = fun t => hv x t from funext fun t => by cases hv x t <;> rfl] at this
        refine Ev.step (fun k => ?_) this
        simp only [lang_holds.f, ieq_f h2, cond_false, ieq_t h4]

theorem holdsR_ok (x : Int) : ∀ t, nT t ≤ 1048576 → tf t = true → rR t = true → Ev (fun f => mastref2_testHolds.f f t x) (hv x t) := tree fun t ih hn ht hr => by
  rw [nT_eq] at hn
  have hlen := len_le t.fKids
  rw [hv_eq]
  by_cases h1 : t.fOp = 1
  · rw [rR_eq, show decide (t.fOp = 1) = true by simp [h1], cond_true] at hr
    rw [show decide (t.fOp = 1) = true by simp [h1], cond_true]
    by_cases h0 : t.fModulus = 0
    · rw [show decide (t.fModulus = 0) = true by simp [h0], cond_true]
      refine Ev.step (fun k => ?_) (l0R_ok x t.fOp t.fModulus t.fLow t.fHigh t.fKids)
      simp only [mastref2_testHolds.f, ieq_t h1, cond_true, ilt_f (show t.fModulus ≤ 0 by omega), cond_false]
    · rw [show decide (t.fModulus = 0) = false by simp [h0], cond_false]
      refine Ev.step (fun k => ?_) (l0R_ok (irem x (wcv .u64 t.fModulus)) t.fOp t.fModulus t.fLow t.fHigh t.fKids)
      have hm := (modu hr).resolve_left h0
      simp only [mastref2_testHolds.f, ieq_t h1, cond_true, ilt_t (show 0 < t.fModulus by omega), wcv_m hm, cond_false]
  · have hk := fun k hk => ih k hk (by have := nT_mem hk; omega) (tf_kids ht k hk) (rR_kids hr h1 k hk)
    have h := ops ht h1
    have c1 : ∀ k ∈ t.fKids, Ev (fun f => mastref2_testHolds_c1.f f k x) (hv x k, x, ()) := fun k hk' =>
      Ev.step (fun f => by simp only [mastref2_testHolds_c1.f, eta]; rfl) (Ev.bind (hk k hk') (Ev.now fun _ => rfl))
    have c2 : ∀ k ∈ t.fKids, Ev (fun f => mastref2_testHolds_c2.f f k x) (!hv x k, x, ()) := fun k hk' =>
      Ev.step (fun f => by simp only [mastref2_testHolds_c2.f, eta]; rfl) (Ev.bind (c1 k hk') (Ev.now fun _ => rfl))
    rw [show decide (t.fOp = 1) = false by simp [h1], cond_false]
    have d1 : Ev (fun k => slices_ContainsFunc_lang_Test_lang_Test_at_mastref2_testHolds_c1.f k t.fKids x) (t.fKids.any fun t => hv x t, x, ()) := by
      have h := find_loop t.fKids (fun k j => slices_IndexFunc_lang_Test_lang_Test_at_mastref2_testHolds_c1.l0 k t.fKids (llen t.fKids) (j : Int) x) (fun k t => mastref2_testHolds_c1.f k t x)
        (fun k j y => bif y.1 then some ((j : Int), (y.2.1, ())) else slices_IndexFunc_lang_Test_lang_Test_at_mastref2_testHolds_c1.l0 k t.fKids (llen t.fKids) ((j + 1 : Nat) : Int) y.2.1)
        (fun _ => some (-1, (x, ()))) (fun t => hv x t) (fun j => ((j : Int), (x, ()))) (-1, (x, ()))
        (fun k j h => by simp only [slices_IndexFunc_lang_Test_lang_Test_at_mastref2_testHolds_c1.l0, llen_eq, ilen _ _ h, cond_true, lat_lt h, Option.bind_some, u0 (show j ≤ 2000000 by omega)])
        (fun k => by simp only [slices_IndexFunc_lang_Test_lang_Test_at_mastref2_testHolds_c1.l0, llen_eq, ilen', cond_false])
        (Ev.now fun _ => rfl)
        (fun j h => ⟨_, c1 _ (List.getElem_mem h), fun k => rfl⟩)
      rw [← fl_map (fun i : Int => (i, (x, ()))) (fun t => hv x t) (fun j => (j : Int)) (-1)] at h
      have hi : Ev (fun k => slices_IndexFunc_lang_Test_lang_Test_at_mastref2_testHolds_c1.f k t.fKids x) _ := Ev.step (fun k => by simp only [slices_IndexFunc_lang_Test_lang_Test_at_mastref2_testHolds_c1.f]; rfl) h
      exact Ev.step (fun k => by simp only [slices_ContainsFunc_lang_Test_lang_Test_at_mastref2_testHolds_c1.f]; rfl) (Ev.bind hi (Ev.now fun _ => by rw [fl_any]))
    have d2 : Ev (fun k => slices_ContainsFunc_lang_Test_lang_Test_at_mastref2_testHolds_c2.f k t.fKids x) (t.fKids.any fun t => !hv x t, x, ()) := by
      have h := find_loop t.fKids (fun k j => slices_IndexFunc_lang_Test_lang_Test_at_mastref2_testHolds_c2.l0 k t.fKids (llen t.fKids) (j : Int) x) (fun k t => mastref2_testHolds_c2.f k t x)
        (fun k j y => bif y.1 then some ((j : Int), (y.2.1, ())) else slices_IndexFunc_lang_Test_lang_Test_at_mastref2_testHolds_c2.l0 k t.fKids (llen t.fKids) ((j + 1 : Nat) : Int) y.2.1)
        (fun _ => some (-1, (x, ()))) (fun t => !hv x t) (fun j => ((j : Int), (x, ()))) (-1, (x, ()))
        (fun k j h => by simp only [slices_IndexFunc_lang_Test_lang_Test_at_mastref2_testHolds_c2.l0, llen_eq, ilen _ _ h, cond_true, lat_lt h, Option.bind_some, u0 (show j ≤ 2000000 by omega)])
        (fun k => by simp only [slices_IndexFunc_lang_Test_lang_Test_at_mastref2_testHolds_c2.l0, llen_eq, ilen', cond_false])
        (Ev.now fun _ => rfl)
        (fun j h => ⟨_, c2 _ (List.getElem_mem h), fun k => rfl⟩)
      rw [← fl_map (fun i : Int => (i, (x, ()))) (fun t => !hv x t) (fun j => (j : Int)) (-1)] at h
      have hi : Ev (fun k => slices_IndexFunc_lang_Test_lang_Test_at_mastref2_testHolds_c2.f k t.fKids x) _ := Ev.step (fun k => by simp only [slices_IndexFunc_lang_Test_lang_Test_at_mastref2_testHolds_c2.f]; rfl) h
      exact Ev.step (fun k => by simp only [slices_ContainsFunc_lang_Test_lang_Test_at_mastref2_testHolds_c2.f]; rfl) (Ev.bind hi (Ev.now fun _ => by rw [fl_any]))
    by_cases h2 : t.fOp = 2
    · rw [show decide (t.fOp = 2) = true by simp [h2], cond_true, hvA_any]
      refine Ev.step (g := fun k => (slices_ContainsFunc_lang_Test_lang_Test_at_mastref2_testHolds_c2.f k t.fKids x).bind fun y1 => some (!y1.1)) (fun k => ?_) (Ev.bind d2 (Ev.now fun _ => rfl))
      simp only [mastref2_testHolds.f, ieq_f h1, cond_false, ieq_t h2, cond_true]
    · rw [show decide (t.fOp = 2) = false by simp [h2], cond_false]
      by_cases h3 : t.fOp = 3
      · rw [show decide (t.fOp = 3) = true by simp [h3], cond_true, hvS_any]
        refine Ev.step (g := fun k => (slices_ContainsFunc_lang_Test_lang_Test_at_mastref2_testHolds_c1.f k t.fKids x).bind fun y1 => some y1.1) (fun k => ?_) (Ev.bind d1 (Ev.now fun _ => rfl))
        simp only [mastref2_testHolds.f, ieq_f h1, cond_false, ieq_f h2, ieq_t h3, cond_true]
      · rw [show decide (t.fOp = 3) = false by simp [h3], cond_false, hvS_any]
        refine Ev.step (g := fun k => (slices_ContainsFunc_lang_Test_lang_Test_at_mastref2_testHolds_c1.f k t.fKids x).bind fun y1 => some (!y1.1)) (fun k => ?_) (Ev.bind d1 (Ev.now fun _ => rfl))
        simp only [mastref2_testHolds.f, ieq_f h1, cond_false, ieq_f h2, ieq_f h3]

/-! What is wrong with a rule. -/
def pl (l : List T_lang_Test) : Int := bif l.any (fun t => decide (20 < nT t)) then 4 else bif l.any (fun t => decide (12 < lv t)) then 13 else bif l.any (fun t => !tf t) then 1 else bif l.any (fun t => !rL t) then 2 else 0

theorem faultL (l : List T_lang_Test) (hl : nTs l ≤ 1048576) : Ev (fun k => lang_ruleFault.l0 k l l (llen l) 0) (pl l) := by
  have hlen := len_le l
  have hn : ∀ (j : Nat) (h : j < l.length), nT l[j] ≤ 1048576 := fun j h => by have := nT_mem (List.getElem_mem h); omega
  have h3 := find_loop l (fun k j => lang_ruleFault.l3 k l (llen l) (j : Int)) (fun k t => lang_testRange.f k t)
    (fun k j y => bif (!y) then some 2 else lang_ruleFault.l3 k l (llen l) ((j + 1 : Nat) : Int)) (fun _ => some 0) (fun t => !rL t) (fun _ => 2) 0
    (fun k j h => by simp only [lang_ruleFault.l3, llen_eq, ilen _ _ h, cond_true, lat_lt h, Option.bind_some, eta, u0 (show j ≤ 2000000 by omega)])
    (fun k => by simp only [lang_ruleFault.l3, llen_eq, ilen', cond_false])
    (Ev.now fun _ => rfl)
    (fun j h => ⟨_, range_ok _ (hn j h), fun k => rfl⟩)
  have h2 := find_loop l (fun k j => lang_ruleFault.l2 k l l (llen l) (j : Int)) (fun k t => lang_testForm.f k t)
    (fun k j y => bif (!y) then some 1 else lang_ruleFault.l2 k l l (llen l) ((j + 1 : Nat) : Int)) (fun k => lang_ruleFault.l3 k l (llen l) 0) (fun t => !tf t) (fun _ => 1) _
    (fun k j h => by simp only [lang_ruleFault.l2, llen_eq, ilen _ _ h, cond_true, lat_lt h, Option.bind_some, eta, u0 (show j ≤ 2000000 by omega)])
    (fun k => by simp only [lang_ruleFault.l2, llen_eq, ilen', cond_false])
    h3
    (fun j h => ⟨_, form_ok _ (hn j h), fun k => rfl⟩)
  have h1 := find_loop l (fun k j => lang_ruleFault.l1 k l l (llen l) (j : Int)) (fun k t => lang_levels.f k t)
    (fun k j y => bif ilt 12 y then some 13 else lang_ruleFault.l1 k l l (llen l) ((j + 1 : Nat) : Int)) (fun k => lang_ruleFault.l2 k l l (llen l) 0) (fun t => decide (12 < lv t)) (fun _ => 13) _
    (fun k j h => by simp only [lang_ruleFault.l1, llen_eq, ilen _ _ h, cond_true, lat_lt h, Option.bind_some, eta, u0 (show j ≤ 2000000 by omega)])
    (fun k => by simp only [lang_ruleFault.l1, llen_eq, ilen', cond_false])
    h2
    (fun j h => ⟨_, levels_ok _ (hn j h), fun k => by
      by_cases c : 12 < lv l[j]
      · simp only [ilt_t (show (12 : Int) < (lv l[j] : Int) by omega), show decide (12 < lv l[j]) = true by simp [c]]
      · simp only [ilt_f (show (lv l[j] : Int) ≤ 12 by omega), show decide (12 < lv l[j]) = false by simp [c]]⟩)
  have h0 := find_loop l (fun k j => lang_ruleFault.l0 k l l (llen l) (j : Int)) (fun k t => lang_tests.f k t)
    (fun k j y => bif ilt 20 y then some 4 else lang_ruleFault.l0 k l l (llen l) ((j + 1 : Nat) : Int)) (fun k => lang_ruleFault.l1 k l l (llen l) 0) (fun t => decide (20 < nT t)) (fun _ => 4) _
    (fun k j h => by simp only [lang_ruleFault.l0, llen_eq, ilen _ _ h, cond_true, lat_lt h, Option.bind_some, eta, u0 (show j ≤ 2000000 by omega)])
    (fun k => by simp only [lang_ruleFault.l0, llen_eq, ilen', cond_false])
    h1
    (fun j h => by
      obtain ⟨r, r1, r2, r3⟩ := tests_ok _ (hn j h)
      refine ⟨_, r1, fun k => ?_⟩
      by_cases c : 20 < nT l[j]
      · simp only [ilt_t (show (20 : Int) < (r : Int) by omega), show decide (20 < nT l[j]) = true by simp [c]]
      · simp only [ilt_f (show (r : Int) ≤ 20 by omega), show decide (20 < nT l[j]) = false by simp [c]])
  rw [fl_const, fl_const, fl_const, fl_const] at h0
  exact h0

def rf : Bool → Bool → Bool → List T_lang_Test → Int
  | a, b, c, [] => bif a then 13 else bif !b then 1 else bif !c then 2 else 0
  | a, b, c, t :: r => bif decide (20 < nT t) then 4 else rf (bif a then true else decide (12 < lv t)) (b && tf t) (c && rR t) r

theorem faultR (l : List T_lang_Test) (hl : nTs l ≤ 1048576) : ∀ (d j : Nat) (a b c : Bool), l.length - j ≤ d → j ≤ l.length → Ev (fun k => mastref2_RuleFault.l0 k a b c l (llen l) (j : Int)) (rf a b c (l.drop j)) := by
  have hlen := len_le l
  have fin : ∀ (j : Nat) (a b c : Bool), l.length ≤ j → Ev (fun k => mastref2_RuleFault.l0 k a b c l (llen l) (j : Int)) (rf a b c (l.drop j)) := fun j a b c h => by
    rw [List.drop_eq_nil_of_le h]
    refine Ev.step (g := fun _ => some (rf a b c [])) (fun k => ?_) (Ev.now fun _ => rfl)
    simp only [mastref2_RuleFault.l0, llen_eq, ilt_f (show (l.length : Int) ≤ (j : Int) by omega), cond_false, rf]
    cases a <;> cases b <;> cases c <;> rfl
  intro d
  induction d with
  | zero => intro j a b c hd hj; exact fin j a b c (by omega)
  | succ d ih =>
    intro j a b c hd hj
    rcases Nat.lt_or_ge j l.length with hlt | hge
    · rw [List.drop_eq_getElem_cons hlt]
      have hn : nT l[j] ≤ 1048576 := by have := nT_mem (List.getElem_mem hlt); omega
      have hr := ih (j + 1) (bif a then true else decide (12 < lv l[j])) (b && tf l[j]) (c && rR l[j]) (by omega) hlt
      have el : ilt 12 (lv l[j] : Int) = decide (12 < lv l[j]) := by
        by_cases c : 12 < lv l[j]
        · simp only [ilt_t (show (12 : Int) < (lv l[j] : Int) by omega), show decide (12 < lv l[j]) = true by simp [c]]
        · simp only [ilt_f (show (lv l[j] : Int) ≤ 12 by omega), show decide (12 < lv l[j]) = false by simp [c]]
      simp only [rf]
      by_cases c20 : 20 < nT l[j]
      · rw [show decide (20 < nT l[j]) = true by simp [c20], cond_true]
        refine Ev.step (fun k => by simp only [mastref2_RuleFault.l0, llen_eq, ilen _ _ hlt, cond_true, lat_lt hlt, Option.bind_some, eta]; rfl) (Ev.bind (both_ok _ hn) (Ev.now fun k => ?_))
        simp only [ilt_t (show (20 : Int) < (nT l[j] : Int) by omega), cond_true]
      · rw [show decide (20 < nT l[j]) = false by simp [c20], cond_false]
        refine Ev.step (fun k => by simp only [mastref2_RuleFault.l0, llen_eq, ilen _ _ hlt, cond_true, lat_lt hlt, Option.bind_some, eta]; rfl) (Ev.bind (both_ok _ hn) ?_)
        simp only [ilt_f (show (nT l[j] : Int) ≤ 20 by omega), cond_false, el, u0 (show j ≤ 2000000 by omega)]
        cases b with
        | true =>
          simp only [cond_true]
          refine Ev.bind (formR_ok _ hn) ?_
          cases c with
          | true => simp only [cond_true]; exact Ev.bind (rangeR_ok _ hn) (by simpa [llen_eq] using hr)
          | false => simpa [llen_eq] using hr
        | false =>
          simp only [cond_false]
          cases c with
          | true => simp only [cond_true]; exact Ev.bind (rangeR_ok _ hn) (by simpa [llen_eq] using hr)
          | false => simpa [llen_eq] using hr
    · exact fin j a b c hge

theorem rf_eq : ∀ (l : List T_lang_Test) (a b c : Bool), rf a b c l = bif l.any (fun t => decide (20 < nT t)) then 4 else bif a || l.any (fun t => decide (12 < lv t)) then 13 else bif !b || l.any (fun t => !tf t) then 1 else bif !c || l.any (fun t => !rR t) then 2 else 0
  | [], a, b, c => by cases a <;> cases b <;> cases c <;> rfl
  | t :: r, a, b, c => by
    simp only [rf, rf_eq r, List.any_cons]
    cases decide (20 < nT t) <;> cases a <;> cases b <;> cases c <;> cases tf t <;> cases rR t <;> simp
theorem pl_rf (l : List T_lang_Test) : pl l = rf false true true l := by
  rw [rf_eq, pl]
  cases h : l.any fun t => !tf t with
  | true => simp
  | false =>
    have : l.any (fun t => !rL t) = l.any fun t => !rR t := any_congr fun k hk => by
      rw [rL_rR k (by
        cases e : tf k with
        | true => rfl
        | false => rw [List.any_eq_true.2 ⟨k, hk, by rw [e]; rfl⟩] at h; exact nomatch h)]
    rw [this]; simp
theorem any_f {q : T_lang_Test → Bool} {l : List T_lang_Test} (h : l.any q = false) : ∀ k ∈ l, q k = false := fun k hk => by
  cases e : q k with
  | false => rfl
  | true => rw [List.any_eq_true.2 ⟨k, hk, e⟩] at h; exact nomatch h
theorem pl_zero {l : List T_lang_Test} (h : pl l = 0) : ∀ k ∈ l, tf k = true ∧ rR k = true := by
  rw [pl_rf, rf_eq] at h
  cases h1 : l.any (fun t => decide (20 < nT t)) <;> simp only [h1, cond_true, cond_false] at h
  · cases h2 : l.any (fun t => decide (12 < lv t)) <;> simp only [h2, cond_true, cond_false, Bool.or_false, Bool.or_true] at h
    · cases h3 : l.any (fun t => !tf t) <;> simp only [h3, cond_true, cond_false, Bool.or_false, Bool.or_true, Bool.not_true] at h
      · cases h4 : l.any (fun t => !rR t) <;> simp only [h4, cond_true, cond_false, Bool.or_false, Bool.or_true, Bool.not_true] at h
        · exact fun k hk => ⟨by simpa using any_f h3 k hk, by simpa using any_f h4 k hk⟩
        · exact nomatch h
      · exact nomatch h
    · exact nomatch h
  · exact nomatch h

/-! The law. -/
def mag (x : Int) : Int := (lang_magnitude.f x).getD 0
theorem mag_eq (x : Int) : lang_magnitude.f x = some (mag x) := by
  unfold mag lang_magnitude.f
  cases ilt x 0 <;> rfl
theorem magR_eq (x : Int) : mastref2_sizeOfInt.f x = some (mag x) := by
  unfold mag lang_magnitude.f mastref2_sizeOfInt.f
  cases ilt x 0 <;> rfl

theorem formL_ok (x : Int) (l : List T_lang_Test) (hl : nTs l ≤ 1048576) (h : ∀ k ∈ l, tf k = true ∧ rR k = true) : Ev (fun k => lang_form.l0 k x l l (llen l) 0) (fl (fun t => hv (mag x) t) (fun j => (j : Int)) (l.length : Int) 0 l) := by
  have hlen := len_le l
  exact find_loop l (fun k j => lang_form.l0 k x l l (llen l) (j : Int)) (fun k t => lang_holds.f k t (mag x))
    (fun k j y => bif y then some (j : Int) else lang_form.l0 k x l l (llen l) ((j + 1 : Nat) : Int)) (fun _ => some (l.length : Int)) (fun t => hv (mag x) t) (fun j => (j : Int)) _
    (fun k j h => by simp only [lang_form.l0, llen_eq, ilen _ _ h, cond_true, lat_lt h, Option.bind_some, eta, mag_eq, u0 (show j ≤ 2000000 by omega)])
    (fun k => by simp only [lang_form.l0, llen_eq, ilen', cond_false])
    (Ev.now fun _ => rfl)
    (fun j hj => ⟨_, holds_ok (mag x) _ (by have := nT_mem (List.getElem_mem hj); omega) (h _ (List.getElem_mem hj)).1 (h _ (List.getElem_mem hj)).2, fun k => rfl⟩)
theorem formOf_ok (x : Int) (l : List T_lang_Test) (hl : nTs l ≤ 1048576) (h : ∀ k ∈ l, tf k = true ∧ rR k = true) : Ev (fun k => mastref2_FormOf.l0 k x l l (llen l) 0) (fl (fun t => hv (mag x) t) (fun j => (j : Int)) (l.length : Int) 0 l) := by
  have hlen := len_le l
  exact find_loop l (fun k j => mastref2_FormOf.l0 k x l l (llen l) (j : Int)) (fun k t => mastref2_testHolds.f k t (mag x))
    (fun k j y => bif y then some (j : Int) else mastref2_FormOf.l0 k x l l (llen l) ((j + 1 : Nat) : Int)) (fun _ => some (l.length : Int)) (fun t => hv (mag x) t) (fun j => (j : Int)) _
    (fun k j h => by simp only [mastref2_FormOf.l0, llen_eq, ilen _ _ h, cond_true, lat_lt h, Option.bind_some, eta, magR_eq, u0 (show j ≤ 2000000 by omega)])
    (fun k => by simp only [mastref2_FormOf.l0, llen_eq, ilen', cond_false])
    (Ev.now fun _ => rfl)
    (fun j hj => ⟨_, holdsR_ok (mag x) _ (by have := nT_mem (List.getElem_mem hj); omega) (h _ (List.getElem_mem hj)).1 (h _ (List.getElem_mem hj)).2, fun k => rfl⟩)

theorem faults (x0 : T_lang_Rule) (hl : nTs x0.fForms ≤ 1048576) : ∃ v : Int, Ev (fun k => lang_ruleFault.f k x0) v ∧ Ev (fun k => mastref2_RuleFault.f k x0) v ∧ (v = 0 → ∀ k ∈ x0.fForms, tf k = true ∧ rR k = true) := by
  have hlen := len_le x0.fForms
  by_cases h6 : 6 < x0.fForms.length
  · refine ⟨4, Ev.now fun k => ?_, Ev.now fun k => ?_, fun h => nomatch h⟩
    · simp only [lang_ruleFault.f, llen_eq, ilt_t (show (6 : Int) < (x0.fForms.length : Int) by omega), cond_true]
    · simp only [mastref2_RuleFault.f, llen_eq, ilt_t (show (6 : Int) < (x0.fForms.length : Int) by omega), cond_true]
  · refine ⟨pl x0.fForms, Ev.congr (fun k => ?_) (faultL _ hl), Ev.congr (fun k => ?_) (by have := faultR _ hl x0.fForms.length 0 false true true (by omega) (by omega); rw [List.drop_zero, ← pl_rf] at this; exact this), pl_zero⟩
    · simp only [lang_ruleFault.f, llen_eq, ilt_f (show (x0.fForms.length : Int) ≤ 6 by omega), cond_false]
    · simp only [mastref2_RuleFault.f, llen_eq, ilt_f (show (x0.fForms.length : Int) ≤ 6 by omega), cond_false]; rfl

theorem law_ok (x0 : T_lang_Rule) (x1 : Int) (hl : nTs x0.fForms ≤ 1048576) : Ev (fun k => mastlaw2_RuleForms.f k x0 x1) true := by
  obtain ⟨v, v1, v2, v3⟩ := faults x0 hl
  by_cases hv0 : v = 0
  · have a := formL_ok x1 x0.fForms hl (v3 hv0)
    have b := formOf_ok x1 x0.fForms hl (v3 hv0)
    generalize fl (fun t => hv (mag x1) t) (fun j => (j : Int)) (x0.fForms.length : Int) 0 x0.fForms = r at a b
    have F : Ev (fun k => lang_Form.f k x0 x1) (r, 0) := by
      refine Ev.congr (g := fun k => (lang_ruleFault.f k x0).bind fun y1 => bif !ieq y1 0 then some (0, y1) else (lang_form.f k x0 x1).bind fun y2 => some (y2, 0)) (fun k => rfl) (Ev.bind v1 ?_)
      simp only [ieq_t hv0, Bool.not_true, cond_false]
      exact Ev.bind (Ev.congr (fun k => by simp only [lang_form.f]) a) (Ev.now fun _ => rfl)
    refine Ev.congr (fun k => by simp only [mastlaw2_RuleForms.f]; rfl) (Ev.bind F (Ev.bind v2 ?_))
    simp only [ieq_t hv0, Bool.not_true, cond_false]
    exact Ev.bind (Ev.congr (fun k => by simp only [mastref2_FormOf.f]) b) (Ev.now fun _ => by simp [ieq_t])
  · have F : Ev (fun k => lang_Form.f k x0 x1) (0, v) := by
      refine Ev.congr (g := fun k => (lang_ruleFault.f k x0).bind fun y1 => bif !ieq y1 0 then some (0, y1) else (lang_form.f k x0 x1).bind fun y2 => some (y2, 0)) (fun k => rfl) (Ev.bind v1 ?_)
      simp only [ieq_f hv0, Bool.not_false, cond_true]
      exact Ev.now fun _ => rfl
    refine Ev.congr (fun k => by simp only [mastlaw2_RuleForms.f]; rfl) (Ev.bind F (Ev.bind v2 ?_))
    simp only [ieq_f hv0, Bool.not_false, cond_true]
    exact Ev.now fun _ => by simp [ieq_t]

/-! How much is held. -/
theorem nT_bulk : ∀ (D : Nat) (t : T_lang_Test), good ctx D (.st 1) t → nT t ≤ bulk ctx D (.st 1) t
  | 0, t, h => h.1.elim
  | 1, t, h => by
    have hk : t.fKids = [] := List.eq_nil_iff_forall_not_mem.2 fun k hk => h.2.2.2.2.2.2 k hk
    rw [nT_eq, hk]
    show 0 + 1 ≤ bulkH (bulk ctx 0) [(.int .i64), (.int .i64), (.int .i64), (.int .i64), (.sl (.st 1))] (t.fOp, t.fModulus, t.fLow, t.fHigh, t.fKids, ()) + 1
    omega
  | D + 2, t, h => by
    have hk : ∀ k ∈ t.fKids, nT k ≤ bulk ctx D (.st 1) k := fun k hk => nT_bulk D k (h.2.2.2.2.2.2 k hk)
    have hs : ∀ l : List T_lang_Test, (∀ k ∈ l, nT k ≤ bulk ctx D (.st 1) k) → nTs l ≤ (l.map (bulk ctx D (.st 1))).sum := by
      intro l
      induction l with
      | nil => intro _; exact Nat.zero_le _
      | cons a l ih =>
        intro h
        have h1 := h a (List.mem_cons_self ..)
        have h2 := ih fun k hk => h k (List.mem_cons_of_mem _ hk)
        simp only [nTs, List.map_cons, List.sum_cons]
        exact Nat.add_le_add h1 h2
    have := hs t.fKids hk
    rw [nT_eq]
    show _ ≤ 1 + (1 + (1 + (1 + (((t.fKids.map (bulk ctx D (.st 1))).sum + 1) + 0)))) + 1
    omega
theorem nTs_bulk : ∀ (D : Nat) (x : T_lang_Rule), good ctx D (.st 0) x → nTs x.fForms ≤ bulk ctx D (.st 0) x
  | 0, x, h => h.elim
  | 1, x, h => by
    have hk : x.fForms = [] := List.eq_nil_iff_forall_not_mem.2 fun k hk => h.2.2 k hk
    rw [hk]; exact Nat.zero_le _
  | D + 2, x, h => by
    have hk : ∀ k ∈ x.fForms, nT k ≤ bulk ctx D (.st 1) k := fun k hk => nT_bulk D k (h.2.2 k hk)
    have hs : ∀ l : List T_lang_Test, (∀ k ∈ l, nT k ≤ bulk ctx D (.st 1) k) → nTs l ≤ (l.map (bulk ctx D (.st 1))).sum := by
      intro l
      induction l with
      | nil => intro _; exact Nat.zero_le _
      | cons a l ih =>
        intro h
        have h1 := h a (List.mem_cons_self ..)
        have h2 := ih fun k hk => h k (List.mem_cons_of_mem _ hk)
        simp only [nTs, List.map_cons, List.sum_cons]
        exact Nat.add_le_add h1 h2
    have := hs x.fForms hk
    show _ ≤ (((x.fForms.map (bulk ctx D (.st 1))).sum + 1) + 0) + 1
    omega

theorem pure_holds : Pure := fun x0 x1 h0 h1 => by
  obtain ⟨D, d1, d2⟩ := h0
  exact (law_ok x0 x1 (Nat.le_trans (nTs_bulk D x0 d1) d2)).get

end Go.Proofs.Ytmjfjjnmdljkeaa.LRuleForms
