/- A condition is checked as the reference says, for conditions of small bulk. Conditions: none. -/
import Derived.Test.YtdffbjbpolhliaaDoorLCondChecksOp
import Derived.Lib.SplitLaws
set_option linter.unusedVariables false
set_option linter.unusedSimpArgs false
namespace Go.Proofs.YtdffbjbpolhliaaDoor.LCondChecks
open Go Go.Proofs.YtdffbjbpolhliaaDoor.Lift

theorem eta (y : T_api_Value) : T_api_Value.mk y.fKind y.fBool y.fInt y.fText y.fItems y.fKeys = y := by cases y; rfl

mutual
/-- How many values. -/
def nT : T_api_Value → Nat
  | ⟨_, _, _, _, is, _⟩ => nTs is + 1
def nTs : List T_api_Value → Nat
  | [] => 0
  | t :: r => nT t + nTs r
end
mutual
/-- How many levels. -/
def lv : T_api_Value → Nat
  | ⟨_, _, _, _, is, _⟩ => lvs is + 1
def lvs : List T_api_Value → Nat
  | [] => 0
  | t :: r => max (lv t) (lvs r)
end
def kz : List ByteArray → Nat
  | [] => 0
  | s :: r => s.size + 1 + kz r
mutual
/-- How much is held. -/
def wt : T_api_Value → Nat
  | ⟨_, _, _, t, is, ks⟩ => t.size + kz ks + wts is + 1
def wts : List T_api_Value → Nat
  | [] => 0
  | t :: r => wt t + wts r
end
theorem nT_eq (t : T_api_Value) : nT t = nTs t.fItems + 1 := by cases t; simp [nT]
theorem lv_eq (t : T_api_Value) : lv t = lvs t.fItems + 1 := by cases t; simp [lv]
theorem wt_eq (t : T_api_Value) : wt t = t.fText.size + kz t.fKeys + wts t.fItems + 1 := by cases t; simp [wt]
theorem wt_pos (t : T_api_Value) : 1 ≤ wt t := by rw [wt_eq]; omega
theorem wt_mem : ∀ {l : List T_api_Value} {t : T_api_Value}, t ∈ l → wt t ≤ wts l
  | a :: l, t, h => by
    simp only [wts]
    rcases List.mem_cons.1 h with rfl | h
    · omega
    · have := wt_mem h; omega
theorem len_le : ∀ l : List T_api_Value, l.length ≤ wts l
  | [] => Nat.zero_le _
  | a :: l => by
    have := len_le l
    have := wt_pos a
    simp only [wts, List.length_cons]; omega
theorem kz_mem : ∀ {l : List ByteArray} {s : ByteArray}, s ∈ l → s.size < kz l
  | a :: l, s, h => by
    simp only [kz]
    rcases List.mem_cons.1 h with rfl | h
    · omega
    · have := kz_mem h; omega
theorem klen_le : ∀ l : List ByteArray, l.length ≤ kz l
  | [] => Nat.zero_le _
  | a :: l => by
    have := klen_le l
    simp only [kz, List.length_cons]; omega
theorem tree {P : T_api_Value → Prop} (h : ∀ t, (∀ k ∈ t.fItems, P k) → P t) : ∀ t, P t := by
  have : ∀ (n : Nat) (t : T_api_Value), wt t ≤ n → P t := by
    intro n
    induction n with
    | zero => intro t ht; have := wt_pos t; omega
    | succ n ih => intro t ht; exact h t fun k hk => ih k (by have := wt_mem hk; rw [wt_eq] at ht; omega)
  exact fun t => this _ t (Nat.le_refl _)
theorem nT_wt : ∀ t, nT t ≤ wt t := tree fun t ih => by
  have : ∀ l : List T_api_Value, (∀ k ∈ l, nT k ≤ wt k) → nTs l ≤ wts l := by
    intro l
    induction l with
    | nil => intro _; exact Nat.zero_le _
    | cons a l ih =>
      intro h
      have h1 := h a (List.mem_cons_self ..)
      have h2 := ih fun k hk => h k (List.mem_cons_of_mem _ hk)
      simp only [nTs, wts]; omega
  have := this t.fItems ih
  rw [nT_eq, wt_eq]; omega
theorem nTs_wts : ∀ l, nTs l ≤ wts l
  | [] => Nat.zero_le _
  | a :: l => by have := nT_wt a; have := nTs_wts l; simp only [nTs, wts]; omega
theorem lv_wt : ∀ t, lv t ≤ wt t := tree fun t ih => by
  have : ∀ l : List T_api_Value, (∀ k ∈ l, lv k ≤ wt k) → lvs l ≤ wts l := by
    intro l
    induction l with
    | nil => intro _; exact Nat.zero_le _
    | cons a l ih =>
      intro h
      have h1 := h a (List.mem_cons_self ..)
      have h2 := ih fun k hk => h k (List.mem_cons_of_mem _ hk)
      simp only [lvs, wts]; omega
  have := this t.fItems ih
  rw [lv_eq, wt_eq]; omega
theorem bulk_str (D : Nat) (s : ByteArray) : bulk ctx D .str s = s.size + 1 := by cases D <;> rfl
theorem wt_bulk : ∀ (D : Nat) (t : T_api_Value), good ctx D (.st 1) t → wt t ≤ bulk ctx D (.st 1) t
  | 0, t, h => h.1.elim
  | 1, t, h => by
    have hi : t.fItems = [] := List.eq_nil_iff_forall_not_mem.2 fun k hk => h.2.2.2.2.1.2.2 k hk
    have hk : t.fKeys = [] := List.eq_nil_iff_forall_not_mem.2 fun k hk => h.2.2.2.2.2.2.2 k hk
    rw [wt_eq, hi, hk]
    show t.fText.size + 0 + 0 + 1 ≤ 1 + (1 + (1 + ((t.fText.size + 1) + ((((t.fItems.map fun _ => 0).sum + 1)) + (((t.fKeys.map fun _ => 0).sum + 1) + 0))))) + 1
    omega
  | D + 2, t, h => by
    have hi : ∀ k ∈ t.fItems, wt k ≤ bulk ctx D (.st 1) k := fun k hk => wt_bulk D k (h.2.2.2.2.1.2.2 k hk)
    have hs : ∀ l : List T_api_Value, (∀ k ∈ l, wt k ≤ bulk ctx D (.st 1) k) → wts l ≤ (l.map (bulk ctx D (.st 1))).sum := by
      intro l
      induction l with
      | nil => intro _; exact Nat.zero_le _
      | cons a l ih =>
        intro h
        have h1 := h a (List.mem_cons_self ..)
        have h2 := ih fun k hk => h k (List.mem_cons_of_mem _ hk)
        simp only [wts, List.map_cons, List.sum_cons]
        exact Nat.add_le_add h1 h2
    have hz : ∀ l : List ByteArray, kz l = (l.map (bulk ctx D .str)).sum := by
      intro l
      induction l with
      | nil => rfl
      | cons a l ih => simp only [kz, ih, List.map_cons, List.sum_cons, bulk_str]
    have h1 := hs t.fItems hi
    have h2 := hz t.fKeys
    rw [wt_eq, h2]
    show _ ≤ 1 + (1 + (1 + ((t.fText.size + 1) + (((t.fItems.map (bulk ctx D (.st 1))).sum + 1) + (((t.fKeys.map (bulk ctx D .str)).sum + 1) + 0))))) + 1
    omega

/-! How many values, how many levels. -/
theorem count_loop_conf (l : List T_api_Value) (hl : wts l ≤ 1048576) (ih : ∀ k ∈ l, ∃ r : Nat, Ev (fun f => conf_count.f f k) (r : Int) ∧ r ≤ nT k ∧ (1000 < r ∨ r = nT k)) : ∀ (d j a : Nat), l.length - j ≤ d → j ≤ l.length → a + nTs (l.drop j) ≤ 1048577 →
    ∃ r : Nat, Ev (fun f => conf_count.l0 f (a : Int) l (llen l) (j : Int)) (r : Int) ∧ r ≤ a + nTs (l.drop j) ∧ (1000 < r ∨ r = a + nTs (l.drop j)) := by
  have hlen := len_le l
  have fin : ∀ j a : Nat, l.length ≤ j → ∃ r : Nat, Ev (fun f => conf_count.l0 f (a : Int) l (llen l) (j : Int)) (r : Int) ∧ r ≤ a + nTs (l.drop j) ∧ (1000 < r ∨ r = a + nTs (l.drop j)) := fun j a h => by
    refine ⟨a, Ev.step (g := fun _ => some (a : Int)) (fun k => ?_) (Ev.now fun _ => rfl), by omega, ?_⟩
    · simp only [conf_count.l0, llen_eq, ilt_f (show (l.length : Int) ≤ (j : Int) by omega), cond_false]
    · rw [List.drop_eq_nil_of_le h]; simp [nTs]
  intro d
  induction d with
  | zero => intro j a hd hj hb; exact fin j a (by omega)
  | succ d ihd =>
    intro j a hd hj hb
    rcases Nat.lt_or_ge j l.length with hlt | hge
    · rw [List.drop_eq_getElem_cons hlt] at hb ⊢
      simp only [nTs] at hb ⊢
      by_cases ha : 1000 < a
      · refine ⟨a, Ev.step (g := fun _ => some (a : Int)) (fun k => ?_) (Ev.now fun _ => rfl), by omega, .inl ha⟩
        simp only [conf_count.l0, llen_eq, ilt_t (show (j : Int) < (l.length : Int) by omega), cond_true, lat_lt hlt, Option.bind_some, ilt_t (show (1000 : Int) < (a : Int) by omega)]
      · obtain ⟨r, r1, r2, r3⟩ := ih _ (List.getElem_mem hlt)
        obtain ⟨q, q1, q2, q3⟩ := ihd (j + 1) (a + r) (by omega) hlt (by omega)
        have w : wadd .i64 (a : Int) (r : Int) = ((a + r : Nat) : Int) := by rw [wadd64 (by omega) (by omega)]; omega
        refine ⟨q, Ev.step (g := fun k => (conf_count.f k l[j]).bind fun y2 => conf_count.l0 k (wadd .i64 (a : Int) y2) l (llen l) ((j + 1 : Nat) : Int)) (fun k => ?_) (Ev.bind r1 (by rw [w]; exact q1)), by omega, by omega⟩
        simp only [conf_count.l0, llen_eq, ilt_t (show (j : Int) < (l.length : Int) by omega), cond_true, lat_lt hlt, Option.bind_some, ilt_f (show (a : Int) ≤ 1000 by omega), cond_false, eta, u0 (show j ≤ 4611686018427387904 by omega)]
    · exact fin j a hge
theorem count_conf : ∀ t, wt t ≤ 1048576 → ∃ r : Nat, Ev (fun f => conf_count.f f t) (r : Int) ∧ r ≤ nT t ∧ (1000 < r ∨ r = nT t) := tree fun t ih hn => by
  have h0 := nTs_wts t.fItems
  rw [wt_eq] at hn
  obtain ⟨r, r1, r2, r3⟩ := count_loop_conf t.fItems (by omega) (fun k hk => ih k hk (by have := wt_mem hk; omega)) t.fItems.length 0 1 (by omega) (by omega) (by rw [List.drop_zero]; omega)
  rw [List.drop_zero] at r2 r3
  rw [nT_eq]
  exact ⟨r, Ev.step (fun k => by simp only [conf_count.f]; rfl) r1, by omega, by omega⟩

theorem both_loop (l : List T_api_Value) (hl : wts l ≤ 1048576) (ih : ∀ k ∈ l, Ev (fun f => mastref2_ValuesOf.f f k) (nT k : Int)) : ∀ (d j a : Nat), l.length - j ≤ d → j ≤ l.length → a + nTs (l.drop j) ≤ 1048577 →
    Ev (fun f => mastref2_ValuesOf.l0 f (a : Int) l (llen l) (j : Int)) ((a + nTs (l.drop j) : Nat) : Int) := by
  have hlen := len_le l
  have fin : ∀ j a : Nat, l.length ≤ j → Ev (fun f => mastref2_ValuesOf.l0 f (a : Int) l (llen l) (j : Int)) ((a + nTs (l.drop j) : Nat) : Int) := fun j a h => by
    rw [List.drop_eq_nil_of_le h]
    refine Ev.step (g := fun _ => some (a : Int)) (fun k => ?_) (Ev.now fun _ => by simp [nTs])
    simp only [mastref2_ValuesOf.l0, llen_eq, ilt_f (show (l.length : Int) ≤ (j : Int) by omega), cond_false]
  intro d
  induction d with
  | zero => intro j a hd hj hb; exact fin j a (by omega)
  | succ d ihd =>
    intro j a hd hj hb
    rcases Nat.lt_or_ge j l.length with hlt | hge
    · rw [List.drop_eq_getElem_cons hlt] at hb ⊢
      simp only [nTs] at hb ⊢
      have q1 := ihd (j + 1) (a + nT l[j]) (by omega) hlt (by omega)
      have w : wadd .i64 (a : Int) (nT l[j] : Int) = ((a + nT l[j] : Nat) : Int) := by rw [wadd64 (by omega) (by omega)]; omega
      rw [show a + (nT l[j] + nTs (l.drop (j + 1))) = a + nT l[j] + nTs (l.drop (j + 1)) by omega]
      refine Ev.step (g := fun k => (mastref2_ValuesOf.f k l[j]).bind fun y2 => mastref2_ValuesOf.l0 k (wadd .i64 (a : Int) y2) l (llen l) ((j + 1 : Nat) : Int)) (fun k => ?_) (Ev.bind (ih _ (List.getElem_mem hlt)) (by rw [w]; exact q1))
      simp only [mastref2_ValuesOf.l0, llen_eq, ilt_t (show (j : Int) < (l.length : Int) by omega), cond_true, lat_lt hlt, Option.bind_some, eta, u0 (show j ≤ 4611686018427387904 by omega)]
    · exact fin j a hge
theorem values_ok : ∀ t, wt t ≤ 1048576 → Ev (fun f => mastref2_ValuesOf.f f t) (nT t : Int) := tree fun t ih hn => by
  have h0 := nTs_wts t.fItems
  rw [wt_eq] at hn
  have := both_loop t.fItems (by omega) (fun k hk => ih k hk (by have := wt_mem hk; omega)) t.fItems.length 0 1 (by omega) (by omega) (by rw [List.drop_zero]; omega)
  rw [List.drop_zero, Nat.add_comm 1] at this
  rw [nT_eq]
  exact Ev.step (fun k => by simp only [mastref2_ValuesOf.f]; rfl) this
theorem levels_loop_conf (l : List T_api_Value) (hl : wts l ≤ 1048576) (ih : ∀ k ∈ l, Ev (fun f => conf_levels.f f k) (lv k : Int)) : ∀ (d j a : Nat), l.length - j ≤ d → j ≤ l.length → a ≤ 1048576 →
    Ev (fun f => conf_levels.l0 f (a : Int) l (llen l) (j : Int)) ((max a (lvs (l.drop j)) + 1 : Nat) : Int) := by
  have hlen := len_le l
  have hlv := fun k (hk : k ∈ l) => (show lv k ≤ 1048576 by have h1 := wt_mem hk; have h2 := lv_wt k; omega)
  have fin : ∀ j a : Nat, l.length ≤ j → a ≤ 1048576 → Ev (fun f => conf_levels.l0 f (a : Int) l (llen l) (j : Int)) ((max a (lvs (l.drop j)) + 1 : Nat) : Int) := fun j a h ha => by
    rw [List.drop_eq_nil_of_le h]
    refine Ev.step (g := fun _ => some ((max a (lvs []) + 1 : Nat) : Int)) (fun k => ?_) (Ev.now fun _ => rfl)
    simp only [conf_levels.l0, llen_eq, ilt_f (show (l.length : Int) ≤ (j : Int) by omega), cond_false, lvs, u0 (show a ≤ 4611686018427387904 by omega)]
    simp
  intro d
  induction d with
  | zero => intro j a hd hj ha; exact fin j a (by omega) ha
  | succ d ihd =>
    intro j a hd hj ha
    rcases Nat.lt_or_ge j l.length with hlt | hge
    · rw [List.drop_eq_getElem_cons hlt]
      have hk := hlv _ (List.getElem_mem hlt)
      have := ihd (j + 1) (max a (lv l[j])) (by omega) hlt (by omega)
      rw [show max (max a (lv l[j])) (lvs (l.drop (j + 1))) = max a (lvs (l[j] :: l.drop (j + 1))) by simp only [lvs]; omega] at this
      refine Ev.step (g := fun k => (conf_levels.f k l[j]).bind fun y2 => conf_levels.l0 k (imax (a : Int) y2) l (llen l) ((j + 1 : Nat) : Int)) (fun k => ?_) (Ev.bind (ih _ (List.getElem_mem hlt)) (by rw [imax_nat]; exact this))
      simp only [conf_levels.l0, llen_eq, ilt_t (show (j : Int) < (l.length : Int) by omega), cond_true, lat_lt hlt, Option.bind_some, eta, u0 (show j ≤ 4611686018427387904 by omega)]
    · exact fin j a hge ha
theorem levels_conf : ∀ t, wt t ≤ 1048576 → Ev (fun f => conf_levels.f f t) (lv t : Int) := tree fun t ih hn => by
  rw [wt_eq] at hn
  have := levels_loop_conf t.fItems (by omega) (fun k hk => ih k hk (by have := wt_mem hk; omega)) t.fItems.length 0 0 (by omega) (by omega) (by omega)
  rw [List.drop_zero, Nat.zero_max] at this
  rw [lv_eq]
  exact Ev.step (fun k => by simp only [conf_levels.f]; rfl) this

theorem levels_loop_ref (l : List T_api_Value) (hl : wts l ≤ 1048576) (ih : ∀ k ∈ l, Ev (fun f => mastref2_LevelsOf.f f k) (lv k : Int)) : ∀ (d j a : Nat), l.length - j ≤ d → j ≤ l.length → a ≤ 1048576 →
    Ev (fun f => mastref2_LevelsOf.l0 f (a : Int) l (llen l) (j : Int)) ((max a (lvs (l.drop j)) + 1 : Nat) : Int) := by
  have hlen := len_le l
  have hlv := fun k (hk : k ∈ l) => (show lv k ≤ 1048576 by have h1 := wt_mem hk; have h2 := lv_wt k; omega)
  have fin : ∀ j a : Nat, l.length ≤ j → a ≤ 1048576 → Ev (fun f => mastref2_LevelsOf.l0 f (a : Int) l (llen l) (j : Int)) ((max a (lvs (l.drop j)) + 1 : Nat) : Int) := fun j a h ha => by
    rw [List.drop_eq_nil_of_le h]
    refine Ev.step (g := fun _ => some ((max a (lvs []) + 1 : Nat) : Int)) (fun k => ?_) (Ev.now fun _ => rfl)
    simp only [mastref2_LevelsOf.l0, llen_eq, ilt_f (show (l.length : Int) ≤ (j : Int) by omega), cond_false, lvs, u0 (show a ≤ 4611686018427387904 by omega)]
    simp
  intro d
  induction d with
  | zero => intro j a hd hj ha; exact fin j a (by omega) ha
  | succ d ihd =>
    intro j a hd hj ha
    rcases Nat.lt_or_ge j l.length with hlt | hge
    · rw [List.drop_eq_getElem_cons hlt]
      have hk := hlv _ (List.getElem_mem hlt)
      have := ihd (j + 1) (max a (lv l[j])) (by omega) hlt (by omega)
      rw [show max (max a (lv l[j])) (lvs (l.drop (j + 1))) = max a (lvs (l[j] :: l.drop (j + 1))) by simp only [lvs]; omega] at this
      refine Ev.step (g := fun k => (mastref2_LevelsOf.f k l[j]).bind fun y2 => mastref2_LevelsOf.l0 k (imax (a : Int) y2) l (llen l) ((j + 1 : Nat) : Int)) (fun k => ?_) (Ev.bind (ih _ (List.getElem_mem hlt)) (by rw [imax_nat]; exact this))
      simp only [mastref2_LevelsOf.l0, llen_eq, ilt_t (show (j : Int) < (l.length : Int) by omega), cond_true, lat_lt hlt, Option.bind_some, eta, u0 (show j ≤ 4611686018427387904 by omega)]
    · exact fin j a hge ha
theorem levels_ref : ∀ t, wt t ≤ 1048576 → Ev (fun f => mastref2_LevelsOf.f f t) (lv t : Int) := tree fun t ih hn => by
  rw [wt_eq] at hn
  have := levels_loop_ref t.fItems (by omega) (fun k hk => ih k hk (by have := wt_mem hk; omega)) t.fItems.length 0 0 (by omega) (by omega) (by omega)
  rw [List.drop_zero, Nat.zero_max] at this
  rw [lv_eq]
  exact Ev.step (fun k => by simp only [mastref2_LevelsOf.f]; rfl) this


/-! Bad bytes. -/
def badB (b : UInt8) : Bool := ilt (b.toNat : Int) 32 && (!ieq (b.toNat : Int) 9 && !ieq (b.toNat : Int) 10)
def bad (s : ByteArray) : Bool := s.data.toList.any badB
theorem bad_conf (s : ByteArray) (hs : s.size ≤ 2000000) : Ev (fun k => conf_badBytes.f k s) (bad s) := by
  have hl := size_l s
  have h := find_pure s.data.toList 0 (Nat.zero_le _) (fun k j => conf_badBytes.l0 k s (j : Int)) (fun _ => some false) badB (fun _ => true) false
    (fun k j h => by
      simp only [conf_badBytes.l0, slen_l, ilen _ _ h, cond_true, sat_l h, Option.bind_some, u0 (show j ≤ 4611686018427387904 by omega), badB]
      cases ilt (s.data.toList[j].toNat : Int) 32 <;> cases ieq (s.data.toList[j].toNat : Int) 9 <;> cases ieq (s.data.toList[j].toNat : Int) 10 <;> rfl)
    (fun k => by simp only [conf_badBytes.l0, slen_l, ilen', cond_false]) (Ev.now fun _ => rfl)
  rw [List.drop_zero, fl_const] at h
  refine Ev.congr (fun k => by simp only [conf_badBytes.f]; rfl) (show Ev _ (bad s) from ?_)
  unfold bad
  rw [show (s.data.toList.any badB) = (bif s.data.toList.any badB then true else false) by cases s.data.toList.any badB <;> rfl]
  exact h

theorem bad_ref (s : ByteArray) (hs : s.size ≤ 2000000) : Ev (fun k => mastref2_badByte.f k s) (bad s) := by
  have hl := size_l s
  have h := find_pure s.data.toList 0 (Nat.zero_le _) (fun k j => mastref2_badByte.l0 k s (j : Int)) (fun _ => some false) badB (fun _ => true) false
    (fun k j h => by
      simp only [mastref2_badByte.l0, slen_l, ilen _ _ h, cond_true, sat_l h, Option.bind_some, u0 (show j ≤ 4611686018427387904 by omega), badB]
      cases ilt (s.data.toList[j].toNat : Int) 32 <;> cases ieq (s.data.toList[j].toNat : Int) 9 <;> cases ieq (s.data.toList[j].toNat : Int) 10 <;> rfl)
    (fun k => by simp only [mastref2_badByte.l0, slen_l, ilen', cond_false]) (Ev.now fun _ => rfl)
  rw [List.drop_zero, fl_const] at h
  refine Ev.congr (fun k => by simp only [mastref2_badByte.f]; rfl) (show Ev _ (bad s) from ?_)
  unfold bad
  rw [show (s.data.toList.any badB) = (bif s.data.toList.any badB then true else false) by cases s.data.toList.any badB <;> rfl]
  exact h


/-! Keys. -/
def small (c : UInt8) : Bool := bif ile 97 (c.toNat : Int) then ile (c.toNat : Int) 122 else false
def ins (c : UInt8) : Bool := small c || (bif ile 48 (c.toNat : Int) then ile (c.toNat : Int) 57 else false) || ieq (c.toNat : Int) 45 || ieq (c.toNat : Int) 95
def keyL : List UInt8 → Bool
  | [] => false
  | c :: r => decide (r.length < 40) && small c && r.all ins
def key (s : ByteArray) : Bool := keyL s.data.toList
theorem seq_empty (s : ByteArray) : seq s c_empty = s.data.toList.isEmpty := by
  unfold seq
  rw [ByteArray.toList_eq, ByteArray.toList_eq]
  cases h : s.data.toList <;> rfl
theorem all_ins (r : List UInt8) : (bif r.any fun c => !ins c then false else true) = r.all ins := by
  rw [List.all_eq_not_any_not]
  cases r.any fun c => !ins c <;> rfl
theorem key_conf (s : ByteArray) : Ev (fun k => conf_isKey.f k s) (key s) := by
  cases h : s.data.toList with
  | nil => exact Ev.now fun k => by simp only [conf_isKey.f, seq_empty, h, key, keyL, List.isEmpty_nil, cond_true]
  | cons c r =>
    by_cases hl : r.length < 40
    · have hl' : s.data.toList.length ≤ 40 := by rw [h]; simp; omega
      cases hc : small c with
      | false =>
        refine Ev.now fun k => ?_
        simp only [conf_isKey.f, seq_empty, h, key, keyL, List.isEmpty_cons, cond_false, slen_l, ilt_f (show ((c :: r).length : Int) ≤ 40 by rw [← h]; omega), sat_0 h, Option.bind_some, conf_isSmall.f, hc, Bool.and_false, Bool.false_and]
        rw [show (bif ile 97 (c.toNat : Int) then ile (c.toNat : Int) 122 else false) = small c from rfl, hc]
        rfl
      | true =>
        have q := find_pure s.data.toList 1 (by rw [h]; simp) (fun k j => conf_isKey.l0 k s (j : Int)) (fun _ => some true) (fun c => !ins c) (fun _ => false) true
          (fun k j h => by
            simp only [conf_isKey.l0, slen_l, ilen _ _ h, cond_true, sat_l h, Option.bind_some, u0 (show j ≤ 4611686018427387904 by omega), conf_isSmall.f, conf_isDigit.f, ins, small]
            cases (bif ile 97 (s.data.toList[j].toNat : Int) then ile (s.data.toList[j].toNat : Int) 122 else false) <;> cases (bif ile 48 (s.data.toList[j].toNat : Int) then ile (s.data.toList[j].toNat : Int) 57 else false) <;> cases ieq (s.data.toList[j].toNat : Int) 45 <;> cases ieq (s.data.toList[j].toNat : Int) 95 <;> rfl)
          (fun k => by simp only [conf_isKey.l0, slen_l, ilen', cond_false]) (Ev.now fun _ => rfl)
        rw [fl_const, h, List.drop_succ_cons, List.drop_zero, all_ins] at q
        have e : key s = r.all ins := by unfold key; rw [h]; simp [keyL, hl, hc]
        rw [e]
        refine Ev.congr (fun k => ?_) q
        simp only [conf_isKey.f, seq_empty, h, List.isEmpty_cons, cond_false, slen_l, ilt_f (show ((c :: r).length : Int) ≤ 40 by rw [← h]; omega), sat_0 h, Option.bind_some, conf_isSmall.f]
        rw [show (bif ile 97 (c.toNat : Int) then ile (c.toNat : Int) 122 else false) = small c from rfl, hc]
        rfl
    · refine Ev.now fun k => ?_
      simp only [conf_isKey.f, seq_empty, h, key, keyL, List.isEmpty_cons, cond_false, slen_l, ilt_t (show (40 : Int) < ((c :: r).length : Int) by simp; omega), cond_true, decide_eq_false hl, Bool.false_and]

theorem mem_dw {α : Type} {p : α → Bool} : ∀ {l : List α} {x : α}, x ∈ l → p x = false → x ∈ l.dropWhile p
  | a :: l, x, h, hp => by
    rw [List.dropWhile_cons]
    split
    · rename_i ha
      rcases List.mem_cons.1 h with rfl | h
      · rw [hp] at ha; cases ha
      · exact mem_dw h hp
    · exact h
theorem dw_nil {α : Type} {p : α → Bool} : ∀ {l : List α}, (∀ x ∈ l, p x = true) → l.dropWhile p = []
  | [], _ => rfl
  | a :: l, h => by rw [List.dropWhile_cons, if_pos (h a (List.mem_cons_self ..))]; exact dw_nil fun x hx => h x (List.mem_cons_of_mem _ hx)
theorem trim_nil (l cs : List UInt8) : (Lib.trimS l cs).isEmpty = l.all (cs.contains ·) := by
  unfold Lib.trimS Lib.trimLeftS Lib.trimRightS
  cases h : l.all (cs.contains ·) with
  | true =>
    have h := List.all_eq_true.1 h
    rw [dw_nil (l := l.reverse) fun x hx => h x (List.mem_reverse.1 hx)]
    rfl
  | false =>
    obtain ⟨x, hx, hp⟩ : ∃ x ∈ l, cs.contains x = false := by
      rcases List.all_eq_false.1 h with ⟨x, hx, hp⟩
      exact ⟨x, hx, by simpa using hp⟩
    have h1 : x ∈ (l.reverse.dropWhile (cs.contains ·)).reverse := List.mem_reverse.2 (mem_dw (List.mem_reverse.2 hx) hp)
    have h2 := mem_dw h1 hp
    cases e : List.dropWhile (cs.contains ·) (l.reverse.dropWhile (cs.contains ·)).reverse with
    | nil => rw [e] at h2; cases h2
    | cons _ _ => rfl
theorem set_ins (c : UInt8) : c_abcdefghijklmnopqrst_0e2e2cf4.data.toList.contains c = ins c := by
  have h : ∀ n : Fin 256, c_abcdefghijklmnopqrst_0e2e2cf4.data.toList.contains (UInt8.ofNat n.val) = ins (UInt8.ofNat n.val) := by decide +kernel
  have := h ⟨c.toNat, c.toNat_lt⟩
  simpa using this
theorem keyR_ok (s : ByteArray) (hs : s.size ≤ 2000000) : mastref2_IsKey.f s = some (key s) := by
  unfold mastref2_IsKey.f key
  rw [seq_empty, slen_l]
  have hc : strings_Trim.f s c_abcdefghijklmnopqrst_0e2e2cf4 = some ⟨(Lib.trimS s.data.toList c_abcdefghijklmnopqrst_0e2e2cf4.data.toList).toArray⟩ := by
    unfold strings_Trim.f
    rw [if_pos ⟨by omega, by decide, by decide +kernel⟩]
  rw [hc]
  cases h : s.data.toList with
  | nil => simp [keyL]
  | cons c r =>
    simp only [List.isEmpty_cons, cond_false, sat_0 h, Option.bind_some, keyL]
    by_cases hl : r.length < 40
    · rw [ilt_f (show ((c :: r).length : Int) ≤ 40 by simp; omega), cond_false, decide_eq_true hl, Bool.true_and]
      unfold small
      rw [ilt_d, ilt_d, ile_d, ile_d]
      by_cases h1 : (c.toNat : Int) < 97
      · simp [h1, show ¬ (97 : Int) ≤ c.toNat by omega]
      · by_cases h2 : (122 : Int) < c.toNat
        · simp [h1, h2, show ¬ (c.toNat : Int) ≤ 122 by omega]
        · rw [decide_eq_false h1, decide_eq_false h2, decide_eq_true (show (97 : Int) ≤ c.toNat by omega), decide_eq_true (show (c.toNat : Int) ≤ 122 by omega)]
          simp only [cond_false, cond_true, Bool.true_and]
          rw [seq_empty]
          show some (Lib.trimS (c :: r) _).isEmpty = _
          rw [trim_nil, show (fun x => c_abcdefghijklmnopqrst_0e2e2cf4.data.toList.contains x) = ins from funext set_ins, List.all_cons]
          have : ins c = true := by
            unfold ins small
            rw [ile_t (show (97 : Int) ≤ c.toNat by omega), ile_t (show (c.toNat : Int) ≤ 122 by omega)]
            rfl
          rw [this]; rfl
    · rw [ilt_t (show (40 : Int) < ((c :: r).length : Int) by simp; omega), cond_true, decide_eq_false hl]
      rfl

/-- What is wrong with the keys. -/
def ks : Option ByteArray → List ByteArray → Int
  | _, [] => 0
  | p, x :: r => bif !key x then 12 else bif (match p with | none => false | some y => sle x y) then 5 else ks (some x) r
def prev (l : List ByteArray) : Nat → Option ByteArray
  | 0 => none
  | j + 1 => l[j]?
theorem prev_succ {l : List ByteArray} {j : Nat} (h : j < l.length) : prev l (j + 1) = some l[j] := List.getElem?_eq_getElem h
theorem keys_loop_conf (k0 : Int) (b0 : Bool) (i0 : Int) (t0 : ByteArray) (is0 : List T_api_Value) (l : List ByteArray) (hl : kz l ≤ 1048576) : ∀ (d j : Nat), l.length - j ≤ d → j ≤ l.length →
    Ev (fun k => conf_valueFault.l1 k k0 b0 i0 t0 is0 l l (llen l) (j : Int)) (ks (prev l j) (l.drop j)) := by
  have hlen := klen_le l
  intro d
  have fin : ∀ j : Nat, l.length ≤ j → Ev (fun k => conf_valueFault.l1 k k0 b0 i0 t0 is0 l l (llen l) (j : Int)) (ks (prev l j) (l.drop j)) := fun j h => by
    rw [List.drop_eq_nil_of_le h]
    refine Ev.step (fun k => ?_) (show Ev (fun _ => some 0) (ks (prev l j) []) from Ev.now fun _ => rfl)
    simp only [conf_valueFault.l1, llen_eq, ilt_f (show (l.length : Int) ≤ (j : Int) by omega), cond_false]
  induction d with
  | zero => intro j hd hj; exact fin j (by omega)
  | succ d ihd =>
    intro j hd hj
    rcases Nat.lt_or_ge j l.length with hlt | hge
    · rw [List.drop_eq_getElem_cons hlt]
      have hr := ihd (j + 1) (by omega) hlt
      rw [prev_succ hlt] at hr
      have hkz := kz_mem (List.getElem_mem hlt)
      cases hk : key l[j] with
      | false =>
        refine Ev.step (fun k => by simp only [conf_valueFault.l1, llen_eq, ilt_t (show (j : Int) < (l.length : Int) by omega), cond_true, lat_lt hlt, Option.bind_some]; rfl) (Ev.bind (key_conf l[j]) ?_)
        rw [hk]
        exact Ev.now fun _ => by simp [ks, hk]
      | true =>
        cases j with
        | zero =>
          have e : ks (prev l 0) (l[0] :: l.drop 1) = ks (some l[0]) (l.drop 1) := by simp [ks, hk, prev]
          rw [e]
          refine Ev.step (fun k => by simp only [conf_valueFault.l1, llen_eq, ilt_t (show ((0 : Nat) : Int) < (l.length : Int) by omega), cond_true, lat_lt hlt, Option.bind_some]; rfl) (Ev.bind (key_conf l[0]) ?_)
          rw [hk]
          simp only [Bool.not_true, cond_false, ilt_f (show ((0 : Nat) : Int) ≤ 0 by omega), u0 (show 0 ≤ 4611686018427387904 by omega)]
          exact hr
        | succ i =>
          have hi : i < l.length := by omega
          have w : wsub .i64 ((i + 1 : Nat) : Int) 1 = (i : Int) := by rw [wsub64 (by omega) (by omega)]; omega
          rw [prev_succ hi]
          cases hle : sle l[i + 1] l[i] with
          | true =>
            have e : ks (some l[i]) (l[i + 1] :: l.drop (i + 1 + 1)) = 5 := by simp [ks, hk, hle]
            rw [e]
            refine Ev.step (fun k => by simp only [conf_valueFault.l1, llen_eq, ilt_t (show ((i + 1 : Nat) : Int) < (l.length : Int) by omega), cond_true, lat_lt hlt, Option.bind_some]; rfl) (Ev.bind (key_conf l[i + 1]) ?_)
            rw [hk]
            simp only [Bool.not_true, cond_false, ilt_t (show (0 : Int) < ((i + 1 : Nat) : Int) by omega), cond_true, w, lat_lt hi, Option.bind_some, hle, u0 (show i + 1 ≤ 4611686018427387904 by omega)]
            exact Ev.now fun _ => rfl
          | false =>
            have e : ks (some l[i]) (l[i + 1] :: l.drop (i + 1 + 1)) = ks (some l[i + 1]) (l.drop (i + 1 + 1)) := by simp [ks, hk, hle]
            rw [e]
            refine Ev.step (fun k => by simp only [conf_valueFault.l1, llen_eq, ilt_t (show ((i + 1 : Nat) : Int) < (l.length : Int) by omega), cond_true, lat_lt hlt, Option.bind_some]; rfl) (Ev.bind (key_conf l[i + 1]) ?_)
            rw [hk]
            simp only [Bool.not_true, cond_false, ilt_t (show (0 : Int) < ((i + 1 : Nat) : Int) by omega), cond_true, w, lat_lt hi, Option.bind_some, hle, u0 (show i + 1 ≤ 4611686018427387904 by omega)]
            exact hr
    · exact fin j hge
theorem keys_conf (k0 : Int) (b0 : Bool) (i0 : Int) (t0 : ByteArray) (is0 : List T_api_Value) (l : List ByteArray) (hl : kz l ≤ 1048576) : Ev (fun k => conf_valueFault.l1 k k0 b0 i0 t0 is0 l l (llen l) 0) (ks none l) := by
  have := keys_loop_conf k0 b0 i0 t0 is0 l hl  l.length 0 (by omega) (by omega)
  rw [List.drop_zero] at this
  exact this

theorem keys_loop_ref (k0 : Int) (b0 : Bool) (i0 : Int) (t0 : ByteArray) (is0 : List T_api_Value) (l : List ByteArray) (hl : kz l ≤ 1048576) (e : Int) (he : Ev (fun k => mastref2_eachValue.l1 k is0 (llen is0) 0) e) : ∀ (d j : Nat), l.length - j ≤ d → j ≤ l.length →
    Ev (fun k => mastref2_eachValue.l0 k k0 b0 i0 t0 is0 l l (llen l) (j : Int)) (bif ieq (ks (prev l j) (l.drop j)) 0 then e else ks (prev l j) (l.drop j)) := by
  have hlen := klen_le l
  intro d
  have fin : ∀ j : Nat, l.length ≤ j → Ev (fun k => mastref2_eachValue.l0 k k0 b0 i0 t0 is0 l l (llen l) (j : Int)) (bif ieq (ks (prev l j) (l.drop j)) 0 then e else ks (prev l j) (l.drop j)) := fun j h => by
    rw [List.drop_eq_nil_of_le h]
    refine Ev.step (fun k => ?_) (show Ev (fun k => mastref2_eachValue.l1 k is0 (llen is0) 0) (bif ieq (ks (prev l j) []) 0 then e else ks (prev l j) []) from he)
    simp only [mastref2_eachValue.l0, llen_eq, ilt_f (show (l.length : Int) ≤ (j : Int) by omega), cond_false]
  induction d with
  | zero => intro j hd hj; exact fin j (by omega)
  | succ d ihd =>
    intro j hd hj
    rcases Nat.lt_or_ge j l.length with hlt | hge
    · rw [List.drop_eq_getElem_cons hlt]
      have hr := ihd (j + 1) (by omega) hlt
      rw [prev_succ hlt] at hr
      have hkz := kz_mem (List.getElem_mem hlt)
      cases hk : key l[j] with
      | false =>
        refine Ev.step (g := fun _ => some 12) (fun k => ?_) (Ev.now fun _ => by simp [ks, hk, ieq])
        simp only [mastref2_eachValue.l0, llen_eq, ilt_t (show (j : Int) < (l.length : Int) by omega), cond_true, lat_lt hlt, Option.bind_some, keyR_ok l[j] (by omega), hk, Bool.not_false]
      | true =>
        cases j with
        | zero =>
          have e : ks (prev l 0) (l[0] :: l.drop 1) = ks (some l[0]) (l.drop 1) := by simp [ks, hk, prev]
          rw [e]
          refine Ev.step (fun k => ?_) hr
          simp only [mastref2_eachValue.l0, llen_eq, ilt_t (show ((0 : Nat) : Int) < (l.length : Int) by omega), cond_true, lat_lt hlt, Option.bind_some, keyR_ok l[0] (by omega), hk, Bool.not_true, cond_false, ilt_f (show ((0 : Nat) : Int) ≤ 0 by omega), u0 (show 0 ≤ 4611686018427387904 by omega)]
        | succ i =>
          have hi : i < l.length := by omega
          have w : wsub .i64 ((i + 1 : Nat) : Int) 1 = (i : Int) := by rw [wsub64 (by omega) (by omega)]; omega
          rw [prev_succ hi]
          cases hle : sle l[i + 1] l[i] with
          | true =>
            have e : ks (some l[i]) (l[i + 1] :: l.drop (i + 1 + 1)) = 5 := by simp [ks, hk, hle]
            rw [e]
            refine Ev.step (g := fun _ => some 5) (fun k => ?_) (Ev.now fun _ => rfl)
            simp only [mastref2_eachValue.l0, llen_eq, ilt_t (show ((i + 1 : Nat) : Int) < (l.length : Int) by omega), cond_true, lat_lt hlt, Option.bind_some, keyR_ok l[i + 1] (by omega), hk, Bool.not_true, cond_false, ilt_t (show (0 : Int) < ((i + 1 : Nat) : Int) by omega), w, lat_lt hi, hle, u0 (show i + 1 ≤ 4611686018427387904 by omega)]
          | false =>
            have e : ks (some l[i]) (l[i + 1] :: l.drop (i + 1 + 1)) = ks (some l[i + 1]) (l.drop (i + 1 + 1)) := by simp [ks, hk, hle]
            rw [e]
            refine Ev.step (fun k => ?_) hr
            simp only [mastref2_eachValue.l0, llen_eq, ilt_t (show ((i + 1 : Nat) : Int) < (l.length : Int) by omega), cond_true, lat_lt hlt, Option.bind_some, keyR_ok l[i + 1] (by omega), hk, Bool.not_true, cond_false, ilt_t (show (0 : Int) < ((i + 1 : Nat) : Int) by omega), w, lat_lt hi, hle, u0 (show i + 1 ≤ 4611686018427387904 by omega)]
    · exact fin j hge
theorem keys_ref (k0 : Int) (b0 : Bool) (i0 : Int) (t0 : ByteArray) (is0 : List T_api_Value) (l : List ByteArray) (hl : kz l ≤ 1048576) (e : Int) (he : Ev (fun k => mastref2_eachValue.l1 k is0 (llen is0) 0) e) : Ev (fun k => mastref2_eachValue.l0 k k0 b0 i0 t0 is0 l l (llen l) 0) (bif ieq (ks none l) 0 then e else ks (none) (l)) := by
  have := keys_loop_ref k0 b0 i0 t0 is0 l hl e he l.length 0 (by omega) (by omega)
  rw [List.drop_zero] at this
  exact this


/-! One value. -/
def un (v : T_api_Value) : Bool := (v.fBool && !ieq v.fKind 1) || ((!ieq v.fInt 0 && !ieq v.fKind 2) && !ieq v.fKind 4) || (!seq v.fText c_empty && !ieq v.fKind 3) || ((ilt 0 (llen v.fItems) && !ieq v.fKind 5) && !ieq v.fKind 6) || (ilt 0 (llen v.fKeys) && !ieq v.fKind 6)
def un2 (v : T_api_Value) : Bool := ieq v.fKind 6 && !ieq (llen v.fKeys) (llen v.fItems)
def own (v : T_api_Value) : Int :=
  bif ilt v.fKind 0 || ilt 6 v.fKind then 10 else bif un v || un2 v then 1 else bif ieq v.fKind 4 && (ilt v.fInt 0 || ilt 84005 v.fInt) then 2 else bif ilt 5000 (slen v.fText) then 4 else bif bad v.fText then 9 else ks none v.fKeys
mutual
def vf : T_api_Value → Int
  | ⟨k, b, i, t, is, s⟩ => bif ieq (own ⟨k, b, i, t, is, s⟩) 0 then vfs is else own ⟨k, b, i, t, is, s⟩
def vfs : List T_api_Value → Int
  | [] => 0
  | t :: r => bif ieq (vf t) 0 then vfs r else vf t
end
theorem vf_eq (t : T_api_Value) : vf t = bif ieq (own t) 0 then vfs t.fItems else own t := by cases t; simp [vf]
theorem vfs_find : ∀ (l : List T_api_Value) (v : Int), (∃ t ∈ l, vf t ≠ 0 ∧ True) ∨ vfs l = 0 := fun l v => by
  induction l with
  | nil => exact .inr rfl
  | cons a l ih =>
    by_cases h : vf a = 0
    · rcases ih with ⟨t, h1, h2⟩ | h2
      · exact .inl ⟨t, List.mem_cons_of_mem _ h1, h2⟩
      · right; simp only [vfs, ieq_t h, cond_true]; exact h2
    · exact .inl ⟨a, List.mem_cons_self .., h, trivial⟩
theorem items_conf (l : List T_api_Value) (hl : wts l ≤ 1048576) (ih : ∀ k ∈ l, Ev (fun f => conf_valuesFault.f f k) (vf k)) : Ev (fun k => conf_valuesFault.l0 k l (llen l) 0) (vfs l) := by
  have hlen := len_le l
  have : ∀ (d j : Nat), l.length - j ≤ d → j ≤ l.length → Ev (fun k => conf_valuesFault.l0 k l (llen l) (j : Int)) (vfs (l.drop j)) := by
    intro d
    have fin : ∀ j : Nat, l.length ≤ j → Ev (fun k => conf_valuesFault.l0 k l (llen l) (j : Int)) (vfs (l.drop j)) := fun j h => by
      rw [List.drop_eq_nil_of_le h]
      refine Ev.step (g := fun _ => some 0) (fun k => ?_) (Ev.now fun _ => rfl)
      simp only [conf_valuesFault.l0, llen_eq, ilt_f (show (l.length : Int) ≤ (j : Int) by omega), cond_false]
    induction d with
    | zero => intro j hd hj; exact fin j (by omega)
    | succ d ihd =>
      intro j hd hj
      rcases Nat.lt_or_ge j l.length with hlt | hge
      · rw [List.drop_eq_getElem_cons hlt]
        refine Ev.step (fun k => by simp only [conf_valuesFault.l0, llen_eq, ilt_t (show (j : Int) < (l.length : Int) by omega), cond_true, lat_lt hlt, Option.bind_some, eta]; rfl) (Ev.bind (ih _ (List.getElem_mem hlt)) ?_)
        simp only [vfs, u0 (show j ≤ 4611686018427387904 by omega)]
        cases ieq (vf l[j]) 0 with
        | true => exact ihd (j + 1) (by omega) hlt
        | false => exact Ev.now fun _ => rfl
      · exact fin j hge
  have := this l.length 0 (by omega) (by omega)
  rw [List.drop_zero] at this
  exact this

theorem items_ref (l : List T_api_Value) (hl : wts l ≤ 1048576) (ih : ∀ k ∈ l, Ev (fun f => mastref2_eachValue.f f k) (vf k)) : Ev (fun k => mastref2_eachValue.l1 k l (llen l) 0) (vfs l) := by
  have hlen := len_le l
  have : ∀ (d j : Nat), l.length - j ≤ d → j ≤ l.length → Ev (fun k => mastref2_eachValue.l1 k l (llen l) (j : Int)) (vfs (l.drop j)) := by
    intro d
    have fin : ∀ j : Nat, l.length ≤ j → Ev (fun k => mastref2_eachValue.l1 k l (llen l) (j : Int)) (vfs (l.drop j)) := fun j h => by
      rw [List.drop_eq_nil_of_le h]
      refine Ev.step (g := fun _ => some 0) (fun k => ?_) (Ev.now fun _ => rfl)
      simp only [mastref2_eachValue.l1, llen_eq, ilt_f (show (l.length : Int) ≤ (j : Int) by omega), cond_false]
    induction d with
    | zero => intro j hd hj; exact fin j (by omega)
    | succ d ihd =>
      intro j hd hj
      rcases Nat.lt_or_ge j l.length with hlt | hge
      · rw [List.drop_eq_getElem_cons hlt]
        refine Ev.step (fun k => by simp only [mastref2_eachValue.l1, llen_eq, ilt_t (show (j : Int) < (l.length : Int) by omega), cond_true, lat_lt hlt, Option.bind_some, eta]; rfl) (Ev.bind (ih _ (List.getElem_mem hlt)) ?_)
        simp only [vfs, u0 (show j ≤ 4611686018427387904 by omega)]
        cases ieq (vf l[j]) 0 with
        | true => exact ihd (j + 1) (by omega) hlt
        | false => exact Ev.now fun _ => rfl
      · exact fin j hge
  have := this l.length 0 (by omega) (by omega)
  rw [List.drop_zero] at this
  exact this


theorem unused_ok (v : T_api_Value) : Ev (fun k => conf_unused.f k v) (un v || un2 v) := by
  have l0 : ∀ b : Bool, Ev (fun k => conf_unused.l0 k v.fKind v.fBool v.fInt v.fText v.fItems v.fKeys v.fKind b) (b || ((ilt 0 (llen v.fItems) && !ieq v.fKind 5) && !ieq v.fKind 6) || (ilt 0 (llen v.fKeys) && !ieq v.fKind 6) || un2 v) := fun b => by
    refine Ev.step (g := fun _ => some (b || ((ilt 0 (llen v.fItems) && !ieq v.fKind 5) && !ieq v.fKind 6) || (ilt 0 (llen v.fKeys) && !ieq v.fKind 6) || un2 v)) (fun k => ?_) (Ev.now fun _ => rfl)
    simp only [conf_unused.l0, un2]
    cases b <;> cases ilt 0 (llen v.fItems) <;> cases ieq v.fKind 5 <;> cases ieq v.fKind 6 <;> cases ilt 0 (llen v.fKeys) <;> cases ieq (llen v.fKeys) (llen v.fItems) <;> rfl
  have l1 := l0 (v.fBool && !ieq v.fKind 1 || ((!ieq v.fInt 0 && !ieq v.fKind 2) && !ieq v.fKind 4) || (!seq v.fText c_empty && !ieq v.fKind 3))
  refine Ev.congr (fun k => ?_) l1
  simp only [conf_unused.f]
  cases v.fBool <;> cases ieq v.fKind 1 <;> cases ieq v.fInt 0 <;> cases ieq v.fKind 2 <;> cases ieq v.fKind 4 <;> cases seq v.fText c_empty <;> cases ieq v.fKind 3 <;> rfl

theorem own_ok (v : T_api_Value) (hv : wt v ≤ 1048576) : Ev (fun k => conf_valueFault.f k v) (own v) := by
  rw [wt_eq] at hv
  have l0 : ∀ b : Bool, Ev (fun k => conf_valueFault.l0 k v.fKind v.fBool v.fInt v.fText v.fItems v.fKeys b) (bif b then 2 else bif ilt 5000 (slen v.fText) then 4 else bif bad v.fText then 9 else ks none v.fKeys) := fun b => by
    cases b with
    | true => exact Ev.step (g := fun _ => some 2) (fun k => by simp only [conf_valueFault.l0, cond_true]) (Ev.now fun _ => rfl)
    | false =>
      simp only [cond_false]
      cases h : ilt 5000 (slen v.fText) with
      | true => exact Ev.step (g := fun _ => some 4) (fun k => by simp only [conf_valueFault.l0, cond_false, h, cond_true]) (Ev.now fun _ => rfl)
      | false =>
        simp only [cond_false]
        refine Ev.step (fun k => by simp only [conf_valueFault.l0, cond_false, h]; rfl) (Ev.bind (bad_conf v.fText (by omega)) ?_)
        cases bad v.fText with
        | true => exact Ev.now fun _ => rfl
        | false =>
          simp only [cond_false]
          exact keys_conf v.fKind v.fBool v.fInt v.fText v.fItems v.fKeys (by omega)
  unfold own
  cases h : ilt v.fKind 0 || ilt 6 v.fKind with
  | true =>
    refine Ev.now fun k => ?_
    simp only [conf_valueFault.f]
    rw [show (bif ilt v.fKind 0 then true else ilt 6 v.fKind) = true by rw [← h]; cases ilt v.fKind 0 <;> rfl]
    rfl
  | false =>
    simp only [cond_false]
    refine Ev.congr (g := fun k => (conf_unused.f k v).bind fun y1 => bif y1 then some 1 else bif ieq v.fKind 4 then (conf_badDay.f v.fInt).bind fun y2 => conf_valueFault.l0 k v.fKind v.fBool v.fInt v.fText v.fItems v.fKeys y2 else conf_valueFault.l0 k v.fKind v.fBool v.fInt v.fText v.fItems v.fKeys false) (fun k => ?_) (Ev.bind (unused_ok v) ?_)
    · simp only [conf_valueFault.f, eta]
      rw [show (bif ilt v.fKind 0 then true else ilt 6 v.fKind) = false by rw [← h]; cases ilt v.fKind 0 <;> rfl]
      rfl
    · cases un v || un2 v with
      | true => exact Ev.now fun _ => rfl
      | false =>
        simp only [cond_false]
        cases h4 : ieq v.fKind 4 with
        | false => simpa using l0 false
        | true =>
          have := l0 (ilt v.fInt 0 || ilt 84005 v.fInt)
          simp only [cond_true, conf_badDay.f, Option.bind_some, Bool.true_and]
          rw [show (bif ilt v.fInt 0 then true else ilt 84005 v.fInt) = (ilt v.fInt 0 || ilt 84005 v.fInt) by cases ilt v.fInt 0 <;> rfl]
          exact this

theorem vf_ok : ∀ v, wt v ≤ 1048576 → Ev (fun k => conf_valuesFault.f k v) (vf v) := tree fun v ih hv => by
  have hv' := hv
  rw [wt_eq] at hv'
  rw [vf_eq]
  refine Ev.step (g := fun k => (conf_valueFault.f k v).bind fun y1 => bif !ieq y1 0 then some y1 else conf_valuesFault.l0 k v.fItems (llen v.fItems) 0) (fun k => by simp only [conf_valuesFault.f, eta]) (Ev.bind (own_ok v hv) ?_)
  cases h : ieq (own v) 0 with
  | false => exact Ev.now fun _ => rfl
  | true => exact items_conf v.fItems (by omega) fun k hk => ih k hk (by have := wt_mem hk; omega)

theorem vfR_ok : ∀ v, wt v ≤ 1048576 → Ev (fun k => mastref2_eachValue.f k v) (vf v) := tree fun v ih hv => by
  rw [wt_eq] at hv
  have li := items_ref v.fItems (by omega) fun k hk => ih k hk (by have := wt_mem hk; omega)
  have lk := keys_ref v.fKind v.fBool v.fInt v.fText v.fItems v.fKeys (by omega) (vfs v.fItems) li
  have lb := bad_ref v.fText (by omega)
  rw [vf_eq]
  cases hk : ilt v.fKind 0 || ilt 6 v.fKind with
  | true =>
    refine Ev.step (g := fun _ => some 10) (fun k => ?_) (Ev.now fun _ => by simp [own, hk, ieq])
    simp only [mastref2_eachValue.f]
    rw [show (bif ilt v.fKind 0 then true else ilt 6 v.fKind) = true by rw [← hk]; cases ilt v.fKind 0 <;> rfl]
    rfl
  | false =>
    have e1 : (bif ilt v.fKind 0 then true else ilt 6 v.fKind) = false := by rw [← hk]; cases ilt v.fKind 0 <;> rfl
    have e2 : (bif (bif (bif (bif (bif v.fBool then (!ieq v.fKind 1) else false) then true else (bif (bif (!ieq v.fInt 0) then (!ieq v.fKind 2) else false) then (!ieq v.fKind 4) else false)) then true else (bif (!seq v.fText c_empty) then (!ieq v.fKind 3) else false)) then true else (bif (bif (ilt 0 (llen v.fItems)) then (!ieq v.fKind 5) else false) then (!ieq v.fKind 6) else false)) then true else (bif (ilt 0 (llen v.fKeys)) then (!ieq v.fKind 6) else false)) = un v := by
      unfold un
      cases v.fBool <;> cases ieq v.fKind 1 <;> cases ieq v.fInt 0 <;> cases ieq v.fKind 2 <;> cases ieq v.fKind 4 <;> cases seq v.fText c_empty <;> cases ieq v.fKind 3 <;> cases ilt 0 (llen v.fItems) <;> cases ieq v.fKind 5 <;> cases ieq v.fKind 6 <;> cases ilt 0 (llen v.fKeys) <;> rfl
    have e3 : (bif ieq v.fKind 6 then (!ieq (llen v.fKeys) (llen v.fItems)) else false) = un2 v := by
      unfold un2
      cases ieq v.fKind 6 <;> rfl
    have e4 : (bif ieq v.fKind 4 then (bif ilt v.fInt 0 then true else ilt 84005 v.fInt) else false) = (ieq v.fKind 4 && (ilt v.fInt 0 || ilt 84005 v.fInt)) := by
      cases ieq v.fKind 4 <;> cases ilt v.fInt 0 <;> rfl
    have st : ∀ k, mastref2_eachValue.f (k + 1) v = bif un v then some 1 else bif un2 v then some 1 else bif (ieq v.fKind 4 && (ilt v.fInt 0 || ilt 84005 v.fInt)) then some 2 else bif ilt 5000 (slen v.fText) then some 4 else (mastref2_badByte.f k v.fText).bind fun y1 => bif y1 then some 9 else mastref2_eachValue.l0 k v.fKind v.fBool v.fInt v.fText v.fItems v.fKeys v.fKeys (llen v.fKeys) 0 := fun k => by
      simp only [mastref2_eachValue.f, e1, e2, e3, e4, cond_false]
    cases h1 : un v with
    | true => exact Ev.step (g := fun _ => some 1) (fun k => by rw [st, h1]; rfl) (Ev.now fun _ => by simp [own, hk, h1, ieq])
    | false =>
      cases h2 : un2 v with
      | true => exact Ev.step (g := fun _ => some 1) (fun k => by rw [st, h1, h2]; rfl) (Ev.now fun _ => by simp [own, hk, h1, h2, ieq])
      | false =>
        cases h3 : (ieq v.fKind 4 && (ilt v.fInt 0 || ilt 84005 v.fInt)) with
        | true => exact Ev.step (g := fun _ => some 2) (fun k => by rw [st, h1, h2, h3]; rfl) (Ev.now fun _ => by rw [show own v = 2 by unfold own; rw [hk, h1, h2, h3]; rfl]; rfl)
        | false =>
          cases h4 : ilt 5000 (slen v.fText) with
          | true => exact Ev.step (g := fun _ => some 4) (fun k => by rw [st, h1, h2, h3, h4]; rfl) (Ev.now fun _ => by rw [show own v = 4 by unfold own; rw [hk, h1, h2, h3, h4]; rfl]; rfl)
          | false =>
            have eo : own v = bif bad v.fText then 9 else ks none v.fKeys := by simp [own, hk, h1, h2, h3, h4]
            rw [eo]
            refine Ev.step (fun k => by rw [st, h1, h2, h3, h4]; rfl) (Ev.bind lb ?_)
            cases bad v.fText with
            | true => exact Ev.now fun _ => rfl
            | false => exact lk

/-- The check. -/
def chk (v : T_api_Value) : Int := bif decide (1000 < nT v) then 4 else bif decide (8 < lv v) then 13 else vf v
theorem chk_ok (v : T_api_Value) (hv : wt v ≤ 1048576) : Ev (fun k => conf_Check.f k v) (chk v) := by
  obtain ⟨r, r1, r2, r3⟩ := count_conf v hv
  refine Ev.congr (g := fun k => (conf_count.f k v).bind fun y1 => bif ilt 1000 y1 then some 4 else (conf_levels.f k v).bind fun y2 => bif ilt 8 y2 then some 13 else (conf_valuesFault.f k v).bind fun y3 => some y3) (fun k => by simp only [conf_Check.f, eta]) (Ev.bind r1 ?_)
  unfold chk
  by_cases c : 1000 < nT v
  · rw [ilt_t (show (1000 : Int) < (r : Int) by omega), decide_eq_true c]; exact Ev.now fun _ => rfl
  · rw [ilt_f (show (r : Int) ≤ 1000 by omega), decide_eq_false c]
    refine Ev.bind (levels_conf v hv) ?_
    by_cases c2 : 8 < lv v
    · rw [ilt_t (show (8 : Int) < (lv v : Int) by omega), decide_eq_true c2]; exact Ev.now fun _ => rfl
    · rw [ilt_f (show (lv v : Int) ≤ 8 by omega), decide_eq_false c2]
      exact Ev.bind (vf_ok v hv) (Ev.now fun _ => rfl)
theorem chkR_ok (v : T_api_Value) (hv : wt v ≤ 1048576) : Ev (fun k => mastref2_ConfCheck.f k v) (chk v) := by
  refine Ev.congr (g := fun k => (mastref2_ValuesOf.f k v).bind fun y1 => bif ilt 1000 y1 then some 4 else (mastref2_LevelsOf.f k v).bind fun y2 => bif ilt 8 y2 then some 13 else (mastref2_eachValue.f k v).bind fun y3 => some y3) (fun k => by simp only [mastref2_ConfCheck.f, eta]) (Ev.bind (values_ok v hv) ?_)
  unfold chk
  by_cases c : 1000 < nT v
  · rw [ilt_t (show (1000 : Int) < (nT v : Int) by omega), decide_eq_true c]; exact Ev.now fun _ => rfl
  · rw [ilt_f (show (nT v : Int) ≤ 1000 by omega), decide_eq_false c]
    refine Ev.bind (levels_ref v hv) ?_
    by_cases c2 : 8 < lv v
    · rw [ilt_t (show (8 : Int) < (lv v : Int) by omega), decide_eq_true c2]; exact Ev.now fun _ => rfl
    · rw [ilt_f (show (lv v : Int) ≤ 8 by omega), decide_eq_false c2]
      exact Ev.bind (vfR_ok v hv) (Ev.now fun _ => rfl)
theorem key_list (s : ByteArray) : Ev (fun k => list_isKey.f k s) (key s) := by
  cases h : s.data.toList with
  | nil => exact Ev.now fun k => by simp only [list_isKey.f, seq_empty, h, key, keyL, List.isEmpty_nil, cond_true]
  | cons c r =>
    by_cases hl : r.length < 40
    · have hl' : s.data.toList.length ≤ 40 := by rw [h]; simp; omega
      cases hc : small c with
      | false =>
        refine Ev.now fun k => ?_
        simp only [list_isKey.f, seq_empty, h, key, keyL, List.isEmpty_cons, cond_false, slen_l, ilt_f (show ((c :: r).length : Int) ≤ 40 by rw [← h]; omega), sat_0 h, Option.bind_some, list_isSmall.f, hc, Bool.and_false, Bool.false_and]
        rw [show (bif ile 97 (c.toNat : Int) then ile (c.toNat : Int) 122 else false) = small c from rfl, hc]
        rfl
      | true =>
        have q := find_pure s.data.toList 1 (by rw [h]; simp) (fun k j => list_isKey.l0 k s (j : Int)) (fun _ => some true) (fun c => !ins c) (fun _ => false) true
          (fun k j h => by
            simp only [list_isKey.l0, slen_l, ilen _ _ h, cond_true, sat_l h, Option.bind_some, u0 (show j ≤ 4611686018427387904 by omega), list_isSmall.f, list_isDigit.f, ins, small]
            cases (bif ile 97 (s.data.toList[j].toNat : Int) then ile (s.data.toList[j].toNat : Int) 122 else false) <;> cases (bif ile 48 (s.data.toList[j].toNat : Int) then ile (s.data.toList[j].toNat : Int) 57 else false) <;> cases ieq (s.data.toList[j].toNat : Int) 45 <;> cases ieq (s.data.toList[j].toNat : Int) 95 <;> rfl)
          (fun k => by simp only [list_isKey.l0, slen_l, ilen', cond_false]) (Ev.now fun _ => rfl)
        rw [fl_const, h, List.drop_succ_cons, List.drop_zero, all_ins] at q
        have e : key s = r.all ins := by unfold key; rw [h]; simp [keyL, hl, hc]
        rw [e]
        refine Ev.congr (fun k => ?_) q
        simp only [list_isKey.f, seq_empty, h, List.isEmpty_cons, cond_false, slen_l, ilt_f (show ((c :: r).length : Int) ≤ 40 by rw [← h]; omega), sat_0 h, Option.bind_some, list_isSmall.f]
        rw [show (bif ile 97 (c.toNat : Int) then ile (c.toNat : Int) 122 else false) = small c from rfl, hc]
        rfl
    · refine Ev.now fun k => ?_
      simp only [list_isKey.f, seq_empty, h, key, keyL, List.isEmpty_cons, cond_false, slen_l, ilt_t (show (40 : Int) < ((c :: r).length : Int) by simp; omega), cond_true, decide_eq_false hl, Bool.false_and]

/-! Pieces between dots. -/
def pcs (c : UInt8) : List UInt8 → List (List UInt8)
  | [] => [[]]
  | b :: l => if b = c then [] :: pcs c l else match pcs c l with
    | [] => [[b]]
    | p :: r => (b :: p) :: r
theorem splitK_pcs (c : UInt8) : ∀ l : List UInt8, Lib.splitK [c] 0 (l.count c) l = pcs c l
  | [] => rfl
  | b :: l => by
    have ih := splitK_pcs c l
    by_cases h : b = c
    · subst h
      rw [List.count_cons_self]
      have hx : Lib.index (b :: l) [b] = 0 := by
        unfold Lib.index
        rw [if_pos (by simp [List.isPrefixOf])]
      unfold Lib.splitK
      rw [hx]
      simp only [pcs, if_true]
      rw [if_neg (by decide)]
      simp [ih]
    · rw [List.count_cons_of_ne (fun e => h e)]
      have hx : Lib.index (b :: l) [c] = if Lib.index l [c] == -1 then -1 else Lib.index l [c] + 1 := by
        conv => lhs; unfold Lib.index
        rw [if_neg (by simp [List.isPrefixOf]; exact fun e => h e.symm)]
      simp only [pcs, if_neg h]
      cases hn : l.count c with
      | zero =>
        rw [hn] at ih
        rw [← ih]; rfl
      | succ n =>
        rw [hn] at ih
        rw [← ih]
        unfold Lib.splitK
        rw [hx]
        by_cases hm : Lib.index l [c] = -1
        · simp [hm]
        · have hg := Lib.index_ge l [c]
          have e1 : (Lib.index l [c] == -1) = false := beq_eq_false_iff_ne.2 hm
          simp only [e1, Bool.false_eq_true, if_false]
          have e2 : (Lib.index l [c] + 1 == -1) = false := beq_eq_false_iff_ne.2 (by omega)
          simp only [e2, Bool.false_eq_true, if_false]
          have e3 : (Lib.index l [c] + 1).toNat = (Lib.index l [c]).toNat + 1 := by omega
          rw [e3]
          simp [List.take_succ_cons, List.drop_succ_cons]
theorem parts_pcs (s : ByteArray) : (Lib.splitB c__2e 0 (Lib.countB s c__2e) s).map (·.data.toList) = pcs 46 s.data.toList := by
  rw [Lib.splitB_data]
  show Lib.splitK [46] 0 (Lib.count s.data.toList [46]) s.data.toList = _
  rw [Lib.count_one]
  exact splitK_pcs 46 _
theorem pcs_none (c : UInt8) : ∀ p : List UInt8, c ∉ p → pcs c p = [p]
  | [], _ => rfl
  | b :: l, h => by
    have h1 : b ≠ c := fun e => h (by rw [e]; exact List.mem_cons_self ..)
    have h2 := pcs_none c l fun e => h (List.mem_cons_of_mem _ e)
    simp only [pcs, if_neg h1, h2]
theorem pcs_cut (c : UInt8) : ∀ (p r : List UInt8), c ∉ p → pcs c (p ++ c :: r) = p :: pcs c r
  | [], r, _ => by simp [pcs]
  | b :: l, r, h => by
    have h1 : b ≠ c := fun e => h (by rw [e]; exact List.mem_cons_self ..)
    have h2 := pcs_cut c l r fun e => h (List.mem_cons_of_mem _ e)
    simp only [List.cons_append, pcs, if_neg h1, h2]
theorem ex_data (s : ByteArray) (a b : Nat) (h : a ≤ b) : (s.extract a b).data.toList = (s.data.toList.drop a).take (b - a) := by
  rw [ByteArray.data_extract, Array.toList_extract]
def digB (c : UInt8) : Bool := bif ile 48 (c.toNat : Int) then ile (c.toNat : Int) 57 else false
/-- Is a piece a number. -/
def dg : List UInt8 → Bool
  | [] => false
  | c :: r => ((c :: r).all digB && decide (r.length ≤ 3)) && (!ieq (c.toNat : Int) 48 || (c :: r == [48]))
def pk (p : List UInt8) : Bool := dg p || keyL p
theorem seq_zero (p : ByteArray) : seq p c_0 = (p.data.toList == [48]) := by
  unfold seq
  rw [ByteArray.toList_eq, ByteArray.toList_eq]
  rfl
theorem set_dig (c : UInt8) : c_0123456789.data.toList.contains c = digB c := by
  have h : ∀ n : Fin 256, c_0123456789.data.toList.contains (UInt8.ofNat n.val) = digB (UInt8.ofNat n.val) := by decide +kernel
  have := h ⟨c.toNat, c.toNat_lt⟩
  simpa using this
theorem digits_ok (s : ByteArray) (hs : s.size ≤ 2000000) : mastref2_digitsAlone.f s = some (!s.data.toList.isEmpty && s.data.toList.all digB) := by
  have hc : strings_Trim.f s c_0123456789 = some ⟨(Lib.trimS s.data.toList c_0123456789.data.toList).toArray⟩ := by
    unfold strings_Trim.f
    rw [if_pos ⟨by omega, by decide, by decide +kernel⟩]
  unfold mastref2_digitsAlone.f
  rw [seq_empty, hc]
  cases h : s.data.toList.isEmpty with
  | true => rfl
  | false =>
    simp only [Bool.not_false, cond_true, Option.bind_some, Bool.true_and]
    rw [seq_empty]
    show some (Lib.trimS s.data.toList _).isEmpty = _
    rw [trim_nil, show (fun x => c_0123456789.data.toList.contains x) = digB from funext set_dig]
/-- Is it a route. -/
def rp (s : ByteArray) : Bool := bif ilt 400 (slen s) then false else bif seq s c_empty then true else (pcs 46 s.data.toList).all pk
theorem split_sz (sep : ByteArray) : ∀ (k : Nat) (s x : ByteArray), x ∈ Lib.splitB sep 0 k s → x.size ≤ s.size
  | 0, s, x, h => by
    have : x = s := by simpa [Lib.splitB] using h
    rw [this]; exact Nat.le_refl _
  | k + 1, s, x, h => by
    unfold Lib.splitB at h
    split at h
    · have : x = s := by simpa using h
      rw [this]; exact Nat.le_refl _
    · rcases List.mem_cons.1 h with rfl | h
      · rw [ByteArray.size_extract]; omega
      · have := split_sz sep k _ x h
        rw [ByteArray.size_extract] at this; omega
theorem routeR_ok (s : ByteArray) (hs : s.size ≤ 2000000) : ∃ o, Ev (fun k => mastref2_RouteParts.f k s false) (o, rp s) := by
  unfold rp
  cases h4 : ilt 400 (slen s) with
  | true => exact ⟨[], Ev.now fun k => by simp only [mastref2_RouteParts.f, h4, cond_true]⟩
  | false =>
    cases he : seq s c_empty with
    | true => exact ⟨[], Ev.now fun k => by simp only [mastref2_RouteParts.f, h4, he, cond_true, cond_false]⟩
    | false =>
      simp only [cond_false]
      have hsp : strings_Split.f s c__2e = some (Lib.splitB c__2e 0 (Lib.countB s c__2e) s) := by
        unfold strings_Split.f splitF
        rw [if_pos ⟨by omega, by decide⟩]
      generalize hP : Lib.splitB c__2e 0 (Lib.countB s c__2e) s = P at hsp
      have hpp : P.map (·.data.toList) = pcs 46 s.data.toList := by rw [← hP]; exact parts_pcs s
      have hsz : ∀ x ∈ P, x.size ≤ 2000000 := fun x hx => by rw [← hP] at hx; have := split_sz _ _ _ _ hx; omega
      have hlen : P.length ≤ 4611686018427387904 := by
        have h1 := Lib.splitB_length_le c__2e 0 (Lib.countB s c__2e) s
        have h2 := Lib.countB_le c__2e (by decide) s.size s (Nat.le_refl _)
        rw [hP] at h1; omega
      have q := find_loop2 P 0 (Nat.zero_le _) (fun k j => mastref2_RouteParts.l0 k false P P (llen P) (j : Int))
        (fun _ p => (mastref2_digitsAlone.f p).bind fun y3 => bif (bif y3 then (ile (slen p) 4) else false) then ((sat p 0).bind fun y4 => some (p, (bif (!ieq y4 48) then true else (seq p c_0)))) else some (p, false))
        (fun k j y => mastref2_RouteParts.l1 k false P y.1 y.2 P (llen P) (j : Int)) (fun _ => some (P, true)) (fun p => !pk p.data.toList) (fun _ => ([], false)) (P, true)
        (fun k j h => by
          simp only [mastref2_RouteParts.l0, llen_eq, Go.Proofs.YtdffbjbpolhliaaDoor.Lift.ilen _ _ h, cond_true, lat_lt h, Option.bind_some]
          cases mastref2_digitsAlone.f P[j] with
          | none => rfl
          | some y =>
            simp only [Option.bind_some]
            cases (bif y then ile (slen P[j]) 4 else false) with
            | false => rfl
            | true =>
              simp only [cond_true]
              cases sat P[j] 0 <;> rfl)
        (fun k => by simp only [mastref2_RouteParts.l0, llen_eq, Go.Proofs.YtdffbjbpolhliaaDoor.Lift.ilen', cond_false]) (Ev.now fun _ => rfl)
        (fun j h => by
          have hz := hsz _ (List.getElem_mem h)
          have hd := digits_ok P[j] hz
          have hk := keyR_ok P[j] hz
          have el : ile (slen P[j]) 4 = decide (P[j].data.toList.length ≤ 4) := by
            rw [slen_l, ile_d]
            by_cases c : P[j].data.toList.length ≤ 4
            · rw [decide_eq_true c, decide_eq_true (by omega)]
            · rw [decide_eq_false c, decide_eq_false (by omega)]
          refine ⟨(P[j], dg P[j].data.toList), Ev.now fun _ => ?_, fun hq => ?_, fun hq v hv => ?_⟩
          · rw [hd]
            simp only [Option.bind_some, el]
            cases hb : P[j].data.toList with
            | nil => rfl
            | cons c r =>
              rw [sat_0 hb, seq_zero, hb]
              simp only [List.isEmpty_cons, Bool.not_false, Bool.true_and, Option.bind_some, dg, List.length_cons]
              rw [show decide (r.length + 1 ≤ 4) = decide (r.length ≤ 3) by by_cases c : r.length ≤ 3 <;> simp [c] <;> omega]
              cases (c :: r).all digB <;> cases decide (r.length ≤ 3) <;> cases ieq (c.toNat : Int) 48 <;> rfl
          · have h1 : dg P[j].data.toList = false ∧ key P[j] = false := by
              have : pk P[j].data.toList = false := by simpa using hq
              unfold pk at this
              simpa [Bool.or_eq_false_iff, key] using this
            refine Ev.step (g := fun _ => some ([], false)) (fun k => ?_) (Ev.now fun _ => rfl)
            simp only [mastref2_RouteParts.l1, h1.1, Bool.not_false, cond_true, hk, h1.2, Option.bind_some, cond_false]
          · have h1 : dg P[j].data.toList = true ∨ key P[j] = true := by
              have : pk P[j].data.toList = true := by simpa using hq
              unfold pk at this
              simpa [Bool.or_eq_true, key] using this
            have hw : wadd .i64 (j : Int) 1 = ((j + 1 : Nat) : Int) := u0 (by omega)
            refine Ev.step (fun k => ?_) hv
            simp only [mastref2_RouteParts.l1, hw]
            cases hg : dg P[j].data.toList with
            | true => simp
            | false =>
              have h2 : key P[j] = true := h1.resolve_left (by rw [hg]; decide)
              simp only [Bool.not_false, cond_true, hk, h2, Option.bind_some, Bool.not_true, cond_false])
      rw [fl_const, List.drop_zero] at q
      have e : (bif P.any (fun p => !pk p.data.toList) then (([] : List ByteArray), false) else (P, true)) = ((bif P.any (fun p => !pk p.data.toList) then ([] : List ByteArray) else P), (pcs 46 s.data.toList).all pk) := by
        have : (pcs 46 s.data.toList).all pk = !P.any fun p => !pk p.data.toList := by
          rw [← hpp, List.all_map, List.all_eq_not_any_not]; rfl
        rw [this]
        cases P.any fun p => !pk p.data.toList <;> rfl
      rw [e] at q
      exact ⟨_, Ev.congr (fun k => by simp only [mastref2_RouteParts.f, h4, he, cond_false, hsp, Option.bind_some]; rfl) q⟩
/-! The parts of a route, as the program takes them. -/
def hd48 : List UInt8 → Bool
  | [] => false
  | c :: r => !ieq (c.toNat : Int) 48 || (c :: r == [48])
theorem dg_eq (p : List UInt8) : dg p = ((p.all digB && decide (p.length ≤ 4)) && hd48 p) := by
  cases p with
  | nil => rfl
  | cons c r =>
    simp only [dg, hd48, List.length_cons]
    rw [show decide (r.length + 1 ≤ 4) = decide (r.length ≤ 3) by by_cases c : r.length ≤ 3 <;> simp [c] <;> omega]
theorem l2_good (s : ByteArray) (acc : List T_list_step) (f i : Nat) (p : ByteArray) (hd : p.data.toList.all digB = true) (hl : p.data.toList.length ≤ 4) (v : List T_list_step × Bool)
    (hf : ∀ n : Int, Ev (fun k => list_steps.l2 k s acc (f : Int) (i : Int) p n (p.data.toList.length : Int)) v) : ∀ (d j : Nat) (n : Int), p.data.toList.length - j ≤ d → j ≤ p.data.toList.length → Ev (fun k => list_steps.l2 k s acc (f : Int) (i : Int) p n (j : Int)) v := by
  intro d
  induction d with
  | zero => intro j n hd' hj; obtain rfl : j = p.data.toList.length := by omega
            exact hf n
  | succ d ih =>
    intro j n hd' hj
    rcases Nat.lt_or_ge j p.data.toList.length with hlt | hge
    · have hdj : digB p.data.toList[j] = true := List.all_eq_true.1 hd _ (List.getElem_mem hlt)
      refine Ev.step (fun k => ?_) (ih (j + 1) (wadd .i64 (wmul .i64 10 n) (wcv .i64 (wsub .u8 (p.data.toList[j].toNat : Int) 48))) (by omega) hlt)
      simp only [list_steps.l2, slen_l, Go.Proofs.YtdffbjbpolhliaaDoor.Lift.ilen _ _ hlt, cond_true, sat_l hlt, Option.bind_some, list_isDigit.f, u0 (show j ≤ 4611686018427387904 by omega)]
      rw [show (bif ile 48 (p.data.toList[j].toNat : Int) then ile (p.data.toList[j].toNat : Int) 57 else false) = digB p.data.toList[j] from rfl, hdj, ilt_f (show (j : Int) ≤ 3 by omega)]
      rfl
    · obtain rfl : j = p.data.toList.length := by omega
      exact hf n
theorem l2_bad (s : ByteArray) (acc : List T_list_step) (f i : Nat) (p : ByteArray) : ∀ (d j : Nat) (n : Int), p.data.toList.length - j ≤ d → j ≤ p.data.toList.length → ((p.data.toList.drop j).all digB = false ∨ (4 < p.data.toList.length ∧ j ≤ 4)) → Ev (fun k => list_steps.l2 k s acc (f : Int) (i : Int) p n (j : Int)) ([], false) := by
  intro d
  induction d with
  | zero =>
    intro j n hd hj h
    rcases h with h | h
    · rw [List.drop_eq_nil_of_le (by omega)] at h; exact nomatch h
    · omega
  | succ d ih =>
    intro j n hd hj h
    rcases Nat.lt_or_ge j p.data.toList.length with hlt | hge
    · cases hdj : digB p.data.toList[j] with
      | false =>
        refine Ev.step (g := fun _ => some ([], false)) (fun k => ?_) (Ev.now fun _ => rfl)
        simp only [list_steps.l2, slen_l, Go.Proofs.YtdffbjbpolhliaaDoor.Lift.ilen _ _ hlt, cond_true, sat_l hlt, Option.bind_some, list_isDigit.f]
        rw [show (bif ile 48 (p.data.toList[j].toNat : Int) then ile (p.data.toList[j].toNat : Int) 57 else false) = digB p.data.toList[j] from rfl, hdj]
        rfl
      | true =>
        by_cases h3 : 3 < j
        · refine Ev.step (g := fun _ => some ([], false)) (fun k => ?_) (Ev.now fun _ => rfl)
          simp only [list_steps.l2, slen_l, Go.Proofs.YtdffbjbpolhliaaDoor.Lift.ilen _ _ hlt, cond_true, sat_l hlt, Option.bind_some, list_isDigit.f]
          rw [show (bif ile 48 (p.data.toList[j].toNat : Int) then ile (p.data.toList[j].toNat : Int) 57 else false) = digB p.data.toList[j] from rfl, hdj, ilt_t (show (3 : Int) < (j : Int) by omega)]
          rfl
        · refine Ev.step (fun k => ?_) (ih (j + 1) (wadd .i64 (wmul .i64 10 n) (wcv .i64 (wsub .u8 (p.data.toList[j].toNat : Int) 48))) (by omega) hlt (by
            rcases h with h | h
            · left
              rw [List.drop_eq_getElem_cons hlt, List.all_cons, hdj, Bool.true_and] at h
              exact h
            · right; omega))
          simp only [list_steps.l2, slen_l, Go.Proofs.YtdffbjbpolhliaaDoor.Lift.ilen _ _ hlt, cond_true, sat_l hlt, Option.bind_some, list_isDigit.f, u0 (show j ≤ 4611686018427387904 by omega)]
          rw [show (bif ile 48 (p.data.toList[j].toNat : Int) then ile (p.data.toList[j].toNat : Int) 57 else false) = digB p.data.toList[j] from rfl, hdj, ilt_f (show (j : Int) ≤ 3 by omega)]
          rfl
    · rcases h with h | h
      · rw [List.drop_eq_nil_of_le hge] at h; exact nomatch h
      · omega

theorem scan (s : ByteArray) (hs : s.data.toList.length ≤ 400) : ∀ (d f i : Nat) (acc : List T_list_step), s.data.toList.length + 1 - i ≤ d → f ≤ i → i ≤ s.data.toList.length → (46 : UInt8) ∉ (s.data.toList.drop f).take (i - f) → acc.length ≤ i →
    ∃ o, Ev (fun k => list_steps.l0 k s acc (f : Int) (i : Int)) (o, (pcs 46 (s.data.toList.drop f)).all pk) := by
  intro d
  induction d with
  | zero => intro f i acc hd; omega
  | succ d ih =>
    intro f i acc hd hf hi hn hac
    have hsz := size_l s
    have hle : ile (i : Int) (s.data.toList.length : Int) = true := ile_t (by omega)
    -- a piece ends here; what is behind it
    have cut : ∀ (rest : Bool), (pcs 46 (s.data.toList.drop f)).all pk = (pk ((s.data.toList.drop f).take (i - f)) && rest) → (∀ acc', acc'.length ≤ i + 1 → ∃ o, Ev (fun k => list_steps.l0 k s acc' ((i + 1 : Nat) : Int) ((i + 1 : Nat) : Int)) (o, rest)) → ∃ o, Ev (fun k => list_steps.l1 k s acc (f : Int) (i : Int)) (o, (pcs 46 (s.data.toList.drop f)).all pk) := fun rest hr hnext => by
      rw [hr]
      have hsub : ssub s (f : Int) (i : Int) = some (s.extract f i) := by
        unfold ssub
        rw [if_pos ⟨by omega, by omega, by omega⟩, Int.toNat_natCast, Int.toNat_natCast]
      have hdat := ex_data s f i hf
      generalize s.extract f i = p at hsub hdat
      rw [← hdat]
      have hw : wadd .i64 (i : Int) 1 = ((i + 1 : Nat) : Int) := u0 (by omega)
      have push : ∀ x, lapp 24 acc [x] = some (acc ++ [x]) := fun x => lapp_ok (by simp only [List.length_singleton]; omega) (by simp only [List.length_singleton]; omega)
      have hk := key_list p
      cases hkey : key p with
      | true =>
        rw [hkey] at hk
        obtain ⟨o, ho⟩ := hnext (acc ++ [T_list_step.mk p 0]) (by simp only [List.length_append, List.length_singleton]; omega)
        have : pk p.data.toList = true := by
          unfold pk
          rw [show keyL p.data.toList = key p from rfl, hkey, Bool.or_true]
        rw [this, Bool.true_and]
        refine ⟨o, Ev.step (fun k => by simp only [list_steps.l1, hsub, Option.bind_some]; rfl) (Ev.bind hk ?_)⟩
        simp only [cond_true, push, Option.bind_some, hw]
        exact ho
      | false =>
        rw [hkey] at hk
        have hpk : pk p.data.toList = dg p.data.toList := by
          unfold pk
          rw [show keyL p.data.toList = key p from rfl, hkey, Bool.or_false]
        rw [hpk, dg_eq]
        have l1 : ∀ v, Ev (fun k => list_steps.l2 k s acc ((i + 1 : Nat) : Int) (i : Int) p 0 0) v → Ev (fun k => list_steps.l1 k s acc (f : Int) (i : Int)) v := fun v hv => by
          refine Ev.step (fun k => by simp only [list_steps.l1, hsub, Option.bind_some]; rfl) (Ev.bind hk ?_)
          simp only [cond_false, hw]
          exact hv
        cases hg : (p.data.toList.all digB && decide (p.data.toList.length ≤ 4)) with
        | false =>
          refine ⟨[], l1 _ ?_⟩
          refine l2_bad s acc (i + 1) i p p.data.toList.length 0 0 (by omega) (by omega) ?_
          rw [List.drop_zero]
          rcases Bool.and_eq_false_iff.1 hg with h | h
          · exact .inl h
          · right
            have := of_decide_eq_false h
            omega
        | true =>
          rw [Bool.true_and]
          obtain ⟨g1, g2⟩ := Bool.and_eq_true_iff.1 hg
          have g2 : p.data.toList.length ≤ 4 := of_decide_eq_true g2
          have fin : ∀ v, (∀ n : Int, Ev (fun k => list_steps.l2 k s acc ((i + 1 : Nat) : Int) (i : Int) p n (p.data.toList.length : Int)) v) → Ev (fun k => list_steps.l1 k s acc (f : Int) (i : Int)) v := fun v hv => l1 v (l2_good s acc (i + 1) i p g1 g2 v hv p.data.toList.length 0 0 (by omega) (by omega))
          cases hb : p.data.toList with
          | nil =>
            refine ⟨[], fin _ fun n => ?_⟩
            refine Ev.step (g := fun _ => some ([], false)) (fun k => ?_) (Ev.now fun _ => rfl)
            simp only [list_steps.l2, slen_l, Go.Proofs.YtdffbjbpolhliaaDoor.Lift.ilen', cond_false, seq_empty, hb, List.isEmpty_nil, cond_true]
          | cons c r =>
            cases hh : hd48 (c :: r) with
            | false =>
              refine ⟨[], fin _ fun n => ?_⟩
              have h48 : (bif (ieq (c.toNat : Int) 48) then (!seq p c_0) else false) = true := by
                rw [seq_zero, hb]
                have hh : (!ieq (c.toNat : Int) 48 || (c :: r == [48])) = _ := hh
                cases q : ieq (c.toNat : Int) 48 with
                | false => rw [q] at hh; simp at hh
                | true =>
                  rw [q] at hh
                  cases z : (c :: r == [48]) with
                  | true => rw [z] at hh; exact nomatch hh
                  | false => rfl
              refine Ev.step (g := fun _ => some ([], false)) (fun k => ?_) (Ev.now fun _ => rfl)
              simp only [list_steps.l2, slen_l, Go.Proofs.YtdffbjbpolhliaaDoor.Lift.ilen', cond_false, seq_empty, hb, List.isEmpty_cons, sat_0 hb, Option.bind_some, h48, cond_true]
            | true =>
              rw [Bool.true_and]
              have h48 : (bif (ieq (c.toNat : Int) 48) then (!seq p c_0) else false) = false := by
                rw [seq_zero, hb]
                have hh : (!ieq (c.toNat : Int) 48 || (c :: r == [48])) = _ := hh
                cases q : ieq (c.toNat : Int) 48 with
                | false => rfl
                | true =>
                  rw [q] at hh
                  cases z : (c :: r == [48]) with
                  | true => rfl
                  | false => rw [z] at hh; exact nomatch hh
              have one : ∀ n : Int, ∃ o, Ev (fun k => list_steps.l2 k s acc ((i + 1 : Nat) : Int) (i : Int) p n (p.data.toList.length : Int)) (o, rest) := fun n => by
                obtain ⟨o, ho⟩ := hnext (acc ++ [T_list_step.mk c_empty n]) (by simp only [List.length_append, List.length_singleton]; omega)
                refine ⟨o, Ev.step (fun k => ?_) ho⟩
                simp only [list_steps.l2, slen_l, Go.Proofs.YtdffbjbpolhliaaDoor.Lift.ilen', cond_false, seq_empty, hb, List.isEmpty_cons, sat_0 hb, Option.bind_some, h48, push, hw]
              -- the number that comes of it
              have walk : ∀ (d j : Nat) (n : Int), p.data.toList.length - j ≤ d → j ≤ p.data.toList.length → ∃ o, Ev (fun k => list_steps.l2 k s acc ((i + 1 : Nat) : Int) (i : Int) p n (j : Int)) (o, rest) := by
                intro d
                induction d with
                | zero => intro j n hd' hj; obtain rfl : j = p.data.toList.length := by omega
                          exact one n
                | succ d ihd =>
                  intro j n hd' hj
                  rcases Nat.lt_or_ge j p.data.toList.length with hlt | hge
                  · have hdj : digB p.data.toList[j] = true := List.all_eq_true.1 g1 _ (List.getElem_mem hlt)
                    obtain ⟨o, ho⟩ := ihd (j + 1) (wadd .i64 (wmul .i64 10 n) (wcv .i64 (wsub .u8 (p.data.toList[j].toNat : Int) 48))) (by omega) hlt
                    refine ⟨o, Ev.step (fun k => ?_) ho⟩
                    simp only [list_steps.l2, slen_l, Go.Proofs.YtdffbjbpolhliaaDoor.Lift.ilen _ _ hlt, cond_true, sat_l hlt, Option.bind_some, list_isDigit.f, u0 (show j ≤ 4611686018427387904 by omega)]
                    rw [show (bif ile 48 (p.data.toList[j].toNat : Int) then ile (p.data.toList[j].toNat : Int) 57 else false) = digB p.data.toList[j] from rfl, hdj, ilt_f (show (j : Int) ≤ 3 by omega)]
                    rfl
                  · obtain rfl : j = p.data.toList.length := by omega
                    exact one n
              obtain ⟨o, ho⟩ := walk p.data.toList.length 0 0 (by omega) (by omega)
              exact ⟨o, l1 _ ho⟩
    rcases Nat.lt_or_ge i s.data.toList.length with hlt | hge
    · have hdrop : s.data.toList.drop f = (s.data.toList.drop f).take (i - f) ++ s.data.toList[i] :: s.data.toList.drop (i + 1) := by
        have h1 : (s.data.toList.drop f).drop (i - f) = s.data.toList.drop i := by rw [List.drop_drop]; congr 1; omega
        rw [← List.drop_eq_getElem_cons hlt, ← h1, List.take_append_drop]
      have hw : wadd .i64 (i : Int) 1 = ((i + 1 : Nat) : Int) := u0 (by omega)
      have st : ∀ k, list_steps.l0 (k + 1) s acc (f : Int) (i : Int) = bif !ieq (s.data.toList[i].toNat : Int) 46 then list_steps.l0 k s acc (f : Int) ((i + 1 : Nat) : Int) else list_steps.l1 k s acc (f : Int) (i : Int) := fun k => by
        simp only [list_steps.l0, hle, cond_true, slen_l, Go.Proofs.YtdffbjbpolhliaaDoor.Lift.ilen _ _ hlt, sat_l hlt, Option.bind_some, hw]
      by_cases h46 : s.data.toList[i] = 46
      · rw [h46] at hdrop
        have hi46 : ieq (s.data.toList[i].toNat : Int) 46 = true := by rw [h46]; rfl
        have e : pcs 46 (s.data.toList.drop f) = (s.data.toList.drop f).take (i - f) :: pcs 46 (s.data.toList.drop (i + 1)) := by
          conv => lhs; rw [hdrop]
          exact pcs_cut 46 _ _ hn
        obtain ⟨o, ho⟩ := cut ((pcs 46 (s.data.toList.drop (i + 1))).all pk) (by rw [e, List.all_cons]) fun acc' ha => ih (i + 1) (i + 1) acc' (by omega) (Nat.le_refl _) hlt (by simp) ha
        exact ⟨o, Ev.step (fun k => by rw [st, hi46]; rfl) ho⟩
      · have hi46 : ieq (s.data.toList[i].toNat : Int) 46 = false := ieq_f fun e => h46 (UInt8.toNat_inj.1 (by rw [show (46 : UInt8).toNat = 46 from rfl]; omega))
        obtain ⟨o, ho⟩ := ih f (i + 1) acc (by omega) (by omega) hlt (by
          have e1 : i + 1 - f = (i - f) + 1 := by omega
          have hl2 : i - f < (s.data.toList.drop f).length := by rw [List.length_drop]; omega
          rw [e1, List.take_succ_eq_append_getElem hl2, List.mem_append]
          rintro (h | h)
          · exact hn h
          · have h : (46 : UInt8) = (s.data.toList.drop f)[i - f] := by simpa using h
            rw [List.getElem_drop] at h
            exact h46 (by rw [h]; congr 1; omega)) (by omega)
        exact ⟨o, Ev.step (fun k => by rw [st, hi46]; rfl) ho⟩
    · obtain rfl : i = s.data.toList.length := by omega
      have hfull : (s.data.toList.drop f).take (s.data.toList.length - f) = s.data.toList.drop f := List.take_of_length_le (by rw [List.length_drop]; omega)
      rw [hfull] at hn cut
      have e : pcs 46 (s.data.toList.drop f) = [s.data.toList.drop f] := pcs_none 46 _ hn
      obtain ⟨o, ho⟩ := cut true (by rw [e]; rfl) fun acc' ha => ⟨acc', Ev.step (g := fun _ => some (acc', true)) (fun k => by
        have : ile ((s.data.toList.length + 1 : Nat) : Int) (s.data.toList.length : Int) = false := ile_f (by omega)
        simp only [list_steps.l0, slen_l, this, cond_false]) (Ev.now fun _ => rfl)⟩
      refine ⟨o, Ev.step (fun k => ?_) ho⟩
      simp only [list_steps.l0, hle, cond_true, slen_l, Go.Proofs.YtdffbjbpolhliaaDoor.Lift.ilen', cond_false]
theorem steps_ok (s : ByteArray) : ∃ o, Ev (fun k => list_steps.f k s) (o, rp s) := by
  unfold rp
  cases h4 : ilt 400 (slen s) with
  | true => exact ⟨[], Ev.now fun k => by simp only [list_steps.f, h4, cond_true]⟩
  | false =>
    cases he : seq s c_empty with
    | true => exact ⟨[], Ev.now fun k => by simp only [list_steps.f, h4, he, cond_true, cond_false]⟩
    | false =>
      have hl : s.data.toList.length ≤ 400 := by
        rw [slen_l] at h4
        have := of_decide_eq_false h4
        omega
      obtain ⟨o, ho⟩ := scan s hl (s.data.toList.length + 1) 0 0 [] (by omega) (by omega) (by omega) (by simp) (by simp)
      rw [List.drop_zero] at ho
      exact ⟨o, Ev.congr (fun k => by simp only [list_steps.f, h4, he, cond_false]; rfl) ho⟩

/-! Conditions. -/
theorem ceta (y : T_list_Cond) : T_list_Cond.mk y.fOp y.fRoute y.fValue y.fKids = y := by cases y; rfl
mutual
def cn : T_list_Cond → Nat
  | ⟨_, _, _, ks⟩ => cns ks + 1
def cns : List T_list_Cond → Nat
  | [] => 0
  | t :: r => cn t + cns r
end
mutual
def cl : T_list_Cond → Nat
  | ⟨_, _, _, ks⟩ => cls ks + 1
def cls : List T_list_Cond → Nat
  | [] => 0
  | t :: r => max (cl t) (cls r)
end
mutual
def cw : T_list_Cond → Nat
  | ⟨_, r, v, ks⟩ => r.size + wt v + cws ks + 1
def cws : List T_list_Cond → Nat
  | [] => 0
  | t :: r => cw t + cws r
end
theorem cn_eq (t : T_list_Cond) : cn t = cns t.fKids + 1 := by cases t; simp [cn]
theorem cl_eq (t : T_list_Cond) : cl t = cls t.fKids + 1 := by cases t; simp [cl]
theorem cw_eq (t : T_list_Cond) : cw t = t.fRoute.size + wt t.fValue + cws t.fKids + 1 := by cases t; simp [cw]
theorem cw_pos (t : T_list_Cond) : 1 ≤ cw t := by rw [cw_eq]; omega
theorem cw_mem : ∀ {l : List T_list_Cond} {t : T_list_Cond}, t ∈ l → cw t ≤ cws l
  | a :: l, t, h => by
    simp only [cws]
    rcases List.mem_cons.1 h with rfl | h
    · omega
    · have := cw_mem h; omega
theorem clen_le : ∀ l : List T_list_Cond, l.length ≤ cws l
  | [] => Nat.zero_le _
  | a :: l => by
    have := clen_le l
    have := cw_pos a
    simp only [cws, List.length_cons]; omega
theorem ctree {P : T_list_Cond → Prop} (h : ∀ t, (∀ k ∈ t.fKids, P k) → P t) : ∀ t, P t := by
  have : ∀ (n : Nat) (t : T_list_Cond), cw t ≤ n → P t := by
    intro n
    induction n with
    | zero => intro t ht; have := cw_pos t; omega
    | succ n ih => intro t ht; exact h t fun k hk => ih k (by have := cw_mem hk; rw [cw_eq] at ht; omega)
  exact fun t => this _ t (Nat.le_refl _)
theorem cn_cw : ∀ t, cn t ≤ cw t := ctree fun t ih => by
  have : ∀ l : List T_list_Cond, (∀ k ∈ l, cn k ≤ cw k) → cns l ≤ cws l := by
    intro l
    induction l with
    | nil => intro _; exact Nat.zero_le _
    | cons a l ih =>
      intro h
      have h1 := h a (List.mem_cons_self ..)
      have h2 := ih fun k hk => h k (List.mem_cons_of_mem _ hk)
      simp only [cns, cws]; omega
  have := this t.fKids ih
  rw [cn_eq, cw_eq]; omega
theorem cns_cws : ∀ l, cns l ≤ cws l
  | [] => Nat.zero_le _
  | a :: l => by have := cn_cw a; have := cns_cws l; simp only [cns, cws]; omega
theorem cl_cw : ∀ t, cl t ≤ cw t := ctree fun t ih => by
  have : ∀ l : List T_list_Cond, (∀ k ∈ l, cl k ≤ cw k) → cls l ≤ cws l := by
    intro l
    induction l with
    | nil => intro _; exact Nat.zero_le _
    | cons a l ih =>
      intro h
      have h1 := h a (List.mem_cons_self ..)
      have h2 := ih fun k hk => h k (List.mem_cons_of_mem _ hk)
      simp only [cls, cws]; omega
  have := this t.fKids ih
  rw [cl_eq, cw_eq]; omega
theorem cw_bulk : ∀ (D : Nat) (t : T_list_Cond), good ctx D (.st 0) t → cw t ≤ bulk ctx D (.st 0) t
  | 0, t, h => h.1.elim
  | 1, t, h => h.2.2.1.1.elim
  | D + 2, t, h => by
    have hv : wt t.fValue ≤ bulk ctx (D + 1) (.st 1) t.fValue := wt_bulk (D + 1) t.fValue h.2.2.1
    have hi : ∀ k ∈ t.fKids, cw k ≤ bulk ctx D (.st 0) k := fun k hk => cw_bulk D k (h.2.2.2.2.2 k hk)
    have hs : ∀ l : List T_list_Cond, (∀ k ∈ l, cw k ≤ bulk ctx D (.st 0) k) → cws l ≤ (l.map (bulk ctx D (.st 0))).sum := by
      intro l
      induction l with
      | nil => intro _; exact Nat.zero_le _
      | cons a l ih =>
        intro h
        have h1 := h a (List.mem_cons_self ..)
        have h2 := ih fun k hk => h k (List.mem_cons_of_mem _ hk)
        simp only [cws, List.map_cons, List.sum_cons]
        exact Nat.add_le_add h1 h2
    have h1 := hs t.fKids hi
    rw [cw_eq]
    show _ ≤ 1 + ((t.fRoute.size + 1) + (bulk ctx (D + 1) (.st 1) t.fValue + (((t.fKids.map (bulk ctx D (.st 0))).sum + 1) + 0))) + 1
    omega
theorem count_loop_many (l : List T_list_Cond) (hl : cws l ≤ 1048576) (ih : ∀ k ∈ l, ∃ r : Nat, Ev (fun f => list_many.f f k) (r : Int) ∧ r ≤ cn k ∧ (200 < r ∨ r = cn k)) : ∀ (d j a : Nat), l.length - j ≤ d → j ≤ l.length → a + cns (l.drop j) ≤ 1048577 →
    ∃ r : Nat, Ev (fun f => list_many.l0 f (a : Int) l (llen l) (j : Int)) (r : Int) ∧ r ≤ a + cns (l.drop j) ∧ (200 < r ∨ r = a + cns (l.drop j)) := by
  have hlen := clen_le l
  have fin : ∀ j a : Nat, l.length ≤ j → ∃ r : Nat, Ev (fun f => list_many.l0 f (a : Int) l (llen l) (j : Int)) (r : Int) ∧ r ≤ a + cns (l.drop j) ∧ (200 < r ∨ r = a + cns (l.drop j)) := fun j a h => by
    refine ⟨a, Ev.step (g := fun _ => some (a : Int)) (fun k => ?_) (Ev.now fun _ => rfl), by omega, ?_⟩
    · simp only [list_many.l0, llen_eq, ilt_f (show (l.length : Int) ≤ (j : Int) by omega), cond_false]
    · rw [List.drop_eq_nil_of_le h]; simp [cns]
  intro d
  induction d with
  | zero => intro j a hd hj hb; exact fin j a (by omega)
  | succ d ihd =>
    intro j a hd hj hb
    rcases Nat.lt_or_ge j l.length with hlt | hge
    · rw [List.drop_eq_getElem_cons hlt] at hb ⊢
      simp only [cns] at hb ⊢
      by_cases ha : 200 < a
      · refine ⟨a, Ev.step (g := fun _ => some (a : Int)) (fun k => ?_) (Ev.now fun _ => rfl), by omega, .inl ha⟩
        simp only [list_many.l0, llen_eq, ilt_t (show (j : Int) < (l.length : Int) by omega), cond_true, lat_lt hlt, Option.bind_some, ilt_t (show (200 : Int) < (a : Int) by omega)]
      · obtain ⟨r, r1, r2, r3⟩ := ih _ (List.getElem_mem hlt)
        obtain ⟨q, q1, q2, q3⟩ := ihd (j + 1) (a + r) (by omega) hlt (by omega)
        have w : wadd .i64 (a : Int) (r : Int) = ((a + r : Nat) : Int) := by rw [wadd64 (by omega) (by omega)]; omega
        refine ⟨q, Ev.step (g := fun k => (list_many.f k l[j]).bind fun y2 => list_many.l0 k (wadd .i64 (a : Int) y2) l (llen l) ((j + 1 : Nat) : Int)) (fun k => ?_) (Ev.bind r1 (by rw [w]; exact q1)), by omega, by omega⟩
        simp only [list_many.l0, llen_eq, ilt_t (show (j : Int) < (l.length : Int) by omega), cond_true, lat_lt hlt, Option.bind_some, ilt_f (show (a : Int) ≤ 200 by omega), cond_false, eta, ceta, u0 (show j ≤ 4611686018427387904 by omega)]
    · exact fin j a hge
theorem count_many : ∀ t, cw t ≤ 1048576 → ∃ r : Nat, Ev (fun f => list_many.f f t) (r : Int) ∧ r ≤ cn t ∧ (200 < r ∨ r = cn t) := ctree fun t ih hn => by
  have h0 := cns_cws t.fKids
  rw [cw_eq] at hn
  obtain ⟨r, r1, r2, r3⟩ := count_loop_many t.fKids (by omega) (fun k hk => ih k hk (by have := cw_mem hk; omega)) t.fKids.length 0 1 (by omega) (by omega) (by rw [List.drop_zero]; omega)
  rw [List.drop_zero] at r2 r3
  rw [cn_eq]
  exact ⟨r, Ev.step (fun k => by simp only [list_many.f]; rfl) r1, by omega, by omega⟩

theorem levels_loop_deep (l : List T_list_Cond) (hl : cws l ≤ 1048576) (ih : ∀ k ∈ l, Ev (fun f => list_deep.f f k) (cl k : Int)) : ∀ (d j a : Nat), l.length - j ≤ d → j ≤ l.length → a ≤ 1048576 →
    Ev (fun f => list_deep.l0 f (a : Int) l (llen l) (j : Int)) ((max a (cls (l.drop j)) + 1 : Nat) : Int) := by
  have hlen := clen_le l
  have hlv := fun k (hk : k ∈ l) => (show cl k ≤ 1048576 by have h1 := cw_mem hk; have h2 := cl_cw k; omega)
  have fin : ∀ j a : Nat, l.length ≤ j → a ≤ 1048576 → Ev (fun f => list_deep.l0 f (a : Int) l (llen l) (j : Int)) ((max a (cls (l.drop j)) + 1 : Nat) : Int) := fun j a h ha => by
    rw [List.drop_eq_nil_of_le h]
    refine Ev.step (g := fun _ => some ((max a (cls []) + 1 : Nat) : Int)) (fun k => ?_) (Ev.now fun _ => rfl)
    simp only [list_deep.l0, llen_eq, ilt_f (show (l.length : Int) ≤ (j : Int) by omega), cond_false, cls, u0 (show a ≤ 4611686018427387904 by omega)]
    simp
  intro d
  induction d with
  | zero => intro j a hd hj ha; exact fin j a (by omega) ha
  | succ d ihd =>
    intro j a hd hj ha
    rcases Nat.lt_or_ge j l.length with hlt | hge
    · rw [List.drop_eq_getElem_cons hlt]
      have hk := hlv _ (List.getElem_mem hlt)
      have := ihd (j + 1) (max a (cl l[j])) (by omega) hlt (by omega)
      rw [show max (max a (cl l[j])) (cls (l.drop (j + 1))) = max a (cls (l[j] :: l.drop (j + 1))) by simp only [cls]; omega] at this
      refine Ev.step (g := fun k => (list_deep.f k l[j]).bind fun y2 => list_deep.l0 k (imax (a : Int) y2) l (llen l) ((j + 1 : Nat) : Int)) (fun k => ?_) (Ev.bind (ih _ (List.getElem_mem hlt)) (by rw [imax_nat]; exact this))
      simp only [list_deep.l0, llen_eq, ilt_t (show (j : Int) < (l.length : Int) by omega), cond_true, lat_lt hlt, Option.bind_some, eta, ceta, u0 (show j ≤ 4611686018427387904 by omega)]
    · exact fin j a hge ha
theorem levels_deep : ∀ t, cw t ≤ 1048576 → Ev (fun f => list_deep.f f t) (cl t : Int) := ctree fun t ih hn => by
  rw [cw_eq] at hn
  have := levels_loop_deep t.fKids (by omega) (fun k hk => ih k hk (by have := cw_mem hk; omega)) t.fKids.length 0 0 (by omega) (by omega) (by omega)
  rw [List.drop_zero, Nat.zero_max] at this
  rw [cl_eq]
  exact Ev.step (fun k => by simp only [list_deep.f]; rfl) this


theorem conds_loop (l : List T_list_Cond) (hl : cws l ≤ 1048576) (ih : ∀ k ∈ l, Ev (fun f => mastref2_condsOf.f f k) ((cn k : Int), (cl k : Int))) : ∀ (d j a b : Nat), l.length - j ≤ d → j ≤ l.length → a + cns (l.drop j) ≤ 1048577 → b ≤ 1048576 →
    Ev (fun f => mastref2_condsOf.l0 f (a : Int) (b : Int) l (llen l) (j : Int)) (((a + cns (l.drop j) : Nat) : Int), ((max b (cls (l.drop j)) + 1 : Nat) : Int)) := by
  have hlen := clen_le l
  have hlv := fun k (hk : k ∈ l) => (show cl k ≤ 1048576 by have h1 := cw_mem hk; have h2 := cl_cw k; omega)
  have fin : ∀ j a b : Nat, l.length ≤ j → b ≤ 1048576 → Ev (fun f => mastref2_condsOf.l0 f (a : Int) (b : Int) l (llen l) (j : Int)) (((a + cns (l.drop j) : Nat) : Int), ((max b (cls (l.drop j)) + 1 : Nat) : Int)) := fun j a b h hb => by
    rw [List.drop_eq_nil_of_le h]
    refine Ev.step (g := fun _ => some (((a + cns [] : Nat) : Int), ((max b (cls []) + 1 : Nat) : Int))) (fun k => ?_) (Ev.now fun _ => rfl)
    simp only [mastref2_condsOf.l0, llen_eq, ilt_f (show (l.length : Int) ≤ (j : Int) by omega), cond_false, cls, cns, u0 (show b ≤ 4611686018427387904 by omega)]
    simp
  intro d
  induction d with
  | zero => intro j a b hd hj ha hb; exact fin j a b (by omega) hb
  | succ d ihd =>
    intro j a b hd hj ha hb
    rcases Nat.lt_or_ge j l.length with hlt | hge
    · rw [List.drop_eq_getElem_cons hlt] at ha ⊢
      have hk := hlv _ (List.getElem_mem hlt)
      simp only [cns] at ha
      have := ihd (j + 1) (a + cn l[j]) (max b (cl l[j])) (by omega) hlt (by omega) (by omega)
      rw [show max (max b (cl l[j])) (cls (l.drop (j + 1))) = max b (cls (l[j] :: l.drop (j + 1))) by simp only [cls]; omega, show a + cn l[j] + cns (l.drop (j + 1)) = a + cns (l[j] :: l.drop (j + 1)) by simp only [cns]; omega] at this
      have w : wadd .i64 (a : Int) (cn l[j] : Int) = ((a + cn l[j] : Nat) : Int) := by rw [wadd64 (by omega) (by omega)]; omega
      refine Ev.step (g := fun k => (mastref2_condsOf.f k l[j]).bind fun y2 => mastref2_condsOf.l0 k (wadd .i64 (a : Int) y2.1) (imax (b : Int) y2.2) l (llen l) ((j + 1 : Nat) : Int)) (fun k => ?_) (Ev.bind (ih _ (List.getElem_mem hlt)) (by rw [imax_nat, w]; exact this))
      simp only [mastref2_condsOf.l0, llen_eq, ilt_t (show (j : Int) < (l.length : Int) by omega), cond_true, lat_lt hlt, Option.bind_some, eta, ceta, u0 (show j ≤ 4611686018427387904 by omega)]
    · exact fin j a b hge hb
theorem conds_ok : ∀ t, cw t ≤ 1048576 → Ev (fun f => mastref2_condsOf.f f t) ((cn t : Int), (cl t : Int)) := ctree fun t ih hn => by
  have h0 := cns_cws t.fKids
  rw [cw_eq] at hn
  have := conds_loop t.fKids (by omega) (fun k hk => ih k hk (by have := cw_mem hk; omega)) t.fKids.length 0 1 0 (by omega) (by omega) (by rw [List.drop_zero]; omega) (by omega)
  rw [List.drop_zero, Nat.zero_max, Nat.add_comm 1] at this
  rw [cl_eq, cn_eq]
  exact Ev.step (fun k => by simp only [mastref2_condsOf.f]; rfl) this

/-! A value that is nothing. -/
def zz (v : T_api_Value) : Bool := bif (bif (bif (bif (bif (ieq v.fKind 0) then (!v.fBool) else false) then (ieq v.fInt 0) else false) then (seq v.fText c_empty) else false) then (ieq (llen v.fItems) 0) else false) then (ieq (llen v.fKeys) 0) else false
def sg3 (a b : Int) : Int := bif ilt a b then -1 else bif ilt b a then 1 else 0
theorem cmp_ok (a b : Int) : cmp_Compare_int.f a b = some (sg3 a b) := by
  simp only [cmp_Compare_int.f, cmp_isNaN_int.f, ieq_self, Option.bind_some, Bool.not_true, cond_false, sg3]
  cases ilt a b <;> cases ilt b a <;> rfl
theorem sg3_zero (a b : Int) : ieq (sg3 a b) 0 = ieq a b := by
  unfold sg3
  rcases Int.lt_trichotomy a b with h | h | h
  · rw [ilt_t h, ieq_f (show a ≠ b by omega)]; rfl
  · rw [ilt_f (show b ≤ a by omega), ilt_f (show a ≤ b by omega), ieq_t h]; rfl
  · rw [ilt_f (show b ≤ a by omega), ilt_t h, ieq_f (show a ≠ b by omega)]; rfl
theorem same_ok (v : T_api_Value) : Ev (fun k => mastref2_SameOf.f k v ⟨0, false, 0, c_empty, [], []⟩) (zz v) := by
  have hk : Ev (fun k => slices_Compare_string_string.f k v.fKeys []) (bif ieq (llen v.fKeys) 0 then 0 else 1) := by
    cases hq : v.fKeys with
    | nil =>
      refine Ev.congr (fun k => by simp only [slices_Compare_string_string.f]; rfl) (Ev.step (g := fun _ => some 0) (fun k => ?_) (Ev.now fun _ => rfl))
      simp only [slices_Compare_string_string.l0]
      rfl
    | cons c r =>
      have h0 : ieq (llen (c :: r)) 0 = false := ieq_f (by rw [llen_eq, List.length_cons]; omega)
      rw [h0]
      refine Ev.congr (fun k => by simp only [slices_Compare_string_string.f]; rfl) (Ev.step (g := fun _ => some 1) (fun k => ?_) (Ev.now fun _ => rfl))
      have h1 : ilt 0 (llen (c :: r)) = true := ilt_t (by rw [llen_eq, List.length_cons]; omega)
      simp only [slices_Compare_string_string.l0, h1, cond_true]
      rfl
  have ht : strings_Compare.f v.fText c_empty = some (bif seq v.fText c_empty then 0 else 1) := by
    unfold strings_Compare.f
    rw [seq_empty]
    cases v.fText.data.toList <;> rfl
  have hl0 : Ev (fun k => mastref2_CompareOf.l0 k v.fKind v.fBool v.fInt v.fText v.fItems v.fKeys 0 false 0 c_empty [] [] 0) (sg3 (llen v.fItems) 0) := by
    refine Ev.step (g := fun _ => some (sg3 (llen v.fItems) 0)) (fun k => ?_) (Ev.now fun _ => rfl)
    have h1 : (bif ilt 0 (llen v.fItems) then ilt 0 (llen ([] : List T_api_Value)) else false) = false := by cases ilt 0 (llen v.fItems) <;> rfl
    simp only [mastref2_CompareOf.l0, h1, cond_false, cmp_ok, Option.bind_some]
    rfl
  have hor : ∀ a b c : Int, Ev (fun k => cmp_Or_int.f k [a, b, c]) (bif !ieq a 0 then a else bif !ieq b 0 then b else bif !ieq c 0 then c else 0) := fun a b c => by
    have w1 : wadd .i64 0 1 = 1 := rfl
    have w2 : wadd .i64 1 1 = 2 := rfl
    have w3 : wadd .i64 2 1 = 3 := rfl
    have l3 : Ev (fun k => cmp_Or_int.l0 k 0 [a, b, c] 3 3) 0 := Ev.step (g := fun _ => some 0) (fun k => by simp only [cmp_Or_int.l0]; rfl) (Ev.now fun _ => rfl)
    have l2 : Ev (fun k => cmp_Or_int.l0 k 0 [a, b, c] 3 2) (bif !ieq c 0 then c else 0) := by
      cases h : ieq c 0 with
      | true => exact Ev.step (fun k => by simp only [cmp_Or_int.l0, w3]; rw [show ilt 2 3 = true from rfl, show lat [a, b, c] 2 = some c from rfl]; simp only [cond_true, Option.bind_some, h, Bool.not_true, cond_false]) l3
      | false => exact Ev.step (g := fun _ => some c) (fun k => by simp only [cmp_Or_int.l0]; rw [show ilt 2 3 = true from rfl, show lat [a, b, c] 2 = some c from rfl]; simp only [cond_true, Option.bind_some, h, Bool.not_false]) (Ev.now fun _ => rfl)
    have l1 : Ev (fun k => cmp_Or_int.l0 k 0 [a, b, c] 3 1) (bif !ieq b 0 then b else bif !ieq c 0 then c else 0) := by
      cases h : ieq b 0 with
      | true => exact Ev.step (fun k => by simp only [cmp_Or_int.l0, w2]; rw [show ilt 1 3 = true from rfl, show lat [a, b, c] 1 = some b from rfl]; simp only [cond_true, Option.bind_some, h, Bool.not_true, cond_false]) l2
      | false => exact Ev.step (g := fun _ => some b) (fun k => by simp only [cmp_Or_int.l0]; rw [show ilt 1 3 = true from rfl, show lat [a, b, c] 1 = some b from rfl]; simp only [cond_true, Option.bind_some, h, Bool.not_false]) (Ev.now fun _ => rfl)
    have l0 : Ev (fun k => cmp_Or_int.l0 k 0 [a, b, c] 3 0) (bif !ieq a 0 then a else bif !ieq b 0 then b else bif !ieq c 0 then c else 0) := by
      cases h : ieq a 0 with
      | true => exact Ev.step (fun k => by simp only [cmp_Or_int.l0, w1]; rw [show ilt 0 3 = true from rfl, show lat [a, b, c] 0 = some a from rfl]; simp only [cond_true, Option.bind_some, h, Bool.not_true, cond_false]) l1
      | false => exact Ev.step (g := fun _ => some a) (fun k => by simp only [cmp_Or_int.l0]; rw [show ilt 0 3 = true from rfl, show lat [a, b, c] 0 = some a from rfl]; simp only [cond_true, Option.bind_some, h, Bool.not_false]) (Ev.now fun _ => rfl)
    exact Ev.congr (fun k => by simp only [cmp_Or_int.f]; rfl) l0
  have hc : ∃ r : Int, Ev (fun k => mastref2_CompareOf.f k v ⟨0, false, 0, c_empty, [], []⟩) r ∧ ieq r 0 = zz v := by
    unfold zz
    cases h1 : ieq v.fKind 0 with
    | false =>
      refine ⟨sg3 v.fKind 0, Ev.step (g := fun _ => some (sg3 v.fKind 0)) (fun k => ?_) (Ev.now fun _ => rfl), by rw [sg3_zero, h1]; rfl⟩
      simp only [mastref2_CompareOf.f, cmp_ok, Option.bind_some, sg3_zero, h1, Bool.not_false, cond_true]
    | true =>
      cases h2 : v.fBool with
      | true =>
        refine ⟨1, Ev.step (g := fun _ => some 1) (fun k => ?_) (Ev.now fun _ => rfl), rfl⟩
        simp only [mastref2_CompareOf.f, cmp_ok, Option.bind_some, sg3_zero, h1, h2, Bool.not_true, cond_false]
        rfl
      | false =>
        have st : ∀ k, mastref2_CompareOf.f (k + 1) v ⟨0, false, 0, c_empty, [], []⟩ = (slices_Compare_string_string.f k v.fKeys []).bind fun y4 => (cmp_Or_int.f k [sg3 v.fInt 0, bif seq v.fText c_empty then 0 else 1, y4]).bind fun y5 => bif !ieq y5 0 then some y5 else mastref2_CompareOf.l0 k v.fKind v.fBool v.fInt v.fText v.fItems v.fKeys 0 false 0 c_empty [] [] 0 := fun k => by
          simp only [mastref2_CompareOf.f, cmp_ok, Option.bind_some, sg3_zero, h1, h2, Bool.not_true, cond_false, ht]
          rfl
        have key := fun r (hr : Ev (fun k => (cmp_Or_int.f k [sg3 v.fInt 0, bif seq v.fText c_empty then 0 else 1, bif ieq (llen v.fKeys) 0 then 0 else 1]).bind fun y5 => bif !ieq y5 0 then some y5 else mastref2_CompareOf.l0 k v.fKind v.fBool v.fInt v.fText v.fItems v.fKeys 0 false 0 c_empty [] [] 0) r) => (Ev.step st (Ev.bind hk hr) : Ev (fun k => mastref2_CompareOf.f k v ⟨0, false, 0, c_empty, [], []⟩) r)
        have hb := hor (sg3 v.fInt 0) (bif seq v.fText c_empty then 0 else 1) (bif ieq (llen v.fKeys) 0 then 0 else 1)
        rw [sg3_zero] at hb
        simp only [cond_true, Bool.not_false]
        cases h3 : ieq v.fInt 0 with
        | false =>
          rw [h3] at hb
          refine ⟨sg3 v.fInt 0, key _ (Ev.bind hb ?_), by rw [sg3_zero, h3]; rfl⟩
          simp only [Bool.not_false, cond_true, sg3_zero, h3]
          exact Ev.now fun _ => rfl
        | true =>
          rw [h3] at hb
          cases h4 : seq v.fText c_empty with
          | false =>
            rw [h4] at hb key
            exact ⟨1, key _ (Ev.bind hb (Ev.now fun _ => rfl)), rfl⟩
          | true =>
            rw [h4] at hb key
            cases h5 : ieq (llen v.fKeys) 0 with
            | false =>
              rw [h5] at hb key
              refine ⟨1, key _ (Ev.bind hb (Ev.now fun _ => rfl)), ?_⟩
              simp
              rfl
            | true =>
              rw [h5] at hb key
              refine ⟨sg3 (llen v.fItems) 0, key _ (Ev.bind hb hl0), ?_⟩
              rw [sg3_zero]; simp
  obtain ⟨r, h1, h2⟩ := hc
  exact Ev.congr (g := fun k => (mastref2_CompareOf.f k v ⟨0, false, 0, c_empty, [], []⟩).bind fun y1 => some (ieq y1 0)) (fun k => by simp only [mastref2_SameOf.f, eta]) (Ev.bind h1 (Ev.now fun _ => by rw [h2]))

/-! Kinds. -/
def cmpd (v : T_api_Value) : Bool := bif (ieq v.fKind 5) then true else (ieq v.fKind 6)
def wk (op : Int) (v : T_api_Value) : Bool := bif (ieq op 12) then (bif (!ieq v.fKind 5) then true else v.fItems.any cmpd) else (bif (ieq op 13) then (!ieq v.fKind 3) else cmpd v)
theorem wrongL (op : Int) (v : T_api_Value) (hv : wt v ≤ 1048576) : Ev (fun k => list_wrongKind.f k op v) (wk op v) := by
  rw [wt_eq] at hv
  have hlen := len_le v.fItems
  have q := find_pure v.fItems 0 (Nat.zero_le _) (fun k j => list_wrongKind.l0 k v.fItems (llen v.fItems) (j : Int)) (fun _ => some false) cmpd (fun _ => true) false
    (fun k j h => by
      simp only [list_wrongKind.l0, llen_eq, Go.Proofs.YtdffbjbpolhliaaDoor.Lift.ilen _ _ h, cond_true, lat_lt h, Option.bind_some, list_compound.f, eta, u0 (show j ≤ 4611686018427387904 by omega), cmpd])
    (fun k => by simp only [list_wrongKind.l0, llen_eq, Go.Proofs.YtdffbjbpolhliaaDoor.Lift.ilen', cond_false]) (Ev.now fun _ => rfl)
  rw [fl_const, List.drop_zero] at q
  unfold wk
  cases h1 : ieq op 12 with
  | true =>
    cases h2 : ieq v.fKind 5 with
    | false => exact Ev.now fun k => by simp only [list_wrongKind.f, h1, h2, cond_true, Bool.not_false]
    | true =>
      have e : (bif v.fItems.any cmpd then true else false) = v.fItems.any cmpd := by cases v.fItems.any cmpd <;> rfl
      rw [e] at q
      exact Ev.congr (fun k => by simp only [list_wrongKind.f, h1, h2, cond_true, Bool.not_true, cond_false]; rfl) q
  | false =>
    refine Ev.now fun k => ?_
    simp only [list_wrongKind.f, h1, cond_false, list_compound.f, eta, Option.bind_some, cmpd]
    cases ieq op 13 <;> rfl
theorem wrongR (op : Int) (v : T_api_Value) (hv : wt v ≤ 1048576) : Ev (fun k => mastref2_valueFault.f k op v) (wk op v) := by
  rw [wt_eq] at hv
  have hlen := len_le v.fItems
  have e0 : ∀ x : T_api_Value, (!(bif (!ieq x.fKind 5) then (!ieq x.fKind 6) else false)) = cmpd x := fun x => by unfold cmpd; cases ieq x.fKind 5 <;> cases ieq x.fKind 6 <;> rfl
  have q := find_pure v.fItems 0 (Nat.zero_le _) (fun k j => slices_IndexFunc_api_Value_api_Value_at_mastref2_valueFault_c1.l0 k v.fItems (llen v.fItems) (j : Int)) (fun _ => some (-1)) cmpd (fun j => (j : Int)) (-1)
    (fun k j h => by
      simp only [slices_IndexFunc_api_Value_api_Value_at_mastref2_valueFault_c1.l0, llen_eq, Go.Proofs.YtdffbjbpolhliaaDoor.Lift.ilen _ _ h, cond_true, lat_lt h, Option.bind_some, mastref2_valueFault_c1.f, mastref2_scalar.f, eta, u0 (show j ≤ 4611686018427387904 by omega), e0])
    (fun k => by simp only [slices_IndexFunc_api_Value_api_Value_at_mastref2_valueFault_c1.l0, llen_eq, Go.Proofs.YtdffbjbpolhliaaDoor.Lift.ilen', cond_false]) (Ev.now fun _ => rfl)
  rw [List.drop_zero] at q
  unfold wk
  cases h1 : ieq op 12 with
  | true =>
    cases h2 : ieq v.fKind 5 with
    | false => exact Ev.now fun k => by simp only [mastref2_valueFault.f, h1, h2, cond_true, Bool.not_false]
    | true =>
      refine Ev.congr (g := fun k => (slices_IndexFunc_api_Value_api_Value_at_mastref2_valueFault_c1.l0 k v.fItems (llen v.fItems) 0).bind fun y1 => some (ile 0 y1)) (fun k => ?_) (Ev.bind q (Ev.now fun _ => by rw [fl_any]; rfl))
      simp only [mastref2_valueFault.f, h1, h2, cond_true, Bool.not_true, cond_false, slices_ContainsFunc_api_Value_api_Value_at_mastref2_valueFault_c1.f, slices_IndexFunc_api_Value_api_Value_at_mastref2_valueFault_c1.f, Option.bind_assoc, Option.bind_some]
  | false =>
    refine Ev.now fun k => ?_
    simp only [mastref2_valueFault.f, h1, cond_false, mastref2_scalar.f, eta, Option.bind_some, e0]
    cases ieq op 13 <;> rfl

/-! Routes of conditions. -/
def resv (s : ByteArray) : Bool := g_condWords.any fun y => seq s y
theorem resL (s : ByteArray) : list_reserved.f s = some (resv s) := by
  have e : resv s = (seq s c_and || (seq s c_or || (seq s c_not || (seq s c_has || (seq s c_in || (seq s c_begins || false)))))) := rfl
  rw [e]
  unfold list_reserved.f
  cases seq s c_and <;> cases seq s c_or <;> cases seq s c_not <;> cases seq s c_has <;> cases seq s c_in <;> cases seq s c_begins <;> rfl
theorem resR (s : ByteArray) : Ev (fun k => slices_Contains_string_string.f k g_condWords s) (resv s) := by
  have q := find_pure g_condWords 0 (Nat.zero_le _) (fun k j => slices_Index_string_string.l0 k g_condWords s (llen g_condWords) (j : Int)) (fun _ => some (-1)) (fun y => seq s y) (fun j => (j : Int)) (-1)
    (fun k j h => by
      have h6 : g_condWords.length = 6 := rfl
      simp only [slices_Index_string_string.l0, llen_eq, Go.Proofs.YtdffbjbpolhliaaDoor.Lift.ilen _ _ h, cond_true, lat_lt h, Option.bind_some, u0 (show j ≤ 4611686018427387904 by omega)])
    (fun k => by simp only [slices_Index_string_string.l0, llen_eq, Go.Proofs.YtdffbjbpolhliaaDoor.Lift.ilen', cond_false]) (Ev.now fun _ => rfl)
  rw [List.drop_zero] at q
  exact Ev.congr (g := fun k => (slices_Index_string_string.l0 k g_condWords s (llen g_condWords) 0).bind fun y1 => some (ile 0 y1)) (fun k => by simp only [slices_Contains_string_string.f, slices_Index_string_string.f]) (Ev.bind q (Ev.now fun _ => by rw [fl_any]; rfl))
def rt (s : ByteArray) : Bool := (rp s && !seq s c_empty) && !resv s
theorem routeL (s : ByteArray) : Ev (fun k => list_isRoute.f k s) (rt s) := by
  obtain ⟨o, ho⟩ := steps_ok s
  refine Ev.congr (fun k => by simp only [list_isRoute.f]; rfl) (Ev.bind ho (Ev.now fun _ => ?_))
  unfold rt
  simp only [resL, Option.bind_some]
  cases rp s <;> cases seq s c_empty <;> rfl

/-! One condition. -/
def kb (c : T_list_Cond) : Bool := (ile c.fOp 2 && ilt (llen c.fKids) 2) || (ieq c.fOp 3 && !ieq (llen c.fKids) 1) || (ile 4 c.fOp && ilt 0 (llen c.fKids))
def tail_ (c : T_list_Cond) : Int := bif ile c.fOp 3 then 0 else bif !rt c.fRoute then 3 else bif !ieq (chk c.fValue) 0 then chk c.fValue else bif !ieq c.fOp 4 then (bif wk c.fOp c.fValue then 10 else 0) else 0
def mid (c : T_list_Cond) : Int := bif (ile c.fOp 3 && !seq c.fRoute c_empty) || (ile c.fOp 4 && !zz c.fValue) then 1 else tail_ c
def cown (c : T_list_Cond) : Int := bif ilt c.fOp 1 || ilt 13 c.fOp then 1 else bif kb c then 1 else bif ile c.fOp 2 && c.fKids.any (fun x => ieq x.fOp c.fOp) then 1 else mid c
mutual
def cf : T_list_Cond → Int
  | ⟨o, r, v, ks⟩ => bif ieq (cown ⟨o, r, v, ks⟩) 0 then cfs ks else cown ⟨o, r, v, ks⟩
def cfs : List T_list_Cond → Int
  | [] => 0
  | t :: r => bif ieq (cf t) 0 then cfs r else cf t
end
theorem cf_eq (t : T_list_Cond) : cf t = bif ieq (cown t) 0 then cfs t.fKids else cown t := by cases t; simp [cf]

theorem ownL (c : T_list_Cond) (hc : cw c ≤ 1048576) : Ev (fun k => list_condFault.f k c) (cown c) := by
  rw [cw_eq] at hc
  have hlen := clen_le c.fKids
  have l1 : Ev (fun k => list_condFault.l1 k c.fOp c.fRoute c.fValue.fKind c.fValue.fBool c.fValue.fInt c.fValue.fText c.fValue.fItems c.fValue.fKeys c.fKids) (tail_ c) := by
    unfold tail_
    cases h3 : ile c.fOp 3 with
    | true => exact Ev.step (g := fun _ => some 0) (fun k => by simp only [list_condFault.l1, h3, cond_true]) (Ev.now fun _ => rfl)
    | false =>
      refine Ev.step (fun k => by simp only [list_condFault.l1, h3, cond_false, eta]; rfl) (Ev.bind (routeL c.fRoute) ?_)
      cases rt c.fRoute with
      | false => exact Ev.now fun _ => rfl
      | true =>
        simp only [Bool.not_true, cond_false]
        refine Ev.bind (chk_ok c.fValue (by omega)) ?_
        cases ieq (chk c.fValue) 0 with
        | false => exact Ev.now fun _ => rfl
        | true =>
          simp only [Bool.not_true, cond_false]
          cases ieq c.fOp 4 with
          | true => exact Ev.now fun _ => rfl
          | false =>
            simp only [Bool.not_false, cond_true]
            refine Ev.bind (wrongL c.fOp c.fValue (by omega)) ?_
            cases wk c.fOp c.fValue <;> exact Ev.now fun _ => rfl
  have q := find_pure c.fKids 0 (Nat.zero_le _) (fun k j => list_condFault.l0 k c.fOp c.fRoute c.fValue.fKind c.fValue.fBool c.fValue.fInt c.fValue.fText c.fValue.fItems c.fValue.fKeys c.fKids c.fKids (llen c.fKids) (j : Int))
    (fun k => bif (ile c.fOp 3 && !seq c.fRoute c_empty) || (ile c.fOp 4 && !zz c.fValue) then some 1 else list_condFault.l1 k c.fOp c.fRoute c.fValue.fKind c.fValue.fBool c.fValue.fInt c.fValue.fText c.fValue.fItems c.fValue.fKeys c.fKids) (fun x => bif ile c.fOp 2 then ieq x.fOp c.fOp else false) (fun _ => 1) (mid c)
    (fun k j h => by simp only [list_condFault.l0, llen_eq, Go.Proofs.YtdffbjbpolhliaaDoor.Lift.ilen _ _ h, cond_true, lat_lt h, Option.bind_some, u0 (show j ≤ 4611686018427387904 by omega)])
    (fun k => by
      simp only [list_condFault.l0, llen_eq, Go.Proofs.YtdffbjbpolhliaaDoor.Lift.ilen', cond_false, list_zero.f, Option.bind_some]
      rw [show (bif (bif (bif (bif (bif (ieq c.fValue.fKind 0) then (!c.fValue.fBool) else false) then (ieq c.fValue.fInt 0) else false) then (seq c.fValue.fText c_empty) else false) then (ieq (c.fValue.fItems.length : Int) 0) else false) then (ieq (c.fValue.fKeys.length : Int) 0) else false) = zz c.fValue from rfl]
      by_cases c3 : c.fOp ≤ 3
      · rw [ile_t c3, ile_t (show c.fOp ≤ 4 by omega), ieq_f (show c.fOp ≠ 4 by omega)]
        cases seq c.fRoute c_empty <;> cases zz c.fValue <;> rfl
      · by_cases c4 : c.fOp = 4
        · rw [ile_f (show 3 < c.fOp by omega), ile_t (show c.fOp ≤ 4 by omega), ieq_t c4]
          cases zz c.fValue <;> rfl
        · rw [ile_f (show 3 < c.fOp by omega), ile_f (show 4 < c.fOp by omega), ieq_f c4]
          rfl)
    (by
      unfold mid
      cases ((ile c.fOp 3 && !seq c.fRoute c_empty) || (ile c.fOp 4 && !zz c.fValue)) with
      | true => exact Ev.now fun _ => rfl
      | false => exact l1)
  rw [fl_const, List.drop_zero] at q
  have ea : c.fKids.any (fun x => bif ile c.fOp 2 then ieq x.fOp c.fOp else false) = (ile c.fOp 2 && c.fKids.any fun x => ieq x.fOp c.fOp) := by
    cases ile c.fOp 2 with
    | true => simp
    | false => simp
  rw [ea] at q
  unfold cown
  cases h0 : (ilt c.fOp 1 || ilt 13 c.fOp) with
  | true =>
    refine Ev.now fun k => ?_
    simp only [list_condFault.f]
    rw [show (bif ilt c.fOp 1 then true else ilt 13 c.fOp) = true by rw [← h0]; cases ilt c.fOp 1 <;> rfl]
    rfl
  | false =>
    have e0 : (bif ilt c.fOp 1 then true else ilt 13 c.fOp) = false := by rw [← h0]; cases ilt c.fOp 1 <;> rfl
    have st : ∀ k, list_condFault.f k c = bif kb c then some 1 else list_condFault.l0 k c.fOp c.fRoute c.fValue.fKind c.fValue.fBool c.fValue.fInt c.fValue.fText c.fValue.fItems c.fValue.fKeys c.fKids c.fKids (llen c.fKids) 0 := fun k => by
      simp only [list_condFault.f, e0, cond_false, kb]
      cases ile c.fOp 2 <;> cases ilt (llen c.fKids) 2 <;> cases ieq c.fOp 3 <;> cases ieq (llen c.fKids) 1 <;> cases ile 4 c.fOp <;> cases ilt 0 (llen c.fKids) <;> rfl
    simp only [cond_false]
    refine Ev.congr st ?_
    cases kb c with
    | true => exact Ev.now fun _ => rfl
    | false => exact q

theorem ownR (c : T_list_Cond) (hc : cw c ≤ 1048576) (kids : Int) (hk : Ev (fun k => mastref2_eachCond.l4 k c.fKids (llen c.fKids) 0) kids) : Ev (fun k => mastref2_eachCond.f k c) (bif ieq (cown c) 0 then kids else cown c) := by
  rw [cw_eq] at hc
  have hlen := clen_le c.fKids
  have l3 : Ev (fun k => mastref2_eachCond.l3 k c.fOp c.fRoute c.fValue.fKind c.fValue.fBool c.fValue.fInt c.fValue.fText c.fValue.fItems c.fValue.fKeys c.fKids) kids := Ev.step (fun k => by simp only [mastref2_eachCond.l3]) hk
  have l2 : Ev (fun k => mastref2_eachCond.l2 k c.fOp c.fRoute c.fValue.fKind c.fValue.fBool c.fValue.fInt c.fValue.fText c.fValue.fItems c.fValue.fKeys c.fKids) (bif ieq (tail_ c) 0 then kids else tail_ c) := by
    unfold tail_
    by_cases c3 : c.fOp ≤ 3
    · rw [ile_t c3]
      exact Ev.step (fun k => by simp only [mastref2_eachCond.l2, ilt_f (show c.fOp ≤ 3 by omega), cond_false]) l3
    · rw [ile_f (show 3 < c.fOp by omega)]
      obtain ⟨o, ho⟩ := routeR_ok c.fRoute (by omega)
      refine Ev.step (fun k => by simp only [mastref2_eachCond.l2, ilt_t (show 3 < c.fOp by omega), cond_true, eta]; rfl) (Ev.bind ho ?_)
      unfold rt
      cases hr : (rp c.fRoute && !seq c.fRoute c_empty) with
      | false =>
        simp only [show (bif (!rp c.fRoute) then true else seq c.fRoute c_empty) = true by revert hr; cases rp c.fRoute <;> cases seq c.fRoute c_empty <;> simp]
        exact Ev.now fun _ => rfl
      | true =>
        simp only [show (bif (!rp c.fRoute) then true else seq c.fRoute c_empty) = false by revert hr; cases rp c.fRoute <;> cases seq c.fRoute c_empty <;> simp, cond_false, Bool.true_and]
        refine Ev.bind (resR c.fRoute) ?_
        cases resv c.fRoute with
        | true => exact Ev.now fun _ => rfl
        | false =>
          simp only [cond_false, Bool.not_false, Bool.not_true]
          refine Ev.bind (chkR_ok c.fValue (by omega)) ?_
          cases hq : ieq (chk c.fValue) 0 with
          | false =>
            simp only [Bool.not_false, cond_true, hq, cond_false]
            exact Ev.now fun _ => rfl
          | true =>
            simp only [Bool.not_true, cond_false]
            by_cases c4 : c.fOp = 4
            · rw [ilt_f (show c.fOp ≤ 4 by omega), ieq_t c4]
              exact l3
            · rw [ilt_t (show 4 < c.fOp by omega), ieq_f c4]
              simp only [cond_true, Bool.not_false]
              refine Ev.bind (wrongR c.fOp c.fValue (by omega)) ?_
              cases wk c.fOp c.fValue with
              | true => exact Ev.now fun _ => rfl
              | false => exact l3
  have l1 : ∀ b : Bool, Ev (fun k => mastref2_eachCond.l1 k c.fOp c.fRoute c.fValue.fKind c.fValue.fBool c.fValue.fInt c.fValue.fText c.fValue.fItems c.fValue.fKeys c.fKids b) (bif b then 1 else bif ieq (mid c) 0 then kids else mid c) := fun b => by
    cases b with
    | true => exact Ev.step (g := fun _ => some 1) (fun k => by simp only [mastref2_eachCond.l1, cond_true]) (Ev.now fun _ => rfl)
    | false =>
      simp only [cond_false]
      unfold mid
      cases h3 : (ile c.fOp 3 && !seq c.fRoute c_empty) with
      | true =>
        refine Ev.step (g := fun _ => some 1) (fun k => ?_) (Ev.now fun _ => rfl)
        simp only [mastref2_eachCond.l1, cond_false]
        rw [show (bif ile c.fOp 3 then !seq c.fRoute c_empty else false) = true by rw [← h3]; cases ile c.fOp 3 <;> rfl]
        rfl
      | false =>
        have e3 : (bif ile c.fOp 3 then !seq c.fRoute c_empty else false) = false := by rw [← h3]; cases ile c.fOp 3 <;> rfl
        simp only [Bool.false_or]
        cases h4 : ile c.fOp 4 with
        | false =>
          simp only [Bool.false_and, cond_false]
          exact Ev.step (fun k => by simp only [mastref2_eachCond.l1, cond_false, e3, h4]) l2
        | true =>
          refine Ev.step (fun k => by simp only [mastref2_eachCond.l1, cond_false, e3, h4, cond_true, eta]; rfl) (Ev.bind (same_ok c.fValue) ?_)
          cases zz c.fValue with
          | false => exact Ev.now fun _ => rfl
          | true => exact l2
  have l0 : ∀ x3 x27 : Bool, Ev (fun k => mastref2_eachCond.l0 k c.fOp c.fRoute c.fValue.fKind c.fValue.fBool c.fValue.fInt c.fValue.fText c.fValue.fItems c.fValue.fKeys c.fKids x3 x27) (bif x27 then 1 else bif x3 && c.fKids.any (fun x => ieq x.fOp c.fOp) then 1 else bif ieq (mid c) 0 then kids else mid c) := fun x3 x27 => by
    cases x27 with
    | true => exact Ev.step (g := fun _ => some 1) (fun k => by simp only [mastref2_eachCond.l0, cond_true]) (Ev.now fun _ => rfl)
    | false =>
      cases x3 with
      | false => exact Ev.step (fun k => by simp only [mastref2_eachCond.l0, cond_false]) (l1 false)
      | true =>
        simp only [cond_false, Bool.true_and]
        have q := find_pure c.fKids 0 (Nat.zero_le _) (fun k j => slices_IndexFunc_list_Cond_list_Cond_at_mastref2_eachCond_c1.l0 k c.fKids (llen c.fKids) (j : Int) c.fOp c.fRoute c.fValue.fKind c.fValue.fBool c.fValue.fInt c.fValue.fText c.fValue.fItems c.fValue.fKeys c.fKids)
          (fun _ => some (-1, (c.fOp, c.fRoute, c.fValue.fKind, c.fValue.fBool, c.fValue.fInt, c.fValue.fText, c.fValue.fItems, c.fValue.fKeys, c.fKids, ()))) (fun x => ieq x.fOp c.fOp) (fun j => ((j : Int), (c.fOp, c.fRoute, c.fValue.fKind, c.fValue.fBool, c.fValue.fInt, c.fValue.fText, c.fValue.fItems, c.fValue.fKeys, c.fKids, ()))) (-1, (c.fOp, c.fRoute, c.fValue.fKind, c.fValue.fBool, c.fValue.fInt, c.fValue.fText, c.fValue.fItems, c.fValue.fKeys, c.fKids, ()))
          (fun k j h => by simp only [slices_IndexFunc_list_Cond_list_Cond_at_mastref2_eachCond_c1.l0, llen_eq, Go.Proofs.YtdffbjbpolhliaaDoor.Lift.ilen _ _ h, cond_true, lat_lt h, Option.bind_some, mastref2_eachCond_c1.f, u0 (show j ≤ 4611686018427387904 by omega)])
          (fun k => by simp only [slices_IndexFunc_list_Cond_list_Cond_at_mastref2_eachCond_c1.l0, llen_eq, Go.Proofs.YtdffbjbpolhliaaDoor.Lift.ilen', cond_false]) (Ev.now fun _ => rfl)
        rw [List.drop_zero, ← fl_map (fun i : Int => (i, (c.fOp, c.fRoute, c.fValue.fKind, c.fValue.fBool, c.fValue.fInt, c.fValue.fText, c.fValue.fItems, c.fValue.fKeys, c.fKids, ()))) (fun x : T_list_Cond => ieq x.fOp c.fOp) (fun j => (j : Int)) (-1)] at q
        have hi := Ev.congr (f := fun k => slices_IndexFunc_list_Cond_list_Cond_at_mastref2_eachCond_c1.f k c.fKids c.fOp c.fRoute c.fValue.fKind c.fValue.fBool c.fValue.fInt c.fValue.fText c.fValue.fItems c.fValue.fKeys c.fKids) (fun k => by simp only [slices_IndexFunc_list_Cond_list_Cond_at_mastref2_eachCond_c1.f]; rfl) q
        have hc : Ev (fun k => slices_ContainsFunc_list_Cond_list_Cond_at_mastref2_eachCond_c1.f k c.fKids c.fOp c.fRoute c.fValue.fKind c.fValue.fBool c.fValue.fInt c.fValue.fText c.fValue.fItems c.fValue.fKeys c.fKids) (c.fKids.any (fun x => ieq x.fOp c.fOp), (c.fOp, c.fRoute, c.fValue.fKind, c.fValue.fBool, c.fValue.fInt, c.fValue.fText, c.fValue.fItems, c.fValue.fKeys, c.fKids, ())) :=
          Ev.congr (fun k => by simp only [slices_ContainsFunc_list_Cond_list_Cond_at_mastref2_eachCond_c1.f]; rfl) (Ev.bind hi (Ev.now fun _ => by rw [fl_any]))
        exact Ev.step (fun k => by simp only [mastref2_eachCond.l0, cond_false, cond_true]; rfl) (Ev.bind hc (l1 _))
  unfold cown
  cases h0 : (ilt c.fOp 1 || ilt 13 c.fOp) with
  | true =>
    refine Ev.step (g := fun _ => some 1) (fun k => ?_) (Ev.now fun _ => rfl)
    simp only [mastref2_eachCond.f]
    rw [show (bif ilt c.fOp 1 then true else ilt 13 c.fOp) = true by rw [← h0]; cases ilt c.fOp 1 <;> rfl]
    rfl
  | false =>
    have e0 : (bif ilt c.fOp 1 then true else ilt 13 c.fOp) = false := by rw [← h0]; cases ilt c.fOp 1 <;> rfl
    obtain ⟨h1, h13⟩ := Bool.or_eq_false_iff.1 h0
    have h1 : ¬ c.fOp < 1 := of_decide_eq_false h1
    have e12 : (bif ieq c.fOp 1 then true else ieq c.fOp 2) = ile c.fOp 2 := by
      by_cases a : c.fOp = 1
      · rw [ieq_t a, ile_t (show c.fOp ≤ 2 by omega)]; rfl
      · by_cases b : c.fOp = 2
        · rw [ieq_f a, ieq_t b, ile_t (show c.fOp ≤ 2 by omega)]; rfl
        · rw [ieq_f a, ieq_f b, ile_f (show 2 < c.fOp by omega)]; rfl
    have e34 : ilt 3 c.fOp = ile 4 c.fOp := by
      by_cases a : 3 < c.fOp
      · rw [ilt_t a, ile_t (show 4 ≤ c.fOp by omega)]
      · rw [ilt_f (show c.fOp ≤ 3 by omega), ile_f (show c.fOp < 4 by omega)]
    have := l0 (ile c.fOp 2) (kb c)
    simp only [cond_false]
    have ee : (bif kb c then (1 : Int) else bif ile c.fOp 2 && c.fKids.any (fun x => ieq x.fOp c.fOp) then 1 else bif ieq (mid c) 0 then kids else mid c) = (bif ieq (bif kb c then (1 : Int) else bif ile c.fOp 2 && c.fKids.any (fun x => ieq x.fOp c.fOp) then 1 else mid c) 0 then kids else bif kb c then (1 : Int) else bif ile c.fOp 2 && c.fKids.any (fun x => ieq x.fOp c.fOp) then 1 else mid c) := by
      cases kb c <;> cases (ile c.fOp 2 && c.fKids.any (fun x => ieq x.fOp c.fOp)) <;> rfl
    rw [← ee]
    refine Ev.step (fun k => ?_) this
    simp only [mastref2_eachCond.f, e0, cond_false, e12, kb, e34]
    cases ile c.fOp 2 <;> cases ilt (llen c.fKids) 2 <;> cases ieq c.fOp 3 <;> cases ieq (llen c.fKids) 1 <;> cases ile 4 c.fOp <;> cases ilt 0 (llen c.fKids) <;> rfl
theorem items_cl_ (l : List T_list_Cond) (hl : cws l ≤ 1048576) (ih : ∀ k ∈ l, Ev (fun f => list_condsFault.f f k) (cf k)) : Ev (fun k => list_condsFault.l0 k l (llen l) 0) (cfs l) := by
  have hlen := clen_le l
  have : ∀ (d j : Nat), l.length - j ≤ d → j ≤ l.length → Ev (fun k => list_condsFault.l0 k l (llen l) (j : Int)) (cfs (l.drop j)) := by
    intro d
    have fin : ∀ j : Nat, l.length ≤ j → Ev (fun k => list_condsFault.l0 k l (llen l) (j : Int)) (cfs (l.drop j)) := fun j h => by
      rw [List.drop_eq_nil_of_le h]
      refine Ev.step (g := fun _ => some 0) (fun k => ?_) (Ev.now fun _ => rfl)
      simp only [list_condsFault.l0, llen_eq, ilt_f (show (l.length : Int) ≤ (j : Int) by omega), cond_false]
    induction d with
    | zero => intro j hd hj; exact fin j (by omega)
    | succ d ihd =>
      intro j hd hj
      rcases Nat.lt_or_ge j l.length with hlt | hge
      · rw [List.drop_eq_getElem_cons hlt]
        refine Ev.step (fun k => by simp only [list_condsFault.l0, llen_eq, ilt_t (show (j : Int) < (l.length : Int) by omega), cond_true, lat_lt hlt, Option.bind_some, eta, ceta]; rfl) (Ev.bind (ih _ (List.getElem_mem hlt)) ?_)
        simp only [cfs, u0 (show j ≤ 4611686018427387904 by omega)]
        cases ieq (cf l[j]) 0 with
        | true => exact ihd (j + 1) (by omega) hlt
        | false => exact Ev.now fun _ => rfl
      · exact fin j hge
  have := this l.length 0 (by omega) (by omega)
  rw [List.drop_zero] at this
  exact this
theorem items_cr_ (l : List T_list_Cond) (hl : cws l ≤ 1048576) (ih : ∀ k ∈ l, Ev (fun f => mastref2_eachCond.f f k) (cf k)) : Ev (fun k => mastref2_eachCond.l4 k l (llen l) 0) (cfs l) := by
  have hlen := clen_le l
  have : ∀ (d j : Nat), l.length - j ≤ d → j ≤ l.length → Ev (fun k => mastref2_eachCond.l4 k l (llen l) (j : Int)) (cfs (l.drop j)) := by
    intro d
    have fin : ∀ j : Nat, l.length ≤ j → Ev (fun k => mastref2_eachCond.l4 k l (llen l) (j : Int)) (cfs (l.drop j)) := fun j h => by
      rw [List.drop_eq_nil_of_le h]
      refine Ev.step (g := fun _ => some 0) (fun k => ?_) (Ev.now fun _ => rfl)
      simp only [mastref2_eachCond.l4, llen_eq, ilt_f (show (l.length : Int) ≤ (j : Int) by omega), cond_false]
    induction d with
    | zero => intro j hd hj; exact fin j (by omega)
    | succ d ihd =>
      intro j hd hj
      rcases Nat.lt_or_ge j l.length with hlt | hge
      · rw [List.drop_eq_getElem_cons hlt]
        refine Ev.step (fun k => by simp only [mastref2_eachCond.l4, llen_eq, ilt_t (show (j : Int) < (l.length : Int) by omega), cond_true, lat_lt hlt, Option.bind_some, eta, ceta]; rfl) (Ev.bind (ih _ (List.getElem_mem hlt)) ?_)
        simp only [cfs, u0 (show j ≤ 4611686018427387904 by omega)]
        cases ieq (cf l[j]) 0 with
        | true => exact ihd (j + 1) (by omega) hlt
        | false => exact Ev.now fun _ => rfl
      · exact fin j hge
  have := this l.length 0 (by omega) (by omega)
  rw [List.drop_zero] at this
  exact this

theorem cf_ok : ∀ c, cw c ≤ 1048576 → Ev (fun k => list_condsFault.f k c) (cf c) := ctree fun c ih hc => by
  have hc' := hc
  rw [cw_eq] at hc'
  rw [cf_eq]
  refine Ev.step (g := fun k => (list_condFault.f k c).bind fun y1 => bif !ieq y1 0 then some y1 else list_condsFault.l0 k c.fKids (llen c.fKids) 0) (fun k => by simp only [list_condsFault.f, eta, ceta]) (Ev.bind (ownL c hc) ?_)
  cases h : ieq (cown c) 0 with
  | false => exact Ev.now fun _ => rfl
  | true => exact items_cl_ c.fKids (by omega) fun k hk => ih k hk (by have := cw_mem hk; omega)
theorem cfR_ok : ∀ c, cw c ≤ 1048576 → Ev (fun k => mastref2_eachCond.f k c) (cf c) := ctree fun c ih hc => by
  have hc' := hc
  rw [cw_eq] at hc'
  rw [cf_eq]
  exact ownR c hc _ (items_cr_ c.fKids (by omega) fun k hk => ih k hk (by have := cw_mem hk; omega))

theorem pure_holds : Pure := fun x0 h0 => by
  obtain ⟨D, d1, d2⟩ := h0
  have hw : cw x0 ≤ 1048576 := Nat.le_trans (cw_bulk D x0 d1) d2
  refine (show Ev (fun k => mastlaw2_CondChecks.f k x0) true from ?_).get
  let ck : Int := bif decide (200 < cn x0) then 4 else bif decide (20 < cl x0) then 13 else cf x0
  have hL : Ev (fun k => list_CheckCond.f k x0) ck := by
    obtain ⟨r, r1, r2, r3⟩ := count_many x0 hw
    refine Ev.congr (g := fun k => (list_many.f k x0).bind fun y1 => bif ilt 200 y1 then some 4 else (list_deep.f k x0).bind fun y2 => bif ilt 20 y2 then some 13 else (list_condsFault.f k x0).bind fun y3 => some y3) (fun k => by simp only [list_CheckCond.f, eta, ceta]) (Ev.bind r1 ?_)
    show Ev _ (bif decide (200 < cn x0) then 4 else bif decide (20 < cl x0) then 13 else cf x0)
    by_cases c : 200 < cn x0
    · rw [ilt_t (show (200 : Int) < (r : Int) by omega), decide_eq_true c]; exact Ev.now fun _ => rfl
    · rw [ilt_f (show (r : Int) ≤ 200 by omega), decide_eq_false c]
      refine Ev.bind (levels_deep x0 hw) ?_
      by_cases c2 : 20 < cl x0
      · rw [ilt_t (show (20 : Int) < (cl x0 : Int) by omega), decide_eq_true c2]; exact Ev.now fun _ => rfl
      · rw [ilt_f (show (cl x0 : Int) ≤ 20 by omega), decide_eq_false c2]
        exact Ev.bind (cf_ok x0 hw) (Ev.now fun _ => rfl)
  have hR : Ev (fun k => mastref2_CondFault.f k x0) ck := by
    refine Ev.congr (g := fun k => (mastref2_condsOf.f k x0).bind fun y1 => bif ilt 200 y1.1 then some 4 else bif ilt 20 y1.2 then some 13 else (mastref2_eachCond.f k x0).bind fun y2 => some y2) (fun k => by simp only [mastref2_CondFault.f, eta, ceta]) (Ev.bind (conds_ok x0 hw) ?_)
    show Ev _ (bif decide (200 < cn x0) then 4 else bif decide (20 < cl x0) then 13 else cf x0)
    by_cases c : 200 < cn x0
    · rw [decide_eq_true c]
      simp only [ilt_t (show (200 : Int) < (cn x0 : Int) by omega)]
      exact Ev.now fun _ => rfl
    · rw [decide_eq_false c]
      simp only [ilt_f (show (cn x0 : Int) ≤ 200 by omega), cond_false]
      by_cases c2 : 20 < cl x0
      · rw [decide_eq_true c2]
        simp only [ilt_t (show (20 : Int) < (cl x0 : Int) by omega)]
        exact Ev.now fun _ => rfl
      · rw [decide_eq_false c2]
        simp only [ilt_f (show (cl x0 : Int) ≤ 20 by omega), cond_false]
        exact Ev.bind (cfR_ok x0 hw) (Ev.now fun _ => rfl)
  exact Ev.congr (g := fun k => (list_CheckCond.f k x0).bind fun y1 => (mastref2_CondFault.f k x0).bind fun y2 => some (ieq y1 y2)) (fun k => by simp only [mastlaw2_CondChecks.f, eta, ceta]) (Ev.bind hL (Ev.bind hR (Ev.now fun _ => by rw [ieq_self])))

end Go.Proofs.YtdffbjbpolhliaaDoor.LCondChecks
