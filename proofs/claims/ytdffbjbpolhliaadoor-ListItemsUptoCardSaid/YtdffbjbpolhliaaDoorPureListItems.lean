/- An item is checked as the reference says, for values of small bulk. Conditions: none. -/
import Derived.Test.YtdffbjbpolhliaaDoorLListItemsOp
set_option linter.unusedVariables false
set_option linter.unusedSimpArgs false
namespace Go.Proofs.YtdffbjbpolhliaaDoor.LListItems
open Go Go.Proofs.YtdffbjbpolhliaaDoor.Lift

theorem eta (y : T_api_Value) : T_api_Value.mk y.fKind y.fBool y.fInt y.fText y.fItems y.fKeys = y := by cases y; rfl

mutual
/-- How many values. -/
def nT : T_api_Value → Nat
  | ⟨_, _, _, _, is, _⟩ => nTs is + 1
def nTs : List T_api_Value → Nat
  | [] => 0
  | t :: r => nT t + nTs r
end
mutual
/-- How many levels. -/
def lv : T_api_Value → Nat
  | ⟨_, _, _, _, is, _⟩ => lvs is + 1
def lvs : List T_api_Value → Nat
  | [] => 0
  | t :: r => max (lv t) (lvs r)
end
def kz : List ByteArray → Nat
  | [] => 0
  | s :: r => s.size + 1 + kz r
mutual
/-- How much is held. -/
def wt : T_api_Value → Nat
  | ⟨_, _, _, t, is, ks⟩ => t.size + kz ks + wts is + 1
def wts : List T_api_Value → Nat
  | [] => 0
  | t :: r => wt t + wts r
end
theorem nT_eq (t : T_api_Value) : nT t = nTs t.fItems + 1 := by cases t; simp [nT]
theorem lv_eq (t : T_api_Value) : lv t = lvs t.fItems + 1 := by cases t; simp [lv]
theorem wt_eq (t : T_api_Value) : wt t = t.fText.size + kz t.fKeys + wts t.fItems + 1 := by cases t; simp [wt]
theorem wt_pos (t : T_api_Value) : 1 ≤ wt t := by rw [wt_eq]; omega
theorem wt_mem : ∀ {l : List T_api_Value} {t : T_api_Value}, t ∈ l → wt t ≤ wts l
  | a :: l, t, h => by
    simp only [wts]
    rcases List.mem_cons.1 h with rfl | h
    · omega
    · have := wt_mem h; omega
theorem len_le : ∀ l : List T_api_Value, l.length ≤ wts l
  | [] => Nat.zero_le _
  | a :: l => by
    have := len_le l
    have := wt_pos a
    simp only [wts, List.length_cons]; omega
theorem kz_mem : ∀ {l : List ByteArray} {s : ByteArray}, s ∈ l → s.size < kz l
  | a :: l, s, h => by
    simp only [kz]
    rcases List.mem_cons.1 h with rfl | h
    · omega
    · have := kz_mem h; omega
theorem klen_le : ∀ l : List ByteArray, l.length ≤ kz l
  | [] => Nat.zero_le _
  | a :: l => by
    have := klen_le l
    simp only [kz, List.length_cons]; omega
theorem tree {P : T_api_Value → Prop} (h : ∀ t, (∀ k ∈ t.fItems, P k) → P t) : ∀ t, P t := by
  have : ∀ (n : Nat) (t : T_api_Value), wt t ≤ n → P t := by
    intro n
    induction n with
    | zero => intro t ht; have := wt_pos t; omega
    | succ n ih => intro t ht; exact h t fun k hk => ih k (by have := wt_mem hk; rw [wt_eq] at ht; omega)
  exact fun t => this _ t (Nat.le_refl _)
theorem nT_wt : ∀ t, nT t ≤ wt t := tree fun t ih => by
  have : ∀ l : List T_api_Value, (∀ k ∈ l, nT k ≤ wt k) → nTs l ≤ wts l := by
    intro l
    induction l with
    | nil => intro _; exact Nat.zero_le _
    | cons a l ih =>
      intro h
      have h1 := h a (List.mem_cons_self ..)
      have h2 := ih fun k hk => h k (List.mem_cons_of_mem _ hk)
      simp only [nTs, wts]; omega
  have := this t.fItems ih
  rw [nT_eq, wt_eq]; omega
theorem nTs_wts : ∀ l, nTs l ≤ wts l
  | [] => Nat.zero_le _
  | a :: l => by have := nT_wt a; have := nTs_wts l; simp only [nTs, wts]; omega
theorem lv_wt : ∀ t, lv t ≤ wt t := tree fun t ih => by
  have : ∀ l : List T_api_Value, (∀ k ∈ l, lv k ≤ wt k) → lvs l ≤ wts l := by
    intro l
    induction l with
    | nil => intro _; exact Nat.zero_le _
    | cons a l ih =>
      intro h
      have h1 := h a (List.mem_cons_self ..)
      have h2 := ih fun k hk => h k (List.mem_cons_of_mem _ hk)
      simp only [lvs, wts]; omega
  have := this t.fItems ih
  rw [lv_eq, wt_eq]; omega
theorem bulk_str (D : Nat) (s : ByteArray) : bulk ctx D .str s = s.size + 1 := by cases D <;> rfl
theorem wt_bulk : ∀ (D : Nat) (t : T_api_Value), good ctx D (.st 0) t → wt t ≤ bulk ctx D (.st 0) t
  | 0, t, h => h.1.elim
  | 1, t, h => by
    have hi : t.fItems = [] := List.eq_nil_iff_forall_not_mem.2 fun k hk => h.2.2.2.2.1.2.2 k hk
    have hk : t.fKeys = [] := List.eq_nil_iff_forall_not_mem.2 fun k hk => h.2.2.2.2.2.2.2 k hk
    rw [wt_eq, hi, hk]
    show t.fText.size + 0 + 0 + 1 ≤ 1 + (1 + (1 + ((t.fText.size + 1) + ((((t.fItems.map fun _ => 0).sum + 1)) + (((t.fKeys.map fun _ => 0).sum + 1) + 0))))) + 1
    omega
  | D + 2, t, h => by
    have hi : ∀ k ∈ t.fItems, wt k ≤ bulk ctx D (.st 0) k := fun k hk => wt_bulk D k (h.2.2.2.2.1.2.2 k hk)
    have hs : ∀ l : List T_api_Value, (∀ k ∈ l, wt k ≤ bulk ctx D (.st 0) k) → wts l ≤ (l.map (bulk ctx D (.st 0))).sum := by
      intro l
      induction l with
      | nil => intro _; exact Nat.zero_le _
      | cons a l ih =>
        intro h
        have h1 := h a (List.mem_cons_self ..)
        have h2 := ih fun k hk => h k (List.mem_cons_of_mem _ hk)
        simp only [wts, List.map_cons, List.sum_cons]
        exact Nat.add_le_add h1 h2
    have hz : ∀ l : List ByteArray, kz l = (l.map (bulk ctx D .str)).sum := by
      intro l
      induction l with
      | nil => rfl
      | cons a l ih => simp only [kz, ih, List.map_cons, List.sum_cons, bulk_str]
    have h1 := hs t.fItems hi
    have h2 := hz t.fKeys
    rw [wt_eq, h2]
    show _ ≤ 1 + (1 + (1 + ((t.fText.size + 1) + (((t.fItems.map (bulk ctx D (.st 0))).sum + 1) + (((t.fKeys.map (bulk ctx D .str)).sum + 1) + 0))))) + 1
    omega

/-! How many values, how many levels. -/
theorem count_loop_conf (l : List T_api_Value) (hl : wts l ≤ 1048576) (ih : ∀ k ∈ l, ∃ r : Nat, Ev (fun f => conf_count.f f k) (r : Int) ∧ r ≤ nT k ∧ (1000 < r ∨ r = nT k)) : ∀ (d j a : Nat), l.length - j ≤ d → j ≤ l.length → a + nTs (l.drop j) ≤ 1048577 →
    ∃ r : Nat, Ev (fun f => conf_count.l0 f (a : Int) l (llen l) (j : Int)) (r : Int) ∧ r ≤ a + nTs (l.drop j) ∧ (1000 < r ∨ r = a + nTs (l.drop j)) := by
  have hlen := len_le l
  have fin : ∀ j a : Nat, l.length ≤ j → ∃ r : Nat, Ev (fun f => conf_count.l0 f (a : Int) l (llen l) (j : Int)) (r : Int) ∧ r ≤ a + nTs (l.drop j) ∧ (1000 < r ∨ r = a + nTs (l.drop j)) := fun j a h => by
    refine ⟨a, Ev.step (g := fun _ => some (a : Int)) (fun k => ?_) (Ev.now fun _ => rfl), by omega, ?_⟩
    · simp only [conf_count.l0, llen_eq, ilt_f (show (l.length : Int) ≤ (j : Int) by omega), cond_false]
    · rw [List.drop_eq_nil_of_le h]; simp [nTs]
  intro d
  induction d with
  | zero => intro j a hd hj hb; exact fin j a (by omega)
  | succ d ihd =>
    intro j a hd hj hb
    rcases Nat.lt_or_ge j l.length with hlt | hge
    · rw [List.drop_eq_getElem_cons hlt] at hb ⊢
      simp only [nTs] at hb ⊢
      by_cases ha : 1000 < a
      · refine ⟨a, Ev.step (g := fun _ => some (a : Int)) (fun k => ?_) (Ev.now fun _ => rfl), by omega, .inl ha⟩
        simp only [conf_count.l0, llen_eq, ilt_t (show (j : Int) < (l.length : Int) by omega), cond_true, lat_lt hlt, Option.bind_some, ilt_t (show (1000 : Int) < (a : Int) by omega)]
      · obtain ⟨r, r1, r2, r3⟩ := ih _ (List.getElem_mem hlt)
        obtain ⟨q, q1, q2, q3⟩ := ihd (j + 1) (a + r) (by omega) hlt (by omega)
        have w : wadd .i64 (a : Int) (r : Int) = ((a + r : Nat) : Int) := by rw [wadd64 (by omega) (by omega)]; omega
        refine ⟨q, Ev.step (g := fun k => (conf_count.f k l[j]).bind fun y2 => conf_count.l0 k (wadd .i64 (a : Int) y2) l (llen l) ((j + 1 : Nat) : Int)) (fun k => ?_) (Ev.bind r1 (by rw [w]; exact q1)), by omega, by omega⟩
        simp only [conf_count.l0, llen_eq, ilt_t (show (j : Int) < (l.length : Int) by omega), cond_true, lat_lt hlt, Option.bind_some, ilt_f (show (a : Int) ≤ 1000 by omega), cond_false, eta, u0 (show j ≤ 4611686018427387904 by omega)]
    · exact fin j a hge
theorem count_conf : ∀ t, wt t ≤ 1048576 → ∃ r : Nat, Ev (fun f => conf_count.f f t) (r : Int) ∧ r ≤ nT t ∧ (1000 < r ∨ r = nT t) := tree fun t ih hn => by
  have h0 := nTs_wts t.fItems
  rw [wt_eq] at hn
  obtain ⟨r, r1, r2, r3⟩ := count_loop_conf t.fItems (by omega) (fun k hk => ih k hk (by have := wt_mem hk; omega)) t.fItems.length 0 1 (by omega) (by omega) (by rw [List.drop_zero]; omega)
  rw [List.drop_zero] at r2 r3
  rw [nT_eq]
  exact ⟨r, Ev.step (fun k => by simp only [conf_count.f]; rfl) r1, by omega, by omega⟩

theorem both_loop (l : List T_api_Value) (hl : wts l ≤ 1048576) (ih : ∀ k ∈ l, Ev (fun f => mastref2_ValuesOf.f f k) (nT k : Int)) : ∀ (d j a : Nat), l.length - j ≤ d → j ≤ l.length → a + nTs (l.drop j) ≤ 1048577 →
    Ev (fun f => mastref2_ValuesOf.l0 f (a : Int) l (llen l) (j : Int)) ((a + nTs (l.drop j) : Nat) : Int) := by
  have hlen := len_le l
  have fin : ∀ j a : Nat, l.length ≤ j → Ev (fun f => mastref2_ValuesOf.l0 f (a : Int) l (llen l) (j : Int)) ((a + nTs (l.drop j) : Nat) : Int) := fun j a h => by
    rw [List.drop_eq_nil_of_le h]
    refine Ev.step (g := fun _ => some (a : Int)) (fun k => ?_) (Ev.now fun _ => by simp [nTs])
    simp only [mastref2_ValuesOf.l0, llen_eq, ilt_f (show (l.length : Int) ≤ (j : Int) by omega), cond_false]
  intro d
  induction d with
  | zero => intro j a hd hj hb; exact fin j a (by omega)
  | succ d ihd =>
    intro j a hd hj hb
    rcases Nat.lt_or_ge j l.length with hlt | hge
    · rw [List.drop_eq_getElem_cons hlt] at hb ⊢
      simp only [nTs] at hb ⊢
      have q1 := ihd (j + 1) (a + nT l[j]) (by omega) hlt (by omega)
      have w : wadd .i64 (a : Int) (nT l[j] : Int) = ((a + nT l[j] : Nat) : Int) := by rw [wadd64 (by omega) (by omega)]; omega
      rw [show a + (nT l[j] + nTs (l.drop (j + 1))) = a + nT l[j] + nTs (l.drop (j + 1)) by omega]
      refine Ev.step (g := fun k => (mastref2_ValuesOf.f k l[j]).bind fun y2 => mastref2_ValuesOf.l0 k (wadd .i64 (a : Int) y2) l (llen l) ((j + 1 : Nat) : Int)) (fun k => ?_) (Ev.bind (ih _ (List.getElem_mem hlt)) (by rw [w]; exact q1))
      simp only [mastref2_ValuesOf.l0, llen_eq, ilt_t (show (j : Int) < (l.length : Int) by omega), cond_true, lat_lt hlt, Option.bind_some, eta, u0 (show j ≤ 4611686018427387904 by omega)]
    · exact fin j a hge
theorem values_ok : ∀ t, wt t ≤ 1048576 → Ev (fun f => mastref2_ValuesOf.f f t) (nT t : Int) := tree fun t ih hn => by
  have h0 := nTs_wts t.fItems
  rw [wt_eq] at hn
  have := both_loop t.fItems (by omega) (fun k hk => ih k hk (by have := wt_mem hk; omega)) t.fItems.length 0 1 (by omega) (by omega) (by rw [List.drop_zero]; omega)
  rw [List.drop_zero, Nat.add_comm 1] at this
  rw [nT_eq]
  exact Ev.step (fun k => by simp only [mastref2_ValuesOf.f]; rfl) this
theorem levels_loop_conf (l : List T_api_Value) (hl : wts l ≤ 1048576) (ih : ∀ k ∈ l, Ev (fun f => conf_levels.f f k) (lv k : Int)) : ∀ (d j a : Nat), l.length - j ≤ d → j ≤ l.length → a ≤ 1048576 →
    Ev (fun f => conf_levels.l0 f (a : Int) l (llen l) (j : Int)) ((max a (lvs (l.drop j)) + 1 : Nat) : Int) := by
  have hlen := len_le l
  have hlv := fun k (hk : k ∈ l) => (show lv k ≤ 1048576 by have h1 := wt_mem hk; have h2 := lv_wt k; omega)
  have fin : ∀ j a : Nat, l.length ≤ j → a ≤ 1048576 → Ev (fun f => conf_levels.l0 f (a : Int) l (llen l) (j : Int)) ((max a (lvs (l.drop j)) + 1 : Nat) : Int) := fun j a h ha => by
    rw [List.drop_eq_nil_of_le h]
    refine Ev.step (g := fun _ => some ((max a (lvs []) + 1 : Nat) : Int)) (fun k => ?_) (Ev.now fun _ => rfl)
    simp only [conf_levels.l0, llen_eq, ilt_f (show (l.length : Int) ≤ (j : Int) by omega), cond_false, lvs, u0 (show a ≤ 4611686018427387904 by omega)]
    simp
  intro d
  induction d with
  | zero => intro j a hd hj ha; exact fin j a (by omega) ha
  | succ d ihd =>
    intro j a hd hj ha
    rcases Nat.lt_or_ge j l.length with hlt | hge
    · rw [List.drop_eq_getElem_cons hlt]
      have hk := hlv _ (List.getElem_mem hlt)
      have := ihd (j + 1) (max a (lv l[j])) (by omega) hlt (by omega)
      rw [show max (max a (lv l[j])) (lvs (l.drop (j + 1))) = max a (lvs (l[j] :: l.drop (j + 1))) by simp only [lvs]; omega] at this
      refine Ev.step (g := fun k => (conf_levels.f k l[j]).bind fun y2 => conf_levels.l0 k (imax (a : Int) y2) l (llen l) ((j + 1 : Nat) : Int)) (fun k => ?_) (Ev.bind (ih _ (List.getElem_mem hlt)) (by rw [imax_nat]; exact this))
      simp only [conf_levels.l0, llen_eq, ilt_t (show (j : Int) < (l.length : Int) by omega), cond_true, lat_lt hlt, Option.bind_some, eta, u0 (show j ≤ 4611686018427387904 by omega)]
    · exact fin j a hge ha
theorem levels_conf : ∀ t, wt t ≤ 1048576 → Ev (fun f => conf_levels.f f t) (lv t : Int) := tree fun t ih hn => by
  rw [wt_eq] at hn
  have := levels_loop_conf t.fItems (by omega) (fun k hk => ih k hk (by have := wt_mem hk; omega)) t.fItems.length 0 0 (by omega) (by omega) (by omega)
  rw [List.drop_zero, Nat.zero_max] at this
  rw [lv_eq]
  exact Ev.step (fun k => by simp only [conf_levels.f]; rfl) this

theorem levels_loop_ref (l : List T_api_Value) (hl : wts l ≤ 1048576) (ih : ∀ k ∈ l, Ev (fun f => mastref2_LevelsOf.f f k) (lv k : Int)) : ∀ (d j a : Nat), l.length - j ≤ d → j ≤ l.length → a ≤ 1048576 →
    Ev (fun f => mastref2_LevelsOf.l0 f (a : Int) l (llen l) (j : Int)) ((max a (lvs (l.drop j)) + 1 : Nat) : Int) := by
  have hlen := len_le l
  have hlv := fun k (hk : k ∈ l) => (show lv k ≤ 1048576 by have h1 := wt_mem hk; have h2 := lv_wt k; omega)
  have fin : ∀ j a : Nat, l.length ≤ j → a ≤ 1048576 → Ev (fun f => mastref2_LevelsOf.l0 f (a : Int) l (llen l) (j : Int)) ((max a (lvs (l.drop j)) + 1 : Nat) : Int) := fun j a h ha => by
    rw [List.drop_eq_nil_of_le h]
    refine Ev.step (g := fun _ => some ((max a (lvs []) + 1 : Nat) : Int)) (fun k => ?_) (Ev.now fun _ => rfl)
    simp only [mastref2_LevelsOf.l0, llen_eq, ilt_f (show (l.length : Int) ≤ (j : Int) by omega), cond_false, lvs, u0 (show a ≤ 4611686018427387904 by omega)]
    simp
  intro d
  induction d with
  | zero => intro j a hd hj ha; exact fin j a (by omega) ha
  | succ d ihd =>
    intro j a hd hj ha
    rcases Nat.lt_or_ge j l.length with hlt | hge
    · rw [List.drop_eq_getElem_cons hlt]
      have hk := hlv _ (List.getElem_mem hlt)
      have := ihd (j + 1) (max a (lv l[j])) (by omega) hlt (by omega)
      rw [show max (max a (lv l[j])) (lvs (l.drop (j + 1))) = max a (lvs (l[j] :: l.drop (j + 1))) by simp only [lvs]; omega] at this
      refine Ev.step (g := fun k => (mastref2_LevelsOf.f k l[j]).bind fun y2 => mastref2_LevelsOf.l0 k (imax (a : Int) y2) l (llen l) ((j + 1 : Nat) : Int)) (fun k => ?_) (Ev.bind (ih _ (List.getElem_mem hlt)) (by rw [imax_nat]; exact this))
      simp only [mastref2_LevelsOf.l0, llen_eq, ilt_t (show (j : Int) < (l.length : Int) by omega), cond_true, lat_lt hlt, Option.bind_some, eta, u0 (show j ≤ 4611686018427387904 by omega)]
    · exact fin j a hge ha
theorem levels_ref : ∀ t, wt t ≤ 1048576 → Ev (fun f => mastref2_LevelsOf.f f t) (lv t : Int) := tree fun t ih hn => by
  rw [wt_eq] at hn
  have := levels_loop_ref t.fItems (by omega) (fun k hk => ih k hk (by have := wt_mem hk; omega)) t.fItems.length 0 0 (by omega) (by omega) (by omega)
  rw [List.drop_zero, Nat.zero_max] at this
  rw [lv_eq]
  exact Ev.step (fun k => by simp only [mastref2_LevelsOf.f]; rfl) this


/-! Bad bytes. -/
def badB (b : UInt8) : Bool := ilt (b.toNat : Int) 32 && (!ieq (b.toNat : Int) 9 && !ieq (b.toNat : Int) 10)
def bad (s : ByteArray) : Bool := s.data.toList.any badB
theorem bad_conf (s : ByteArray) (hs : s.size ≤ 2000000) : Ev (fun k => conf_badBytes.f k s) (bad s) := by
  have hl := size_l s
  have h := find_pure s.data.toList 0 (Nat.zero_le _) (fun k j => conf_badBytes.l0 k s (j : Int)) (fun _ => some false) badB (fun _ => true) false
    (fun k j h => by
      simp only [conf_badBytes.l0, slen_l, ilen _ _ h, cond_true, sat_l h, Option.bind_some, u0 (show j ≤ 4611686018427387904 by omega), badB]
      cases ilt (s.data.toList[j].toNat : Int) 32 <;> cases ieq (s.data.toList[j].toNat : Int) 9 <;> cases ieq (s.data.toList[j].toNat : Int) 10 <;> rfl)
    (fun k => by simp only [conf_badBytes.l0, slen_l, ilen', cond_false]) (Ev.now fun _ => rfl)
  rw [List.drop_zero, fl_const] at h
  refine Ev.congr (fun k => by simp only [conf_badBytes.f]; rfl) (show Ev _ (bad s) from ?_)
  unfold bad
  rw [show (s.data.toList.any badB) = (bif s.data.toList.any badB then true else false) by cases s.data.toList.any badB <;> rfl]
  exact h

theorem bad_ref (s : ByteArray) (hs : s.size ≤ 2000000) : Ev (fun k => mastref2_badByte.f k s) (bad s) := by
  have hl := size_l s
  have h := find_pure s.data.toList 0 (Nat.zero_le _) (fun k j => mastref2_badByte.l0 k s (j : Int)) (fun _ => some false) badB (fun _ => true) false
    (fun k j h => by
      simp only [mastref2_badByte.l0, slen_l, ilen _ _ h, cond_true, sat_l h, Option.bind_some, u0 (show j ≤ 4611686018427387904 by omega), badB]
      cases ilt (s.data.toList[j].toNat : Int) 32 <;> cases ieq (s.data.toList[j].toNat : Int) 9 <;> cases ieq (s.data.toList[j].toNat : Int) 10 <;> rfl)
    (fun k => by simp only [mastref2_badByte.l0, slen_l, ilen', cond_false]) (Ev.now fun _ => rfl)
  rw [List.drop_zero, fl_const] at h
  refine Ev.congr (fun k => by simp only [mastref2_badByte.f]; rfl) (show Ev _ (bad s) from ?_)
  unfold bad
  rw [show (s.data.toList.any badB) = (bif s.data.toList.any badB then true else false) by cases s.data.toList.any badB <;> rfl]
  exact h


/-! Keys. -/
def small (c : UInt8) : Bool := bif ile 97 (c.toNat : Int) then ile (c.toNat : Int) 122 else false
def ins (c : UInt8) : Bool := small c || (bif ile 48 (c.toNat : Int) then ile (c.toNat : Int) 57 else false) || ieq (c.toNat : Int) 45 || ieq (c.toNat : Int) 95
def keyL : List UInt8 → Bool
  | [] => false
  | c :: r => decide (r.length < 40) && small c && r.all ins
def key (s : ByteArray) : Bool := keyL s.data.toList
theorem seq_empty (s : ByteArray) : seq s c_empty = s.data.toList.isEmpty := by
  unfold seq
  rw [ByteArray.toList_eq, ByteArray.toList_eq]
  cases h : s.data.toList <;> rfl
theorem all_ins (r : List UInt8) : (bif r.any fun c => !ins c then false else true) = r.all ins := by
  rw [List.all_eq_not_any_not]
  cases r.any fun c => !ins c <;> rfl
theorem key_conf (s : ByteArray) : Ev (fun k => conf_isKey.f k s) (key s) := by
  cases h : s.data.toList with
  | nil => exact Ev.now fun k => by simp only [conf_isKey.f, seq_empty, h, key, keyL, List.isEmpty_nil, cond_true]
  | cons c r =>
    by_cases hl : r.length < 40
    · have hl' : s.data.toList.length ≤ 40 := by rw [h]; simp; omega
      cases hc : small c with
      | false =>
        refine Ev.now fun k => ?_
        simp only [conf_isKey.f, seq_empty, h, key, keyL, List.isEmpty_cons, cond_false, slen_l, ilt_f (show ((c :: r).length : Int) ≤ 40 by rw [← h]; omega), sat_0 h, Option.bind_some, conf_isSmall.f, hc, Bool.and_false, Bool.false_and]
        rw [show (bif ile 97 (c.toNat : Int) then ile (c.toNat : Int) 122 else false) = small c from rfl, hc]
        rfl
      | true =>
        have q := find_pure s.data.toList 1 (by rw [h]; simp) (fun k j => conf_isKey.l0 k s (j : Int)) (fun _ => some true) (fun c => !ins c) (fun _ => false) true
          (fun k j h => by
            simp only [conf_isKey.l0, slen_l, ilen _ _ h, cond_true, sat_l h, Option.bind_some, u0 (show j ≤ 4611686018427387904 by omega), conf_isSmall.f, conf_isDigit.f, ins, small]
            cases (bif ile 97 (s.data.toList[j].toNat : Int) then ile (s.data.toList[j].toNat : Int) 122 else false) <;> cases (bif ile 48 (s.data.toList[j].toNat : Int) then ile (s.data.toList[j].toNat : Int) 57 else false) <;> cases ieq (s.data.toList[j].toNat : Int) 45 <;> cases ieq (s.data.toList[j].toNat : Int) 95 <;> rfl)
          (fun k => by simp only [conf_isKey.l0, slen_l, ilen', cond_false]) (Ev.now fun _ => rfl)
        rw [fl_const, h, List.drop_succ_cons, List.drop_zero, all_ins] at q
        have e : key s = r.all ins := by unfold key; rw [h]; simp [keyL, hl, hc]
        rw [e]
        refine Ev.congr (fun k => ?_) q
        simp only [conf_isKey.f, seq_empty, h, List.isEmpty_cons, cond_false, slen_l, ilt_f (show ((c :: r).length : Int) ≤ 40 by rw [← h]; omega), sat_0 h, Option.bind_some, conf_isSmall.f]
        rw [show (bif ile 97 (c.toNat : Int) then ile (c.toNat : Int) 122 else false) = small c from rfl, hc]
        rfl
    · refine Ev.now fun k => ?_
      simp only [conf_isKey.f, seq_empty, h, key, keyL, List.isEmpty_cons, cond_false, slen_l, ilt_t (show (40 : Int) < ((c :: r).length : Int) by simp; omega), cond_true, decide_eq_false hl, Bool.false_and]

theorem mem_dw {α : Type} {p : α → Bool} : ∀ {l : List α} {x : α}, x ∈ l → p x = false → x ∈ l.dropWhile p
  | a :: l, x, h, hp => by
    rw [List.dropWhile_cons]
    split
    · rename_i ha
      rcases List.mem_cons.1 h with rfl | h
      · rw [hp] at ha; cases ha
      · exact mem_dw h hp
    · exact h
theorem dw_nil {α : Type} {p : α → Bool} : ∀ {l : List α}, (∀ x ∈ l, p x = true) → l.dropWhile p = []
  | [], _ => rfl
  | a :: l, h => by rw [List.dropWhile_cons, if_pos (h a (List.mem_cons_self ..))]; exact dw_nil fun x hx => h x (List.mem_cons_of_mem _ hx)
theorem trim_nil (l cs : List UInt8) : (Lib.trimS l cs).isEmpty = l.all (cs.contains ·) := by
  unfold Lib.trimS Lib.trimLeftS Lib.trimRightS
  cases h : l.all (cs.contains ·) with
  | true =>
    have h := List.all_eq_true.1 h
    rw [dw_nil (l := l.reverse) fun x hx => h x (List.mem_reverse.1 hx)]
    rfl
  | false =>
    obtain ⟨x, hx, hp⟩ : ∃ x ∈ l, cs.contains x = false := by
      rcases List.all_eq_false.1 h with ⟨x, hx, hp⟩
      exact ⟨x, hx, by simpa using hp⟩
    have h1 : x ∈ (l.reverse.dropWhile (cs.contains ·)).reverse := List.mem_reverse.2 (mem_dw (List.mem_reverse.2 hx) hp)
    have h2 := mem_dw h1 hp
    cases e : List.dropWhile (cs.contains ·) (l.reverse.dropWhile (cs.contains ·)).reverse with
    | nil => rw [e] at h2; cases h2
    | cons _ _ => rfl
theorem set_ins (c : UInt8) : c_abcdefghijklmnopqrst_0e2e2cf4.data.toList.contains c = ins c := by
  have h : ∀ n : Fin 256, c_abcdefghijklmnopqrst_0e2e2cf4.data.toList.contains (UInt8.ofNat n.val) = ins (UInt8.ofNat n.val) := by decide +kernel
  have := h ⟨c.toNat, c.toNat_lt⟩
  simpa using this
theorem keyR_ok (s : ByteArray) (hs : s.size ≤ 2000000) : mastref2_IsKey.f s = some (key s) := by
  unfold mastref2_IsKey.f key
  rw [seq_empty, slen_l]
  have hc : strings_Trim.f s c_abcdefghijklmnopqrst_0e2e2cf4 = some ⟨(Lib.trimS s.data.toList c_abcdefghijklmnopqrst_0e2e2cf4.data.toList).toArray⟩ := by
    unfold strings_Trim.f
    rw [if_pos ⟨by omega, by decide, by decide +kernel⟩]
  rw [hc]
  cases h : s.data.toList with
  | nil => simp [keyL]
  | cons c r =>
    simp only [List.isEmpty_cons, cond_false, sat_0 h, Option.bind_some, keyL]
    by_cases hl : r.length < 40
    · rw [ilt_f (show ((c :: r).length : Int) ≤ 40 by simp; omega), cond_false, decide_eq_true hl, Bool.true_and]
      unfold small
      rw [ilt_d, ilt_d, ile_d, ile_d]
      by_cases h1 : (c.toNat : Int) < 97
      · simp [h1, show ¬ (97 : Int) ≤ c.toNat by omega]
      · by_cases h2 : (122 : Int) < c.toNat
        · simp [h1, h2, show ¬ (c.toNat : Int) ≤ 122 by omega]
        · rw [decide_eq_false h1, decide_eq_false h2, decide_eq_true (show (97 : Int) ≤ c.toNat by omega), decide_eq_true (show (c.toNat : Int) ≤ 122 by omega)]
          simp only [cond_false, cond_true, Bool.true_and]
          rw [seq_empty]
          show some (Lib.trimS (c :: r) _).isEmpty = _
          rw [trim_nil, show (fun x => c_abcdefghijklmnopqrst_0e2e2cf4.data.toList.contains x) = ins from funext set_ins, List.all_cons]
          have : ins c = true := by
            unfold ins small
            rw [ile_t (show (97 : Int) ≤ c.toNat by omega), ile_t (show (c.toNat : Int) ≤ 122 by omega)]
            rfl
          rw [this]; rfl
    · rw [ilt_t (show (40 : Int) < ((c :: r).length : Int) by simp; omega), cond_true, decide_eq_false hl]
      rfl

/-- What is wrong with the keys. -/
def ks : Option ByteArray → List ByteArray → Int
  | _, [] => 0
  | p, x :: r => bif !key x then 12 else bif (match p with | none => false | some y => sle x y) then 5 else ks (some x) r
def prev (l : List ByteArray) : Nat → Option ByteArray
  | 0 => none
  | j + 1 => l[j]?
theorem prev_succ {l : List ByteArray} {j : Nat} (h : j < l.length) : prev l (j + 1) = some l[j] := List.getElem?_eq_getElem h
theorem keys_loop_conf (k0 : Int) (b0 : Bool) (i0 : Int) (t0 : ByteArray) (is0 : List T_api_Value) (l : List ByteArray) (hl : kz l ≤ 1048576) : ∀ (d j : Nat), l.length - j ≤ d → j ≤ l.length →
    Ev (fun k => conf_valueFault.l1 k k0 b0 i0 t0 is0 l l (llen l) (j : Int)) (ks (prev l j) (l.drop j)) := by
  have hlen := klen_le l
  intro d
  have fin : ∀ j : Nat, l.length ≤ j → Ev (fun k => conf_valueFault.l1 k k0 b0 i0 t0 is0 l l (llen l) (j : Int)) (ks (prev l j) (l.drop j)) := fun j h => by
    rw [List.drop_eq_nil_of_le h]
    refine Ev.step (fun k => ?_) (show Ev (fun _ => some 0) (ks (prev l j) []) from Ev.now fun _ => rfl)
    simp only [conf_valueFault.l1, llen_eq, ilt_f (show (l.length : Int) ≤ (j : Int) by omega), cond_false]
  induction d with
  | zero => intro j hd hj; exact fin j (by omega)
  | succ d ihd =>
    intro j hd hj
    rcases Nat.lt_or_ge j l.length with hlt | hge
    · rw [List.drop_eq_getElem_cons hlt]
      have hr := ihd (j + 1) (by omega) hlt
      rw [prev_succ hlt] at hr
      have hkz := kz_mem (List.getElem_mem hlt)
      cases hk : key l[j] with
      | false =>
        refine Ev.step (fun k => by simp only [conf_valueFault.l1, llen_eq, ilt_t (show (j : Int) < (l.length : Int) by omega), cond_true, lat_lt hlt, Option.bind_some]; rfl) (Ev.bind (key_conf l[j]) ?_)
        rw [hk]
        exact Ev.now fun _ => by simp [ks, hk]
      | true =>
        cases j with
        | zero =>
          have e : ks (prev l 0) (l[0] :: l.drop 1) = ks (some l[0]) (l.drop 1) := by simp [ks, hk, prev]
          rw [e]
          refine Ev.step (fun k => by simp only [conf_valueFault.l1, llen_eq, ilt_t (show ((0 : Nat) : Int) < (l.length : Int) by omega), cond_true, lat_lt hlt, Option.bind_some]; rfl) (Ev.bind (key_conf l[0]) ?_)
          rw [hk]
          simp only [Bool.not_true, cond_false, ilt_f (show ((0 : Nat) : Int) ≤ 0 by omega), u0 (show 0 ≤ 4611686018427387904 by omega)]
          exact hr
        | succ i =>
          have hi : i < l.length := by omega
          have w : wsub .i64 ((i + 1 : Nat) : Int) 1 = (i : Int) := by rw [wsub64 (by omega) (by omega)]; omega
          rw [prev_succ hi]
          cases hle : sle l[i + 1] l[i] with
          | true =>
            have e : ks (some l[i]) (l[i + 1] :: l.drop (i + 1 + 1)) = 5 := by simp [ks, hk, hle]
            rw [e]
            refine Ev.step (fun k => by simp only [conf_valueFault.l1, llen_eq, ilt_t (show ((i + 1 : Nat) : Int) < (l.length : Int) by omega), cond_true, lat_lt hlt, Option.bind_some]; rfl) (Ev.bind (key_conf l[i + 1]) ?_)
            rw [hk]
            simp only [Bool.not_true, cond_false, ilt_t (show (0 : Int) < ((i + 1 : Nat) : Int) by omega), cond_true, w, lat_lt hi, Option.bind_some, hle, u0 (show i + 1 ≤ 4611686018427387904 by omega)]
            exact Ev.now fun _ => rfl
          | false =>
            have e : ks (some l[i]) (l[i + 1] :: l.drop (i + 1 + 1)) = ks (some l[i + 1]) (l.drop (i + 1 + 1)) := by simp [ks, hk, hle]
            rw [e]
            refine Ev.step (fun k => by simp only [conf_valueFault.l1, llen_eq, ilt_t (show ((i + 1 : Nat) : Int) < (l.length : Int) by omega), cond_true, lat_lt hlt, Option.bind_some]; rfl) (Ev.bind (key_conf l[i + 1]) ?_)
            rw [hk]
            simp only [Bool.not_true, cond_false, ilt_t (show (0 : Int) < ((i + 1 : Nat) : Int) by omega), cond_true, w, lat_lt hi, Option.bind_some, hle, u0 (show i + 1 ≤ 4611686018427387904 by omega)]
            exact hr
    · exact fin j hge
theorem keys_conf (k0 : Int) (b0 : Bool) (i0 : Int) (t0 : ByteArray) (is0 : List T_api_Value) (l : List ByteArray) (hl : kz l ≤ 1048576) : Ev (fun k => conf_valueFault.l1 k k0 b0 i0 t0 is0 l l (llen l) 0) (ks none l) := by
  have := keys_loop_conf k0 b0 i0 t0 is0 l hl  l.length 0 (by omega) (by omega)
  rw [List.drop_zero] at this
  exact this

theorem keys_loop_ref (k0 : Int) (b0 : Bool) (i0 : Int) (t0 : ByteArray) (is0 : List T_api_Value) (l : List ByteArray) (hl : kz l ≤ 1048576) (e : Int) (he : Ev (fun k => mastref2_eachValue.l1 k is0 (llen is0) 0) e) : ∀ (d j : Nat), l.length - j ≤ d → j ≤ l.length →
    Ev (fun k => mastref2_eachValue.l0 k k0 b0 i0 t0 is0 l l (llen l) (j : Int)) (bif ieq (ks (prev l j) (l.drop j)) 0 then e else ks (prev l j) (l.drop j)) := by
  have hlen := klen_le l
  intro d
  have fin : ∀ j : Nat, l.length ≤ j → Ev (fun k => mastref2_eachValue.l0 k k0 b0 i0 t0 is0 l l (llen l) (j : Int)) (bif ieq (ks (prev l j) (l.drop j)) 0 then e else ks (prev l j) (l.drop j)) := fun j h => by
    rw [List.drop_eq_nil_of_le h]
    refine Ev.step (fun k => ?_) (show Ev (fun k => mastref2_eachValue.l1 k is0 (llen is0) 0) (bif ieq (ks (prev l j) []) 0 then e else ks (prev l j) []) from he)
    simp only [mastref2_eachValue.l0, llen_eq, ilt_f (show (l.length : Int) ≤ (j : Int) by omega), cond_false]
  induction d with
  | zero => intro j hd hj; exact fin j (by omega)
  | succ d ihd =>
    intro j hd hj
    rcases Nat.lt_or_ge j l.length with hlt | hge
    · rw [List.drop_eq_getElem_cons hlt]
      have hr := ihd (j + 1) (by omega) hlt
      rw [prev_succ hlt] at hr
      have hkz := kz_mem (List.getElem_mem hlt)
      cases hk : key l[j] with
      | false =>
        refine Ev.step (g := fun _ => some 12) (fun k => ?_) (Ev.now fun _ => by simp [ks, hk, ieq])
        simp only [mastref2_eachValue.l0, llen_eq, ilt_t (show (j : Int) < (l.length : Int) by omega), cond_true, lat_lt hlt, Option.bind_some, keyR_ok l[j] (by omega), hk, Bool.not_false]
      | true =>
        cases j with
        | zero =>
          have e : ks (prev l 0) (l[0] :: l.drop 1) = ks (some l[0]) (l.drop 1) := by simp [ks, hk, prev]
          rw [e]
          refine Ev.step (fun k => ?_) hr
          simp only [mastref2_eachValue.l0, llen_eq, ilt_t (show ((0 : Nat) : Int) < (l.length : Int) by omega), cond_true, lat_lt hlt, Option.bind_some, keyR_ok l[0] (by omega), hk, Bool.not_true, cond_false, ilt_f (show ((0 : Nat) : Int) ≤ 0 by omega), u0 (show 0 ≤ 4611686018427387904 by omega)]
        | succ i =>
          have hi : i < l.length := by omega
          have w : wsub .i64 ((i + 1 : Nat) : Int) 1 = (i : Int) := by rw [wsub64 (by omega) (by omega)]; omega
          rw [prev_succ hi]
          cases hle : sle l[i + 1] l[i] with
          | true =>
            have e : ks (some l[i]) (l[i + 1] :: l.drop (i + 1 + 1)) = 5 := by simp [ks, hk, hle]
            rw [e]
            refine Ev.step (g := fun _ => some 5) (fun k => ?_) (Ev.now fun _ => rfl)
            simp only [mastref2_eachValue.l0, llen_eq, ilt_t (show ((i + 1 : Nat) : Int) < (l.length : Int) by omega), cond_true, lat_lt hlt, Option.bind_some, keyR_ok l[i + 1] (by omega), hk, Bool.not_true, cond_false, ilt_t (show (0 : Int) < ((i + 1 : Nat) : Int) by omega), w, lat_lt hi, hle, u0 (show i + 1 ≤ 4611686018427387904 by omega)]
          | false =>
            have e : ks (some l[i]) (l[i + 1] :: l.drop (i + 1 + 1)) = ks (some l[i + 1]) (l.drop (i + 1 + 1)) := by simp [ks, hk, hle]
            rw [e]
            refine Ev.step (fun k => ?_) hr
            simp only [mastref2_eachValue.l0, llen_eq, ilt_t (show ((i + 1 : Nat) : Int) < (l.length : Int) by omega), cond_true, lat_lt hlt, Option.bind_some, keyR_ok l[i + 1] (by omega), hk, Bool.not_true, cond_false, ilt_t (show (0 : Int) < ((i + 1 : Nat) : Int) by omega), w, lat_lt hi, hle, u0 (show i + 1 ≤ 4611686018427387904 by omega)]
    · exact fin j hge
theorem keys_ref (k0 : Int) (b0 : Bool) (i0 : Int) (t0 : ByteArray) (is0 : List T_api_Value) (l : List ByteArray) (hl : kz l ≤ 1048576) (e : Int) (he : Ev (fun k => mastref2_eachValue.l1 k is0 (llen is0) 0) e) : Ev (fun k => mastref2_eachValue.l0 k k0 b0 i0 t0 is0 l l (llen l) 0) (bif ieq (ks none l) 0 then e else ks (none) (l)) := by
  have := keys_loop_ref k0 b0 i0 t0 is0 l hl e he l.length 0 (by omega) (by omega)
  rw [List.drop_zero] at this
  exact this


/-! One value. -/
def un (v : T_api_Value) : Bool := (v.fBool && !ieq v.fKind 1) || ((!ieq v.fInt 0 && !ieq v.fKind 2) && !ieq v.fKind 4) || (!seq v.fText c_empty && !ieq v.fKind 3) || ((ilt 0 (llen v.fItems) && !ieq v.fKind 5) && !ieq v.fKind 6) || (ilt 0 (llen v.fKeys) && !ieq v.fKind 6)
def un2 (v : T_api_Value) : Bool := ieq v.fKind 6 && !ieq (llen v.fKeys) (llen v.fItems)
def own (v : T_api_Value) : Int :=
  bif ilt v.fKind 0 || ilt 6 v.fKind then 10 else bif un v || un2 v then 1 else bif ieq v.fKind 4 && (ilt v.fInt 0 || ilt 84005 v.fInt) then 2 else bif ilt 5000 (slen v.fText) then 4 else bif bad v.fText then 9 else ks none v.fKeys
mutual
def vf : T_api_Value → Int
  | ⟨k, b, i, t, is, s⟩ => bif ieq (own ⟨k, b, i, t, is, s⟩) 0 then vfs is else own ⟨k, b, i, t, is, s⟩
def vfs : List T_api_Value → Int
  | [] => 0
  | t :: r => bif ieq (vf t) 0 then vfs r else vf t
end
theorem vf_eq (t : T_api_Value) : vf t = bif ieq (own t) 0 then vfs t.fItems else own t := by cases t; simp [vf]
theorem vfs_find : ∀ (l : List T_api_Value) (v : Int), (∃ t ∈ l, vf t ≠ 0 ∧ True) ∨ vfs l = 0 := fun l v => by
  induction l with
  | nil => exact .inr rfl
  | cons a l ih =>
    by_cases h : vf a = 0
    · rcases ih with ⟨t, h1, h2⟩ | h2
      · exact .inl ⟨t, List.mem_cons_of_mem _ h1, h2⟩
      · right; simp only [vfs, ieq_t h, cond_true]; exact h2
    · exact .inl ⟨a, List.mem_cons_self .., h, trivial⟩
theorem items_conf (l : List T_api_Value) (hl : wts l ≤ 1048576) (ih : ∀ k ∈ l, Ev (fun f => conf_valuesFault.f f k) (vf k)) : Ev (fun k => conf_valuesFault.l0 k l (llen l) 0) (vfs l) := by
  have hlen := len_le l
  have : ∀ (d j : Nat), l.length - j ≤ d → j ≤ l.length → Ev (fun k => conf_valuesFault.l0 k l (llen l) (j : Int)) (vfs (l.drop j)) := by
    intro d
    have fin : ∀ j : Nat, l.length ≤ j → Ev (fun k => conf_valuesFault.l0 k l (llen l) (j : Int)) (vfs (l.drop j)) := fun j h => by
      rw [List.drop_eq_nil_of_le h]
      refine Ev.step (g := fun _ => some 0) (fun k => ?_) (Ev.now fun _ => rfl)
      simp only [conf_valuesFault.l0, llen_eq, ilt_f (show (l.length : Int) ≤ (j : Int) by omega), cond_false]
    induction d with
    | zero => intro j hd hj; exact fin j (by omega)
    | succ d ihd =>
      intro j hd hj
      rcases Nat.lt_or_ge j l.length with hlt | hge
      · rw [List.drop_eq_getElem_cons hlt]
        refine Ev.step (fun k => by simp only [conf_valuesFault.l0, llen_eq, ilt_t (show (j : Int) < (l.length : Int) by omega), cond_true, lat_lt hlt, Option.bind_some, eta]; rfl) (Ev.bind (ih _ (List.getElem_mem hlt)) ?_)
        simp only [vfs, u0 (show j ≤ 4611686018427387904 by omega)]
        cases ieq (vf l[j]) 0 with
        | true => exact ihd (j + 1) (by omega) hlt
        | false => exact Ev.now fun _ => rfl
      · exact fin j hge
  have := this l.length 0 (by omega) (by omega)
  rw [List.drop_zero] at this
  exact this

theorem items_ref (l : List T_api_Value) (hl : wts l ≤ 1048576) (ih : ∀ k ∈ l, Ev (fun f => mastref2_eachValue.f f k) (vf k)) : Ev (fun k => mastref2_eachValue.l1 k l (llen l) 0) (vfs l) := by
  have hlen := len_le l
  have : ∀ (d j : Nat), l.length - j ≤ d → j ≤ l.length → Ev (fun k => mastref2_eachValue.l1 k l (llen l) (j : Int)) (vfs (l.drop j)) := by
    intro d
    have fin : ∀ j : Nat, l.length ≤ j → Ev (fun k => mastref2_eachValue.l1 k l (llen l) (j : Int)) (vfs (l.drop j)) := fun j h => by
      rw [List.drop_eq_nil_of_le h]
      refine Ev.step (g := fun _ => some 0) (fun k => ?_) (Ev.now fun _ => rfl)
      simp only [mastref2_eachValue.l1, llen_eq, ilt_f (show (l.length : Int) ≤ (j : Int) by omega), cond_false]
    induction d with
    | zero => intro j hd hj; exact fin j (by omega)
    | succ d ihd =>
      intro j hd hj
      rcases Nat.lt_or_ge j l.length with hlt | hge
      · rw [List.drop_eq_getElem_cons hlt]
        refine Ev.step (fun k => by simp only [mastref2_eachValue.l1, llen_eq, ilt_t (show (j : Int) < (l.length : Int) by omega), cond_true, lat_lt hlt, Option.bind_some, eta]; rfl) (Ev.bind (ih _ (List.getElem_mem hlt)) ?_)
        simp only [vfs, u0 (show j ≤ 4611686018427387904 by omega)]
        cases ieq (vf l[j]) 0 with
        | true => exact ihd (j + 1) (by omega) hlt
        | false => exact Ev.now fun _ => rfl
      · exact fin j hge
  have := this l.length 0 (by omega) (by omega)
  rw [List.drop_zero] at this
  exact this


theorem unused_ok (v : T_api_Value) : Ev (fun k => conf_unused.f k v) (un v || un2 v) := by
  have l0 : ∀ b : Bool, Ev (fun k => conf_unused.l0 k v.fKind v.fBool v.fInt v.fText v.fItems v.fKeys v.fKind b) (b || ((ilt 0 (llen v.fItems) && !ieq v.fKind 5) && !ieq v.fKind 6) || (ilt 0 (llen v.fKeys) && !ieq v.fKind 6) || un2 v) := fun b => by
    refine Ev.step (g := fun _ => some (b || ((ilt 0 (llen v.fItems) && !ieq v.fKind 5) && !ieq v.fKind 6) || (ilt 0 (llen v.fKeys) && !ieq v.fKind 6) || un2 v)) (fun k => ?_) (Ev.now fun _ => rfl)
    simp only [conf_unused.l0, un2]
    cases b <;> cases ilt 0 (llen v.fItems) <;> cases ieq v.fKind 5 <;> cases ieq v.fKind 6 <;> cases ilt 0 (llen v.fKeys) <;> cases ieq (llen v.fKeys) (llen v.fItems) <;> rfl
  have l1 := l0 (v.fBool && !ieq v.fKind 1 || ((!ieq v.fInt 0 && !ieq v.fKind 2) && !ieq v.fKind 4) || (!seq v.fText c_empty && !ieq v.fKind 3))
  refine Ev.congr (fun k => ?_) l1
  simp only [conf_unused.f]
  cases v.fBool <;> cases ieq v.fKind 1 <;> cases ieq v.fInt 0 <;> cases ieq v.fKind 2 <;> cases ieq v.fKind 4 <;> cases seq v.fText c_empty <;> cases ieq v.fKind 3 <;> rfl

theorem own_ok (v : T_api_Value) (hv : wt v ≤ 1048576) : Ev (fun k => conf_valueFault.f k v) (own v) := by
  rw [wt_eq] at hv
  have l0 : ∀ b : Bool, Ev (fun k => conf_valueFault.l0 k v.fKind v.fBool v.fInt v.fText v.fItems v.fKeys b) (bif b then 2 else bif ilt 5000 (slen v.fText) then 4 else bif bad v.fText then 9 else ks none v.fKeys) := fun b => by
    cases b with
    | true => exact Ev.step (g := fun _ => some 2) (fun k => by simp only [conf_valueFault.l0, cond_true]) (Ev.now fun _ => rfl)
    | false =>
      simp only [cond_false]
      cases h : ilt 5000 (slen v.fText) with
      | true => exact Ev.step (g := fun _ => some 4) (fun k => by simp only [conf_valueFault.l0, cond_false, h, cond_true]) (Ev.now fun _ => rfl)
      | false =>
        simp only [cond_false]
        refine Ev.step (fun k => by simp only [conf_valueFault.l0, cond_false, h]; rfl) (Ev.bind (bad_conf v.fText (by omega)) ?_)
        cases bad v.fText with
        | true => exact Ev.now fun _ => rfl
        | false =>
          simp only [cond_false]
          exact keys_conf v.fKind v.fBool v.fInt v.fText v.fItems v.fKeys (by omega)
  unfold own
  cases h : ilt v.fKind 0 || ilt 6 v.fKind with
  | true =>
    refine Ev.now fun k => ?_
    simp only [conf_valueFault.f]
    rw [show (bif ilt v.fKind 0 then true else ilt 6 v.fKind) = true by rw [← h]; cases ilt v.fKind 0 <;> rfl]
    rfl
  | false =>
    simp only [cond_false]
    refine Ev.congr (g := fun k => (conf_unused.f k v).bind fun y1 => bif y1 then some 1 else bif ieq v.fKind 4 then (conf_badDay.f v.fInt).bind fun y2 => conf_valueFault.l0 k v.fKind v.fBool v.fInt v.fText v.fItems v.fKeys y2 else conf_valueFault.l0 k v.fKind v.fBool v.fInt v.fText v.fItems v.fKeys false) (fun k => ?_) (Ev.bind (unused_ok v) ?_)
    · simp only [conf_valueFault.f, eta]
      rw [show (bif ilt v.fKind 0 then true else ilt 6 v.fKind) = false by rw [← h]; cases ilt v.fKind 0 <;> rfl]
      rfl
    · cases un v || un2 v with
      | true => exact Ev.now fun _ => rfl
      | false =>
        simp only [cond_false]
        cases h4 : ieq v.fKind 4 with
        | false => simpa using l0 false
        | true =>
          have := l0 (ilt v.fInt 0 || ilt 84005 v.fInt)
          simp only [cond_true, conf_badDay.f, Option.bind_some, Bool.true_and]
          rw [show (bif ilt v.fInt 0 then true else ilt 84005 v.fInt) = (ilt v.fInt 0 || ilt 84005 v.fInt) by cases ilt v.fInt 0 <;> rfl]
          exact this

theorem vf_ok : ∀ v, wt v ≤ 1048576 → Ev (fun k => conf_valuesFault.f k v) (vf v) := tree fun v ih hv => by
  have hv' := hv
  rw [wt_eq] at hv'
  rw [vf_eq]
  refine Ev.step (g := fun k => (conf_valueFault.f k v).bind fun y1 => bif !ieq y1 0 then some y1 else conf_valuesFault.l0 k v.fItems (llen v.fItems) 0) (fun k => by simp only [conf_valuesFault.f, eta]) (Ev.bind (own_ok v hv) ?_)
  cases h : ieq (own v) 0 with
  | false => exact Ev.now fun _ => rfl
  | true => exact items_conf v.fItems (by omega) fun k hk => ih k hk (by have := wt_mem hk; omega)

theorem vfR_ok : ∀ v, wt v ≤ 1048576 → Ev (fun k => mastref2_eachValue.f k v) (vf v) := tree fun v ih hv => by
  rw [wt_eq] at hv
  have li := items_ref v.fItems (by omega) fun k hk => ih k hk (by have := wt_mem hk; omega)
  have lk := keys_ref v.fKind v.fBool v.fInt v.fText v.fItems v.fKeys (by omega) (vfs v.fItems) li
  have lb := bad_ref v.fText (by omega)
  rw [vf_eq]
  cases hk : ilt v.fKind 0 || ilt 6 v.fKind with
  | true =>
    refine Ev.step (g := fun _ => some 10) (fun k => ?_) (Ev.now fun _ => by simp [own, hk, ieq])
    simp only [mastref2_eachValue.f]
    rw [show (bif ilt v.fKind 0 then true else ilt 6 v.fKind) = true by rw [← hk]; cases ilt v.fKind 0 <;> rfl]
    rfl
  | false =>
    have e1 : (bif ilt v.fKind 0 then true else ilt 6 v.fKind) = false := by rw [← hk]; cases ilt v.fKind 0 <;> rfl
    have e2 : (bif (bif (bif (bif (bif v.fBool then (!ieq v.fKind 1) else false) then true else (bif (bif (!ieq v.fInt 0) then (!ieq v.fKind 2) else false) then (!ieq v.fKind 4) else false)) then true else (bif (!seq v.fText c_empty) then (!ieq v.fKind 3) else false)) then true else (bif (bif (ilt 0 (llen v.fItems)) then (!ieq v.fKind 5) else false) then (!ieq v.fKind 6) else false)) then true else (bif (ilt 0 (llen v.fKeys)) then (!ieq v.fKind 6) else false)) = un v := by
      unfold un
      cases v.fBool <;> cases ieq v.fKind 1 <;> cases ieq v.fInt 0 <;> cases ieq v.fKind 2 <;> cases ieq v.fKind 4 <;> cases seq v.fText c_empty <;> cases ieq v.fKind 3 <;> cases ilt 0 (llen v.fItems) <;> cases ieq v.fKind 5 <;> cases ieq v.fKind 6 <;> cases ilt 0 (llen v.fKeys) <;> rfl
    have e3 : (bif ieq v.fKind 6 then (!ieq (llen v.fKeys) (llen v.fItems)) else false) = un2 v := by
      unfold un2
      cases ieq v.fKind 6 <;> rfl
    have e4 : (bif ieq v.fKind 4 then (bif ilt v.fInt 0 then true else ilt 84005 v.fInt) else false) = (ieq v.fKind 4 && (ilt v.fInt 0 || ilt 84005 v.fInt)) := by
      cases ieq v.fKind 4 <;> cases ilt v.fInt 0 <;> rfl
    have st : ∀ k, mastref2_eachValue.f (k + 1) v = bif un v then some 1 else bif un2 v then some 1 else bif (ieq v.fKind 4 && (ilt v.fInt 0 || ilt 84005 v.fInt)) then some 2 else bif ilt 5000 (slen v.fText) then some 4 else (mastref2_badByte.f k v.fText).bind fun y1 => bif y1 then some 9 else mastref2_eachValue.l0 k v.fKind v.fBool v.fInt v.fText v.fItems v.fKeys v.fKeys (llen v.fKeys) 0 := fun k => by
      simp only [mastref2_eachValue.f, e1, e2, e3, e4, cond_false]
    cases h1 : un v with
    | true => exact Ev.step (g := fun _ => some 1) (fun k => by rw [st, h1]; rfl) (Ev.now fun _ => by simp [own, hk, h1, ieq])
    | false =>
      cases h2 : un2 v with
      | true => exact Ev.step (g := fun _ => some 1) (fun k => by rw [st, h1, h2]; rfl) (Ev.now fun _ => by simp [own, hk, h1, h2, ieq])
      | false =>
        cases h3 : (ieq v.fKind 4 && (ilt v.fInt 0 || ilt 84005 v.fInt)) with
        | true => exact Ev.step (g := fun _ => some 2) (fun k => by rw [st, h1, h2, h3]; rfl) (Ev.now fun _ => by rw [show own v = 2 by unfold own; rw [hk, h1, h2, h3]; rfl]; rfl)
        | false =>
          cases h4 : ilt 5000 (slen v.fText) with
          | true => exact Ev.step (g := fun _ => some 4) (fun k => by rw [st, h1, h2, h3, h4]; rfl) (Ev.now fun _ => by rw [show own v = 4 by unfold own; rw [hk, h1, h2, h3, h4]; rfl]; rfl)
          | false =>
            have eo : own v = bif bad v.fText then 9 else ks none v.fKeys := by simp [own, hk, h1, h2, h3, h4]
            rw [eo]
            refine Ev.step (fun k => by rw [st, h1, h2, h3, h4]; rfl) (Ev.bind lb ?_)
            cases bad v.fText with
            | true => exact Ev.now fun _ => rfl
            | false => exact lk

/-- The check. -/
def chk (v : T_api_Value) : Int := bif decide (1000 < nT v) then 4 else bif decide (8 < lv v) then 13 else vf v
theorem chk_ok (v : T_api_Value) (hv : wt v ≤ 1048576) : Ev (fun k => conf_Check.f k v) (chk v) := by
  obtain ⟨r, r1, r2, r3⟩ := count_conf v hv
  refine Ev.congr (g := fun k => (conf_count.f k v).bind fun y1 => bif ilt 1000 y1 then some 4 else (conf_levels.f k v).bind fun y2 => bif ilt 8 y2 then some 13 else (conf_valuesFault.f k v).bind fun y3 => some y3) (fun k => by simp only [conf_Check.f, eta]) (Ev.bind r1 ?_)
  unfold chk
  by_cases c : 1000 < nT v
  · rw [ilt_t (show (1000 : Int) < (r : Int) by omega), decide_eq_true c]; exact Ev.now fun _ => rfl
  · rw [ilt_f (show (r : Int) ≤ 1000 by omega), decide_eq_false c]
    refine Ev.bind (levels_conf v hv) ?_
    by_cases c2 : 8 < lv v
    · rw [ilt_t (show (8 : Int) < (lv v : Int) by omega), decide_eq_true c2]; exact Ev.now fun _ => rfl
    · rw [ilt_f (show (lv v : Int) ≤ 8 by omega), decide_eq_false c2]
      exact Ev.bind (vf_ok v hv) (Ev.now fun _ => rfl)
theorem count_loop_list (l : List T_api_Value) (hl : wts l ≤ 1048576) (ih : ∀ k ∈ l, ∃ r : Nat, Ev (fun f => list_count.f f k) (r : Int) ∧ r ≤ nT k ∧ (5000 < r ∨ r = nT k)) : ∀ (d j a : Nat), l.length - j ≤ d → j ≤ l.length → a + nTs (l.drop j) ≤ 1048577 →
    ∃ r : Nat, Ev (fun f => list_count.l0 f (a : Int) l (llen l) (j : Int)) (r : Int) ∧ r ≤ a + nTs (l.drop j) ∧ (5000 < r ∨ r = a + nTs (l.drop j)) := by
  have hlen := len_le l
  have fin : ∀ j a : Nat, l.length ≤ j → ∃ r : Nat, Ev (fun f => list_count.l0 f (a : Int) l (llen l) (j : Int)) (r : Int) ∧ r ≤ a + nTs (l.drop j) ∧ (5000 < r ∨ r = a + nTs (l.drop j)) := fun j a h => by
    refine ⟨a, Ev.step (g := fun _ => some (a : Int)) (fun k => ?_) (Ev.now fun _ => rfl), by omega, ?_⟩
    · simp only [list_count.l0, llen_eq, ilt_f (show (l.length : Int) ≤ (j : Int) by omega), cond_false]
    · rw [List.drop_eq_nil_of_le h]; simp [nTs]
  intro d
  induction d with
  | zero => intro j a hd hj hb; exact fin j a (by omega)
  | succ d ihd =>
    intro j a hd hj hb
    rcases Nat.lt_or_ge j l.length with hlt | hge
    · rw [List.drop_eq_getElem_cons hlt] at hb ⊢
      simp only [nTs] at hb ⊢
      by_cases ha : 5000 < a
      · refine ⟨a, Ev.step (g := fun _ => some (a : Int)) (fun k => ?_) (Ev.now fun _ => rfl), by omega, .inl ha⟩
        simp only [list_count.l0, llen_eq, ilt_t (show (j : Int) < (l.length : Int) by omega), cond_true, lat_lt hlt, Option.bind_some, ilt_t (show (5000 : Int) < (a : Int) by omega)]
      · obtain ⟨r, r1, r2, r3⟩ := ih _ (List.getElem_mem hlt)
        obtain ⟨q, q1, q2, q3⟩ := ihd (j + 1) (a + r) (by omega) hlt (by omega)
        have w : wadd .i64 (a : Int) (r : Int) = ((a + r : Nat) : Int) := by rw [wadd64 (by omega) (by omega)]; omega
        refine ⟨q, Ev.step (g := fun k => (list_count.f k l[j]).bind fun y2 => list_count.l0 k (wadd .i64 (a : Int) y2) l (llen l) ((j + 1 : Nat) : Int)) (fun k => ?_) (Ev.bind r1 (by rw [w]; exact q1)), by omega, by omega⟩
        simp only [list_count.l0, llen_eq, ilt_t (show (j : Int) < (l.length : Int) by omega), cond_true, lat_lt hlt, Option.bind_some, ilt_f (show (a : Int) ≤ 5000 by omega), cond_false, eta, u0 (show j ≤ 4611686018427387904 by omega)]
    · exact fin j a hge
theorem count_list : ∀ t, wt t ≤ 1048576 → ∃ r : Nat, Ev (fun f => list_count.f f t) (r : Int) ∧ r ≤ nT t ∧ (5000 < r ∨ r = nT t) := tree fun t ih hn => by
  have h0 := nTs_wts t.fItems
  rw [wt_eq] at hn
  obtain ⟨r, r1, r2, r3⟩ := count_loop_list t.fItems (by omega) (fun k hk => ih k hk (by have := wt_mem hk; omega)) t.fItems.length 0 1 (by omega) (by omega) (by rw [List.drop_zero]; omega)
  rw [List.drop_zero] at r2 r3
  rw [nT_eq]
  exact ⟨r, Ev.step (fun k => by simp only [list_count.f]; rfl) r1, by omega, by omega⟩

theorem levels_loop_list (l : List T_api_Value) (hl : wts l ≤ 1048576) (ih : ∀ k ∈ l, Ev (fun f => list_levels.f f k) (lv k : Int)) : ∀ (d j a : Nat), l.length - j ≤ d → j ≤ l.length → a ≤ 1048576 →
    Ev (fun f => list_levels.l0 f (a : Int) l (llen l) (j : Int)) ((max a (lvs (l.drop j)) + 1 : Nat) : Int) := by
  have hlen := len_le l
  have hlv := fun k (hk : k ∈ l) => (show lv k ≤ 1048576 by have h1 := wt_mem hk; have h2 := lv_wt k; omega)
  have fin : ∀ j a : Nat, l.length ≤ j → a ≤ 1048576 → Ev (fun f => list_levels.l0 f (a : Int) l (llen l) (j : Int)) ((max a (lvs (l.drop j)) + 1 : Nat) : Int) := fun j a h ha => by
    rw [List.drop_eq_nil_of_le h]
    refine Ev.step (g := fun _ => some ((max a (lvs []) + 1 : Nat) : Int)) (fun k => ?_) (Ev.now fun _ => rfl)
    simp only [list_levels.l0, llen_eq, ilt_f (show (l.length : Int) ≤ (j : Int) by omega), cond_false, lvs, u0 (show a ≤ 4611686018427387904 by omega)]
    simp
  intro d
  induction d with
  | zero => intro j a hd hj ha; exact fin j a (by omega) ha
  | succ d ihd =>
    intro j a hd hj ha
    rcases Nat.lt_or_ge j l.length with hlt | hge
    · rw [List.drop_eq_getElem_cons hlt]
      have hk := hlv _ (List.getElem_mem hlt)
      have := ihd (j + 1) (max a (lv l[j])) (by omega) hlt (by omega)
      rw [show max (max a (lv l[j])) (lvs (l.drop (j + 1))) = max a (lvs (l[j] :: l.drop (j + 1))) by simp only [lvs]; omega] at this
      refine Ev.step (g := fun k => (list_levels.f k l[j]).bind fun y2 => list_levels.l0 k (imax (a : Int) y2) l (llen l) ((j + 1 : Nat) : Int)) (fun k => ?_) (Ev.bind (ih _ (List.getElem_mem hlt)) (by rw [imax_nat]; exact this))
      simp only [list_levels.l0, llen_eq, ilt_t (show (j : Int) < (l.length : Int) by omega), cond_true, lat_lt hlt, Option.bind_some, eta, u0 (show j ≤ 4611686018427387904 by omega)]
    · exact fin j a hge ha
theorem levels_list : ∀ t, wt t ≤ 1048576 → Ev (fun f => list_levels.f f t) (lv t : Int) := tree fun t ih hn => by
  rw [wt_eq] at hn
  have := levels_loop_list t.fItems (by omega) (fun k hk => ih k hk (by have := wt_mem hk; omega)) t.fItems.length 0 0 (by omega) (by omega) (by omega)
  rw [List.drop_zero, Nat.zero_max] at this
  rw [lv_eq]
  exact Ev.step (fun k => by simp only [list_levels.f]; rfl) this

theorem key_list (s : ByteArray) : Ev (fun k => list_isKey.f k s) (key s) := by
  cases h : s.data.toList with
  | nil => exact Ev.now fun k => by simp only [list_isKey.f, seq_empty, h, key, keyL, List.isEmpty_nil, cond_true]
  | cons c r =>
    by_cases hl : r.length < 40
    · have hl' : s.data.toList.length ≤ 40 := by rw [h]; simp; omega
      cases hc : small c with
      | false =>
        refine Ev.now fun k => ?_
        simp only [list_isKey.f, seq_empty, h, key, keyL, List.isEmpty_cons, cond_false, slen_l, ilt_f (show ((c :: r).length : Int) ≤ 40 by rw [← h]; omega), sat_0 h, Option.bind_some, list_isSmall.f, hc, Bool.and_false, Bool.false_and]
        rw [show (bif ile 97 (c.toNat : Int) then ile (c.toNat : Int) 122 else false) = small c from rfl, hc]
        rfl
      | true =>
        have q := find_pure s.data.toList 1 (by rw [h]; simp) (fun k j => list_isKey.l0 k s (j : Int)) (fun _ => some true) (fun c => !ins c) (fun _ => false) true
          (fun k j h => by
            simp only [list_isKey.l0, slen_l, ilen _ _ h, cond_true, sat_l h, Option.bind_some, u0 (show j ≤ 4611686018427387904 by omega), list_isSmall.f, list_isDigit.f, ins, small]
            cases (bif ile 97 (s.data.toList[j].toNat : Int) then ile (s.data.toList[j].toNat : Int) 122 else false) <;> cases (bif ile 48 (s.data.toList[j].toNat : Int) then ile (s.data.toList[j].toNat : Int) 57 else false) <;> cases ieq (s.data.toList[j].toNat : Int) 45 <;> cases ieq (s.data.toList[j].toNat : Int) 95 <;> rfl)
          (fun k => by simp only [list_isKey.l0, slen_l, ilen', cond_false]) (Ev.now fun _ => rfl)
        rw [fl_const, h, List.drop_succ_cons, List.drop_zero, all_ins] at q
        have e : key s = r.all ins := by unfold key; rw [h]; simp [keyL, hl, hc]
        rw [e]
        refine Ev.congr (fun k => ?_) q
        simp only [list_isKey.f, seq_empty, h, List.isEmpty_cons, cond_false, slen_l, ilt_f (show ((c :: r).length : Int) ≤ 40 by rw [← h]; omega), sat_0 h, Option.bind_some, list_isSmall.f]
        rw [show (bif ile 97 (c.toNat : Int) then ile (c.toNat : Int) 122 else false) = small c from rfl, hc]
        rfl
    · refine Ev.now fun k => ?_
      simp only [list_isKey.f, seq_empty, h, key, keyL, List.isEmpty_cons, cond_false, slen_l, ilt_t (show (40 : Int) < ((c :: r).length : Int) by simp; omega), cond_true, decide_eq_false hl, Bool.false_and]

theorem keys_loop_list (k0 : Int) (b0 : Bool) (i0 : Int) (t0 : ByteArray) (is0 : List T_api_Value) (l : List ByteArray) (hl : kz l ≤ 1048576) : ∀ (d j : Nat), l.length - j ≤ d → j ≤ l.length →
    Ev (fun k => list_tableFault.l0 k k0 b0 i0 t0 is0 l l (llen l) (j : Int)) (ks (prev l j) (l.drop j)) := by
  have hlen := klen_le l
  intro d
  have fin : ∀ j : Nat, l.length ≤ j → Ev (fun k => list_tableFault.l0 k k0 b0 i0 t0 is0 l l (llen l) (j : Int)) (ks (prev l j) (l.drop j)) := fun j h => by
    rw [List.drop_eq_nil_of_le h]
    refine Ev.step (fun k => ?_) (show Ev (fun _ => some 0) (ks (prev l j) []) from Ev.now fun _ => rfl)
    simp only [list_tableFault.l0, llen_eq, ilt_f (show (l.length : Int) ≤ (j : Int) by omega), cond_false]
  induction d with
  | zero => intro j hd hj; exact fin j (by omega)
  | succ d ihd =>
    intro j hd hj
    rcases Nat.lt_or_ge j l.length with hlt | hge
    · rw [List.drop_eq_getElem_cons hlt]
      have hr := ihd (j + 1) (by omega) hlt
      rw [prev_succ hlt] at hr
      have hkz := kz_mem (List.getElem_mem hlt)
      cases hk : key l[j] with
      | false =>
        refine Ev.step (fun k => by simp only [list_tableFault.l0, llen_eq, ilt_t (show (j : Int) < (l.length : Int) by omega), cond_true, lat_lt hlt, Option.bind_some]; rfl) (Ev.bind (key_list l[j]) ?_)
        rw [hk]
        exact Ev.now fun _ => by simp [ks, hk]
      | true =>
        cases j with
        | zero =>
          have e : ks (prev l 0) (l[0] :: l.drop 1) = ks (some l[0]) (l.drop 1) := by simp [ks, hk, prev]
          rw [e]
          refine Ev.step (fun k => by simp only [list_tableFault.l0, llen_eq, ilt_t (show ((0 : Nat) : Int) < (l.length : Int) by omega), cond_true, lat_lt hlt, Option.bind_some]; rfl) (Ev.bind (key_list l[0]) ?_)
          rw [hk]
          simp only [Bool.not_true, cond_false, ilt_f (show ((0 : Nat) : Int) ≤ 0 by omega), u0 (show 0 ≤ 4611686018427387904 by omega)]
          exact hr
        | succ i =>
          have hi : i < l.length := by omega
          have w : wsub .i64 ((i + 1 : Nat) : Int) 1 = (i : Int) := by rw [wsub64 (by omega) (by omega)]; omega
          rw [prev_succ hi]
          cases hle : sle l[i + 1] l[i] with
          | true =>
            have e : ks (some l[i]) (l[i + 1] :: l.drop (i + 1 + 1)) = 5 := by simp [ks, hk, hle]
            rw [e]
            refine Ev.step (fun k => by simp only [list_tableFault.l0, llen_eq, ilt_t (show ((i + 1 : Nat) : Int) < (l.length : Int) by omega), cond_true, lat_lt hlt, Option.bind_some]; rfl) (Ev.bind (key_list l[i + 1]) ?_)
            rw [hk]
            simp only [Bool.not_true, cond_false, ilt_t (show (0 : Int) < ((i + 1 : Nat) : Int) by omega), cond_true, w, lat_lt hi, Option.bind_some, hle, u0 (show i + 1 ≤ 4611686018427387904 by omega)]
            exact Ev.now fun _ => rfl
          | false =>
            have e : ks (some l[i]) (l[i + 1] :: l.drop (i + 1 + 1)) = ks (some l[i + 1]) (l.drop (i + 1 + 1)) := by simp [ks, hk, hle]
            rw [e]
            refine Ev.step (fun k => by simp only [list_tableFault.l0, llen_eq, ilt_t (show ((i + 1 : Nat) : Int) < (l.length : Int) by omega), cond_true, lat_lt hlt, Option.bind_some]; rfl) (Ev.bind (key_list l[i + 1]) ?_)
            rw [hk]
            simp only [Bool.not_true, cond_false, ilt_t (show (0 : Int) < ((i + 1 : Nat) : Int) by omega), cond_true, w, lat_lt hi, Option.bind_some, hle, u0 (show i + 1 ≤ 4611686018427387904 by omega)]
            exact hr
    · exact fin j hge
theorem keys_list (k0 : Int) (b0 : Bool) (i0 : Int) (t0 : ByteArray) (is0 : List T_api_Value) (l : List ByteArray) (hl : kz l ≤ 1048576) : Ev (fun k => list_tableFault.l0 k k0 b0 i0 t0 is0 l l (llen l) 0) (ks none l) := by
  have := keys_loop_list k0 b0 i0 t0 is0 l hl  l.length 0 (by omega) (by omega)
  rw [List.drop_zero] at this
  exact this

mutual
/-- A value whose safe texts and facts are strings. -/
def st : T_api_Value → T_api_Value
  | ⟨k, b, i, t, is, s⟩ => ⟨bif ieq k 7 || ieq k 8 then 3 else k, b, i, t, sts is, s⟩
def sts : List T_api_Value → List T_api_Value
  | [] => []
  | t :: r => st t :: sts r
end
theorem st_eq (v : T_api_Value) : st v = ⟨bif ieq v.fKind 7 || ieq v.fKind 8 then 3 else v.fKind, v.fBool, v.fInt, v.fText, sts v.fItems, v.fKeys⟩ := by cases v; simp [st]
theorem sts_len : ∀ l, (sts l).length = l.length
  | [] => rfl
  | a :: l => by simp only [sts, List.length_cons, sts_len l]
theorem sts_append : ∀ l m, sts (l ++ m) = sts l ++ sts m
  | [], m => rfl
  | a :: l, m => by simp only [List.cons_append, sts, sts_append l m]
theorem st_wt : ∀ v, wt (st v) = wt v := tree fun v ih => by
  have : ∀ l : List T_api_Value, (∀ k ∈ l, wt (st k) = wt k) → wts (sts l) = wts l := by
    intro l
    induction l with
    | nil => intro _; rfl
    | cons a l ih =>
      intro h
      have h1 := h a (List.mem_cons_self ..)
      have h2 := ih fun k hk => h k (List.mem_cons_of_mem _ hk)
      simp only [sts, wts, h1, h2]
  rw [wt_eq, wt_eq v, st_eq]
  show v.fText.size + kz v.fKeys + wts (sts v.fItems) + 1 = _
  rw [this v.fItems ih]
theorem items_list (l : List T_api_Value) (hl : wts l ≤ 1048576) (ih : ∀ k ∈ l, Ev (fun f => list_valuesFault.f f k) (vf (st k))) : Ev (fun k => list_valuesFault.l0 k l (llen l) 0) (vfs (sts l)) := by
  have hlen := len_le l
  have : ∀ (d j : Nat), l.length - j ≤ d → j ≤ l.length → Ev (fun k => list_valuesFault.l0 k l (llen l) (j : Int)) (vfs (sts (l.drop j))) := by
    intro d
    have fin : ∀ j : Nat, l.length ≤ j → Ev (fun k => list_valuesFault.l0 k l (llen l) (j : Int)) (vfs (sts (l.drop j))) := fun j h => by
      rw [List.drop_eq_nil_of_le h]
      refine Ev.step (g := fun _ => some 0) (fun k => ?_) (Ev.now fun _ => rfl)
      simp only [list_valuesFault.l0, llen_eq, ilt_f (show (l.length : Int) ≤ (j : Int) by omega), cond_false]
    induction d with
    | zero => intro j hd hj; exact fin j (by omega)
    | succ d ihd =>
      intro j hd hj
      rcases Nat.lt_or_ge j l.length with hlt | hge
      · rw [List.drop_eq_getElem_cons hlt]
        refine Ev.step (fun k => by simp only [list_valuesFault.l0, llen_eq, ilt_t (show (j : Int) < (l.length : Int) by omega), cond_true, lat_lt hlt, Option.bind_some, eta]; rfl) (Ev.bind (ih _ (List.getElem_mem hlt)) ?_)
        simp only [sts, vfs, u0 (show j ≤ 4611686018427387904 by omega)]
        cases ieq (vf (st l[j])) 0 with
        | true => exact ihd (j + 1) (by omega) hlt
        | false => exact Ev.now fun _ => rfl
      · exact fin j hge
  have := this l.length 0 (by omega) (by omega)
  rw [List.drop_zero] at this
  exact this

theorem settled_loop (a b : T_api_Value) (l : List T_api_Value) (hl : wts l ≤ 1048576) (ih : ∀ k ∈ l, Ev (fun f => mastref2_settled.f f k) (st k)) : ∀ (d j : Nat), l.length - j ≤ d → j ≤ l.length →
    Ev (fun k => mastref2_settled.l1 k a.fKind a.fBool a.fInt a.fText a.fItems a.fKeys b.fKind b.fBool b.fInt b.fText (sts (l.take j)) b.fKeys l (llen l) (j : Int)) ⟨b.fKind, b.fBool, b.fInt, b.fText, sts l, b.fKeys⟩ := by
  have hlen := len_le l
  intro d
  have fin : ∀ j : Nat, l.length ≤ j → Ev (fun k => mastref2_settled.l1 k a.fKind a.fBool a.fInt a.fText a.fItems a.fKeys b.fKind b.fBool b.fInt b.fText (sts (l.take j)) b.fKeys l (llen l) (j : Int)) ⟨b.fKind, b.fBool, b.fInt, b.fText, sts l, b.fKeys⟩ := fun j h => by
    rw [List.take_of_length_le h]
    refine Ev.step (g := fun _ => some ⟨b.fKind, b.fBool, b.fInt, b.fText, sts l, b.fKeys⟩) (fun k => ?_) (Ev.now fun _ => rfl)
    simp only [mastref2_settled.l1, llen_eq, ilt_f (show (l.length : Int) ≤ (j : Int) by omega), cond_false]
  induction d with
  | zero => intro j hd hj; exact fin j (by omega)
  | succ d ihd =>
    intro j hd hj
    rcases Nat.lt_or_ge j l.length with hlt | hge
    · have hr := ihd (j + 1) (by omega) hlt
      have ht : sts (l.take (j + 1)) = sts (l.take j) ++ [st l[j]] := by rw [List.take_succ_eq_append_getElem hlt, sts_append]; rfl
      have hap : lapp 88 (sts (l.take j)) [st l[j]] = some (sts (l.take (j + 1))) := by
        have h1 : (sts (l.take j)).length ≤ l.length := by rw [sts_len, List.length_take]; omega
        rw [ht]
        exact lapp_ok (by simp only [List.length_singleton]; omega) (by simp only [List.length_singleton]; omega)
      refine Ev.step (fun k => by simp only [mastref2_settled.l1, llen_eq, ilt_t (show (j : Int) < (l.length : Int) by omega), cond_true, lat_lt hlt, Option.bind_some, eta]; rfl) (Ev.bind (ih _ (List.getElem_mem hlt)) ?_)
      simp only [hap, Option.bind_some, u0 (show j ≤ 4611686018427387904 by omega)]
      exact hr
    · exact fin j hge

theorem settled_ok : ∀ v, wt v ≤ 1048576 → Ev (fun k => mastref2_settled.f k v) (st v) := tree fun v ih hv => by
  rw [wt_eq] at hv
  have l1 : ∀ a b : T_api_Value, Ev (fun k => mastref2_settled.l1 k a.fKind a.fBool a.fInt a.fText a.fItems a.fKeys b.fKind b.fBool b.fInt b.fText [] b.fKeys v.fItems (llen v.fItems) 0) ⟨b.fKind, b.fBool, b.fInt, b.fText, sts v.fItems, b.fKeys⟩ := fun a b =>
    settled_loop a b v.fItems (by omega) (fun k hk => ih k hk (by have := wt_mem hk; omega)) v.fItems.length 0 (by omega) (by omega)
  have l0 : ∀ a b : T_api_Value, Ev (fun k => mastref2_settled.l0 k v.fKind v.fBool v.fInt v.fText v.fItems v.fKeys a.fKind a.fBool a.fInt a.fText a.fItems a.fKeys b.fKind b.fBool b.fInt b.fText b.fItems b.fKeys) ⟨b.fKind, b.fBool, b.fInt, b.fText, sts v.fItems, b.fKeys⟩ := fun a b =>
    Ev.step (fun k => by simp only [mastref2_settled.l0]) (l1 a b)
  rw [st_eq]
  have e : (bif ieq v.fKind 7 then true else ieq v.fKind 8) = (ieq v.fKind 7 || ieq v.fKind 8) := by cases ieq v.fKind 7 <;> rfl
  cases h : (ieq v.fKind 7 || ieq v.fKind 8) with
  | true => exact Ev.step (fun k => by simp only [mastref2_settled.f, e, h, cond_true]) (l0 ⟨0, false, 0, c_empty, [], []⟩ ⟨3, v.fBool, v.fInt, v.fText, v.fItems, v.fKeys⟩)
  | false => exact Ev.step (fun k => by simp only [mastref2_settled.f, e, h, cond_false]) (l0 ⟨0, false, 0, c_empty, [], []⟩ v)

/-! One value of an item. -/
def zro : T_api_Value := ⟨0, false, 0, c_empty, [], []⟩
theorem own_zro : own zro = 0 := by
  have e : seq zro.fText c_empty = true := by rw [seq_d]; exact decide_eq_true rfl
  unfold own un
  rw [e]
  rfl
theorem rep_nT : ∀ n, nTs (List.replicate n zro) = n
  | 0 => rfl
  | n + 1 => by rw [List.replicate_succ]; simp only [nTs, rep_nT n]; rw [show nT zro = 1 from rfl]; omega
theorem rep_wt : ∀ n, wts (List.replicate n zro) = n
  | 0 => rfl
  | n + 1 => by rw [List.replicate_succ]; simp only [wts, rep_wt n]; rw [show wt zro = 1 from rfl]; omega
theorem rep_lv : ∀ n, lvs (List.replicate n zro) ≤ 1
  | 0 => Nat.zero_le _
  | n + 1 => by rw [List.replicate_succ]; simp only [lvs]; have := rep_lv n; rw [show lv zro = 1 from rfl]; omega
theorem rep_vf : ∀ n, vfs (List.replicate n zro) = 0
  | 0 => rfl
  | n + 1 => by
    rw [List.replicate_succ]
    have : vf zro = 0 := by rw [vf_eq, own_zro]; rfl
    simp only [vfs, this, rep_vf n]; rfl
/-- A value with no items, or items that are nothing, is checked by itself. -/
theorem chk_own (k : Int) (b : Bool) (i : Int) (t : ByteArray) (n : Nat) (s : List ByteArray) (hn : n ≤ 999) : chk ⟨k, b, i, t, List.replicate n zro, s⟩ = own ⟨k, b, i, t, List.replicate n zro, s⟩ := by
  have h1 : nT ⟨k, b, i, t, List.replicate n zro, s⟩ = n + 1 := by rw [nT_eq]; show nTs (List.replicate n zro) + 1 = _; rw [rep_nT]
  have h2 : lv ⟨k, b, i, t, List.replicate n zro, s⟩ ≤ 2 := by rw [lv_eq]; show lvs (List.replicate n zro) + 1 ≤ _; have := rep_lv n; omega
  unfold chk
  rw [decide_eq_false (show ¬ 1000 < nT _ by omega), decide_eq_false (show ¬ 8 < lv _ by omega), vf_eq]
  simp only [cond_false]
  by_cases h : own ⟨k, b, i, t, List.replicate n zro, s⟩ = 0
  · rw [ieq_t h, h]; exact rep_vf n
  · rw [ieq_f h]; rfl

theorem own_items (k : Int) (b : Bool) (i : Int) (t : ByteArray) (l m : List T_api_Value) (s : List ByteArray) (h : l.length = m.length) : own ⟨k, b, i, t, l, s⟩ = own ⟨k, b, i, t, m, s⟩ := by
  unfold own un un2
  simp only [llen_eq, h]
theorem own_five (b : Bool) (i : Int) (t : ByteArray) (l m : List T_api_Value) (s : List ByteArray) : own ⟨5, b, i, t, l, s⟩ = own ⟨5, b, i, t, m, s⟩ := by
  have e1 : ieq 5 5 = true := rfl
  have e2 : ieq 5 6 = false := rfl
  unfold own un un2
  simp only [e1, e2, Bool.not_true, Bool.and_false, Bool.false_and]
/-- Items where there are to be none. -/
theorem own_one (k : Int) (b : Bool) (i : Int) (t : ByteArray) (l : List T_api_Value) (s : List ByteArray) (h0 : ilt k 0 = false) (h6 : ilt 6 k = false) (h5 : k ≠ 5) (h66 : k ≠ 6) (hl : ilt 0 (llen l) = true) : own ⟨k, b, i, t, l, s⟩ = 1 := by
  unfold own un un2
  simp only [h0, h6, Bool.or_false, cond_false, hl, ieq_f h5, ieq_f h66, Bool.not_false, Bool.true_and, Bool.or_true, Bool.true_or, cond_true]

theorem table_ok (v : T_api_Value) (h6 : v.fKind = 6) (hv : wt v ≤ 1048576) : Ev (fun k => list_tableFault.f k v) (own v) := by
  rw [wt_eq] at hv
  have e1 : ilt 6 0 = false := rfl
  have e2 : ilt 6 6 = false := rfl
  have e3 : ieq 6 1 = false := rfl
  have e4 : ieq 6 2 = false := rfl
  have e5 : ieq 6 3 = false := rfl
  have e6 : ieq 6 4 = false := rfl
  have e7 : ieq 6 5 = false := rfl
  have e8 : ieq 6 6 = true := rfl
  have eo : own v = bif (v.fBool || !ieq v.fInt 0 || !seq v.fText c_empty || !ieq (llen v.fKeys) (llen v.fItems)) then 1 else bif ilt 5000 (slen v.fText) then 4 else bif bad v.fText then 9 else ks none v.fKeys := by
    unfold own un un2
    rw [h6]
    simp only [e1, e2, e3, e4, e5, e6, e7, e8, Bool.or_false, Bool.not_false, Bool.not_true, Bool.and_true, Bool.and_false, Bool.true_and, Bool.false_and, cond_false]
  rw [eo]
  have eb : (bif (bif (bif v.fBool then true else (!ieq v.fInt 0)) then true else (!seq v.fText c_empty)) then true else (!ieq (llen v.fKeys) (llen v.fItems))) = (v.fBool || !ieq v.fInt 0 || !seq v.fText c_empty || !ieq (llen v.fKeys) (llen v.fItems)) := by
    cases v.fBool <;> cases ieq v.fInt 0 <;> cases seq v.fText c_empty <;> rfl
  cases h : (v.fBool || !ieq v.fInt 0 || !seq v.fText c_empty || !ieq (llen v.fKeys) (llen v.fItems)) with
  | true => exact Ev.now fun k => by simp only [list_tableFault.f, eb, h, cond_true]
  | false =>
    have ht : seq v.fText c_empty = true := by
      cases q : seq v.fText c_empty with
      | true => rfl
      | false => rw [q] at h; simp at h
    have ht : v.fText = c_empty := by rw [seq_d] at ht; exact of_decide_eq_true ht
    rw [ht, show ilt 5000 (slen c_empty) = false from rfl, show bad c_empty = false from rfl]
    simp only [cond_false]
    have := keys_list v.fKind v.fBool v.fInt v.fText v.fItems v.fKeys (by omega)
    exact Ev.congr (fun k => by simp only [list_tableFault.f, eb, h, cond_false]) this

theorem check_ok (x : T_api_Value) (r : Int) (hx : wt x ≤ 1048576) (h : chk x = r) : Ev (fun k => (conf_Check.f k x).bind fun y1 => some y1) r :=
  Ev.bind (chk_ok x hx) (Ev.now fun _ => by rw [h])

theorem own2_ok (v : T_api_Value) (hv : wt v ≤ 1048576) : Ev (fun k => list_valueFault.f k v) (own (st v)) := by
  have hv' := hv
  rw [wt_eq] at hv'
  have hlen := len_le v.fItems
  have e0 : (bif ilt v.fKind 0 then true else ilt 8 v.fKind) = (ilt v.fKind 0 || ilt 8 v.fKind) := by cases ilt v.fKind 0 <;> rfl
  by_cases hk : v.fKind < 0 ∨ 8 < v.fKind
  · have h : (ilt v.fKind 0 || ilt 8 v.fKind) = true := by
      rcases hk with h | h
      · rw [ilt_t h]; rfl
      · rw [ilt_t h, Bool.or_true]
    refine Ev.now fun k => ?_
    have eo : own (st v) = 10 := by
      rw [st_eq, ieq_f (show v.fKind ≠ 7 by omega), ieq_f (show v.fKind ≠ 8 by omega)]
      unfold own
      simp only [Bool.or_false, cond_false]
      have : (ilt v.fKind 0 || ilt 6 v.fKind) = true := by
        rcases hk with h | h
        · rw [ilt_t h]; rfl
        · rw [ilt_t (show 6 < v.fKind by omega), Bool.or_true]
      rw [this]; rfl
    simp only [list_valueFault.f, e0, h, cond_true, eo]
  · have h : (ilt v.fKind 0 || ilt 8 v.fKind) = false := by rw [ilt_f (show 0 ≤ v.fKind by omega), ilt_f (show v.fKind ≤ 8 by omega)]; rfl
    -- a text
    have l7 : (v.fKind = 7 ∨ v.fKind = 8) → Ev (fun k => list_valueFault.l0 k v.fKind v.fBool v.fInt v.fText v.fItems v.fKeys v.fKind v.fBool v.fInt v.fText [] v.fKeys v.fKind true) (own (st v)) := fun h78 => by
      have hb : (ieq v.fKind 7 || ieq v.fKind 8) = true := by
        rcases h78 with q | q
        · rw [ieq_t q]; rfl
        · rw [ieq_t q, Bool.or_true]
      rw [st_eq, hb]
      simp only [cond_true]
      cases hi : ilt 0 (llen v.fItems) with
      | true =>
        refine Ev.step (g := fun _ => some 1) (fun k => by simp only [list_valueFault.l0, cond_true, hi]) (Ev.now fun _ => ?_)
        rw [own_one 3 v.fBool v.fInt v.fText (sts v.fItems) v.fKeys rfl rfl (by decide) (by decide) (by rw [llen_eq, sts_len]; exact hi)]
      | false =>
        have hnil : v.fItems = [] := List.eq_nil_of_length_eq_zero (by
          have : ¬ (0 : Int) < v.fItems.length := of_decide_eq_false hi
          omega)
        refine Ev.step (fun k => by simp only [list_valueFault.l0, cond_true, hi, cond_false]; rfl) (check_ok _ _ ?_ ?_)
        · rw [wt_eq]; show v.fText.size + kz v.fKeys + 0 + 1 ≤ _; omega
        · rw [hnil]; exact chk_own 3 v.fBool v.fInt v.fText 0 v.fKeys (by omega)
    have l5 : ¬ (v.fKind = 7 ∨ v.fKind = 8) → Ev (fun k => list_valueFault.l0 k v.fKind v.fBool v.fInt v.fText v.fItems v.fKeys v.fKind v.fBool v.fInt v.fText [] v.fKeys v.fKind false) (own (st v)) := fun h78 => by
      rw [st_eq, ieq_f (show v.fKind ≠ 7 by omega), ieq_f (show v.fKind ≠ 8 by omega)]
      simp only [Bool.or_false, cond_false]
      by_cases h5 : v.fKind = 5
      · refine Ev.step (fun k => by simp only [list_valueFault.l0, cond_false, ieq_t h5, cond_true]; rfl) (check_ok _ _ ?_ ?_)
        · rw [wt_eq]; show v.fText.size + kz v.fKeys + 0 + 1 ≤ _; omega
        · rw [h5]
          exact (chk_own 5 v.fBool v.fInt v.fText 0 v.fKeys (by omega)).trans (own_five _ _ _ _ _ _)
      · by_cases h6 : v.fKind = 6
        · have hm : lmake 88 (llen v.fItems) (llen v.fItems) zro = some (List.replicate v.fItems.length zro) := by
            unfold lmake
            rw [llen_eq, if_pos ⟨by omega, by omega, by omega, by omega⟩, Int.toNat_natCast]
          have st1 : ∀ k, list_valueFault.l0 (k + 1) v.fKind v.fBool v.fInt v.fText v.fItems v.fKeys v.fKind v.fBool v.fInt v.fText [] v.fKeys v.fKind false = bif ilt 999 (v.fItems.length : Int) then (list_tableFault.f k v).bind fun y4 => some y4 else (conf_Check.f k ⟨v.fKind, v.fBool, v.fInt, v.fText, List.replicate v.fItems.length zro, v.fKeys⟩).bind fun y5 => some y5 := fun k => by
            simp only [list_valueFault.l0, cond_false, ieq_f h5, ieq_t h6, cond_true, eta]
            rw [show T_api_Value.mk 0 false 0 c_empty [] [] = zro from rfl, hm]
            simp only [Option.bind_some, llen_eq, List.length_replicate]
          have e1 : own ⟨v.fKind, v.fBool, v.fInt, v.fText, sts v.fItems, v.fKeys⟩ = own v := by
            have := own_items v.fKind v.fBool v.fInt v.fText (sts v.fItems) v.fItems v.fKeys (sts_len _)
            rw [eta] at this
            exact this
          by_cases hn : 999 < v.fItems.length
          · rw [e1]
            refine Ev.step (fun k => by rw [st1, ilt_t (show (999 : Int) < (v.fItems.length : Int) by omega)]; rfl) (Ev.bind (table_ok v h6 hv) (Ev.now fun _ => rfl))
          · refine Ev.step (fun k => by rw [st1, ilt_f (show (v.fItems.length : Int) ≤ 999 by omega)]; rfl) (check_ok _ _ ?_ ?_)
            · rw [wt_eq]; show v.fText.size + kz v.fKeys + wts (List.replicate v.fItems.length zro) + 1 ≤ _; rw [rep_wt]; omega
            · rw [chk_own _ _ _ _ _ _ (by omega)]
              exact own_items _ _ _ _ _ _ _ (by rw [List.length_replicate, sts_len])
        · cases hi : ilt 0 (llen v.fItems) with
          | true =>
            refine Ev.step (g := fun _ => some 1) (fun k => by simp only [list_valueFault.l0, cond_false, ieq_f h5, ieq_f h6, hi, cond_true]) (Ev.now fun _ => ?_)
            rw [own_one v.fKind v.fBool v.fInt v.fText (sts v.fItems) v.fKeys (ilt_f (by omega)) (ilt_f (by omega)) h5 h6 (by rw [llen_eq, sts_len]; exact hi)]
          | false =>
            have hnil : v.fItems = [] := List.eq_nil_of_length_eq_zero (by
              have : ¬ (0 : Int) < v.fItems.length := of_decide_eq_false hi
              omega)
            refine Ev.step (fun k => by simp only [list_valueFault.l0, cond_false, ieq_f h5, ieq_f h6, hi]; rfl) (check_ok _ _ ?_ ?_)
            · rw [eta]; exact hv
            · rw [hnil]; exact chk_own v.fKind v.fBool v.fInt v.fText 0 v.fKeys (by omega)
    by_cases h7 : v.fKind = 7
    · exact Ev.congr (fun k => by simp only [list_valueFault.f, e0, h, cond_false, ieq_t h7, cond_true]) (l7 (.inl h7))
    · by_cases h8 : v.fKind = 8
      · refine Ev.congr (fun k => ?_) (l7 (.inr h8))
        simp only [list_valueFault.f, e0, h, cond_false, ieq_f h7, ieq_t h8]
      · refine Ev.congr (fun k => ?_) (l5 (by omega))
        simp only [list_valueFault.f, e0, h, cond_false, ieq_f h7, ieq_f h8]

theorem vf2_ok : ∀ v, wt v ≤ 1048576 → Ev (fun k => list_valuesFault.f k v) (vf (st v)) := tree fun v ih hv => by
  have hv' := hv
  rw [wt_eq] at hv'
  rw [vf_eq]
  refine Ev.step (g := fun k => (list_valueFault.f k v).bind fun y1 => bif !ieq y1 0 then some y1 else list_valuesFault.l0 k v.fItems (llen v.fItems) 0) (fun k => by simp only [list_valuesFault.f, eta]) (Ev.bind (own2_ok v hv) ?_)
  cases h : ieq (own (st v)) 0 with
  | false => exact Ev.now fun _ => rfl
  | true =>
    have : (st v).fItems = sts v.fItems := by rw [st_eq]
    rw [this]
    exact items_list v.fItems (by omega) fun k hk => ih k hk (by have := wt_mem hk; omega)

def chk2 (v : T_api_Value) : Int := bif decide (5000 < nT v) then 4 else bif decide (10 < lv v) then 13 else vf (st v)
theorem item_ok (v : T_api_Value) (hv : wt v ≤ 1048576) : Ev (fun k => list_CheckItem.f k v) (chk2 v) := by
  obtain ⟨r, r1, r2, r3⟩ := count_list v hv
  refine Ev.congr (g := fun k => (list_count.f k v).bind fun y1 => bif ilt 5000 y1 then some 4 else (list_levels.f k v).bind fun y2 => bif ilt 10 y2 then some 13 else (list_valuesFault.f k v).bind fun y3 => some y3) (fun k => by simp only [list_CheckItem.f, eta]) (Ev.bind r1 ?_)
  unfold chk2
  by_cases c : 5000 < nT v
  · rw [ilt_t (show (5000 : Int) < (r : Int) by omega), decide_eq_true c]; exact Ev.now fun _ => rfl
  · rw [ilt_f (show (r : Int) ≤ 5000 by omega), decide_eq_false c]
    refine Ev.bind (levels_list v hv) ?_
    by_cases c2 : 10 < lv v
    · rw [ilt_t (show (10 : Int) < (lv v : Int) by omega), decide_eq_true c2]; exact Ev.now fun _ => rfl
    · rw [ilt_f (show (lv v : Int) ≤ 10 by omega), decide_eq_false c2]
      exact Ev.bind (vf2_ok v hv) (Ev.now fun _ => rfl)
theorem itemR_ok (v : T_api_Value) (hv : wt v ≤ 1048576) : Ev (fun k => mastref2_ItemFault.f k v) (chk2 v) := by
  refine Ev.congr (g := fun k => (mastref2_ValuesOf.f k v).bind fun y1 => bif ilt 5000 y1 then some 4 else (mastref2_LevelsOf.f k v).bind fun y2 => bif ilt 10 y2 then some 13 else (mastref2_settled.f k v).bind fun y3 => (mastref2_eachValue.f k y3).bind fun y4 => some y4) (fun k => by simp only [mastref2_ItemFault.f, eta]) (Ev.bind (values_ok v hv) ?_)
  unfold chk2
  by_cases c : 5000 < nT v
  · rw [ilt_t (show (5000 : Int) < (nT v : Int) by omega), decide_eq_true c]; exact Ev.now fun _ => rfl
  · rw [ilt_f (show (nT v : Int) ≤ 5000 by omega), decide_eq_false c]
    refine Ev.bind (levels_ref v hv) ?_
    by_cases c2 : 10 < lv v
    · rw [ilt_t (show (10 : Int) < (lv v : Int) by omega), decide_eq_true c2]; exact Ev.now fun _ => rfl
    · rw [ilt_f (show (lv v : Int) ≤ 10 by omega), decide_eq_false c2]
      exact Ev.bind (settled_ok v hv) (Ev.bind (vfR_ok (st v) (by rw [st_wt]; exact hv)) (Ev.now fun _ => rfl))

theorem pure_holds : Pure := fun x0 h0 => by
  obtain ⟨D, d1, d2⟩ := h0
  have hw : wt x0 ≤ 1048576 := Nat.le_trans (wt_bulk D x0 d1) d2
  refine (show Ev (fun k => mastlaw2_ListItems.f k x0) true from ?_).get
  exact Ev.congr (g := fun k => (list_CheckItem.f k x0).bind fun y1 => (mastref2_ItemFault.f k x0).bind fun y2 => some (ieq y1 y2)) (fun k => by simp only [mastlaw2_ListItems.f, eta]) (Ev.bind (item_ok x0 hw) (Ev.bind (itemR_ok x0 hw) (Ev.now fun _ => by rw [ieq_self])))

end Go.Proofs.YtdffbjbpolhliaaDoor.LListItems
