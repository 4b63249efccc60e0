/- A value's part at a route is found as the reference says, for values of small bulk. Conditions: none. -/
import Derived.Test.YtibnepagledbjaaGreatDoorLConfGetsOp
import Derived.Lib.SplitLaws
set_option linter.unusedVariables false
set_option linter.unusedSimpArgs false
namespace Go.Proofs.YtibnepagledbjaaGreatDoor.LConfGets
open Go Go.Proofs.YtibnepagledbjaaGreatDoor.Lift

theorem eta (y : T_api_Value) : T_api_Value.mk y.fKind y.fBool y.fInt y.fText y.fItems y.fKeys = y := by cases y; rfl

mutual
/-- How many values. -/
def nT : T_api_Value → Nat
  | ⟨_, _, _, _, is, _⟩ => nTs is + 1
def nTs : List T_api_Value → Nat
  | [] => 0
  | t :: r => nT t + nTs r
end
mutual
/-- How many levels. -/
def lv : T_api_Value → Nat
  | ⟨_, _, _, _, is, _⟩ => lvs is + 1
def lvs : List T_api_Value → Nat
  | [] => 0
  | t :: r => max (lv t) (lvs r)
end
def kz : List ByteArray → Nat
  | [] => 0
  | s :: r => s.size + 1 + kz r
mutual
/-- How much is held. -/
def wt : T_api_Value → Nat
  | ⟨_, _, _, t, is, ks⟩ => t.size + kz ks + wts is + 1
def wts : List T_api_Value → Nat
  | [] => 0
  | t :: r => wt t + wts r
end
theorem nT_eq (t : T_api_Value) : nT t = nTs t.fItems + 1 := by cases t; simp [nT]
theorem lv_eq (t : T_api_Value) : lv t = lvs t.fItems + 1 := by cases t; simp [lv]
theorem wt_eq (t : T_api_Value) : wt t = t.fText.size + kz t.fKeys + wts t.fItems + 1 := by cases t; simp [wt]
theorem wt_pos (t : T_api_Value) : 1 ≤ wt t := by rw [wt_eq]; omega
theorem wt_mem : ∀ {l : List T_api_Value} {t : T_api_Value}, t ∈ l → wt t ≤ wts l
  | a :: l, t, h => by
    simp only [wts]
    rcases List.mem_cons.1 h with rfl | h
    · omega
    · have := wt_mem h; omega
theorem len_le : ∀ l : List T_api_Value, l.length ≤ wts l
  | [] => Nat.zero_le _
  | a :: l => by
    have := len_le l
    have := wt_pos a
    simp only [wts, List.length_cons]; omega
theorem kz_mem : ∀ {l : List ByteArray} {s : ByteArray}, s ∈ l → s.size < kz l
  | a :: l, s, h => by
    simp only [kz]
    rcases List.mem_cons.1 h with rfl | h
    · omega
    · have := kz_mem h; omega
theorem klen_le : ∀ l : List ByteArray, l.length ≤ kz l
  | [] => Nat.zero_le _
  | a :: l => by
    have := klen_le l
    simp only [kz, List.length_cons]; omega
theorem tree {P : T_api_Value → Prop} (h : ∀ t, (∀ k ∈ t.fItems, P k) → P t) : ∀ t, P t := by
  have : ∀ (n : Nat) (t : T_api_Value), wt t ≤ n → P t := by
    intro n
    induction n with
    | zero => intro t ht; have := wt_pos t; omega
    | succ n ih => intro t ht; exact h t fun k hk => ih k (by have := wt_mem hk; rw [wt_eq] at ht; omega)
  exact fun t => this _ t (Nat.le_refl _)
theorem nT_wt : ∀ t, nT t ≤ wt t := tree fun t ih => by
  have : ∀ l : List T_api_Value, (∀ k ∈ l, nT k ≤ wt k) → nTs l ≤ wts l := by
    intro l
    induction l with
    | nil => intro _; exact Nat.zero_le _
    | cons a l ih =>
      intro h
      have h1 := h a (List.mem_cons_self ..)
      have h2 := ih fun k hk => h k (List.mem_cons_of_mem _ hk)
      simp only [nTs, wts]; omega
  have := this t.fItems ih
  rw [nT_eq, wt_eq]; omega
theorem nTs_wts : ∀ l, nTs l ≤ wts l
  | [] => Nat.zero_le _
  | a :: l => by have := nT_wt a; have := nTs_wts l; simp only [nTs, wts]; omega
theorem lv_wt : ∀ t, lv t ≤ wt t := tree fun t ih => by
  have : ∀ l : List T_api_Value, (∀ k ∈ l, lv k ≤ wt k) → lvs l ≤ wts l := by
    intro l
    induction l with
    | nil => intro _; exact Nat.zero_le _
    | cons a l ih =>
      intro h
      have h1 := h a (List.mem_cons_self ..)
      have h2 := ih fun k hk => h k (List.mem_cons_of_mem _ hk)
      simp only [lvs, wts]; omega
  have := this t.fItems ih
  rw [lv_eq, wt_eq]; omega
theorem bulk_str (D : Nat) (s : ByteArray) : bulk ctx D .str s = s.size + 1 := by cases D <;> rfl
theorem wt_bulk : ∀ (D : Nat) (t : T_api_Value), good ctx D (.st 0) t → wt t ≤ bulk ctx D (.st 0) t
  | 0, t, h => h.1.elim
  | 1, t, h => by
    have hi : t.fItems = [] := List.eq_nil_iff_forall_not_mem.2 fun k hk => h.2.2.2.2.1.2.2 k hk
    have hk : t.fKeys = [] := List.eq_nil_iff_forall_not_mem.2 fun k hk => h.2.2.2.2.2.2.2 k hk
    rw [wt_eq, hi, hk]
    show t.fText.size + 0 + 0 + 1 ≤ 1 + (1 + (1 + ((t.fText.size + 1) + ((((t.fItems.map fun _ => 0).sum + 1)) + (((t.fKeys.map fun _ => 0).sum + 1) + 0))))) + 1
    omega
  | D + 2, t, h => by
    have hi : ∀ k ∈ t.fItems, wt k ≤ bulk ctx D (.st 0) k := fun k hk => wt_bulk D k (h.2.2.2.2.1.2.2 k hk)
    have hs : ∀ l : List T_api_Value, (∀ k ∈ l, wt k ≤ bulk ctx D (.st 0) k) → wts l ≤ (l.map (bulk ctx D (.st 0))).sum := by
      intro l
      induction l with
      | nil => intro _; exact Nat.zero_le _
      | cons a l ih =>
        intro h
        have h1 := h a (List.mem_cons_self ..)
        have h2 := ih fun k hk => h k (List.mem_cons_of_mem _ hk)
        simp only [wts, List.map_cons, List.sum_cons]
        exact Nat.add_le_add h1 h2
    have hz : ∀ l : List ByteArray, kz l = (l.map (bulk ctx D .str)).sum := by
      intro l
      induction l with
      | nil => rfl
      | cons a l ih => simp only [kz, ih, List.map_cons, List.sum_cons, bulk_str]
    have h1 := hs t.fItems hi
    have h2 := hz t.fKeys
    rw [wt_eq, h2]
    show _ ≤ 1 + (1 + (1 + ((t.fText.size + 1) + (((t.fItems.map (bulk ctx D (.st 0))).sum + 1) + (((t.fKeys.map (bulk ctx D .str)).sum + 1) + 0))))) + 1
    omega

/-! How many values, how many levels. -/
theorem count_loop_conf (l : List T_api_Value) (hl : wts l ≤ 1048576) (ih : ∀ k ∈ l, ∃ r : Nat, Ev (fun f => conf_count.f f k) (r : Int) ∧ r ≤ nT k ∧ (1000 < r ∨ r = nT k)) : ∀ (d j a : Nat), l.length - j ≤ d → j ≤ l.length → a + nTs (l.drop j) ≤ 1048577 →
    ∃ r : Nat, Ev (fun f => conf_count.l0 f (a : Int) l (llen l) (j : Int)) (r : Int) ∧ r ≤ a + nTs (l.drop j) ∧ (1000 < r ∨ r = a + nTs (l.drop j)) := by
  have hlen := len_le l
  have fin : ∀ j a : Nat, l.length ≤ j → ∃ r : Nat, Ev (fun f => conf_count.l0 f (a : Int) l (llen l) (j : Int)) (r : Int) ∧ r ≤ a + nTs (l.drop j) ∧ (1000 < r ∨ r = a + nTs (l.drop j)) := fun j a h => by
    refine ⟨a, Ev.step (g := fun _ => some (a : Int)) (fun k => ?_) (Ev.now fun _ => rfl), by omega, ?_⟩
    · simp only [conf_count.l0, llen_eq, ilt_f (show (l.length : Int) ≤ (j : Int) by omega), cond_false]
    · rw [List.drop_eq_nil_of_le h]; simp [nTs]
  intro d
  induction d with
  | zero => intro j a hd hj hb; exact fin j a (by omega)
  | succ d ihd =>
    intro j a hd hj hb
    rcases Nat.lt_or_ge j l.length with hlt | hge
    · rw [List.drop_eq_getElem_cons hlt] at hb ⊢
      simp only [nTs] at hb ⊢
      by_cases ha : 1000 < a
      · refine ⟨a, Ev.step (g := fun _ => some (a : Int)) (fun k => ?_) (Ev.now fun _ => rfl), by omega, .inl ha⟩
        simp only [conf_count.l0, llen_eq, ilt_t (show (j : Int) < (l.length : Int) by omega), cond_true, lat_lt hlt, Option.bind_some, ilt_t (show (1000 : Int) < (a : Int) by omega)]
      · obtain ⟨r, r1, r2, r3⟩ := ih _ (List.getElem_mem hlt)
        obtain ⟨q, q1, q2, q3⟩ := ihd (j + 1) (a + r) (by omega) hlt (by omega)
        have w : wadd .i64 (a : Int) (r : Int) = ((a + r : Nat) : Int) := by rw [wadd64 (by omega) (by omega)]; omega
        refine ⟨q, Ev.step (g := fun k => (conf_count.f k l[j]).bind fun y2 => conf_count.l0 k (wadd .i64 (a : Int) y2) l (llen l) ((j + 1 : Nat) : Int)) (fun k => ?_) (Ev.bind r1 (by rw [w]; exact q1)), by omega, by omega⟩
        simp only [conf_count.l0, llen_eq, ilt_t (show (j : Int) < (l.length : Int) by omega), cond_true, lat_lt hlt, Option.bind_some, ilt_f (show (a : Int) ≤ 1000 by omega), cond_false, eta, u0 (show j ≤ 4611686018427387904 by omega)]
    · exact fin j a hge
theorem count_conf : ∀ t, wt t ≤ 1048576 → ∃ r : Nat, Ev (fun f => conf_count.f f t) (r : Int) ∧ r ≤ nT t ∧ (1000 < r ∨ r = nT t) := tree fun t ih hn => by
  have h0 := nTs_wts t.fItems
  rw [wt_eq] at hn
  obtain ⟨r, r1, r2, r3⟩ := count_loop_conf t.fItems (by omega) (fun k hk => ih k hk (by have := wt_mem hk; omega)) t.fItems.length 0 1 (by omega) (by omega) (by rw [List.drop_zero]; omega)
  rw [List.drop_zero] at r2 r3
  rw [nT_eq]
  exact ⟨r, Ev.step (fun k => by simp only [conf_count.f]; rfl) r1, by omega, by omega⟩

theorem both_loop (l : List T_api_Value) (hl : wts l ≤ 1048576) (ih : ∀ k ∈ l, Ev (fun f => mastref2_ValuesOf.f f k) (nT k : Int)) : ∀ (d j a : Nat), l.length - j ≤ d → j ≤ l.length → a + nTs (l.drop j) ≤ 1048577 →
    Ev (fun f => mastref2_ValuesOf.l0 f (a : Int) l (llen l) (j : Int)) ((a + nTs (l.drop j) : Nat) : Int) := by
  have hlen := len_le l
  have fin : ∀ j a : Nat, l.length ≤ j → Ev (fun f => mastref2_ValuesOf.l0 f (a : Int) l (llen l) (j : Int)) ((a + nTs (l.drop j) : Nat) : Int) := fun j a h => by
    rw [List.drop_eq_nil_of_le h]
    refine Ev.step (g := fun _ => some (a : Int)) (fun k => ?_) (Ev.now fun _ => by simp [nTs])
    simp only [mastref2_ValuesOf.l0, llen_eq, ilt_f (show (l.length : Int) ≤ (j : Int) by omega), cond_false]
  intro d
  induction d with
  | zero => intro j a hd hj hb; exact fin j a (by omega)
  | succ d ihd =>
    intro j a hd hj hb
    rcases Nat.lt_or_ge j l.length with hlt | hge
    · rw [List.drop_eq_getElem_cons hlt] at hb ⊢
      simp only [nTs] at hb ⊢
      have q1 := ihd (j + 1) (a + nT l[j]) (by omega) hlt (by omega)
      have w : wadd .i64 (a : Int) (nT l[j] : Int) = ((a + nT l[j] : Nat) : Int) := by rw [wadd64 (by omega) (by omega)]; omega
      rw [show a + (nT l[j] + nTs (l.drop (j + 1))) = a + nT l[j] + nTs (l.drop (j + 1)) by omega]
      refine Ev.step (g := fun k => (mastref2_ValuesOf.f k l[j]).bind fun y2 => mastref2_ValuesOf.l0 k (wadd .i64 (a : Int) y2) l (llen l) ((j + 1 : Nat) : Int)) (fun k => ?_) (Ev.bind (ih _ (List.getElem_mem hlt)) (by rw [w]; exact q1))
      simp only [mastref2_ValuesOf.l0, llen_eq, ilt_t (show (j : Int) < (l.length : Int) by omega), cond_true, lat_lt hlt, Option.bind_some, eta, u0 (show j ≤ 4611686018427387904 by omega)]
    · exact fin j a hge
theorem values_ok : ∀ t, wt t ≤ 1048576 → Ev (fun f => mastref2_ValuesOf.f f t) (nT t : Int) := tree fun t ih hn => by
  have h0 := nTs_wts t.fItems
  rw [wt_eq] at hn
  have := both_loop t.fItems (by omega) (fun k hk => ih k hk (by have := wt_mem hk; omega)) t.fItems.length 0 1 (by omega) (by omega) (by rw [List.drop_zero]; omega)
  rw [List.drop_zero, Nat.add_comm 1] at this
  rw [nT_eq]
  exact Ev.step (fun k => by simp only [mastref2_ValuesOf.f]; rfl) this
theorem levels_loop_conf (l : List T_api_Value) (hl : wts l ≤ 1048576) (ih : ∀ k ∈ l, Ev (fun f => conf_levels.f f k) (lv k : Int)) : ∀ (d j a : Nat), l.length - j ≤ d → j ≤ l.length → a ≤ 1048576 →
    Ev (fun f => conf_levels.l0 f (a : Int) l (llen l) (j : Int)) ((max a (lvs (l.drop j)) + 1 : Nat) : Int) := by
  have hlen := len_le l
  have hlv := fun k (hk : k ∈ l) => (show lv k ≤ 1048576 by have h1 := wt_mem hk; have h2 := lv_wt k; omega)
  have fin : ∀ j a : Nat, l.length ≤ j → a ≤ 1048576 → Ev (fun f => conf_levels.l0 f (a : Int) l (llen l) (j : Int)) ((max a (lvs (l.drop j)) + 1 : Nat) : Int) := fun j a h ha => by
    rw [List.drop_eq_nil_of_le h]
    refine Ev.step (g := fun _ => some ((max a (lvs []) + 1 : Nat) : Int)) (fun k => ?_) (Ev.now fun _ => rfl)
    simp only [conf_levels.l0, llen_eq, ilt_f (show (l.length : Int) ≤ (j : Int) by omega), cond_false, lvs, u0 (show a ≤ 4611686018427387904 by omega)]
    simp
  intro d
  induction d with
  | zero => intro j a hd hj ha; exact fin j a (by omega) ha
  | succ d ihd =>
    intro j a hd hj ha
    rcases Nat.lt_or_ge j l.length with hlt | hge
    · rw [List.drop_eq_getElem_cons hlt]
      have hk := hlv _ (List.getElem_mem hlt)
      have := ihd (j + 1) (max a (lv l[j])) (by omega) hlt (by omega)
      rw [show max (max a (lv l[j])) (lvs (l.drop (j + 1))) = max a (lvs (l[j] :: l.drop (j + 1))) by simp only [lvs]; omega] at this
      refine Ev.step (g := fun k => (conf_levels.f k l[j]).bind fun y2 => conf_levels.l0 k (imax (a : Int) y2) l (llen l) ((j + 1 : Nat) : Int)) (fun k => ?_) (Ev.bind (ih _ (List.getElem_mem hlt)) (by rw [imax_nat]; exact this))
      simp only [conf_levels.l0, llen_eq, ilt_t (show (j : Int) < (l.length : Int) by omega), cond_true, lat_lt hlt, Option.bind_some, eta, u0 (show j ≤ 4611686018427387904 by omega)]
    · exact fin j a hge ha
theorem levels_conf : ∀ t, wt t ≤ 1048576 → Ev (fun f => conf_levels.f f t) (lv t : Int) := tree fun t ih hn => by
  rw [wt_eq] at hn
  have := levels_loop_conf t.fItems (by omega) (fun k hk => ih k hk (by have := wt_mem hk; omega)) t.fItems.length 0 0 (by omega) (by omega) (by omega)
  rw [List.drop_zero, Nat.zero_max] at this
  rw [lv_eq]
  exact Ev.step (fun k => by simp only [conf_levels.f]; rfl) this

theorem levels_loop_ref (l : List T_api_Value) (hl : wts l ≤ 1048576) (ih : ∀ k ∈ l, Ev (fun f => mastref2_LevelsOf.f f k) (lv k : Int)) : ∀ (d j a : Nat), l.length - j ≤ d → j ≤ l.length → a ≤ 1048576 →
    Ev (fun f => mastref2_LevelsOf.l0 f (a : Int) l (llen l) (j : Int)) ((max a (lvs (l.drop j)) + 1 : Nat) : Int) := by
  have hlen := len_le l
  have hlv := fun k (hk : k ∈ l) => (show lv k ≤ 1048576 by have h1 := wt_mem hk; have h2 := lv_wt k; omega)
  have fin : ∀ j a : Nat, l.length ≤ j → a ≤ 1048576 → Ev (fun f => mastref2_LevelsOf.l0 f (a : Int) l (llen l) (j : Int)) ((max a (lvs (l.drop j)) + 1 : Nat) : Int) := fun j a h ha => by
    rw [List.drop_eq_nil_of_le h]
    refine Ev.step (g := fun _ => some ((max a (lvs []) + 1 : Nat) : Int)) (fun k => ?_) (Ev.now fun _ => rfl)
    simp only [mastref2_LevelsOf.l0, llen_eq, ilt_f (show (l.length : Int) ≤ (j : Int) by omega), cond_false, lvs, u0 (show a ≤ 4611686018427387904 by omega)]
    simp
  intro d
  induction d with
  | zero => intro j a hd hj ha; exact fin j a (by omega) ha
  | succ d ihd =>
    intro j a hd hj ha
    rcases Nat.lt_or_ge j l.length with hlt | hge
    · rw [List.drop_eq_getElem_cons hlt]
      have hk := hlv _ (List.getElem_mem hlt)
      have := ihd (j + 1) (max a (lv l[j])) (by omega) hlt (by omega)
      rw [show max (max a (lv l[j])) (lvs (l.drop (j + 1))) = max a (lvs (l[j] :: l.drop (j + 1))) by simp only [lvs]; omega] at this
      refine Ev.step (g := fun k => (mastref2_LevelsOf.f k l[j]).bind fun y2 => mastref2_LevelsOf.l0 k (imax (a : Int) y2) l (llen l) ((j + 1 : Nat) : Int)) (fun k => ?_) (Ev.bind (ih _ (List.getElem_mem hlt)) (by rw [imax_nat]; exact this))
      simp only [mastref2_LevelsOf.l0, llen_eq, ilt_t (show (j : Int) < (l.length : Int) by omega), cond_true, lat_lt hlt, Option.bind_some, eta, u0 (show j ≤ 4611686018427387904 by omega)]
    · exact fin j a hge ha
theorem levels_ref : ∀ t, wt t ≤ 1048576 → Ev (fun f => mastref2_LevelsOf.f f t) (lv t : Int) := tree fun t ih hn => by
  rw [wt_eq] at hn
  have := levels_loop_ref t.fItems (by omega) (fun k hk => ih k hk (by have := wt_mem hk; omega)) t.fItems.length 0 0 (by omega) (by omega) (by omega)
  rw [List.drop_zero, Nat.zero_max] at this
  rw [lv_eq]
  exact Ev.step (fun k => by simp only [mastref2_LevelsOf.f]; rfl) this


/-! Bad bytes. -/
def badB (b : UInt8) : Bool := ilt (b.toNat : Int) 32 && (!ieq (b.toNat : Int) 9 && !ieq (b.toNat : Int) 10)
def bad (s : ByteArray) : Bool := s.data.toList.any badB
theorem bad_conf (s : ByteArray) (hs : s.size ≤ 2000000) : Ev (fun k => conf_badBytes.f k s) (bad s) := by
  have hl := size_l s
  have h := find_pure s.data.toList 0 (Nat.zero_le _) (fun k j => conf_badBytes.l0 k s (j : Int)) (fun _ => some false) badB (fun _ => true) false
    (fun k j h => by
      simp only [conf_badBytes.l0, slen_l, ilen _ _ h, cond_true, sat_l h, Option.bind_some, u0 (show j ≤ 4611686018427387904 by omega), badB]
      cases ilt (s.data.toList[j].toNat : Int) 32 <;> cases ieq (s.data.toList[j].toNat : Int) 9 <;> cases ieq (s.data.toList[j].toNat : Int) 10 <;> rfl)
    (fun k => by simp only [conf_badBytes.l0, slen_l, ilen', cond_false]) (Ev.now fun _ => rfl)
  rw [List.drop_zero, fl_const] at h
  refine Ev.congr (fun k => by simp only [conf_badBytes.f]; rfl) (show Ev _ (bad s) from ?_)
  unfold bad
  rw [show (s.data.toList.any badB) = (bif s.data.toList.any badB then true else false) by cases s.data.toList.any badB <;> rfl]
  exact h

theorem bad_ref (s : ByteArray) (hs : s.size ≤ 2000000) : Ev (fun k => mastref2_badByte.f k s) (bad s) := by
  have hl := size_l s
  have h := find_pure s.data.toList 0 (Nat.zero_le _) (fun k j => mastref2_badByte.l0 k s (j : Int)) (fun _ => some false) badB (fun _ => true) false
    (fun k j h => by
      simp only [mastref2_badByte.l0, slen_l, ilen _ _ h, cond_true, sat_l h, Option.bind_some, u0 (show j ≤ 4611686018427387904 by omega), badB]
      cases ilt (s.data.toList[j].toNat : Int) 32 <;> cases ieq (s.data.toList[j].toNat : Int) 9 <;> cases ieq (s.data.toList[j].toNat : Int) 10 <;> rfl)
    (fun k => by simp only [mastref2_badByte.l0, slen_l, ilen', cond_false]) (Ev.now fun _ => rfl)
  rw [List.drop_zero, fl_const] at h
  refine Ev.congr (fun k => by simp only [mastref2_badByte.f]; rfl) (show Ev _ (bad s) from ?_)
  unfold bad
  rw [show (s.data.toList.any badB) = (bif s.data.toList.any badB then true else false) by cases s.data.toList.any badB <;> rfl]
  exact h


/-! Keys. -/
def small (c : UInt8) : Bool := bif ile 97 (c.toNat : Int) then ile (c.toNat : Int) 122 else false
def ins (c : UInt8) : Bool := small c || (bif ile 48 (c.toNat : Int) then ile (c.toNat : Int) 57 else false) || ieq (c.toNat : Int) 45 || ieq (c.toNat : Int) 95
def keyL : List UInt8 → Bool
  | [] => false
  | c :: r => decide (r.length < 40) && small c && r.all ins
def key (s : ByteArray) : Bool := keyL s.data.toList
theorem seq_empty (s : ByteArray) : seq s c_empty = s.data.toList.isEmpty := by
  unfold seq
  rw [ByteArray.toList_eq, ByteArray.toList_eq]
  cases h : s.data.toList <;> rfl
theorem all_ins (r : List UInt8) : (bif r.any fun c => !ins c then false else true) = r.all ins := by
  rw [List.all_eq_not_any_not]
  cases r.any fun c => !ins c <;> rfl
theorem key_conf (s : ByteArray) : Ev (fun k => conf_isKey.f k s) (key s) := by
  cases h : s.data.toList with
  | nil => exact Ev.now fun k => by simp only [conf_isKey.f, seq_empty, h, key, keyL, List.isEmpty_nil, cond_true]
  | cons c r =>
    by_cases hl : r.length < 40
    · have hl' : s.data.toList.length ≤ 40 := by rw [h]; simp; omega
      cases hc : small c with
      | false =>
        refine Ev.now fun k => ?_
        simp only [conf_isKey.f, seq_empty, h, key, keyL, List.isEmpty_cons, cond_false, slen_l, ilt_f (show ((c :: r).length : Int) ≤ 40 by rw [← h]; omega), sat_0 h, Option.bind_some, conf_isSmall.f, hc, Bool.and_false, Bool.false_and]
        rw [show (bif ile 97 (c.toNat : Int) then ile (c.toNat : Int) 122 else false) = small c from rfl, hc]
        rfl
      | true =>
        have q := find_pure s.data.toList 1 (by rw [h]; simp) (fun k j => conf_isKey.l0 k s (j : Int)) (fun _ => some true) (fun c => !ins c) (fun _ => false) true
          (fun k j h => by
            simp only [conf_isKey.l0, slen_l, ilen _ _ h, cond_true, sat_l h, Option.bind_some, u0 (show j ≤ 4611686018427387904 by omega), conf_isSmall.f, conf_isDigit.f, ins, small]
            cases (bif ile 97 (s.data.toList[j].toNat : Int) then ile (s.data.toList[j].toNat : Int) 122 else false) <;> cases (bif ile 48 (s.data.toList[j].toNat : Int) then ile (s.data.toList[j].toNat : Int) 57 else false) <;> cases ieq (s.data.toList[j].toNat : Int) 45 <;> cases ieq (s.data.toList[j].toNat : Int) 95 <;> rfl)
          (fun k => by simp only [conf_isKey.l0, slen_l, ilen', cond_false]) (Ev.now fun _ => rfl)
        rw [fl_const, h, List.drop_succ_cons, List.drop_zero, all_ins] at q
        have e : key s = r.all ins := by unfold key; rw [h]; simp [keyL, hl, hc]
        rw [e]
        refine Ev.congr (fun k => ?_) q
        simp only [conf_isKey.f, seq_empty, h, List.isEmpty_cons, cond_false, slen_l, ilt_f (show ((c :: r).length : Int) ≤ 40 by rw [← h]; omega), sat_0 h, Option.bind_some, conf_isSmall.f]
        rw [show (bif ile 97 (c.toNat : Int) then ile (c.toNat : Int) 122 else false) = small c from rfl, hc]
        rfl
    · refine Ev.now fun k => ?_
      simp only [conf_isKey.f, seq_empty, h, key, keyL, List.isEmpty_cons, cond_false, slen_l, ilt_t (show (40 : Int) < ((c :: r).length : Int) by simp; omega), cond_true, decide_eq_false hl, Bool.false_and]

theorem mem_dw {α : Type} {p : α → Bool} : ∀ {l : List α} {x : α}, x ∈ l → p x = false → x ∈ l.dropWhile p
  | a :: l, x, h, hp => by
    rw [List.dropWhile_cons]
    split
    · rename_i ha
      rcases List.mem_cons.1 h with rfl | h
      · rw [hp] at ha; cases ha
      · exact mem_dw h hp
    · exact h
theorem dw_nil {α : Type} {p : α → Bool} : ∀ {l : List α}, (∀ x ∈ l, p x = true) → l.dropWhile p = []
  | [], _ => rfl
  | a :: l, h => by rw [List.dropWhile_cons, if_pos (h a (List.mem_cons_self ..))]; exact dw_nil fun x hx => h x (List.mem_cons_of_mem _ hx)
theorem trim_nil (l cs : List UInt8) : (Lib.trimS l cs).isEmpty = l.all (cs.contains ·) := by
  unfold Lib.trimS Lib.trimLeftS Lib.trimRightS
  cases h : l.all (cs.contains ·) with
  | true =>
    have h := List.all_eq_true.1 h
    rw [dw_nil (l := l.reverse) fun x hx => h x (List.mem_reverse.1 hx)]
    rfl
  | false =>
    obtain ⟨x, hx, hp⟩ : ∃ x ∈ l, cs.contains x = false := by
      rcases List.all_eq_false.1 h with ⟨x, hx, hp⟩
      exact ⟨x, hx, by simpa using hp⟩
    have h1 : x ∈ (l.reverse.dropWhile (cs.contains ·)).reverse := List.mem_reverse.2 (mem_dw (List.mem_reverse.2 hx) hp)
    have h2 := mem_dw h1 hp
    cases e : List.dropWhile (cs.contains ·) (l.reverse.dropWhile (cs.contains ·)).reverse with
    | nil => rw [e] at h2; cases h2
    | cons _ _ => rfl
theorem set_ins (c : UInt8) : c_abcdefghijklmnopqrst_0e2e2cf4.data.toList.contains c = ins c := by
  have h : ∀ n : Fin 256, c_abcdefghijklmnopqrst_0e2e2cf4.data.toList.contains (UInt8.ofNat n.val) = ins (UInt8.ofNat n.val) := by decide +kernel
  have := h ⟨c.toNat, c.toNat_lt⟩
  simpa using this
theorem keyR_ok (s : ByteArray) (hs : s.size ≤ 2000000) : mastref2_IsKey.f s = some (key s) := by
  unfold mastref2_IsKey.f key
  rw [seq_empty, slen_l]
  have hc : strings_Trim.f s c_abcdefghijklmnopqrst_0e2e2cf4 = some ⟨(Lib.trimS s.data.toList c_abcdefghijklmnopqrst_0e2e2cf4.data.toList).toArray⟩ := by
    unfold strings_Trim.f
    rw [if_pos ⟨by omega, by decide, by decide +kernel⟩]
  rw [hc]
  cases h : s.data.toList with
  | nil => simp [keyL]
  | cons c r =>
    simp only [List.isEmpty_cons, cond_false, sat_0 h, Option.bind_some, keyL]
    by_cases hl : r.length < 40
    · rw [ilt_f (show ((c :: r).length : Int) ≤ 40 by simp; omega), cond_false, decide_eq_true hl, Bool.true_and]
      unfold small
      rw [ilt_d, ilt_d, ile_d, ile_d]
      by_cases h1 : (c.toNat : Int) < 97
      · simp [h1, show ¬ (97 : Int) ≤ c.toNat by omega]
      · by_cases h2 : (122 : Int) < c.toNat
        · simp [h1, h2, show ¬ (c.toNat : Int) ≤ 122 by omega]
        · rw [decide_eq_false h1, decide_eq_false h2, decide_eq_true (show (97 : Int) ≤ c.toNat by omega), decide_eq_true (show (c.toNat : Int) ≤ 122 by omega)]
          simp only [cond_false, cond_true, Bool.true_and]
          rw [seq_empty]
          show some (Lib.trimS (c :: r) _).isEmpty = _
          rw [trim_nil, show (fun x => c_abcdefghijklmnopqrst_0e2e2cf4.data.toList.contains x) = ins from funext set_ins, List.all_cons]
          have : ins c = true := by
            unfold ins small
            rw [ile_t (show (97 : Int) ≤ c.toNat by omega), ile_t (show (c.toNat : Int) ≤ 122 by omega)]
            rfl
          rw [this]; rfl
    · rw [ilt_t (show (40 : Int) < ((c :: r).length : Int) by simp; omega), cond_true, decide_eq_false hl]
      rfl

/-- What is wrong with the keys. -/
def ks : Option ByteArray → List ByteArray → Int
  | _, [] => 0
  | p, x :: r => bif !key x then 12 else bif (match p with | none => false | some y => sle x y) then 5 else ks (some x) r
def prev (l : List ByteArray) : Nat → Option ByteArray
  | 0 => none
  | j + 1 => l[j]?
theorem prev_succ {l : List ByteArray} {j : Nat} (h : j < l.length) : prev l (j + 1) = some l[j] := List.getElem?_eq_getElem h
theorem keys_loop_conf (k0 : Int) (b0 : Bool) (i0 : Int) (t0 : ByteArray) (is0 : List T_api_Value) (l : List ByteArray) (hl : kz l ≤ 1048576) : ∀ (d j : Nat), l.length - j ≤ d → j ≤ l.length →
    Ev (fun k => conf_valueFault.l1 k k0 b0 i0 t0 is0 l l (llen l) (j : Int)) (ks (prev l j) (l.drop j)) := by
  have hlen := klen_le l
  intro d
  have fin : ∀ j : Nat, l.length ≤ j → Ev (fun k => conf_valueFault.l1 k k0 b0 i0 t0 is0 l l (llen l) (j : Int)) (ks (prev l j) (l.drop j)) := fun j h => by
    rw [List.drop_eq_nil_of_le h]
    refine Ev.step (fun k => ?_) (show Ev (fun _ => some 0) (ks (prev l j) []) from Ev.now fun _ => rfl)
    simp only [conf_valueFault.l1, llen_eq, ilt_f (show (l.length : Int) ≤ (j : Int) by omega), cond_false]
  induction d with
  | zero => intro j hd hj; exact fin j (by omega)
  | succ d ihd =>
    intro j hd hj
    rcases Nat.lt_or_ge j l.length with hlt | hge
    · rw [List.drop_eq_getElem_cons hlt]
      have hr := ihd (j + 1) (by omega) hlt
      rw [prev_succ hlt] at hr
      have hkz := kz_mem (List.getElem_mem hlt)
      cases hk : key l[j] with
      | false =>
        refine Ev.step (fun k => by simp only [conf_valueFault.l1, llen_eq, ilt_t (show (j : Int) < (l.length : Int) by omega), cond_true, lat_lt hlt, Option.bind_some]; rfl) (Ev.bind (key_conf l[j]) ?_)
        rw [hk]
        exact Ev.now fun _ => by simp [ks, hk]
      | true =>
        cases j with
        | zero =>
          have e : ks (prev l 0) (l[0] :: l.drop 1) = ks (some l[0]) (l.drop 1) := by simp [ks, hk, prev]
          rw [e]
          refine Ev.step (fun k => by simp only [conf_valueFault.l1, llen_eq, ilt_t (show ((0 : Nat) : Int) < (l.length : Int) by omega), cond_true, lat_lt hlt, Option.bind_some]; rfl) (Ev.bind (key_conf l[0]) ?_)
          rw [hk]
          simp only [Bool.not_true, cond_false, ilt_f (show ((0 : Nat) : Int) ≤ 0 by omega), u0 (show 0 ≤ 4611686018427387904 by omega)]
          exact hr
        | succ i =>
          have hi : i < l.length := by omega
          have w : wsub .i64 ((i + 1 : Nat) : Int) 1 = (i : Int) := by rw [wsub64 (by omega) (by omega)]; omega
          rw [prev_succ hi]
          cases hle : sle l[i + 1] l[i] with
          | true =>
            have e : ks (some l[i]) (l[i + 1] :: l.drop (i + 1 + 1)) = 5 := by simp [ks, hk, hle]
            rw [e]
            refine Ev.step (fun k => by simp only [conf_valueFault.l1, llen_eq, ilt_t (show ((i + 1 : Nat) : Int) < (l.length : Int) by omega), cond_true, lat_lt hlt, Option.bind_some]; rfl) (Ev.bind (key_conf l[i + 1]) ?_)
            rw [hk]
            simp only [Bool.not_true, cond_false, ilt_t (show (0 : Int) < ((i + 1 : Nat) : Int) by omega), cond_true, w, lat_lt hi, Option.bind_some, hle, u0 (show i + 1 ≤ 4611686018427387904 by omega)]
            exact Ev.now fun _ => rfl
          | false =>
            have e : ks (some l[i]) (l[i + 1] :: l.drop (i + 1 + 1)) = ks (some l[i + 1]) (l.drop (i + 1 + 1)) := by simp [ks, hk, hle]
            rw [e]
            refine Ev.step (fun k => by simp only [conf_valueFault.l1, llen_eq, ilt_t (show ((i + 1 : Nat) : Int) < (l.length : Int) by omega), cond_true, lat_lt hlt, Option.bind_some]; rfl) (Ev.bind (key_conf l[i + 1]) ?_)
            rw [hk]
            simp only [Bool.not_true, cond_false, ilt_t (show (0 : Int) < ((i + 1 : Nat) : Int) by omega), cond_true, w, lat_lt hi, Option.bind_some, hle, u0 (show i + 1 ≤ 4611686018427387904 by omega)]
            exact hr
    · exact fin j hge
theorem keys_conf (k0 : Int) (b0 : Bool) (i0 : Int) (t0 : ByteArray) (is0 : List T_api_Value) (l : List ByteArray) (hl : kz l ≤ 1048576) : Ev (fun k => conf_valueFault.l1 k k0 b0 i0 t0 is0 l l (llen l) 0) (ks none l) := by
  have := keys_loop_conf k0 b0 i0 t0 is0 l hl  l.length 0 (by omega) (by omega)
  rw [List.drop_zero] at this
  exact this

theorem keys_loop_ref (k0 : Int) (b0 : Bool) (i0 : Int) (t0 : ByteArray) (is0 : List T_api_Value) (l : List ByteArray) (hl : kz l ≤ 1048576) (e : Int) (he : Ev (fun k => mastref2_eachValue.l1 k is0 (llen is0) 0) e) : ∀ (d j : Nat), l.length - j ≤ d → j ≤ l.length →
    Ev (fun k => mastref2_eachValue.l0 k k0 b0 i0 t0 is0 l l (llen l) (j : Int)) (bif ieq (ks (prev l j) (l.drop j)) 0 then e else ks (prev l j) (l.drop j)) := by
  have hlen := klen_le l
  intro d
  have fin : ∀ j : Nat, l.length ≤ j → Ev (fun k => mastref2_eachValue.l0 k k0 b0 i0 t0 is0 l l (llen l) (j : Int)) (bif ieq (ks (prev l j) (l.drop j)) 0 then e else ks (prev l j) (l.drop j)) := fun j h => by
    rw [List.drop_eq_nil_of_le h]
    refine Ev.step (fun k => ?_) (show Ev (fun k => mastref2_eachValue.l1 k is0 (llen is0) 0) (bif ieq (ks (prev l j) []) 0 then e else ks (prev l j) []) from he)
    simp only [mastref2_eachValue.l0, llen_eq, ilt_f (show (l.length : Int) ≤ (j : Int) by omega), cond_false]
  induction d with
  | zero => intro j hd hj; exact fin j (by omega)
  | succ d ihd =>
    intro j hd hj
    rcases Nat.lt_or_ge j l.length with hlt | hge
    · rw [List.drop_eq_getElem_cons hlt]
      have hr := ihd (j + 1) (by omega) hlt
      rw [prev_succ hlt] at hr
      have hkz := kz_mem (List.getElem_mem hlt)
      cases hk : key l[j] with
      | false =>
        refine Ev.step (g := fun _ => some 12) (fun k => ?_) (Ev.now fun _ => by simp [ks, hk, ieq])
        simp only [mastref2_eachValue.l0, llen_eq, ilt_t (show (j : Int) < (l.length : Int) by omega), cond_true, lat_lt hlt, Option.bind_some, keyR_ok l[j] (by omega), hk, Bool.not_false]
      | true =>
        cases j with
        | zero =>
          have e : ks (prev l 0) (l[0] :: l.drop 1) = ks (some l[0]) (l.drop 1) := by simp [ks, hk, prev]
          rw [e]
          refine Ev.step (fun k => ?_) hr
          simp only [mastref2_eachValue.l0, llen_eq, ilt_t (show ((0 : Nat) : Int) < (l.length : Int) by omega), cond_true, lat_lt hlt, Option.bind_some, keyR_ok l[0] (by omega), hk, Bool.not_true, cond_false, ilt_f (show ((0 : Nat) : Int) ≤ 0 by omega), u0 (show 0 ≤ 4611686018427387904 by omega)]
        | succ i =>
          have hi : i < l.length := by omega
          have w : wsub .i64 ((i + 1 : Nat) : Int) 1 = (i : Int) := by rw [wsub64 (by omega) (by omega)]; omega
          rw [prev_succ hi]
          cases hle : sle l[i + 1] l[i] with
          | true =>
            have e : ks (some l[i]) (l[i + 1] :: l.drop (i + 1 + 1)) = 5 := by simp [ks, hk, hle]
            rw [e]
            refine Ev.step (g := fun _ => some 5) (fun k => ?_) (Ev.now fun _ => rfl)
            simp only [mastref2_eachValue.l0, llen_eq, ilt_t (show ((i + 1 : Nat) : Int) < (l.length : Int) by omega), cond_true, lat_lt hlt, Option.bind_some, keyR_ok l[i + 1] (by omega), hk, Bool.not_true, cond_false, ilt_t (show (0 : Int) < ((i + 1 : Nat) : Int) by omega), w, lat_lt hi, hle, u0 (show i + 1 ≤ 4611686018427387904 by omega)]
          | false =>
            have e : ks (some l[i]) (l[i + 1] :: l.drop (i + 1 + 1)) = ks (some l[i + 1]) (l.drop (i + 1 + 1)) := by simp [ks, hk, hle]
            rw [e]
            refine Ev.step (fun k => ?_) hr
            simp only [mastref2_eachValue.l0, llen_eq, ilt_t (show ((i + 1 : Nat) : Int) < (l.length : Int) by omega), cond_true, lat_lt hlt, Option.bind_some, keyR_ok l[i + 1] (by omega), hk, Bool.not_true, cond_false, ilt_t (show (0 : Int) < ((i + 1 : Nat) : Int) by omega), w, lat_lt hi, hle, u0 (show i + 1 ≤ 4611686018427387904 by omega)]
    · exact fin j hge
theorem keys_ref (k0 : Int) (b0 : Bool) (i0 : Int) (t0 : ByteArray) (is0 : List T_api_Value) (l : List ByteArray) (hl : kz l ≤ 1048576) (e : Int) (he : Ev (fun k => mastref2_eachValue.l1 k is0 (llen is0) 0) e) : Ev (fun k => mastref2_eachValue.l0 k k0 b0 i0 t0 is0 l l (llen l) 0) (bif ieq (ks none l) 0 then e else ks (none) (l)) := by
  have := keys_loop_ref k0 b0 i0 t0 is0 l hl e he l.length 0 (by omega) (by omega)
  rw [List.drop_zero] at this
  exact this


/-! One value. -/
def un (v : T_api_Value) : Bool := (v.fBool && !ieq v.fKind 1) || ((!ieq v.fInt 0 && !ieq v.fKind 2) && !ieq v.fKind 4) || (!seq v.fText c_empty && !ieq v.fKind 3) || ((ilt 0 (llen v.fItems) && !ieq v.fKind 5) && !ieq v.fKind 6) || (ilt 0 (llen v.fKeys) && !ieq v.fKind 6)
def un2 (v : T_api_Value) : Bool := ieq v.fKind 6 && !ieq (llen v.fKeys) (llen v.fItems)
def own (v : T_api_Value) : Int :=
  bif ilt v.fKind 0 || ilt 6 v.fKind then 10 else bif un v || un2 v then 1 else bif ieq v.fKind 4 && (ilt v.fInt 0 || ilt 84005 v.fInt) then 2 else bif ilt 5000 (slen v.fText) then 4 else bif bad v.fText then 9 else ks none v.fKeys
mutual
def vf : T_api_Value → Int
  | ⟨k, b, i, t, is, s⟩ => bif ieq (own ⟨k, b, i, t, is, s⟩) 0 then vfs is else own ⟨k, b, i, t, is, s⟩
def vfs : List T_api_Value → Int
  | [] => 0
  | t :: r => bif ieq (vf t) 0 then vfs r else vf t
end
theorem vf_eq (t : T_api_Value) : vf t = bif ieq (own t) 0 then vfs t.fItems else own t := by cases t; simp [vf]
theorem vfs_find : ∀ (l : List T_api_Value) (v : Int), (∃ t ∈ l, vf t ≠ 0 ∧ True) ∨ vfs l = 0 := fun l v => by
  induction l with
  | nil => exact .inr rfl
  | cons a l ih =>
    by_cases h : vf a = 0
    · rcases ih with ⟨t, h1, h2⟩ | h2
      · exact .inl ⟨t, List.mem_cons_of_mem _ h1, h2⟩
      · right; simp only [vfs, ieq_t h, cond_true]; exact h2
    · exact .inl ⟨a, List.mem_cons_self .., h, trivial⟩
theorem items_conf (l : List T_api_Value) (hl : wts l ≤ 1048576) (ih : ∀ k ∈ l, Ev (fun f => conf_valuesFault.f f k) (vf k)) : Ev (fun k => conf_valuesFault.l0 k l (llen l) 0) (vfs l) := by
  have hlen := len_le l
  have : ∀ (d j : Nat), l.length - j ≤ d → j ≤ l.length → Ev (fun k => conf_valuesFault.l0 k l (llen l) (j : Int)) (vfs (l.drop j)) := by
    intro d
    have fin : ∀ j : Nat, l.length ≤ j → Ev (fun k => conf_valuesFault.l0 k l (llen l) (j : Int)) (vfs (l.drop j)) := fun j h => by
      rw [List.drop_eq_nil_of_le h]
      refine Ev.step (g := fun _ => some 0) (fun k => ?_) (Ev.now fun _ => rfl)
      simp only [conf_valuesFault.l0, llen_eq, ilt_f (show (l.length : Int) ≤ (j : Int) by omega), cond_false]
    induction d with
    | zero => intro j hd hj; exact fin j (by omega)
    | succ d ihd =>
      intro j hd hj
      rcases Nat.lt_or_ge j l.length with hlt | hge
      · rw [List.drop_eq_getElem_cons hlt]
        refine Ev.step (fun k => by simp only [conf_valuesFault.l0, llen_eq, ilt_t (show (j : Int) < (l.length : Int) by omega), cond_true, lat_lt hlt, Option.bind_some, eta]; rfl) (Ev.bind (ih _ (List.getElem_mem hlt)) ?_)
        simp only [vfs, u0 (show j ≤ 4611686018427387904 by omega)]
        cases ieq (vf l[j]) 0 with
        | true => exact ihd (j + 1) (by omega) hlt
        | false => exact Ev.now fun _ => rfl
      · exact fin j hge
  have := this l.length 0 (by omega) (by omega)
  rw [List.drop_zero] at this
  exact this

theorem items_ref (l : List T_api_Value) (hl : wts l ≤ 1048576) (ih : ∀ k ∈ l, Ev (fun f => mastref2_eachValue.f f k) (vf k)) : Ev (fun k => mastref2_eachValue.l1 k l (llen l) 0) (vfs l) := by
  have hlen := len_le l
  have : ∀ (d j : Nat), l.length - j ≤ d → j ≤ l.length → Ev (fun k => mastref2_eachValue.l1 k l (llen l) (j : Int)) (vfs (l.drop j)) := by
    intro d
    have fin : ∀ j : Nat, l.length ≤ j → Ev (fun k => mastref2_eachValue.l1 k l (llen l) (j : Int)) (vfs (l.drop j)) := fun j h => by
      rw [List.drop_eq_nil_of_le h]
      refine Ev.step (g := fun _ => some 0) (fun k => ?_) (Ev.now fun _ => rfl)
      simp only [mastref2_eachValue.l1, llen_eq, ilt_f (show (l.length : Int) ≤ (j : Int) by omega), cond_false]
    induction d with
    | zero => intro j hd hj; exact fin j (by omega)
    | succ d ihd =>
      intro j hd hj
      rcases Nat.lt_or_ge j l.length with hlt | hge
      · rw [List.drop_eq_getElem_cons hlt]
        refine Ev.step (fun k => by simp only [mastref2_eachValue.l1, llen_eq, ilt_t (show (j : Int) < (l.length : Int) by omega), cond_true, lat_lt hlt, Option.bind_some, eta]; rfl) (Ev.bind (ih _ (List.getElem_mem hlt)) ?_)
        simp only [vfs, u0 (show j ≤ 4611686018427387904 by omega)]
        cases ieq (vf l[j]) 0 with
        | true => exact ihd (j + 1) (by omega) hlt
        | false => exact Ev.now fun _ => rfl
      · exact fin j hge
  have := this l.length 0 (by omega) (by omega)
  rw [List.drop_zero] at this
  exact this


theorem unused_ok (v : T_api_Value) : Ev (fun k => conf_unused.f k v) (un v || un2 v) := by
  have l0 : ∀ b : Bool, Ev (fun k => conf_unused.l0 k v.fKind v.fBool v.fInt v.fText v.fItems v.fKeys v.fKind b) (b || ((ilt 0 (llen v.fItems) && !ieq v.fKind 5) && !ieq v.fKind 6) || (ilt 0 (llen v.fKeys) && !ieq v.fKind 6) || un2 v) := fun b => by
    refine Ev.step (g := fun _ => some (b || ((ilt 0 (llen v.fItems) && !ieq v.fKind 5) && !ieq v.fKind 6) || (ilt 0 (llen v.fKeys) && !ieq v.fKind 6) || un2 v)) (fun k => ?_) (Ev.now fun _ => rfl)
    simp only [conf_unused.l0, un2]
    cases b <;> cases ilt 0 (llen v.fItems) <;> cases ieq v.fKind 5 <;> cases ieq v.fKind 6 <;> cases ilt 0 (llen v.fKeys) <;> cases ieq (llen v.fKeys) (llen v.fItems) <;> rfl
  have l1 := l0 (v.fBool && !ieq v.fKind 1 || ((!ieq v.fInt 0 && !ieq v.fKind 2) && !ieq v.fKind 4) || (!seq v.fText c_empty && !ieq v.fKind 3))
  refine Ev.congr (fun k => ?_) l1
  simp only [conf_unused.f]
  cases v.fBool <;> cases ieq v.fKind 1 <;> cases ieq v.fInt 0 <;> cases ieq v.fKind 2 <;> cases ieq v.fKind 4 <;> cases seq v.fText c_empty <;> cases ieq v.fKind 3 <;> rfl

theorem own_ok (v : T_api_Value) (hv : wt v ≤ 1048576) : Ev (fun k => conf_valueFault.f k v) (own v) := by
  rw [wt_eq] at hv
  have l0 : ∀ b : Bool, Ev (fun k => conf_valueFault.l0 k v.fKind v.fBool v.fInt v.fText v.fItems v.fKeys b) (bif b then 2 else bif ilt 5000 (slen v.fText) then 4 else bif bad v.fText then 9 else ks none v.fKeys) := fun b => by
    cases b with
    | true => exact Ev.step (g := fun _ => some 2) (fun k => by simp only [conf_valueFault.l0, cond_true]) (Ev.now fun _ => rfl)
    | false =>
      simp only [cond_false]
      cases h : ilt 5000 (slen v.fText) with
      | true => exact Ev.step (g := fun _ => some 4) (fun k => by simp only [conf_valueFault.l0, cond_false, h, cond_true]) (Ev.now fun _ => rfl)
      | false =>
        simp only [cond_false]
        refine Ev.step (fun k => by simp only [conf_valueFault.l0, cond_false, h]; rfl) (Ev.bind (bad_conf v.fText (by omega)) ?_)
        cases bad v.fText with
        | true => exact Ev.now fun _ => rfl
        | false =>
          simp only [cond_false]
          exact keys_conf v.fKind v.fBool v.fInt v.fText v.fItems v.fKeys (by omega)
  unfold own
  cases h : ilt v.fKind 0 || ilt 6 v.fKind with
  | true =>
    refine Ev.now fun k => ?_
    simp only [conf_valueFault.f]
    rw [show (bif ilt v.fKind 0 then true else ilt 6 v.fKind) = true by rw [← h]; cases ilt v.fKind 0 <;> rfl]
    rfl
  | false =>
    simp only [cond_false]
    refine Ev.congr (g := fun k => (conf_unused.f k v).bind fun y1 => bif y1 then some 1 else bif ieq v.fKind 4 then (conf_badDay.f v.fInt).bind fun y2 => conf_valueFault.l0 k v.fKind v.fBool v.fInt v.fText v.fItems v.fKeys y2 else conf_valueFault.l0 k v.fKind v.fBool v.fInt v.fText v.fItems v.fKeys false) (fun k => ?_) (Ev.bind (unused_ok v) ?_)
    · simp only [conf_valueFault.f, eta]
      rw [show (bif ilt v.fKind 0 then true else ilt 6 v.fKind) = false by rw [← h]; cases ilt v.fKind 0 <;> rfl]
      rfl
    · cases un v || un2 v with
      | true => exact Ev.now fun _ => rfl
      | false =>
        simp only [cond_false]
        cases h4 : ieq v.fKind 4 with
        | false => simpa using l0 false
        | true =>
          have := l0 (ilt v.fInt 0 || ilt 84005 v.fInt)
          simp only [cond_true, conf_badDay.f, Option.bind_some, Bool.true_and]
          rw [show (bif ilt v.fInt 0 then true else ilt 84005 v.fInt) = (ilt v.fInt 0 || ilt 84005 v.fInt) by cases ilt v.fInt 0 <;> rfl]
          exact this

theorem vf_ok : ∀ v, wt v ≤ 1048576 → Ev (fun k => conf_valuesFault.f k v) (vf v) := tree fun v ih hv => by
  have hv' := hv
  rw [wt_eq] at hv'
  rw [vf_eq]
  refine Ev.step (g := fun k => (conf_valueFault.f k v).bind fun y1 => bif !ieq y1 0 then some y1 else conf_valuesFault.l0 k v.fItems (llen v.fItems) 0) (fun k => by simp only [conf_valuesFault.f, eta]) (Ev.bind (own_ok v hv) ?_)
  cases h : ieq (own v) 0 with
  | false => exact Ev.now fun _ => rfl
  | true => exact items_conf v.fItems (by omega) fun k hk => ih k hk (by have := wt_mem hk; omega)

theorem vfR_ok : ∀ v, wt v ≤ 1048576 → Ev (fun k => mastref2_eachValue.f k v) (vf v) := tree fun v ih hv => by
  rw [wt_eq] at hv
  have li := items_ref v.fItems (by omega) fun k hk => ih k hk (by have := wt_mem hk; omega)
  have lk := keys_ref v.fKind v.fBool v.fInt v.fText v.fItems v.fKeys (by omega) (vfs v.fItems) li
  have lb := bad_ref v.fText (by omega)
  rw [vf_eq]
  cases hk : ilt v.fKind 0 || ilt 6 v.fKind with
  | true =>
    refine Ev.step (g := fun _ => some 10) (fun k => ?_) (Ev.now fun _ => by simp [own, hk, ieq])
    simp only [mastref2_eachValue.f]
    rw [show (bif ilt v.fKind 0 then true else ilt 6 v.fKind) = true by rw [← hk]; cases ilt v.fKind 0 <;> rfl]
    rfl
  | false =>
    have e1 : (bif ilt v.fKind 0 then true else ilt 6 v.fKind) = false := by rw [← hk]; cases ilt v.fKind 0 <;> rfl
    have e2 : (bif (bif (bif (bif (bif v.fBool then (!ieq v.fKind 1) else false) then true else (bif (bif (!ieq v.fInt 0) then (!ieq v.fKind 2) else false) then (!ieq v.fKind 4) else false)) then true else (bif (!seq v.fText c_empty) then (!ieq v.fKind 3) else false)) then true else (bif (bif (ilt 0 (llen v.fItems)) then (!ieq v.fKind 5) else false) then (!ieq v.fKind 6) else false)) then true else (bif (ilt 0 (llen v.fKeys)) then (!ieq v.fKind 6) else false)) = un v := by
      unfold un
      cases v.fBool <;> cases ieq v.fKind 1 <;> cases ieq v.fInt 0 <;> cases ieq v.fKind 2 <;> cases ieq v.fKind 4 <;> cases seq v.fText c_empty <;> cases ieq v.fKind 3 <;> cases ilt 0 (llen v.fItems) <;> cases ieq v.fKind 5 <;> cases ieq v.fKind 6 <;> cases ilt 0 (llen v.fKeys) <;> rfl
    have e3 : (bif ieq v.fKind 6 then (!ieq (llen v.fKeys) (llen v.fItems)) else false) = un2 v := by
      unfold un2
      cases ieq v.fKind 6 <;> rfl
    have e4 : (bif ieq v.fKind 4 then (bif ilt v.fInt 0 then true else ilt 84005 v.fInt) else false) = (ieq v.fKind 4 && (ilt v.fInt 0 || ilt 84005 v.fInt)) := by
      cases ieq v.fKind 4 <;> cases ilt v.fInt 0 <;> rfl
    have st : ∀ k, mastref2_eachValue.f (k + 1) v = bif un v then some 1 else bif un2 v then some 1 else bif (ieq v.fKind 4 && (ilt v.fInt 0 || ilt 84005 v.fInt)) then some 2 else bif ilt 5000 (slen v.fText) then some 4 else (mastref2_badByte.f k v.fText).bind fun y1 => bif y1 then some 9 else mastref2_eachValue.l0 k v.fKind v.fBool v.fInt v.fText v.fItems v.fKeys v.fKeys (llen v.fKeys) 0 := fun k => by
      simp only [mastref2_eachValue.f, e1, e2, e3, e4, cond_false]
    cases h1 : un v with
    | true => exact Ev.step (g := fun _ => some 1) (fun k => by rw [st, h1]; rfl) (Ev.now fun _ => by simp [own, hk, h1, ieq])
    | false =>
      cases h2 : un2 v with
      | true => exact Ev.step (g := fun _ => some 1) (fun k => by rw [st, h1, h2]; rfl) (Ev.now fun _ => by simp [own, hk, h1, h2, ieq])
      | false =>
        cases h3 : (ieq v.fKind 4 && (ilt v.fInt 0 || ilt 84005 v.fInt)) with
        | true => exact Ev.step (g := fun _ => some 2) (fun k => by rw [st, h1, h2, h3]; rfl) (Ev.now fun _ => by rw [show own v = 2 by unfold own; rw [hk, h1, h2, h3]; rfl]; rfl)
        | false =>
          cases h4 : ilt 5000 (slen v.fText) with
          | true => exact Ev.step (g := fun _ => some 4) (fun k => by rw [st, h1, h2, h3, h4]; rfl) (Ev.now fun _ => by rw [show own v = 4 by unfold own; rw [hk, h1, h2, h3, h4]; rfl]; rfl)
          | false =>
            have eo : own v = bif bad v.fText then 9 else ks none v.fKeys := by simp [own, hk, h1, h2, h3, h4]
            rw [eo]
            refine Ev.step (fun k => by rw [st, h1, h2, h3, h4]; rfl) (Ev.bind lb ?_)
            cases bad v.fText with
            | true => exact Ev.now fun _ => rfl
            | false => exact lk

/-- The check. -/
def chk (v : T_api_Value) : Int := bif decide (1000 < nT v) then 4 else bif decide (8 < lv v) then 13 else vf v
theorem chk_ok (v : T_api_Value) (hv : wt v ≤ 1048576) : Ev (fun k => conf_Check.f k v) (chk v) := by
  obtain ⟨r, r1, r2, r3⟩ := count_conf v hv
  refine Ev.congr (g := fun k => (conf_count.f k v).bind fun y1 => bif ilt 1000 y1 then some 4 else (conf_levels.f k v).bind fun y2 => bif ilt 8 y2 then some 13 else (conf_valuesFault.f k v).bind fun y3 => some y3) (fun k => by simp only [conf_Check.f, eta]) (Ev.bind r1 ?_)
  unfold chk
  by_cases c : 1000 < nT v
  · rw [ilt_t (show (1000 : Int) < (r : Int) by omega), decide_eq_true c]; exact Ev.now fun _ => rfl
  · rw [ilt_f (show (r : Int) ≤ 1000 by omega), decide_eq_false c]
    refine Ev.bind (levels_conf v hv) ?_
    by_cases c2 : 8 < lv v
    · rw [ilt_t (show (8 : Int) < (lv v : Int) by omega), decide_eq_true c2]; exact Ev.now fun _ => rfl
    · rw [ilt_f (show (lv v : Int) ≤ 8 by omega), decide_eq_false c2]
      exact Ev.bind (vf_ok v hv) (Ev.now fun _ => rfl)
theorem chkR_ok (v : T_api_Value) (hv : wt v ≤ 1048576) : Ev (fun k => mastref2_ConfCheck.f k v) (chk v) := by
  refine Ev.congr (g := fun k => (mastref2_ValuesOf.f k v).bind fun y1 => bif ilt 1000 y1 then some 4 else (mastref2_LevelsOf.f k v).bind fun y2 => bif ilt 8 y2 then some 13 else (mastref2_eachValue.f k v).bind fun y3 => some y3) (fun k => by simp only [mastref2_ConfCheck.f, eta]) (Ev.bind (values_ok v hv) ?_)
  unfold chk
  by_cases c : 1000 < nT v
  · rw [ilt_t (show (1000 : Int) < (nT v : Int) by omega), decide_eq_true c]; exact Ev.now fun _ => rfl
  · rw [ilt_f (show (nT v : Int) ≤ 1000 by omega), decide_eq_false c]
    refine Ev.bind (levels_ref v hv) ?_
    by_cases c2 : 8 < lv v
    · rw [ilt_t (show (8 : Int) < (lv v : Int) by omega), decide_eq_true c2]; exact Ev.now fun _ => rfl
    · rw [ilt_f (show (lv v : Int) ≤ 8 by omega), decide_eq_false c2]
      exact Ev.bind (vfR_ok v hv) (Ev.now fun _ => rfl)
/-! Pieces between dots. -/
def pcs (c : UInt8) : List UInt8 → List (List UInt8)
  | [] => [[]]
  | b :: l => if b = c then [] :: pcs c l else match pcs c l with
    | [] => [[b]]
    | p :: r => (b :: p) :: r
theorem splitK_pcs (c : UInt8) : ∀ l : List UInt8, Lib.splitK [c] 0 (l.count c) l = pcs c l
  | [] => rfl
  | b :: l => by
    have ih := splitK_pcs c l
    by_cases h : b = c
    · subst h
      rw [List.count_cons_self]
      have hx : Lib.index (b :: l) [b] = 0 := by
        unfold Lib.index
        rw [if_pos (by simp [List.isPrefixOf])]
      unfold Lib.splitK
      rw [hx]
      simp only [pcs, if_true]
      rw [if_neg (by decide)]
      simp [ih]
    · rw [List.count_cons_of_ne (fun e => h e)]
      have hx : Lib.index (b :: l) [c] = if Lib.index l [c] == -1 then -1 else Lib.index l [c] + 1 := by
        conv => lhs; unfold Lib.index
        rw [if_neg (by simp [List.isPrefixOf]; exact fun e => h e.symm)]
      simp only [pcs, if_neg h]
      cases hn : l.count c with
      | zero =>
        rw [hn] at ih
        rw [← ih]; rfl
      | succ n =>
        rw [hn] at ih
        rw [← ih]
        unfold Lib.splitK
        rw [hx]
        by_cases hm : Lib.index l [c] = -1
        · simp [hm]
        · have hg := Lib.index_ge l [c]
          have e1 : (Lib.index l [c] == -1) = false := beq_eq_false_iff_ne.2 hm
          simp only [e1, Bool.false_eq_true, if_false]
          have e2 : (Lib.index l [c] + 1 == -1) = false := beq_eq_false_iff_ne.2 (by omega)
          simp only [e2, Bool.false_eq_true, if_false]
          have e3 : (Lib.index l [c] + 1).toNat = (Lib.index l [c]).toNat + 1 := by omega
          rw [e3]
          simp [List.take_succ_cons, List.drop_succ_cons]
theorem parts_pcs (s : ByteArray) : (Lib.splitB c__2e 0 (Lib.countB s c__2e) s).map (·.data.toList) = pcs 46 s.data.toList := by
  rw [Lib.splitB_data]
  show Lib.splitK [46] 0 (Lib.count s.data.toList [46]) s.data.toList = _
  rw [Lib.count_one]
  exact splitK_pcs 46 _
theorem pcs_none (c : UInt8) : ∀ p : List UInt8, c ∉ p → pcs c p = [p]
  | [], _ => rfl
  | b :: l, h => by
    have h1 : b ≠ c := fun e => h (by rw [e]; exact List.mem_cons_self ..)
    have h2 := pcs_none c l fun e => h (List.mem_cons_of_mem _ e)
    simp only [pcs, if_neg h1, h2]
theorem pcs_cut (c : UInt8) : ∀ (p r : List UInt8), c ∉ p → pcs c (p ++ c :: r) = p :: pcs c r
  | [], r, _ => by simp [pcs]
  | b :: l, r, h => by
    have h1 : b ≠ c := fun e => h (by rw [e]; exact List.mem_cons_self ..)
    have h2 := pcs_cut c l r fun e => h (List.mem_cons_of_mem _ e)
    simp only [List.cons_append, pcs, if_neg h1, h2]
theorem ex_data (s : ByteArray) (a b : Nat) (h : a ≤ b) : (s.extract a b).data.toList = (s.data.toList.drop a).take (b - a) := by
  rw [ByteArray.data_extract, Array.toList_extract]
def digB (c : UInt8) : Bool := bif ile 48 (c.toNat : Int) then ile (c.toNat : Int) 57 else false
/-- Is a piece a number. -/
def dg : List UInt8 → Bool
  | [] => false
  | c :: r => ((c :: r).all digB && decide (r.length ≤ 3)) && (!ieq (c.toNat : Int) 48 || (c :: r == [48]))
theorem seq_zero (p : ByteArray) : seq p c_0 = (p.data.toList == [48]) := by
  unfold seq
  rw [ByteArray.toList_eq, ByteArray.toList_eq]
  rfl
theorem set_dig (c : UInt8) : c_0123456789.data.toList.contains c = digB c := by
  have h : ∀ n : Fin 256, c_0123456789.data.toList.contains (UInt8.ofNat n.val) = digB (UInt8.ofNat n.val) := by decide +kernel
  have := h ⟨c.toNat, c.toNat_lt⟩
  simpa using this
theorem digits_ok (s : ByteArray) (hs : s.size ≤ 2000000) : mastref2_digitsAlone.f s = some (!s.data.toList.isEmpty && s.data.toList.all digB) := by
  have hc : strings_Trim.f s c_0123456789 = some ⟨(Lib.trimS s.data.toList c_0123456789.data.toList).toArray⟩ := by
    unfold strings_Trim.f
    rw [if_pos ⟨by omega, by decide, by decide +kernel⟩]
  unfold mastref2_digitsAlone.f
  rw [seq_empty, hc]
  cases h : s.data.toList.isEmpty with
  | true => rfl
  | false =>
    simp only [Bool.not_false, cond_true, Option.bind_some, Bool.true_and]
    rw [seq_empty]
    show some (Lib.trimS s.data.toList _).isEmpty = _
    rw [trim_nil, show (fun x => c_0123456789.data.toList.contains x) = digB from funext set_dig]
theorem split_sz (sep : ByteArray) : ∀ (k : Nat) (s x : ByteArray), x ∈ Lib.splitB sep 0 k s → x.size ≤ s.size
  | 0, s, x, h => by
    have : x = s := by simpa [Lib.splitB] using h
    rw [this]; exact Nat.le_refl _
  | k + 1, s, x, h => by
    unfold Lib.splitB at h
    split at h
    · have : x = s := by simpa using h
      rw [this]; exact Nat.le_refl _
    · rcases List.mem_cons.1 h with rfl | h
      · rw [ByteArray.size_extract]; omega
      · have := split_sz sep k _ x h
        rw [ByteArray.size_extract] at this; omega
/-! The parts of a route, as the program takes them. -/
theorem dec_all : ∀ (l : List UInt8) (n : Nat), l.all digB = true → ∃ m, Lib.decFrom n l = some m
  | [], n, _ => ⟨n, rfl⟩
  | b :: r, n, h => by
    rw [List.all_cons, Bool.and_eq_true] at h
    have hb : 48 ≤ b.toNat ∧ b.toNat ≤ 57 := by
      have := h.1
      unfold digB at this
      by_cases c : (48 : Int) ≤ b.toNat
      · rw [ile_t c, cond_true] at this
        have := of_decide_eq_true this
        omega
      · rw [ile_f (by omega)] at this; exact nomatch this
    unfold Lib.decFrom Lib.digitVal
    rw [if_pos hb]
    exact dec_all r _ h.2
theorem dig_not {c : UInt8} (h : digB c = true) : c ≠ 45 ∧ c ≠ 43 ∧ c ≠ 42 := by
  refine ⟨?_, ?_, ?_⟩ <;> rintro rfl <;> exact absurd h (by decide)
theorem atoi_dg {p : ByteArray} (h : dg p.data.toList = true) : ∃ n : Nat, strconv_Atoi.f p = some (n : Int) := by
  cases hb : p.data.toList with
  | nil => rw [hb] at h; exact nomatch h
  | cons c r =>
    rw [hb] at h
    simp only [dg, Bool.and_eq_true] at h
    obtain ⟨⟨h1, h2⟩, _⟩ := h
    have h2 : r.length ≤ 3 := of_decide_eq_true h2
    have hc := dig_not (List.all_eq_true.1 h1 c (List.mem_cons_self ..))
    obtain ⟨m, hm⟩ := dec_all (c :: r) 0 h1
    refine ⟨m, ?_⟩
    unfold strconv_Atoi.f atoiF
    rw [size_l, hb, if_pos (by simp; omega)]
    unfold Lib.atoi
    have e1 : (c == 45) = false := beq_eq_false_iff_ne.2 hc.1
    have e2 : (c == 43) = false := beq_eq_false_iff_ne.2 hc.2.1
    simp only [e1, e2, Bool.false_eq_true, if_false, Lib.decNat, List.isEmpty_cons, hm]
    rfl
theorem slen_dash : slen c__2d = 1 := rfl
theorem trimDash (p : ByteArray) : strings_TrimPrefix.f p c__2d = some (match p.data.toList with | [] => p | c :: r => if c = 45 then p.extract 1 p.size else p) := by
  unfold strings_TrimPrefix.f internal_stringslite_TrimPrefix.f internal_stringslite_HasPrefix.f
  rw [slen_dash]
  have hl := size_l p
  cases hb : p.data.toList with
  | nil =>
    rw [hb] at hl
    rw [ile_f (show slen p < 1 by show (p.size : Int) < 1; rw [hl]; decide)]
    rfl
  | cons c r =>
    rw [hb] at hl
    have hl1 : 1 ≤ p.size := by rw [hl]; simp
    rw [ile_t (show (1 : Int) ≤ slen p by show (1 : Int) ≤ p.size; omega)]
    have hx : ssub p 0 1 = some (p.extract 0 1) := by
      unfold ssub
      rw [if_pos ⟨by omega, by omega, by omega⟩]; rfl
    have hy : ssub p 1 (slen p) = some (p.extract 1 p.size) := by
      unfold ssub
      rw [show slen p = (p.size : Int) from rfl, if_pos ⟨by omega, by omega, by omega⟩]; rfl
    have hs : seq (p.extract 0 1) c__2d = decide (c = 45) := by
      unfold seq
      rw [ByteArray.toList_eq, ByteArray.toList_eq, ex_data p 0 1 (by omega), hb]
      show ([c] == [45]) = _
      by_cases h : c = 45
      · subst h; rfl
      · rw [decide_eq_false h]; simp [h]
    simp only [cond_true, hx, Option.bind_some, hs]
    by_cases h : c = 45
    · rw [decide_eq_true h, if_pos h]
      simp only [cond_true, hy, Option.bind_some]
    · rw [decide_eq_false h, if_neg h]
      rfl
/-- A piece that does not begin with a dash: is it of digits. -/
theorem integer_ok (p : ByteArray) (hs : p.size ≤ 2000000) (c : UInt8) (r : List UInt8) (hb : p.data.toList = c :: r) (hc : c ≠ 45) : Ev (fun k => conf_isInteger.f k p) ((c :: r).all digB) := by
  have hl := size_l p
  have ht : strings_TrimPrefix.f p c__2d = some p := by rw [trimDash, hb]; simp [hc]
  have he : seq p c_empty = false := by rw [seq_empty, hb]; rfl
  have q := find_pure p.data.toList 0 (Nat.zero_le _) (fun k j => conf_isInteger.l0 k p (j : Int)) (fun _ => some true) (fun c => !digB c) (fun _ => false) true
    (fun k j h => by
      simp only [conf_isInteger.l0, slen_l, Go.Proofs.YtibnepagledbjaaGreatDoor.Lift.ilen _ _ h, cond_true, sat_l h, Option.bind_some, conf_isDigit.f, u0 (show j ≤ 4611686018427387904 by omega)]
      rfl)
    (fun k => by simp only [conf_isInteger.l0, slen_l, Go.Proofs.YtibnepagledbjaaGreatDoor.Lift.ilen', cond_false]) (Ev.now fun _ => rfl)
  have e : (bif p.data.toList.any (fun c => !digB c) then false else true) = (c :: r).all digB := by
    rw [hb, List.all_eq_not_any_not]
    cases (c :: r).any fun c => !digB c <;> rfl
  rw [fl_const, List.drop_zero, e] at q
  exact Ev.congr (fun k => by simp only [conf_isInteger.f, ht, Option.bind_some, he, cond_false]; rfl) q
/-- Some answer for a piece that begins with a dash. -/
theorem integer_any (p : ByteArray) (hs : p.size ≤ 2000000) : ∃ b, Ev (fun k => conf_isInteger.f k p) b := by
  cases ht : strings_TrimPrefix.f p c__2d with
  | none => rw [trimDash] at ht; cases ht
  | some y =>
    have hy : y.size ≤ 2000000 := by
      rw [trimDash] at ht
      have := Option.some.inj ht
      cases hb : p.data.toList with
      | nil => rw [hb] at this; rw [← this]; exact hs
      | cons c r =>
        rw [hb] at this
        simp only at this
        split at this
        · rw [← this, ByteArray.size_extract]; omega
        · rw [← this]; exact hs
    have hl := size_l y
    cases he : seq y c_empty with
    | true => exact ⟨false, Ev.now fun k => by simp only [conf_isInteger.f, ht, Option.bind_some, he, cond_true]⟩
    | false =>
      have q := find_pure y.data.toList 0 (Nat.zero_le _) (fun k j => conf_isInteger.l0 k y (j : Int)) (fun _ => some true) (fun c => !digB c) (fun _ => false) true
        (fun k j h => by
          simp only [conf_isInteger.l0, slen_l, Go.Proofs.YtibnepagledbjaaGreatDoor.Lift.ilen _ _ h, cond_true, sat_l h, Option.bind_some, conf_isDigit.f, u0 (show j ≤ 4611686018427387904 by omega)]
          rfl)
        (fun k => by simp only [conf_isInteger.l0, slen_l, Go.Proofs.YtibnepagledbjaaGreatDoor.Lift.ilen', cond_false]) (Ev.now fun _ => rfl)
      exact ⟨_, Ev.congr (fun k => by simp only [conf_isInteger.f, ht, Option.bind_some, he, cond_false]; rfl) q⟩

/-- Is it a piece of a route. -/
def pkS (st : Bool) (p : List UInt8) : Bool := dg p || keyL p || (st && p == [42])
theorem seq_star (p : ByteArray) : seq p c__2a = (p.data.toList == [42]) := by
  unfold seq
  rw [ByteArray.toList_eq, ByteArray.toList_eq]
  rfl
/-- The step of a piece. -/
def stp (p : ByteArray) : T_conf_step := bif key p then ⟨p, 0, false⟩ else bif seq p c__2a then ⟨c_empty, 0, true⟩ else ⟨c_empty, (strconv_Atoi.f p).getD 0, false⟩
theorem step_loop (st : Bool) (P : List ByteArray) (hP : P.length ≤ 3000000) (hz : ∀ x ∈ P, x.size ≤ 2000000) : ∀ (d j : Nat), P.length - j ≤ d → j ≤ P.length →
    Ev (fun k => conf_steps.l0 k st ((P.take j).map stp) P (llen P) (j : Int)) (bif (P.drop j).all (fun p => pkS st p.data.toList) then (P.map stp, true) else ([], false)) := by
  intro d
  have last : ∀ j, P.length ≤ j → Ev (fun k => conf_steps.l0 k st ((P.take j).map stp) P (llen P) (j : Int)) (bif (P.drop j).all (fun p => pkS st p.data.toList) then (P.map stp, true) else ([], false)) := fun j hj => by
    rw [List.drop_eq_nil_of_le hj, List.take_of_length_le hj]
    refine Ev.step (g := fun _ => some (P.map stp, true)) (fun k => ?_) (Ev.now fun _ => rfl)
    simp only [conf_steps.l0, llen_eq, ilt_f (show (P.length : Int) ≤ (j : Int) by omega), cond_false]
  induction d with
  | zero => intro j hd hj; exact last j (by omega)
  | succ d ih =>
    intro j hd hj
    rcases Nat.lt_or_ge j P.length with hlt | hge
    · have hr := ih (j + 1) (by omega) hlt
      rw [List.drop_eq_getElem_cons hlt, List.all_cons]
      have hzj := hz _ (List.getElem_mem hlt)
      have hw : wadd .i64 (j : Int) 1 = ((j + 1 : Nat) : Int) := u0 (by omega)
      have push : lapp 32 ((P.take j).map stp) [stp P[j]] = some ((P.take (j + 1)).map stp) := by
        rw [take_map hlt]
        exact lapp_ok (by simp only [List.length_map, List.length_take, List.length_singleton]; omega) (by simp only [List.length_map, List.length_take, List.length_singleton]; omega)
      have hk := key_conf P[j]
      refine Ev.step (fun k => by simp only [conf_steps.l0, llen_eq, Go.Proofs.YtibnepagledbjaaGreatDoor.Lift.ilen _ _ hlt, cond_true, lat_lt hlt, Option.bind_some, hw]; rfl) (Ev.bind hk ?_)
      cases hkey : key P[j] with
      | true =>
        have e1 : pkS st P[j].data.toList = true := by unfold pkS; rw [show keyL P[j].data.toList = key P[j] from rfl, hkey, Bool.or_true, Bool.true_or]
        have e2 : stp P[j] = ⟨P[j], 0, false⟩ := by unfold stp; rw [hkey]; rfl
        rw [e1, Bool.true_and]
        rw [e2] at push
        simp only [cond_true, push, Option.bind_some]
        exact hr
      | false =>
        simp only [cond_false]
        cases hstar : (st && seq P[j] c__2a) with
        | true =>
          obtain ⟨g1, g2⟩ := Bool.and_eq_true_iff.1 hstar
          have e1 : pkS st P[j].data.toList = true := by unfold pkS; rw [← seq_star, hstar, Bool.or_true]
          have e2 : stp P[j] = ⟨c_empty, 0, true⟩ := by unfold stp; rw [hkey, g2]; rfl
          rw [e1, Bool.true_and]
          rw [e2] at push
          simp only [g1, g2, cond_true, push, Option.bind_some]
          rw [g1] at hr
          exact hr
        | false =>
          have e0 : (bif st then seq P[j] c__2a else false) = false := by rw [← hstar]; cases st <;> rfl
          have e1 : pkS st P[j].data.toList = dg P[j].data.toList := by unfold pkS; rw [← seq_star, hstar, show keyL P[j].data.toList = key P[j] from rfl, hkey, Bool.or_false, Bool.or_false]
          rw [e1]
          simp only [e0, cond_false]
          cases hb : P[j].data.toList with
          | nil =>
            have : seq P[j] c_empty = true := by rw [seq_empty, hb]; rfl
            simp only [this, cond_true, dg, Bool.false_and, cond_false]
            exact Ev.now fun _ => rfl
          | cons c r =>
            have hne : seq P[j] c_empty = false := by rw [seq_empty, hb]; rfl
            have hsl : slen P[j] = ((c :: r).length : Int) := by rw [slen_l, hb]
            simp only [hne, cond_false]
            by_cases hlen : 3 < r.length
            · rw [ilt_t (show (4 : Int) < slen P[j] by rw [hsl, List.length_cons]; omega)]
              have : dg (c :: r) = false := by simp only [dg, decide_eq_false (show ¬ r.length ≤ 3 by omega), Bool.and_false, Bool.false_and]
              rw [this]
              exact Ev.now fun _ => rfl
            · rw [ilt_f (show slen P[j] ≤ (4 : Int) by rw [hsl, List.length_cons]; omega)]
              simp only [cond_false]
              by_cases h45 : c = 45
              · obtain ⟨b, hbb⟩ := integer_any P[j] hzj
                have : dg (c :: r) = false := by
                  simp only [dg, List.all_cons, h45, show digB 45 = false from by decide, Bool.false_and]
                rw [this]
                refine Ev.bind hbb ?_
                cases b with
                | false => exact Ev.now fun _ => rfl
                | true =>
                  have hi : ieq (c.toNat : Int) 45 = true := by rw [h45]; rfl
                  simp only [Bool.not_true, cond_false, sat_0 hb, Option.bind_some, hi, cond_true]
                  exact Ev.now fun _ => rfl
              · refine Ev.bind (integer_ok P[j] hzj c r hb h45) ?_
                cases had : (c :: r).all digB with
                | false =>
                  have : dg (c :: r) = false := by simp only [dg, had, Bool.false_and]
                  rw [this]
                  exact Ev.now fun _ => rfl
                | true =>
                  have hi : ieq (c.toNat : Int) 45 = false := ieq_f fun e => h45 (UInt8.toNat_inj.1 (by rw [show (45 : UInt8).toNat = 45 from rfl]; omega))
                  simp only [Bool.not_true, cond_false, sat_0 hb, Option.bind_some, hi]
                  have hdg : dg (c :: r) = (!ieq (c.toNat : Int) 48 || (c :: r == [48])) := by simp only [dg, had, decide_eq_true (show r.length ≤ 3 by omega), Bool.true_and]
                  have hz0 : seq P[j] c_0 = (c :: r == [48]) := by rw [seq_zero, hb]
                  rw [hdg, hz0]
                  cases q : (!ieq (c.toNat : Int) 48 || (c :: r == [48])) with
                  | false =>
                    have : (bif ieq (c.toNat : Int) 48 then !(c :: r == [48]) else false) = true := by
                      revert q
                      cases ieq (c.toNat : Int) 48 <;> cases (c :: r == [48]) <;> simp
                    simp only [this, cond_true]
                    exact Ev.now fun _ => rfl
                  | true =>
                    have : (bif ieq (c.toNat : Int) 48 then !(c :: r == [48]) else false) = false := by
                      revert q
                      cases ieq (c.toNat : Int) 48 <;> cases (c :: r == [48]) <;> simp
                    obtain ⟨n, hn⟩ := atoi_dg (p := P[j]) (by rw [hb, hdg, q])
                    have hst : seq P[j] c__2a = false := by
                      rw [seq_star, hb]
                      have := (dig_not (List.all_eq_true.1 had c (List.mem_cons_self ..))).2.2
                      simp [this]
                    have e2 : stp P[j] = ⟨c_empty, n, false⟩ := by unfold stp; rw [hkey, hst, hn]; rfl
                    rw [e2] at push
                    simp only [this, cond_false, hn, Option.bind_some, push]
                    exact hr
    · exact last j hge
def rpS (st : Bool) (s : ByteArray) : Bool := bif ilt 400 (slen s) then false else bif seq s c_empty then true else (pcs 46 s.data.toList).all (pkS st)
def parts (s : ByteArray) : List ByteArray := Lib.splitB c__2e 0 (Lib.countB s c__2e) s
def stps (s : ByteArray) : List T_conf_step := bif seq s c_empty then [] else (parts s).map stp
theorem steps_ok (st : Bool) (s : ByteArray) (hs : s.size ≤ 1048576) : Ev (fun k => conf_steps.f k s st) (bif rpS st s then (stps s, true) else ([], false)) := by
  unfold rpS stps
  cases h4 : ilt 400 (slen s) with
  | true => exact Ev.now fun k => by simp only [conf_steps.f, h4, cond_true]; rfl
  | false =>
    cases he : seq s c_empty with
    | true => exact Ev.now fun k => by simp only [conf_steps.f, h4, he, cond_true, cond_false]
    | false =>
      simp only [cond_false]
      have hsp : strings_Split.f s c__2e = some (parts s) := by
        unfold strings_Split.f splitF
        rw [if_pos ⟨by omega, by decide⟩]; rfl
      have hsz : ∀ x ∈ parts s, x.size ≤ 2000000 := fun x hx => by have := split_sz _ _ _ _ hx; omega
      have hlen : (parts s).length ≤ 3000000 := by
        have h1 := Lib.splitB_length_le c__2e 0 (Lib.countB s c__2e) s
        have h2 := Lib.countB_le c__2e (by decide) s.size s (Nat.le_refl _)
        unfold parts; omega
      have q := step_loop st (parts s) hlen hsz (parts s).length 0 (by omega) (by omega)
      have e : ((parts s).drop 0).all (fun p => pkS st p.data.toList) = (pcs 46 s.data.toList).all (pkS st) := by
        rw [List.drop_zero, ← parts_pcs s, List.all_map]; rfl
      rw [e] at q
      exact Ev.congr (fun k => by simp only [conf_steps.f, h4, he, cond_false, hsp, Option.bind_some]; rfl) q
theorem routeR_ok (st : Bool) (s : ByteArray) (hs : s.size ≤ 2000000) : Ev (fun k => mastref2_RouteParts.f k s st) (bif rpS st s then (bif seq s c_empty then [] else parts s, true) else ([], false)) := by
  unfold rpS
  cases h4 : ilt 400 (slen s) with
  | true => exact Ev.now fun k => by simp only [mastref2_RouteParts.f, h4, cond_true]; rfl
  | false =>
    cases he : seq s c_empty with
    | true => exact Ev.now fun k => by simp only [mastref2_RouteParts.f, h4, he, cond_true, cond_false]
    | false =>
      simp only [cond_false]
      have hsp : strings_Split.f s c__2e = some (Lib.splitB c__2e 0 (Lib.countB s c__2e) s) := by
        unfold strings_Split.f splitF
        rw [if_pos ⟨by omega, by decide⟩]
      generalize hP : Lib.splitB c__2e 0 (Lib.countB s c__2e) s = P at hsp
      have hpp : P.map (·.data.toList) = pcs 46 s.data.toList := by rw [← hP]; exact parts_pcs s
      have hsz : ∀ x ∈ P, x.size ≤ 2000000 := fun x hx => by rw [← hP] at hx; have := split_sz _ _ _ _ hx; omega
      have hlen : P.length ≤ 4611686018427387904 := by
        have h1 := Lib.splitB_length_le c__2e 0 (Lib.countB s c__2e) s
        have h2 := Lib.countB_le c__2e (by decide) s.size s (Nat.le_refl _)
        rw [hP] at h1; omega
      have q := find_loop2 P 0 (Nat.zero_le _) (fun k j => mastref2_RouteParts.l0 k st P P (llen P) (j : Int))
        (fun _ p => (mastref2_digitsAlone.f p).bind fun y3 => bif (bif y3 then (ile (slen p) 4) else false) then ((sat p 0).bind fun y4 => some (p, (bif (!ieq y4 48) then true else (seq p c_0)))) else some (p, false))
        (fun k j y => mastref2_RouteParts.l1 k st P y.1 y.2 P (llen P) (j : Int)) (fun _ => some (P, true)) (fun p => !pkS st p.data.toList) (fun _ => ([], false)) (P, true)
        (fun k j h => by
          simp only [mastref2_RouteParts.l0, llen_eq, Go.Proofs.YtibnepagledbjaaGreatDoor.Lift.ilen _ _ h, cond_true, lat_lt h, Option.bind_some]
          cases mastref2_digitsAlone.f P[j] with
          | none => rfl
          | some y =>
            simp only [Option.bind_some]
            cases (bif y then ile (slen P[j]) 4 else false) with
            | false => rfl
            | true =>
              simp only [cond_true]
              cases sat P[j] 0 <;> rfl)
        (fun k => by simp only [mastref2_RouteParts.l0, llen_eq, Go.Proofs.YtibnepagledbjaaGreatDoor.Lift.ilen', cond_false]) (Ev.now fun _ => rfl)
        (fun j h => by
          have hz := hsz _ (List.getElem_mem h)
          have hd := digits_ok P[j] hz
          have hk := keyR_ok P[j] hz
          have el : ile (slen P[j]) 4 = decide (P[j].data.toList.length ≤ 4) := by
            rw [slen_l, ile_d]
            by_cases c : P[j].data.toList.length ≤ 4
            · rw [decide_eq_true c, decide_eq_true (by omega)]
            · rw [decide_eq_false c, decide_eq_false (by omega)]
          refine ⟨(P[j], dg P[j].data.toList), Ev.now fun _ => ?_, fun hq => ?_, fun hq v hv => ?_⟩
          · rw [hd]
            simp only [Option.bind_some, el]
            cases hb : P[j].data.toList with
            | nil => rfl
            | cons c r =>
              rw [sat_0 hb, seq_zero, hb]
              simp only [List.isEmpty_cons, Bool.not_false, Bool.true_and, Option.bind_some, dg, List.length_cons]
              rw [show decide (r.length + 1 ≤ 4) = decide (r.length ≤ 3) by by_cases c : r.length ≤ 3 <;> simp [c] <;> omega]
              cases (c :: r).all digB <;> cases decide (r.length ≤ 3) <;> cases ieq (c.toNat : Int) 48 <;> rfl
          · have h1 : (dg P[j].data.toList = false ∧ key P[j] = false) ∧ (st && seq P[j] c__2a) = false := by
              have : pkS st P[j].data.toList = false := by simpa using hq
              unfold pkS at this
              obtain ⟨t1, t2⟩ := Bool.or_eq_false_iff.1 this
              obtain ⟨t3, t4⟩ := Bool.or_eq_false_iff.1 t1
              exact ⟨⟨t3, t4⟩, by rw [seq_star]; exact t2⟩
            have e0 : (bif st then seq P[j] c__2a else false) = false := by rw [← h1.2]; cases st <;> rfl
            refine Ev.step (g := fun _ => some ([], false)) (fun k => ?_) (Ev.now fun _ => rfl)
            simp only [mastref2_RouteParts.l1, h1.1.1, Bool.not_false, cond_true, hk, h1.1.2, Option.bind_some, cond_false, e0]
          · have h1 : pkS st P[j].data.toList = true := by simpa using hq
            unfold pkS at h1
            rw [← seq_star] at h1
            have hw : wadd .i64 (j : Int) 1 = ((j + 1 : Nat) : Int) := u0 (by omega)
            refine Ev.step (fun k => ?_) hv
            simp only [mastref2_RouteParts.l1, hw]
            cases hg : dg P[j].data.toList with
            | true => simp
            | false =>
              simp only [Bool.not_false, cond_true, hk, Option.bind_some]
              rw [hg, show keyL P[j].data.toList = key P[j] from rfl] at h1
              revert h1
              cases key P[j] <;> cases st <;> cases seq P[j] c__2a <;> simp)
      rw [fl_const, List.drop_zero] at q
      have e : (pcs 46 s.data.toList).all (pkS st) = !P.any fun p => !pkS st p.data.toList := by
        rw [← hpp, List.all_map, List.all_eq_not_any_not]; rfl
      have e2 : (bif P.any (fun p => !pkS st p.data.toList) then (([] : List ByteArray), false) else (P, true)) = bif (pcs 46 s.data.toList).all (pkS st) then (P, true) else ([], false) := by
        rw [e]
        cases P.any fun p => !pkS st p.data.toList <;> rfl
      rw [e2, ← hP] at q
      subst hP
      exact Ev.congr (fun k => by simp only [mastref2_RouteParts.f, h4, he, cond_false, hsp, Option.bind_some]; rfl) q
/-! The order of strings. -/
theorem bl_irr : ∀ a : List UInt8, Op.bytesLess a a = false
  | [] => rfl
  | x :: a => by simp [Op.bytesLess, bl_irr a]
theorem bl_trans : ∀ a b c : List UInt8, Op.bytesLess a b = true → Op.bytesLess b c = true → Op.bytesLess a c = true
  | _, [], _, h, _ => by simp [Op.bytesLess] at h
  | _, _ :: _, [], _, h => by simp [Op.bytesLess] at h
  | [], _ :: _, _ :: _, _, _ => rfl
  | x :: a, y :: b, z :: c, h1, h2 => by
    simp only [Op.bytesLess, Bool.or_eq_true, Bool.and_eq_true, decide_eq_true_eq, beq_iff_eq] at h1 h2 ⊢
    rcases h1 with h1 | ⟨h1, h3⟩
    · rcases h2 with h2 | ⟨h2, _⟩
      · exact .inl (UInt8.lt_trans h1 h2)
      · exact .inl (h2 ▸ h1)
    · rcases h2 with h2 | ⟨h2, h4⟩
      · exact .inl (h1 ▸ h2)
      · exact .inr ⟨h1.trans h2, bl_trans a b c h3 h4⟩
theorem bl_total : ∀ a b : List UInt8, Op.bytesLess a b = false → a ≠ b → Op.bytesLess b a = true
  | [], [], _, h => absurd rfl h
  | [], _ :: _, h, _ => by simp [Op.bytesLess] at h
  | _ :: _, [], _, _ => rfl
  | x :: a, y :: b, h, hne => by
    simp only [Op.bytesLess, Bool.or_eq_false_iff, Bool.and_eq_false_iff, decide_eq_false_iff_not, beq_eq_false_iff_ne] at h
    simp only [Op.bytesLess, Bool.or_eq_true, Bool.and_eq_true, decide_eq_true_eq, beq_iff_eq]
    by_cases e : x = y
    · subst e
      right
      refine ⟨rfl, bl_total a b (h.2.resolve_left fun q => q rfl) fun q => hne (by rw [q])⟩
    · left
      rcases Nat.lt_trichotomy x.toNat y.toNat with q | q | q
      · exact absurd (UInt8.lt_iff_toNat_lt.2 q) h.1
      · exact absurd (UInt8.toNat_inj.1 q) e
      · exact UInt8.lt_iff_toNat_lt.2 q
theorem sl_irr (a : ByteArray) : slt a a = false := bl_irr _
theorem sl_trans {a b c : ByteArray} (h1 : slt a b = true) (h2 : slt b c = true) : slt a c = true := bl_trans _ _ _ h1 h2
theorem sl_total {a b : ByteArray} (h : sle a b = false) : slt b a = true := by
  unfold sle at h
  obtain ⟨h1, h2⟩ := Bool.or_eq_false_iff.1 h
  refine bl_total _ _ h1 fun e => ?_
  unfold seq at h2
  rw [e] at h2
  simp at h2
/-! The order of values. -/
def sg3 (a b : Int) : Int := bif ilt a b then -1 else bif ilt b a then 1 else 0
theorem cmp_ok (a b : Int) : cmp_Compare_int.f a b = some (sg3 a b) := by
  simp only [cmp_Compare_int.f, cmp_isNaN_int.f, ieq_self, Option.bind_some, Bool.not_true, cond_false, sg3]
  cases ilt a b <;> cases ilt b a <;> rfl
theorem sg3_zero (a b : Int) : ieq (sg3 a b) 0 = ieq a b := by
  unfold sg3
  rcases Int.lt_trichotomy a b with h | h | h
  · rw [ilt_t h, ieq_f (show a ≠ b by omega)]; rfl
  · rw [ilt_f (show b ≤ a by omega), ilt_f (show a ≤ b by omega), ieq_t h]; rfl
  · rw [ilt_f (show b ≤ a by omega), ilt_t h, ieq_f (show a ≠ b by omega)]; rfl
theorem sg3_self (a : Int) : sg3 a a = 0 := by unfold sg3; rw [ilt_f (Int.le_refl a)]; rfl
/-- The order of strings as a number. -/
def scm (a b : ByteArray) : Int := Lib.compareBytes a.data.toList b.data.toList
theorem cb_self : ∀ a : List UInt8, Lib.compareBytes a a = 0
  | [] => rfl
  | x :: a => by simp only [Lib.compareBytes, UInt8.lt_irrefl, if_false, cb_self a]
theorem cb_lt : ∀ a b : List UInt8, Lib.compareBytes a b = bif Op.bytesLess a b then -1 else bif Op.bytesLess b a then 1 else 0
  | [], [] => rfl
  | [], _ :: _ => rfl
  | _ :: _, [] => rfl
  | x :: a, y :: b => by
    have ih := cb_lt a b
    simp only [Lib.compareBytes, Op.bytesLess]
    by_cases h1 : x < y
    · simp [h1]
    · by_cases h2 : y < x
      · have : x ≠ y := fun e => by subst e; exact h1 h2
        have e2 : (x == y) = false := beq_eq_false_iff_ne.2 this
        simp [h1, h2, e2]
      · have e : x = y := by
          rcases Nat.lt_trichotomy x.toNat y.toNat with q | q | q
          · exact absurd (UInt8.lt_iff_toNat_lt.2 q) h1
          · exact UInt8.toNat_inj.1 q
          · exact absurd (UInt8.lt_iff_toNat_lt.2 q) h2
        subst e
        simp [ih]
theorem scm_slt (a b : ByteArray) : scm a b = bif slt a b then -1 else bif slt b a then 1 else 0 := by
  unfold scm slt
  rw [cb_lt, ByteArray.toList_eq a, ByteArray.toList_eq b]
theorem scm_ok (a b : ByteArray) : cmp_Compare_string.f a b = some (scm a b) := by
  have h : ∀ a, cmp_isNaN_string.f a = some false := fun a => by simp only [cmp_isNaN_string.f, seq_self, Bool.not_true]
  rw [scm_slt]
  simp only [cmp_Compare_string.f, h, Option.bind_some, cond_false]
  cases h1 : slt a b with
  | true => rfl
  | false =>
    cases h2 : sle a b with
    | false => rw [sl_total h2]; rfl
    | true =>
      have e : slt b a = false := by
        unfold sle at h2
        rw [h1, Bool.false_or, seq_d] at h2
        rw [of_decide_eq_true h2, sl_irr]
      rw [e]; rfl
def cks : List ByteArray → List ByteArray → Int
  | [], [] => 0
  | [], _ :: _ => -1
  | _ :: _, [] => 1
  | a :: r, b :: t => bif !ieq (scm a b) 0 then scm a b else cks r t
theorem keys_loop (l m : List ByteArray) (hl : l.length ≤ 2000000) (hm : m.length ≤ 2000000) : ∀ (d j : Nat), l.length - j ≤ d → j ≤ l.length → j ≤ m.length → Ev (fun k => slices_Compare_string_string.l0 k l m l (llen l) (j : Int)) (cks (l.drop j) (m.drop j)) := by
  intro d
  have last : ∀ j : Nat, l.length ≤ j → j ≤ l.length → j ≤ m.length → Ev (fun k => slices_Compare_string_string.l0 k l m l (llen l) (j : Int)) (cks (l.drop j) (m.drop j)) := fun j hj hj2 hj3 => by
    rw [List.drop_eq_nil_of_le hj]
    rcases Nat.lt_or_ge j m.length with q | q
    · rw [List.drop_eq_getElem_cons q]
      refine Ev.step (g := fun _ => some (-1)) (fun k => ?_) (Ev.now fun _ => rfl)
      simp only [slices_Compare_string_string.l0, llen_eq, ilt_f (show (l.length : Int) ≤ (j : Int) by omega), cond_false, ilt_t (show (l.length : Int) < (m.length : Int) by omega), cond_true]
    · rw [List.drop_eq_nil_of_le q]
      refine Ev.step (g := fun _ => some 0) (fun k => ?_) (Ev.now fun _ => rfl)
      simp only [slices_Compare_string_string.l0, llen_eq, ilt_f (show (l.length : Int) ≤ (j : Int) by omega), cond_false, ilt_f (show (m.length : Int) ≤ (l.length : Int) by omega)]
  induction d with
  | zero => intro j hd h1 h2; exact last j (by omega) h1 h2
  | succ d ih =>
    intro j hd h1 h2
    rcases Nat.lt_or_ge j l.length with hlt | hge
    · rcases Nat.lt_or_ge j m.length with q | q
      · rw [List.drop_eq_getElem_cons hlt, List.drop_eq_getElem_cons q]
        simp only [cks]
        have st : ∀ k, slices_Compare_string_string.l0 (k + 1) l m l (llen l) (j : Int) = bif !ieq (scm l[j] m[j]) 0 then some (scm l[j] m[j]) else slices_Compare_string_string.l0 k l m l (llen l) ((j + 1 : Nat) : Int) := fun k => by
          simp only [slices_Compare_string_string.l0, llen_eq, ilt_t (show (j : Int) < (l.length : Int) by omega), cond_true, lat_lt hlt, lat_lt q, Option.bind_some, ile_f (show (j : Int) < (m.length : Int) by omega), cond_false, scm_ok, u0 (show j ≤ 4611686018427387904 by omega)]
        cases h : ieq (scm l[j] m[j]) 0 with
        | false => exact Ev.step (g := fun _ => some (scm l[j] m[j])) (fun k => by rw [st, h]; rfl) (Ev.now fun _ => rfl)
        | true => exact Ev.step (fun k => by rw [st, h]; rfl) (ih (j + 1) (by omega) hlt q)
      · rw [List.drop_eq_getElem_cons hlt, List.drop_eq_nil_of_le q]
        refine Ev.step (g := fun _ => some 1) (fun k => ?_) (Ev.now fun _ => rfl)
        simp only [slices_Compare_string_string.l0, llen_eq, ilt_t (show (j : Int) < (l.length : Int) by omega), cond_true, lat_lt hlt, Option.bind_some, ile_t (show (m.length : Int) ≤ (j : Int) by omega)]
    · exact last j hge h1 h2
theorem keys_ok (l m : List ByteArray) (hl : l.length ≤ 2000000) (hm : m.length ≤ 2000000) : Ev (fun k => slices_Compare_string_string.f k l m) (cks l m) := by
  have := keys_loop l m hl hm l.length 0 (by omega) (by omega) (by omega)
  rw [List.drop_zero, List.drop_zero] at this
  exact Ev.congr (fun k => by simp only [slices_Compare_string_string.f]; rfl) this
theorem cks_self : ∀ l, cks l l = 0
  | [] => rfl
  | a :: r => by simp only [cks, scm, cb_self]; exact cks_self r
def or3 (a b c : Int) : Int := bif !ieq a 0 then a else bif !ieq b 0 then b else bif !ieq c 0 then c else 0
theorem or_ok (a b c : Int) : Ev (fun k => cmp_Or_int.f k [a, b, c]) (or3 a b c) := by
    unfold or3
    have w1 : wadd .i64 0 1 = 1 := rfl
    have w2 : wadd .i64 1 1 = 2 := rfl
    have w3 : wadd .i64 2 1 = 3 := rfl
    have l3 : Ev (fun k => cmp_Or_int.l0 k 0 [a, b, c] 3 3) 0 := Ev.step (g := fun _ => some 0) (fun k => by simp only [cmp_Or_int.l0]; rfl) (Ev.now fun _ => rfl)
    have l2 : Ev (fun k => cmp_Or_int.l0 k 0 [a, b, c] 3 2) (bif !ieq c 0 then c else 0) := by
      cases h : ieq c 0 with
      | true => exact Ev.step (fun k => by simp only [cmp_Or_int.l0, w3]; rw [show ilt 2 3 = true from rfl, show lat [a, b, c] 2 = some c from rfl]; simp only [cond_true, Option.bind_some, h, Bool.not_true, cond_false]) l3
      | false => exact Ev.step (g := fun _ => some c) (fun k => by simp only [cmp_Or_int.l0]; rw [show ilt 2 3 = true from rfl, show lat [a, b, c] 2 = some c from rfl]; simp only [cond_true, Option.bind_some, h, Bool.not_false]) (Ev.now fun _ => rfl)
    have l1 : Ev (fun k => cmp_Or_int.l0 k 0 [a, b, c] 3 1) (bif !ieq b 0 then b else bif !ieq c 0 then c else 0) := by
      cases h : ieq b 0 with
      | true => exact Ev.step (fun k => by simp only [cmp_Or_int.l0, w2]; rw [show ilt 1 3 = true from rfl, show lat [a, b, c] 1 = some b from rfl]; simp only [cond_true, Option.bind_some, h, Bool.not_true, cond_false]) l2
      | false => exact Ev.step (g := fun _ => some b) (fun k => by simp only [cmp_Or_int.l0]; rw [show ilt 1 3 = true from rfl, show lat [a, b, c] 1 = some b from rfl]; simp only [cond_true, Option.bind_some, h, Bool.not_false]) (Ev.now fun _ => rfl)
    have l0 : Ev (fun k => cmp_Or_int.l0 k 0 [a, b, c] 3 0) (bif !ieq a 0 then a else bif !ieq b 0 then b else bif !ieq c 0 then c else 0) := by
      cases h : ieq a 0 with
      | true => exact Ev.step (fun k => by simp only [cmp_Or_int.l0, w1]; rw [show ilt 0 3 = true from rfl, show lat [a, b, c] 0 = some a from rfl]; simp only [cond_true, Option.bind_some, h, Bool.not_true, cond_false]) l1
      | false => exact Ev.step (g := fun _ => some a) (fun k => by simp only [cmp_Or_int.l0]; rw [show ilt 0 3 = true from rfl, show lat [a, b, c] 0 = some a from rfl]; simp only [cond_true, Option.bind_some, h, Bool.not_false]) (Ev.now fun _ => rfl)
    exact Ev.congr (fun k => by simp only [cmp_Or_int.f]; rfl) l0
/-- What two values are by themselves. -/
def own2 (a b : T_api_Value) : Int :=
  bif !ieq (sg3 a.fKind b.fKind) 0 then sg3 a.fKind b.fKind else bif !(a.fBool == b.fBool) then (bif b.fBool then -1 else 1) else or3 (sg3 a.fInt b.fInt) (scm a.fText b.fText) (cks a.fKeys b.fKeys)
mutual
def cmpv : T_api_Value → T_api_Value → Int
  | ⟨k, b, i, t, l, s⟩, v => bif !ieq (own2 ⟨k, b, i, t, l, s⟩ v) 0 then own2 ⟨k, b, i, t, l, s⟩ v else cmpl l v.fItems
def cmpl : List T_api_Value → List T_api_Value → Int
  | [], [] => 0
  | [], _ :: _ => -1
  | _ :: _, [] => 1
  | a :: r, b :: t => bif !ieq (cmpv a b) 0 then cmpv a b else cmpl r t
end
theorem cmpv_eq (a b : T_api_Value) : cmpv a b = bif !ieq (own2 a b) 0 then own2 a b else cmpl a.fItems b.fItems := by cases a; simp only [cmpv]
theorem items_loop (a b : T_api_Value) (ha : wt a ≤ 2000000) (hb : wt b ≤ 2000000) (ih : ∀ x ∈ a.fItems, ∀ y, wt y ≤ 2000000 → Ev (fun k => mastref2_CompareOf.f k x y) (cmpv x y)) : ∀ (d j : Nat), a.fItems.length - j ≤ d → j ≤ a.fItems.length → j ≤ b.fItems.length →
    Ev (fun k => mastref2_CompareOf.l0 k a.fKind a.fBool a.fInt a.fText a.fItems a.fKeys b.fKind b.fBool b.fInt b.fText b.fItems b.fKeys (j : Int)) (cmpl (a.fItems.drop j) (b.fItems.drop j)) := by
  rw [wt_eq] at ha hb
  have hla := len_le a.fItems
  have hlb := len_le b.fItems
  have fin : ∀ (j : Nat), (a.fItems.length ≤ j ∨ b.fItems.length ≤ j) → Ev (fun k => mastref2_CompareOf.l0 k a.fKind a.fBool a.fInt a.fText a.fItems a.fKeys b.fKind b.fBool b.fInt b.fText b.fItems b.fKeys (j : Int)) (sg3 (llen a.fItems) (llen b.fItems)) := fun j h => by
    refine Ev.step (g := fun _ => some (sg3 (llen a.fItems) (llen b.fItems))) (fun k => ?_) (Ev.now fun _ => rfl)
    have : (bif ilt (j : Int) (llen a.fItems) then ilt (j : Int) (llen b.fItems) else false) = false := by
      rcases h with h | h
      · rw [llen_eq, ilt_f (show (a.fItems.length : Int) ≤ (j : Int) by omega)]; rfl
      · rw [llen_eq, llen_eq, ilt_f (show (b.fItems.length : Int) ≤ (j : Int) by omega)]; cases ilt (j : Int) (a.fItems.length : Int) <;> rfl
    simp only [mastref2_CompareOf.l0, this, cond_false, cmp_ok, Option.bind_some]
  intro d
  induction d with
  | zero =>
    intro j hd h1 h2
    have := fin j (.inl (by omega))
    rw [List.drop_eq_nil_of_le (show a.fItems.length ≤ j by omega)]
    rcases Nat.lt_or_ge j b.fItems.length with q | q
    · rw [List.drop_eq_getElem_cons q]
      unfold sg3 at this
      rw [llen_eq, llen_eq, ilt_t (show (a.fItems.length : Int) < (b.fItems.length : Int) by omega)] at this
      exact this
    · rw [List.drop_eq_nil_of_le q]
      unfold sg3 at this
      rw [llen_eq, llen_eq, ilt_f (show (b.fItems.length : Int) ≤ (a.fItems.length : Int) by omega), ilt_f (show (a.fItems.length : Int) ≤ (b.fItems.length : Int) by omega)] at this
      exact this
  | succ d hi =>
    intro j hd h1 h2
    rcases Nat.lt_or_ge j a.fItems.length with hlt | hge
    · rcases Nat.lt_or_ge j b.fItems.length with q | q
      · rw [List.drop_eq_getElem_cons hlt, List.drop_eq_getElem_cons q]
        have hy : wt b.fItems[j] ≤ 2000000 := by have := wt_mem (List.getElem_mem q); omega
        have c := ih _ (List.getElem_mem hlt) b.fItems[j] hy
        refine Ev.step (fun k => by simp only [mastref2_CompareOf.l0, llen_eq, Go.Proofs.YtibnepagledbjaaGreatDoor.Lift.ilen _ _ hlt, Go.Proofs.YtibnepagledbjaaGreatDoor.Lift.ilen _ _ q, cond_true, lat_lt hlt, lat_lt q, Option.bind_some]; rfl) (Ev.bind c ?_)
        simp only [cmpl]
        cases ieq (cmpv a.fItems[j] b.fItems[j]) 0 with
        | false => exact Ev.now fun _ => rfl
        | true =>
          have := hi (j + 1) (by omega) hlt q
          simp only [Bool.not_true, cond_false, u0 (show j ≤ 4611686018427387904 by omega)]
          exact this
      · have := fin j (.inr q)
        rw [List.drop_eq_getElem_cons hlt, List.drop_eq_nil_of_le q]
        unfold sg3 at this
        rw [llen_eq, llen_eq, ilt_f (show (b.fItems.length : Int) ≤ (a.fItems.length : Int) by omega), ilt_t (show (b.fItems.length : Int) < (a.fItems.length : Int) by omega)] at this
        exact this
    · have := fin j (.inl hge)
      rw [List.drop_eq_nil_of_le hge]
      rcases Nat.lt_or_ge j b.fItems.length with q | q
      · rw [List.drop_eq_getElem_cons q]
        unfold sg3 at this
        rw [llen_eq, llen_eq, ilt_t (show (a.fItems.length : Int) < (b.fItems.length : Int) by omega)] at this
        exact this
      · rw [List.drop_eq_nil_of_le q]
        unfold sg3 at this
        rw [llen_eq, llen_eq, ilt_f (show (b.fItems.length : Int) ≤ (a.fItems.length : Int) by omega), ilt_f (show (a.fItems.length : Int) ≤ (b.fItems.length : Int) by omega)] at this
        exact this
theorem cmpR_ok : ∀ a, wt a ≤ 2000000 → ∀ b, wt b ≤ 2000000 → Ev (fun k => mastref2_CompareOf.f k a b) (cmpv a b) := tree fun a ih ha b hb => by
  rw [cmpv_eq]
  have il := items_loop a b ha hb (fun x hx y hy => ih x hx (by have := wt_mem hx; rw [wt_eq] at ha; omega) y hy) a.fItems.length 0 (by omega) (by omega) (by omega)
  rw [List.drop_zero, List.drop_zero] at il
  rw [wt_eq] at ha hb
  have hka := klen_le a.fKeys
  have hkb := klen_le b.fKeys
  have st : ∀ k, mastref2_CompareOf.f (k + 1) a b = bif !ieq (sg3 a.fKind b.fKind) 0 then some (sg3 a.fKind b.fKind) else bif !(a.fBool == b.fBool) then (bif b.fBool then some (-1) else some 1) else (slices_Compare_string_string.f k a.fKeys b.fKeys).bind fun y4 => (cmp_Or_int.f k [sg3 a.fInt b.fInt, scm a.fText b.fText, y4]).bind fun y5 => bif !ieq y5 0 then some y5 else mastref2_CompareOf.l0 k a.fKind a.fBool a.fInt a.fText a.fItems a.fKeys b.fKind b.fBool b.fInt b.fText b.fItems b.fKeys ((0 : Nat) : Int) := fun k => by
    have hs : strings_Compare.f a.fText b.fText = some (scm a.fText b.fText) := rfl
    simp only [mastref2_CompareOf.f, cmp_ok, Option.bind_some, hs]
    rfl
  unfold own2
  cases h1 : !ieq (sg3 a.fKind b.fKind) 0 with
  | true =>
    refine Ev.step (g := fun _ => some (sg3 a.fKind b.fKind)) (fun k => by rw [st, h1]; rfl) (Ev.now fun _ => ?_)
    simp only [cond_true, h1]
  | false =>
    cases h2 : !(a.fBool == b.fBool) with
    | true =>
      cases h3 : b.fBool with
      | true => exact Ev.step (g := fun _ => some (-1)) (fun k => by rw [st, h1, h2, h3]; rfl) (Ev.now fun _ => rfl)
      | false => exact Ev.step (g := fun _ => some 1) (fun k => by rw [st, h1, h2, h3]; rfl) (Ev.now fun _ => rfl)
    | false =>
      refine Ev.step (fun k => by rw [st, h1, h2]; rfl) (Ev.bind (keys_ok a.fKeys b.fKeys (by omega) (by omega)) (Ev.bind (or_ok _ _ _) ?_))
      simp only [cond_false]
      cases h3 : !ieq (or3 (sg3 a.fInt b.fInt) (scm a.fText b.fText) (cks a.fKeys b.fKeys)) 0 with
      | true => exact Ev.now fun _ => rfl
      | false => exact il
theorem own2_self (a : T_api_Value) : own2 a a = 0 := by
  have h1 : (a.fBool == a.fBool) = true := by cases a.fBool <;> rfl
  unfold own2 or3 scm
  rw [sg3_self, sg3_self, cb_self, cks_self, h1]
  rfl
mutual
theorem cmpv_self : ∀ a, cmpv a a = 0
  | ⟨k, b, i, t, l, s⟩ => by
    simp only [cmpv, own2_self]
    exact cmpl_self l
theorem cmpl_self : ∀ l, cmpl l l = 0
  | [] => by simp only [cmpl]
  | a :: r => by
    simp only [cmpl, cmpv_self a]
    exact cmpl_self r
end

/-! What a right value is. -/
def zro : T_api_Value := ⟨0, false, 0, c_empty, [], []⟩
theorem vfs_zero : ∀ {l : List T_api_Value}, vfs l = 0 → ∀ k ∈ l, vf k = 0
  | a :: l, h, k, hk => by
    simp only [vfs] at h
    by_cases e : vf a = 0
    · rw [ieq_t e, cond_true] at h
      rcases List.mem_cons.1 hk with q | q
      · rw [q]; exact e
      · exact vfs_zero h k q
    · rw [ieq_f e, cond_false] at h; exact absurd h e
theorem vf_zero {v : T_api_Value} (h : vf v = 0) : own v = 0 ∧ vfs v.fItems = 0 := by
  rw [vf_eq] at h
  by_cases e : own v = 0
  · rw [ieq_t e, cond_true] at h; exact ⟨e, h⟩
  · rw [ieq_f e, cond_false] at h; exact absurd h e
theorem own_zero {v : T_api_Value} (h : own v = 0) : un2 v = false ∧ ks none v.fKeys = 0 := by
  unfold own at h
  cases h1 : ilt v.fKind 0 || ilt 6 v.fKind with
  | true => rw [h1] at h; exact nomatch h
  | false =>
    rw [h1, cond_false] at h
    cases h2 : (un v || un2 v) with
    | true => rw [h2] at h; exact nomatch h
    | false =>
      rw [h2, cond_false] at h
      cases h3 : (ieq v.fKind 4 && (ilt v.fInt 0 || ilt 84005 v.fInt)) with
      | true => rw [h3] at h; exact nomatch h
      | false =>
        rw [h3, cond_false] at h
        cases h4 : ilt 5000 (slen v.fText) with
        | true => rw [h4] at h; exact nomatch h
        | false =>
          rw [h4, cond_false] at h
          cases h5 : bad v.fText with
          | true => rw [h5] at h; exact nomatch h
          | false =>
            rw [h5, cond_false] at h
            exact ⟨(Bool.or_eq_false_iff.1 h2).2, h⟩
theorem len_of {v : T_api_Value} (h : un2 v = false) (h6 : v.fKind = 6) : v.fKeys.length = v.fItems.length := by
  unfold un2 at h
  rw [ieq_t h6, Bool.true_and, llen_eq, llen_eq, ieq_d] at h
  have : (v.fKeys.length : Int) = (v.fItems.length : Int) := by simpa using h
  omega
abbrev Srt (l : List ByteArray) : Prop := l.Pairwise fun a b => slt a b = true
theorem ks_srt : ∀ (l : List ByteArray) (p : Option ByteArray), ks p l = 0 → (∀ y, p = some y → ∀ x ∈ l, slt y x = true) ∧ Srt l
  | [], p, _ => ⟨(fun _ _ _ h => nomatch h), List.Pairwise.nil⟩
  | x :: r, p, h => by
    simp only [ks] at h
    cases hk : key x with
    | false => rw [hk] at h; exact nomatch h
    | true =>
      rw [hk] at h
      simp only [Bool.not_true, cond_false] at h
      cases hp : (match p with | none => false | some y => sle x y) with
      | true => rw [hp] at h; exact nomatch h
      | false =>
        rw [hp, cond_false] at h
        obtain ⟨i1, i2⟩ := ks_srt r (some x) h
        have i1 := i1 x rfl
        refine ⟨fun y hy z hz => ?_, .cons i1 i2⟩
        subst hy
        have hyx : slt y x = true := sl_total hp
        rcases List.mem_cons.1 hz with e | e
        · rw [e]; exact hyx
        · exact sl_trans hyx (i1 z e)

/-! Looking up a key. -/
def cnt (p : ByteArray) : List ByteArray → Nat
  | [] => 0
  | x :: r => bif slt x p then cnt p r + 1 else 0
theorem cnt_le (p : ByteArray) : ∀ l, cnt p l ≤ l.length
  | [] => Nat.le_refl _
  | x :: r => by
    have := cnt_le p r
    simp only [cnt, List.length_cons]
    cases slt x p <;> simp <;> omega
theorem cnt_lt (p : ByteArray) : ∀ (l : List ByteArray) (i : Nat) (h : i < l.length), i < cnt p l → slt l[i] p = true
  | x :: r, i, h, hi => by
    simp only [cnt] at hi
    cases hx : slt x p with
    | false => rw [hx] at hi; simp at hi
    | true =>
      rw [hx, cond_true] at hi
      cases i with
      | zero => exact hx
      | succ i => exact cnt_lt p r i (by simpa using h) (by omega)
theorem cnt_ge (p : ByteArray) : ∀ (l : List ByteArray), Srt l → ∀ (i : Nat) (h : i < l.length), cnt p l ≤ i → slt l[i] p = false
  | x :: r, hs, i, h, hi => by
    obtain ⟨h1, h2⟩ := List.pairwise_cons.1 hs
    simp only [cnt] at hi
    cases hx : slt x p with
    | true =>
      rw [hx, cond_true] at hi
      cases i with
      | zero => omega
      | succ i => exact cnt_ge p r h2 i (by simpa using h) (by omega)
    | false =>
      cases i with
      | zero => exact hx
      | succ i =>
        cases q : slt (x :: r)[i + 1] p with
        | false => rfl
        | true =>
          have hi' : i < r.length := by simpa using h
          have : slt x r[i] = true := h1 _ (List.getElem_mem hi')
          rw [sl_trans this q] at hx; cases hx
theorem fl_at {β : Type} (q : ByteArray → Bool) (hit : Nat → β) (fin : β) : ∀ (l : List ByteArray) (j0 t : Nat) (h : t < l.length), q l[t] = true → (∀ i (hi : i < l.length), i < t → q l[i] = false) → fl q hit fin j0 l = hit (j0 + t)
  | x :: r, j0, 0, h, hq, _ => by
    have : q x = true := hq
    simp only [fl, this, cond_true, Nat.add_zero]
  | x :: r, j0, t + 1, h, hq, hn => by
    have h0 : q x = false := hn 0 (by simp) (by omega)
    simp only [fl, h0, cond_false]
    rw [fl_at q hit fin r (j0 + 1) t (by simpa using h) hq (fun i hi ht => hn (i + 1) (by simpa using hi) (by omega))]
    congr 1; omega
theorem fl_no {β : Type} (q : ByteArray → Bool) (hit : Nat → β) (fin : β) : ∀ (l : List ByteArray) (j0 : Nat), (∀ x ∈ l, q x = false) → fl q hit fin j0 l = fin
  | [], _, _ => rfl
  | x :: r, j0, h => by
    simp only [fl, h x (List.mem_cons_self ..), cond_false]
    exact fl_no q hit fin r (j0 + 1) fun y hy => h y (List.mem_cons_of_mem _ hy)
/-- The place of a key among sorted ones. -/
theorem place {β : Type} (p : ByteArray) (l : List ByteArray) (hs : Srt l) (hit : Nat → β) (fin : β) : fl (fun s => seq s p) hit fin 0 l = if h : cnt p l < l.length then (bif seq l[cnt p l] p then hit (cnt p l) else fin) else fin := by
  have low : ∀ i (hi : i < l.length), i < cnt p l → seq l[i] p = false := fun i hi ht => by
    have h1 := cnt_lt p l i hi ht
    rw [seq_d]
    refine decide_eq_false fun e => ?_
    rw [e, sl_irr] at h1; cases h1
  by_cases h : cnt p l < l.length
  · rw [dif_pos h]
    cases hq : seq l[cnt p l] p with
    | true =>
      rw [cond_true, fl_at (fun s => seq s p) hit fin l 0 (cnt p l) h hq low, Nat.zero_add]
    | false =>
      refine fl_no _ hit fin l 0 fun x hx => ?_
      obtain ⟨i, hi, rfl⟩ := List.getElem_of_mem hx
      rcases Nat.lt_trichotomy i (cnt p l) with q | q | q
      · exact low i hi q
      · subst q; exact hq
      · cases e : seq l[i] p with
        | false => rfl
        | true =>
          have e : l[i] = p := by rw [seq_d] at e; exact of_decide_eq_true e
          have h1 := List.pairwise_iff_getElem.1 hs (cnt p l) i h hi q
          have h2 := cnt_ge p l hs (cnt p l) h (Nat.le_refl _)
          rw [e, h2] at h1; cases h1
  · rw [dif_neg h]
    refine fl_no _ hit fin l 0 fun x hx => ?_
    obtain ⟨i, hi, rfl⟩ := List.getElem_of_mem hx
    exact low i hi (by omega)
theorem mid_ok {lo hi : Nat} (h : lo + hi ≤ 4611686018427387904) : wcv .i64 (ishr .u64 (wcv .u64 (wadd .i64 (lo : Int) (hi : Int))) 1) = (((lo + hi) / 2 : Nat) : Int) := by
  have h1 : wadd .i64 (lo : Int) (hi : Int) = ((lo + hi : Nat) : Int) := by rw [wadd64 (by omega) (by omega)]; omega
  have h2 : wcv .u64 ((lo + hi : Nat) : Int) = ((lo + hi : Nat) : Int) := wrap_u rfl (by omega) (by show ((lo + hi : Nat) : Int) < 2 ^ 64; omega)
  have h3 : ishr .u64 ((lo + hi : Nat) : Int) 1 = (((lo + hi) / 2 : Nat) : Int) := by
    unfold ishr
    rw [show min (1 : Int).toNat IntKind.u64.bits = 1 from rfl, Int.fdiv_eq_ediv_of_nonneg _ (by decide)]
    omega
  rw [h1, h2, h3]
  unfold wcv
  exact wrap64 (by omega) (by omega)
theorem search_ok (p : ByteArray) (l : List ByteArray) (hs : Srt l) (hl : l.length ≤ 2000000) : ∀ (d lo hi : Nat), hi - lo ≤ d → lo ≤ cnt p l → cnt p l ≤ hi → hi ≤ l.length → Ev (fun k => sort_Search_at_sort_SearchStrings_c1.l0 k (lo : Int) (hi : Int) l p) ((cnt p l : Int), l, p, ()) := by
  have no : ilt 1 0 = false := rfl
  intro d
  induction d with
  | zero =>
    intro lo hi hd h1 h2 h3
    obtain rfl : lo = cnt p l := by omega
    refine Ev.step (g := fun _ => some ((cnt p l : Int), l, p, ())) (fun k => ?_) (Ev.now fun _ => rfl)
    simp only [sort_Search_at_sort_SearchStrings_c1.l0, ilt_f (show (hi : Int) ≤ (cnt p l : Int) by omega), cond_false]
  | succ d ih =>
    intro lo hi hd h1 h2 h3
    by_cases hlt : lo < hi
    · have hm : (lo + hi) / 2 < l.length := by omega
      have st : ∀ k, sort_Search_at_sort_SearchStrings_c1.l0 (k + 1) (lo : Int) (hi : Int) l p = bif slt l[(lo + hi) / 2] p then sort_Search_at_sort_SearchStrings_c1.l0 k (((lo + hi) / 2 + 1 : Nat) : Int) (hi : Int) l p else sort_Search_at_sort_SearchStrings_c1.l0 k (lo : Int) (((lo + hi) / 2 : Nat) : Int) l p := fun k => by
        simp only [sort_Search_at_sort_SearchStrings_c1.l0, ilt_t (show (lo : Int) < (hi : Int) by omega), cond_true, no, cond_false, mid_ok (show lo + hi ≤ 4611686018427387904 by omega), sort_SearchStrings_c1.f, lat_lt hm, Option.bind_some, u0 (show (lo + hi) / 2 ≤ 4611686018427387904 by omega), Bool.not_not]
      cases hq : slt l[(lo + hi) / 2] p with
      | true =>
        have : (lo + hi) / 2 < cnt p l := by
          rcases Nat.lt_or_ge ((lo + hi) / 2) (cnt p l) with q | q
          · exact q
          · rw [cnt_ge p l hs _ hm q] at hq; cases hq
        exact Ev.step (fun k => by rw [st, hq]; rfl) (ih _ _ (by omega) (by omega) h2 h3)
      | false =>
        have : cnt p l ≤ (lo + hi) / 2 := by
          rcases Nat.lt_or_ge ((lo + hi) / 2) (cnt p l) with q | q
          · rw [cnt_lt p l _ hm q] at hq; cases hq
          · exact q
        exact Ev.step (fun k => by rw [st, hq]; rfl) (ih _ _ (by omega) h1 this (by omega))
    · obtain rfl : lo = cnt p l := by omega
      refine Ev.step (g := fun _ => some ((cnt p l : Int), l, p, ())) (fun k => ?_) (Ev.now fun _ => rfl)
      simp only [sort_Search_at_sort_SearchStrings_c1.l0, ilt_f (show (hi : Int) ≤ (cnt p l : Int) by omega), cond_false]
/-- The item of a key. -/
def lk (v : T_api_Value) (p : ByteArray) : Option T_api_Value := bif ieq v.fKind 6 then fl (fun s => seq s p) (fun j => v.fItems[j]?) none 0 v.fKeys else none
def num (p : ByteArray) : Nat := ((strconv_Atoi.f p).getD 0).toNat
def stepv (v : T_api_Value) (p : ByteArray) : Option T_api_Value := bif key p then lk v p else bif ieq v.fKind 5 then v.fItems[num p]? else none
def out (o : Option T_api_Value) : T_api_Value × Bool := match o with | some x => (x, true) | none => (zro, false)

theorem find_ok (v : T_api_Value) (p : ByteArray) (hs : Srt v.fKeys) (hl : v.fKeys.length ≤ 2000000) : Ev (fun k => conf_find.f k v p) ((cnt p v.fKeys : Int), if h : cnt p v.fKeys < v.fKeys.length then seq v.fKeys[cnt p v.fKeys] p else false) := by
  have hc := cnt_le p v.fKeys
  have q := search_ok p v.fKeys hs hl v.fKeys.length 0 v.fKeys.length (by omega) (by omega) hc (Nat.le_refl _)
  have q2 : Ev (fun k => sort_SearchStrings.f k v.fKeys p) (cnt p v.fKeys : Int) := by
    refine Ev.congr (g := fun k => (sort_Search_at_sort_SearchStrings_c1.l0 k ((0 : Nat) : Int) (v.fKeys.length : Int) v.fKeys p).bind fun y1 => some y1.1) (fun k => ?_) (Ev.bind q (Ev.now fun _ => rfl))
    simp only [sort_SearchStrings.f, sort_Search_at_sort_SearchStrings_c1.f]
    rfl
  refine Ev.congr (fun k => by simp only [conf_find.f]; rfl) (Ev.bind q2 ?_)
  by_cases h : cnt p v.fKeys < v.fKeys.length
  · rw [dif_pos h]
    simp only [llen_eq, ilt_t (show (cnt p v.fKeys : Int) < (v.fKeys.length : Int) by omega), cond_true, lat_lt h, Option.bind_some]
    exact Ev.now fun _ => rfl
  · rw [dif_neg h]
    simp only [llen_eq, ilt_f (show (v.fKeys.length : Int) ≤ (cnt p v.fKeys : Int) by omega), cond_false]
    exact Ev.now fun _ => rfl

theorem follow_ok (v : T_api_Value) (p : ByteArray) (hv : wt v ≤ 1048576) (ho : own v = 0) (hp : pkS false p.data.toList = true) : Ev (fun k => conf_follow.f k v (stp p)) (out (stepv v p)) := by
  rw [wt_eq] at hv
  have hkl := klen_le v.fKeys
  have hil := len_le v.fItems
  obtain ⟨hu, hk0⟩ := own_zero ho
  have hs := (ks_srt v.fKeys none hk0).2
  unfold stepv
  cases hk : key p with
  | true =>
    have e1 : stp p = ⟨p, 0, false⟩ := by unfold stp; rw [hk]; rfl
    have hne : seq p c_empty = false := by
      rw [seq_empty]
      cases hb : p.data.toList with
      | nil => unfold key at hk; rw [hb] at hk; exact nomatch hk
      | cons _ _ => rfl
    rw [e1, cond_true]
    unfold lk
    cases h6 : ieq v.fKind 6 with
    | false => exact Ev.now fun k => by simp only [conf_follow.f, hne, Bool.not_false, cond_true, h6]; rfl
    | true =>
      have h66 : v.fKind = 6 := by rw [ieq_d] at h6; exact of_decide_eq_true h6
      have hlen := len_of hu h66
      rw [cond_true, place p v.fKeys hs]
      refine Ev.congr (fun k => by simp only [conf_follow.f, hne, Bool.not_false, cond_true, h6, Bool.not_true, cond_false, eta]; rfl) (Ev.bind (find_ok v p hs (by omega)) ?_)
      by_cases h : cnt p v.fKeys < v.fKeys.length
      · rw [dif_pos h, dif_pos h]
        cases seq v.fKeys[cnt p v.fKeys] p with
        | false => exact Ev.now fun _ => rfl
        | true =>
          have hi : cnt p v.fKeys < v.fItems.length := by omega
          simp only [Bool.not_true, cond_false, lat_lt hi, Option.bind_some, cond_true, List.getElem?_eq_getElem hi]
          exact Ev.now fun _ => rfl
      · rw [dif_neg h, dif_neg h]
        exact Ev.now fun _ => rfl
  | false =>
    have hdg : dg p.data.toList = true := by
      unfold pkS at hp
      rw [show keyL p.data.toList = key p from rfl, hk] at hp
      simpa using hp
    obtain ⟨n, hn⟩ := atoi_dg hdg
    have hnum : num p = n := by unfold num; rw [hn]; rfl
    have hst : seq p c__2a = false := by
      rw [seq_star]
      cases q : (p.data.toList == [42]) with
      | false => rfl
      | true => rw [beq_iff_eq.1 q] at hdg; exact absurd hdg (by decide)
    have e1 : stp p = ⟨c_empty, n, false⟩ := by unfold stp; rw [hk, hst, hn]; rfl
    rw [e1, cond_false, hnum]
    have st : ∀ k, conf_follow.f k v ⟨c_empty, (n : Int), false⟩ = bif (bif (!ieq v.fKind 5) then true else (ile (llen v.fItems) (n : Int))) then some (zro, false) else (lat v.fItems (n : Int)).bind fun y3 => some (y3, true) := fun k => by
      simp only [conf_follow.f, seq_self, Bool.not_true, cond_false, eta]; rfl
    refine Ev.now fun k => ?_
    rw [st]
    cases ieq v.fKind 5 with
    | false => rfl
    | true =>
      by_cases hi : n < v.fItems.length
      · rw [llen_eq, ile_f (show (n : Int) < (v.fItems.length : Int) by omega), lat_lt hi, List.getElem?_eq_getElem hi]; rfl
      · rw [llen_eq, ile_t (show (v.fItems.length : Int) ≤ (n : Int) by omega), List.getElem?_eq_none (by omega)]; rfl

theorem fl_idx {α : Type} (q : α → Bool) : ∀ (l : List α) (j0 : Nat), fl q (fun j => (j : Int)) (-1) j0 l = -1 ∨ ∃ m : Nat, m < j0 + l.length ∧ fl q (fun j => (j : Int)) (-1) j0 l = m
  | [], _ => .inl rfl
  | y :: r, j0 => by
    simp only [fl, List.length_cons]
    cases q y with
    | true => exact .inr ⟨j0, by omega, rfl⟩
    | false =>
      rcases fl_idx q r (j0 + 1) with h | ⟨m, h1, h2⟩
      · exact .inl h
      · exact .inr ⟨m, by omega, h2⟩
/-- As the reference goes. -/
theorem stepR_ok (v : T_api_Value) (p : ByteArray) (hv : wt v ≤ 1048576) (ho : own v = 0) (hp : pkS false p.data.toList = true) : ∃ i : Int, Ev (fun k => mastref2_Step.f k v p) i ∧ (bif ilt i 0 then none else lat v.fItems i) = stepv v p ∧ (ilt i 0 = false → (lat v.fItems i).isSome = true) := by
  rw [wt_eq] at hv
  have hkl := klen_le v.fKeys
  unfold stepv
  cases hk : key p with
  | true =>
    obtain ⟨c, r, hb, hsm⟩ : ∃ c r, p.data.toList = c :: r ∧ small c = true := by
      unfold key at hk
      cases hb : p.data.toList with
      | nil => rw [hb] at hk; exact nomatch hk
      | cons c r =>
        rw [hb] at hk
        simp only [keyL, Bool.and_eq_true] at hk
        exact ⟨c, r, rfl, hk.1.2⟩
    have h97 : ile 97 (c.toNat : Int) = true := by
      unfold small at hsm
      cases q : ile 97 (c.toNat : Int) with
      | true => rfl
      | false => rw [q] at hsm; exact nomatch hsm
    rw [cond_true]
    unfold lk
    cases h6 : ieq v.fKind 6 with
    | false =>
      refine ⟨-1, Ev.now fun k => ?_, rfl, fun h => nomatch h⟩
      simp only [mastref2_Step.f, sat_0 hb, Option.bind_some, h97, cond_true, h6, Bool.not_false]
    | true =>
      have q := find_pure v.fKeys 0 (Nat.zero_le _) (fun k j => slices_Index_string_string.l0 k v.fKeys p (llen v.fKeys) (j : Int)) (fun _ => some (-1)) (fun s => seq s p) (fun j => (j : Int)) (-1)
        (fun k j h => by
          simp only [slices_Index_string_string.l0, llen_eq, Go.Proofs.YtibnepagledbjaaGreatDoor.Lift.ilen _ _ h, cond_true, lat_lt h, Option.bind_some, u0 (show j ≤ 4611686018427387904 by omega)]
          rw [show seq p v.fKeys[j] = seq v.fKeys[j] p by rw [seq_d, seq_d]; congr 1; exact propext ⟨Eq.symm, Eq.symm⟩])
        (fun k => by simp only [slices_Index_string_string.l0, llen_eq, Go.Proofs.YtibnepagledbjaaGreatDoor.Lift.ilen', cond_false]) (Ev.now fun _ => rfl)
      rw [List.drop_zero] at q
      refine ⟨_, Ev.congr (g := fun k => (slices_Index_string_string.l0 k v.fKeys p (llen v.fKeys) 0).bind fun y2 => some y2) (fun k => ?_) (Ev.bind q (Ev.now fun _ => rfl)), ?_, fun hn => ?_⟩
      · simp only [mastref2_Step.f, sat_0 hb, Option.bind_some, h97, cond_true, h6, Bool.not_true, cond_false, slices_Index_string_string.f]
      · rw [cond_true, fl_map (fun i : Int => bif ilt i 0 then none else lat v.fItems i)]
        congr 1
      · have hlen := len_of (own_zero ho).1 (by rw [ieq_d] at h6; exact of_decide_eq_true h6)
        rcases fl_idx (fun s => seq s p) v.fKeys 0 with e | ⟨m, e1, e2⟩
        · rw [e] at hn; cases hn
        · rw [e2, lat_lt (show m < v.fItems.length by omega)]; rfl
  | false =>
    have hdg : dg p.data.toList = true := by
      unfold pkS at hp
      rw [show keyL p.data.toList = key p from rfl, hk] at hp
      simpa using hp
    obtain ⟨n, hn⟩ := atoi_dg hdg
    have hnum : num p = n := by unfold num; rw [hn]; rfl
    obtain ⟨c, r, hb, hd⟩ : ∃ c r, p.data.toList = c :: r ∧ digB c = true := by
      cases hb : p.data.toList with
      | nil => rw [hb] at hdg; exact nomatch hdg
      | cons c r =>
        rw [hb] at hdg
        simp only [dg, Bool.and_eq_true] at hdg
        exact ⟨c, r, rfl, List.all_eq_true.1 hdg.1.1 c (List.mem_cons_self ..)⟩
    have h97 : ile 97 (c.toNat : Int) = false := by
      unfold digB at hd
      cases q : ile 48 (c.toNat : Int) with
      | false => rw [q] at hd; exact nomatch hd
      | true =>
        rw [q, cond_true] at hd
        have := of_decide_eq_true hd
        exact ile_f (by omega)
    rw [cond_false, hnum]
    have st : ∀ k, mastref2_Step.f k v p = bif (bif (ieq v.fKind 5) then (ilt (n : Int) (llen v.fItems)) else false) then some (n : Int) else some (-1) := fun k => by
      simp only [mastref2_Step.f, sat_0 hb, Option.bind_some, h97, cond_false, hn]
    cases h5 : ieq v.fKind 5 with
    | false =>
      refine ⟨-1, Ev.now fun k => ?_, rfl, fun h => nomatch h⟩
      rw [st, h5]; rfl
    | true =>
      by_cases hi : n < v.fItems.length
      · refine ⟨n, Ev.now fun k => ?_, ?_, fun _ => ?_⟩
        · rw [st, h5, llen_eq, ilt_t (show (n : Int) < (v.fItems.length : Int) by omega)]; rfl
        · rw [ilt_f (show (0 : Int) ≤ (n : Int) by omega), cond_false, cond_true, lat_nat]
        · rw [lat_lt hi]; rfl
      · refine ⟨-1, Ev.now fun k => ?_, ?_, fun h => nomatch h⟩
        · rw [st, h5, llen_eq, ilt_f (show (v.fItems.length : Int) ≤ (n : Int) by omega)]; rfl
        · rw [cond_true, List.getElem?_eq_none (by omega)]; rfl

/-! Going along. -/
def nav : T_api_Value → List ByteArray → Option T_api_Value
  | v, [] => some v
  | v, p :: r => (stepv v p).bind fun x => nav x r
theorem fl_in {β : Type} (q : ByteArray → Bool) (hit : Nat → Option β) (P : β → Prop) (h : ∀ j x, hit j = some x → P x) : ∀ (l : List ByteArray) (j0 : Nat) (x : β), fl q hit none j0 l = some x → P x
  | [], _, x, e => by cases e
  | y :: r, j0, x, e => by
    simp only [fl] at e
    cases hq : q y with
    | true => rw [hq] at e; exact h _ _ e
    | false => rw [hq] at e; exact fl_in q hit P h r (j0 + 1) x e
theorem stepv_in {v x : T_api_Value} {p : ByteArray} (h : stepv v p = some x) : x ∈ v.fItems := by
  unfold stepv lk at h
  have get : ∀ j y, v.fItems[j]? = some y → y ∈ v.fItems := fun j y e => List.mem_iff_getElem?.2 ⟨j, e⟩
  cases hk : key p with
  | true =>
    rw [hk, cond_true] at h
    cases h6 : ieq v.fKind 6 with
    | false => rw [h6] at h; cases h
    | true => rw [h6] at h; exact fl_in _ _ _ get _ _ _ h
  | false =>
    rw [hk, cond_false] at h
    cases h5 : ieq v.fKind 5 with
    | false => rw [h5] at h; cases h
    | true => rw [h5] at h; exact get _ _ h
theorem get_loop (P : List ByteArray) (hP : P.length ≤ 3000000) (hok : ∀ p ∈ P, pkS false p.data.toList = true) (z : T_api_Value) : ∀ (d j : Nat) (v : T_api_Value), P.length - j ≤ d → j ≤ P.length → wt v ≤ 1048576 → vf v = 0 →
    Ev (fun k => conf_get.l0 k v.fKind v.fBool v.fInt v.fText v.fItems v.fKeys z.fKind z.fBool z.fInt z.fText z.fItems z.fKeys (P.map stp) (llen (P.map stp)) (j : Int)) (out (nav v (P.drop j))) := by
  have hml : (P.map stp).length = P.length := List.length_map _
  intro d
  have last : ∀ (j : Nat) (v : T_api_Value), P.length ≤ j → Ev (fun k => conf_get.l0 k v.fKind v.fBool v.fInt v.fText v.fItems v.fKeys z.fKind z.fBool z.fInt z.fText z.fItems z.fKeys (P.map stp) (llen (P.map stp)) (j : Int)) (out (nav v (P.drop j))) := fun j v hj => by
    rw [List.drop_eq_nil_of_le hj]
    refine Ev.step (g := fun _ => some (v, true)) (fun k => ?_) (Ev.now fun _ => rfl)
    simp only [conf_get.l0, llen_eq, ilt_f (show ((P.map stp).length : Int) ≤ (j : Int) by omega), cond_false, eta]
  induction d with
  | zero => intro j v hd hj hv h0; exact last j v (by omega)
  | succ d ih =>
    intro j v hd hj hv h0
    rcases Nat.lt_or_ge j P.length with hlt | hge
    · rw [List.drop_eq_getElem_cons hlt]
      obtain ⟨ho, hi⟩ := vf_zero h0
      have hf := follow_ok v P[j] hv ho (hok _ (List.getElem_mem hlt))
      have hm : lat (P.map stp) (j : Int) = some (stp P[j]) := by rw [lat_lt (by omega), List.getElem_map]
      refine Ev.step (fun k => by simp only [conf_get.l0, llen_eq, ilt_t (show (j : Int) < ((P.map stp).length : Int) by omega), cond_true, hm, Option.bind_some, eta]; rfl) (Ev.bind hf ?_)
      simp only [nav]
      cases hs : stepv v P[j] with
      | none => exact Ev.now fun _ => rfl
      | some x =>
        have hx := stepv_in hs
        have hw : wt x ≤ 1048576 := by have := wt_mem hx; rw [wt_eq] at hv; omega
        have := ih (j + 1) x (by omega) hlt hw (vfs_zero hi x hx)
        simp only [out, Bool.not_true, cond_false, Option.bind_some, u0 (show j ≤ 4611686018427387904 by omega)]
        exact this
    · exact last j v hge
theorem folR_loop (P : List ByteArray) (hP : P.length ≤ 3000000) (hok : ∀ p ∈ P, pkS false p.data.toList = true) (z : T_api_Value) : ∀ (d j : Nat) (v : T_api_Value), P.length - j ≤ d → j ≤ P.length → wt v ≤ 1048576 → vf v = 0 →
    Ev (fun k => mastref2_Follow.l0 k v.fKind v.fBool v.fInt v.fText v.fItems v.fKeys z.fKind z.fBool z.fInt z.fText z.fItems z.fKeys P (llen P) (j : Int)) (out (nav v (P.drop j))) := by
  intro d
  have last : ∀ (j : Nat) (v : T_api_Value), P.length ≤ j → Ev (fun k => mastref2_Follow.l0 k v.fKind v.fBool v.fInt v.fText v.fItems v.fKeys z.fKind z.fBool z.fInt z.fText z.fItems z.fKeys P (llen P) (j : Int)) (out (nav v (P.drop j))) := fun j v hj => by
    rw [List.drop_eq_nil_of_le hj]
    refine Ev.step (g := fun _ => some (v, true)) (fun k => ?_) (Ev.now fun _ => rfl)
    simp only [mastref2_Follow.l0, llen_eq, ilt_f (show (P.length : Int) ≤ (j : Int) by omega), cond_false, eta]
  induction d with
  | zero => intro j v hd hj hv h0; exact last j v (by omega)
  | succ d ih =>
    intro j v hd hj hv h0
    rcases Nat.lt_or_ge j P.length with hlt | hge
    · rw [List.drop_eq_getElem_cons hlt]
      obtain ⟨ho, hi⟩ := vf_zero h0
      obtain ⟨i, h1, h2, h3⟩ := stepR_ok v P[j] hv ho (hok _ (List.getElem_mem hlt))
      refine Ev.step (fun k => by simp only [mastref2_Follow.l0, llen_eq, Go.Proofs.YtibnepagledbjaaGreatDoor.Lift.ilen _ _ hlt, cond_true, lat_lt hlt, Option.bind_some, eta]; rfl) (Ev.bind h1 ?_)
      simp only [nav]
      cases hn : ilt i 0 with
      | true =>
        rw [hn, cond_true] at h2
        rw [← h2]
        exact Ev.now fun _ => rfl
      | false =>
        rw [hn, cond_false] at h2
        rw [h2]
        cases hs : stepv v P[j] with
        | none =>
          have h4 := h3 hn
          rw [h2, hs] at h4; cases h4
        | some x =>
          have hx := stepv_in hs
          have hw : wt x ≤ 1048576 := by have := wt_mem hx; rw [wt_eq] at hv; omega
          have := ih (j + 1) x (by omega) hlt hw (vfs_zero hi x hx)
          simp only [cond_false, Option.bind_some, u0 (show j ≤ 4611686018427387904 by omega)]
          exact this
    · exact last j v hge

/-! A copy. -/
theorem clone_loop (v : T_api_Value) (hv : wt v ≤ 2000000) (ih : ∀ x ∈ v.fItems, Ev (fun k => conf_clone.f k x) x) (z : T_api_Value) (ks : List ByteArray) : ∀ (d j : Nat), v.fItems.length - j ≤ d → j ≤ v.fItems.length →
    Ev (fun k => conf_clone.l0 k v.fKind v.fBool v.fInt v.fText v.fItems ks z.fKind z.fBool z.fInt z.fText z.fItems z.fKeys (v.fItems.take j) v.fItems (llen v.fItems) (j : Int)) ⟨v.fKind, v.fBool, v.fInt, v.fText, v.fItems, ks⟩ := by
  rw [wt_eq] at hv
  have hl := len_le v.fItems
  intro d
  have last : ∀ j : Nat, v.fItems.length ≤ j → Ev (fun k => conf_clone.l0 k v.fKind v.fBool v.fInt v.fText v.fItems ks z.fKind z.fBool z.fInt z.fText z.fItems z.fKeys (v.fItems.take j) v.fItems (llen v.fItems) (j : Int)) ⟨v.fKind, v.fBool, v.fInt, v.fText, v.fItems, ks⟩ := fun j hj => by
    rw [List.take_of_length_le hj]
    refine Ev.step (g := fun _ => some ⟨v.fKind, v.fBool, v.fInt, v.fText, v.fItems, ks⟩) (fun k => ?_) (Ev.now fun _ => rfl)
    simp only [conf_clone.l0, llen_eq, ilt_f (show (v.fItems.length : Int) ≤ (j : Int) by omega), cond_false]
  induction d with
  | zero => intro j hd hj; exact last j (by omega)
  | succ d hi =>
    intro j hd hj
    rcases Nat.lt_or_ge j v.fItems.length with hlt | hge
    · have ha : lapp 88 (v.fItems.take j) [v.fItems[j]] = some (v.fItems.take (j + 1)) := by
        rw [lapp_ok (by simp only [List.length_take, List.length_singleton]; omega) (by simp only [List.length_take, List.length_singleton]; omega), List.take_succ_eq_append_getElem hlt]
      refine Ev.step (fun k => by simp only [conf_clone.l0, llen_eq, Go.Proofs.YtibnepagledbjaaGreatDoor.Lift.ilen _ _ hlt, cond_true, lat_lt hlt, Option.bind_some, eta]; rfl) (Ev.bind (ih _ (List.getElem_mem hlt)) ?_)
      have := hi (j + 1) (by omega) hlt
      simp only [ha, Option.bind_some, u0 (show j ≤ 4611686018427387904 by omega)]
      exact this
    · exact last j hge
theorem clone_ok : ∀ v, wt v ≤ 2000000 → Ev (fun k => conf_clone.f k v) v := tree fun v ih hv => by
  have := clone_loop v hv (fun x hx => ih x hx (by have := wt_mem hx; rw [wt_eq] at hv; omega)) zro v.fKeys v.fItems.length 0 (by omega) (by omega)
  rw [wt_eq] at hv
  have hk := klen_le v.fKeys
  have ha : lapp 16 [] v.fKeys = some v.fKeys := by
    rw [lapp_ok (by simp only [List.length_nil]; omega) (by simp only [List.length_nil]; omega)]; rfl
  refine Ev.step (g := fun k => conf_clone.l0 k v.fKind v.fBool v.fInt v.fText v.fItems v.fKeys 0 false 0 c_empty [] [] [] v.fItems (llen v.fItems) 0) (fun k => by simp only [conf_clone.f, ha, Option.bind_some]) ?_
  rw [eta] at this
  exact this

theorem nav_wt : ∀ (P : List ByteArray) (v x : T_api_Value), nav v P = some x → wt x ≤ wt v
  | [], v, x, h => by simp only [nav, Option.some.injEq] at h; rw [h]; exact Nat.le_refl _
  | p :: r, v, x, h => by
    simp only [nav] at h
    cases hs : stepv v p with
    | none => rw [hs] at h; cases h
    | some y =>
      rw [hs] at h
      have h1 := nav_wt r y x h
      have h2 := wt_mem (stepv_in hs)
      rw [wt_eq v]; omega
theorem pcs_all {p : List UInt8 → Bool} {s : ByteArray} (h : (pcs 46 s.data.toList).all p = true) : ∀ x ∈ parts s, p x.data.toList = true := fun x hx => by
  rw [← parts_pcs] at h
  exact List.all_eq_true.1 h _ (List.mem_map.2 ⟨x, hx, rfl⟩)
theorem wt_zro : wt zro ≤ 2000000 := by decide
theorem same_self (v : T_api_Value) (hv : wt v ≤ 2000000) : Ev (fun k => mastref2_SameOf.f k v v) true := by
  have := cmpR_ok v hv v hv
  rw [cmpv_self] at this
  exact Ev.congr (fun k => by simp only [mastref2_SameOf.f, eta]; rfl) (Ev.bind this (Ev.now fun _ => rfl))
theorem chk_zero {v : T_api_Value} (h : chk v = 0) : vf v = 0 := by
  unfold chk at h
  cases h1 : decide (1000 < nT v) with
  | true => rw [h1] at h; exact nomatch h
  | false =>
    rw [h1, cond_false] at h
    cases h2 : decide (8 < lv v) with
    | true => rw [h2] at h; exact nomatch h
    | false => rw [h2] at h; exact h
/-- The answer of both. -/
def ans (v : T_api_Value) (s : ByteArray) : T_api_Value × Int :=
  bif !ieq (chk v) 0 then (zro, chk v) else bif !rpS false s then (zro, 3) else
    match nav v (bif seq s c_empty then [] else parts s) with
    | none => (zro, 7)
    | some x => (x, 0)
theorem ans_wt (v : T_api_Value) (s : ByteArray) (hv : wt v ≤ 1048576) : wt (ans v s).1 ≤ 2000000 := by
  unfold ans
  cases !ieq (chk v) 0 with
  | true => exact wt_zro
  | false =>
    cases !rpS false s with
    | true => exact wt_zro
    | false =>
      simp only [cond_false]
      cases h : nav v (bif seq s c_empty then [] else parts s) with
      | none => exact wt_zro
      | some x => have := nav_wt _ _ _ h; show wt x ≤ 2000000; omega
theorem parts_few (s : ByteArray) (hs : s.size ≤ 1048576) : (parts s).length ≤ 3000000 := by
  have h1 := Lib.splitB_length_le c__2e 0 (Lib.countB s c__2e) s
  have h2 := Lib.countB_le c__2e (by decide) s.size s (Nat.le_refl _)
  unfold parts; omega
theorem parts_right (s : ByteArray) (h : rpS false s = true) : ∀ p ∈ (bif seq s c_empty then [] else parts s), pkS false p.data.toList = true := by
  unfold rpS at h
  cases h4 : ilt 400 (slen s) with
  | true => rw [h4] at h; exact nomatch h
  | false =>
    rw [h4, cond_false] at h
    cases he : seq s c_empty with
    | true => intro p hp; cases hp
    | false =>
      rw [he, cond_false] at h
      exact pcs_all h
theorem stps_map (s : ByteArray) : stps s = (bif seq s c_empty then [] else parts s).map stp := by
  unfold stps; cases seq s c_empty <;> rfl
theorem get_ok (v : T_api_Value) (s : ByteArray) (hv : wt v ≤ 1048576) (hs : s.size ≤ 1048576) : Ev (fun k => conf_Get.f k v s) (ans v s) := by
  refine Ev.congr (fun k => by simp only [conf_Get.f, eta]; rfl) (Ev.bind (chk_ok v hv) ?_)
  unfold ans
  cases hc : ieq (chk v) 0 with
  | false => exact Ev.now fun _ => rfl
  | true =>
    have h0 : vf v = 0 := chk_zero (by rw [ieq_d] at hc; exact of_decide_eq_true hc)
    simp only [Bool.not_true, cond_false]
    refine Ev.bind (steps_ok false s hs) ?_
    cases hr : rpS false s with
    | false => exact Ev.now fun _ => rfl
    | true =>
      simp only [cond_true, Bool.not_true, cond_false]
      have hl : (bif seq s c_empty then [] else parts s).length ≤ 3000000 := by
        cases seq s c_empty
        · exact parts_few s hs
        · exact Nat.zero_le _
      have g := get_loop _ hl (parts_right s hr) zro (bif seq s c_empty then [] else parts s).length 0 v (by omega) (by omega) hv h0
      rw [List.drop_zero, ← stps_map] at g
      refine Ev.bind (f := fun k => conf_get.f k v (stps s)) (Ev.congr (fun k => by simp only [conf_get.f]; rfl) g) ?_
      cases hn : nav v (bif seq s c_empty then [] else parts s) with
      | none => exact Ev.now fun _ => rfl
      | some x =>
        have hw := nav_wt _ _ _ hn
        simp only [out, Bool.not_true, cond_false, eta]
        exact Ev.bind (clone_ok x (by omega)) (Ev.now fun _ => rfl)
theorem getR_ok (v : T_api_Value) (s : ByteArray) (hv : wt v ≤ 1048576) (hs : s.size ≤ 1048576) : Ev (fun k => mastref2_GetOf.f k v s) (ans v s) := by
  refine Ev.congr (fun k => by simp only [mastref2_GetOf.f, eta]; rfl) (Ev.bind (chkR_ok v hv) ?_)
  unfold ans
  cases hc : ieq (chk v) 0 with
  | false => exact Ev.now fun _ => rfl
  | true =>
    have h0 : vf v = 0 := chk_zero (by rw [ieq_d] at hc; exact of_decide_eq_true hc)
    simp only [Bool.not_true, cond_false]
    refine Ev.bind (routeR_ok false s (by omega)) ?_
    cases hr : rpS false s with
    | false => exact Ev.now fun _ => rfl
    | true =>
      simp only [cond_true, Bool.not_true, cond_false]
      have hl : (bif seq s c_empty then [] else parts s).length ≤ 3000000 := by
        cases seq s c_empty
        · exact parts_few s hs
        · exact Nat.zero_le _
      have g := folR_loop _ hl (parts_right s hr) zro (bif seq s c_empty then [] else parts s).length 0 v (by omega) (by omega) hv h0
      rw [List.drop_zero] at g
      refine Ev.bind (f := fun k => mastref2_Follow.f k v (bif seq s c_empty then [] else parts s)) (Ev.congr (fun k => by simp only [mastref2_Follow.f]; rfl) g) ?_
      cases hn : nav v (bif seq s c_empty then [] else parts s) with
      | none => exact Ev.now fun _ => rfl
      | some x => exact Ev.now fun _ => rfl

theorem pure_holds : Pure := fun x0 x1 h0 hs => by
  obtain ⟨D, d1, d2⟩ := h0
  have hw : wt x0 ≤ 1048576 := Nat.le_trans (wt_bulk D x0 d1) d2
  have h1 := get_ok x0 x1 hw hs
  have h2 := getR_ok x0 x1 hw hs
  have h3 := same_self (ans x0 x1).1 (ans_wt x0 x1 hw)
  refine (Ev.congr (fun k => by simp only [mastlaw2_ConfGets.f, eta]; rfl) (Ev.bind h1 (Ev.bind h2 ?_)) : Ev (fun k => mastlaw2_ConfGets.f k x0 x1) true).get
  simp only [ieq_self, cond_true]
  exact Ev.bind h3 (Ev.now fun _ => rfl)

end Go.Proofs.YtibnepagledbjaaGreatDoor.LConfGets
