/- The sum and the extremes at a route are as the reference says, for lists of small bulk. Conditions: none. -/
import Derived.Test.YtmbjiadilfbooaaGreatDoorLListSumsOp
import Derived.Lib.SplitLaws
set_option linter.unusedVariables false
set_option linter.unusedSimpArgs false
namespace Go.Proofs.YtmbjiadilfbooaaGreatDoor.LListSums
open Go Go.Proofs.YtmbjiadilfbooaaGreatDoor.Lift

theorem eta (y : T_api_Value) : T_api_Value.mk y.fKind y.fBool y.fInt y.fText y.fItems y.fKeys = y := by cases y; rfl

mutual
/-- How many values. -/
def nT : T_api_Value → Nat
  | ⟨_, _, _, _, is, _⟩ => nTs is + 1
def nTs : List T_api_Value → Nat
  | [] => 0
  | t :: r => nT t + nTs r
end
mutual
/-- How many levels. -/
def lv : T_api_Value → Nat
  | ⟨_, _, _, _, is, _⟩ => lvs is + 1
def lvs : List T_api_Value → Nat
  | [] => 0
  | t :: r => max (lv t) (lvs r)
end
def kz : List ByteArray → Nat
  | [] => 0
  | s :: r => s.size + 1 + kz r
mutual
/-- How much is held. -/
def wt : T_api_Value → Nat
  | ⟨_, _, _, t, is, ks⟩ => t.size + kz ks + wts is + 1
def wts : List T_api_Value → Nat
  | [] => 0
  | t :: r => wt t + wts r
end
theorem nT_eq (t : T_api_Value) : nT t = nTs t.fItems + 1 := by cases t; simp [nT]
theorem lv_eq (t : T_api_Value) : lv t = lvs t.fItems + 1 := by cases t; simp [lv]
theorem wt_eq (t : T_api_Value) : wt t = t.fText.size + kz t.fKeys + wts t.fItems + 1 := by cases t; simp [wt]
theorem wt_pos (t : T_api_Value) : 1 ≤ wt t := by rw [wt_eq]; omega
theorem wt_mem : ∀ {l : List T_api_Value} {t : T_api_Value}, t ∈ l → wt t ≤ wts l
  | a :: l, t, h => by
    simp only [wts]
    rcases List.mem_cons.1 h with rfl | h
    · omega
    · have := wt_mem h; omega
theorem len_le : ∀ l : List T_api_Value, l.length ≤ wts l
  | [] => Nat.zero_le _
  | a :: l => by
    have := len_le l
    have := wt_pos a
    simp only [wts, List.length_cons]; omega
theorem kz_mem : ∀ {l : List ByteArray} {s : ByteArray}, s ∈ l → s.size < kz l
  | a :: l, s, h => by
    simp only [kz]
    rcases List.mem_cons.1 h with rfl | h
    · omega
    · have := kz_mem h; omega
theorem klen_le : ∀ l : List ByteArray, l.length ≤ kz l
  | [] => Nat.zero_le _
  | a :: l => by
    have := klen_le l
    simp only [kz, List.length_cons]; omega
theorem tree {P : T_api_Value → Prop} (h : ∀ t, (∀ k ∈ t.fItems, P k) → P t) : ∀ t, P t := by
  have : ∀ (n : Nat) (t : T_api_Value), wt t ≤ n → P t := by
    intro n
    induction n with
    | zero => intro t ht; have := wt_pos t; omega
    | succ n ih => intro t ht; exact h t fun k hk => ih k (by have := wt_mem hk; rw [wt_eq] at ht; omega)
  exact fun t => this _ t (Nat.le_refl _)
theorem nT_wt : ∀ t, nT t ≤ wt t := tree fun t ih => by
  have : ∀ l : List T_api_Value, (∀ k ∈ l, nT k ≤ wt k) → nTs l ≤ wts l := by
    intro l
    induction l with
    | nil => intro _; exact Nat.zero_le _
    | cons a l ih =>
      intro h
      have h1 := h a (List.mem_cons_self ..)
      have h2 := ih fun k hk => h k (List.mem_cons_of_mem _ hk)
      simp only [nTs, wts]; omega
  have := this t.fItems ih
  rw [nT_eq, wt_eq]; omega
theorem nTs_wts : ∀ l, nTs l ≤ wts l
  | [] => Nat.zero_le _
  | a :: l => by have := nT_wt a; have := nTs_wts l; simp only [nTs, wts]; omega
theorem lv_wt : ∀ t, lv t ≤ wt t := tree fun t ih => by
  have : ∀ l : List T_api_Value, (∀ k ∈ l, lv k ≤ wt k) → lvs l ≤ wts l := by
    intro l
    induction l with
    | nil => intro _; exact Nat.zero_le _
    | cons a l ih =>
      intro h
      have h1 := h a (List.mem_cons_self ..)
      have h2 := ih fun k hk => h k (List.mem_cons_of_mem _ hk)
      simp only [lvs, wts]; omega
  have := this t.fItems ih
  rw [lv_eq, wt_eq]; omega
theorem bulk_str (D : Nat) (s : ByteArray) : bulk ctx D .str s = s.size + 1 := by cases D <;> rfl
theorem wt_bulk : ∀ (D : Nat) (t : T_api_Value), good ctx D (.st 0) t → wt t ≤ bulk ctx D (.st 0) t
  | 0, t, h => h.1.elim
  | 1, t, h => by
    have hi : t.fItems = [] := List.eq_nil_iff_forall_not_mem.2 fun k hk => h.2.2.2.2.1.2.2 k hk
    have hk : t.fKeys = [] := List.eq_nil_iff_forall_not_mem.2 fun k hk => h.2.2.2.2.2.2.2 k hk
    rw [wt_eq, hi, hk]
    show t.fText.size + 0 + 0 + 1 ≤ 1 + (1 + (1 + ((t.fText.size + 1) + ((((t.fItems.map fun _ => 0).sum + 1)) + (((t.fKeys.map fun _ => 0).sum + 1) + 0))))) + 1
    omega
  | D + 2, t, h => by
    have hi : ∀ k ∈ t.fItems, wt k ≤ bulk ctx D (.st 0) k := fun k hk => wt_bulk D k (h.2.2.2.2.1.2.2 k hk)
    have hs : ∀ l : List T_api_Value, (∀ k ∈ l, wt k ≤ bulk ctx D (.st 0) k) → wts l ≤ (l.map (bulk ctx D (.st 0))).sum := by
      intro l
      induction l with
      | nil => intro _; exact Nat.zero_le _
      | cons a l ih =>
        intro h
        have h1 := h a (List.mem_cons_self ..)
        have h2 := ih fun k hk => h k (List.mem_cons_of_mem _ hk)
        simp only [wts, List.map_cons, List.sum_cons]
        exact Nat.add_le_add h1 h2
    have hz : ∀ l : List ByteArray, kz l = (l.map (bulk ctx D .str)).sum := by
      intro l
      induction l with
      | nil => rfl
      | cons a l ih => simp only [kz, ih, List.map_cons, List.sum_cons, bulk_str]
    have h1 := hs t.fItems hi
    have h2 := hz t.fKeys
    rw [wt_eq, h2]
    show _ ≤ 1 + (1 + (1 + ((t.fText.size + 1) + (((t.fItems.map (bulk ctx D (.st 0))).sum + 1) + (((t.fKeys.map (bulk ctx D .str)).sum + 1) + 0))))) + 1
    omega

/-! How many values, how many levels. -/
theorem count_loop_conf (l : List T_api_Value) (hl : wts l ≤ 1048576) (ih : ∀ k ∈ l, ∃ r : Nat, Ev (fun f => conf_count.f f k) (r : Int) ∧ r ≤ nT k ∧ (1000 < r ∨ r = nT k)) : ∀ (d j a : Nat), l.length - j ≤ d → j ≤ l.length → a + nTs (l.drop j) ≤ 1048577 →
    ∃ r : Nat, Ev (fun f => conf_count.l0 f (a : Int) l (llen l) (j : Int)) (r : Int) ∧ r ≤ a + nTs (l.drop j) ∧ (1000 < r ∨ r = a + nTs (l.drop j)) := by
  have hlen := len_le l
  have fin : ∀ j a : Nat, l.length ≤ j → ∃ r : Nat, Ev (fun f => conf_count.l0 f (a : Int) l (llen l) (j : Int)) (r : Int) ∧ r ≤ a + nTs (l.drop j) ∧ (1000 < r ∨ r = a + nTs (l.drop j)) := fun j a h => by
    refine ⟨a, Ev.step (g := fun _ => some (a : Int)) (fun k => ?_) (Ev.now fun _ => rfl), by omega, ?_⟩
    · simp only [conf_count.l0, llen_eq, ilt_f (show (l.length : Int) ≤ (j : Int) by omega), cond_false]
    · rw [List.drop_eq_nil_of_le h]; simp [nTs]
  intro d
  induction d with
  | zero => intro j a hd hj hb; exact fin j a (by omega)
  | succ d ihd =>
    intro j a hd hj hb
    rcases Nat.lt_or_ge j l.length with hlt | hge
    · rw [List.drop_eq_getElem_cons hlt] at hb ⊢
      simp only [nTs] at hb ⊢
      by_cases ha : 1000 < a
      · refine ⟨a, Ev.step (g := fun _ => some (a : Int)) (fun k => ?_) (Ev.now fun _ => rfl), by omega, .inl ha⟩
        simp only [conf_count.l0, llen_eq, ilt_t (show (j : Int) < (l.length : Int) by omega), cond_true, lat_lt hlt, Option.bind_some, ilt_t (show (1000 : Int) < (a : Int) by omega)]
      · obtain ⟨r, r1, r2, r3⟩ := ih _ (List.getElem_mem hlt)
        obtain ⟨q, q1, q2, q3⟩ := ihd (j + 1) (a + r) (by omega) hlt (by omega)
        have w : wadd .i64 (a : Int) (r : Int) = ((a + r : Nat) : Int) := by rw [wadd64 (by omega) (by omega)]; omega
        refine ⟨q, Ev.step (g := fun k => (conf_count.f k l[j]).bind fun y2 => conf_count.l0 k (wadd .i64 (a : Int) y2) l (llen l) ((j + 1 : Nat) : Int)) (fun k => ?_) (Ev.bind r1 (by rw [w]; exact q1)), by omega, by omega⟩
        simp only [conf_count.l0, llen_eq, ilt_t (show (j : Int) < (l.length : Int) by omega), cond_true, lat_lt hlt, Option.bind_some, ilt_f (show (a : Int) ≤ 1000 by omega), cond_false, eta, u0 (show j ≤ 4611686018427387904 by omega)]
    · exact fin j a hge
theorem count_conf : ∀ t, wt t ≤ 1048576 → ∃ r : Nat, Ev (fun f => conf_count.f f t) (r : Int) ∧ r ≤ nT t ∧ (1000 < r ∨ r = nT t) := tree fun t ih hn => by
  have h0 := nTs_wts t.fItems
  rw [wt_eq] at hn
  obtain ⟨r, r1, r2, r3⟩ := count_loop_conf t.fItems (by omega) (fun k hk => ih k hk (by have := wt_mem hk; omega)) t.fItems.length 0 1 (by omega) (by omega) (by rw [List.drop_zero]; omega)
  rw [List.drop_zero] at r2 r3
  rw [nT_eq]
  exact ⟨r, Ev.step (fun k => by simp only [conf_count.f]; rfl) r1, by omega, by omega⟩

theorem both_loop (l : List T_api_Value) (hl : wts l ≤ 1048576) (ih : ∀ k ∈ l, Ev (fun f => mastref2_ValuesOf.f f k) (nT k : Int)) : ∀ (d j a : Nat), l.length - j ≤ d → j ≤ l.length → a + nTs (l.drop j) ≤ 1048577 →
    Ev (fun f => mastref2_ValuesOf.l0 f (a : Int) l (llen l) (j : Int)) ((a + nTs (l.drop j) : Nat) : Int) := by
  have hlen := len_le l
  have fin : ∀ j a : Nat, l.length ≤ j → Ev (fun f => mastref2_ValuesOf.l0 f (a : Int) l (llen l) (j : Int)) ((a + nTs (l.drop j) : Nat) : Int) := fun j a h => by
    rw [List.drop_eq_nil_of_le h]
    refine Ev.step (g := fun _ => some (a : Int)) (fun k => ?_) (Ev.now fun _ => by simp [nTs])
    simp only [mastref2_ValuesOf.l0, llen_eq, ilt_f (show (l.length : Int) ≤ (j : Int) by omega), cond_false]
  intro d
  induction d with
  | zero => intro j a hd hj hb; exact fin j a (by omega)
  | succ d ihd =>
    intro j a hd hj hb
    rcases Nat.lt_or_ge j l.length with hlt | hge
    · rw [List.drop_eq_getElem_cons hlt] at hb ⊢
      simp only [nTs] at hb ⊢
      have q1 := ihd (j + 1) (a + nT l[j]) (by omega) hlt (by omega)
      have w : wadd .i64 (a : Int) (nT l[j] : Int) = ((a + nT l[j] : Nat) : Int) := by rw [wadd64 (by omega) (by omega)]; omega
      rw [show a + (nT l[j] + nTs (l.drop (j + 1))) = a + nT l[j] + nTs (l.drop (j + 1)) by omega]
      refine Ev.step (g := fun k => (mastref2_ValuesOf.f k l[j]).bind fun y2 => mastref2_ValuesOf.l0 k (wadd .i64 (a : Int) y2) l (llen l) ((j + 1 : Nat) : Int)) (fun k => ?_) (Ev.bind (ih _ (List.getElem_mem hlt)) (by rw [w]; exact q1))
      simp only [mastref2_ValuesOf.l0, llen_eq, ilt_t (show (j : Int) < (l.length : Int) by omega), cond_true, lat_lt hlt, Option.bind_some, eta, u0 (show j ≤ 4611686018427387904 by omega)]
    · exact fin j a hge
theorem values_ok : ∀ t, wt t ≤ 1048576 → Ev (fun f => mastref2_ValuesOf.f f t) (nT t : Int) := tree fun t ih hn => by
  have h0 := nTs_wts t.fItems
  rw [wt_eq] at hn
  have := both_loop t.fItems (by omega) (fun k hk => ih k hk (by have := wt_mem hk; omega)) t.fItems.length 0 1 (by omega) (by omega) (by rw [List.drop_zero]; omega)
  rw [List.drop_zero, Nat.add_comm 1] at this
  rw [nT_eq]
  exact Ev.step (fun k => by simp only [mastref2_ValuesOf.f]; rfl) this
theorem levels_loop_conf (l : List T_api_Value) (hl : wts l ≤ 1048576) (ih : ∀ k ∈ l, Ev (fun f => conf_levels.f f k) (lv k : Int)) : ∀ (d j a : Nat), l.length - j ≤ d → j ≤ l.length → a ≤ 1048576 →
    Ev (fun f => conf_levels.l0 f (a : Int) l (llen l) (j : Int)) ((max a (lvs (l.drop j)) + 1 : Nat) : Int) := by
  have hlen := len_le l
  have hlv := fun k (hk : k ∈ l) => (show lv k ≤ 1048576 by have h1 := wt_mem hk; have h2 := lv_wt k; omega)
  have fin : ∀ j a : Nat, l.length ≤ j → a ≤ 1048576 → Ev (fun f => conf_levels.l0 f (a : Int) l (llen l) (j : Int)) ((max a (lvs (l.drop j)) + 1 : Nat) : Int) := fun j a h ha => by
    rw [List.drop_eq_nil_of_le h]
    refine Ev.step (g := fun _ => some ((max a (lvs []) + 1 : Nat) : Int)) (fun k => ?_) (Ev.now fun _ => rfl)
    simp only [conf_levels.l0, llen_eq, ilt_f (show (l.length : Int) ≤ (j : Int) by omega), cond_false, lvs, u0 (show a ≤ 4611686018427387904 by omega)]
    simp
  intro d
  induction d with
  | zero => intro j a hd hj ha; exact fin j a (by omega) ha
  | succ d ihd =>
    intro j a hd hj ha
    rcases Nat.lt_or_ge j l.length with hlt | hge
    · rw [List.drop_eq_getElem_cons hlt]
      have hk := hlv _ (List.getElem_mem hlt)
      have := ihd (j + 1) (max a (lv l[j])) (by omega) hlt (by omega)
      rw [show max (max a (lv l[j])) (lvs (l.drop (j + 1))) = max a (lvs (l[j] :: l.drop (j + 1))) by simp only [lvs]; omega] at this
      refine Ev.step (g := fun k => (conf_levels.f k l[j]).bind fun y2 => conf_levels.l0 k (imax (a : Int) y2) l (llen l) ((j + 1 : Nat) : Int)) (fun k => ?_) (Ev.bind (ih _ (List.getElem_mem hlt)) (by rw [imax_nat]; exact this))
      simp only [conf_levels.l0, llen_eq, ilt_t (show (j : Int) < (l.length : Int) by omega), cond_true, lat_lt hlt, Option.bind_some, eta, u0 (show j ≤ 4611686018427387904 by omega)]
    · exact fin j a hge ha
theorem levels_conf : ∀ t, wt t ≤ 1048576 → Ev (fun f => conf_levels.f f t) (lv t : Int) := tree fun t ih hn => by
  rw [wt_eq] at hn
  have := levels_loop_conf t.fItems (by omega) (fun k hk => ih k hk (by have := wt_mem hk; omega)) t.fItems.length 0 0 (by omega) (by omega) (by omega)
  rw [List.drop_zero, Nat.zero_max] at this
  rw [lv_eq]
  exact Ev.step (fun k => by simp only [conf_levels.f]; rfl) this

theorem levels_loop_ref (l : List T_api_Value) (hl : wts l ≤ 1048576) (ih : ∀ k ∈ l, Ev (fun f => mastref2_LevelsOf.f f k) (lv k : Int)) : ∀ (d j a : Nat), l.length - j ≤ d → j ≤ l.length → a ≤ 1048576 →
    Ev (fun f => mastref2_LevelsOf.l0 f (a : Int) l (llen l) (j : Int)) ((max a (lvs (l.drop j)) + 1 : Nat) : Int) := by
  have hlen := len_le l
  have hlv := fun k (hk : k ∈ l) => (show lv k ≤ 1048576 by have h1 := wt_mem hk; have h2 := lv_wt k; omega)
  have fin : ∀ j a : Nat, l.length ≤ j → a ≤ 1048576 → Ev (fun f => mastref2_LevelsOf.l0 f (a : Int) l (llen l) (j : Int)) ((max a (lvs (l.drop j)) + 1 : Nat) : Int) := fun j a h ha => by
    rw [List.drop_eq_nil_of_le h]
    refine Ev.step (g := fun _ => some ((max a (lvs []) + 1 : Nat) : Int)) (fun k => ?_) (Ev.now fun _ => rfl)
    simp only [mastref2_LevelsOf.l0, llen_eq, ilt_f (show (l.length : Int) ≤ (j : Int) by omega), cond_false, lvs, u0 (show a ≤ 4611686018427387904 by omega)]
    simp
  intro d
  induction d with
  | zero => intro j a hd hj ha; exact fin j a (by omega) ha
  | succ d ihd =>
    intro j a hd hj ha
    rcases Nat.lt_or_ge j l.length with hlt | hge
    · rw [List.drop_eq_getElem_cons hlt]
      have hk := hlv _ (List.getElem_mem hlt)
      have := ihd (j + 1) (max a (lv l[j])) (by omega) hlt (by omega)
      rw [show max (max a (lv l[j])) (lvs (l.drop (j + 1))) = max a (lvs (l[j] :: l.drop (j + 1))) by simp only [lvs]; omega] at this
      refine Ev.step (g := fun k => (mastref2_LevelsOf.f k l[j]).bind fun y2 => mastref2_LevelsOf.l0 k (imax (a : Int) y2) l (llen l) ((j + 1 : Nat) : Int)) (fun k => ?_) (Ev.bind (ih _ (List.getElem_mem hlt)) (by rw [imax_nat]; exact this))
      simp only [mastref2_LevelsOf.l0, llen_eq, ilt_t (show (j : Int) < (l.length : Int) by omega), cond_true, lat_lt hlt, Option.bind_some, eta, u0 (show j ≤ 4611686018427387904 by omega)]
    · exact fin j a hge ha
theorem levels_ref : ∀ t, wt t ≤ 1048576 → Ev (fun f => mastref2_LevelsOf.f f t) (lv t : Int) := tree fun t ih hn => by
  rw [wt_eq] at hn
  have := levels_loop_ref t.fItems (by omega) (fun k hk => ih k hk (by have := wt_mem hk; omega)) t.fItems.length 0 0 (by omega) (by omega) (by omega)
  rw [List.drop_zero, Nat.zero_max] at this
  rw [lv_eq]
  exact Ev.step (fun k => by simp only [mastref2_LevelsOf.f]; rfl) this


/-! Bad bytes. -/
def badB (b : UInt8) : Bool := ilt (b.toNat : Int) 32 && (!ieq (b.toNat : Int) 9 && !ieq (b.toNat : Int) 10)
def bad (s : ByteArray) : Bool := s.data.toList.any badB
theorem bad_conf (s : ByteArray) (hs : s.size ≤ 2000000) : Ev (fun k => conf_badBytes.f k s) (bad s) := by
  have hl := size_l s
  have h := find_pure s.data.toList 0 (Nat.zero_le _) (fun k j => conf_badBytes.l0 k s (j : Int)) (fun _ => some false) badB (fun _ => true) false
    (fun k j h => by
      simp only [conf_badBytes.l0, slen_l, ilen _ _ h, cond_true, sat_l h, Option.bind_some, u0 (show j ≤ 4611686018427387904 by omega), badB]
      cases ilt (s.data.toList[j].toNat : Int) 32 <;> cases ieq (s.data.toList[j].toNat : Int) 9 <;> cases ieq (s.data.toList[j].toNat : Int) 10 <;> rfl)
    (fun k => by simp only [conf_badBytes.l0, slen_l, ilen', cond_false]) (Ev.now fun _ => rfl)
  rw [List.drop_zero, fl_const] at h
  refine Ev.congr (fun k => by simp only [conf_badBytes.f]; rfl) (show Ev _ (bad s) from ?_)
  unfold bad
  rw [show (s.data.toList.any badB) = (bif s.data.toList.any badB then true else false) by cases s.data.toList.any badB <;> rfl]
  exact h

theorem bad_ref (s : ByteArray) (hs : s.size ≤ 2000000) : Ev (fun k => mastref2_badByte.f k s) (bad s) := by
  have hl := size_l s
  have h := find_pure s.data.toList 0 (Nat.zero_le _) (fun k j => mastref2_badByte.l0 k s (j : Int)) (fun _ => some false) badB (fun _ => true) false
    (fun k j h => by
      simp only [mastref2_badByte.l0, slen_l, ilen _ _ h, cond_true, sat_l h, Option.bind_some, u0 (show j ≤ 4611686018427387904 by omega), badB]
      cases ilt (s.data.toList[j].toNat : Int) 32 <;> cases ieq (s.data.toList[j].toNat : Int) 9 <;> cases ieq (s.data.toList[j].toNat : Int) 10 <;> rfl)
    (fun k => by simp only [mastref2_badByte.l0, slen_l, ilen', cond_false]) (Ev.now fun _ => rfl)
  rw [List.drop_zero, fl_const] at h
  refine Ev.congr (fun k => by simp only [mastref2_badByte.f]; rfl) (show Ev _ (bad s) from ?_)
  unfold bad
  rw [show (s.data.toList.any badB) = (bif s.data.toList.any badB then true else false) by cases s.data.toList.any badB <;> rfl]
  exact h


/-! Keys. -/
def small (c : UInt8) : Bool := bif ile 97 (c.toNat : Int) then ile (c.toNat : Int) 122 else false
def ins (c : UInt8) : Bool := small c || (bif ile 48 (c.toNat : Int) then ile (c.toNat : Int) 57 else false) || ieq (c.toNat : Int) 45 || ieq (c.toNat : Int) 95
def keyL : List UInt8 → Bool
  | [] => false
  | c :: r => decide (r.length < 40) && small c && r.all ins
def key (s : ByteArray) : Bool := keyL s.data.toList
theorem seq_empty (s : ByteArray) : seq s c_empty = s.data.toList.isEmpty := by
  unfold seq
  rw [ByteArray.toList_eq, ByteArray.toList_eq]
  cases h : s.data.toList <;> rfl
theorem all_ins (r : List UInt8) : (bif r.any fun c => !ins c then false else true) = r.all ins := by
  rw [List.all_eq_not_any_not]
  cases r.any fun c => !ins c <;> rfl
theorem key_conf (s : ByteArray) : Ev (fun k => conf_isKey.f k s) (key s) := by
  cases h : s.data.toList with
  | nil => exact Ev.now fun k => by simp only [conf_isKey.f, seq_empty, h, key, keyL, List.isEmpty_nil, cond_true]
  | cons c r =>
    by_cases hl : r.length < 40
    · have hl' : s.data.toList.length ≤ 40 := by rw [h]; simp; omega
      cases hc : small c with
      | false =>
        refine Ev.now fun k => ?_
        simp only [conf_isKey.f, seq_empty, h, key, keyL, List.isEmpty_cons, cond_false, slen_l, ilt_f (show ((c :: r).length : Int) ≤ 40 by rw [← h]; omega), sat_0 h, Option.bind_some, conf_isSmall.f, hc, Bool.and_false, Bool.false_and]
        rw [show (bif ile 97 (c.toNat : Int) then ile (c.toNat : Int) 122 else false) = small c from rfl, hc]
        rfl
      | true =>
        have q := find_pure s.data.toList 1 (by rw [h]; simp) (fun k j => conf_isKey.l0 k s (j : Int)) (fun _ => some true) (fun c => !ins c) (fun _ => false) true
          (fun k j h => by
            simp only [conf_isKey.l0, slen_l, ilen _ _ h, cond_true, sat_l h, Option.bind_some, u0 (show j ≤ 4611686018427387904 by omega), conf_isSmall.f, conf_isDigit.f, ins, small]
            cases (bif ile 97 (s.data.toList[j].toNat : Int) then ile (s.data.toList[j].toNat : Int) 122 else false) <;> cases (bif ile 48 (s.data.toList[j].toNat : Int) then ile (s.data.toList[j].toNat : Int) 57 else false) <;> cases ieq (s.data.toList[j].toNat : Int) 45 <;> cases ieq (s.data.toList[j].toNat : Int) 95 <;> rfl)
          (fun k => by simp only [conf_isKey.l0, slen_l, ilen', cond_false]) (Ev.now fun _ => rfl)
        rw [fl_const, h, List.drop_succ_cons, List.drop_zero, all_ins] at q
        have e : key s = r.all ins := by unfold key; rw [h]; simp [keyL, hl, hc]
        rw [e]
        refine Ev.congr (fun k => ?_) q
        simp only [conf_isKey.f, seq_empty, h, List.isEmpty_cons, cond_false, slen_l, ilt_f (show ((c :: r).length : Int) ≤ 40 by rw [← h]; omega), sat_0 h, Option.bind_some, conf_isSmall.f]
        rw [show (bif ile 97 (c.toNat : Int) then ile (c.toNat : Int) 122 else false) = small c from rfl, hc]
        rfl
    · refine Ev.now fun k => ?_
      simp only [conf_isKey.f, seq_empty, h, key, keyL, List.isEmpty_cons, cond_false, slen_l, ilt_t (show (40 : Int) < ((c :: r).length : Int) by simp; omega), cond_true, decide_eq_false hl, Bool.false_and]

theorem mem_dw {α : Type} {p : α → Bool} : ∀ {l : List α} {x : α}, x ∈ l → p x = false → x ∈ l.dropWhile p
  | a :: l, x, h, hp => by
    rw [List.dropWhile_cons]
    split
    · rename_i ha
      rcases List.mem_cons.1 h with rfl | h
      · rw [hp] at ha; cases ha
      · exact mem_dw h hp
    · exact h
theorem dw_nil {α : Type} {p : α → Bool} : ∀ {l : List α}, (∀ x ∈ l, p x = true) → l.dropWhile p = []
  | [], _ => rfl
  | a :: l, h => by rw [List.dropWhile_cons, if_pos (h a (List.mem_cons_self ..))]; exact dw_nil fun x hx => h x (List.mem_cons_of_mem _ hx)
theorem trim_nil (l cs : List UInt8) : (Lib.trimS l cs).isEmpty = l.all (cs.contains ·) := by
  unfold Lib.trimS Lib.trimLeftS Lib.trimRightS
  cases h : l.all (cs.contains ·) with
  | true =>
    have h := List.all_eq_true.1 h
    rw [dw_nil (l := l.reverse) fun x hx => h x (List.mem_reverse.1 hx)]
    rfl
  | false =>
    obtain ⟨x, hx, hp⟩ : ∃ x ∈ l, cs.contains x = false := by
      rcases List.all_eq_false.1 h with ⟨x, hx, hp⟩
      exact ⟨x, hx, by simpa using hp⟩
    have h1 : x ∈ (l.reverse.dropWhile (cs.contains ·)).reverse := List.mem_reverse.2 (mem_dw (List.mem_reverse.2 hx) hp)
    have h2 := mem_dw h1 hp
    cases e : List.dropWhile (cs.contains ·) (l.reverse.dropWhile (cs.contains ·)).reverse with
    | nil => rw [e] at h2; cases h2
    | cons _ _ => rfl
theorem set_ins (c : UInt8) : c_abcdefghijklmnopqrst_0e2e2cf4.data.toList.contains c = ins c := by
  have h : ∀ n : Fin 256, c_abcdefghijklmnopqrst_0e2e2cf4.data.toList.contains (UInt8.ofNat n.val) = ins (UInt8.ofNat n.val) := by decide +kernel
  have := h ⟨c.toNat, c.toNat_lt⟩
  simpa using this
theorem keyR_ok (s : ByteArray) (hs : s.size ≤ 2000000) : mastref2_IsKey.f s = some (key s) := by
  unfold mastref2_IsKey.f key
  rw [seq_empty, slen_l]
  have hc : strings_Trim.f s c_abcdefghijklmnopqrst_0e2e2cf4 = some ⟨(Lib.trimS s.data.toList c_abcdefghijklmnopqrst_0e2e2cf4.data.toList).toArray⟩ := by
    unfold strings_Trim.f
    rw [if_pos ⟨by omega, by decide, by decide +kernel⟩]
  rw [hc]
  cases h : s.data.toList with
  | nil => simp [keyL]
  | cons c r =>
    simp only [List.isEmpty_cons, cond_false, sat_0 h, Option.bind_some, keyL]
    by_cases hl : r.length < 40
    · rw [ilt_f (show ((c :: r).length : Int) ≤ 40 by simp; omega), cond_false, decide_eq_true hl, Bool.true_and]
      unfold small
      rw [ilt_d, ilt_d, ile_d, ile_d]
      by_cases h1 : (c.toNat : Int) < 97
      · simp [h1, show ¬ (97 : Int) ≤ c.toNat by omega]
      · by_cases h2 : (122 : Int) < c.toNat
        · simp [h1, h2, show ¬ (c.toNat : Int) ≤ 122 by omega]
        · rw [decide_eq_false h1, decide_eq_false h2, decide_eq_true (show (97 : Int) ≤ c.toNat by omega), decide_eq_true (show (c.toNat : Int) ≤ 122 by omega)]
          simp only [cond_false, cond_true, Bool.true_and]
          rw [seq_empty]
          show some (Lib.trimS (c :: r) _).isEmpty = _
          rw [trim_nil, show (fun x => c_abcdefghijklmnopqrst_0e2e2cf4.data.toList.contains x) = ins from funext set_ins, List.all_cons]
          have : ins c = true := by
            unfold ins small
            rw [ile_t (show (97 : Int) ≤ c.toNat by omega), ile_t (show (c.toNat : Int) ≤ 122 by omega)]
            rfl
          rw [this]; rfl
    · rw [ilt_t (show (40 : Int) < ((c :: r).length : Int) by simp; omega), cond_true, decide_eq_false hl]
      rfl

/-- What is wrong with the keys. -/
def ks : Option ByteArray → List ByteArray → Int
  | _, [] => 0
  | p, x :: r => bif !key x then 12 else bif (match p with | none => false | some y => sle x y) then 5 else ks (some x) r
def prev (l : List ByteArray) : Nat → Option ByteArray
  | 0 => none
  | j + 1 => l[j]?
theorem prev_succ {l : List ByteArray} {j : Nat} (h : j < l.length) : prev l (j + 1) = some l[j] := List.getElem?_eq_getElem h
theorem keys_loop_conf (k0 : Int) (b0 : Bool) (i0 : Int) (t0 : ByteArray) (is0 : List T_api_Value) (l : List ByteArray) (hl : kz l ≤ 1048576) : ∀ (d j : Nat), l.length - j ≤ d → j ≤ l.length →
    Ev (fun k => conf_valueFault.l1 k k0 b0 i0 t0 is0 l l (llen l) (j : Int)) (ks (prev l j) (l.drop j)) := by
  have hlen := klen_le l
  intro d
  have fin : ∀ j : Nat, l.length ≤ j → Ev (fun k => conf_valueFault.l1 k k0 b0 i0 t0 is0 l l (llen l) (j : Int)) (ks (prev l j) (l.drop j)) := fun j h => by
    rw [List.drop_eq_nil_of_le h]
    refine Ev.step (fun k => ?_) (show Ev (fun _ => some 0) (ks (prev l j) []) from Ev.now fun _ => rfl)
    simp only [conf_valueFault.l1, llen_eq, ilt_f (show (l.length : Int) ≤ (j : Int) by omega), cond_false]
  induction d with
  | zero => intro j hd hj; exact fin j (by omega)
  | succ d ihd =>
    intro j hd hj
    rcases Nat.lt_or_ge j l.length with hlt | hge
    · rw [List.drop_eq_getElem_cons hlt]
      have hr := ihd (j + 1) (by omega) hlt
      rw [prev_succ hlt] at hr
      have hkz := kz_mem (List.getElem_mem hlt)
      cases hk : key l[j] with
      | false =>
        refine Ev.step (fun k => by simp only [conf_valueFault.l1, llen_eq, ilt_t (show (j : Int) < (l.length : Int) by omega), cond_true, lat_lt hlt, Option.bind_some]; rfl) (Ev.bind (key_conf l[j]) ?_)
        rw [hk]
        exact Ev.now fun _ => by simp [ks, hk]
      | true =>
        cases j with
        | zero =>
          have e : ks (prev l 0) (l[0] :: l.drop 1) = ks (some l[0]) (l.drop 1) := by simp [ks, hk, prev]
          rw [e]
          refine Ev.step (fun k => by simp only [conf_valueFault.l1, llen_eq, ilt_t (show ((0 : Nat) : Int) < (l.length : Int) by omega), cond_true, lat_lt hlt, Option.bind_some]; rfl) (Ev.bind (key_conf l[0]) ?_)
          rw [hk]
          simp only [Bool.not_true, cond_false, ilt_f (show ((0 : Nat) : Int) ≤ 0 by omega), u0 (show 0 ≤ 4611686018427387904 by omega)]
          exact hr
        | succ i =>
          have hi : i < l.length := by omega
          have w : wsub .i64 ((i + 1 : Nat) : Int) 1 = (i : Int) := by rw [wsub64 (by omega) (by omega)]; omega
          rw [prev_succ hi]
          cases hle : sle l[i + 1] l[i] with
          | true =>
            have e : ks (some l[i]) (l[i + 1] :: l.drop (i + 1 + 1)) = 5 := by simp [ks, hk, hle]
            rw [e]
            refine Ev.step (fun k => by simp only [conf_valueFault.l1, llen_eq, ilt_t (show ((i + 1 : Nat) : Int) < (l.length : Int) by omega), cond_true, lat_lt hlt, Option.bind_some]; rfl) (Ev.bind (key_conf l[i + 1]) ?_)
            rw [hk]
            simp only [Bool.not_true, cond_false, ilt_t (show (0 : Int) < ((i + 1 : Nat) : Int) by omega), cond_true, w, lat_lt hi, Option.bind_some, hle, u0 (show i + 1 ≤ 4611686018427387904 by omega)]
            exact Ev.now fun _ => rfl
          | false =>
            have e : ks (some l[i]) (l[i + 1] :: l.drop (i + 1 + 1)) = ks (some l[i + 1]) (l.drop (i + 1 + 1)) := by simp [ks, hk, hle]
            rw [e]
            refine Ev.step (fun k => by simp only [conf_valueFault.l1, llen_eq, ilt_t (show ((i + 1 : Nat) : Int) < (l.length : Int) by omega), cond_true, lat_lt hlt, Option.bind_some]; rfl) (Ev.bind (key_conf l[i + 1]) ?_)
            rw [hk]
            simp only [Bool.not_true, cond_false, ilt_t (show (0 : Int) < ((i + 1 : Nat) : Int) by omega), cond_true, w, lat_lt hi, Option.bind_some, hle, u0 (show i + 1 ≤ 4611686018427387904 by omega)]
            exact hr
    · exact fin j hge
theorem keys_conf (k0 : Int) (b0 : Bool) (i0 : Int) (t0 : ByteArray) (is0 : List T_api_Value) (l : List ByteArray) (hl : kz l ≤ 1048576) : Ev (fun k => conf_valueFault.l1 k k0 b0 i0 t0 is0 l l (llen l) 0) (ks none l) := by
  have := keys_loop_conf k0 b0 i0 t0 is0 l hl  l.length 0 (by omega) (by omega)
  rw [List.drop_zero] at this
  exact this

theorem keys_loop_ref (k0 : Int) (b0 : Bool) (i0 : Int) (t0 : ByteArray) (is0 : List T_api_Value) (l : List ByteArray) (hl : kz l ≤ 1048576) (e : Int) (he : Ev (fun k => mastref2_eachValue.l1 k is0 (llen is0) 0) e) : ∀ (d j : Nat), l.length - j ≤ d → j ≤ l.length →
    Ev (fun k => mastref2_eachValue.l0 k k0 b0 i0 t0 is0 l l (llen l) (j : Int)) (bif ieq (ks (prev l j) (l.drop j)) 0 then e else ks (prev l j) (l.drop j)) := by
  have hlen := klen_le l
  intro d
  have fin : ∀ j : Nat, l.length ≤ j → Ev (fun k => mastref2_eachValue.l0 k k0 b0 i0 t0 is0 l l (llen l) (j : Int)) (bif ieq (ks (prev l j) (l.drop j)) 0 then e else ks (prev l j) (l.drop j)) := fun j h => by
    rw [List.drop_eq_nil_of_le h]
    refine Ev.step (fun k => ?_) (show Ev (fun k => mastref2_eachValue.l1 k is0 (llen is0) 0) (bif ieq (ks (prev l j) []) 0 then e else ks (prev l j) []) from he)
    simp only [mastref2_eachValue.l0, llen_eq, ilt_f (show (l.length : Int) ≤ (j : Int) by omega), cond_false]
  induction d with
  | zero => intro j hd hj; exact fin j (by omega)
  | succ d ihd =>
    intro j hd hj
    rcases Nat.lt_or_ge j l.length with hlt | hge
    · rw [List.drop_eq_getElem_cons hlt]
      have hr := ihd (j + 1) (by omega) hlt
      rw [prev_succ hlt] at hr
      have hkz := kz_mem (List.getElem_mem hlt)
      cases hk : key l[j] with
      | false =>
        refine Ev.step (g := fun _ => some 12) (fun k => ?_) (Ev.now fun _ => by simp [ks, hk, ieq])
        simp only [mastref2_eachValue.l0, llen_eq, ilt_t (show (j : Int) < (l.length : Int) by omega), cond_true, lat_lt hlt, Option.bind_some, keyR_ok l[j] (by omega), hk, Bool.not_false]
      | true =>
        cases j with
        | zero =>
          have e : ks (prev l 0) (l[0] :: l.drop 1) = ks (some l[0]) (l.drop 1) := by simp [ks, hk, prev]
          rw [e]
          refine Ev.step (fun k => ?_) hr
          simp only [mastref2_eachValue.l0, llen_eq, ilt_t (show ((0 : Nat) : Int) < (l.length : Int) by omega), cond_true, lat_lt hlt, Option.bind_some, keyR_ok l[0] (by omega), hk, Bool.not_true, cond_false, ilt_f (show ((0 : Nat) : Int) ≤ 0 by omega), u0 (show 0 ≤ 4611686018427387904 by omega)]
        | succ i =>
          have hi : i < l.length := by omega
          have w : wsub .i64 ((i + 1 : Nat) : Int) 1 = (i : Int) := by rw [wsub64 (by omega) (by omega)]; omega
          rw [prev_succ hi]
          cases hle : sle l[i + 1] l[i] with
          | true =>
            have e : ks (some l[i]) (l[i + 1] :: l.drop (i + 1 + 1)) = 5 := by simp [ks, hk, hle]
            rw [e]
            refine Ev.step (g := fun _ => some 5) (fun k => ?_) (Ev.now fun _ => rfl)
            simp only [mastref2_eachValue.l0, llen_eq, ilt_t (show ((i + 1 : Nat) : Int) < (l.length : Int) by omega), cond_true, lat_lt hlt, Option.bind_some, keyR_ok l[i + 1] (by omega), hk, Bool.not_true, cond_false, ilt_t (show (0 : Int) < ((i + 1 : Nat) : Int) by omega), w, lat_lt hi, hle, u0 (show i + 1 ≤ 4611686018427387904 by omega)]
          | false =>
            have e : ks (some l[i]) (l[i + 1] :: l.drop (i + 1 + 1)) = ks (some l[i + 1]) (l.drop (i + 1 + 1)) := by simp [ks, hk, hle]
            rw [e]
            refine Ev.step (fun k => ?_) hr
            simp only [mastref2_eachValue.l0, llen_eq, ilt_t (show ((i + 1 : Nat) : Int) < (l.length : Int) by omega), cond_true, lat_lt hlt, Option.bind_some, keyR_ok l[i + 1] (by omega), hk, Bool.not_true, cond_false, ilt_t (show (0 : Int) < ((i + 1 : Nat) : Int) by omega), w, lat_lt hi, hle, u0 (show i + 1 ≤ 4611686018427387904 by omega)]
    · exact fin j hge
theorem keys_ref (k0 : Int) (b0 : Bool) (i0 : Int) (t0 : ByteArray) (is0 : List T_api_Value) (l : List ByteArray) (hl : kz l ≤ 1048576) (e : Int) (he : Ev (fun k => mastref2_eachValue.l1 k is0 (llen is0) 0) e) : Ev (fun k => mastref2_eachValue.l0 k k0 b0 i0 t0 is0 l l (llen l) 0) (bif ieq (ks none l) 0 then e else ks (none) (l)) := by
  have := keys_loop_ref k0 b0 i0 t0 is0 l hl e he l.length 0 (by omega) (by omega)
  rw [List.drop_zero] at this
  exact this


/-! One value. -/
def un (v : T_api_Value) : Bool := (v.fBool && !ieq v.fKind 1) || ((!ieq v.fInt 0 && !ieq v.fKind 2) && !ieq v.fKind 4) || (!seq v.fText c_empty && !ieq v.fKind 3) || ((ilt 0 (llen v.fItems) && !ieq v.fKind 5) && !ieq v.fKind 6) || (ilt 0 (llen v.fKeys) && !ieq v.fKind 6)
def un2 (v : T_api_Value) : Bool := ieq v.fKind 6 && !ieq (llen v.fKeys) (llen v.fItems)
def own (v : T_api_Value) : Int :=
  bif ilt v.fKind 0 || ilt 6 v.fKind then 10 else bif un v || un2 v then 1 else bif ieq v.fKind 4 && (ilt v.fInt 0 || ilt 84005 v.fInt) then 2 else bif ilt 5000 (slen v.fText) then 4 else bif bad v.fText then 9 else ks none v.fKeys
mutual
def vf : T_api_Value → Int
  | ⟨k, b, i, t, is, s⟩ => bif ieq (own ⟨k, b, i, t, is, s⟩) 0 then vfs is else own ⟨k, b, i, t, is, s⟩
def vfs : List T_api_Value → Int
  | [] => 0
  | t :: r => bif ieq (vf t) 0 then vfs r else vf t
end
theorem vf_eq (t : T_api_Value) : vf t = bif ieq (own t) 0 then vfs t.fItems else own t := by cases t; simp [vf]
theorem vfs_find : ∀ (l : List T_api_Value) (v : Int), (∃ t ∈ l, vf t ≠ 0 ∧ True) ∨ vfs l = 0 := fun l v => by
  induction l with
  | nil => exact .inr rfl
  | cons a l ih =>
    by_cases h : vf a = 0
    · rcases ih with ⟨t, h1, h2⟩ | h2
      · exact .inl ⟨t, List.mem_cons_of_mem _ h1, h2⟩
      · right; simp only [vfs, ieq_t h, cond_true]; exact h2
    · exact .inl ⟨a, List.mem_cons_self .., h, trivial⟩
theorem items_conf (l : List T_api_Value) (hl : wts l ≤ 1048576) (ih : ∀ k ∈ l, Ev (fun f => conf_valuesFault.f f k) (vf k)) : Ev (fun k => conf_valuesFault.l0 k l (llen l) 0) (vfs l) := by
  have hlen := len_le l
  have : ∀ (d j : Nat), l.length - j ≤ d → j ≤ l.length → Ev (fun k => conf_valuesFault.l0 k l (llen l) (j : Int)) (vfs (l.drop j)) := by
    intro d
    have fin : ∀ j : Nat, l.length ≤ j → Ev (fun k => conf_valuesFault.l0 k l (llen l) (j : Int)) (vfs (l.drop j)) := fun j h => by
      rw [List.drop_eq_nil_of_le h]
      refine Ev.step (g := fun _ => some 0) (fun k => ?_) (Ev.now fun _ => rfl)
      simp only [conf_valuesFault.l0, llen_eq, ilt_f (show (l.length : Int) ≤ (j : Int) by omega), cond_false]
    induction d with
    | zero => intro j hd hj; exact fin j (by omega)
    | succ d ihd =>
      intro j hd hj
      rcases Nat.lt_or_ge j l.length with hlt | hge
      · rw [List.drop_eq_getElem_cons hlt]
        refine Ev.step (fun k => by simp only [conf_valuesFault.l0, llen_eq, ilt_t (show (j : Int) < (l.length : Int) by omega), cond_true, lat_lt hlt, Option.bind_some, eta]; rfl) (Ev.bind (ih _ (List.getElem_mem hlt)) ?_)
        simp only [vfs, u0 (show j ≤ 4611686018427387904 by omega)]
        cases ieq (vf l[j]) 0 with
        | true => exact ihd (j + 1) (by omega) hlt
        | false => exact Ev.now fun _ => rfl
      · exact fin j hge
  have := this l.length 0 (by omega) (by omega)
  rw [List.drop_zero] at this
  exact this

theorem items_ref (l : List T_api_Value) (hl : wts l ≤ 1048576) (ih : ∀ k ∈ l, Ev (fun f => mastref2_eachValue.f f k) (vf k)) : Ev (fun k => mastref2_eachValue.l1 k l (llen l) 0) (vfs l) := by
  have hlen := len_le l
  have : ∀ (d j : Nat), l.length - j ≤ d → j ≤ l.length → Ev (fun k => mastref2_eachValue.l1 k l (llen l) (j : Int)) (vfs (l.drop j)) := by
    intro d
    have fin : ∀ j : Nat, l.length ≤ j → Ev (fun k => mastref2_eachValue.l1 k l (llen l) (j : Int)) (vfs (l.drop j)) := fun j h => by
      rw [List.drop_eq_nil_of_le h]
      refine Ev.step (g := fun _ => some 0) (fun k => ?_) (Ev.now fun _ => rfl)
      simp only [mastref2_eachValue.l1, llen_eq, ilt_f (show (l.length : Int) ≤ (j : Int) by omega), cond_false]
    induction d with
    | zero => intro j hd hj; exact fin j (by omega)
    | succ d ihd =>
      intro j hd hj
      rcases Nat.lt_or_ge j l.length with hlt | hge
      · rw [List.drop_eq_getElem_cons hlt]
        refine Ev.step (fun k => by simp only [mastref2_eachValue.l1, llen_eq, ilt_t (show (j : Int) < (l.length : Int) by omega), cond_true, lat_lt hlt, Option.bind_some, eta]; rfl) (Ev.bind (ih _ (List.getElem_mem hlt)) ?_)
        simp only [vfs, u0 (show j ≤ 4611686018427387904 by omega)]
        cases ieq (vf l[j]) 0 with
        | true => exact ihd (j + 1) (by omega) hlt
        | false => exact Ev.now fun _ => rfl
      · exact fin j hge
  have := this l.length 0 (by omega) (by omega)
  rw [List.drop_zero] at this
  exact this


theorem unused_ok (v : T_api_Value) : Ev (fun k => conf_unused.f k v) (un v || un2 v) := by
  have l0 : ∀ b : Bool, Ev (fun k => conf_unused.l0 k v.fKind v.fBool v.fInt v.fText v.fItems v.fKeys v.fKind b) (b || ((ilt 0 (llen v.fItems) && !ieq v.fKind 5) && !ieq v.fKind 6) || (ilt 0 (llen v.fKeys) && !ieq v.fKind 6) || un2 v) := fun b => by
    refine Ev.step (g := fun _ => some (b || ((ilt 0 (llen v.fItems) && !ieq v.fKind 5) && !ieq v.fKind 6) || (ilt 0 (llen v.fKeys) && !ieq v.fKind 6) || un2 v)) (fun k => ?_) (Ev.now fun _ => rfl)
    simp only [conf_unused.l0, un2]
    cases b <;> cases ilt 0 (llen v.fItems) <;> cases ieq v.fKind 5 <;> cases ieq v.fKind 6 <;> cases ilt 0 (llen v.fKeys) <;> cases ieq (llen v.fKeys) (llen v.fItems) <;> rfl
  have l1 := l0 (v.fBool && !ieq v.fKind 1 || ((!ieq v.fInt 0 && !ieq v.fKind 2) && !ieq v.fKind 4) || (!seq v.fText c_empty && !ieq v.fKind 3))
  refine Ev.congr (fun k => ?_) l1
  simp only [conf_unused.f]
  cases v.fBool <;> cases ieq v.fKind 1 <;> cases ieq v.fInt 0 <;> cases ieq v.fKind 2 <;> cases ieq v.fKind 4 <;> cases seq v.fText c_empty <;> cases ieq v.fKind 3 <;> rfl

theorem own_ok (v : T_api_Value) (hv : wt v ≤ 1048576) : Ev (fun k => conf_valueFault.f k v) (own v) := by
  rw [wt_eq] at hv
  have l0 : ∀ b : Bool, Ev (fun k => conf_valueFault.l0 k v.fKind v.fBool v.fInt v.fText v.fItems v.fKeys b) (bif b then 2 else bif ilt 5000 (slen v.fText) then 4 else bif bad v.fText then 9 else ks none v.fKeys) := fun b => by
    cases b with
    | true => exact Ev.step (g := fun _ => some 2) (fun k => by simp only [conf_valueFault.l0, cond_true]) (Ev.now fun _ => rfl)
    | false =>
      simp only [cond_false]
      cases h : ilt 5000 (slen v.fText) with
      | true => exact Ev.step (g := fun _ => some 4) (fun k => by simp only [conf_valueFault.l0, cond_false, h, cond_true]) (Ev.now fun _ => rfl)
      | false =>
        simp only [cond_false]
        refine Ev.step (fun k => by simp only [conf_valueFault.l0, cond_false, h]; rfl) (Ev.bind (bad_conf v.fText (by omega)) ?_)
        cases bad v.fText with
        | true => exact Ev.now fun _ => rfl
        | false =>
          simp only [cond_false]
          exact keys_conf v.fKind v.fBool v.fInt v.fText v.fItems v.fKeys (by omega)
  unfold own
  cases h : ilt v.fKind 0 || ilt 6 v.fKind with
  | true =>
    refine Ev.now fun k => ?_
    simp only [conf_valueFault.f]
    rw [show (bif ilt v.fKind 0 then true else ilt 6 v.fKind) = true by rw [← h]; cases ilt v.fKind 0 <;> rfl]
    rfl
  | false =>
    simp only [cond_false]
    refine Ev.congr (g := fun k => (conf_unused.f k v).bind fun y1 => bif y1 then some 1 else bif ieq v.fKind 4 then (conf_badDay.f v.fInt).bind fun y2 => conf_valueFault.l0 k v.fKind v.fBool v.fInt v.fText v.fItems v.fKeys y2 else conf_valueFault.l0 k v.fKind v.fBool v.fInt v.fText v.fItems v.fKeys false) (fun k => ?_) (Ev.bind (unused_ok v) ?_)
    · simp only [conf_valueFault.f, eta]
      rw [show (bif ilt v.fKind 0 then true else ilt 6 v.fKind) = false by rw [← h]; cases ilt v.fKind 0 <;> rfl]
      rfl
    · cases un v || un2 v with
      | true => exact Ev.now fun _ => rfl
      | false =>
        simp only [cond_false]
        cases h4 : ieq v.fKind 4 with
        | false => simpa using l0 false
        | true =>
          have := l0 (ilt v.fInt 0 || ilt 84005 v.fInt)
          simp only [cond_true, conf_badDay.f, Option.bind_some, Bool.true_and]
          rw [show (bif ilt v.fInt 0 then true else ilt 84005 v.fInt) = (ilt v.fInt 0 || ilt 84005 v.fInt) by cases ilt v.fInt 0 <;> rfl]
          exact this

theorem vf_ok : ∀ v, wt v ≤ 1048576 → Ev (fun k => conf_valuesFault.f k v) (vf v) := tree fun v ih hv => by
  have hv' := hv
  rw [wt_eq] at hv'
  rw [vf_eq]
  refine Ev.step (g := fun k => (conf_valueFault.f k v).bind fun y1 => bif !ieq y1 0 then some y1 else conf_valuesFault.l0 k v.fItems (llen v.fItems) 0) (fun k => by simp only [conf_valuesFault.f, eta]) (Ev.bind (own_ok v hv) ?_)
  cases h : ieq (own v) 0 with
  | false => exact Ev.now fun _ => rfl
  | true => exact items_conf v.fItems (by omega) fun k hk => ih k hk (by have := wt_mem hk; omega)

theorem vfR_ok : ∀ v, wt v ≤ 1048576 → Ev (fun k => mastref2_eachValue.f k v) (vf v) := tree fun v ih hv => by
  rw [wt_eq] at hv
  have li := items_ref v.fItems (by omega) fun k hk => ih k hk (by have := wt_mem hk; omega)
  have lk := keys_ref v.fKind v.fBool v.fInt v.fText v.fItems v.fKeys (by omega) (vfs v.fItems) li
  have lb := bad_ref v.fText (by omega)
  rw [vf_eq]
  cases hk : ilt v.fKind 0 || ilt 6 v.fKind with
  | true =>
    refine Ev.step (g := fun _ => some 10) (fun k => ?_) (Ev.now fun _ => by simp [own, hk, ieq])
    simp only [mastref2_eachValue.f]
    rw [show (bif ilt v.fKind 0 then true else ilt 6 v.fKind) = true by rw [← hk]; cases ilt v.fKind 0 <;> rfl]
    rfl
  | false =>
    have e1 : (bif ilt v.fKind 0 then true else ilt 6 v.fKind) = false := by rw [← hk]; cases ilt v.fKind 0 <;> rfl
    have e2 : (bif (bif (bif (bif (bif v.fBool then (!ieq v.fKind 1) else false) then true else (bif (bif (!ieq v.fInt 0) then (!ieq v.fKind 2) else false) then (!ieq v.fKind 4) else false)) then true else (bif (!seq v.fText c_empty) then (!ieq v.fKind 3) else false)) then true else (bif (bif (ilt 0 (llen v.fItems)) then (!ieq v.fKind 5) else false) then (!ieq v.fKind 6) else false)) then true else (bif (ilt 0 (llen v.fKeys)) then (!ieq v.fKind 6) else false)) = un v := by
      unfold un
      cases v.fBool <;> cases ieq v.fKind 1 <;> cases ieq v.fInt 0 <;> cases ieq v.fKind 2 <;> cases ieq v.fKind 4 <;> cases seq v.fText c_empty <;> cases ieq v.fKind 3 <;> cases ilt 0 (llen v.fItems) <;> cases ieq v.fKind 5 <;> cases ieq v.fKind 6 <;> cases ilt 0 (llen v.fKeys) <;> rfl
    have e3 : (bif ieq v.fKind 6 then (!ieq (llen v.fKeys) (llen v.fItems)) else false) = un2 v := by
      unfold un2
      cases ieq v.fKind 6 <;> rfl
    have e4 : (bif ieq v.fKind 4 then (bif ilt v.fInt 0 then true else ilt 84005 v.fInt) else false) = (ieq v.fKind 4 && (ilt v.fInt 0 || ilt 84005 v.fInt)) := by
      cases ieq v.fKind 4 <;> cases ilt v.fInt 0 <;> rfl
    have st : ∀ k, mastref2_eachValue.f (k + 1) v = bif un v then some 1 else bif un2 v then some 1 else bif (ieq v.fKind 4 && (ilt v.fInt 0 || ilt 84005 v.fInt)) then some 2 else bif ilt 5000 (slen v.fText) then some 4 else (mastref2_badByte.f k v.fText).bind fun y1 => bif y1 then some 9 else mastref2_eachValue.l0 k v.fKind v.fBool v.fInt v.fText v.fItems v.fKeys v.fKeys (llen v.fKeys) 0 := fun k => by
      simp only [mastref2_eachValue.f, e1, e2, e3, e4, cond_false]
    cases h1 : un v with
    | true => exact Ev.step (g := fun _ => some 1) (fun k => by rw [st, h1]; rfl) (Ev.now fun _ => by simp [own, hk, h1, ieq])
    | false =>
      cases h2 : un2 v with
      | true => exact Ev.step (g := fun _ => some 1) (fun k => by rw [st, h1, h2]; rfl) (Ev.now fun _ => by simp [own, hk, h1, h2, ieq])
      | false =>
        cases h3 : (ieq v.fKind 4 && (ilt v.fInt 0 || ilt 84005 v.fInt)) with
        | true => exact Ev.step (g := fun _ => some 2) (fun k => by rw [st, h1, h2, h3]; rfl) (Ev.now fun _ => by rw [show own v = 2 by unfold own; rw [hk, h1, h2, h3]; rfl]; rfl)
        | false =>
          cases h4 : ilt 5000 (slen v.fText) with
          | true => exact Ev.step (g := fun _ => some 4) (fun k => by rw [st, h1, h2, h3, h4]; rfl) (Ev.now fun _ => by rw [show own v = 4 by unfold own; rw [hk, h1, h2, h3, h4]; rfl]; rfl)
          | false =>
            have eo : own v = bif bad v.fText then 9 else ks none v.fKeys := by simp [own, hk, h1, h2, h3, h4]
            rw [eo]
            refine Ev.step (fun k => by rw [st, h1, h2, h3, h4]; rfl) (Ev.bind lb ?_)
            cases bad v.fText with
            | true => exact Ev.now fun _ => rfl
            | false => exact lk

/-- The check. -/
def chk (v : T_api_Value) : Int := bif decide (1000 < nT v) then 4 else bif decide (8 < lv v) then 13 else vf v
theorem chk_ok (v : T_api_Value) (hv : wt v ≤ 1048576) : Ev (fun k => conf_Check.f k v) (chk v) := by
  obtain ⟨r, r1, r2, r3⟩ := count_conf v hv
  refine Ev.congr (g := fun k => (conf_count.f k v).bind fun y1 => bif ilt 1000 y1 then some 4 else (conf_levels.f k v).bind fun y2 => bif ilt 8 y2 then some 13 else (conf_valuesFault.f k v).bind fun y3 => some y3) (fun k => by simp only [conf_Check.f, eta]) (Ev.bind r1 ?_)
  unfold chk
  by_cases c : 1000 < nT v
  · rw [ilt_t (show (1000 : Int) < (r : Int) by omega), decide_eq_true c]; exact Ev.now fun _ => rfl
  · rw [ilt_f (show (r : Int) ≤ 1000 by omega), decide_eq_false c]
    refine Ev.bind (levels_conf v hv) ?_
    by_cases c2 : 8 < lv v
    · rw [ilt_t (show (8 : Int) < (lv v : Int) by omega), decide_eq_true c2]; exact Ev.now fun _ => rfl
    · rw [ilt_f (show (lv v : Int) ≤ 8 by omega), decide_eq_false c2]
      exact Ev.bind (vf_ok v hv) (Ev.now fun _ => rfl)
theorem count_loop_list (l : List T_api_Value) (hl : wts l ≤ 1048576) (ih : ∀ k ∈ l, ∃ r : Nat, Ev (fun f => list_count.f f k) (r : Int) ∧ r ≤ nT k ∧ (5000 < r ∨ r = nT k)) : ∀ (d j a : Nat), l.length - j ≤ d → j ≤ l.length → a + nTs (l.drop j) ≤ 1048577 →
    ∃ r : Nat, Ev (fun f => list_count.l0 f (a : Int) l (llen l) (j : Int)) (r : Int) ∧ r ≤ a + nTs (l.drop j) ∧ (5000 < r ∨ r = a + nTs (l.drop j)) := by
  have hlen := len_le l
  have fin : ∀ j a : Nat, l.length ≤ j → ∃ r : Nat, Ev (fun f => list_count.l0 f (a : Int) l (llen l) (j : Int)) (r : Int) ∧ r ≤ a + nTs (l.drop j) ∧ (5000 < r ∨ r = a + nTs (l.drop j)) := fun j a h => by
    refine ⟨a, Ev.step (g := fun _ => some (a : Int)) (fun k => ?_) (Ev.now fun _ => rfl), by omega, ?_⟩
    · simp only [list_count.l0, llen_eq, ilt_f (show (l.length : Int) ≤ (j : Int) by omega), cond_false]
    · rw [List.drop_eq_nil_of_le h]; simp [nTs]
  intro d
  induction d with
  | zero => intro j a hd hj hb; exact fin j a (by omega)
  | succ d ihd =>
    intro j a hd hj hb
    rcases Nat.lt_or_ge j l.length with hlt | hge
    · rw [List.drop_eq_getElem_cons hlt] at hb ⊢
      simp only [nTs] at hb ⊢
      by_cases ha : 5000 < a
      · refine ⟨a, Ev.step (g := fun _ => some (a : Int)) (fun k => ?_) (Ev.now fun _ => rfl), by omega, .inl ha⟩
        simp only [list_count.l0, llen_eq, ilt_t (show (j : Int) < (l.length : Int) by omega), cond_true, lat_lt hlt, Option.bind_some, ilt_t (show (5000 : Int) < (a : Int) by omega)]
      · obtain ⟨r, r1, r2, r3⟩ := ih _ (List.getElem_mem hlt)
        obtain ⟨q, q1, q2, q3⟩ := ihd (j + 1) (a + r) (by omega) hlt (by omega)
        have w : wadd .i64 (a : Int) (r : Int) = ((a + r : Nat) : Int) := by rw [wadd64 (by omega) (by omega)]; omega
        refine ⟨q, Ev.step (g := fun k => (list_count.f k l[j]).bind fun y2 => list_count.l0 k (wadd .i64 (a : Int) y2) l (llen l) ((j + 1 : Nat) : Int)) (fun k => ?_) (Ev.bind r1 (by rw [w]; exact q1)), by omega, by omega⟩
        simp only [list_count.l0, llen_eq, ilt_t (show (j : Int) < (l.length : Int) by omega), cond_true, lat_lt hlt, Option.bind_some, ilt_f (show (a : Int) ≤ 5000 by omega), cond_false, eta, u0 (show j ≤ 4611686018427387904 by omega)]
    · exact fin j a hge
theorem count_list : ∀ t, wt t ≤ 1048576 → ∃ r : Nat, Ev (fun f => list_count.f f t) (r : Int) ∧ r ≤ nT t ∧ (5000 < r ∨ r = nT t) := tree fun t ih hn => by
  have h0 := nTs_wts t.fItems
  rw [wt_eq] at hn
  obtain ⟨r, r1, r2, r3⟩ := count_loop_list t.fItems (by omega) (fun k hk => ih k hk (by have := wt_mem hk; omega)) t.fItems.length 0 1 (by omega) (by omega) (by rw [List.drop_zero]; omega)
  rw [List.drop_zero] at r2 r3
  rw [nT_eq]
  exact ⟨r, Ev.step (fun k => by simp only [list_count.f]; rfl) r1, by omega, by omega⟩

theorem levels_loop_list (l : List T_api_Value) (hl : wts l ≤ 1048576) (ih : ∀ k ∈ l, Ev (fun f => list_levels.f f k) (lv k : Int)) : ∀ (d j a : Nat), l.length - j ≤ d → j ≤ l.length → a ≤ 1048576 →
    Ev (fun f => list_levels.l0 f (a : Int) l (llen l) (j : Int)) ((max a (lvs (l.drop j)) + 1 : Nat) : Int) := by
  have hlen := len_le l
  have hlv := fun k (hk : k ∈ l) => (show lv k ≤ 1048576 by have h1 := wt_mem hk; have h2 := lv_wt k; omega)
  have fin : ∀ j a : Nat, l.length ≤ j → a ≤ 1048576 → Ev (fun f => list_levels.l0 f (a : Int) l (llen l) (j : Int)) ((max a (lvs (l.drop j)) + 1 : Nat) : Int) := fun j a h ha => by
    rw [List.drop_eq_nil_of_le h]
    refine Ev.step (g := fun _ => some ((max a (lvs []) + 1 : Nat) : Int)) (fun k => ?_) (Ev.now fun _ => rfl)
    simp only [list_levels.l0, llen_eq, ilt_f (show (l.length : Int) ≤ (j : Int) by omega), cond_false, lvs, u0 (show a ≤ 4611686018427387904 by omega)]
    simp
  intro d
  induction d with
  | zero => intro j a hd hj ha; exact fin j a (by omega) ha
  | succ d ihd =>
    intro j a hd hj ha
    rcases Nat.lt_or_ge j l.length with hlt | hge
    · rw [List.drop_eq_getElem_cons hlt]
      have hk := hlv _ (List.getElem_mem hlt)
      have := ihd (j + 1) (max a (lv l[j])) (by omega) hlt (by omega)
      rw [show max (max a (lv l[j])) (lvs (l.drop (j + 1))) = max a (lvs (l[j] :: l.drop (j + 1))) by simp only [lvs]; omega] at this
      refine Ev.step (g := fun k => (list_levels.f k l[j]).bind fun y2 => list_levels.l0 k (imax (a : Int) y2) l (llen l) ((j + 1 : Nat) : Int)) (fun k => ?_) (Ev.bind (ih _ (List.getElem_mem hlt)) (by rw [imax_nat]; exact this))
      simp only [list_levels.l0, llen_eq, ilt_t (show (j : Int) < (l.length : Int) by omega), cond_true, lat_lt hlt, Option.bind_some, eta, u0 (show j ≤ 4611686018427387904 by omega)]
    · exact fin j a hge ha
theorem levels_list : ∀ t, wt t ≤ 1048576 → Ev (fun f => list_levels.f f t) (lv t : Int) := tree fun t ih hn => by
  rw [wt_eq] at hn
  have := levels_loop_list t.fItems (by omega) (fun k hk => ih k hk (by have := wt_mem hk; omega)) t.fItems.length 0 0 (by omega) (by omega) (by omega)
  rw [List.drop_zero, Nat.zero_max] at this
  rw [lv_eq]
  exact Ev.step (fun k => by simp only [list_levels.f]; rfl) this

theorem key_list (s : ByteArray) : Ev (fun k => list_isKey.f k s) (key s) := by
  cases h : s.data.toList with
  | nil => exact Ev.now fun k => by simp only [list_isKey.f, seq_empty, h, key, keyL, List.isEmpty_nil, cond_true]
  | cons c r =>
    by_cases hl : r.length < 40
    · have hl' : s.data.toList.length ≤ 40 := by rw [h]; simp; omega
      cases hc : small c with
      | false =>
        refine Ev.now fun k => ?_
        simp only [list_isKey.f, seq_empty, h, key, keyL, List.isEmpty_cons, cond_false, slen_l, ilt_f (show ((c :: r).length : Int) ≤ 40 by rw [← h]; omega), sat_0 h, Option.bind_some, list_isSmall.f, hc, Bool.and_false, Bool.false_and]
        rw [show (bif ile 97 (c.toNat : Int) then ile (c.toNat : Int) 122 else false) = small c from rfl, hc]
        rfl
      | true =>
        have q := find_pure s.data.toList 1 (by rw [h]; simp) (fun k j => list_isKey.l0 k s (j : Int)) (fun _ => some true) (fun c => !ins c) (fun _ => false) true
          (fun k j h => by
            simp only [list_isKey.l0, slen_l, ilen _ _ h, cond_true, sat_l h, Option.bind_some, u0 (show j ≤ 4611686018427387904 by omega), list_isSmall.f, list_isDigit.f, ins, small]
            cases (bif ile 97 (s.data.toList[j].toNat : Int) then ile (s.data.toList[j].toNat : Int) 122 else false) <;> cases (bif ile 48 (s.data.toList[j].toNat : Int) then ile (s.data.toList[j].toNat : Int) 57 else false) <;> cases ieq (s.data.toList[j].toNat : Int) 45 <;> cases ieq (s.data.toList[j].toNat : Int) 95 <;> rfl)
          (fun k => by simp only [list_isKey.l0, slen_l, ilen', cond_false]) (Ev.now fun _ => rfl)
        rw [fl_const, h, List.drop_succ_cons, List.drop_zero, all_ins] at q
        have e : key s = r.all ins := by unfold key; rw [h]; simp [keyL, hl, hc]
        rw [e]
        refine Ev.congr (fun k => ?_) q
        simp only [list_isKey.f, seq_empty, h, List.isEmpty_cons, cond_false, slen_l, ilt_f (show ((c :: r).length : Int) ≤ 40 by rw [← h]; omega), sat_0 h, Option.bind_some, list_isSmall.f]
        rw [show (bif ile 97 (c.toNat : Int) then ile (c.toNat : Int) 122 else false) = small c from rfl, hc]
        rfl
    · refine Ev.now fun k => ?_
      simp only [list_isKey.f, seq_empty, h, key, keyL, List.isEmpty_cons, cond_false, slen_l, ilt_t (show (40 : Int) < ((c :: r).length : Int) by simp; omega), cond_true, decide_eq_false hl, Bool.false_and]

theorem keys_loop_list (k0 : Int) (b0 : Bool) (i0 : Int) (t0 : ByteArray) (is0 : List T_api_Value) (l : List ByteArray) (hl : kz l ≤ 1048576) : ∀ (d j : Nat), l.length - j ≤ d → j ≤ l.length →
    Ev (fun k => list_tableFault.l0 k k0 b0 i0 t0 is0 l l (llen l) (j : Int)) (ks (prev l j) (l.drop j)) := by
  have hlen := klen_le l
  intro d
  have fin : ∀ j : Nat, l.length ≤ j → Ev (fun k => list_tableFault.l0 k k0 b0 i0 t0 is0 l l (llen l) (j : Int)) (ks (prev l j) (l.drop j)) := fun j h => by
    rw [List.drop_eq_nil_of_le h]
    refine Ev.step (fun k => ?_) (show Ev (fun _ => some 0) (ks (prev l j) []) from Ev.now fun _ => rfl)
    simp only [list_tableFault.l0, llen_eq, ilt_f (show (l.length : Int) ≤ (j : Int) by omega), cond_false]
  induction d with
  | zero => intro j hd hj; exact fin j (by omega)
  | succ d ihd =>
    intro j hd hj
    rcases Nat.lt_or_ge j l.length with hlt | hge
    · rw [List.drop_eq_getElem_cons hlt]
      have hr := ihd (j + 1) (by omega) hlt
      rw [prev_succ hlt] at hr
      have hkz := kz_mem (List.getElem_mem hlt)
      cases hk : key l[j] with
      | false =>
        refine Ev.step (fun k => by simp only [list_tableFault.l0, llen_eq, ilt_t (show (j : Int) < (l.length : Int) by omega), cond_true, lat_lt hlt, Option.bind_some]; rfl) (Ev.bind (key_list l[j]) ?_)
        rw [hk]
        exact Ev.now fun _ => by simp [ks, hk]
      | true =>
        cases j with
        | zero =>
          have e : ks (prev l 0) (l[0] :: l.drop 1) = ks (some l[0]) (l.drop 1) := by simp [ks, hk, prev]
          rw [e]
          refine Ev.step (fun k => by simp only [list_tableFault.l0, llen_eq, ilt_t (show ((0 : Nat) : Int) < (l.length : Int) by omega), cond_true, lat_lt hlt, Option.bind_some]; rfl) (Ev.bind (key_list l[0]) ?_)
          rw [hk]
          simp only [Bool.not_true, cond_false, ilt_f (show ((0 : Nat) : Int) ≤ 0 by omega), u0 (show 0 ≤ 4611686018427387904 by omega)]
          exact hr
        | succ i =>
          have hi : i < l.length := by omega
          have w : wsub .i64 ((i + 1 : Nat) : Int) 1 = (i : Int) := by rw [wsub64 (by omega) (by omega)]; omega
          rw [prev_succ hi]
          cases hle : sle l[i + 1] l[i] with
          | true =>
            have e : ks (some l[i]) (l[i + 1] :: l.drop (i + 1 + 1)) = 5 := by simp [ks, hk, hle]
            rw [e]
            refine Ev.step (fun k => by simp only [list_tableFault.l0, llen_eq, ilt_t (show ((i + 1 : Nat) : Int) < (l.length : Int) by omega), cond_true, lat_lt hlt, Option.bind_some]; rfl) (Ev.bind (key_list l[i + 1]) ?_)
            rw [hk]
            simp only [Bool.not_true, cond_false, ilt_t (show (0 : Int) < ((i + 1 : Nat) : Int) by omega), cond_true, w, lat_lt hi, Option.bind_some, hle, u0 (show i + 1 ≤ 4611686018427387904 by omega)]
            exact Ev.now fun _ => rfl
          | false =>
            have e : ks (some l[i]) (l[i + 1] :: l.drop (i + 1 + 1)) = ks (some l[i + 1]) (l.drop (i + 1 + 1)) := by simp [ks, hk, hle]
            rw [e]
            refine Ev.step (fun k => by simp only [list_tableFault.l0, llen_eq, ilt_t (show ((i + 1 : Nat) : Int) < (l.length : Int) by omega), cond_true, lat_lt hlt, Option.bind_some]; rfl) (Ev.bind (key_list l[i + 1]) ?_)
            rw [hk]
            simp only [Bool.not_true, cond_false, ilt_t (show (0 : Int) < ((i + 1 : Nat) : Int) by omega), cond_true, w, lat_lt hi, Option.bind_some, hle, u0 (show i + 1 ≤ 4611686018427387904 by omega)]
            exact hr
    · exact fin j hge
theorem keys_list (k0 : Int) (b0 : Bool) (i0 : Int) (t0 : ByteArray) (is0 : List T_api_Value) (l : List ByteArray) (hl : kz l ≤ 1048576) : Ev (fun k => list_tableFault.l0 k k0 b0 i0 t0 is0 l l (llen l) 0) (ks none l) := by
  have := keys_loop_list k0 b0 i0 t0 is0 l hl  l.length 0 (by omega) (by omega)
  rw [List.drop_zero] at this
  exact this

mutual
/-- A value whose safe texts and facts are strings. -/
def st : T_api_Value → T_api_Value
  | ⟨k, b, i, t, is, s⟩ => ⟨bif ieq k 7 || ieq k 8 then 3 else k, b, i, t, sts is, s⟩
def sts : List T_api_Value → List T_api_Value
  | [] => []
  | t :: r => st t :: sts r
end
theorem st_eq (v : T_api_Value) : st v = ⟨bif ieq v.fKind 7 || ieq v.fKind 8 then 3 else v.fKind, v.fBool, v.fInt, v.fText, sts v.fItems, v.fKeys⟩ := by cases v; simp [st]
theorem sts_len : ∀ l, (sts l).length = l.length
  | [] => rfl
  | a :: l => by simp only [sts, List.length_cons, sts_len l]
theorem sts_append : ∀ l m, sts (l ++ m) = sts l ++ sts m
  | [], m => rfl
  | a :: l, m => by simp only [List.cons_append, sts, sts_append l m]
theorem st_wt : ∀ v, wt (st v) = wt v := tree fun v ih => by
  have : ∀ l : List T_api_Value, (∀ k ∈ l, wt (st k) = wt k) → wts (sts l) = wts l := by
    intro l
    induction l with
    | nil => intro _; rfl
    | cons a l ih =>
      intro h
      have h1 := h a (List.mem_cons_self ..)
      have h2 := ih fun k hk => h k (List.mem_cons_of_mem _ hk)
      simp only [sts, wts, h1, h2]
  rw [wt_eq, wt_eq v, st_eq]
  show v.fText.size + kz v.fKeys + wts (sts v.fItems) + 1 = _
  rw [this v.fItems ih]
theorem items_list (l : List T_api_Value) (hl : wts l ≤ 1048576) (ih : ∀ k ∈ l, Ev (fun f => list_valuesFault.f f k) (vf (st k))) : Ev (fun k => list_valuesFault.l0 k l (llen l) 0) (vfs (sts l)) := by
  have hlen := len_le l
  have : ∀ (d j : Nat), l.length - j ≤ d → j ≤ l.length → Ev (fun k => list_valuesFault.l0 k l (llen l) (j : Int)) (vfs (sts (l.drop j))) := by
    intro d
    have fin : ∀ j : Nat, l.length ≤ j → Ev (fun k => list_valuesFault.l0 k l (llen l) (j : Int)) (vfs (sts (l.drop j))) := fun j h => by
      rw [List.drop_eq_nil_of_le h]
      refine Ev.step (g := fun _ => some 0) (fun k => ?_) (Ev.now fun _ => rfl)
      simp only [list_valuesFault.l0, llen_eq, ilt_f (show (l.length : Int) ≤ (j : Int) by omega), cond_false]
    induction d with
    | zero => intro j hd hj; exact fin j (by omega)
    | succ d ihd =>
      intro j hd hj
      rcases Nat.lt_or_ge j l.length with hlt | hge
      · rw [List.drop_eq_getElem_cons hlt]
        refine Ev.step (fun k => by simp only [list_valuesFault.l0, llen_eq, ilt_t (show (j : Int) < (l.length : Int) by omega), cond_true, lat_lt hlt, Option.bind_some, eta]; rfl) (Ev.bind (ih _ (List.getElem_mem hlt)) ?_)
        simp only [sts, vfs, u0 (show j ≤ 4611686018427387904 by omega)]
        cases ieq (vf (st l[j])) 0 with
        | true => exact ihd (j + 1) (by omega) hlt
        | false => exact Ev.now fun _ => rfl
      · exact fin j hge
  have := this l.length 0 (by omega) (by omega)
  rw [List.drop_zero] at this
  exact this

theorem settled_loop (a b : T_api_Value) (l : List T_api_Value) (hl : wts l ≤ 1048576) (ih : ∀ k ∈ l, Ev (fun f => mastref2_settled.f f k) (st k)) : ∀ (d j : Nat), l.length - j ≤ d → j ≤ l.length →
    Ev (fun k => mastref2_settled.l1 k a.fKind a.fBool a.fInt a.fText a.fItems a.fKeys b.fKind b.fBool b.fInt b.fText (sts (l.take j)) b.fKeys l (llen l) (j : Int)) ⟨b.fKind, b.fBool, b.fInt, b.fText, sts l, b.fKeys⟩ := by
  have hlen := len_le l
  intro d
  have fin : ∀ j : Nat, l.length ≤ j → Ev (fun k => mastref2_settled.l1 k a.fKind a.fBool a.fInt a.fText a.fItems a.fKeys b.fKind b.fBool b.fInt b.fText (sts (l.take j)) b.fKeys l (llen l) (j : Int)) ⟨b.fKind, b.fBool, b.fInt, b.fText, sts l, b.fKeys⟩ := fun j h => by
    rw [List.take_of_length_le h]
    refine Ev.step (g := fun _ => some ⟨b.fKind, b.fBool, b.fInt, b.fText, sts l, b.fKeys⟩) (fun k => ?_) (Ev.now fun _ => rfl)
    simp only [mastref2_settled.l1, llen_eq, ilt_f (show (l.length : Int) ≤ (j : Int) by omega), cond_false]
  induction d with
  | zero => intro j hd hj; exact fin j (by omega)
  | succ d ihd =>
    intro j hd hj
    rcases Nat.lt_or_ge j l.length with hlt | hge
    · have hr := ihd (j + 1) (by omega) hlt
      have ht : sts (l.take (j + 1)) = sts (l.take j) ++ [st l[j]] := by rw [List.take_succ_eq_append_getElem hlt, sts_append]; rfl
      have hap : lapp 88 (sts (l.take j)) [st l[j]] = some (sts (l.take (j + 1))) := by
        have h1 : (sts (l.take j)).length ≤ l.length := by rw [sts_len, List.length_take]; omega
        rw [ht]
        exact lapp_ok (by simp only [List.length_singleton]; omega) (by simp only [List.length_singleton]; omega)
      refine Ev.step (fun k => by simp only [mastref2_settled.l1, llen_eq, ilt_t (show (j : Int) < (l.length : Int) by omega), cond_true, lat_lt hlt, Option.bind_some, eta]; rfl) (Ev.bind (ih _ (List.getElem_mem hlt)) ?_)
      simp only [hap, Option.bind_some, u0 (show j ≤ 4611686018427387904 by omega)]
      exact hr
    · exact fin j hge

theorem settled_ok : ∀ v, wt v ≤ 1048576 → Ev (fun k => mastref2_settled.f k v) (st v) := tree fun v ih hv => by
  rw [wt_eq] at hv
  have l1 : ∀ a b : T_api_Value, Ev (fun k => mastref2_settled.l1 k a.fKind a.fBool a.fInt a.fText a.fItems a.fKeys b.fKind b.fBool b.fInt b.fText [] b.fKeys v.fItems (llen v.fItems) 0) ⟨b.fKind, b.fBool, b.fInt, b.fText, sts v.fItems, b.fKeys⟩ := fun a b =>
    settled_loop a b v.fItems (by omega) (fun k hk => ih k hk (by have := wt_mem hk; omega)) v.fItems.length 0 (by omega) (by omega)
  have l0 : ∀ a b : T_api_Value, Ev (fun k => mastref2_settled.l0 k v.fKind v.fBool v.fInt v.fText v.fItems v.fKeys a.fKind a.fBool a.fInt a.fText a.fItems a.fKeys b.fKind b.fBool b.fInt b.fText b.fItems b.fKeys) ⟨b.fKind, b.fBool, b.fInt, b.fText, sts v.fItems, b.fKeys⟩ := fun a b =>
    Ev.step (fun k => by simp only [mastref2_settled.l0]) (l1 a b)
  rw [st_eq]
  have e : (bif ieq v.fKind 7 then true else ieq v.fKind 8) = (ieq v.fKind 7 || ieq v.fKind 8) := by cases ieq v.fKind 7 <;> rfl
  cases h : (ieq v.fKind 7 || ieq v.fKind 8) with
  | true => exact Ev.step (fun k => by simp only [mastref2_settled.f, e, h, cond_true]) (l0 ⟨0, false, 0, c_empty, [], []⟩ ⟨3, v.fBool, v.fInt, v.fText, v.fItems, v.fKeys⟩)
  | false => exact Ev.step (fun k => by simp only [mastref2_settled.f, e, h, cond_false]) (l0 ⟨0, false, 0, c_empty, [], []⟩ v)

/-! One value of an item. -/
def zro : T_api_Value := ⟨0, false, 0, c_empty, [], []⟩
theorem own_zro : own zro = 0 := by
  have e : seq zro.fText c_empty = true := by rw [seq_d]; exact decide_eq_true rfl
  unfold own un
  rw [e]
  rfl
theorem rep_nT : ∀ n, nTs (List.replicate n zro) = n
  | 0 => rfl
  | n + 1 => by rw [List.replicate_succ]; simp only [nTs, rep_nT n]; rw [show nT zro = 1 from rfl]; omega
theorem rep_wt : ∀ n, wts (List.replicate n zro) = n
  | 0 => rfl
  | n + 1 => by rw [List.replicate_succ]; simp only [wts, rep_wt n]; rw [show wt zro = 1 from rfl]; omega
theorem rep_lv : ∀ n, lvs (List.replicate n zro) ≤ 1
  | 0 => Nat.zero_le _
  | n + 1 => by rw [List.replicate_succ]; simp only [lvs]; have := rep_lv n; rw [show lv zro = 1 from rfl]; omega
theorem rep_vf : ∀ n, vfs (List.replicate n zro) = 0
  | 0 => rfl
  | n + 1 => by
    rw [List.replicate_succ]
    have : vf zro = 0 := by rw [vf_eq, own_zro]; rfl
    simp only [vfs, this, rep_vf n]; rfl
/-- A value with no items, or items that are nothing, is checked by itself. -/
theorem chk_own (k : Int) (b : Bool) (i : Int) (t : ByteArray) (n : Nat) (s : List ByteArray) (hn : n ≤ 999) : chk ⟨k, b, i, t, List.replicate n zro, s⟩ = own ⟨k, b, i, t, List.replicate n zro, s⟩ := by
  have h1 : nT ⟨k, b, i, t, List.replicate n zro, s⟩ = n + 1 := by rw [nT_eq]; show nTs (List.replicate n zro) + 1 = _; rw [rep_nT]
  have h2 : lv ⟨k, b, i, t, List.replicate n zro, s⟩ ≤ 2 := by rw [lv_eq]; show lvs (List.replicate n zro) + 1 ≤ _; have := rep_lv n; omega
  unfold chk
  rw [decide_eq_false (show ¬ 1000 < nT _ by omega), decide_eq_false (show ¬ 8 < lv _ by omega), vf_eq]
  simp only [cond_false]
  by_cases h : own ⟨k, b, i, t, List.replicate n zro, s⟩ = 0
  · rw [ieq_t h, h]; exact rep_vf n
  · rw [ieq_f h]; rfl

theorem own_items (k : Int) (b : Bool) (i : Int) (t : ByteArray) (l m : List T_api_Value) (s : List ByteArray) (h : l.length = m.length) : own ⟨k, b, i, t, l, s⟩ = own ⟨k, b, i, t, m, s⟩ := by
  unfold own un un2
  simp only [llen_eq, h]
theorem own_five (b : Bool) (i : Int) (t : ByteArray) (l m : List T_api_Value) (s : List ByteArray) : own ⟨5, b, i, t, l, s⟩ = own ⟨5, b, i, t, m, s⟩ := by
  have e1 : ieq 5 5 = true := rfl
  have e2 : ieq 5 6 = false := rfl
  unfold own un un2
  simp only [e1, e2, Bool.not_true, Bool.and_false, Bool.false_and]
/-- Items where there are to be none. -/
theorem own_one (k : Int) (b : Bool) (i : Int) (t : ByteArray) (l : List T_api_Value) (s : List ByteArray) (h0 : ilt k 0 = false) (h6 : ilt 6 k = false) (h5 : k ≠ 5) (h66 : k ≠ 6) (hl : ilt 0 (llen l) = true) : own ⟨k, b, i, t, l, s⟩ = 1 := by
  unfold own un un2
  simp only [h0, h6, Bool.or_false, cond_false, hl, ieq_f h5, ieq_f h66, Bool.not_false, Bool.true_and, Bool.or_true, Bool.true_or, cond_true]

theorem table_ok (v : T_api_Value) (h6 : v.fKind = 6) (hv : wt v ≤ 1048576) : Ev (fun k => list_tableFault.f k v) (own v) := by
  rw [wt_eq] at hv
  have e1 : ilt 6 0 = false := rfl
  have e2 : ilt 6 6 = false := rfl
  have e3 : ieq 6 1 = false := rfl
  have e4 : ieq 6 2 = false := rfl
  have e5 : ieq 6 3 = false := rfl
  have e6 : ieq 6 4 = false := rfl
  have e7 : ieq 6 5 = false := rfl
  have e8 : ieq 6 6 = true := rfl
  have eo : own v = bif (v.fBool || !ieq v.fInt 0 || !seq v.fText c_empty || !ieq (llen v.fKeys) (llen v.fItems)) then 1 else bif ilt 5000 (slen v.fText) then 4 else bif bad v.fText then 9 else ks none v.fKeys := by
    unfold own un un2
    rw [h6]
    simp only [e1, e2, e3, e4, e5, e6, e7, e8, Bool.or_false, Bool.not_false, Bool.not_true, Bool.and_true, Bool.and_false, Bool.true_and, Bool.false_and, cond_false]
  rw [eo]
  have eb : (bif (bif (bif v.fBool then true else (!ieq v.fInt 0)) then true else (!seq v.fText c_empty)) then true else (!ieq (llen v.fKeys) (llen v.fItems))) = (v.fBool || !ieq v.fInt 0 || !seq v.fText c_empty || !ieq (llen v.fKeys) (llen v.fItems)) := by
    cases v.fBool <;> cases ieq v.fInt 0 <;> cases seq v.fText c_empty <;> rfl
  cases h : (v.fBool || !ieq v.fInt 0 || !seq v.fText c_empty || !ieq (llen v.fKeys) (llen v.fItems)) with
  | true => exact Ev.now fun k => by simp only [list_tableFault.f, eb, h, cond_true]
  | false =>
    have ht : seq v.fText c_empty = true := by
      cases q : seq v.fText c_empty with
      | true => rfl
      | false => rw [q] at h; simp at h
    have ht : v.fText = c_empty := by rw [seq_d] at ht; exact of_decide_eq_true ht
    rw [ht, show ilt 5000 (slen c_empty) = false from rfl, show bad c_empty = false from rfl]
    simp only [cond_false]
    have := keys_list v.fKind v.fBool v.fInt v.fText v.fItems v.fKeys (by omega)
    exact Ev.congr (fun k => by simp only [list_tableFault.f, eb, h, cond_false]) this

theorem check_ok (x : T_api_Value) (r : Int) (hx : wt x ≤ 1048576) (h : chk x = r) : Ev (fun k => (conf_Check.f k x).bind fun y1 => some y1) r :=
  Ev.bind (chk_ok x hx) (Ev.now fun _ => by rw [h])

theorem own2_ok (v : T_api_Value) (hv : wt v ≤ 1048576) : Ev (fun k => list_valueFault.f k v) (own (st v)) := by
  have hv' := hv
  rw [wt_eq] at hv'
  have hlen := len_le v.fItems
  have e0 : (bif ilt v.fKind 0 then true else ilt 8 v.fKind) = (ilt v.fKind 0 || ilt 8 v.fKind) := by cases ilt v.fKind 0 <;> rfl
  by_cases hk : v.fKind < 0 ∨ 8 < v.fKind
  · have h : (ilt v.fKind 0 || ilt 8 v.fKind) = true := by
      rcases hk with h | h
      · rw [ilt_t h]; rfl
      · rw [ilt_t h, Bool.or_true]
    refine Ev.now fun k => ?_
    have eo : own (st v) = 10 := by
      rw [st_eq, ieq_f (show v.fKind ≠ 7 by omega), ieq_f (show v.fKind ≠ 8 by omega)]
      unfold own
      simp only [Bool.or_false, cond_false]
      have : (ilt v.fKind 0 || ilt 6 v.fKind) = true := by
        rcases hk with h | h
        · rw [ilt_t h]; rfl
        · rw [ilt_t (show 6 < v.fKind by omega), Bool.or_true]
      rw [this]; rfl
    simp only [list_valueFault.f, e0, h, cond_true, eo]
  · have h : (ilt v.fKind 0 || ilt 8 v.fKind) = false := by rw [ilt_f (show 0 ≤ v.fKind by omega), ilt_f (show v.fKind ≤ 8 by omega)]; rfl
    -- a text
    have l7 : (v.fKind = 7 ∨ v.fKind = 8) → Ev (fun k => list_valueFault.l0 k v.fKind v.fBool v.fInt v.fText v.fItems v.fKeys v.fKind v.fBool v.fInt v.fText [] v.fKeys v.fKind true) (own (st v)) := fun h78 => by
      have hb : (ieq v.fKind 7 || ieq v.fKind 8) = true := by
        rcases h78 with q | q
        · rw [ieq_t q]; rfl
        · rw [ieq_t q, Bool.or_true]
      rw [st_eq, hb]
      simp only [cond_true]
      cases hi : ilt 0 (llen v.fItems) with
      | true =>
        refine Ev.step (g := fun _ => some 1) (fun k => by simp only [list_valueFault.l0, cond_true, hi]) (Ev.now fun _ => ?_)
        rw [own_one 3 v.fBool v.fInt v.fText (sts v.fItems) v.fKeys rfl rfl (by decide) (by decide) (by rw [llen_eq, sts_len]; exact hi)]
      | false =>
        have hnil : v.fItems = [] := List.eq_nil_of_length_eq_zero (by
          have : ¬ (0 : Int) < v.fItems.length := of_decide_eq_false hi
          omega)
        refine Ev.step (fun k => by simp only [list_valueFault.l0, cond_true, hi, cond_false]; rfl) (check_ok _ _ ?_ ?_)
        · rw [wt_eq]; show v.fText.size + kz v.fKeys + 0 + 1 ≤ _; omega
        · rw [hnil]; exact chk_own 3 v.fBool v.fInt v.fText 0 v.fKeys (by omega)
    have l5 : ¬ (v.fKind = 7 ∨ v.fKind = 8) → Ev (fun k => list_valueFault.l0 k v.fKind v.fBool v.fInt v.fText v.fItems v.fKeys v.fKind v.fBool v.fInt v.fText [] v.fKeys v.fKind false) (own (st v)) := fun h78 => by
      rw [st_eq, ieq_f (show v.fKind ≠ 7 by omega), ieq_f (show v.fKind ≠ 8 by omega)]
      simp only [Bool.or_false, cond_false]
      by_cases h5 : v.fKind = 5
      · refine Ev.step (fun k => by simp only [list_valueFault.l0, cond_false, ieq_t h5, cond_true]; rfl) (check_ok _ _ ?_ ?_)
        · rw [wt_eq]; show v.fText.size + kz v.fKeys + 0 + 1 ≤ _; omega
        · rw [h5]
          exact (chk_own 5 v.fBool v.fInt v.fText 0 v.fKeys (by omega)).trans (own_five _ _ _ _ _ _)
      · by_cases h6 : v.fKind = 6
        · have hm : lmake 88 (llen v.fItems) (llen v.fItems) zro = some (List.replicate v.fItems.length zro) := by
            unfold lmake
            rw [llen_eq, if_pos ⟨by omega, by omega, by omega, by omega⟩, Int.toNat_natCast]
          have st1 : ∀ k, list_valueFault.l0 (k + 1) v.fKind v.fBool v.fInt v.fText v.fItems v.fKeys v.fKind v.fBool v.fInt v.fText [] v.fKeys v.fKind false = bif ilt 999 (v.fItems.length : Int) then (list_tableFault.f k v).bind fun y4 => some y4 else (conf_Check.f k ⟨v.fKind, v.fBool, v.fInt, v.fText, List.replicate v.fItems.length zro, v.fKeys⟩).bind fun y5 => some y5 := fun k => by
            simp only [list_valueFault.l0, cond_false, ieq_f h5, ieq_t h6, cond_true, eta]
            rw [show T_api_Value.mk 0 false 0 c_empty [] [] = zro from rfl, hm]
            simp only [Option.bind_some, llen_eq, List.length_replicate]
          have e1 : own ⟨v.fKind, v.fBool, v.fInt, v.fText, sts v.fItems, v.fKeys⟩ = own v := by
            have := own_items v.fKind v.fBool v.fInt v.fText (sts v.fItems) v.fItems v.fKeys (sts_len _)
            rw [eta] at this
            exact this
          by_cases hn : 999 < v.fItems.length
          · rw [e1]
            refine Ev.step (fun k => by rw [st1, ilt_t (show (999 : Int) < (v.fItems.length : Int) by omega)]; rfl) (Ev.bind (table_ok v h6 hv) (Ev.now fun _ => rfl))
          · refine Ev.step (fun k => by rw [st1, ilt_f (show (v.fItems.length : Int) ≤ 999 by omega)]; rfl) (check_ok _ _ ?_ ?_)
            · rw [wt_eq]; show v.fText.size + kz v.fKeys + wts (List.replicate v.fItems.length zro) + 1 ≤ _; rw [rep_wt]; omega
            · rw [chk_own _ _ _ _ _ _ (by omega)]
              exact own_items _ _ _ _ _ _ _ (by rw [List.length_replicate, sts_len])
        · cases hi : ilt 0 (llen v.fItems) with
          | true =>
            refine Ev.step (g := fun _ => some 1) (fun k => by simp only [list_valueFault.l0, cond_false, ieq_f h5, ieq_f h6, hi, cond_true]) (Ev.now fun _ => ?_)
            rw [own_one v.fKind v.fBool v.fInt v.fText (sts v.fItems) v.fKeys (ilt_f (by omega)) (ilt_f (by omega)) h5 h6 (by rw [llen_eq, sts_len]; exact hi)]
          | false =>
            have hnil : v.fItems = [] := List.eq_nil_of_length_eq_zero (by
              have : ¬ (0 : Int) < v.fItems.length := of_decide_eq_false hi
              omega)
            refine Ev.step (fun k => by simp only [list_valueFault.l0, cond_false, ieq_f h5, ieq_f h6, hi]; rfl) (check_ok _ _ ?_ ?_)
            · rw [eta]; exact hv
            · rw [hnil]; exact chk_own v.fKind v.fBool v.fInt v.fText 0 v.fKeys (by omega)
    by_cases h7 : v.fKind = 7
    · exact Ev.congr (fun k => by simp only [list_valueFault.f, e0, h, cond_false, ieq_t h7, cond_true]) (l7 (.inl h7))
    · by_cases h8 : v.fKind = 8
      · refine Ev.congr (fun k => ?_) (l7 (.inr h8))
        simp only [list_valueFault.f, e0, h, cond_false, ieq_f h7, ieq_t h8]
      · refine Ev.congr (fun k => ?_) (l5 (by omega))
        simp only [list_valueFault.f, e0, h, cond_false, ieq_f h7, ieq_f h8]

theorem vf2_ok : ∀ v, wt v ≤ 1048576 → Ev (fun k => list_valuesFault.f k v) (vf (st v)) := tree fun v ih hv => by
  have hv' := hv
  rw [wt_eq] at hv'
  rw [vf_eq]
  refine Ev.step (g := fun k => (list_valueFault.f k v).bind fun y1 => bif !ieq y1 0 then some y1 else list_valuesFault.l0 k v.fItems (llen v.fItems) 0) (fun k => by simp only [list_valuesFault.f, eta]) (Ev.bind (own2_ok v hv) ?_)
  cases h : ieq (own (st v)) 0 with
  | false => exact Ev.now fun _ => rfl
  | true =>
    have : (st v).fItems = sts v.fItems := by rw [st_eq]
    rw [this]
    exact items_list v.fItems (by omega) fun k hk => ih k hk (by have := wt_mem hk; omega)

def chk2 (v : T_api_Value) : Int := bif decide (5000 < nT v) then 4 else bif decide (10 < lv v) then 13 else vf (st v)
theorem item_ok (v : T_api_Value) (hv : wt v ≤ 1048576) : Ev (fun k => list_CheckItem.f k v) (chk2 v) := by
  obtain ⟨r, r1, r2, r3⟩ := count_list v hv
  refine Ev.congr (g := fun k => (list_count.f k v).bind fun y1 => bif ilt 5000 y1 then some 4 else (list_levels.f k v).bind fun y2 => bif ilt 10 y2 then some 13 else (list_valuesFault.f k v).bind fun y3 => some y3) (fun k => by simp only [list_CheckItem.f, eta]) (Ev.bind r1 ?_)
  unfold chk2
  by_cases c : 5000 < nT v
  · rw [ilt_t (show (5000 : Int) < (r : Int) by omega), decide_eq_true c]; exact Ev.now fun _ => rfl
  · rw [ilt_f (show (r : Int) ≤ 5000 by omega), decide_eq_false c]
    refine Ev.bind (levels_list v hv) ?_
    by_cases c2 : 10 < lv v
    · rw [ilt_t (show (10 : Int) < (lv v : Int) by omega), decide_eq_true c2]; exact Ev.now fun _ => rfl
    · rw [ilt_f (show (lv v : Int) ≤ 10 by omega), decide_eq_false c2]
      exact Ev.bind (vf2_ok v hv) (Ev.now fun _ => rfl)
theorem itemR_ok (v : T_api_Value) (hv : wt v ≤ 1048576) : Ev (fun k => mastref2_ItemFault.f k v) (chk2 v) := by
  refine Ev.congr (g := fun k => (mastref2_ValuesOf.f k v).bind fun y1 => bif ilt 5000 y1 then some 4 else (mastref2_LevelsOf.f k v).bind fun y2 => bif ilt 10 y2 then some 13 else (mastref2_settled.f k v).bind fun y3 => (mastref2_eachValue.f k y3).bind fun y4 => some y4) (fun k => by simp only [mastref2_ItemFault.f, eta]) (Ev.bind (values_ok v hv) ?_)
  unfold chk2
  by_cases c : 5000 < nT v
  · rw [ilt_t (show (5000 : Int) < (nT v : Int) by omega), decide_eq_true c]; exact Ev.now fun _ => rfl
  · rw [ilt_f (show (nT v : Int) ≤ 5000 by omega), decide_eq_false c]
    refine Ev.bind (levels_ref v hv) ?_
    by_cases c2 : 10 < lv v
    · rw [ilt_t (show (10 : Int) < (lv v : Int) by omega), decide_eq_true c2]; exact Ev.now fun _ => rfl
    · rw [ilt_f (show (lv v : Int) ≤ 10 by omega), decide_eq_false c2]
      exact Ev.bind (settled_ok v hv) (Ev.bind (vfR_ok (st v) (by rw [st_wt]; exact hv)) (Ev.now fun _ => rfl))

/-! Pieces between dots. -/
def pcs (c : UInt8) : List UInt8 → List (List UInt8)
  | [] => [[]]
  | b :: l => if b = c then [] :: pcs c l else match pcs c l with
    | [] => [[b]]
    | p :: r => (b :: p) :: r
theorem splitK_pcs (c : UInt8) : ∀ l : List UInt8, Lib.splitK [c] 0 (l.count c) l = pcs c l
  | [] => rfl
  | b :: l => by
    have ih := splitK_pcs c l
    by_cases h : b = c
    · subst h
      rw [List.count_cons_self]
      have hx : Lib.index (b :: l) [b] = 0 := by
        unfold Lib.index
        rw [if_pos (by simp [List.isPrefixOf])]
      unfold Lib.splitK
      rw [hx]
      simp only [pcs, if_true]
      rw [if_neg (by decide)]
      simp [ih]
    · rw [List.count_cons_of_ne (fun e => h e)]
      have hx : Lib.index (b :: l) [c] = if Lib.index l [c] == -1 then -1 else Lib.index l [c] + 1 := by
        conv => lhs; unfold Lib.index
        rw [if_neg (by simp [List.isPrefixOf]; exact fun e => h e.symm)]
      simp only [pcs, if_neg h]
      cases hn : l.count c with
      | zero =>
        rw [hn] at ih
        rw [← ih]; rfl
      | succ n =>
        rw [hn] at ih
        rw [← ih]
        unfold Lib.splitK
        rw [hx]
        by_cases hm : Lib.index l [c] = -1
        · simp [hm]
        · have hg := Lib.index_ge l [c]
          have e1 : (Lib.index l [c] == -1) = false := beq_eq_false_iff_ne.2 hm
          simp only [e1, Bool.false_eq_true, if_false]
          have e2 : (Lib.index l [c] + 1 == -1) = false := beq_eq_false_iff_ne.2 (by omega)
          simp only [e2, Bool.false_eq_true, if_false]
          have e3 : (Lib.index l [c] + 1).toNat = (Lib.index l [c]).toNat + 1 := by omega
          rw [e3]
          simp [List.take_succ_cons, List.drop_succ_cons]
theorem parts_pcs (s : ByteArray) : (Lib.splitB c__2e 0 (Lib.countB s c__2e) s).map (·.data.toList) = pcs 46 s.data.toList := by
  rw [Lib.splitB_data]
  show Lib.splitK [46] 0 (Lib.count s.data.toList [46]) s.data.toList = _
  rw [Lib.count_one]
  exact splitK_pcs 46 _
theorem pcs_none (c : UInt8) : ∀ p : List UInt8, c ∉ p → pcs c p = [p]
  | [], _ => rfl
  | b :: l, h => by
    have h1 : b ≠ c := fun e => h (by rw [e]; exact List.mem_cons_self ..)
    have h2 := pcs_none c l fun e => h (List.mem_cons_of_mem _ e)
    simp only [pcs, if_neg h1, h2]
theorem pcs_cut (c : UInt8) : ∀ (p r : List UInt8), c ∉ p → pcs c (p ++ c :: r) = p :: pcs c r
  | [], r, _ => by simp [pcs]
  | b :: l, r, h => by
    have h1 : b ≠ c := fun e => h (by rw [e]; exact List.mem_cons_self ..)
    have h2 := pcs_cut c l r fun e => h (List.mem_cons_of_mem _ e)
    simp only [List.cons_append, pcs, if_neg h1, h2]
theorem ex_data (s : ByteArray) (a b : Nat) (h : a ≤ b) : (s.extract a b).data.toList = (s.data.toList.drop a).take (b - a) := by
  rw [ByteArray.data_extract, Array.toList_extract]
def digB (c : UInt8) : Bool := bif ile 48 (c.toNat : Int) then ile (c.toNat : Int) 57 else false
/-- Is a piece a number. -/
def dg : List UInt8 → Bool
  | [] => false
  | c :: r => ((c :: r).all digB && decide (r.length ≤ 3)) && (!ieq (c.toNat : Int) 48 || (c :: r == [48]))
def pk (p : List UInt8) : Bool := dg p || keyL p
theorem seq_zero (p : ByteArray) : seq p c_0 = (p.data.toList == [48]) := by
  unfold seq
  rw [ByteArray.toList_eq, ByteArray.toList_eq]
  rfl
theorem set_dig (c : UInt8) : c_0123456789.data.toList.contains c = digB c := by
  have h : ∀ n : Fin 256, c_0123456789.data.toList.contains (UInt8.ofNat n.val) = digB (UInt8.ofNat n.val) := by decide +kernel
  have := h ⟨c.toNat, c.toNat_lt⟩
  simpa using this
theorem digits_ok (s : ByteArray) (hs : s.size ≤ 2000000) : mastref2_digitsAlone.f s = some (!s.data.toList.isEmpty && s.data.toList.all digB) := by
  have hc : strings_Trim.f s c_0123456789 = some ⟨(Lib.trimS s.data.toList c_0123456789.data.toList).toArray⟩ := by
    unfold strings_Trim.f
    rw [if_pos ⟨by omega, by decide, by decide +kernel⟩]
  unfold mastref2_digitsAlone.f
  rw [seq_empty, hc]
  cases h : s.data.toList.isEmpty with
  | true => rfl
  | false =>
    simp only [Bool.not_false, cond_true, Option.bind_some, Bool.true_and]
    rw [seq_empty]
    show some (Lib.trimS s.data.toList _).isEmpty = _
    rw [trim_nil, show (fun x => c_0123456789.data.toList.contains x) = digB from funext set_dig]
/-- Is it a route. -/
def rp (s : ByteArray) : Bool := bif ilt 400 (slen s) then false else bif seq s c_empty then true else (pcs 46 s.data.toList).all pk
theorem split_sz (sep : ByteArray) : ∀ (k : Nat) (s x : ByteArray), x ∈ Lib.splitB sep 0 k s → x.size ≤ s.size
  | 0, s, x, h => by
    have : x = s := by simpa [Lib.splitB] using h
    rw [this]; exact Nat.le_refl _
  | k + 1, s, x, h => by
    unfold Lib.splitB at h
    split at h
    · have : x = s := by simpa using h
      rw [this]; exact Nat.le_refl _
    · rcases List.mem_cons.1 h with rfl | h
      · rw [ByteArray.size_extract]; omega
      · have := split_sz sep k _ x h
        rw [ByteArray.size_extract] at this; omega
theorem routeR_ok (s : ByteArray) (hs : s.size ≤ 2000000) : ∃ o, Ev (fun k => mastref2_RouteParts.f k s false) (o, rp s) := by
  unfold rp
  cases h4 : ilt 400 (slen s) with
  | true => exact ⟨[], Ev.now fun k => by simp only [mastref2_RouteParts.f, h4, cond_true]⟩
  | false =>
    cases he : seq s c_empty with
    | true => exact ⟨[], Ev.now fun k => by simp only [mastref2_RouteParts.f, h4, he, cond_true, cond_false]⟩
    | false =>
      simp only [cond_false]
      have hsp : strings_Split.f s c__2e = some (Lib.splitB c__2e 0 (Lib.countB s c__2e) s) := by
        unfold strings_Split.f splitF
        rw [if_pos ⟨by omega, by decide⟩]
      generalize hP : Lib.splitB c__2e 0 (Lib.countB s c__2e) s = P at hsp
      have hpp : P.map (·.data.toList) = pcs 46 s.data.toList := by rw [← hP]; exact parts_pcs s
      have hsz : ∀ x ∈ P, x.size ≤ 2000000 := fun x hx => by rw [← hP] at hx; have := split_sz _ _ _ _ hx; omega
      have hlen : P.length ≤ 4611686018427387904 := by
        have h1 := Lib.splitB_length_le c__2e 0 (Lib.countB s c__2e) s
        have h2 := Lib.countB_le c__2e (by decide) s.size s (Nat.le_refl _)
        rw [hP] at h1; omega
      have q := find_loop2 P 0 (Nat.zero_le _) (fun k j => mastref2_RouteParts.l0 k false P P (llen P) (j : Int))
        (fun _ p => (mastref2_digitsAlone.f p).bind fun y3 => bif (bif y3 then (ile (slen p) 4) else false) then ((sat p 0).bind fun y4 => some (p, (bif (!ieq y4 48) then true else (seq p c_0)))) else some (p, false))
        (fun k j y => mastref2_RouteParts.l1 k false P y.1 y.2 P (llen P) (j : Int)) (fun _ => some (P, true)) (fun p => !pk p.data.toList) (fun _ => ([], false)) (P, true)
        (fun k j h => by
          simp only [mastref2_RouteParts.l0, llen_eq, Go.Proofs.YtmbjiadilfbooaaGreatDoor.Lift.ilen _ _ h, cond_true, lat_lt h, Option.bind_some]
          cases mastref2_digitsAlone.f P[j] with
          | none => rfl
          | some y =>
            simp only [Option.bind_some]
            cases (bif y then ile (slen P[j]) 4 else false) with
            | false => rfl
            | true =>
              simp only [cond_true]
              cases sat P[j] 0 <;> rfl)
        (fun k => by simp only [mastref2_RouteParts.l0, llen_eq, Go.Proofs.YtmbjiadilfbooaaGreatDoor.Lift.ilen', cond_false]) (Ev.now fun _ => rfl)
        (fun j h => by
          have hz := hsz _ (List.getElem_mem h)
          have hd := digits_ok P[j] hz
          have hk := keyR_ok P[j] hz
          have el : ile (slen P[j]) 4 = decide (P[j].data.toList.length ≤ 4) := by
            rw [slen_l, ile_d]
            by_cases c : P[j].data.toList.length ≤ 4
            · rw [decide_eq_true c, decide_eq_true (by omega)]
            · rw [decide_eq_false c, decide_eq_false (by omega)]
          refine ⟨(P[j], dg P[j].data.toList), Ev.now fun _ => ?_, fun hq => ?_, fun hq v hv => ?_⟩
          · rw [hd]
            simp only [Option.bind_some, el]
            cases hb : P[j].data.toList with
            | nil => rfl
            | cons c r =>
              rw [sat_0 hb, seq_zero, hb]
              simp only [List.isEmpty_cons, Bool.not_false, Bool.true_and, Option.bind_some, dg, List.length_cons]
              rw [show decide (r.length + 1 ≤ 4) = decide (r.length ≤ 3) by by_cases c : r.length ≤ 3 <;> simp [c] <;> omega]
              cases (c :: r).all digB <;> cases decide (r.length ≤ 3) <;> cases ieq (c.toNat : Int) 48 <;> rfl
          · have h1 : dg P[j].data.toList = false ∧ key P[j] = false := by
              have : pk P[j].data.toList = false := by simpa using hq
              unfold pk at this
              simpa [Bool.or_eq_false_iff, key] using this
            refine Ev.step (g := fun _ => some ([], false)) (fun k => ?_) (Ev.now fun _ => rfl)
            simp only [mastref2_RouteParts.l1, h1.1, Bool.not_false, cond_true, hk, h1.2, Option.bind_some, cond_false]
          · have h1 : dg P[j].data.toList = true ∨ key P[j] = true := by
              have : pk P[j].data.toList = true := by simpa using hq
              unfold pk at this
              simpa [Bool.or_eq_true, key] using this
            have hw : wadd .i64 (j : Int) 1 = ((j + 1 : Nat) : Int) := u0 (by omega)
            refine Ev.step (fun k => ?_) hv
            simp only [mastref2_RouteParts.l1, hw]
            cases hg : dg P[j].data.toList with
            | true => simp
            | false =>
              have h2 : key P[j] = true := h1.resolve_left (by rw [hg]; decide)
              simp only [Bool.not_false, cond_true, hk, h2, Option.bind_some, Bool.not_true, cond_false])
      rw [fl_const, List.drop_zero] at q
      have e : (bif P.any (fun p => !pk p.data.toList) then (([] : List ByteArray), false) else (P, true)) = ((bif P.any (fun p => !pk p.data.toList) then ([] : List ByteArray) else P), (pcs 46 s.data.toList).all pk) := by
        have : (pcs 46 s.data.toList).all pk = !P.any fun p => !pk p.data.toList := by
          rw [← hpp, List.all_map, List.all_eq_not_any_not]; rfl
        rw [this]
        cases P.any fun p => !pk p.data.toList <;> rfl
      rw [e] at q
      exact ⟨_, Ev.congr (fun k => by simp only [mastref2_RouteParts.f, h4, he, cond_false, hsp, Option.bind_some]; rfl) q⟩
theorem dig_not {c : UInt8} (h : digB c = true) : c ≠ 45 ∧ c ≠ 43 ∧ c ≠ 42 := by
  refine ⟨?_, ?_, ?_⟩ <;> rintro rfl <;> exact absurd h (by decide)
/-! The parts of a route, as the program takes them. -/
def hd48 : List UInt8 → Bool
  | [] => false
  | c :: r => !ieq (c.toNat : Int) 48 || (c :: r == [48])
theorem dg_eq (p : List UInt8) : dg p = ((p.all digB && decide (p.length ≤ 4)) && hd48 p) := by
  cases p with
  | nil => rfl
  | cons c r =>
    simp only [dg, hd48, List.length_cons]
    rw [show decide (r.length + 1 ≤ 4) = decide (r.length ≤ 3) by by_cases c : r.length ≤ 3 <;> simp [c] <;> omega]

/-- The number of digits. -/
def hors (n : Int) (l : List UInt8) : Int := l.foldl (fun n c => 10 * n + ((c.toNat : Int) - 48)) n
def stpL (l : List UInt8) : T_list_step := bif keyL l then ⟨⟨⟨l⟩⟩, 0⟩ else ⟨c_empty, hors 0 l⟩
theorem dig_in {c : UInt8} (h : digB c = true) : 48 ≤ c.toNat ∧ c.toNat ≤ 57 := by
  unfold digB at h
  by_cases q : (48 : Int) ≤ c.toNat
  · rw [ile_t q, cond_true] at h
    have := of_decide_eq_true h
    omega
  · rw [ile_f (by omega)] at h; exact nomatch h
theorem hors_bd : ∀ (l : List UInt8) (n : Int), l.all digB = true → 0 ≤ n → 0 ≤ hors n l ∧ hors n l < (n + 1) * 10 ^ l.length
  | [], n, _, h0 => by unfold hors; simp; omega
  | c :: r, n, h, h0 => by
    rw [List.all_cons, Bool.and_eq_true] at h
    have hc := dig_in h.1
    have ih := hors_bd r (10 * n + ((c.toNat : Int) - 48)) h.2 (by omega)
    have e : hors n (c :: r) = hors (10 * n + ((c.toNat : Int) - 48)) r := rfl
    rw [e]
    refine ⟨ih.1, Int.lt_of_lt_of_le ih.2 ?_⟩
    rw [List.length_cons, Int.pow_succ, Int.mul_comm (10 ^ r.length) 10, ← Int.mul_assoc]
    exact Int.mul_le_mul_of_nonneg_right (by omega) (Int.le_of_lt (Int.pow_pos (by decide)))
theorem hors_snoc (n : Int) (l : List UInt8) (c : UInt8) : hors n (l ++ [c]) = 10 * hors n l + ((c.toNat : Int) - 48) := by
  unfold hors; rw [List.foldl_append]; rfl
theorem dec_hors : ∀ (l : List UInt8) (n : Nat), l.all digB = true → ∃ m : Nat, Lib.decFrom n l = some m ∧ (m : Int) = hors (n : Int) l
  | [], n, _ => ⟨n, rfl, rfl⟩
  | b :: r, n, h => by
    rw [List.all_cons, Bool.and_eq_true] at h
    have hb := dig_in h.1
    obtain ⟨m, h1, h2⟩ := dec_hors r (n * 10 + (b.toNat - 48)) h.2
    refine ⟨m, ?_, ?_⟩
    · unfold Lib.decFrom Lib.digitVal
      rw [if_pos hb]
      exact h1
    · rw [h2]
      show _ = hors (10 * (n : Int) + ((b.toNat : Int) - 48)) r
      congr 1; omega
theorem atoi_hors {p : ByteArray} (h : dg p.data.toList = true) : ∃ n : Nat, strconv_Atoi.f p = some (n : Int) ∧ (n : Int) = hors 0 p.data.toList := by
  cases hb : p.data.toList with
  | nil => rw [hb] at h; exact nomatch h
  | cons c r =>
    rw [hb] at h
    simp only [dg, Bool.and_eq_true] at h
    obtain ⟨⟨h1, h2⟩, _⟩ := h
    have h2 : r.length ≤ 3 := of_decide_eq_true h2
    have hc := dig_not (List.all_eq_true.1 h1 c (List.mem_cons_self ..))
    obtain ⟨m, hm, hm2⟩ := dec_hors (c :: r) 0 h1
    refine ⟨m, ?_, hm2⟩
    unfold strconv_Atoi.f atoiF
    rw [size_l, hb, if_pos (by simp; omega)]
    unfold Lib.atoi
    have e1 : (c == 45) = false := beq_eq_false_iff_ne.2 hc.1
    have e2 : (c == 43) = false := beq_eq_false_iff_ne.2 hc.2.1
    simp only [e1, e2, Bool.false_eq_true, if_false, Lib.decNat, List.isEmpty_cons, hm]
    rfl
theorem dig_sub {c : UInt8} (h : digB c = true) : wcv .i64 (wsub .u8 (c.toNat : Int) 48) = (c.toNat : Int) - 48 := by
  have hc := dig_in h
  have h1 : wsub .u8 (c.toNat : Int) 48 = (c.toNat : Int) - 48 := wrap_u rfl (by omega) (by show (c.toNat : Int) - 48 < 2 ^ 8; omega)
  rw [h1]
  unfold wcv
  exact wrap64 (by omega) (by omega)
theorem l2_good (s : ByteArray) (acc : List T_list_step) (f i : Nat) (p : ByteArray) (hd : p.data.toList.all digB = true) (hl : p.data.toList.length ≤ 4) (v : List T_list_step × Bool)
    (hf : ∀ n : Int, Ev (fun k => list_steps.l2 k s acc (f : Int) (i : Int) p n (p.data.toList.length : Int)) v) : ∀ (d j : Nat) (n : Int), p.data.toList.length - j ≤ d → j ≤ p.data.toList.length → Ev (fun k => list_steps.l2 k s acc (f : Int) (i : Int) p n (j : Int)) v := by
  intro d
  induction d with
  | zero => intro j n hd' hj; obtain rfl : j = p.data.toList.length := by omega
            exact hf n
  | succ d ih =>
    intro j n hd' hj
    rcases Nat.lt_or_ge j p.data.toList.length with hlt | hge
    · have hdj : digB p.data.toList[j] = true := List.all_eq_true.1 hd _ (List.getElem_mem hlt)
      refine Ev.step (fun k => ?_) (ih (j + 1) (wadd .i64 (wmul .i64 10 n) (wcv .i64 (wsub .u8 (p.data.toList[j].toNat : Int) 48))) (by omega) hlt)
      simp only [list_steps.l2, slen_l, Go.Proofs.YtmbjiadilfbooaaGreatDoor.Lift.ilen _ _ hlt, cond_true, sat_l hlt, Option.bind_some, list_isDigit.f, u0 (show j ≤ 4611686018427387904 by omega)]
      rw [show (bif ile 48 (p.data.toList[j].toNat : Int) then ile (p.data.toList[j].toNat : Int) 57 else false) = digB p.data.toList[j] from rfl, hdj, ilt_f (show (j : Int) ≤ 3 by omega)]
      rfl
    · obtain rfl : j = p.data.toList.length := by omega
      exact hf n
theorem l2_bad (s : ByteArray) (acc : List T_list_step) (f i : Nat) (p : ByteArray) : ∀ (d j : Nat) (n : Int), p.data.toList.length - j ≤ d → j ≤ p.data.toList.length → ((p.data.toList.drop j).all digB = false ∨ (4 < p.data.toList.length ∧ j ≤ 4)) → Ev (fun k => list_steps.l2 k s acc (f : Int) (i : Int) p n (j : Int)) ([], false) := by
  intro d
  induction d with
  | zero =>
    intro j n hd hj h
    rcases h with h | h
    · rw [List.drop_eq_nil_of_le (by omega)] at h; exact nomatch h
    · omega
  | succ d ih =>
    intro j n hd hj h
    rcases Nat.lt_or_ge j p.data.toList.length with hlt | hge
    · cases hdj : digB p.data.toList[j] with
      | false =>
        refine Ev.step (g := fun _ => some ([], false)) (fun k => ?_) (Ev.now fun _ => rfl)
        simp only [list_steps.l2, slen_l, Go.Proofs.YtmbjiadilfbooaaGreatDoor.Lift.ilen _ _ hlt, cond_true, sat_l hlt, Option.bind_some, list_isDigit.f]
        rw [show (bif ile 48 (p.data.toList[j].toNat : Int) then ile (p.data.toList[j].toNat : Int) 57 else false) = digB p.data.toList[j] from rfl, hdj]
        rfl
      | true =>
        by_cases h3 : 3 < j
        · refine Ev.step (g := fun _ => some ([], false)) (fun k => ?_) (Ev.now fun _ => rfl)
          simp only [list_steps.l2, slen_l, Go.Proofs.YtmbjiadilfbooaaGreatDoor.Lift.ilen _ _ hlt, cond_true, sat_l hlt, Option.bind_some, list_isDigit.f]
          rw [show (bif ile 48 (p.data.toList[j].toNat : Int) then ile (p.data.toList[j].toNat : Int) 57 else false) = digB p.data.toList[j] from rfl, hdj, ilt_t (show (3 : Int) < (j : Int) by omega)]
          rfl
        · refine Ev.step (fun k => ?_) (ih (j + 1) (wadd .i64 (wmul .i64 10 n) (wcv .i64 (wsub .u8 (p.data.toList[j].toNat : Int) 48))) (by omega) hlt (by
            rcases h with h | h
            · left
              rw [List.drop_eq_getElem_cons hlt, List.all_cons, hdj, Bool.true_and] at h
              exact h
            · right; omega))
          simp only [list_steps.l2, slen_l, Go.Proofs.YtmbjiadilfbooaaGreatDoor.Lift.ilen _ _ hlt, cond_true, sat_l hlt, Option.bind_some, list_isDigit.f, u0 (show j ≤ 4611686018427387904 by omega)]
          rw [show (bif ile 48 (p.data.toList[j].toNat : Int) then ile (p.data.toList[j].toNat : Int) 57 else false) = digB p.data.toList[j] from rfl, hdj, ilt_f (show (j : Int) ≤ 3 by omega)]
          rfl
    · rcases h with h | h
      · rw [List.drop_eq_nil_of_le hge] at h; exact nomatch h
      · omega

theorem scan (s : ByteArray) (hs : s.data.toList.length ≤ 400) : ∀ (d f i : Nat) (acc : List T_list_step), s.data.toList.length + 1 - i ≤ d → f ≤ i → i ≤ s.data.toList.length → (46 : UInt8) ∉ (s.data.toList.drop f).take (i - f) → acc.length ≤ i →
    ∃ o, Ev (fun k => list_steps.l0 k s acc (f : Int) (i : Int)) (o, (pcs 46 (s.data.toList.drop f)).all pk) ∧ ((pcs 46 (s.data.toList.drop f)).all pk = true → o = acc ++ (pcs 46 (s.data.toList.drop f)).map stpL) := by
  intro d
  induction d with
  | zero => intro f i acc hd; omega
  | succ d ih =>
    intro f i acc hd hf hi hn hac
    have hsz := size_l s
    have hle : ile (i : Int) (s.data.toList.length : Int) = true := ile_t (by omega)
    -- a piece ends here; what is behind it
    have cut : ∀ (rest : Bool) (tl : List T_list_step), (pcs 46 (s.data.toList.drop f)).all pk = (pk ((s.data.toList.drop f).take (i - f)) && rest) → (pcs 46 (s.data.toList.drop f)).map stpL = stpL ((s.data.toList.drop f).take (i - f)) :: tl → (∀ acc', acc'.length ≤ i + 1 → ∃ o, Ev (fun k => list_steps.l0 k s acc' ((i + 1 : Nat) : Int) ((i + 1 : Nat) : Int)) (o, rest) ∧ (rest = true → o = acc' ++ tl)) → ∃ o, Ev (fun k => list_steps.l1 k s acc (f : Int) (i : Int)) (o, (pcs 46 (s.data.toList.drop f)).all pk) ∧ ((pcs 46 (s.data.toList.drop f)).all pk = true → o = acc ++ (pcs 46 (s.data.toList.drop f)).map stpL) := fun rest tl hr hm hnext => by
      rw [hr, hm]
      have hsub : ssub s (f : Int) (i : Int) = some (s.extract f i) := by
        unfold ssub
        rw [if_pos ⟨by omega, by omega, by omega⟩, Int.toNat_natCast, Int.toNat_natCast]
      have hdat := ex_data s f i hf
      generalize s.extract f i = p at hsub hdat
      rw [← hdat]
      have hw : wadd .i64 (i : Int) 1 = ((i + 1 : Nat) : Int) := u0 (by omega)
      have push : ∀ x, lapp 24 acc [x] = some (acc ++ [x]) := fun x => lapp_ok (by simp only [List.length_singleton]; omega) (by simp only [List.length_singleton]; omega)
      have hk := key_list p
      cases hkey : key p with
      | true =>
        rw [hkey] at hk
        obtain ⟨o, ho, hq⟩ := hnext (acc ++ [T_list_step.mk p 0]) (by simp only [List.length_append, List.length_singleton]; omega)
        have es : stpL p.data.toList = T_list_step.mk p 0 := by unfold stpL; rw [show keyL p.data.toList = key p from rfl, hkey]; rfl
        have : pk p.data.toList = true := by
          unfold pk
          rw [show keyL p.data.toList = key p from rfl, hkey, Bool.or_true]
        rw [this, Bool.true_and, es]
        refine ⟨o, Ev.step (fun k => by simp only [list_steps.l1, hsub, Option.bind_some]; rfl) (Ev.bind hk ?_), fun h => by rw [hq h, List.append_assoc]; rfl⟩
        simp only [cond_true, push, Option.bind_some, hw]
        exact ho
      | false =>
        rw [hkey] at hk
        have hpk : pk p.data.toList = dg p.data.toList := by
          unfold pk
          rw [show keyL p.data.toList = key p from rfl, hkey, Bool.or_false]
        have es : stpL p.data.toList = T_list_step.mk c_empty (hors 0 p.data.toList) := by unfold stpL; rw [show keyL p.data.toList = key p from rfl, hkey]; rfl
        rw [hpk, dg_eq, es]
        have l1 : ∀ v, Ev (fun k => list_steps.l2 k s acc ((i + 1 : Nat) : Int) (i : Int) p 0 0) v → Ev (fun k => list_steps.l1 k s acc (f : Int) (i : Int)) v := fun v hv => by
          refine Ev.step (fun k => by simp only [list_steps.l1, hsub, Option.bind_some]; rfl) (Ev.bind hk ?_)
          simp only [cond_false, hw]
          exact hv
        cases hg : (p.data.toList.all digB && decide (p.data.toList.length ≤ 4)) with
        | false =>
          refine ⟨[], l1 _ ?_, fun h => nomatch h⟩
          refine l2_bad s acc (i + 1) i p p.data.toList.length 0 0 (by omega) (by omega) ?_
          rw [List.drop_zero]
          rcases Bool.and_eq_false_iff.1 hg with h | h
          · exact .inl h
          · right
            have := of_decide_eq_false h
            omega
        | true =>
          rw [Bool.true_and]
          obtain ⟨g1, g2⟩ := Bool.and_eq_true_iff.1 hg
          have g2 : p.data.toList.length ≤ 4 := of_decide_eq_true g2
          have fin : ∀ v, (∀ n : Int, Ev (fun k => list_steps.l2 k s acc ((i + 1 : Nat) : Int) (i : Int) p n (p.data.toList.length : Int)) v) → Ev (fun k => list_steps.l1 k s acc (f : Int) (i : Int)) v := fun v hv => l1 v (l2_good s acc (i + 1) i p g1 g2 v hv p.data.toList.length 0 0 (by omega) (by omega))
          cases hb : p.data.toList with
          | nil =>
            refine ⟨[], fin _ fun n => ?_, fun h => nomatch h⟩
            refine Ev.step (g := fun _ => some ([], false)) (fun k => ?_) (Ev.now fun _ => rfl)
            simp only [list_steps.l2, slen_l, Go.Proofs.YtmbjiadilfbooaaGreatDoor.Lift.ilen', cond_false, seq_empty, hb, List.isEmpty_nil, cond_true]
          | cons c r =>
            cases hh : hd48 (c :: r) with
            | false =>
              refine ⟨[], fin _ fun n => ?_, fun h => nomatch h⟩
              have h48 : (bif (ieq (c.toNat : Int) 48) then (!seq p c_0) else false) = true := by
                rw [seq_zero, hb]
                have hh : (!ieq (c.toNat : Int) 48 || (c :: r == [48])) = _ := hh
                cases q : ieq (c.toNat : Int) 48 with
                | false => rw [q] at hh; simp at hh
                | true =>
                  rw [q] at hh
                  cases z : (c :: r == [48]) with
                  | true => rw [z] at hh; exact nomatch hh
                  | false => rfl
              refine Ev.step (g := fun _ => some ([], false)) (fun k => ?_) (Ev.now fun _ => rfl)
              simp only [list_steps.l2, slen_l, Go.Proofs.YtmbjiadilfbooaaGreatDoor.Lift.ilen', cond_false, seq_empty, hb, List.isEmpty_cons, sat_0 hb, Option.bind_some, h48, cond_true]
            | true =>
              rw [Bool.true_and]
              have h48 : (bif (ieq (c.toNat : Int) 48) then (!seq p c_0) else false) = false := by
                rw [seq_zero, hb]
                have hh : (!ieq (c.toNat : Int) 48 || (c :: r == [48])) = _ := hh
                cases q : ieq (c.toNat : Int) 48 with
                | false => rfl
                | true =>
                  rw [q] at hh
                  cases z : (c :: r == [48]) with
                  | true => rfl
                  | false => rw [z] at hh; exact nomatch hh
              have one : ∀ n : Int, ∃ o, Ev (fun k => list_steps.l2 k s acc ((i + 1 : Nat) : Int) (i : Int) p n (p.data.toList.length : Int)) (o, rest) ∧ (rest = true → o = acc ++ T_list_step.mk c_empty n :: tl) := fun n => by
                obtain ⟨o, ho, hq⟩ := hnext (acc ++ [T_list_step.mk c_empty n]) (by simp only [List.length_append, List.length_singleton]; omega)
                refine ⟨o, Ev.step (fun k => ?_) ho, fun h => by rw [hq h, List.append_assoc]; rfl⟩
                simp only [list_steps.l2, slen_l, Go.Proofs.YtmbjiadilfbooaaGreatDoor.Lift.ilen', cond_false, seq_empty, hb, List.isEmpty_cons, sat_0 hb, Option.bind_some, h48, push, hw]
              -- the number that comes of it
              have walk : ∀ (d j : Nat) (n : Int), p.data.toList.length - j ≤ d → j ≤ p.data.toList.length → n = hors 0 (p.data.toList.take j) → ∃ o, Ev (fun k => list_steps.l2 k s acc ((i + 1 : Nat) : Int) (i : Int) p n (j : Int)) (o, rest) ∧ (rest = true → o = acc ++ T_list_step.mk c_empty (hors 0 p.data.toList) :: tl) := by
                intro d
                induction d with
                | zero => intro j n hd' hj hn; obtain rfl : j = p.data.toList.length := by omega
                          rw [List.take_length] at hn; subst hn; exact one _
                | succ d ihd =>
                  intro j n hd' hj hn
                  rcases Nat.lt_or_ge j p.data.toList.length with hlt | hge
                  · have hdj : digB p.data.toList[j] = true := List.all_eq_true.1 g1 _ (List.getElem_mem hlt)
                    have hta : (p.data.toList.take j).all digB = true := List.all_eq_true.2 fun x hx => List.all_eq_true.1 g1 x (List.mem_of_mem_take hx)
                    have hbd := hors_bd (p.data.toList.take j) 0 hta (by omega)
                    have hlen : (p.data.toList.take j).length ≤ 3 := by rw [List.length_take]; omega
                    have hpw : (10 : Int) ^ (p.data.toList.take j).length ≤ 1000 := by
                      generalize (p.data.toList.take j).length = m at hlen
                      rcases m with _ | _ | _ | _ | m <;> first | decide | omega
                    have hc := dig_in hdj
                    have hnx : wadd .i64 (wmul .i64 10 n) (wcv .i64 (wsub .u8 (p.data.toList[j].toNat : Int) 48)) = hors 0 (p.data.toList.take (j + 1)) := by
                      rw [dig_sub hdj, List.take_succ_eq_append_getElem hlt, hors_snoc, ← hn]
                      rw [← hn] at hbd
                      rw [wmul64 (by omega) (by omega), wadd64 (by omega) (by omega)]
                    obtain ⟨o, ho, hq⟩ := ihd (j + 1) (wadd .i64 (wmul .i64 10 n) (wcv .i64 (wsub .u8 (p.data.toList[j].toNat : Int) 48))) (by omega) hlt hnx
                    refine ⟨o, Ev.step (fun k => ?_) ho, hq⟩
                    simp only [list_steps.l2, slen_l, Go.Proofs.YtmbjiadilfbooaaGreatDoor.Lift.ilen _ _ hlt, cond_true, sat_l hlt, Option.bind_some, list_isDigit.f, u0 (show j ≤ 4611686018427387904 by omega)]
                    rw [show (bif ile 48 (p.data.toList[j].toNat : Int) then ile (p.data.toList[j].toNat : Int) 57 else false) = digB p.data.toList[j] from rfl, hdj, ilt_f (show (j : Int) ≤ 3 by omega)]
                    rfl
                  · obtain rfl : j = p.data.toList.length := by omega
                    rw [List.take_length] at hn; subst hn; exact one _
              obtain ⟨o, ho, hq⟩ := walk p.data.toList.length 0 0 (by omega) (by omega) rfl
              exact ⟨o, l1 _ ho, fun h => by rw [← hb]; exact hq h⟩
    rcases Nat.lt_or_ge i s.data.toList.length with hlt | hge
    · have hdrop : s.data.toList.drop f = (s.data.toList.drop f).take (i - f) ++ s.data.toList[i] :: s.data.toList.drop (i + 1) := by
        have h1 : (s.data.toList.drop f).drop (i - f) = s.data.toList.drop i := by rw [List.drop_drop]; congr 1; omega
        rw [← List.drop_eq_getElem_cons hlt, ← h1, List.take_append_drop]
      have hw : wadd .i64 (i : Int) 1 = ((i + 1 : Nat) : Int) := u0 (by omega)
      have st : ∀ k, list_steps.l0 (k + 1) s acc (f : Int) (i : Int) = bif !ieq (s.data.toList[i].toNat : Int) 46 then list_steps.l0 k s acc (f : Int) ((i + 1 : Nat) : Int) else list_steps.l1 k s acc (f : Int) (i : Int) := fun k => by
        simp only [list_steps.l0, hle, cond_true, slen_l, Go.Proofs.YtmbjiadilfbooaaGreatDoor.Lift.ilen _ _ hlt, sat_l hlt, Option.bind_some, hw]
      by_cases h46 : s.data.toList[i] = 46
      · rw [h46] at hdrop
        have hi46 : ieq (s.data.toList[i].toNat : Int) 46 = true := by rw [h46]; rfl
        have e : pcs 46 (s.data.toList.drop f) = (s.data.toList.drop f).take (i - f) :: pcs 46 (s.data.toList.drop (i + 1)) := by
          conv => lhs; rw [hdrop]
          exact pcs_cut 46 _ _ hn
        obtain ⟨o, ho, hq⟩ := cut ((pcs 46 (s.data.toList.drop (i + 1))).all pk) ((pcs 46 (s.data.toList.drop (i + 1))).map stpL) (by rw [e, List.all_cons]) (by rw [e, List.map_cons]) fun acc' ha => ih (i + 1) (i + 1) acc' (by omega) (Nat.le_refl _) hlt (by simp) ha
        exact ⟨o, Ev.step (fun k => by rw [st, hi46]; rfl) ho, hq⟩
      · have hi46 : ieq (s.data.toList[i].toNat : Int) 46 = false := ieq_f fun e => h46 (UInt8.toNat_inj.1 (by rw [show (46 : UInt8).toNat = 46 from rfl]; omega))
        obtain ⟨o, ho, hq⟩ := ih f (i + 1) acc (by omega) (by omega) hlt (by
          have e1 : i + 1 - f = (i - f) + 1 := by omega
          have hl2 : i - f < (s.data.toList.drop f).length := by rw [List.length_drop]; omega
          rw [e1, List.take_succ_eq_append_getElem hl2, List.mem_append]
          rintro (h | h)
          · exact hn h
          · have h : (46 : UInt8) = (s.data.toList.drop f)[i - f] := by simpa using h
            rw [List.getElem_drop] at h
            exact h46 (by rw [h]; congr 1; omega)) (by omega)
        exact ⟨o, Ev.step (fun k => by rw [st, hi46]; rfl) ho, hq⟩
    · obtain rfl : i = s.data.toList.length := by omega
      have hfull : (s.data.toList.drop f).take (s.data.toList.length - f) = s.data.toList.drop f := List.take_of_length_le (by rw [List.length_drop]; omega)
      rw [hfull] at hn cut
      have e : pcs 46 (s.data.toList.drop f) = [s.data.toList.drop f] := pcs_none 46 _ hn
      obtain ⟨o, ho, hq⟩ := cut true [] (by rw [e]; rfl) (by rw [e]; rfl) fun acc' ha => ⟨acc', Ev.step (g := fun _ => some (acc', true)) (fun k => by
        have : ile ((s.data.toList.length + 1 : Nat) : Int) (s.data.toList.length : Int) = false := ile_f (by omega)
        simp only [list_steps.l0, slen_l, this, cond_false]) (Ev.now fun _ => rfl), fun _ => by rw [List.append_nil]⟩
      refine ⟨o, Ev.step (fun k => ?_) ho, hq⟩
      simp only [list_steps.l0, hle, cond_true, slen_l, Go.Proofs.YtmbjiadilfbooaaGreatDoor.Lift.ilen', cond_false]
def lstps (s : ByteArray) : List T_list_step := bif seq s c_empty then [] else (pcs 46 s.data.toList).map stpL
theorem steps_ex (s : ByteArray) : ∃ o, Ev (fun k => list_steps.f k s) (o, rp s) ∧ (rp s = true → o = lstps s) := by
  unfold lstps rp
  cases h4 : ilt 400 (slen s) with
  | true => exact ⟨[], Ev.now fun k => by simp only [list_steps.f, h4, cond_true], fun h => nomatch h⟩
  | false =>
    cases he : seq s c_empty with
    | true => exact ⟨[], Ev.now fun k => by simp only [list_steps.f, h4, he, cond_true, cond_false], fun _ => rfl⟩
    | false =>
      have hl : s.data.toList.length ≤ 400 := by
        rw [slen_l] at h4
        have := of_decide_eq_false h4
        omega
      obtain ⟨o, ho, hq⟩ := scan s hl (s.data.toList.length + 1) 0 0 [] (by omega) (by omega) (by omega) (by simp) (by simp)
      rw [List.drop_zero] at ho hq
      exact ⟨o, Ev.congr (fun k => by simp only [list_steps.f, h4, he, cond_false]; rfl) ho, fun h => by rw [hq h]; rfl⟩
theorem steps_right {s : ByteArray} (h : rp s = true) : Ev (fun k => list_steps.f k s) (lstps s, true) := by
  obtain ⟨o, h1, h2⟩ := steps_ex s
  rw [h] at h1
  rw [← h2 h]; exact h1
theorem steps_ok (s : ByteArray) : ∃ o, Ev (fun k => list_steps.f k s) (o, rp s) := by
  obtain ⟨o, h, _⟩ := steps_ex s
  exact ⟨o, h⟩
theorem dec_all : ∀ (l : List UInt8) (n : Nat), l.all digB = true → ∃ m, Lib.decFrom n l = some m
  | [], n, _ => ⟨n, rfl⟩
  | b :: r, n, h => by
    rw [List.all_cons, Bool.and_eq_true] at h
    have hb : 48 ≤ b.toNat ∧ b.toNat ≤ 57 := by
      have := h.1
      unfold digB at this
      by_cases c : (48 : Int) ≤ b.toNat
      · rw [ile_t c, cond_true] at this
        have := of_decide_eq_true this
        omega
      · rw [ile_f (by omega)] at this; exact nomatch this
    unfold Lib.decFrom Lib.digitVal
    rw [if_pos hb]
    exact dec_all r _ h.2
theorem atoi_dg {p : ByteArray} (h : dg p.data.toList = true) : ∃ n : Nat, strconv_Atoi.f p = some (n : Int) := by
  cases hb : p.data.toList with
  | nil => rw [hb] at h; exact nomatch h
  | cons c r =>
    rw [hb] at h
    simp only [dg, Bool.and_eq_true] at h
    obtain ⟨⟨h1, h2⟩, _⟩ := h
    have h2 : r.length ≤ 3 := of_decide_eq_true h2
    have hc := dig_not (List.all_eq_true.1 h1 c (List.mem_cons_self ..))
    obtain ⟨m, hm⟩ := dec_all (c :: r) 0 h1
    refine ⟨m, ?_⟩
    unfold strconv_Atoi.f atoiF
    rw [size_l, hb, if_pos (by simp; omega)]
    unfold Lib.atoi
    have e1 : (c == 45) = false := beq_eq_false_iff_ne.2 hc.1
    have e2 : (c == 43) = false := beq_eq_false_iff_ne.2 hc.2.1
    simp only [e1, e2, Bool.false_eq_true, if_false, Lib.decNat, List.isEmpty_cons, hm]
    rfl
/-- Is it a piece of a route. -/
def pkS (st : Bool) (p : List UInt8) : Bool := dg p || keyL p || (st && p == [42])
theorem seq_star (p : ByteArray) : seq p c__2a = (p.data.toList == [42]) := by
  unfold seq
  rw [ByteArray.toList_eq, ByteArray.toList_eq]
  rfl
def rpS (st : Bool) (s : ByteArray) : Bool := bif ilt 400 (slen s) then false else bif seq s c_empty then true else (pcs 46 s.data.toList).all (pkS st)
def parts (s : ByteArray) : List ByteArray := Lib.splitB c__2e 0 (Lib.countB s c__2e) s
theorem routeP_ok (st : Bool) (s : ByteArray) (hs : s.size ≤ 2000000) : Ev (fun k => mastref2_RouteParts.f k s st) (bif rpS st s then (bif seq s c_empty then [] else parts s, true) else ([], false)) := by
  unfold rpS
  cases h4 : ilt 400 (slen s) with
  | true => exact Ev.now fun k => by simp only [mastref2_RouteParts.f, h4, cond_true]; rfl
  | false =>
    cases he : seq s c_empty with
    | true => exact Ev.now fun k => by simp only [mastref2_RouteParts.f, h4, he, cond_true, cond_false]
    | false =>
      simp only [cond_false]
      have hsp : strings_Split.f s c__2e = some (Lib.splitB c__2e 0 (Lib.countB s c__2e) s) := by
        unfold strings_Split.f splitF
        rw [if_pos ⟨by omega, by decide⟩]
      generalize hP : Lib.splitB c__2e 0 (Lib.countB s c__2e) s = P at hsp
      have hpp : P.map (·.data.toList) = pcs 46 s.data.toList := by rw [← hP]; exact parts_pcs s
      have hsz : ∀ x ∈ P, x.size ≤ 2000000 := fun x hx => by rw [← hP] at hx; have := split_sz _ _ _ _ hx; omega
      have hlen : P.length ≤ 4611686018427387904 := by
        have h1 := Lib.splitB_length_le c__2e 0 (Lib.countB s c__2e) s
        have h2 := Lib.countB_le c__2e (by decide) s.size s (Nat.le_refl _)
        rw [hP] at h1; omega
      have q := find_loop2 P 0 (Nat.zero_le _) (fun k j => mastref2_RouteParts.l0 k st P P (llen P) (j : Int))
        (fun _ p => (mastref2_digitsAlone.f p).bind fun y3 => bif (bif y3 then (ile (slen p) 4) else false) then ((sat p 0).bind fun y4 => some (p, (bif (!ieq y4 48) then true else (seq p c_0)))) else some (p, false))
        (fun k j y => mastref2_RouteParts.l1 k st P y.1 y.2 P (llen P) (j : Int)) (fun _ => some (P, true)) (fun p => !pkS st p.data.toList) (fun _ => ([], false)) (P, true)
        (fun k j h => by
          simp only [mastref2_RouteParts.l0, llen_eq, Go.Proofs.YtmbjiadilfbooaaGreatDoor.Lift.ilen _ _ h, cond_true, lat_lt h, Option.bind_some]
          cases mastref2_digitsAlone.f P[j] with
          | none => rfl
          | some y =>
            simp only [Option.bind_some]
            cases (bif y then ile (slen P[j]) 4 else false) with
            | false => rfl
            | true =>
              simp only [cond_true]
              cases sat P[j] 0 <;> rfl)
        (fun k => by simp only [mastref2_RouteParts.l0, llen_eq, Go.Proofs.YtmbjiadilfbooaaGreatDoor.Lift.ilen', cond_false]) (Ev.now fun _ => rfl)
        (fun j h => by
          have hz := hsz _ (List.getElem_mem h)
          have hd := digits_ok P[j] hz
          have hk := keyR_ok P[j] hz
          have el : ile (slen P[j]) 4 = decide (P[j].data.toList.length ≤ 4) := by
            rw [slen_l, ile_d]
            by_cases c : P[j].data.toList.length ≤ 4
            · rw [decide_eq_true c, decide_eq_true (by omega)]
            · rw [decide_eq_false c, decide_eq_false (by omega)]
          refine ⟨(P[j], dg P[j].data.toList), Ev.now fun _ => ?_, fun hq => ?_, fun hq v hv => ?_⟩
          · rw [hd]
            simp only [Option.bind_some, el]
            cases hb : P[j].data.toList with
            | nil => rfl
            | cons c r =>
              rw [sat_0 hb, seq_zero, hb]
              simp only [List.isEmpty_cons, Bool.not_false, Bool.true_and, Option.bind_some, dg, List.length_cons]
              rw [show decide (r.length + 1 ≤ 4) = decide (r.length ≤ 3) by by_cases c : r.length ≤ 3 <;> simp [c] <;> omega]
              cases (c :: r).all digB <;> cases decide (r.length ≤ 3) <;> cases ieq (c.toNat : Int) 48 <;> rfl
          · have h1 : (dg P[j].data.toList = false ∧ key P[j] = false) ∧ (st && seq P[j] c__2a) = false := by
              have : pkS st P[j].data.toList = false := by simpa using hq
              unfold pkS at this
              obtain ⟨t1, t2⟩ := Bool.or_eq_false_iff.1 this
              obtain ⟨t3, t4⟩ := Bool.or_eq_false_iff.1 t1
              exact ⟨⟨t3, t4⟩, by rw [seq_star]; exact t2⟩
            have e0 : (bif st then seq P[j] c__2a else false) = false := by rw [← h1.2]; cases st <;> rfl
            refine Ev.step (g := fun _ => some ([], false)) (fun k => ?_) (Ev.now fun _ => rfl)
            simp only [mastref2_RouteParts.l1, h1.1.1, Bool.not_false, cond_true, hk, h1.1.2, Option.bind_some, cond_false, e0]
          · have h1 : pkS st P[j].data.toList = true := by simpa using hq
            unfold pkS at h1
            rw [← seq_star] at h1
            have hw : wadd .i64 (j : Int) 1 = ((j + 1 : Nat) : Int) := u0 (by omega)
            refine Ev.step (fun k => ?_) hv
            simp only [mastref2_RouteParts.l1, hw]
            cases hg : dg P[j].data.toList with
            | true => simp
            | false =>
              simp only [Bool.not_false, cond_true, hk, Option.bind_some]
              rw [hg, show keyL P[j].data.toList = key P[j] from rfl] at h1
              revert h1
              cases key P[j] <;> cases st <;> cases seq P[j] c__2a <;> simp)
      rw [fl_const, List.drop_zero] at q
      have e : (pcs 46 s.data.toList).all (pkS st) = !P.any fun p => !pkS st p.data.toList := by
        rw [← hpp, List.all_map, List.all_eq_not_any_not]; rfl
      have e2 : (bif P.any (fun p => !pkS st p.data.toList) then (([] : List ByteArray), false) else (P, true)) = bif (pcs 46 s.data.toList).all (pkS st) then (P, true) else ([], false) := by
        rw [e]
        cases P.any fun p => !pkS st p.data.toList <;> rfl
      rw [e2, ← hP] at q
      subst hP
      exact Ev.congr (fun k => by simp only [mastref2_RouteParts.f, h4, he, cond_false, hsp, Option.bind_some]; rfl) q
/-! The order of strings. -/
theorem bl_irr : ∀ a : List UInt8, Op.bytesLess a a = false
  | [] => rfl
  | x :: a => by simp [Op.bytesLess, bl_irr a]
theorem bl_trans : ∀ a b c : List UInt8, Op.bytesLess a b = true → Op.bytesLess b c = true → Op.bytesLess a c = true
  | _, [], _, h, _ => by simp [Op.bytesLess] at h
  | _, _ :: _, [], _, h => by simp [Op.bytesLess] at h
  | [], _ :: _, _ :: _, _, _ => rfl
  | x :: a, y :: b, z :: c, h1, h2 => by
    simp only [Op.bytesLess, Bool.or_eq_true, Bool.and_eq_true, decide_eq_true_eq, beq_iff_eq] at h1 h2 ⊢
    rcases h1 with h1 | ⟨h1, h3⟩
    · rcases h2 with h2 | ⟨h2, _⟩
      · exact .inl (UInt8.lt_trans h1 h2)
      · exact .inl (h2 ▸ h1)
    · rcases h2 with h2 | ⟨h2, h4⟩
      · exact .inl (h1 ▸ h2)
      · exact .inr ⟨h1.trans h2, bl_trans a b c h3 h4⟩
theorem bl_total : ∀ a b : List UInt8, Op.bytesLess a b = false → a ≠ b → Op.bytesLess b a = true
  | [], [], _, h => absurd rfl h
  | [], _ :: _, h, _ => by simp [Op.bytesLess] at h
  | _ :: _, [], _, _ => rfl
  | x :: a, y :: b, h, hne => by
    simp only [Op.bytesLess, Bool.or_eq_false_iff, Bool.and_eq_false_iff, decide_eq_false_iff_not, beq_eq_false_iff_ne] at h
    simp only [Op.bytesLess, Bool.or_eq_true, Bool.and_eq_true, decide_eq_true_eq, beq_iff_eq]
    by_cases e : x = y
    · subst e
      right
      refine ⟨rfl, bl_total a b (h.2.resolve_left fun q => q rfl) fun q => hne (by rw [q])⟩
    · left
      rcases Nat.lt_trichotomy x.toNat y.toNat with q | q | q
      · exact absurd (UInt8.lt_iff_toNat_lt.2 q) h.1
      · exact absurd (UInt8.toNat_inj.1 q) e
      · exact UInt8.lt_iff_toNat_lt.2 q
theorem sl_irr (a : ByteArray) : slt a a = false := bl_irr _
theorem sl_trans {a b c : ByteArray} (h1 : slt a b = true) (h2 : slt b c = true) : slt a c = true := bl_trans _ _ _ h1 h2
theorem sl_total {a b : ByteArray} (h : sle a b = false) : slt b a = true := by
  unfold sle at h
  obtain ⟨h1, h2⟩ := Bool.or_eq_false_iff.1 h
  refine bl_total _ _ h1 fun e => ?_
  unfold seq at h2
  rw [e] at h2
  simp at h2
/-! The order of values. -/
def sg3 (a b : Int) : Int := bif ilt a b then -1 else bif ilt b a then 1 else 0
theorem cmp_ok (a b : Int) : cmp_Compare_int.f a b = some (sg3 a b) := by
  simp only [cmp_Compare_int.f, cmp_isNaN_int.f, ieq_self, Option.bind_some, Bool.not_true, cond_false, sg3]
  cases ilt a b <;> cases ilt b a <;> rfl
theorem sg3_zero (a b : Int) : ieq (sg3 a b) 0 = ieq a b := by
  unfold sg3
  rcases Int.lt_trichotomy a b with h | h | h
  · rw [ilt_t h, ieq_f (show a ≠ b by omega)]; rfl
  · rw [ilt_f (show b ≤ a by omega), ilt_f (show a ≤ b by omega), ieq_t h]; rfl
  · rw [ilt_f (show b ≤ a by omega), ilt_t h, ieq_f (show a ≠ b by omega)]; rfl
theorem sg3_self (a : Int) : sg3 a a = 0 := by unfold sg3; rw [ilt_f (Int.le_refl a)]; rfl
/-- The order of strings as a number. -/
def scm (a b : ByteArray) : Int := Lib.compareBytes a.data.toList b.data.toList
theorem cb_self : ∀ a : List UInt8, Lib.compareBytes a a = 0
  | [] => rfl
  | x :: a => by simp only [Lib.compareBytes, UInt8.lt_irrefl, if_false, cb_self a]
theorem cb_lt : ∀ a b : List UInt8, Lib.compareBytes a b = bif Op.bytesLess a b then -1 else bif Op.bytesLess b a then 1 else 0
  | [], [] => rfl
  | [], _ :: _ => rfl
  | _ :: _, [] => rfl
  | x :: a, y :: b => by
    have ih := cb_lt a b
    simp only [Lib.compareBytes, Op.bytesLess]
    by_cases h1 : x < y
    · simp [h1]
    · by_cases h2 : y < x
      · have : x ≠ y := fun e => by subst e; exact h1 h2
        have e2 : (x == y) = false := beq_eq_false_iff_ne.2 this
        simp [h1, h2, e2]
      · have e : x = y := by
          rcases Nat.lt_trichotomy x.toNat y.toNat with q | q | q
          · exact absurd (UInt8.lt_iff_toNat_lt.2 q) h1
          · exact UInt8.toNat_inj.1 q
          · exact absurd (UInt8.lt_iff_toNat_lt.2 q) h2
        subst e
        simp [ih]
theorem scm_slt (a b : ByteArray) : scm a b = bif slt a b then -1 else bif slt b a then 1 else 0 := by
  unfold scm slt
  rw [cb_lt, ByteArray.toList_eq a, ByteArray.toList_eq b]
theorem scm_ok (a b : ByteArray) : cmp_Compare_string.f a b = some (scm a b) := by
  have h : ∀ a, cmp_isNaN_string.f a = some false := fun a => by simp only [cmp_isNaN_string.f, seq_self, Bool.not_true]
  rw [scm_slt]
  simp only [cmp_Compare_string.f, h, Option.bind_some, cond_false]
  cases h1 : slt a b with
  | true => rfl
  | false =>
    cases h2 : sle a b with
    | false => rw [sl_total h2]; rfl
    | true =>
      have e : slt b a = false := by
        unfold sle at h2
        rw [h1, Bool.false_or, seq_d] at h2
        rw [of_decide_eq_true h2, sl_irr]
      rw [e]; rfl
def cks : List ByteArray → List ByteArray → Int
  | [], [] => 0
  | [], _ :: _ => -1
  | _ :: _, [] => 1
  | a :: r, b :: t => bif !ieq (scm a b) 0 then scm a b else cks r t
theorem keys_loop (l m : List ByteArray) (hl : l.length ≤ 2000000) (hm : m.length ≤ 2000000) : ∀ (d j : Nat), l.length - j ≤ d → j ≤ l.length → j ≤ m.length → Ev (fun k => slices_Compare_string_string.l0 k l m l (llen l) (j : Int)) (cks (l.drop j) (m.drop j)) := by
  intro d
  have last : ∀ j : Nat, l.length ≤ j → j ≤ l.length → j ≤ m.length → Ev (fun k => slices_Compare_string_string.l0 k l m l (llen l) (j : Int)) (cks (l.drop j) (m.drop j)) := fun j hj hj2 hj3 => by
    rw [List.drop_eq_nil_of_le hj]
    rcases Nat.lt_or_ge j m.length with q | q
    · rw [List.drop_eq_getElem_cons q]
      refine Ev.step (g := fun _ => some (-1)) (fun k => ?_) (Ev.now fun _ => rfl)
      simp only [slices_Compare_string_string.l0, llen_eq, ilt_f (show (l.length : Int) ≤ (j : Int) by omega), cond_false, ilt_t (show (l.length : Int) < (m.length : Int) by omega), cond_true]
    · rw [List.drop_eq_nil_of_le q]
      refine Ev.step (g := fun _ => some 0) (fun k => ?_) (Ev.now fun _ => rfl)
      simp only [slices_Compare_string_string.l0, llen_eq, ilt_f (show (l.length : Int) ≤ (j : Int) by omega), cond_false, ilt_f (show (m.length : Int) ≤ (l.length : Int) by omega)]
  induction d with
  | zero => intro j hd h1 h2; exact last j (by omega) h1 h2
  | succ d ih =>
    intro j hd h1 h2
    rcases Nat.lt_or_ge j l.length with hlt | hge
    · rcases Nat.lt_or_ge j m.length with q | q
      · rw [List.drop_eq_getElem_cons hlt, List.drop_eq_getElem_cons q]
        simp only [cks]
        have st : ∀ k, slices_Compare_string_string.l0 (k + 1) l m l (llen l) (j : Int) = bif !ieq (scm l[j] m[j]) 0 then some (scm l[j] m[j]) else slices_Compare_string_string.l0 k l m l (llen l) ((j + 1 : Nat) : Int) := fun k => by
          simp only [slices_Compare_string_string.l0, llen_eq, ilt_t (show (j : Int) < (l.length : Int) by omega), cond_true, lat_lt hlt, lat_lt q, Option.bind_some, ile_f (show (j : Int) < (m.length : Int) by omega), cond_false, scm_ok, u0 (show j ≤ 4611686018427387904 by omega)]
        cases h : ieq (scm l[j] m[j]) 0 with
        | false => exact Ev.step (g := fun _ => some (scm l[j] m[j])) (fun k => by rw [st, h]; rfl) (Ev.now fun _ => rfl)
        | true => exact Ev.step (fun k => by rw [st, h]; rfl) (ih (j + 1) (by omega) hlt q)
      · rw [List.drop_eq_getElem_cons hlt, List.drop_eq_nil_of_le q]
        refine Ev.step (g := fun _ => some 1) (fun k => ?_) (Ev.now fun _ => rfl)
        simp only [slices_Compare_string_string.l0, llen_eq, ilt_t (show (j : Int) < (l.length : Int) by omega), cond_true, lat_lt hlt, Option.bind_some, ile_t (show (m.length : Int) ≤ (j : Int) by omega)]
    · exact last j hge h1 h2
theorem keys_ok (l m : List ByteArray) (hl : l.length ≤ 2000000) (hm : m.length ≤ 2000000) : Ev (fun k => slices_Compare_string_string.f k l m) (cks l m) := by
  have := keys_loop l m hl hm l.length 0 (by omega) (by omega) (by omega)
  rw [List.drop_zero, List.drop_zero] at this
  exact Ev.congr (fun k => by simp only [slices_Compare_string_string.f]; rfl) this
theorem cks_self : ∀ l, cks l l = 0
  | [] => rfl
  | a :: r => by simp only [cks, scm, cb_self]; exact cks_self r
def or3 (a b c : Int) : Int := bif !ieq a 0 then a else bif !ieq b 0 then b else bif !ieq c 0 then c else 0
theorem or_ok (a b c : Int) : Ev (fun k => cmp_Or_int.f k [a, b, c]) (or3 a b c) := by
    unfold or3
    have w1 : wadd .i64 0 1 = 1 := rfl
    have w2 : wadd .i64 1 1 = 2 := rfl
    have w3 : wadd .i64 2 1 = 3 := rfl
    have l3 : Ev (fun k => cmp_Or_int.l0 k 0 [a, b, c] 3 3) 0 := Ev.step (g := fun _ => some 0) (fun k => by simp only [cmp_Or_int.l0]; rfl) (Ev.now fun _ => rfl)
    have l2 : Ev (fun k => cmp_Or_int.l0 k 0 [a, b, c] 3 2) (bif !ieq c 0 then c else 0) := by
      cases h : ieq c 0 with
      | true => exact Ev.step (fun k => by simp only [cmp_Or_int.l0, w3]; rw [show ilt 2 3 = true from rfl, show lat [a, b, c] 2 = some c from rfl]; simp only [cond_true, Option.bind_some, h, Bool.not_true, cond_false]) l3
      | false => exact Ev.step (g := fun _ => some c) (fun k => by simp only [cmp_Or_int.l0]; rw [show ilt 2 3 = true from rfl, show lat [a, b, c] 2 = some c from rfl]; simp only [cond_true, Option.bind_some, h, Bool.not_false]) (Ev.now fun _ => rfl)
    have l1 : Ev (fun k => cmp_Or_int.l0 k 0 [a, b, c] 3 1) (bif !ieq b 0 then b else bif !ieq c 0 then c else 0) := by
      cases h : ieq b 0 with
      | true => exact Ev.step (fun k => by simp only [cmp_Or_int.l0, w2]; rw [show ilt 1 3 = true from rfl, show lat [a, b, c] 1 = some b from rfl]; simp only [cond_true, Option.bind_some, h, Bool.not_true, cond_false]) l2
      | false => exact Ev.step (g := fun _ => some b) (fun k => by simp only [cmp_Or_int.l0]; rw [show ilt 1 3 = true from rfl, show lat [a, b, c] 1 = some b from rfl]; simp only [cond_true, Option.bind_some, h, Bool.not_false]) (Ev.now fun _ => rfl)
    have l0 : Ev (fun k => cmp_Or_int.l0 k 0 [a, b, c] 3 0) (bif !ieq a 0 then a else bif !ieq b 0 then b else bif !ieq c 0 then c else 0) := by
      cases h : ieq a 0 with
      | true => exact Ev.step (fun k => by simp only [cmp_Or_int.l0, w1]; rw [show ilt 0 3 = true from rfl, show lat [a, b, c] 0 = some a from rfl]; simp only [cond_true, Option.bind_some, h, Bool.not_true, cond_false]) l1
      | false => exact Ev.step (g := fun _ => some a) (fun k => by simp only [cmp_Or_int.l0]; rw [show ilt 0 3 = true from rfl, show lat [a, b, c] 0 = some a from rfl]; simp only [cond_true, Option.bind_some, h, Bool.not_false]) (Ev.now fun _ => rfl)
    exact Ev.congr (fun k => by simp only [cmp_Or_int.f]; rfl) l0
/-- What two values are by themselves. -/
def own2 (a b : T_api_Value) : Int :=
  bif !ieq (sg3 a.fKind b.fKind) 0 then sg3 a.fKind b.fKind else bif !(a.fBool == b.fBool) then (bif b.fBool then -1 else 1) else or3 (sg3 a.fInt b.fInt) (scm a.fText b.fText) (cks a.fKeys b.fKeys)
mutual
def cmpv : T_api_Value → T_api_Value → Int
  | ⟨k, b, i, t, l, s⟩, v => bif !ieq (own2 ⟨k, b, i, t, l, s⟩ v) 0 then own2 ⟨k, b, i, t, l, s⟩ v else cmpl l v.fItems
def cmpl : List T_api_Value → List T_api_Value → Int
  | [], [] => 0
  | [], _ :: _ => -1
  | _ :: _, [] => 1
  | a :: r, b :: t => bif !ieq (cmpv a b) 0 then cmpv a b else cmpl r t
end
theorem cmpv_eq (a b : T_api_Value) : cmpv a b = bif !ieq (own2 a b) 0 then own2 a b else cmpl a.fItems b.fItems := by cases a; simp only [cmpv]
theorem items_loop (a b : T_api_Value) (ha : wt a ≤ 2000000) (hb : wt b ≤ 2000000) (ih : ∀ x ∈ a.fItems, ∀ y, wt y ≤ 2000000 → Ev (fun k => mastref2_CompareOf.f k x y) (cmpv x y)) : ∀ (d j : Nat), a.fItems.length - j ≤ d → j ≤ a.fItems.length → j ≤ b.fItems.length →
    Ev (fun k => mastref2_CompareOf.l0 k a.fKind a.fBool a.fInt a.fText a.fItems a.fKeys b.fKind b.fBool b.fInt b.fText b.fItems b.fKeys (j : Int)) (cmpl (a.fItems.drop j) (b.fItems.drop j)) := by
  rw [wt_eq] at ha hb
  have hla := len_le a.fItems
  have hlb := len_le b.fItems
  have fin : ∀ (j : Nat), (a.fItems.length ≤ j ∨ b.fItems.length ≤ j) → Ev (fun k => mastref2_CompareOf.l0 k a.fKind a.fBool a.fInt a.fText a.fItems a.fKeys b.fKind b.fBool b.fInt b.fText b.fItems b.fKeys (j : Int)) (sg3 (llen a.fItems) (llen b.fItems)) := fun j h => by
    refine Ev.step (g := fun _ => some (sg3 (llen a.fItems) (llen b.fItems))) (fun k => ?_) (Ev.now fun _ => rfl)
    have : (bif ilt (j : Int) (llen a.fItems) then ilt (j : Int) (llen b.fItems) else false) = false := by
      rcases h with h | h
      · rw [llen_eq, ilt_f (show (a.fItems.length : Int) ≤ (j : Int) by omega)]; rfl
      · rw [llen_eq, llen_eq, ilt_f (show (b.fItems.length : Int) ≤ (j : Int) by omega)]; cases ilt (j : Int) (a.fItems.length : Int) <;> rfl
    simp only [mastref2_CompareOf.l0, this, cond_false, cmp_ok, Option.bind_some]
  intro d
  induction d with
  | zero =>
    intro j hd h1 h2
    have := fin j (.inl (by omega))
    rw [List.drop_eq_nil_of_le (show a.fItems.length ≤ j by omega)]
    rcases Nat.lt_or_ge j b.fItems.length with q | q
    · rw [List.drop_eq_getElem_cons q]
      unfold sg3 at this
      rw [llen_eq, llen_eq, ilt_t (show (a.fItems.length : Int) < (b.fItems.length : Int) by omega)] at this
      exact this
    · rw [List.drop_eq_nil_of_le q]
      unfold sg3 at this
      rw [llen_eq, llen_eq, ilt_f (show (b.fItems.length : Int) ≤ (a.fItems.length : Int) by omega), ilt_f (show (a.fItems.length : Int) ≤ (b.fItems.length : Int) by omega)] at this
      exact this
  | succ d hi =>
    intro j hd h1 h2
    rcases Nat.lt_or_ge j a.fItems.length with hlt | hge
    · rcases Nat.lt_or_ge j b.fItems.length with q | q
      · rw [List.drop_eq_getElem_cons hlt, List.drop_eq_getElem_cons q]
        have hy : wt b.fItems[j] ≤ 2000000 := by have := wt_mem (List.getElem_mem q); omega
        have c := ih _ (List.getElem_mem hlt) b.fItems[j] hy
        refine Ev.step (fun k => by simp only [mastref2_CompareOf.l0, llen_eq, Go.Proofs.YtmbjiadilfbooaaGreatDoor.Lift.ilen _ _ hlt, Go.Proofs.YtmbjiadilfbooaaGreatDoor.Lift.ilen _ _ q, cond_true, lat_lt hlt, lat_lt q, Option.bind_some]; rfl) (Ev.bind c ?_)
        simp only [cmpl]
        cases ieq (cmpv a.fItems[j] b.fItems[j]) 0 with
        | false => exact Ev.now fun _ => rfl
        | true =>
          have := hi (j + 1) (by omega) hlt q
          simp only [Bool.not_true, cond_false, u0 (show j ≤ 4611686018427387904 by omega)]
          exact this
      · have := fin j (.inr q)
        rw [List.drop_eq_getElem_cons hlt, List.drop_eq_nil_of_le q]
        unfold sg3 at this
        rw [llen_eq, llen_eq, ilt_f (show (b.fItems.length : Int) ≤ (a.fItems.length : Int) by omega), ilt_t (show (b.fItems.length : Int) < (a.fItems.length : Int) by omega)] at this
        exact this
    · have := fin j (.inl hge)
      rw [List.drop_eq_nil_of_le hge]
      rcases Nat.lt_or_ge j b.fItems.length with q | q
      · rw [List.drop_eq_getElem_cons q]
        unfold sg3 at this
        rw [llen_eq, llen_eq, ilt_t (show (a.fItems.length : Int) < (b.fItems.length : Int) by omega)] at this
        exact this
      · rw [List.drop_eq_nil_of_le q]
        unfold sg3 at this
        rw [llen_eq, llen_eq, ilt_f (show (b.fItems.length : Int) ≤ (a.fItems.length : Int) by omega), ilt_f (show (a.fItems.length : Int) ≤ (b.fItems.length : Int) by omega)] at this
        exact this
theorem cmpR_ok : ∀ a, wt a ≤ 2000000 → ∀ b, wt b ≤ 2000000 → Ev (fun k => mastref2_CompareOf.f k a b) (cmpv a b) := tree fun a ih ha b hb => by
  rw [cmpv_eq]
  have il := items_loop a b ha hb (fun x hx y hy => ih x hx (by have := wt_mem hx; rw [wt_eq] at ha; omega) y hy) a.fItems.length 0 (by omega) (by omega) (by omega)
  rw [List.drop_zero, List.drop_zero] at il
  rw [wt_eq] at ha hb
  have hka := klen_le a.fKeys
  have hkb := klen_le b.fKeys
  have st : ∀ k, mastref2_CompareOf.f (k + 1) a b = bif !ieq (sg3 a.fKind b.fKind) 0 then some (sg3 a.fKind b.fKind) else bif !(a.fBool == b.fBool) then (bif b.fBool then some (-1) else some 1) else (slices_Compare_string_string.f k a.fKeys b.fKeys).bind fun y4 => (cmp_Or_int.f k [sg3 a.fInt b.fInt, scm a.fText b.fText, y4]).bind fun y5 => bif !ieq y5 0 then some y5 else mastref2_CompareOf.l0 k a.fKind a.fBool a.fInt a.fText a.fItems a.fKeys b.fKind b.fBool b.fInt b.fText b.fItems b.fKeys ((0 : Nat) : Int) := fun k => by
    have hs : strings_Compare.f a.fText b.fText = some (scm a.fText b.fText) := rfl
    simp only [mastref2_CompareOf.f, cmp_ok, Option.bind_some, hs]
    rfl
  unfold own2
  cases h1 : !ieq (sg3 a.fKind b.fKind) 0 with
  | true =>
    refine Ev.step (g := fun _ => some (sg3 a.fKind b.fKind)) (fun k => by rw [st, h1]; rfl) (Ev.now fun _ => ?_)
    simp only [cond_true, h1]
  | false =>
    cases h2 : !(a.fBool == b.fBool) with
    | true =>
      cases h3 : b.fBool with
      | true => exact Ev.step (g := fun _ => some (-1)) (fun k => by rw [st, h1, h2, h3]; rfl) (Ev.now fun _ => rfl)
      | false => exact Ev.step (g := fun _ => some 1) (fun k => by rw [st, h1, h2, h3]; rfl) (Ev.now fun _ => rfl)
    | false =>
      refine Ev.step (fun k => by rw [st, h1, h2]; rfl) (Ev.bind (keys_ok a.fKeys b.fKeys (by omega) (by omega)) (Ev.bind (or_ok _ _ _) ?_))
      simp only [cond_false]
      cases h3 : !ieq (or3 (sg3 a.fInt b.fInt) (scm a.fText b.fText) (cks a.fKeys b.fKeys)) 0 with
      | true => exact Ev.now fun _ => rfl
      | false => exact il
theorem own2_self (a : T_api_Value) : own2 a a = 0 := by
  have h1 : (a.fBool == a.fBool) = true := by cases a.fBool <;> rfl
  unfold own2 or3 scm
  rw [sg3_self, sg3_self, cb_self, cks_self, h1]
  rfl
mutual
theorem cmpv_self : ∀ a, cmpv a a = 0
  | ⟨k, b, i, t, l, s⟩ => by
    simp only [cmpv, own2_self]
    exact cmpl_self l
theorem cmpl_self : ∀ l, cmpl l l = 0
  | [] => by simp only [cmpl]
  | a :: r => by
    simp only [cmpl, cmpv_self a]
    exact cmpl_self r
end
theorem vfs_zero : ∀ {l : List T_api_Value}, vfs l = 0 → ∀ k ∈ l, vf k = 0
  | a :: l, h, k, hk => by
    simp only [vfs] at h
    by_cases e : vf a = 0
    · rw [ieq_t e, cond_true] at h
      rcases List.mem_cons.1 hk with q | q
      · rw [q]; exact e
      · exact vfs_zero h k q
    · rw [ieq_f e, cond_false] at h; exact absurd h e
theorem vf_zero {v : T_api_Value} (h : vf v = 0) : own v = 0 ∧ vfs v.fItems = 0 := by
  rw [vf_eq] at h
  by_cases e : own v = 0
  · rw [ieq_t e, cond_true] at h; exact ⟨e, h⟩
  · rw [ieq_f e, cond_false] at h; exact absurd h e
theorem own_zero {v : T_api_Value} (h : own v = 0) : un2 v = false ∧ ks none v.fKeys = 0 := by
  unfold own at h
  cases h1 : ilt v.fKind 0 || ilt 6 v.fKind with
  | true => rw [h1] at h; exact nomatch h
  | false =>
    rw [h1, cond_false] at h
    cases h2 : (un v || un2 v) with
    | true => rw [h2] at h; exact nomatch h
    | false =>
      rw [h2, cond_false] at h
      cases h3 : (ieq v.fKind 4 && (ilt v.fInt 0 || ilt 84005 v.fInt)) with
      | true => rw [h3] at h; exact nomatch h
      | false =>
        rw [h3, cond_false] at h
        cases h4 : ilt 5000 (slen v.fText) with
        | true => rw [h4] at h; exact nomatch h
        | false =>
          rw [h4, cond_false] at h
          cases h5 : bad v.fText with
          | true => rw [h5] at h; exact nomatch h
          | false =>
            rw [h5, cond_false] at h
            exact ⟨(Bool.or_eq_false_iff.1 h2).2, h⟩
theorem len_of {v : T_api_Value} (h : un2 v = false) (h6 : v.fKind = 6) : v.fKeys.length = v.fItems.length := by
  unfold un2 at h
  rw [ieq_t h6, Bool.true_and, llen_eq, llen_eq, ieq_d] at h
  have : (v.fKeys.length : Int) = (v.fItems.length : Int) := by simpa using h
  omega
abbrev Srt (l : List ByteArray) : Prop := l.Pairwise fun a b => slt a b = true
theorem ks_srt : ∀ (l : List ByteArray) (p : Option ByteArray), ks p l = 0 → (∀ y, p = some y → ∀ x ∈ l, slt y x = true) ∧ Srt l
  | [], p, _ => ⟨(fun _ _ _ h => nomatch h), List.Pairwise.nil⟩
  | x :: r, p, h => by
    simp only [ks] at h
    cases hk : key x with
    | false => rw [hk] at h; exact nomatch h
    | true =>
      rw [hk] at h
      simp only [Bool.not_true, cond_false] at h
      cases hp : (match p with | none => false | some y => sle x y) with
      | true => rw [hp] at h; exact nomatch h
      | false =>
        rw [hp, cond_false] at h
        obtain ⟨i1, i2⟩ := ks_srt r (some x) h
        have i1 := i1 x rfl
        refine ⟨fun y hy z hz => ?_, .cons i1 i2⟩
        subst hy
        have hyx : slt y x = true := sl_total hp
        rcases List.mem_cons.1 hz with e | e
        · rw [e]; exact hyx
        · exact sl_trans hyx (i1 z e)

/-- The item of a key. -/
def lk (v : T_api_Value) (p : ByteArray) : Option T_api_Value := bif ieq v.fKind 6 then fl (fun s => seq s p) (fun j => v.fItems[j]?) none 0 v.fKeys else none
def num (p : ByteArray) : Nat := ((strconv_Atoi.f p).getD 0).toNat
def stepv (v : T_api_Value) (p : ByteArray) : Option T_api_Value := bif key p then lk v p else bif ieq v.fKind 5 then v.fItems[num p]? else none
def out (o : Option T_api_Value) : T_api_Value × Bool := match o with | some x => (x, true) | none => (zro, false)

theorem fl_idx {α : Type} (q : α → Bool) : ∀ (l : List α) (j0 : Nat), fl q (fun j => (j : Int)) (-1) j0 l = -1 ∨ ∃ m : Nat, m < j0 + l.length ∧ fl q (fun j => (j : Int)) (-1) j0 l = m
  | [], _ => .inl rfl
  | y :: r, j0 => by
    simp only [fl, List.length_cons]
    cases q y with
    | true => exact .inr ⟨j0, by omega, rfl⟩
    | false =>
      rcases fl_idx q r (j0 + 1) with h | ⟨m, h1, h2⟩
      · exact .inl h
      · exact .inr ⟨m, by omega, h2⟩

/-! A right item: its safe texts and facts are as strings. -/
def Rt (v : T_api_Value) : Prop := vf (st v) = 0
theorem sts_in : ∀ {l : List T_api_Value} {x : T_api_Value}, x ∈ l → st x ∈ sts l
  | a :: l, x, h => by
    simp only [sts]
    rcases List.mem_cons.1 h with e | e
    · rw [e]; exact List.mem_cons_self ..
    · exact List.mem_cons_of_mem _ (sts_in e)
theorem own_un {v : T_api_Value} (h : own v = 0) : (ilt v.fKind 0 || ilt 6 v.fKind) = false ∧ un v = false := by
  unfold own at h
  cases h1 : ilt v.fKind 0 || ilt 6 v.fKind with
  | true => rw [h1] at h; exact nomatch h
  | false =>
    rw [h1, cond_false] at h
    cases h2 : (un v || un2 v) with
    | true => rw [h2] at h; exact nomatch h
    | false => exact ⟨rfl, (Bool.or_eq_false_iff.1 h2).1⟩
theorem rt_in {v : T_api_Value} (h : Rt v) : (v.fKind = 6 → v.fKeys.length = v.fItems.length) ∧ Srt v.fKeys ∧ (∀ x ∈ v.fItems, Rt x) ∧ own (st v) = 0 := by
  obtain ⟨h1, h2⟩ := vf_zero h
  obtain ⟨h3, h4⟩ := own_zero h1
  refine ⟨fun h6 => ?_, ?_, fun x hx => ?_, h1⟩
  · have e : (st v).fKind = 6 := by rw [st_eq, h6]; rfl
    have := len_of h3 e
    rw [st_eq] at this
    simp only [sts_len] at this
    exact this
  · have := (ks_srt _ _ h4).2
    rw [st_eq] at this
    exact this
  · rw [st_eq] at h2
    exact vfs_zero h2 (st x) (sts_in hx)
/-- As the reference goes. -/
theorem stepR_ok (v : T_api_Value) (p : ByteArray) (hv : wt v ≤ 1048576) (hlen : v.fKind = 6 → v.fKeys.length = v.fItems.length) (hp : pkS false p.data.toList = true) : ∃ i : Int, Ev (fun k => mastref2_Step.f k v p) i ∧ (bif ilt i 0 then none else lat v.fItems i) = stepv v p ∧ (ilt i 0 = false → (lat v.fItems i).isSome = true) := by
  rw [wt_eq] at hv
  have hkl := klen_le v.fKeys
  unfold stepv
  cases hk : key p with
  | true =>
    obtain ⟨c, r, hb, hsm⟩ : ∃ c r, p.data.toList = c :: r ∧ small c = true := by
      unfold key at hk
      cases hb : p.data.toList with
      | nil => rw [hb] at hk; exact nomatch hk
      | cons c r =>
        rw [hb] at hk
        simp only [keyL, Bool.and_eq_true] at hk
        exact ⟨c, r, rfl, hk.1.2⟩
    have h97 : ile 97 (c.toNat : Int) = true := by
      unfold small at hsm
      cases q : ile 97 (c.toNat : Int) with
      | true => rfl
      | false => rw [q] at hsm; exact nomatch hsm
    rw [cond_true]
    unfold lk
    cases h6 : ieq v.fKind 6 with
    | false =>
      refine ⟨-1, Ev.now fun k => ?_, rfl, fun h => nomatch h⟩
      simp only [mastref2_Step.f, sat_0 hb, Option.bind_some, h97, cond_true, h6, Bool.not_false]
    | true =>
      have q := find_pure v.fKeys 0 (Nat.zero_le _) (fun k j => slices_Index_string_string.l0 k v.fKeys p (llen v.fKeys) (j : Int)) (fun _ => some (-1)) (fun s => seq s p) (fun j => (j : Int)) (-1)
        (fun k j h => by
          simp only [slices_Index_string_string.l0, llen_eq, Go.Proofs.YtmbjiadilfbooaaGreatDoor.Lift.ilen _ _ h, cond_true, lat_lt h, Option.bind_some, u0 (show j ≤ 4611686018427387904 by omega)]
          rw [show seq p v.fKeys[j] = seq v.fKeys[j] p by rw [seq_d, seq_d]; congr 1; exact propext ⟨Eq.symm, Eq.symm⟩])
        (fun k => by simp only [slices_Index_string_string.l0, llen_eq, Go.Proofs.YtmbjiadilfbooaaGreatDoor.Lift.ilen', cond_false]) (Ev.now fun _ => rfl)
      rw [List.drop_zero] at q
      refine ⟨_, Ev.congr (g := fun k => (slices_Index_string_string.l0 k v.fKeys p (llen v.fKeys) 0).bind fun y2 => some y2) (fun k => ?_) (Ev.bind q (Ev.now fun _ => rfl)), ?_, fun hn => ?_⟩
      · simp only [mastref2_Step.f, sat_0 hb, Option.bind_some, h97, cond_true, h6, Bool.not_true, cond_false, slices_Index_string_string.f]
      · rw [cond_true, fl_map (fun i : Int => bif ilt i 0 then none else lat v.fItems i)]
        congr 1
      · have hlen := hlen (by rw [ieq_d] at h6; exact of_decide_eq_true h6)
        rcases fl_idx (fun s => seq s p) v.fKeys 0 with e | ⟨m, e1, e2⟩
        · rw [e] at hn; cases hn
        · rw [e2, lat_lt (show m < v.fItems.length by omega)]; rfl
  | false =>
    have hdg : dg p.data.toList = true := by
      unfold pkS at hp
      rw [show keyL p.data.toList = key p from rfl, hk] at hp
      simpa using hp
    obtain ⟨n, hn⟩ := atoi_dg hdg
    have hnum : num p = n := by unfold num; rw [hn]; rfl
    obtain ⟨c, r, hb, hd⟩ : ∃ c r, p.data.toList = c :: r ∧ digB c = true := by
      cases hb : p.data.toList with
      | nil => rw [hb] at hdg; exact nomatch hdg
      | cons c r =>
        rw [hb] at hdg
        simp only [dg, Bool.and_eq_true] at hdg
        exact ⟨c, r, rfl, List.all_eq_true.1 hdg.1.1 c (List.mem_cons_self ..)⟩
    have h97 : ile 97 (c.toNat : Int) = false := by
      unfold digB at hd
      cases q : ile 48 (c.toNat : Int) with
      | false => rw [q] at hd; exact nomatch hd
      | true =>
        rw [q, cond_true] at hd
        have := of_decide_eq_true hd
        exact ile_f (by omega)
    rw [cond_false, hnum]
    have st : ∀ k, mastref2_Step.f k v p = bif (bif (ieq v.fKind 5) then (ilt (n : Int) (llen v.fItems)) else false) then some (n : Int) else some (-1) := fun k => by
      simp only [mastref2_Step.f, sat_0 hb, Option.bind_some, h97, cond_false, hn]
    cases h5 : ieq v.fKind 5 with
    | false =>
      refine ⟨-1, Ev.now fun k => ?_, rfl, fun h => nomatch h⟩
      rw [st, h5]; rfl
    | true =>
      by_cases hi : n < v.fItems.length
      · refine ⟨n, Ev.now fun k => ?_, ?_, fun _ => ?_⟩
        · rw [st, h5, llen_eq, ilt_t (show (n : Int) < (v.fItems.length : Int) by omega)]; rfl
        · rw [ilt_f (show (0 : Int) ≤ (n : Int) by omega), cond_false, cond_true, lat_nat]
        · rw [lat_lt hi]; rfl
      · refine ⟨-1, Ev.now fun k => ?_, ?_, fun h => nomatch h⟩
        · rw [st, h5, llen_eq, ilt_f (show (v.fItems.length : Int) ≤ (n : Int) by omega)]; rfl
        · rw [cond_true, List.getElem?_eq_none (by omega)]; rfl

def nav : T_api_Value → List ByteArray → Option T_api_Value
  | v, [] => some v
  | v, p :: r => (stepv v p).bind fun x => nav x r
theorem fl_in {β : Type} (q : ByteArray → Bool) (hit : Nat → Option β) (P : β → Prop) (h : ∀ j x, hit j = some x → P x) : ∀ (l : List ByteArray) (j0 : Nat) (x : β), fl q hit none j0 l = some x → P x
  | [], _, x, e => by cases e
  | y :: r, j0, x, e => by
    simp only [fl] at e
    cases hq : q y with
    | true => rw [hq] at e; exact h _ _ e
    | false => rw [hq] at e; exact fl_in q hit P h r (j0 + 1) x e
theorem stepv_in {v x : T_api_Value} {p : ByteArray} (h : stepv v p = some x) : x ∈ v.fItems := by
  unfold stepv lk at h
  have get : ∀ j y, v.fItems[j]? = some y → y ∈ v.fItems := fun j y e => List.mem_iff_getElem?.2 ⟨j, e⟩
  cases hk : key p with
  | true =>
    rw [hk, cond_true] at h
    cases h6 : ieq v.fKind 6 with
    | false => rw [h6] at h; cases h
    | true => rw [h6] at h; exact fl_in _ _ _ get _ _ _ h
  | false =>
    rw [hk, cond_false] at h
    cases h5 : ieq v.fKind 5 with
    | false => rw [h5] at h; cases h
    | true => rw [h5] at h; exact get _ _ h
theorem folR_loop (P : List ByteArray) (hP : P.length ≤ 3000000) (hok : ∀ p ∈ P, pkS false p.data.toList = true) (z : T_api_Value) : ∀ (d j : Nat) (v : T_api_Value), P.length - j ≤ d → j ≤ P.length → wt v ≤ 1048576 → Rt v →
    Ev (fun k => mastref2_Follow.l0 k v.fKind v.fBool v.fInt v.fText v.fItems v.fKeys z.fKind z.fBool z.fInt z.fText z.fItems z.fKeys P (llen P) (j : Int)) (out (nav v (P.drop j))) := by
  intro d
  have last : ∀ (j : Nat) (v : T_api_Value), P.length ≤ j → Ev (fun k => mastref2_Follow.l0 k v.fKind v.fBool v.fInt v.fText v.fItems v.fKeys z.fKind z.fBool z.fInt z.fText z.fItems z.fKeys P (llen P) (j : Int)) (out (nav v (P.drop j))) := fun j v hj => by
    rw [List.drop_eq_nil_of_le hj]
    refine Ev.step (g := fun _ => some (v, true)) (fun k => ?_) (Ev.now fun _ => rfl)
    simp only [mastref2_Follow.l0, llen_eq, ilt_f (show (P.length : Int) ≤ (j : Int) by omega), cond_false, eta]
  induction d with
  | zero => intro j v hd hj hv h0; exact last j v (by omega)
  | succ d ih =>
    intro j v hd hj hv h0
    rcases Nat.lt_or_ge j P.length with hlt | hge
    · rw [List.drop_eq_getElem_cons hlt]
      obtain ⟨ho, _, hi, _⟩ := rt_in h0
      obtain ⟨i, h1, h2, h3⟩ := stepR_ok v P[j] hv ho (hok _ (List.getElem_mem hlt))
      refine Ev.step (fun k => by simp only [mastref2_Follow.l0, llen_eq, Go.Proofs.YtmbjiadilfbooaaGreatDoor.Lift.ilen _ _ hlt, cond_true, lat_lt hlt, Option.bind_some, eta]; rfl) (Ev.bind h1 ?_)
      simp only [nav]
      cases hn : ilt i 0 with
      | true =>
        rw [hn, cond_true] at h2
        rw [← h2]
        exact Ev.now fun _ => rfl
      | false =>
        rw [hn, cond_false] at h2
        rw [h2]
        cases hs : stepv v P[j] with
        | none =>
          have h4 := h3 hn
          rw [h2, hs] at h4; cases h4
        | some x =>
          have hx := stepv_in hs
          have hw : wt x ≤ 1048576 := by have := wt_mem hx; rw [wt_eq] at hv; omega
          have := ih (j + 1) x (by omega) hlt hw (hi x hx)
          simp only [cond_false, Option.bind_some, u0 (show j ≤ 4611686018427387904 by omega)]
          exact this
    · exact last j v hge

theorem pcs_all {p : List UInt8 → Bool} {s : ByteArray} (h : (pcs 46 s.data.toList).all p = true) : ∀ x ∈ parts s, p x.data.toList = true := fun x hx => by
  rw [← parts_pcs] at h
  exact List.all_eq_true.1 h _ (List.mem_map.2 ⟨x, hx, rfl⟩)
theorem parts_few (s : ByteArray) (hs : s.size ≤ 1048576) : (parts s).length ≤ 3000000 := by
  have h1 := Lib.splitB_length_le c__2e 0 (Lib.countB s c__2e) s
  have h2 := Lib.countB_le c__2e (by decide) s.size s (Nat.le_refl _)
  unfold parts; omega
theorem pkS_pk (p : List UInt8) : pkS false p = pk p := by unfold pkS pk; simp
theorem rpS_rp (s : ByteArray) : rpS false s = rp s := by
  unfold rpS rp
  rw [show pkS false = pk from funext pkS_pk]
/-- The parts of a right route. -/
def prt (s : ByteArray) : List ByteArray := bif seq s c_empty then [] else parts s
theorem prt_right (s : ByteArray) (h : rp s = true) : ∀ p ∈ prt s, pkS false p.data.toList = true := by
  rw [← rpS_rp] at h
  unfold rpS at h
  unfold prt
  cases h4 : ilt 400 (slen s) with
  | true => rw [h4] at h; exact nomatch h
  | false =>
    rw [h4, cond_false] at h
    cases he : seq s c_empty with
    | true => intro p hp; cases hp
    | false =>
      rw [he, cond_false] at h
      exact pcs_all h
theorem prt_few (s : ByteArray) (hs : s.size ≤ 1048576) : (prt s).length ≤ 3000000 := by
  unfold prt
  cases seq s c_empty
  · exact parts_few s hs
  · exact Nat.zero_le _
/-- What an item has at a route. -/
def atv (v : T_api_Value) (s : ByteArray) : T_api_Value := (nav v (prt s)).getD zro
theorem zro_eta : (⟨0, false, 0, c_empty, [], []⟩ : T_api_Value) = zro := rfl
theorem hasAt_ok (v : T_api_Value) (s : ByteArray) (hv : wt v ≤ 1048576) (hR : Rt v) (hs : s.size ≤ 1048576) (h : rp s = true) : Ev (fun k => mastref2_HasAt.f k v s) (atv v s) := by
  refine Ev.congr (fun k => by simp only [mastref2_HasAt.f, eta]; rfl) (Ev.bind (routeP_ok false s (by omega)) ?_)
  rw [rpS_rp, h, cond_true]
  have g := folR_loop (prt s) (prt_few s hs) (prt_right s h) zro (prt s).length 0 v (by omega) (by omega) hv hR
  rw [List.drop_zero] at g
  refine Ev.bind (f := fun k => mastref2_Follow.f k v (prt s)) (Ev.congr (fun k => by simp only [mastref2_Follow.f]; rfl) g) ?_
  unfold atv
  cases nav v (prt s) with
  | none => exact Ev.now fun _ => rfl
  | some x => exact Ev.now fun _ => rfl
theorem nav_wt : ∀ (P : List ByteArray) (v x : T_api_Value), nav v P = some x → wt x ≤ wt v
  | [], v, x, h => by simp only [nav, Option.some.injEq] at h; rw [h]; exact Nat.le_refl _
  | p :: r, v, x, h => by
    simp only [nav] at h
    cases hs : stepv v p with
    | none => rw [hs] at h; cases h
    | some y =>
      rw [hs] at h
      have h1 := nav_wt r y x h
      have h2 := wt_mem (stepv_in hs)
      rw [wt_eq v]; omega
theorem nav_rt : ∀ (P : List ByteArray) (v x : T_api_Value), Rt v → nav v P = some x → Rt x
  | [], v, x, hR, h => by simp only [nav, Option.some.injEq] at h; rw [← h]; exact hR
  | p :: r, v, x, hR, h => by
    simp only [nav] at h
    cases hs : stepv v p with
    | none => rw [hs] at h; cases h
    | some y =>
      rw [hs] at h
      exact nav_rt r y x ((rt_in hR).2.2.1 y (stepv_in hs)) h
theorem zro_rt : Rt zro := by
  show vf (st zro) = 0
  have e : st zro = zro := by rw [st_eq]; rfl
  rw [e, vf_eq, own_zro]; rfl
theorem zro_wt : wt zro = 1 := by rw [wt_eq]; rfl
theorem atv_wt (v : T_api_Value) (s : ByteArray) (hv : wt v ≤ 1048576) : wt (atv v s) ≤ 1048576 := by
  unfold atv
  cases h : nav v (prt s) with
  | none => show wt zro ≤ 1048576; rw [zro_wt]; omega
  | some x => have := nav_wt _ _ _ h; show wt x ≤ 1048576; omega
theorem atv_rt (v : T_api_Value) (s : ByteArray) (hR : Rt v) : Rt (atv v s) := by
  unfold atv
  cases h : nav v (prt s) with
  | none => exact zro_rt
  | some x => exact nav_rt _ _ _ hR h

/-! As the program goes. -/
def lastm (p : ByteArray) : T_api_Value → List ByteArray → List T_api_Value → T_api_Value
  | x, a :: r, b :: t => bif seq a p then lastm p b r t else lastm p x r t
  | x, _, _ => x
theorem lastm_no (p : ByteArray) : ∀ (r : List ByteArray) (t : List T_api_Value) (x : T_api_Value), (∀ y ∈ r, seq y p = false) → lastm p x r t = x
  | [], _, _, _ => by simp only [lastm]
  | a :: r, [], _, _ => by simp only [lastm]
  | a :: r, b :: t, x, h => by
    simp only [lastm, h a (List.mem_cons_self ..), cond_false]
    exact lastm_no p r t x fun y hy => h y (List.mem_cons_of_mem _ hy)
theorem lastm_fl (p : ByteArray) : ∀ (r : List ByteArray) (t pre : List T_api_Value) (x : T_api_Value), Srt r → r.length = t.length → lastm p x r t = (fl (fun s => seq s p) (fun j => (pre ++ t)[j]?) none pre.length r).getD x
  | [], t, pre, x, _, _ => by simp only [lastm, fl]; rfl
  | a :: r, [], _, _, _, h => by simp at h
  | a :: r, b :: t, pre, x, hs, hl => by
    obtain ⟨h1, h2⟩ := List.pairwise_cons.1 hs
    simp only [lastm, fl]
    cases q : seq a p with
    | true =>
      simp only [cond_true]
      have e : a = p := by rw [seq_d] at q; exact of_decide_eq_true q
      rw [lastm_no p r t b fun y hy => by
        cases z : seq y p with
        | false => rfl
        | true =>
          have e2 : y = p := by rw [seq_d] at z; exact of_decide_eq_true z
          have := h1 y hy
          rw [e, e2, sl_irr] at this; cases this]
      simp
    | false =>
      simp only [cond_false]
      have := lastm_fl p r t (pre ++ [b]) x h2 (by simpa using hl)
      rw [this, List.append_assoc, List.length_append]
      rfl
theorem key_at (p : ByteArray) (v : T_api_Value) (h6 : v.fKind = 6) (hl : v.fKeys.length = v.fItems.length) (hs : Srt v.fKeys) : lastm p zro v.fKeys v.fItems = (lk v p).getD zro := by
  have := lastm_fl p v.fKeys v.fItems [] zro hs hl
  unfold lk
  rw [ieq_t h6, cond_true, this]
  rfl
def navz (v : T_api_Value) : List ByteArray → T_api_Value
  | [] => v
  | p :: r => navz ((stepv v p).getD zro) r
theorem stepv_zro (p : ByteArray) : stepv zro p = none := by
  unfold stepv lk
  cases key p <;> rfl
theorem navz_zro : ∀ P, navz zro P = zro
  | [] => rfl
  | p :: r => by simp only [navz, stepv_zro, Option.getD_none]; exact navz_zro r
theorem navz_nav : ∀ (P : List ByteArray) (v : T_api_Value), navz v P = (nav v P).getD zro
  | [], _ => rfl
  | p :: r, v => by
    simp only [navz, nav]
    cases stepv v p with
    | none => exact navz_zro r
    | some x => exact navz_nav r x
theorem keys_at (v : T_api_Value) (hv : wt v ≤ 1048576) (hl : v.fKeys.length = v.fItems.length) (z : T_api_Value) (q : T_list_step) (steps : List T_list_step) (i : Int) (X : T_api_Value)
    (hX : Ev (fun k => list_at.l0 k (lastm q.fkey zro v.fKeys v.fItems).fKind (lastm q.fkey zro v.fKeys v.fItems).fBool (lastm q.fkey zro v.fKeys v.fItems).fInt (lastm q.fkey zro v.fKeys v.fItems).fText (lastm q.fkey zro v.fKeys v.fItems).fItems (lastm q.fkey zro v.fKeys v.fItems).fKeys z.fKind z.fBool z.fInt z.fText z.fItems z.fKeys steps (llen steps) (wadd .i64 i 1)) X) : ∀ (d j : Nat) (x : T_api_Value), v.fKeys.length - j ≤ d → j ≤ v.fKeys.length → lastm q.fkey x (v.fKeys.drop j) (v.fItems.drop j) = lastm q.fkey zro v.fKeys v.fItems →
    Ev (fun k => list_at.l1 k v.fKind v.fBool v.fInt v.fText v.fItems v.fKeys z.fKind z.fBool z.fInt z.fText z.fItems z.fKeys q.fkey q.fnumber x.fKind x.fBool x.fInt x.fText x.fItems x.fKeys steps (llen steps) i v.fKeys (llen v.fKeys) (j : Int)) X := by
  rw [wt_eq] at hv
  have hkl := klen_le v.fKeys
  intro d
  have last : ∀ (j : Nat) (x : T_api_Value), v.fKeys.length ≤ j → lastm q.fkey x (v.fKeys.drop j) (v.fItems.drop j) = lastm q.fkey zro v.fKeys v.fItems → Ev (fun k => list_at.l1 k v.fKind v.fBool v.fInt v.fText v.fItems v.fKeys z.fKind z.fBool z.fInt z.fText z.fItems z.fKeys q.fkey q.fnumber x.fKind x.fBool x.fInt x.fText x.fItems x.fKeys steps (llen steps) i v.fKeys (llen v.fKeys) (j : Int)) X := fun j x hj hx => by
    rw [List.drop_eq_nil_of_le hj] at hx
    have hx : x = lastm q.fkey zro v.fKeys v.fItems := by rw [← hx]; simp only [lastm]
    rw [hx]
    refine Ev.step (fun k => ?_) hX
    simp only [list_at.l1, llen_eq, ilt_f (show (v.fKeys.length : Int) ≤ (j : Int) by omega), cond_false]
  induction d with
  | zero => intro j x hd hj hx; exact last j x (by omega) hx
  | succ d ih =>
    intro j x hd hj hx
    rcases Nat.lt_or_ge j v.fKeys.length with hlt | hge
    · have hlt2 : j < v.fItems.length := by omega
      rw [List.drop_eq_getElem_cons hlt, List.drop_eq_getElem_cons hlt2] at hx
      simp only [lastm] at hx
      cases hq : seq v.fKeys[j] q.fkey with
      | true =>
        rw [hq, cond_true] at hx
        refine Ev.step (fun k => ?_) (ih (j + 1) v.fItems[j] (by omega) hlt hx)
        simp only [list_at.l1, llen_eq, Go.Proofs.YtmbjiadilfbooaaGreatDoor.Lift.ilen _ _ hlt, cond_true, lat_lt hlt, Option.bind_some, hq, lat_lt hlt2, u0 (show j ≤ 4611686018427387904 by omega)]
      | false =>
        rw [hq, cond_false] at hx
        refine Ev.step (fun k => ?_) (ih (j + 1) x (by omega) hlt hx)
        simp only [list_at.l1, llen_eq, Go.Proofs.YtmbjiadilfbooaaGreatDoor.Lift.ilen _ _ hlt, cond_true, lat_lt hlt, Option.bind_some, hq, cond_false, u0 (show j ≤ 4611686018427387904 by omega)]
    · exact last j x hge hx
theorem at_loop (P : List ByteArray) (hP : P.length ≤ 3000000) (hok : ∀ p ∈ P, pkS false p.data.toList = true) (z : T_api_Value) : ∀ (d j : Nat) (v : T_api_Value), P.length - j ≤ d → j ≤ P.length → wt v ≤ 1048576 → Rt v →
    Ev (fun k => list_at.l0 k v.fKind v.fBool v.fInt v.fText v.fItems v.fKeys z.fKind z.fBool z.fInt z.fText z.fItems z.fKeys (P.map fun p => stpL p.data.toList) (llen (P.map fun p => stpL p.data.toList)) (j : Int)) (navz v (P.drop j)) := by
  have hml : (P.map fun p => stpL p.data.toList).length = P.length := List.length_map _
  intro d
  have last : ∀ (j : Nat) (v : T_api_Value), P.length ≤ j → Ev (fun k => list_at.l0 k v.fKind v.fBool v.fInt v.fText v.fItems v.fKeys z.fKind z.fBool z.fInt z.fText z.fItems z.fKeys (P.map fun p => stpL p.data.toList) (llen (P.map fun p => stpL p.data.toList)) (j : Int)) (navz v (P.drop j)) := fun j v hj => by
    rw [List.drop_eq_nil_of_le hj]
    refine Ev.step (g := fun _ => some v) (fun k => ?_) (Ev.now fun _ => rfl)
    simp only [list_at.l0, llen_eq, hml, ilt_f (show (P.length : Int) ≤ (j : Int) by omega), cond_false, eta]
  induction d with
  | zero => intro j v hd hj hv h0; exact last j v (by omega)
  | succ d ih =>
    intro j v hd hj hv h0
    rcases Nat.lt_or_ge j P.length with hlt | hge
    · rw [List.drop_eq_getElem_cons hlt]
      simp only [navz]
      have hp := hok _ (List.getElem_mem hlt)
      have hm : lat (P.map fun p => stpL p.data.toList) (j : Int) = some (stpL P[j].data.toList) := by rw [lat_lt (by omega), List.getElem_map]
      have hb : ilt (j : Int) (llen (P.map fun p => stpL p.data.toList)) = true := by rw [llen_eq, hml]; exact ilt_t (by omega)
      have hw : wadd .i64 (j : Int) 1 = ((j + 1 : Nat) : Int) := u0 (by omega)
      obtain ⟨hlen, hsrt, hin, _⟩ := rt_in h0
      have hwx : ∀ x ∈ v.fItems, wt x ≤ 1048576 := fun x hx => by have := wt_mem hx; rw [wt_eq] at hv; omega
      have zn := ih (j + 1) zro (by omega) hlt (by rw [zro_wt]; omega) zro_rt
      cases hk : key P[j] with
      | true =>
        have es : stpL P[j].data.toList = T_list_step.mk P[j] 0 := by unfold stpL; rw [show keyL P[j].data.toList = key P[j] from rfl, hk]; rfl
        have hne : seq P[j] c_empty = false := by
          rw [seq_empty]
          cases hb : P[j].data.toList with
          | nil => unfold key at hk; rw [hb] at hk; exact nomatch hk
          | cons _ _ => rfl
        have hst : stepv v P[j] = lk v P[j] := by unfold stepv; rw [hk]; rfl
        rw [hst]
        cases h6 : ieq v.fKind 6 with
        | false =>
          have : lk v P[j] = none := by unfold lk; rw [h6]; rfl
          rw [this]
          refine Ev.step (fun k => ?_) zn
          simp only [list_at.l0, hb, cond_true, hm, es, Option.bind_some, hne, Bool.not_false, h6, cond_false, hw]
          rfl
        | true =>
          have h66 : v.fKind = 6 := by rw [ieq_d] at h6; exact of_decide_eq_true h6
          have hka := key_at P[j] v h66 (hlen h66) hsrt
          have hR : Rt ((lk v P[j]).getD zro) ∧ wt ((lk v P[j]).getD zro) ≤ 1048576 := by
            cases hz : lk v P[j] with
            | none => exact ⟨zro_rt, by show wt zro ≤ _; rw [zro_wt]; omega⟩
            | some x => have hx := stepv_in (hst.trans hz); exact ⟨hin x hx, hwx x hx⟩
          have nx := ih (j + 1) ((lk v P[j]).getD zro) (by omega) hlt hR.2 hR.1
          rw [← hka] at nx ⊢
          have := keys_at v hv (hlen h66) z (T_list_step.mk P[j] 0) _ (j : Int) _ (by rw [hw]; exact nx) v.fKeys.length 0 zro (by omega) (by omega) (by rw [List.drop_zero, List.drop_zero])
          refine Ev.step (fun k => ?_) this
          simp only [list_at.l0, hb, cond_true, hm, es, Option.bind_some, hne, Bool.not_false, h6]
          rfl
      | false =>
        have hdg : dg P[j].data.toList = true := by
          unfold pkS at hp
          rw [show keyL P[j].data.toList = key P[j] from rfl, hk] at hp
          simpa using hp
        obtain ⟨n, hn, hh⟩ := atoi_hors hdg
        have hnum : num P[j] = n := by unfold num; rw [hn]; rfl
        have es : stpL P[j].data.toList = T_list_step.mk c_empty (n : Int) := by unfold stpL; rw [show keyL P[j].data.toList = key P[j] from rfl, hk, hh]; rfl
        have hst : stepv v P[j] = bif ieq v.fKind 5 then v.fItems[n]? else none := by unfold stepv; rw [hk, hnum]; rfl
        rw [hst]
        cases h5 : ieq v.fKind 5 with
        | false =>
          refine Ev.step (fun k => ?_) zn
          simp only [list_at.l0, hb, cond_true, hm, es, Option.bind_some, seq_self, Bool.not_true, cond_false, h5, hw]
          rfl
        | true =>
          by_cases hi : n < v.fItems.length
          · have nx := ih (j + 1) v.fItems[n] (by omega) hlt (hwx _ (List.getElem_mem hi)) (hin _ (List.getElem_mem hi))
            rw [cond_true, List.getElem?_eq_getElem hi, Option.getD_some]
            have hn' : ilt (n : Int) (llen v.fItems) = true := by rw [llen_eq]; exact ilt_t (by omega)
            refine Ev.step (fun k => ?_) nx
            simp only [list_at.l0, hb, cond_true, hm, es, Option.bind_some, seq_self, Bool.not_true, cond_false, h5, hn', lat_lt hi, hw]
          · rw [cond_true, List.getElem?_eq_none (by omega), Option.getD_none]
            have hn' : ilt (n : Int) (llen v.fItems) = false := by rw [llen_eq]; exact ilt_f (by omega)
            refine Ev.step (fun k => ?_) zn
            simp only [list_at.l0, hb, cond_true, hm, es, Option.bind_some, seq_self, Bool.not_true, cond_false, h5, hn', hw]
            rfl
    · exact last j v hge
theorem lstps_map (s : ByteArray) : lstps s = (prt s).map fun p => stpL p.data.toList := by
  unfold lstps prt
  cases seq s c_empty with
  | true => rfl
  | false =>
    show (pcs 46 s.data.toList).map stpL = _
    rw [← parts_pcs, List.map_map]; rfl
theorem at_ok (v : T_api_Value) (s : ByteArray) (hv : wt v ≤ 1048576) (hR : Rt v) (hs : s.size ≤ 1048576) (h : rp s = true) : Ev (fun k => list_at.f k v (lstps s)) (atv v s) := by
  have g := at_loop (prt s) (prt_few s hs) (prt_right s h) zro (prt s).length 0 v (by omega) (by omega) hv hR
  rw [List.drop_zero, navz_nav, ← lstps_map] at g
  exact Ev.congr (fun k => by simp only [list_at.f]; rfl) g

/-! The program's order. -/
theorem sign_ok (a b : Int) : conf_sign.f a b = some (sg3 a b) := by
  unfold conf_sign.f sg3
  cases ilt a b <;> cases ilt b a <;> rfl
def fnz : List Int → Int → Int
  | [], X => X
  | c :: r, X => bif !ieq c 0 then c else fnz r X
theorem cl2 (a b : T_api_Value) (ha : wt a ≤ 2000000) (hb : wt b ≤ 2000000) (ih : ∀ x ∈ a.fItems, ∀ y, wt y ≤ 2000000 → Ev (fun k => conf_Compare.f k x y) (cmpv x y)) : ∀ (d j : Nat), a.fItems.length - j ≤ d → j ≤ a.fItems.length → j ≤ b.fItems.length →
    Ev (fun k => conf_Compare.l2 k a.fKind a.fBool a.fInt a.fText a.fItems a.fKeys b.fKind b.fBool b.fInt b.fText b.fItems b.fKeys (j : Int)) (cmpl (a.fItems.drop j) (b.fItems.drop j)) := by
  rw [wt_eq] at ha hb
  have hla := len_le a.fItems
  have hlb := len_le b.fItems
  have fin : ∀ (j : Nat), (a.fItems.length ≤ j ∨ b.fItems.length ≤ j) → Ev (fun k => conf_Compare.l2 k a.fKind a.fBool a.fInt a.fText a.fItems a.fKeys b.fKind b.fBool b.fInt b.fText b.fItems b.fKeys (j : Int)) (sg3 (llen a.fItems) (llen b.fItems)) := fun j h => by
    refine Ev.step (g := fun _ => some (sg3 (llen a.fItems) (llen b.fItems))) (fun k => ?_) (Ev.now fun _ => rfl)
    have : (bif ilt (j : Int) (llen a.fItems) then ilt (j : Int) (llen b.fItems) else false) = false := by
      rcases h with h | h
      · rw [llen_eq, ilt_f (show (a.fItems.length : Int) ≤ (j : Int) by omega)]; rfl
      · rw [llen_eq, llen_eq, ilt_f (show (b.fItems.length : Int) ≤ (j : Int) by omega)]; cases ilt (j : Int) (a.fItems.length : Int) <;> rfl
    simp only [conf_Compare.l2, this, cond_false, sign_ok, Option.bind_some]
  intro d
  induction d with
  | zero =>
    intro j hd h1 h2
    have := fin j (.inl (by omega))
    rw [List.drop_eq_nil_of_le (show a.fItems.length ≤ j by omega)]
    rcases Nat.lt_or_ge j b.fItems.length with q | q
    · rw [List.drop_eq_getElem_cons q]
      unfold sg3 at this
      rw [llen_eq, llen_eq, ilt_t (show (a.fItems.length : Int) < (b.fItems.length : Int) by omega)] at this
      exact this
    · rw [List.drop_eq_nil_of_le q]
      unfold sg3 at this
      rw [llen_eq, llen_eq, ilt_f (show (b.fItems.length : Int) ≤ (a.fItems.length : Int) by omega), ilt_f (show (a.fItems.length : Int) ≤ (b.fItems.length : Int) by omega)] at this
      exact this
  | succ d hi =>
    intro j hd h1 h2
    rcases Nat.lt_or_ge j a.fItems.length with hlt | hge
    · rcases Nat.lt_or_ge j b.fItems.length with q | q
      · rw [List.drop_eq_getElem_cons hlt, List.drop_eq_getElem_cons q]
        have hy : wt b.fItems[j] ≤ 2000000 := by have := wt_mem (List.getElem_mem q); omega
        have c := ih _ (List.getElem_mem hlt) b.fItems[j] hy
        refine Ev.step (fun k => by simp only [conf_Compare.l2, llen_eq, Go.Proofs.YtmbjiadilfbooaaGreatDoor.Lift.ilen _ _ hlt, Go.Proofs.YtmbjiadilfbooaaGreatDoor.Lift.ilen _ _ q, cond_true, lat_lt hlt, lat_lt q, Option.bind_some]; rfl) (Ev.bind c ?_)
        simp only [cmpl]
        cases ieq (cmpv a.fItems[j] b.fItems[j]) 0 with
        | false => exact Ev.now fun _ => rfl
        | true =>
          have := hi (j + 1) (by omega) hlt q
          simp only [Bool.not_true, cond_false, u0 (show j ≤ 4611686018427387904 by omega)]
          exact this
      · have := fin j (.inr q)
        rw [List.drop_eq_getElem_cons hlt, List.drop_eq_nil_of_le q]
        unfold sg3 at this
        rw [llen_eq, llen_eq, ilt_f (show (b.fItems.length : Int) ≤ (a.fItems.length : Int) by omega), ilt_t (show (b.fItems.length : Int) < (a.fItems.length : Int) by omega)] at this
        exact this
    · have := fin j (.inl hge)
      rw [List.drop_eq_nil_of_le hge]
      rcases Nat.lt_or_ge j b.fItems.length with q | q
      · rw [List.drop_eq_getElem_cons q]
        unfold sg3 at this
        rw [llen_eq, llen_eq, ilt_t (show (a.fItems.length : Int) < (b.fItems.length : Int) by omega)] at this
        exact this
      · rw [List.drop_eq_nil_of_le q]
        unfold sg3 at this
        rw [llen_eq, llen_eq, ilt_f (show (b.fItems.length : Int) ≤ (a.fItems.length : Int) by omega), ilt_f (show (a.fItems.length : Int) ≤ (b.fItems.length : Int) by omega)] at this
        exact this
theorem cl1 (a b : T_api_Value) (ha : wt a ≤ 2000000) (hb : wt b ≤ 2000000) (X : Int) (hX : Ev (fun k => conf_Compare.l2 k a.fKind a.fBool a.fInt a.fText a.fItems a.fKeys b.fKind b.fBool b.fInt b.fText b.fItems b.fKeys 0) X) : ∀ (d j : Nat), a.fKeys.length - j ≤ d → j ≤ a.fKeys.length → j ≤ b.fKeys.length →
    Ev (fun k => conf_Compare.l1 k a.fKind a.fBool a.fInt a.fText a.fItems a.fKeys b.fKind b.fBool b.fInt b.fText b.fItems b.fKeys (j : Int)) (bif !ieq (cks (a.fKeys.drop j) (b.fKeys.drop j)) 0 then cks (a.fKeys.drop j) (b.fKeys.drop j) else X) := by
  rw [wt_eq] at ha hb
  have hka := klen_le a.fKeys
  have hkb := klen_le b.fKeys
  have fin : ∀ (j : Nat), (a.fKeys.length ≤ j ∨ b.fKeys.length ≤ j) → Ev (fun k => conf_Compare.l1 k a.fKind a.fBool a.fInt a.fText a.fItems a.fKeys b.fKind b.fBool b.fInt b.fText b.fItems b.fKeys (j : Int)) (bif !ieq (sg3 (llen a.fKeys) (llen b.fKeys)) 0 then sg3 (llen a.fKeys) (llen b.fKeys) else X) := fun j h => by
    have : (bif ilt (j : Int) (llen a.fKeys) then ilt (j : Int) (llen b.fKeys) else false) = false := by
      rcases h with h | h
      · rw [llen_eq, ilt_f (show (a.fKeys.length : Int) ≤ (j : Int) by omega)]; rfl
      · rw [llen_eq, llen_eq, ilt_f (show (b.fKeys.length : Int) ≤ (j : Int) by omega)]; cases ilt (j : Int) (a.fKeys.length : Int) <;> rfl
    have st : ∀ k, conf_Compare.l1 (k + 1) a.fKind a.fBool a.fInt a.fText a.fItems a.fKeys b.fKind b.fBool b.fInt b.fText b.fItems b.fKeys (j : Int) = bif !ieq (sg3 (llen a.fKeys) (llen b.fKeys)) 0 then some (sg3 (llen a.fKeys) (llen b.fKeys)) else conf_Compare.l2 k a.fKind a.fBool a.fInt a.fText a.fItems a.fKeys b.fKind b.fBool b.fInt b.fText b.fItems b.fKeys 0 := fun k => by
      simp only [conf_Compare.l1, this, cond_false, sign_ok, Option.bind_some]
    cases q : !ieq (sg3 (llen a.fKeys) (llen b.fKeys)) 0 with
    | true => exact Ev.step (g := fun _ => some (sg3 (llen a.fKeys) (llen b.fKeys))) (fun k => by rw [st, q]; rfl) (Ev.now fun _ => rfl)
    | false => exact Ev.step (fun k => by rw [st, q]; rfl) hX
  have tail : ∀ j, j ≤ a.fKeys.length → j ≤ b.fKeys.length → (a.fKeys.length ≤ j ∨ b.fKeys.length ≤ j) → cks (a.fKeys.drop j) (b.fKeys.drop j) = sg3 (llen a.fKeys) (llen b.fKeys) := fun j h1 h2 h => by
    unfold sg3
    rw [llen_eq, llen_eq]
    rcases Nat.lt_or_ge j a.fKeys.length with q1 | q1
    · rw [List.drop_eq_getElem_cons q1, List.drop_eq_nil_of_le (show b.fKeys.length ≤ j by omega), ilt_f (show (b.fKeys.length : Int) ≤ (a.fKeys.length : Int) by omega), ilt_t (show (b.fKeys.length : Int) < (a.fKeys.length : Int) by omega)]
      rfl
    · rw [List.drop_eq_nil_of_le q1]
      rcases Nat.lt_or_ge j b.fKeys.length with q2 | q2
      · rw [List.drop_eq_getElem_cons q2, ilt_t (show (a.fKeys.length : Int) < (b.fKeys.length : Int) by omega)]
        rfl
      · rw [List.drop_eq_nil_of_le q2, ilt_f (show (b.fKeys.length : Int) ≤ (a.fKeys.length : Int) by omega), ilt_f (show (a.fKeys.length : Int) ≤ (b.fKeys.length : Int) by omega)]
        rfl
  intro d
  induction d with
  | zero =>
    intro j hd h1 h2
    rw [tail j h1 h2 (.inl (by omega))]
    exact fin j (.inl (by omega))
  | succ d hi =>
    intro j hd h1 h2
    rcases Nat.lt_or_ge j a.fKeys.length with hlt | hge
    · rcases Nat.lt_or_ge j b.fKeys.length with q | q
      · have nx := hi (j + 1) (by omega) hlt q
        rw [List.drop_eq_getElem_cons hlt, List.drop_eq_getElem_cons q]
        have hs : strings_Compare.f a.fKeys[j] b.fKeys[j] = some (scm a.fKeys[j] b.fKeys[j]) := rfl
        have st : ∀ k, conf_Compare.l1 (k + 1) a.fKind a.fBool a.fInt a.fText a.fItems a.fKeys b.fKind b.fBool b.fInt b.fText b.fItems b.fKeys (j : Int) = bif !ieq (scm a.fKeys[j] b.fKeys[j]) 0 then some (scm a.fKeys[j] b.fKeys[j]) else conf_Compare.l1 k a.fKind a.fBool a.fInt a.fText a.fItems a.fKeys b.fKind b.fBool b.fInt b.fText b.fItems b.fKeys ((j + 1 : Nat) : Int) := fun k => by
          simp only [conf_Compare.l1, llen_eq, Go.Proofs.YtmbjiadilfbooaaGreatDoor.Lift.ilen _ _ hlt, Go.Proofs.YtmbjiadilfbooaaGreatDoor.Lift.ilen _ _ q, cond_true, lat_lt hlt, lat_lt q, Option.bind_some, hs, u0 (show j ≤ 4611686018427387904 by omega)]
        simp only [cks]
        cases z : !ieq (scm a.fKeys[j] b.fKeys[j]) 0 with
        | true =>
          simp only [cond_true, z]
          exact Ev.step (g := fun _ => some (scm a.fKeys[j] b.fKeys[j])) (fun k => by rw [st, z]; rfl) (Ev.now fun _ => rfl)
        | false =>
          simp only [cond_false]
          exact Ev.step (fun k => by rw [st, z]; rfl) nx
      · rw [tail j h1 h2 (.inr q)]
        exact fin j (.inr q)
    · rw [tail j h1 h2 (.inl hge)]
      exact fin j (.inl hge)
theorem cl0 (a b : T_api_Value) (X : Int) (hX : Ev (fun k => conf_Compare.l1 k a.fKind a.fBool a.fInt a.fText a.fItems a.fKeys b.fKind b.fBool b.fInt b.fText b.fItems b.fKeys 0) X) (l : List Int) (hl : l.length ≤ 100) : ∀ (d j : Nat), l.length - j ≤ d → j ≤ l.length →
    Ev (fun k => conf_Compare.l0 k a.fKind a.fBool a.fInt a.fText a.fItems a.fKeys b.fKind b.fBool b.fInt b.fText b.fItems b.fKeys l (llen l) (j : Int)) (fnz (l.drop j) X) := by
  intro d
  have last : ∀ j : Nat, l.length ≤ j → Ev (fun k => conf_Compare.l0 k a.fKind a.fBool a.fInt a.fText a.fItems a.fKeys b.fKind b.fBool b.fInt b.fText b.fItems b.fKeys l (llen l) (j : Int)) (fnz (l.drop j) X) := fun j hj => by
    rw [List.drop_eq_nil_of_le hj]
    refine Ev.step (fun k => ?_) hX
    simp only [conf_Compare.l0, llen_eq, ilt_f (show (l.length : Int) ≤ (j : Int) by omega), cond_false]
  induction d with
  | zero => intro j hd hj; exact last j (by omega)
  | succ d ih =>
    intro j hd hj
    rcases Nat.lt_or_ge j l.length with hlt | hge
    · rw [List.drop_eq_getElem_cons hlt]
      have st : ∀ k, conf_Compare.l0 (k + 1) a.fKind a.fBool a.fInt a.fText a.fItems a.fKeys b.fKind b.fBool b.fInt b.fText b.fItems b.fKeys l (llen l) (j : Int) = bif !ieq l[j] 0 then some l[j] else conf_Compare.l0 k a.fKind a.fBool a.fInt a.fText a.fItems a.fKeys b.fKind b.fBool b.fInt b.fText b.fItems b.fKeys l (llen l) ((j + 1 : Nat) : Int) := fun k => by
        simp only [conf_Compare.l0, llen_eq, Go.Proofs.YtmbjiadilfbooaaGreatDoor.Lift.ilen _ _ hlt, cond_true, lat_lt hlt, Option.bind_some, u0 (show j ≤ 4611686018427387904 by omega)]
      simp only [fnz]
      cases z : !ieq l[j] 0 with
      | true => exact Ev.step (g := fun _ => some l[j]) (fun k => by rw [st, z]; rfl) (Ev.now fun _ => rfl)
      | false => exact Ev.step (fun k => by rw [st, z]; rfl) (ih (j + 1) (by omega) hlt)
    · exact last j hge
theorem cmpL_ok : ∀ a, wt a ≤ 2000000 → ∀ b, wt b ≤ 2000000 → Ev (fun k => conf_Compare.f k a b) (cmpv a b) := tree fun a ih ha b hb => by
  have e2 := cl2 a b ha hb (fun x hx y hy => ih x hx (by have := wt_mem hx; rw [wt_eq] at ha; omega) y hy) a.fItems.length 0 (by omega) (by omega) (by omega)
  rw [List.drop_zero, List.drop_zero] at e2
  have e1 := cl1 a b ha hb _ e2 a.fKeys.length 0 (by omega) (by omega) (by omega)
  rw [List.drop_zero, List.drop_zero] at e1
  have e0 := cl0 a b _ e1 [sg3 a.fKind b.fKind, sg3 (bif a.fBool then 1 else 0) (bif b.fBool then 1 else 0), sg3 a.fInt b.fInt, scm a.fText b.fText] (by simp) 4 0 (by simp) (by simp)
  rw [List.drop_zero] at e0
  have hbit : ∀ b, conf_bit.f b = some (bif b then 1 else 0) := fun b => by cases b <;> rfl
  have hs : strings_Compare.f a.fText b.fText = some (scm a.fText b.fText) := rfl
  have hv : fnz [sg3 a.fKind b.fKind, sg3 (bif a.fBool then 1 else 0) (bif b.fBool then 1 else 0), sg3 a.fInt b.fInt, scm a.fText b.fText] (bif !ieq (cks a.fKeys b.fKeys) 0 then cks a.fKeys b.fKeys else cmpl a.fItems b.fItems) = cmpv a b := by
    rw [cmpv_eq]
    unfold own2 or3
    simp only [fnz]
    cases h1 : !ieq (sg3 a.fKind b.fKind) 0 with
    | true => simp [h1]
    | false =>
      simp only [cond_false]
      have hb1 : sg3 1 0 = 1 := rfl
      have hb2 : sg3 0 1 = -1 := rfl
      have hb3 : sg3 1 1 = 0 := rfl
      have hb4 : sg3 0 0 = 0 := rfl
      have n1 : ieq 1 0 = false := rfl
      have n2 : ieq (-1) 0 = false := rfl
      have n3 : ieq 0 0 = true := rfl
      have key : (bif !ieq (sg3 a.fInt b.fInt) 0 then sg3 a.fInt b.fInt else bif !ieq (scm a.fText b.fText) 0 then scm a.fText b.fText else bif !ieq (cks a.fKeys b.fKeys) 0 then cks a.fKeys b.fKeys else cmpl a.fItems b.fItems) = bif !ieq (bif !ieq (sg3 a.fInt b.fInt) 0 then sg3 a.fInt b.fInt else bif !ieq (scm a.fText b.fText) 0 then scm a.fText b.fText else bif !ieq (cks a.fKeys b.fKeys) 0 then cks a.fKeys b.fKeys else 0) 0 then (bif !ieq (sg3 a.fInt b.fInt) 0 then sg3 a.fInt b.fInt else bif !ieq (scm a.fText b.fText) 0 then scm a.fText b.fText else bif !ieq (cks a.fKeys b.fKeys) 0 then cks a.fKeys b.fKeys else 0) else cmpl a.fItems b.fItems := by
        cases z1 : !ieq (sg3 a.fInt b.fInt) 0 with
        | true => simp [z1]
        | false =>
          simp only [cond_false]
          cases z2 : !ieq (scm a.fText b.fText) 0 with
          | true => simp [z2]
          | false =>
            simp only [cond_false]
            cases z3 : !ieq (cks a.fKeys b.fKeys) 0 with
            | true => simp [z3]
            | false => simp [n3]
      cases a.fBool <;> cases b.fBool <;> simp only [hb1, hb2, hb3, hb4, n1, n2, n3, cond_true, cond_false, Bool.not_true, Bool.not_false, beq_self_eq_true, show (true == false) = false from rfl, show (false == true) = false from rfl] <;> first | rfl | exact key
  rw [hv] at e0
  refine Ev.step (fun k => ?_) e0
  simp only [conf_Compare.f, sign_ok, hbit, hs, Option.bind_some]
  rfl

/-! Equal values. -/
theorem sg3_eq {a b : Int} (h : sg3 a b = 0) : a = b := by
  have := sg3_zero a b
  rw [h] at this
  rw [ieq_d a b] at this
  exact of_decide_eq_true this.symm
theorem cb_eq : ∀ (a b : List UInt8), Lib.compareBytes a b = 0 → a = b
  | [], [], _ => rfl
  | [], _ :: _, h => by simp [Lib.compareBytes] at h
  | _ :: _, [], h => by simp [Lib.compareBytes] at h
  | x :: a, y :: b, h => by
    simp only [Lib.compareBytes] at h
    split at h
    · simp at h
    · split at h
      · simp at h
      · rename_i h1 h2
        have e : x = y := by
          rcases Nat.lt_trichotomy x.toNat y.toNat with q | q | q
          · exact absurd (UInt8.lt_iff_toNat_lt.2 q) h1
          · exact UInt8.toNat_inj.1 q
          · exact absurd (UInt8.lt_iff_toNat_lt.2 q) h2
        rw [e, cb_eq a b h]
theorem scm_eq {a b : ByteArray} (h : scm a b = 0) : a = b := by
  have := cb_eq _ _ h
  cases a; cases b
  simp only at this
  congr 1
  exact Array.toList_inj.1 this
theorem nz {a : Int} (h : (!ieq a 0) = false) : a = 0 := by
  rw [ieq_d] at h
  have : decide (a = 0) = true := by simpa using h
  exact of_decide_eq_true this
theorem cks_eq : ∀ (a b : List ByteArray), cks a b = 0 → a = b
  | [], [], _ => rfl
  | [], _ :: _, h => by simp [cks] at h
  | _ :: _, [], h => by simp [cks] at h
  | x :: a, y :: b, h => by
    simp only [cks] at h
    cases q : !ieq (scm x y) 0 with
    | true =>
      rw [q, cond_true] at h
      rw [h] at q; exact nomatch q
    | false =>
      rw [q, cond_false] at h
      rw [scm_eq (nz q), cks_eq a b h]
theorem own2_eq {a b : T_api_Value} (h : own2 a b = 0) : a.fKind = b.fKind ∧ a.fBool = b.fBool ∧ a.fInt = b.fInt ∧ a.fText = b.fText ∧ a.fKeys = b.fKeys := by
  unfold own2 or3 at h
  cases h1 : !ieq (sg3 a.fKind b.fKind) 0 with
  | true => rw [h1, cond_true] at h; rw [h] at h1; exact nomatch h1
  | false =>
    rw [h1, cond_false] at h
    cases h2 : !(a.fBool == b.fBool) with
    | true => rw [h2, cond_true] at h; cases q : b.fBool <;> rw [q] at h <;> simp at h
    | false =>
      rw [h2, cond_false] at h
      have e2 : a.fBool = b.fBool := by
        cases q : a.fBool == b.fBool with
        | false => rw [q] at h2; exact nomatch h2
        | true => exact eq_of_beq q
      cases h3 : !ieq (sg3 a.fInt b.fInt) 0 with
      | true => rw [h3, cond_true] at h; rw [h] at h3; exact nomatch h3
      | false =>
        rw [h3, cond_false] at h
        cases h4 : !ieq (scm a.fText b.fText) 0 with
        | true => rw [h4, cond_true] at h; rw [h] at h4; exact nomatch h4
        | false =>
          rw [h4, cond_false] at h
          cases h5 : !ieq (cks a.fKeys b.fKeys) 0 with
          | true => rw [h5, cond_true] at h; rw [h] at h5; exact nomatch h5
          | false => exact ⟨sg3_eq (nz h1), e2, sg3_eq (nz h3), scm_eq (nz h4), cks_eq _ _ (nz h5)⟩
theorem cmpl_eq (ih : List T_api_Value) : (∀ x ∈ ih, ∀ y, cmpv x y = 0 → x = y) → ∀ m, cmpl ih m = 0 → ih = m := by
  induction ih with
  | nil =>
    intro _ m h
    cases m with
    | nil => rfl
    | cons _ _ => simp [cmpl] at h
  | cons a r hr =>
    intro hx m h
    cases m with
    | nil => simp [cmpl] at h
    | cons b t =>
      simp only [cmpl] at h
      cases q : !ieq (cmpv a b) 0 with
      | true => rw [q, cond_true] at h; rw [h] at q; exact nomatch q
      | false =>
        rw [q, cond_false] at h
        rw [hx a (List.mem_cons_self ..) b (nz q), hr (fun x hm => hx x (List.mem_cons_of_mem _ hm)) t h]
theorem cmpv_zero : ∀ a, ∀ b, cmpv a b = 0 → a = b := tree fun a ih b h => by
  rw [cmpv_eq] at h
  cases q : !ieq (own2 a b) 0 with
  | true => rw [q, cond_true] at h; rw [h] at q; exact nomatch q
  | false =>
    rw [q, cond_false] at h
    obtain ⟨h1, h2, h3, h4, h5⟩ := own2_eq (nz q)
    have h6 := cmpl_eq a.fItems ih b.fItems h
    rw [← eta a, ← eta b, h1, h2, h3, h4, h5, h6]
theorem same_sym (a b : T_api_Value) : ieq (cmpv a b) 0 = ieq (cmpv b a) 0 := by
  by_cases h : a = b
  · rw [h]
  · rw [ieq_f fun e => h (cmpv_zero _ _ e), ieq_f fun e => h (cmpv_zero _ _ e).symm]

/-! A list, and a route. -/
def lfs : List T_api_Value → Int
  | [] => 0
  | a :: r => bif !ieq (chk2 a) 0 then chk2 a else lfs r
def lf (l : List T_api_Value) : Int := bif ilt 2000 (llen l) then 4 else lfs l
def rf (l : List T_api_Value) (s : ByteArray) : Int := bif !ieq (lf l) 0 then lf l else bif rp s then 0 else 3

theorem lfL_ok (l : List T_api_Value) (hl : wts l ≤ 1048576) : Ev (fun k => list_listFault.f k l) (lf l) := by
  have hlen := len_le l
  have : ∀ (d j : Nat), l.length - j ≤ d → j ≤ l.length → Ev (fun k => list_listFault.l0 k l (llen l) (j : Int)) (lfs (l.drop j)) := by
    intro d
    have last : ∀ j : Nat, l.length ≤ j → Ev (fun k => list_listFault.l0 k l (llen l) (j : Int)) (lfs (l.drop j)) := fun j hj => by
      rw [List.drop_eq_nil_of_le hj]
      refine Ev.step (g := fun _ => some 0) (fun k => ?_) (Ev.now fun _ => rfl)
      simp only [list_listFault.l0, llen_eq, ilt_f (show (l.length : Int) ≤ (j : Int) by omega), cond_false]
    induction d with
    | zero => intro j hd hj; exact last j (by omega)
    | succ d ih =>
      intro j hd hj
      rcases Nat.lt_or_ge j l.length with hlt | hge
      · rw [List.drop_eq_getElem_cons hlt]
        have a := item_ok l[j] (by have := wt_mem (List.getElem_mem hlt); omega)
        have nx := ih (j + 1) (by omega) hlt
        refine Ev.step (fun k => by simp only [list_listFault.l0, llen_eq, Go.Proofs.YtmbjiadilfbooaaGreatDoor.Lift.ilen _ _ hlt, cond_true, lat_lt hlt, Option.bind_some, eta]; rfl) (Ev.bind a ?_)
        simp only [lfs]
        cases !ieq (chk2 l[j]) 0 with
        | true => exact Ev.now fun _ => rfl
        | false =>
          simp only [cond_false, u0 (show j ≤ 4611686018427387904 by omega)]
          exact nx
      · exact last j hge
  have := this l.length 0 (by omega) (by omega)
  rw [List.drop_zero] at this
  unfold lf
  cases q : ilt 2000 (llen l) with
  | true => exact Ev.now fun k => by simp only [list_listFault.f, q, cond_true]
  | false => exact Ev.congr (fun k => by simp only [list_listFault.f, q, cond_false]; rfl) this

theorem lfR_ok (l : List T_api_Value) (hl : wts l ≤ 1048576) : Ev (fun k => mastref2_ListFault.f k l) (lf l) := by
  have hlen := len_le l
  have : ∀ (d j : Nat), l.length - j ≤ d → j ≤ l.length → Ev (fun k => mastref2_ListFault.l0 k l (llen l) (j : Int)) (lfs (l.drop j)) := by
    intro d
    have last : ∀ j : Nat, l.length ≤ j → Ev (fun k => mastref2_ListFault.l0 k l (llen l) (j : Int)) (lfs (l.drop j)) := fun j hj => by
      rw [List.drop_eq_nil_of_le hj]
      refine Ev.step (g := fun _ => some 0) (fun k => ?_) (Ev.now fun _ => rfl)
      simp only [mastref2_ListFault.l0, llen_eq, ilt_f (show (l.length : Int) ≤ (j : Int) by omega), cond_false]
    induction d with
    | zero => intro j hd hj; exact last j (by omega)
    | succ d ih =>
      intro j hd hj
      rcases Nat.lt_or_ge j l.length with hlt | hge
      · rw [List.drop_eq_getElem_cons hlt]
        have a := itemR_ok l[j] (by have := wt_mem (List.getElem_mem hlt); omega)
        have nx := ih (j + 1) (by omega) hlt
        refine Ev.step (fun k => by simp only [mastref2_ListFault.l0, llen_eq, Go.Proofs.YtmbjiadilfbooaaGreatDoor.Lift.ilen _ _ hlt, cond_true, lat_lt hlt, Option.bind_some, eta]; rfl) (Ev.bind a ?_)
        simp only [lfs]
        cases !ieq (chk2 l[j]) 0 with
        | true => exact Ev.now fun _ => rfl
        | false =>
          simp only [cond_false, u0 (show j ≤ 4611686018427387904 by omega)]
          exact nx
      · exact last j hge
  have := this l.length 0 (by omega) (by omega)
  rw [List.drop_zero] at this
  unfold lf
  cases q : ilt 2000 (llen l) with
  | true => exact Ev.now fun k => by simp only [mastref2_ListFault.f, q, cond_true]
  | false => exact Ev.congr (fun k => by simp only [mastref2_ListFault.f, q, cond_false]; rfl) this

theorem routedL (l : List T_api_Value) (s : ByteArray) (hl : wts l ≤ 1048576) : Ev (fun k => list_routed.f k l s) (rf l s) := by
  refine Ev.congr (fun k => by simp only [list_routed.f]; rfl) (Ev.bind (lfL_ok l hl) ?_)
  unfold rf
  cases h : !ieq (lf l) 0 with
  | true => exact Ev.now fun _ => rfl
  | false =>
    obtain ⟨o, ho⟩ := steps_ok s
    simp only [cond_false]
    refine Ev.bind ho ?_
    cases rp s with
    | true => exact Ev.now fun _ => rfl
    | false => exact Ev.now fun _ => rfl
theorem routedR (l : List T_api_Value) (s : ByteArray) (hl : wts l ≤ 1048576) (hs : s.size ≤ 1048576) : Ev (fun k => mastref2_RouteFault.f k l s) (rf l s) := by
  refine Ev.congr (fun k => by simp only [mastref2_RouteFault.f]; rfl) (Ev.bind (lfR_ok l hl) ?_)
  unfold rf
  cases h : !ieq (lf l) 0 with
  | true => exact Ev.now fun _ => rfl
  | false =>
    simp only [cond_false]
    refine Ev.bind (routeP_ok false s (by omega)) ?_
    rw [rpS_rp]
    cases rp s with
    | true => exact Ev.now fun _ => rfl
    | false => exact Ev.now fun _ => rfl
theorem chk2_zero {v : T_api_Value} (h : chk2 v = 0) : Rt v := by
  unfold chk2 at h
  cases h1 : decide (5000 < nT v) with
  | true => rw [h1] at h; exact nomatch h
  | false =>
    rw [h1, cond_false] at h
    cases h2 : decide (10 < lv v) with
    | true => rw [h2] at h; exact nomatch h
    | false => rw [h2] at h; exact h
theorem lfs_zero : ∀ {l : List T_api_Value}, lfs l = 0 → ∀ v ∈ l, Rt v
  | a :: r, h, v, hv => by
    simp only [lfs] at h
    cases q : !ieq (chk2 a) 0 with
    | true => rw [q, cond_true] at h; rw [h] at q; exact nomatch q
    | false =>
      rw [q, cond_false] at h
      rcases List.mem_cons.1 hv with e | e
      · rw [e]; exact chk2_zero (nz q)
      · exact lfs_zero h v e
theorem rf_zero {l : List T_api_Value} {s : ByteArray} (h : rf l s = 0) : l.length ≤ 2000 ∧ (∀ v ∈ l, Rt v) ∧ rp s = true := by
  unfold rf at h
  cases q : !ieq (lf l) 0 with
  | true => rw [q, cond_true] at h; rw [h] at q; exact nomatch q
  | false =>
    rw [q, cond_false] at h
    have h0 := nz q
    unfold lf at h0
    cases q2 : ilt 2000 (llen l) with
    | true => rw [q2] at h0; exact nomatch h0
    | false =>
      rw [q2, cond_false] at h0
      have q3 := of_decide_eq_false q2
      rw [llen_eq] at q3
      refine ⟨by omega, lfs_zero h0, ?_⟩
      cases q4 : rp s with
      | true => rfl
      | false => rw [q4] at h; exact nomatch h
theorem had_ok (l : List T_api_Value) (s : ByteArray) (hl : wts l ≤ 1048576) (hR : ∀ v ∈ l, Rt v) (hs : s.size ≤ 1048576) (hr : rp s = true) : Ev (fun k => list_had.f k l s) (l.map fun v => atv v s) := by
  have hlen := len_le l
  have : ∀ (d j : Nat), l.length - j ≤ d → j ≤ l.length → Ev (fun k => list_had.l0 k (lstps s) ((l.take j).map fun v => atv v s) l (llen l) (j : Int)) (l.map fun v => atv v s) := by
    intro d
    have last : ∀ j : Nat, l.length ≤ j → Ev (fun k => list_had.l0 k (lstps s) ((l.take j).map fun v => atv v s) l (llen l) (j : Int)) (l.map fun v => atv v s) := fun j hj => by
      rw [List.take_of_length_le hj]
      refine Ev.step (g := fun _ => some (l.map fun v => atv v s)) (fun k => ?_) (Ev.now fun _ => rfl)
      simp only [list_had.l0, llen_eq, ilt_f (show (l.length : Int) ≤ (j : Int) by omega), cond_false]
    induction d with
    | zero => intro j hd hj; exact last j (by omega)
    | succ d ih =>
      intro j hd hj
      rcases Nat.lt_or_ge j l.length with hlt | hge
      · have a := at_ok l[j] s (by have := wt_mem (List.getElem_mem hlt); omega) (hR _ (List.getElem_mem hlt)) hs hr
        have nx := ih (j + 1) (by omega) hlt
        rw [take_map hlt] at nx
        have hp : lapp 88 ((l.take j).map fun v => atv v s) [atv l[j] s] = some ((l.take j).map (fun v => atv v s) ++ [atv l[j] s]) := lapp_ok (by simp only [List.length_map, List.length_take, List.length_singleton]; omega) (by simp only [List.length_map, List.length_take, List.length_singleton]; omega)
        refine Ev.step (fun k => by simp only [list_had.l0, llen_eq, Go.Proofs.YtmbjiadilfbooaaGreatDoor.Lift.ilen _ _ hlt, cond_true, lat_lt hlt, Option.bind_some, eta]; rfl) (Ev.bind a ?_)
        simp only [hp, Option.bind_some, u0 (show j ≤ 4611686018427387904 by omega)]
        exact nx
      · exact last j hge
  have := this l.length 0 (by omega) (by omega)
  exact Ev.congr (fun k => by simp only [list_had.f]; rfl) (Ev.bind (steps_right hr) this)

/-! The sum. -/
theorem u64_nn (x : Int) : 0 ≤ wcv .u64 x := by
  unfold wcv IntKind.wrap
  simp only [IntKind.signed, Bool.false_eq_true, if_false]
  exact Int.emod_nonneg _ (by decide)
def addv (lo x : Int) : Int × Int := ((lo + x + 0) % 18446744073709551616, (lo + x + 0) / 18446744073709551616)
theorem add_ok {lo x : Int} (h : 0 ≤ lo) (h2 : 0 ≤ x) : math_bits_Add64.f lo x 0 = some (addv lo x) := by
  unfold math_bits_Add64.f add64F
  rw [if_pos ⟨h, h2, by omega, by omega⟩]; rfl
theorem addv_nn (lo x : Int) : 0 ≤ (addv lo x).1 := Int.emod_nonneg _ (by decide)
def sumS : List T_api_Value → Int → Int → Int × Int
  | [], h, lo => bif !ieq h (ishr .i64 (wcv .i64 lo) 63) then (0, 2) else (wcv .i64 lo, 0)
  | y :: r, h, lo => bif ieq y.fKind 2 then sumS r (wadd .i64 (wadd .i64 h (wcv .i64 (addv lo (wcv .u64 y.fInt)).2)) (ishr .i64 y.fInt 63)) (addv lo (wcv .u64 y.fInt)).1 else sumS r h lo
theorem s63 : ilt 63 0 = false := rfl
theorem sumL (ys : List T_api_Value) (hl : ys.length ≤ 2000) : ∀ (d j : Nat) (h lo : Int), ys.length - j ≤ d → j ≤ ys.length → 0 ≤ lo → Ev (fun k => list_Sum.l0 k h lo ys (llen ys) (j : Int)) (sumS (ys.drop j) h lo) := by
  intro d
  have last : ∀ (j : Nat) (h lo : Int), ys.length ≤ j → Ev (fun k => list_Sum.l0 k h lo ys (llen ys) (j : Int)) (sumS (ys.drop j) h lo) := fun j h lo hj => by
    rw [List.drop_eq_nil_of_le hj]
    refine Ev.step (g := fun _ => some (sumS [] h lo)) (fun k => ?_) (Ev.now fun _ => rfl)
    simp only [list_Sum.l0, llen_eq, ilt_f (show (ys.length : Int) ≤ (j : Int) by omega), cond_false, s63, sumS]
    cases !ieq h (ishr .i64 (wcv .i64 lo) 63) <;> rfl
  induction d with
  | zero => intro j h lo hd hj _; exact last j h lo (by omega)
  | succ d ih =>
    intro j h lo hd hj h0
    rcases Nat.lt_or_ge j ys.length with hlt | hge
    · rw [List.drop_eq_getElem_cons hlt]
      simp only [sumS]
      cases q : ieq ys[j].fKind 2 with
      | true =>
        refine Ev.step (fun k => ?_) (ih (j + 1) _ _ (by omega) hlt (addv_nn _ _))
        simp only [list_Sum.l0, llen_eq, Go.Proofs.YtmbjiadilfbooaaGreatDoor.Lift.ilen _ _ hlt, cond_true, lat_lt hlt, Option.bind_some, q, add_ok h0 (u64_nn _), s63, cond_false, u0 (show j ≤ 4611686018427387904 by omega)]
      | false =>
        refine Ev.step (fun k => ?_) (ih (j + 1) _ _ (by omega) hlt h0)
        simp only [list_Sum.l0, llen_eq, Go.Proofs.YtmbjiadilfbooaaGreatDoor.Lift.ilen _ _ hlt, cond_true, lat_lt hlt, Option.bind_some, q, cond_false, u0 (show j ≤ 4611686018427387904 by omega)]
    · exact last j h lo hge
theorem sumR (l : List T_api_Value) (s : ByteArray) (hl : l.length ≤ 2000) (hw : wts l ≤ 1048576) (hR : ∀ v ∈ l, Rt v) (hs : s.size ≤ 1048576) (hr : rp s = true) : ∀ (d j : Nat) (h lo : Int), l.length - j ≤ d → j ≤ l.length → 0 ≤ lo → Ev (fun k => mastref2_SumOf.l0 k s h lo l (llen l) (j : Int)) (sumS ((l.drop j).map fun v => atv v s) h lo) := by
  intro d
  have last : ∀ (j : Nat) (h lo : Int), l.length ≤ j → Ev (fun k => mastref2_SumOf.l0 k s h lo l (llen l) (j : Int)) (sumS ((l.drop j).map fun v => atv v s) h lo) := fun j h lo hj => by
    rw [List.drop_eq_nil_of_le hj]
    refine Ev.step (g := fun _ => some (sumS [] h lo)) (fun k => ?_) (Ev.now fun _ => rfl)
    simp only [mastref2_SumOf.l0, llen_eq, ilt_f (show (l.length : Int) ≤ (j : Int) by omega), cond_false, s63, sumS]
    cases !ieq h (ishr .i64 (wcv .i64 lo) 63) <;> rfl
  induction d with
  | zero => intro j h lo hd hj _; exact last j h lo (by omega)
  | succ d ih =>
    intro j h lo hd hj h0
    rcases Nat.lt_or_ge j l.length with hlt | hge
    · rw [List.drop_eq_getElem_cons hlt, List.map_cons]
      have a := hasAt_ok l[j] s (by have := wt_mem (List.getElem_mem hlt); omega) (hR _ (List.getElem_mem hlt)) hs hr
      simp only [sumS]
      refine Ev.step (fun k => by simp only [mastref2_SumOf.l0, llen_eq, Go.Proofs.YtmbjiadilfbooaaGreatDoor.Lift.ilen _ _ hlt, cond_true, lat_lt hlt, Option.bind_some, eta]; rfl) (Ev.bind a ?_)
      cases q : ieq (atv l[j] s).fKind 2 with
      | true =>
        have nx := ih (j + 1) (wadd .i64 (wadd .i64 h (wcv .i64 (addv lo (wcv .u64 (atv l[j] s).fInt)).2)) (ishr .i64 (atv l[j] s).fInt 63)) (addv lo (wcv .u64 (atv l[j] s).fInt)).1 (by omega) hlt (addv_nn _ _)
        simp only [cond_true, add_ok h0 (u64_nn _), Option.bind_some, s63, cond_false, u0 (show j ≤ 4611686018427387904 by omega)]
        exact nx
      | false =>
        have nx := ih (j + 1) h lo (by omega) hlt h0
        simp only [cond_false, u0 (show j ≤ 4611686018427387904 by omega)]
        exact nx
    · exact last j h lo hge

/-! The extremes. -/
def getz (ys : List T_api_Value) (a : Int) : T_api_Value := (lat ys a).getD zro
def lst (ys : List T_api_Value) (y : T_api_Value) (j : Nat) (a : Int) : Int := bif ilt a 0 then (j : Int) else bif ilt (cmpv y (getz ys a)) 0 then (j : Int) else a
def gst (ys : List T_api_Value) (y : T_api_Value) (j : Nat) (b : Int) : Int := bif ilt b 0 then (j : Int) else bif ilt 0 (cmpv y (getz ys b)) then (j : Int) else b
def exr (ys : List T_api_Value) : List T_api_Value → Nat → Int → Int → Int × Int
  | [], _, a, b => (a, b)
  | y :: r, j, a, b => bif ieq y.fKind 0 then exr ys r (j + 1) a b else exr ys r (j + 1) (lst ys y j a) (gst ys y j b)
def Ok (n : Nat) (a : Int) : Prop := a < 0 ∨ ∃ m : Nat, a = m ∧ m < n
theorem lst_ok {ys : List T_api_Value} {y : T_api_Value} {j : Nat} {a : Int} (hj : j < ys.length) (h : Ok ys.length a) : Ok ys.length (lst ys y j a) := by
  unfold lst
  cases ilt a 0
  · cases ilt (cmpv y (getz ys a)) 0
    · exact h
    · exact .inr ⟨j, rfl, hj⟩
  · exact .inr ⟨j, rfl, hj⟩
theorem gst_ok {ys : List T_api_Value} {y : T_api_Value} {j : Nat} {a : Int} (hj : j < ys.length) (h : Ok ys.length a) : Ok ys.length (gst ys y j a) := by
  unfold gst
  cases ilt a 0
  · cases ilt 0 (cmpv y (getz ys a))
    · exact h
    · exact .inr ⟨j, rfl, hj⟩
  · exact .inr ⟨j, rfl, hj⟩
theorem lat_ok {ys : List T_api_Value} {a : Int} (h : Ok ys.length a) (h0 : ilt a 0 = false) : lat ys a = some (getz ys a) ∧ getz ys a ∈ ys := by
  rcases h with h | ⟨m, rfl, hm⟩
  · rw [ilt_t h] at h0; cases h0
  · unfold getz
    rw [lat_lt hm]
    exact ⟨rfl, List.getElem_mem hm⟩
def exa (p : Int × Int) : Int × Int × Int := bif ilt p.1 0 then (0, 0, 7) else (p.1, p.2, 0)
theorem exL (ys : List T_api_Value) (hl : ys.length ≤ 2000) (hw : ∀ y ∈ ys, wt y ≤ 2000000) : ∀ (d j : Nat) (a b : Int), ys.length - j ≤ d → j ≤ ys.length → Ok ys.length a → Ok ys.length b → Ev (fun k => list_Extremes.l0 k a b ys ys (llen ys) (j : Int)) (exa (exr ys (ys.drop j) j a b)) := by
  intro d
  have last : ∀ (j : Nat) (a b : Int), ys.length ≤ j → Ev (fun k => list_Extremes.l0 k a b ys ys (llen ys) (j : Int)) (exa (exr ys (ys.drop j) j a b)) := fun j a b hj => by
    rw [List.drop_eq_nil_of_le hj]
    refine Ev.step (g := fun _ => some (exa (a, b))) (fun k => ?_) (Ev.now fun _ => rfl)
    simp only [list_Extremes.l0, llen_eq, ilt_f (show (ys.length : Int) ≤ (j : Int) by omega), cond_false, exa]
    cases ilt a 0 <;> rfl
  induction d with
  | zero => intro j a b hd hj _ _; exact last j a b (by omega)
  | succ d ih =>
    intro j a b hd hj ha hb
    rcases Nat.lt_or_ge j ys.length with hlt | hge
    · rw [List.drop_eq_getElem_cons hlt]
      simp only [exr]
      have hy := hw _ (List.getElem_mem hlt)
      have hin := Go.Proofs.YtmbjiadilfbooaaGreatDoor.Lift.ilen _ _ hlt
      have hlat : lat ys (j : Int) = some ys[j] := lat_lt hlt
      generalize ys[j] = y at hy hlat
      cases q : ieq y.fKind 0 with
      | true =>
        refine Ev.step (fun k => ?_) (ih (j + 1) a b (by omega) hlt ha hb)
        simp only [list_Extremes.l0, llen_eq, hin, cond_true, hlat, Option.bind_some, q, u0 (show j ≤ 4611686018427387904 by omega)]
      | false =>
        have nx := ih (j + 1) (lst ys y j a) (gst ys y j b) (by omega) hlt (lst_ok hlt ha) (gst_ok hlt hb)
        have l1 : ∀ a', Ev (fun k => list_Extremes.l0 k a' (gst ys y j b) ys ys (llen ys) ((j + 1 : Nat) : Int)) (exa (exr ys (ys.drop (j + 1)) (j + 1) a' (gst ys y j b))) → Ev (fun k => list_Extremes.l1 k a' b ys (j : Int) y.fKind y.fBool y.fInt y.fText y.fItems y.fKeys ys (llen ys) (j : Int)) (exa (exr ys (ys.drop (j + 1)) (j + 1) a' (gst ys y j b))) := fun a' h => by
          unfold gst at h ⊢
          cases q2 : ilt b 0 with
          | true =>
            rw [q2, cond_true] at h
            refine Ev.step (fun k => ?_) h
            simp only [list_Extremes.l1, q2, cond_true, u0 (show j ≤ 4611686018427387904 by omega)]
          | false =>
            rw [q2, cond_false] at h
            obtain ⟨g1, g2⟩ := lat_ok hb q2
            refine Ev.step (fun k => by simp only [list_Extremes.l1, q2, cond_false, g1, Option.bind_some, eta]; rfl) (Ev.bind (cmpL_ok y hy _ (hw _ g2)) ?_)
            simp only [u0 (show j ≤ 4611686018427387904 by omega)]
            cases q3 : ilt 0 (cmpv y (getz ys b)) with
            | true => rw [q3] at h; exact h
            | false => rw [q3] at h; exact h
        have n1 := l1 _ nx
        unfold lst at n1 ⊢
        cases q2 : ilt a 0 with
        | true =>
          rw [q2, cond_true] at n1
          refine Ev.step (fun k => ?_) n1
          simp only [list_Extremes.l0, llen_eq, hin, cond_true, hlat, Option.bind_some, q, cond_false, q2]
        | false =>
          rw [q2, cond_false] at n1
          obtain ⟨g1, g2⟩ := lat_ok ha q2
          refine Ev.step (fun k => by simp only [list_Extremes.l0, llen_eq, hin, cond_true, hlat, Option.bind_some, q, cond_false, q2, g1, eta]; rfl) (Ev.bind (cmpL_ok y hy _ (hw _ g2)) ?_)
          cases q3 : ilt (cmpv y (getz ys a)) 0 with
          | true => rw [q3] at n1; exact n1
          | false => rw [q3] at n1; exact n1
    · exact last j a b hge
theorem exR (l : List T_api_Value) (s : ByteArray) (hl : l.length ≤ 2000) (hwl : wts l ≤ 1048576) (hR : ∀ v ∈ l, Rt v) (hs : s.size ≤ 1048576) (hr : rp s = true) (e : Int × Int × Int) : ∀ (d j : Nat) (a b : Int), l.length - j ≤ d → j ≤ l.length → Ok l.length a → Ok l.length b → e = exa (exr (l.map fun v => atv v s) ((l.map fun v => atv v s).drop j) j a b) →
    Ev (fun k => mastlaw2_ListSums.l0 k l s e.2.2 e.1 e.2.1 a b l (llen l) (j : Int)) true := by
  intro d
  have hml : (l.map fun v => atv v s).length = l.length := List.length_map _
  have last : ∀ (j : Nat) (a b : Int), l.length ≤ j → e = exa (exr (l.map fun v => atv v s) ((l.map fun v => atv v s).drop j) j a b) → Ev (fun k => mastlaw2_ListSums.l0 k l s e.2.2 e.1 e.2.1 a b l (llen l) (j : Int)) true := fun j a b hj he => by
    rw [List.drop_eq_nil_of_le (by omega)] at he
    simp only [exr, exa] at he
    refine Ev.step (g := fun _ => some true) (fun k => ?_) (Ev.now fun _ => rfl)
    simp only [mastlaw2_ListSums.l0, llen_eq, ilt_f (show (l.length : Int) ≤ (j : Int) by omega), cond_false]
    cases q : ilt a 0 with
    | true => rw [q, cond_true] at he; rw [he]; rfl
    | false => rw [q, cond_false] at he; rw [he]; simp only [ieq_self, cond_true, cond_false]
  have atj : ∀ (m : Nat) (hm : m < l.length), (l.map fun v => atv v s)[m]'(by omega) = atv l[m] s := fun m hm => by rw [List.getElem_map]
  have back : ∀ {a : Int}, Ok l.length a → ilt a 0 = false → ∃ x, lat l a = some x ∧ Ev (fun k => mastref2_HasAt.f k x s) (getz (l.map fun v => atv v s) a) ∧ wt (getz (l.map fun v => atv v s) a) ≤ 2000000 := fun {a} ha h0 => by
    rcases ha with h | ⟨m, rfl, hm⟩
    · rw [ilt_t h] at h0; cases h0
    · have hx : wt l[m] ≤ 1048576 := by have := wt_mem (List.getElem_mem hm); omega
      refine ⟨l[m], lat_lt hm, ?_, ?_⟩
      · unfold getz
        rw [lat_lt (by omega), atj m hm]
        exact hasAt_ok l[m] s hx (hR _ (List.getElem_mem hm)) hs hr
      · unfold getz
        rw [lat_lt (by omega), atj m hm]
        have := atv_wt l[m] s hx
        show wt (atv l[m] s) ≤ 2000000
        omega
  induction d with
  | zero => intro j a b hd hj _ _ he; exact last j a b (by omega) he
  | succ d ih =>
    intro j a b hd hj ha hb he
    rcases Nat.lt_or_ge j l.length with hlt | hge
    · have hlt' : j < (l.map fun v => atv v s).length := by omega
      rw [List.drop_eq_getElem_cons hlt', atj j hlt] at he
      simp only [exr] at he
      have hy := atv_wt l[j] s (by have := wt_mem (List.getElem_mem hlt); omega)
      have hat := hasAt_ok l[j] s (by have := wt_mem (List.getElem_mem hlt); omega) (hR _ (List.getElem_mem hlt)) hs hr
      have hin := Go.Proofs.YtmbjiadilfbooaaGreatDoor.Lift.ilen _ _ hlt
      have hlat : lat l (j : Int) = some l[j] := lat_lt hlt
      generalize atv l[j] s = y at hy hat he
      refine Ev.step (fun k => by simp only [mastlaw2_ListSums.l0, llen_eq, hin, cond_true, hlat, Option.bind_some, eta]; rfl) (Ev.bind hat ?_)
      cases q : ieq y.fKind 0 with
      | true =>
        rw [q, cond_true] at he
        simp only [cond_true, u0 (show j ≤ 4611686018427387904 by omega)]
        exact ih (j + 1) a b (by omega) hlt ha hb he
      | false =>
        rw [q, cond_false] at he
        simp only [cond_false]
        have l1 : ∀ a', Ok l.length a' → e = exa (exr (l.map fun v => atv v s) ((l.map fun v => atv v s).drop (j + 1)) (j + 1) a' (gst (l.map fun v => atv v s) y j b)) → Ev (fun k => mastlaw2_ListSums.l1 k l s e.2.2 e.1 e.2.1 a' b (j : Int) y.fKind y.fBool y.fInt y.fText y.fItems y.fKeys l (llen l) (j : Int)) true := fun a' ha' he' => by
          have hg := gst_ok (ys := l.map fun v => atv v s) (y := y) hlt' (hml ▸ hb)
          rw [hml] at hg
          have h := ih (j + 1) a' _ (by omega) hlt ha' hg he'
          unfold gst at h
          cases q2 : ilt b 0 with
          | true =>
            rw [q2, cond_true] at h
            refine Ev.step (fun k => ?_) h
            simp only [mastlaw2_ListSums.l1, q2, cond_true, u0 (show j ≤ 4611686018427387904 by omega)]
          | false =>
            rw [q2, cond_false] at h
            obtain ⟨x, x1, x2, x3⟩ := back hb q2
            refine Ev.step (fun k => by simp only [mastlaw2_ListSums.l1, q2, cond_false, x1, Option.bind_some, eta]; rfl) (Ev.bind x2 (Ev.bind (cmpR_ok y (by omega) _ x3) ?_))
            simp only [u0 (show j ≤ 4611686018427387904 by omega)]
            cases q3 : ilt 0 (cmpv y (getz (l.map fun v => atv v s) b)) with
            | true => rw [q3] at h; exact h
            | false => rw [q3] at h; exact h
        have hl1 := lst_ok (ys := l.map fun v => atv v s) (y := y) hlt' (hml ▸ ha)
        rw [hml] at hl1
        have n1 := l1 _ hl1 he
        unfold lst at n1
        cases q2 : ilt a 0 with
        | true =>
          rw [q2, cond_true] at n1
          exact n1
        | false =>
          rw [q2, cond_false] at n1
          obtain ⟨x, x1, x2, x3⟩ := back ha q2
          simp only [cond_false, x1, Option.bind_some]
          refine Ev.bind x2 (Ev.bind (cmpR_ok y (by omega) _ x3) ?_)
          cases q3 : ilt (cmpv y (getz (l.map fun v => atv v s) a)) 0 with
          | true => rw [q3] at n1; exact n1
          | false => rw [q3] at n1; exact n1
    · exact last j a b hge he
theorem wts_bulk (D : Nat) (l : List T_api_Value) (h : good ctx D (.sl (.st 0)) l) : wts l ≤ bulk ctx D (.sl (.st 0)) l := by
  cases D with
  | zero =>
    cases l with
    | nil => exact Nat.zero_le _
    | cons a r => exact (h.2.2 a (List.mem_cons_self ..)).elim
  | succ D =>
    have hs : ∀ l : List T_api_Value, (∀ x ∈ l, good ctx D (.st 0) x) → wts l ≤ (l.map (bulk ctx D (.st 0))).sum := by
      intro l
      induction l with
      | nil => intro _; exact Nat.zero_le _
      | cons a l ih =>
        intro hx
        simp only [wts, List.map_cons, List.sum_cons]
        exact Nat.add_le_add (wt_bulk D a (hx a (List.mem_cons_self ..))) (ih fun x hm => hx x (List.mem_cons_of_mem _ hm))
    have := hs l h.2.2
    show _ ≤ (l.map (bulk ctx D (.st 0))).sum + 1
    omega
theorem pure_holds : Pure := fun x0 x1 h0 hs => by
  obtain ⟨D, d1, d2⟩ := h0
  have hw : wts x0 ≤ 1048576 := Nat.le_trans (wts_bulk D x0 d1) d2
  have rL := routedL x0 x1 hw
  have rR := routedR x0 x1 hw hs
  refine (show Ev (fun k => mastlaw2_ListSums.f k x0 x1) true from ?_).get
  cases h : !ieq (rf x0 x1) 0 with
  | true =>
    have s1 : Ev (fun k => list_Sum.f k x0 x1) (0, rf x0 x1) := Ev.congr (fun k => by simp only [list_Sum.f]; rfl) (Ev.bind rL (Ev.now fun _ => by rw [h]; rfl))
    have s2 : Ev (fun k => mastref2_SumOf.f k x0 x1) (0, rf x0 x1) := Ev.congr (fun k => by simp only [mastref2_SumOf.f]; rfl) (Ev.bind rR (Ev.now fun _ => by rw [h]; rfl))
    have s3 : Ev (fun k => list_Extremes.f k x0 x1) (0, 0, rf x0 x1) := Ev.congr (fun k => by simp only [list_Extremes.f]; rfl) (Ev.bind rL (Ev.now fun _ => by rw [h]; rfl))
    refine Ev.congr (fun k => by simp only [mastlaw2_ListSums.f]; rfl) (Ev.bind s1 (Ev.bind s2 ?_))
    simp only [ieq_self, Bool.not_true, cond_false]
    refine Ev.bind s3 (Ev.bind rR (Ev.now fun _ => ?_))
    simp only [h, cond_true, ieq_self]
  | false =>
    obtain ⟨r1, r2, r3⟩ := rf_zero (nz h)
    have hml : (x0.map fun v => atv v x1).length = x0.length := List.length_map _
    have hd := had_ok x0 x1 hw r2 hs r3
    have a1 := sumL (x0.map fun v => atv v x1) (by omega) (x0.map fun v => atv v x1).length 0 0 0 (by omega) (by omega) (by omega)
    have a2 := sumR x0 x1 r1 hw r2 hs r3 x0.length 0 0 0 (by omega) (by omega) (by omega)
    rw [List.drop_zero] at a1 a2
    have s1 : Ev (fun k => list_Sum.f k x0 x1) (sumS (x0.map fun v => atv v x1) 0 0) := Ev.congr (fun k => by simp only [list_Sum.f]; rfl) (Ev.bind rL (by rw [h]; exact Ev.bind hd a1))
    have s2 : Ev (fun k => mastref2_SumOf.f k x0 x1) (sumS (x0.map fun v => atv v x1) 0 0) := Ev.congr (fun k => by simp only [mastref2_SumOf.f]; rfl) (Ev.bind rR (by rw [h]; exact a2))
    have b1 := exL (x0.map fun v => atv v x1) (by omega) (fun y hy => by
      obtain ⟨v, hv, rfl⟩ := List.mem_map.1 hy
      have := atv_wt v x1 (by have := wt_mem hv; omega)
      omega) (x0.map fun v => atv v x1).length 0 (-1) (-1) (by omega) (by omega) (.inl (by omega)) (.inl (by omega))
    rw [List.drop_zero] at b1
    have s3 : Ev (fun k => list_Extremes.f k x0 x1) (exa (exr (x0.map fun v => atv v x1) (x0.map fun v => atv v x1) 0 (-1) (-1))) := Ev.congr (fun k => by simp only [list_Extremes.f]; rfl) (Ev.bind rL (by rw [h]; exact Ev.bind hd b1))
    have b2 := exR x0 x1 r1 hw r2 hs r3 _ x0.length 0 (-1) (-1) (by omega) (by omega) (.inl (by omega)) (.inl (by omega)) rfl
    rw [List.drop_zero] at b2
    refine Ev.congr (fun k => by simp only [mastlaw2_ListSums.f]; rfl) (Ev.bind s1 (Ev.bind s2 ?_))
    simp only [ieq_self, Bool.not_true, cond_false]
    refine Ev.bind s3 (Ev.bind rR ?_)
    simp only [h, cond_false]
    exact b2

end Go.Proofs.YtmbjiadilfbooaaGreatDoor.LListSums
