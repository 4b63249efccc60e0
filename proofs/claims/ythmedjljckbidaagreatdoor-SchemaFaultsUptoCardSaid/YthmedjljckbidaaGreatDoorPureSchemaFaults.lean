/- The faults of a value by a schema are those of the reference, for values of small bulk. Conditions: none. -/
import Derived.Test.YthmedjljckbidaaGreatDoorLSchemaFaultsOp
import Derived.Lib.SplitLaws
import Derived.Lib.ItoaLen
import Derived.Lib.ItoaNum
set_option linter.unusedVariables false
set_option linter.unusedSimpArgs false
namespace Go.Proofs.YthmedjljckbidaaGreatDoor.LSchemaFaults
open Go Go.Proofs.YthmedjljckbidaaGreatDoor.Lift

theorem eta (y : T_api_Value) : T_api_Value.mk y.fKind y.fBool y.fInt y.fText y.fItems y.fKeys = y := by cases y; rfl

mutual
/-- How many values. -/
def nT : T_api_Value → Nat
  | ⟨_, _, _, _, is, _⟩ => nTs is + 1
def nTs : List T_api_Value → Nat
  | [] => 0
  | t :: r => nT t + nTs r
end
mutual
/-- How many levels. -/
def lv : T_api_Value → Nat
  | ⟨_, _, _, _, is, _⟩ => lvs is + 1
def lvs : List T_api_Value → Nat
  | [] => 0
  | t :: r => max (lv t) (lvs r)
end
def kz : List ByteArray → Nat
  | [] => 0
  | s :: r => s.size + 1 + kz r
mutual
/-- How much is held. -/
def wt : T_api_Value → Nat
  | ⟨_, _, _, t, is, ks⟩ => t.size + kz ks + wts is + 1
def wts : List T_api_Value → Nat
  | [] => 0
  | t :: r => wt t + wts r
end
theorem nT_eq (t : T_api_Value) : nT t = nTs t.fItems + 1 := by cases t; simp [nT]
theorem lv_eq (t : T_api_Value) : lv t = lvs t.fItems + 1 := by cases t; simp [lv]
theorem wt_eq (t : T_api_Value) : wt t = t.fText.size + kz t.fKeys + wts t.fItems + 1 := by cases t; simp [wt]
theorem wt_pos (t : T_api_Value) : 1 ≤ wt t := by rw [wt_eq]; omega
theorem wt_mem : ∀ {l : List T_api_Value} {t : T_api_Value}, t ∈ l → wt t ≤ wts l
  | a :: l, t, h => by
    simp only [wts]
    rcases List.mem_cons.1 h with rfl | h
    · omega
    · have := wt_mem h; omega
theorem len_le : ∀ l : List T_api_Value, l.length ≤ wts l
  | [] => Nat.zero_le _
  | a :: l => by
    have := len_le l
    have := wt_pos a
    simp only [wts, List.length_cons]; omega
theorem kz_mem : ∀ {l : List ByteArray} {s : ByteArray}, s ∈ l → s.size < kz l
  | a :: l, s, h => by
    simp only [kz]
    rcases List.mem_cons.1 h with rfl | h
    · omega
    · have := kz_mem h; omega
theorem klen_le : ∀ l : List ByteArray, l.length ≤ kz l
  | [] => Nat.zero_le _
  | a :: l => by
    have := klen_le l
    simp only [kz, List.length_cons]; omega
theorem tree {P : T_api_Value → Prop} (h : ∀ t, (∀ k ∈ t.fItems, P k) → P t) : ∀ t, P t := by
  have : ∀ (n : Nat) (t : T_api_Value), wt t ≤ n → P t := by
    intro n
    induction n with
    | zero => intro t ht; have := wt_pos t; omega
    | succ n ih => intro t ht; exact h t fun k hk => ih k (by have := wt_mem hk; rw [wt_eq] at ht; omega)
  exact fun t => this _ t (Nat.le_refl _)
theorem nT_wt : ∀ t, nT t ≤ wt t := tree fun t ih => by
  have : ∀ l : List T_api_Value, (∀ k ∈ l, nT k ≤ wt k) → nTs l ≤ wts l := by
    intro l
    induction l with
    | nil => intro _; exact Nat.zero_le _
    | cons a l ih =>
      intro h
      have h1 := h a (List.mem_cons_self ..)
      have h2 := ih fun k hk => h k (List.mem_cons_of_mem _ hk)
      simp only [nTs, wts]; omega
  have := this t.fItems ih
  rw [nT_eq, wt_eq]; omega
theorem nTs_wts : ∀ l, nTs l ≤ wts l
  | [] => Nat.zero_le _
  | a :: l => by have := nT_wt a; have := nTs_wts l; simp only [nTs, wts]; omega
theorem lv_wt : ∀ t, lv t ≤ wt t := tree fun t ih => by
  have : ∀ l : List T_api_Value, (∀ k ∈ l, lv k ≤ wt k) → lvs l ≤ wts l := by
    intro l
    induction l with
    | nil => intro _; exact Nat.zero_le _
    | cons a l ih =>
      intro h
      have h1 := h a (List.mem_cons_self ..)
      have h2 := ih fun k hk => h k (List.mem_cons_of_mem _ hk)
      simp only [lvs, wts]; omega
  have := this t.fItems ih
  rw [lv_eq, wt_eq]; omega
theorem bulk_str (D : Nat) (s : ByteArray) : bulk ctx D .str s = s.size + 1 := by cases D <;> rfl
theorem wt_bulk : ∀ (D : Nat) (t : T_api_Value), good ctx D (.st 2) t → wt t ≤ bulk ctx D (.st 2) t
  | 0, t, h => h.1.elim
  | 1, t, h => by
    have hi : t.fItems = [] := List.eq_nil_iff_forall_not_mem.2 fun k hk => h.2.2.2.2.1.2.2 k hk
    have hk : t.fKeys = [] := List.eq_nil_iff_forall_not_mem.2 fun k hk => h.2.2.2.2.2.2.2 k hk
    rw [wt_eq, hi, hk]
    show t.fText.size + 0 + 0 + 1 ≤ 1 + (1 + (1 + ((t.fText.size + 1) + ((((t.fItems.map fun _ => 0).sum + 1)) + (((t.fKeys.map fun _ => 0).sum + 1) + 0))))) + 1
    omega
  | D + 2, t, h => by
    have hi : ∀ k ∈ t.fItems, wt k ≤ bulk ctx D (.st 2) k := fun k hk => wt_bulk D k (h.2.2.2.2.1.2.2 k hk)
    have hs : ∀ l : List T_api_Value, (∀ k ∈ l, wt k ≤ bulk ctx D (.st 2) k) → wts l ≤ (l.map (bulk ctx D (.st 2))).sum := by
      intro l
      induction l with
      | nil => intro _; exact Nat.zero_le _
      | cons a l ih =>
        intro h
        have h1 := h a (List.mem_cons_self ..)
        have h2 := ih fun k hk => h k (List.mem_cons_of_mem _ hk)
        simp only [wts, List.map_cons, List.sum_cons]
        exact Nat.add_le_add h1 h2
    have hz : ∀ l : List ByteArray, kz l = (l.map (bulk ctx D .str)).sum := by
      intro l
      induction l with
      | nil => rfl
      | cons a l ih => simp only [kz, ih, List.map_cons, List.sum_cons, bulk_str]
    have h1 := hs t.fItems hi
    have h2 := hz t.fKeys
    rw [wt_eq, h2]
    show _ ≤ 1 + (1 + (1 + ((t.fText.size + 1) + (((t.fItems.map (bulk ctx D (.st 2))).sum + 1) + (((t.fKeys.map (bulk ctx D .str)).sum + 1) + 0))))) + 1
    omega

/-! How many values, how many levels. -/
theorem count_loop_conf (l : List T_api_Value) (hl : wts l ≤ 1048576) (ih : ∀ k ∈ l, ∃ r : Nat, Ev (fun f => conf_count.f f k) (r : Int) ∧ r ≤ nT k ∧ (1000 < r ∨ r = nT k)) : ∀ (d j a : Nat), l.length - j ≤ d → j ≤ l.length → a + nTs (l.drop j) ≤ 1048577 →
    ∃ r : Nat, Ev (fun f => conf_count.l0 f (a : Int) l (llen l) (j : Int)) (r : Int) ∧ r ≤ a + nTs (l.drop j) ∧ (1000 < r ∨ r = a + nTs (l.drop j)) := by
  have hlen := len_le l
  have fin : ∀ j a : Nat, l.length ≤ j → ∃ r : Nat, Ev (fun f => conf_count.l0 f (a : Int) l (llen l) (j : Int)) (r : Int) ∧ r ≤ a + nTs (l.drop j) ∧ (1000 < r ∨ r = a + nTs (l.drop j)) := fun j a h => by
    refine ⟨a, Ev.step (g := fun _ => some (a : Int)) (fun k => ?_) (Ev.now fun _ => rfl), by omega, ?_⟩
    · simp only [conf_count.l0, llen_eq, ilt_f (show (l.length : Int) ≤ (j : Int) by omega), cond_false]
    · rw [List.drop_eq_nil_of_le h]; simp [nTs]
  intro d
  induction d with
  | zero => intro j a hd hj hb; exact fin j a (by omega)
  | succ d ihd =>
    intro j a hd hj hb
    rcases Nat.lt_or_ge j l.length with hlt | hge
    · rw [List.drop_eq_getElem_cons hlt] at hb ⊢
      simp only [nTs] at hb ⊢
      by_cases ha : 1000 < a
      · refine ⟨a, Ev.step (g := fun _ => some (a : Int)) (fun k => ?_) (Ev.now fun _ => rfl), by omega, .inl ha⟩
        simp only [conf_count.l0, llen_eq, ilt_t (show (j : Int) < (l.length : Int) by omega), cond_true, lat_lt hlt, Option.bind_some, ilt_t (show (1000 : Int) < (a : Int) by omega)]
      · obtain ⟨r, r1, r2, r3⟩ := ih _ (List.getElem_mem hlt)
        obtain ⟨q, q1, q2, q3⟩ := ihd (j + 1) (a + r) (by omega) hlt (by omega)
        have w : wadd .i64 (a : Int) (r : Int) = ((a + r : Nat) : Int) := by rw [wadd64 (by omega) (by omega)]; omega
        refine ⟨q, Ev.step (g := fun k => (conf_count.f k l[j]).bind fun y2 => conf_count.l0 k (wadd .i64 (a : Int) y2) l (llen l) ((j + 1 : Nat) : Int)) (fun k => ?_) (Ev.bind r1 (by rw [w]; exact q1)), by omega, by omega⟩
        simp only [conf_count.l0, llen_eq, ilt_t (show (j : Int) < (l.length : Int) by omega), cond_true, lat_lt hlt, Option.bind_some, ilt_f (show (a : Int) ≤ 1000 by omega), cond_false, eta, u0 (show j ≤ 4611686018427387904 by omega)]
    · exact fin j a hge
theorem count_conf : ∀ t, wt t ≤ 1048576 → ∃ r : Nat, Ev (fun f => conf_count.f f t) (r : Int) ∧ r ≤ nT t ∧ (1000 < r ∨ r = nT t) := tree fun t ih hn => by
  have h0 := nTs_wts t.fItems
  rw [wt_eq] at hn
  obtain ⟨r, r1, r2, r3⟩ := count_loop_conf t.fItems (by omega) (fun k hk => ih k hk (by have := wt_mem hk; omega)) t.fItems.length 0 1 (by omega) (by omega) (by rw [List.drop_zero]; omega)
  rw [List.drop_zero] at r2 r3
  rw [nT_eq]
  exact ⟨r, Ev.step (fun k => by simp only [conf_count.f]; rfl) r1, by omega, by omega⟩

theorem both_loop (l : List T_api_Value) (hl : wts l ≤ 1048576) (ih : ∀ k ∈ l, Ev (fun f => mastref2_ValuesOf.f f k) (nT k : Int)) : ∀ (d j a : Nat), l.length - j ≤ d → j ≤ l.length → a + nTs (l.drop j) ≤ 1048577 →
    Ev (fun f => mastref2_ValuesOf.l0 f (a : Int) l (llen l) (j : Int)) ((a + nTs (l.drop j) : Nat) : Int) := by
  have hlen := len_le l
  have fin : ∀ j a : Nat, l.length ≤ j → Ev (fun f => mastref2_ValuesOf.l0 f (a : Int) l (llen l) (j : Int)) ((a + nTs (l.drop j) : Nat) : Int) := fun j a h => by
    rw [List.drop_eq_nil_of_le h]
    refine Ev.step (g := fun _ => some (a : Int)) (fun k => ?_) (Ev.now fun _ => by simp [nTs])
    simp only [mastref2_ValuesOf.l0, llen_eq, ilt_f (show (l.length : Int) ≤ (j : Int) by omega), cond_false]
  intro d
  induction d with
  | zero => intro j a hd hj hb; exact fin j a (by omega)
  | succ d ihd =>
    intro j a hd hj hb
    rcases Nat.lt_or_ge j l.length with hlt | hge
    · rw [List.drop_eq_getElem_cons hlt] at hb ⊢
      simp only [nTs] at hb ⊢
      have q1 := ihd (j + 1) (a + nT l[j]) (by omega) hlt (by omega)
      have w : wadd .i64 (a : Int) (nT l[j] : Int) = ((a + nT l[j] : Nat) : Int) := by rw [wadd64 (by omega) (by omega)]; omega
      rw [show a + (nT l[j] + nTs (l.drop (j + 1))) = a + nT l[j] + nTs (l.drop (j + 1)) by omega]
      refine Ev.step (g := fun k => (mastref2_ValuesOf.f k l[j]).bind fun y2 => mastref2_ValuesOf.l0 k (wadd .i64 (a : Int) y2) l (llen l) ((j + 1 : Nat) : Int)) (fun k => ?_) (Ev.bind (ih _ (List.getElem_mem hlt)) (by rw [w]; exact q1))
      simp only [mastref2_ValuesOf.l0, llen_eq, ilt_t (show (j : Int) < (l.length : Int) by omega), cond_true, lat_lt hlt, Option.bind_some, eta, u0 (show j ≤ 4611686018427387904 by omega)]
    · exact fin j a hge
theorem values_ok : ∀ t, wt t ≤ 1048576 → Ev (fun f => mastref2_ValuesOf.f f t) (nT t : Int) := tree fun t ih hn => by
  have h0 := nTs_wts t.fItems
  rw [wt_eq] at hn
  have := both_loop t.fItems (by omega) (fun k hk => ih k hk (by have := wt_mem hk; omega)) t.fItems.length 0 1 (by omega) (by omega) (by rw [List.drop_zero]; omega)
  rw [List.drop_zero, Nat.add_comm 1] at this
  rw [nT_eq]
  exact Ev.step (fun k => by simp only [mastref2_ValuesOf.f]; rfl) this
theorem levels_loop_conf (l : List T_api_Value) (hl : wts l ≤ 1048576) (ih : ∀ k ∈ l, Ev (fun f => conf_levels.f f k) (lv k : Int)) : ∀ (d j a : Nat), l.length - j ≤ d → j ≤ l.length → a ≤ 1048576 →
    Ev (fun f => conf_levels.l0 f (a : Int) l (llen l) (j : Int)) ((max a (lvs (l.drop j)) + 1 : Nat) : Int) := by
  have hlen := len_le l
  have hlv := fun k (hk : k ∈ l) => (show lv k ≤ 1048576 by have h1 := wt_mem hk; have h2 := lv_wt k; omega)
  have fin : ∀ j a : Nat, l.length ≤ j → a ≤ 1048576 → Ev (fun f => conf_levels.l0 f (a : Int) l (llen l) (j : Int)) ((max a (lvs (l.drop j)) + 1 : Nat) : Int) := fun j a h ha => by
    rw [List.drop_eq_nil_of_le h]
    refine Ev.step (g := fun _ => some ((max a (lvs []) + 1 : Nat) : Int)) (fun k => ?_) (Ev.now fun _ => rfl)
    simp only [conf_levels.l0, llen_eq, ilt_f (show (l.length : Int) ≤ (j : Int) by omega), cond_false, lvs, u0 (show a ≤ 4611686018427387904 by omega)]
    simp
  intro d
  induction d with
  | zero => intro j a hd hj ha; exact fin j a (by omega) ha
  | succ d ihd =>
    intro j a hd hj ha
    rcases Nat.lt_or_ge j l.length with hlt | hge
    · rw [List.drop_eq_getElem_cons hlt]
      have hk := hlv _ (List.getElem_mem hlt)
      have := ihd (j + 1) (max a (lv l[j])) (by omega) hlt (by omega)
      rw [show max (max a (lv l[j])) (lvs (l.drop (j + 1))) = max a (lvs (l[j] :: l.drop (j + 1))) by simp only [lvs]; omega] at this
      refine Ev.step (g := fun k => (conf_levels.f k l[j]).bind fun y2 => conf_levels.l0 k (imax (a : Int) y2) l (llen l) ((j + 1 : Nat) : Int)) (fun k => ?_) (Ev.bind (ih _ (List.getElem_mem hlt)) (by rw [imax_nat]; exact this))
      simp only [conf_levels.l0, llen_eq, ilt_t (show (j : Int) < (l.length : Int) by omega), cond_true, lat_lt hlt, Option.bind_some, eta, u0 (show j ≤ 4611686018427387904 by omega)]
    · exact fin j a hge ha
theorem levels_conf : ∀ t, wt t ≤ 1048576 → Ev (fun f => conf_levels.f f t) (lv t : Int) := tree fun t ih hn => by
  rw [wt_eq] at hn
  have := levels_loop_conf t.fItems (by omega) (fun k hk => ih k hk (by have := wt_mem hk; omega)) t.fItems.length 0 0 (by omega) (by omega) (by omega)
  rw [List.drop_zero, Nat.zero_max] at this
  rw [lv_eq]
  exact Ev.step (fun k => by simp only [conf_levels.f]; rfl) this

theorem levels_loop_ref (l : List T_api_Value) (hl : wts l ≤ 1048576) (ih : ∀ k ∈ l, Ev (fun f => mastref2_LevelsOf.f f k) (lv k : Int)) : ∀ (d j a : Nat), l.length - j ≤ d → j ≤ l.length → a ≤ 1048576 →
    Ev (fun f => mastref2_LevelsOf.l0 f (a : Int) l (llen l) (j : Int)) ((max a (lvs (l.drop j)) + 1 : Nat) : Int) := by
  have hlen := len_le l
  have hlv := fun k (hk : k ∈ l) => (show lv k ≤ 1048576 by have h1 := wt_mem hk; have h2 := lv_wt k; omega)
  have fin : ∀ j a : Nat, l.length ≤ j → a ≤ 1048576 → Ev (fun f => mastref2_LevelsOf.l0 f (a : Int) l (llen l) (j : Int)) ((max a (lvs (l.drop j)) + 1 : Nat) : Int) := fun j a h ha => by
    rw [List.drop_eq_nil_of_le h]
    refine Ev.step (g := fun _ => some ((max a (lvs []) + 1 : Nat) : Int)) (fun k => ?_) (Ev.now fun _ => rfl)
    simp only [mastref2_LevelsOf.l0, llen_eq, ilt_f (show (l.length : Int) ≤ (j : Int) by omega), cond_false, lvs, u0 (show a ≤ 4611686018427387904 by omega)]
    simp
  intro d
  induction d with
  | zero => intro j a hd hj ha; exact fin j a (by omega) ha
  | succ d ihd =>
    intro j a hd hj ha
    rcases Nat.lt_or_ge j l.length with hlt | hge
    · rw [List.drop_eq_getElem_cons hlt]
      have hk := hlv _ (List.getElem_mem hlt)
      have := ihd (j + 1) (max a (lv l[j])) (by omega) hlt (by omega)
      rw [show max (max a (lv l[j])) (lvs (l.drop (j + 1))) = max a (lvs (l[j] :: l.drop (j + 1))) by simp only [lvs]; omega] at this
      refine Ev.step (g := fun k => (mastref2_LevelsOf.f k l[j]).bind fun y2 => mastref2_LevelsOf.l0 k (imax (a : Int) y2) l (llen l) ((j + 1 : Nat) : Int)) (fun k => ?_) (Ev.bind (ih _ (List.getElem_mem hlt)) (by rw [imax_nat]; exact this))
      simp only [mastref2_LevelsOf.l0, llen_eq, ilt_t (show (j : Int) < (l.length : Int) by omega), cond_true, lat_lt hlt, Option.bind_some, eta, u0 (show j ≤ 4611686018427387904 by omega)]
    · exact fin j a hge ha
theorem levels_ref : ∀ t, wt t ≤ 1048576 → Ev (fun f => mastref2_LevelsOf.f f t) (lv t : Int) := tree fun t ih hn => by
  rw [wt_eq] at hn
  have := levels_loop_ref t.fItems (by omega) (fun k hk => ih k hk (by have := wt_mem hk; omega)) t.fItems.length 0 0 (by omega) (by omega) (by omega)
  rw [List.drop_zero, Nat.zero_max] at this
  rw [lv_eq]
  exact Ev.step (fun k => by simp only [mastref2_LevelsOf.f]; rfl) this


/-! Bad bytes. -/
def badB (b : UInt8) : Bool := ilt (b.toNat : Int) 32 && (!ieq (b.toNat : Int) 9 && !ieq (b.toNat : Int) 10)
def bad (s : ByteArray) : Bool := s.data.toList.any badB
theorem bad_conf (s : ByteArray) (hs : s.size ≤ 2000000) : Ev (fun k => conf_badBytes.f k s) (bad s) := by
  have hl := size_l s
  have h := find_pure s.data.toList 0 (Nat.zero_le _) (fun k j => conf_badBytes.l0 k s (j : Int)) (fun _ => some false) badB (fun _ => true) false
    (fun k j h => by
      simp only [conf_badBytes.l0, slen_l, ilen _ _ h, cond_true, sat_l h, Option.bind_some, u0 (show j ≤ 4611686018427387904 by omega), badB]
      cases ilt (s.data.toList[j].toNat : Int) 32 <;> cases ieq (s.data.toList[j].toNat : Int) 9 <;> cases ieq (s.data.toList[j].toNat : Int) 10 <;> rfl)
    (fun k => by simp only [conf_badBytes.l0, slen_l, ilen', cond_false]) (Ev.now fun _ => rfl)
  rw [List.drop_zero, fl_const] at h
  refine Ev.congr (fun k => by simp only [conf_badBytes.f]; rfl) (show Ev _ (bad s) from ?_)
  unfold bad
  rw [show (s.data.toList.any badB) = (bif s.data.toList.any badB then true else false) by cases s.data.toList.any badB <;> rfl]
  exact h

theorem bad_ref (s : ByteArray) (hs : s.size ≤ 2000000) : Ev (fun k => mastref2_badByte.f k s) (bad s) := by
  have hl := size_l s
  have h := find_pure s.data.toList 0 (Nat.zero_le _) (fun k j => mastref2_badByte.l0 k s (j : Int)) (fun _ => some false) badB (fun _ => true) false
    (fun k j h => by
      simp only [mastref2_badByte.l0, slen_l, ilen _ _ h, cond_true, sat_l h, Option.bind_some, u0 (show j ≤ 4611686018427387904 by omega), badB]
      cases ilt (s.data.toList[j].toNat : Int) 32 <;> cases ieq (s.data.toList[j].toNat : Int) 9 <;> cases ieq (s.data.toList[j].toNat : Int) 10 <;> rfl)
    (fun k => by simp only [mastref2_badByte.l0, slen_l, ilen', cond_false]) (Ev.now fun _ => rfl)
  rw [List.drop_zero, fl_const] at h
  refine Ev.congr (fun k => by simp only [mastref2_badByte.f]; rfl) (show Ev _ (bad s) from ?_)
  unfold bad
  rw [show (s.data.toList.any badB) = (bif s.data.toList.any badB then true else false) by cases s.data.toList.any badB <;> rfl]
  exact h


/-! Keys. -/
def small (c : UInt8) : Bool := bif ile 97 (c.toNat : Int) then ile (c.toNat : Int) 122 else false
def ins (c : UInt8) : Bool := small c || (bif ile 48 (c.toNat : Int) then ile (c.toNat : Int) 57 else false) || ieq (c.toNat : Int) 45 || ieq (c.toNat : Int) 95
def keyL : List UInt8 → Bool
  | [] => false
  | c :: r => decide (r.length < 40) && small c && r.all ins
def key (s : ByteArray) : Bool := keyL s.data.toList
theorem seq_empty (s : ByteArray) : seq s c_empty = s.data.toList.isEmpty := by
  unfold seq
  rw [ByteArray.toList_eq, ByteArray.toList_eq]
  cases h : s.data.toList <;> rfl
theorem all_ins (r : List UInt8) : (bif r.any fun c => !ins c then false else true) = r.all ins := by
  rw [List.all_eq_not_any_not]
  cases r.any fun c => !ins c <;> rfl
theorem key_conf (s : ByteArray) : Ev (fun k => conf_isKey.f k s) (key s) := by
  cases h : s.data.toList with
  | nil => exact Ev.now fun k => by simp only [conf_isKey.f, seq_empty, h, key, keyL, List.isEmpty_nil, cond_true]
  | cons c r =>
    by_cases hl : r.length < 40
    · have hl' : s.data.toList.length ≤ 40 := by rw [h]; simp; omega
      cases hc : small c with
      | false =>
        refine Ev.now fun k => ?_
        simp only [conf_isKey.f, seq_empty, h, key, keyL, List.isEmpty_cons, cond_false, slen_l, ilt_f (show ((c :: r).length : Int) ≤ 40 by rw [← h]; omega), sat_0 h, Option.bind_some, conf_isSmall.f, hc, Bool.and_false, Bool.false_and]
        rw [show (bif ile 97 (c.toNat : Int) then ile (c.toNat : Int) 122 else false) = small c from rfl, hc]
        rfl
      | true =>
        have q := find_pure s.data.toList 1 (by rw [h]; simp) (fun k j => conf_isKey.l0 k s (j : Int)) (fun _ => some true) (fun c => !ins c) (fun _ => false) true
          (fun k j h => by
            simp only [conf_isKey.l0, slen_l, ilen _ _ h, cond_true, sat_l h, Option.bind_some, u0 (show j ≤ 4611686018427387904 by omega), conf_isSmall.f, conf_isDigit.f, ins, small]
            cases (bif ile 97 (s.data.toList[j].toNat : Int) then ile (s.data.toList[j].toNat : Int) 122 else false) <;> cases (bif ile 48 (s.data.toList[j].toNat : Int) then ile (s.data.toList[j].toNat : Int) 57 else false) <;> cases ieq (s.data.toList[j].toNat : Int) 45 <;> cases ieq (s.data.toList[j].toNat : Int) 95 <;> rfl)
          (fun k => by simp only [conf_isKey.l0, slen_l, ilen', cond_false]) (Ev.now fun _ => rfl)
        rw [fl_const, h, List.drop_succ_cons, List.drop_zero, all_ins] at q
        have e : key s = r.all ins := by unfold key; rw [h]; simp [keyL, hl, hc]
        rw [e]
        refine Ev.congr (fun k => ?_) q
        simp only [conf_isKey.f, seq_empty, h, List.isEmpty_cons, cond_false, slen_l, ilt_f (show ((c :: r).length : Int) ≤ 40 by rw [← h]; omega), sat_0 h, Option.bind_some, conf_isSmall.f]
        rw [show (bif ile 97 (c.toNat : Int) then ile (c.toNat : Int) 122 else false) = small c from rfl, hc]
        rfl
    · refine Ev.now fun k => ?_
      simp only [conf_isKey.f, seq_empty, h, key, keyL, List.isEmpty_cons, cond_false, slen_l, ilt_t (show (40 : Int) < ((c :: r).length : Int) by simp; omega), cond_true, decide_eq_false hl, Bool.false_and]

theorem mem_dw {α : Type} {p : α → Bool} : ∀ {l : List α} {x : α}, x ∈ l → p x = false → x ∈ l.dropWhile p
  | a :: l, x, h, hp => by
    rw [List.dropWhile_cons]
    split
    · rename_i ha
      rcases List.mem_cons.1 h with rfl | h
      · rw [hp] at ha; cases ha
      · exact mem_dw h hp
    · exact h
theorem dw_nil {α : Type} {p : α → Bool} : ∀ {l : List α}, (∀ x ∈ l, p x = true) → l.dropWhile p = []
  | [], _ => rfl
  | a :: l, h => by rw [List.dropWhile_cons, if_pos (h a (List.mem_cons_self ..))]; exact dw_nil fun x hx => h x (List.mem_cons_of_mem _ hx)
theorem trim_nil (l cs : List UInt8) : (Lib.trimS l cs).isEmpty = l.all (cs.contains ·) := by
  unfold Lib.trimS Lib.trimLeftS Lib.trimRightS
  cases h : l.all (cs.contains ·) with
  | true =>
    have h := List.all_eq_true.1 h
    rw [dw_nil (l := l.reverse) fun x hx => h x (List.mem_reverse.1 hx)]
    rfl
  | false =>
    obtain ⟨x, hx, hp⟩ : ∃ x ∈ l, cs.contains x = false := by
      rcases List.all_eq_false.1 h with ⟨x, hx, hp⟩
      exact ⟨x, hx, by simpa using hp⟩
    have h1 : x ∈ (l.reverse.dropWhile (cs.contains ·)).reverse := List.mem_reverse.2 (mem_dw (List.mem_reverse.2 hx) hp)
    have h2 := mem_dw h1 hp
    cases e : List.dropWhile (cs.contains ·) (l.reverse.dropWhile (cs.contains ·)).reverse with
    | nil => rw [e] at h2; cases h2
    | cons _ _ => rfl
theorem set_ins (c : UInt8) : c_abcdefghijklmnopqrst_0e2e2cf4.data.toList.contains c = ins c := by
  have h : ∀ n : Fin 256, c_abcdefghijklmnopqrst_0e2e2cf4.data.toList.contains (UInt8.ofNat n.val) = ins (UInt8.ofNat n.val) := by decide +kernel
  have := h ⟨c.toNat, c.toNat_lt⟩
  simpa using this
theorem keyR_ok (s : ByteArray) (hs : s.size ≤ 2000000) : mastref2_IsKey.f s = some (key s) := by
  unfold mastref2_IsKey.f key
  rw [seq_empty, slen_l]
  have hc : strings_Trim.f s c_abcdefghijklmnopqrst_0e2e2cf4 = some ⟨(Lib.trimS s.data.toList c_abcdefghijklmnopqrst_0e2e2cf4.data.toList).toArray⟩ := by
    unfold strings_Trim.f
    rw [if_pos ⟨by omega, by decide, by decide +kernel⟩]
  rw [hc]
  cases h : s.data.toList with
  | nil => simp [keyL]
  | cons c r =>
    simp only [List.isEmpty_cons, cond_false, sat_0 h, Option.bind_some, keyL]
    by_cases hl : r.length < 40
    · rw [ilt_f (show ((c :: r).length : Int) ≤ 40 by simp; omega), cond_false, decide_eq_true hl, Bool.true_and]
      unfold small
      rw [ilt_d, ilt_d, ile_d, ile_d]
      by_cases h1 : (c.toNat : Int) < 97
      · simp [h1, show ¬ (97 : Int) ≤ c.toNat by omega]
      · by_cases h2 : (122 : Int) < c.toNat
        · simp [h1, h2, show ¬ (c.toNat : Int) ≤ 122 by omega]
        · rw [decide_eq_false h1, decide_eq_false h2, decide_eq_true (show (97 : Int) ≤ c.toNat by omega), decide_eq_true (show (c.toNat : Int) ≤ 122 by omega)]
          simp only [cond_false, cond_true, Bool.true_and]
          rw [seq_empty]
          show some (Lib.trimS (c :: r) _).isEmpty = _
          rw [trim_nil, show (fun x => c_abcdefghijklmnopqrst_0e2e2cf4.data.toList.contains x) = ins from funext set_ins, List.all_cons]
          have : ins c = true := by
            unfold ins small
            rw [ile_t (show (97 : Int) ≤ c.toNat by omega), ile_t (show (c.toNat : Int) ≤ 122 by omega)]
            rfl
          rw [this]; rfl
    · rw [ilt_t (show (40 : Int) < ((c :: r).length : Int) by simp; omega), cond_true, decide_eq_false hl]
      rfl

/-- What is wrong with the keys. -/
def ks : Option ByteArray → List ByteArray → Int
  | _, [] => 0
  | p, x :: r => bif !key x then 12 else bif (match p with | none => false | some y => sle x y) then 5 else ks (some x) r
def prev (l : List ByteArray) : Nat → Option ByteArray
  | 0 => none
  | j + 1 => l[j]?
theorem prev_succ {l : List ByteArray} {j : Nat} (h : j < l.length) : prev l (j + 1) = some l[j] := List.getElem?_eq_getElem h
theorem keys_loop_conf (k0 : Int) (b0 : Bool) (i0 : Int) (t0 : ByteArray) (is0 : List T_api_Value) (l : List ByteArray) (hl : kz l ≤ 1048576) : ∀ (d j : Nat), l.length - j ≤ d → j ≤ l.length →
    Ev (fun k => conf_valueFault.l1 k k0 b0 i0 t0 is0 l l (llen l) (j : Int)) (ks (prev l j) (l.drop j)) := by
  have hlen := klen_le l
  intro d
  have fin : ∀ j : Nat, l.length ≤ j → Ev (fun k => conf_valueFault.l1 k k0 b0 i0 t0 is0 l l (llen l) (j : Int)) (ks (prev l j) (l.drop j)) := fun j h => by
    rw [List.drop_eq_nil_of_le h]
    refine Ev.step (fun k => ?_) (show Ev (fun _ => some 0) (ks (prev l j) []) from Ev.now fun _ => rfl)
    simp only [conf_valueFault.l1, llen_eq, ilt_f (show (l.length : Int) ≤ (j : Int) by omega), cond_false]
  induction d with
  | zero => intro j hd hj; exact fin j (by omega)
  | succ d ihd =>
    intro j hd hj
    rcases Nat.lt_or_ge j l.length with hlt | hge
    · rw [List.drop_eq_getElem_cons hlt]
      have hr := ihd (j + 1) (by omega) hlt
      rw [prev_succ hlt] at hr
      have hkz := kz_mem (List.getElem_mem hlt)
      cases hk : key l[j] with
      | false =>
        refine Ev.step (fun k => by simp only [conf_valueFault.l1, llen_eq, ilt_t (show (j : Int) < (l.length : Int) by omega), cond_true, lat_lt hlt, Option.bind_some]; rfl) (Ev.bind (key_conf l[j]) ?_)
        rw [hk]
        exact Ev.now fun _ => by simp [ks, hk]
      | true =>
        cases j with
        | zero =>
          have e : ks (prev l 0) (l[0] :: l.drop 1) = ks (some l[0]) (l.drop 1) := by simp [ks, hk, prev]
          rw [e]
          refine Ev.step (fun k => by simp only [conf_valueFault.l1, llen_eq, ilt_t (show ((0 : Nat) : Int) < (l.length : Int) by omega), cond_true, lat_lt hlt, Option.bind_some]; rfl) (Ev.bind (key_conf l[0]) ?_)
          rw [hk]
          simp only [Bool.not_true, cond_false, ilt_f (show ((0 : Nat) : Int) ≤ 0 by omega), u0 (show 0 ≤ 4611686018427387904 by omega)]
          exact hr
        | succ i =>
          have hi : i < l.length := by omega
          have w : wsub .i64 ((i + 1 : Nat) : Int) 1 = (i : Int) := by rw [wsub64 (by omega) (by omega)]; omega
          rw [prev_succ hi]
          cases hle : sle l[i + 1] l[i] with
          | true =>
            have e : ks (some l[i]) (l[i + 1] :: l.drop (i + 1 + 1)) = 5 := by simp [ks, hk, hle]
            rw [e]
            refine Ev.step (fun k => by simp only [conf_valueFault.l1, llen_eq, ilt_t (show ((i + 1 : Nat) : Int) < (l.length : Int) by omega), cond_true, lat_lt hlt, Option.bind_some]; rfl) (Ev.bind (key_conf l[i + 1]) ?_)
            rw [hk]
            simp only [Bool.not_true, cond_false, ilt_t (show (0 : Int) < ((i + 1 : Nat) : Int) by omega), cond_true, w, lat_lt hi, Option.bind_some, hle, u0 (show i + 1 ≤ 4611686018427387904 by omega)]
            exact Ev.now fun _ => rfl
          | false =>
            have e : ks (some l[i]) (l[i + 1] :: l.drop (i + 1 + 1)) = ks (some l[i + 1]) (l.drop (i + 1 + 1)) := by simp [ks, hk, hle]
            rw [e]
            refine Ev.step (fun k => by simp only [conf_valueFault.l1, llen_eq, ilt_t (show ((i + 1 : Nat) : Int) < (l.length : Int) by omega), cond_true, lat_lt hlt, Option.bind_some]; rfl) (Ev.bind (key_conf l[i + 1]) ?_)
            rw [hk]
            simp only [Bool.not_true, cond_false, ilt_t (show (0 : Int) < ((i + 1 : Nat) : Int) by omega), cond_true, w, lat_lt hi, Option.bind_some, hle, u0 (show i + 1 ≤ 4611686018427387904 by omega)]
            exact hr
    · exact fin j hge
theorem keys_conf (k0 : Int) (b0 : Bool) (i0 : Int) (t0 : ByteArray) (is0 : List T_api_Value) (l : List ByteArray) (hl : kz l ≤ 1048576) : Ev (fun k => conf_valueFault.l1 k k0 b0 i0 t0 is0 l l (llen l) 0) (ks none l) := by
  have := keys_loop_conf k0 b0 i0 t0 is0 l hl  l.length 0 (by omega) (by omega)
  rw [List.drop_zero] at this
  exact this

theorem keys_loop_ref (k0 : Int) (b0 : Bool) (i0 : Int) (t0 : ByteArray) (is0 : List T_api_Value) (l : List ByteArray) (hl : kz l ≤ 1048576) (e : Int) (he : Ev (fun k => mastref2_eachValue.l1 k is0 (llen is0) 0) e) : ∀ (d j : Nat), l.length - j ≤ d → j ≤ l.length →
    Ev (fun k => mastref2_eachValue.l0 k k0 b0 i0 t0 is0 l l (llen l) (j : Int)) (bif ieq (ks (prev l j) (l.drop j)) 0 then e else ks (prev l j) (l.drop j)) := by
  have hlen := klen_le l
  intro d
  have fin : ∀ j : Nat, l.length ≤ j → Ev (fun k => mastref2_eachValue.l0 k k0 b0 i0 t0 is0 l l (llen l) (j : Int)) (bif ieq (ks (prev l j) (l.drop j)) 0 then e else ks (prev l j) (l.drop j)) := fun j h => by
    rw [List.drop_eq_nil_of_le h]
    refine Ev.step (fun k => ?_) (show Ev (fun k => mastref2_eachValue.l1 k is0 (llen is0) 0) (bif ieq (ks (prev l j) []) 0 then e else ks (prev l j) []) from he)
    simp only [mastref2_eachValue.l0, llen_eq, ilt_f (show (l.length : Int) ≤ (j : Int) by omega), cond_false]
  induction d with
  | zero => intro j hd hj; exact fin j (by omega)
  | succ d ihd =>
    intro j hd hj
    rcases Nat.lt_or_ge j l.length with hlt | hge
    · rw [List.drop_eq_getElem_cons hlt]
      have hr := ihd (j + 1) (by omega) hlt
      rw [prev_succ hlt] at hr
      have hkz := kz_mem (List.getElem_mem hlt)
      cases hk : key l[j] with
      | false =>
        refine Ev.step (g := fun _ => some 12) (fun k => ?_) (Ev.now fun _ => by simp [ks, hk, ieq])
        simp only [mastref2_eachValue.l0, llen_eq, ilt_t (show (j : Int) < (l.length : Int) by omega), cond_true, lat_lt hlt, Option.bind_some, keyR_ok l[j] (by omega), hk, Bool.not_false]
      | true =>
        cases j with
        | zero =>
          have e : ks (prev l 0) (l[0] :: l.drop 1) = ks (some l[0]) (l.drop 1) := by simp [ks, hk, prev]
          rw [e]
          refine Ev.step (fun k => ?_) hr
          simp only [mastref2_eachValue.l0, llen_eq, ilt_t (show ((0 : Nat) : Int) < (l.length : Int) by omega), cond_true, lat_lt hlt, Option.bind_some, keyR_ok l[0] (by omega), hk, Bool.not_true, cond_false, ilt_f (show ((0 : Nat) : Int) ≤ 0 by omega), u0 (show 0 ≤ 4611686018427387904 by omega)]
        | succ i =>
          have hi : i < l.length := by omega
          have w : wsub .i64 ((i + 1 : Nat) : Int) 1 = (i : Int) := by rw [wsub64 (by omega) (by omega)]; omega
          rw [prev_succ hi]
          cases hle : sle l[i + 1] l[i] with
          | true =>
            have e : ks (some l[i]) (l[i + 1] :: l.drop (i + 1 + 1)) = 5 := by simp [ks, hk, hle]
            rw [e]
            refine Ev.step (g := fun _ => some 5) (fun k => ?_) (Ev.now fun _ => rfl)
            simp only [mastref2_eachValue.l0, llen_eq, ilt_t (show ((i + 1 : Nat) : Int) < (l.length : Int) by omega), cond_true, lat_lt hlt, Option.bind_some, keyR_ok l[i + 1] (by omega), hk, Bool.not_true, cond_false, ilt_t (show (0 : Int) < ((i + 1 : Nat) : Int) by omega), w, lat_lt hi, hle, u0 (show i + 1 ≤ 4611686018427387904 by omega)]
          | false =>
            have e : ks (some l[i]) (l[i + 1] :: l.drop (i + 1 + 1)) = ks (some l[i + 1]) (l.drop (i + 1 + 1)) := by simp [ks, hk, hle]
            rw [e]
            refine Ev.step (fun k => ?_) hr
            simp only [mastref2_eachValue.l0, llen_eq, ilt_t (show ((i + 1 : Nat) : Int) < (l.length : Int) by omega), cond_true, lat_lt hlt, Option.bind_some, keyR_ok l[i + 1] (by omega), hk, Bool.not_true, cond_false, ilt_t (show (0 : Int) < ((i + 1 : Nat) : Int) by omega), w, lat_lt hi, hle, u0 (show i + 1 ≤ 4611686018427387904 by omega)]
    · exact fin j hge
theorem keys_ref (k0 : Int) (b0 : Bool) (i0 : Int) (t0 : ByteArray) (is0 : List T_api_Value) (l : List ByteArray) (hl : kz l ≤ 1048576) (e : Int) (he : Ev (fun k => mastref2_eachValue.l1 k is0 (llen is0) 0) e) : Ev (fun k => mastref2_eachValue.l0 k k0 b0 i0 t0 is0 l l (llen l) 0) (bif ieq (ks none l) 0 then e else ks (none) (l)) := by
  have := keys_loop_ref k0 b0 i0 t0 is0 l hl e he l.length 0 (by omega) (by omega)
  rw [List.drop_zero] at this
  exact this


/-! One value. -/
def un (v : T_api_Value) : Bool := (v.fBool && !ieq v.fKind 1) || ((!ieq v.fInt 0 && !ieq v.fKind 2) && !ieq v.fKind 4) || (!seq v.fText c_empty && !ieq v.fKind 3) || ((ilt 0 (llen v.fItems) && !ieq v.fKind 5) && !ieq v.fKind 6) || (ilt 0 (llen v.fKeys) && !ieq v.fKind 6)
def un2 (v : T_api_Value) : Bool := ieq v.fKind 6 && !ieq (llen v.fKeys) (llen v.fItems)
def own (v : T_api_Value) : Int :=
  bif ilt v.fKind 0 || ilt 6 v.fKind then 10 else bif un v || un2 v then 1 else bif ieq v.fKind 4 && (ilt v.fInt 0 || ilt 84005 v.fInt) then 2 else bif ilt 5000 (slen v.fText) then 4 else bif bad v.fText then 9 else ks none v.fKeys
mutual
def vf : T_api_Value → Int
  | ⟨k, b, i, t, is, s⟩ => bif ieq (own ⟨k, b, i, t, is, s⟩) 0 then vfs is else own ⟨k, b, i, t, is, s⟩
def vfs : List T_api_Value → Int
  | [] => 0
  | t :: r => bif ieq (vf t) 0 then vfs r else vf t
end
theorem vf_eq (t : T_api_Value) : vf t = bif ieq (own t) 0 then vfs t.fItems else own t := by cases t; simp [vf]
theorem vfs_find : ∀ (l : List T_api_Value) (v : Int), (∃ t ∈ l, vf t ≠ 0 ∧ True) ∨ vfs l = 0 := fun l v => by
  induction l with
  | nil => exact .inr rfl
  | cons a l ih =>
    by_cases h : vf a = 0
    · rcases ih with ⟨t, h1, h2⟩ | h2
      · exact .inl ⟨t, List.mem_cons_of_mem _ h1, h2⟩
      · right; simp only [vfs, ieq_t h, cond_true]; exact h2
    · exact .inl ⟨a, List.mem_cons_self .., h, trivial⟩
theorem items_conf (l : List T_api_Value) (hl : wts l ≤ 1048576) (ih : ∀ k ∈ l, Ev (fun f => conf_valuesFault.f f k) (vf k)) : Ev (fun k => conf_valuesFault.l0 k l (llen l) 0) (vfs l) := by
  have hlen := len_le l
  have : ∀ (d j : Nat), l.length - j ≤ d → j ≤ l.length → Ev (fun k => conf_valuesFault.l0 k l (llen l) (j : Int)) (vfs (l.drop j)) := by
    intro d
    have fin : ∀ j : Nat, l.length ≤ j → Ev (fun k => conf_valuesFault.l0 k l (llen l) (j : Int)) (vfs (l.drop j)) := fun j h => by
      rw [List.drop_eq_nil_of_le h]
      refine Ev.step (g := fun _ => some 0) (fun k => ?_) (Ev.now fun _ => rfl)
      simp only [conf_valuesFault.l0, llen_eq, ilt_f (show (l.length : Int) ≤ (j : Int) by omega), cond_false]
    induction d with
    | zero => intro j hd hj; exact fin j (by omega)
    | succ d ihd =>
      intro j hd hj
      rcases Nat.lt_or_ge j l.length with hlt | hge
      · rw [List.drop_eq_getElem_cons hlt]
        refine Ev.step (fun k => by simp only [conf_valuesFault.l0, llen_eq, ilt_t (show (j : Int) < (l.length : Int) by omega), cond_true, lat_lt hlt, Option.bind_some, eta]; rfl) (Ev.bind (ih _ (List.getElem_mem hlt)) ?_)
        simp only [vfs, u0 (show j ≤ 4611686018427387904 by omega)]
        cases ieq (vf l[j]) 0 with
        | true => exact ihd (j + 1) (by omega) hlt
        | false => exact Ev.now fun _ => rfl
      · exact fin j hge
  have := this l.length 0 (by omega) (by omega)
  rw [List.drop_zero] at this
  exact this

theorem items_ref (l : List T_api_Value) (hl : wts l ≤ 1048576) (ih : ∀ k ∈ l, Ev (fun f => mastref2_eachValue.f f k) (vf k)) : Ev (fun k => mastref2_eachValue.l1 k l (llen l) 0) (vfs l) := by
  have hlen := len_le l
  have : ∀ (d j : Nat), l.length - j ≤ d → j ≤ l.length → Ev (fun k => mastref2_eachValue.l1 k l (llen l) (j : Int)) (vfs (l.drop j)) := by
    intro d
    have fin : ∀ j : Nat, l.length ≤ j → Ev (fun k => mastref2_eachValue.l1 k l (llen l) (j : Int)) (vfs (l.drop j)) := fun j h => by
      rw [List.drop_eq_nil_of_le h]
      refine Ev.step (g := fun _ => some 0) (fun k => ?_) (Ev.now fun _ => rfl)
      simp only [mastref2_eachValue.l1, llen_eq, ilt_f (show (l.length : Int) ≤ (j : Int) by omega), cond_false]
    induction d with
    | zero => intro j hd hj; exact fin j (by omega)
    | succ d ihd =>
      intro j hd hj
      rcases Nat.lt_or_ge j l.length with hlt | hge
      · rw [List.drop_eq_getElem_cons hlt]
        refine Ev.step (fun k => by simp only [mastref2_eachValue.l1, llen_eq, ilt_t (show (j : Int) < (l.length : Int) by omega), cond_true, lat_lt hlt, Option.bind_some, eta]; rfl) (Ev.bind (ih _ (List.getElem_mem hlt)) ?_)
        simp only [vfs, u0 (show j ≤ 4611686018427387904 by omega)]
        cases ieq (vf l[j]) 0 with
        | true => exact ihd (j + 1) (by omega) hlt
        | false => exact Ev.now fun _ => rfl
      · exact fin j hge
  have := this l.length 0 (by omega) (by omega)
  rw [List.drop_zero] at this
  exact this


theorem unused_ok (v : T_api_Value) : Ev (fun k => conf_unused.f k v) (un v || un2 v) := by
  have l0 : ∀ b : Bool, Ev (fun k => conf_unused.l0 k v.fKind v.fBool v.fInt v.fText v.fItems v.fKeys v.fKind b) (b || ((ilt 0 (llen v.fItems) && !ieq v.fKind 5) && !ieq v.fKind 6) || (ilt 0 (llen v.fKeys) && !ieq v.fKind 6) || un2 v) := fun b => by
    refine Ev.step (g := fun _ => some (b || ((ilt 0 (llen v.fItems) && !ieq v.fKind 5) && !ieq v.fKind 6) || (ilt 0 (llen v.fKeys) && !ieq v.fKind 6) || un2 v)) (fun k => ?_) (Ev.now fun _ => rfl)
    simp only [conf_unused.l0, un2]
    cases b <;> cases ilt 0 (llen v.fItems) <;> cases ieq v.fKind 5 <;> cases ieq v.fKind 6 <;> cases ilt 0 (llen v.fKeys) <;> cases ieq (llen v.fKeys) (llen v.fItems) <;> rfl
  have l1 := l0 (v.fBool && !ieq v.fKind 1 || ((!ieq v.fInt 0 && !ieq v.fKind 2) && !ieq v.fKind 4) || (!seq v.fText c_empty && !ieq v.fKind 3))
  refine Ev.congr (fun k => ?_) l1
  simp only [conf_unused.f]
  cases v.fBool <;> cases ieq v.fKind 1 <;> cases ieq v.fInt 0 <;> cases ieq v.fKind 2 <;> cases ieq v.fKind 4 <;> cases seq v.fText c_empty <;> cases ieq v.fKind 3 <;> rfl

theorem own_ok (v : T_api_Value) (hv : wt v ≤ 1048576) : Ev (fun k => conf_valueFault.f k v) (own v) := by
  rw [wt_eq] at hv
  have l0 : ∀ b : Bool, Ev (fun k => conf_valueFault.l0 k v.fKind v.fBool v.fInt v.fText v.fItems v.fKeys b) (bif b then 2 else bif ilt 5000 (slen v.fText) then 4 else bif bad v.fText then 9 else ks none v.fKeys) := fun b => by
    cases b with
    | true => exact Ev.step (g := fun _ => some 2) (fun k => by simp only [conf_valueFault.l0, cond_true]) (Ev.now fun _ => rfl)
    | false =>
      simp only [cond_false]
      cases h : ilt 5000 (slen v.fText) with
      | true => exact Ev.step (g := fun _ => some 4) (fun k => by simp only [conf_valueFault.l0, cond_false, h, cond_true]) (Ev.now fun _ => rfl)
      | false =>
        simp only [cond_false]
        refine Ev.step (fun k => by simp only [conf_valueFault.l0, cond_false, h]; rfl) (Ev.bind (bad_conf v.fText (by omega)) ?_)
        cases bad v.fText with
        | true => exact Ev.now fun _ => rfl
        | false =>
          simp only [cond_false]
          exact keys_conf v.fKind v.fBool v.fInt v.fText v.fItems v.fKeys (by omega)
  unfold own
  cases h : ilt v.fKind 0 || ilt 6 v.fKind with
  | true =>
    refine Ev.now fun k => ?_
    simp only [conf_valueFault.f]
    rw [show (bif ilt v.fKind 0 then true else ilt 6 v.fKind) = true by rw [← h]; cases ilt v.fKind 0 <;> rfl]
    rfl
  | false =>
    simp only [cond_false]
    refine Ev.congr (g := fun k => (conf_unused.f k v).bind fun y1 => bif y1 then some 1 else bif ieq v.fKind 4 then (conf_badDay.f v.fInt).bind fun y2 => conf_valueFault.l0 k v.fKind v.fBool v.fInt v.fText v.fItems v.fKeys y2 else conf_valueFault.l0 k v.fKind v.fBool v.fInt v.fText v.fItems v.fKeys false) (fun k => ?_) (Ev.bind (unused_ok v) ?_)
    · simp only [conf_valueFault.f, eta]
      rw [show (bif ilt v.fKind 0 then true else ilt 6 v.fKind) = false by rw [← h]; cases ilt v.fKind 0 <;> rfl]
      rfl
    · cases un v || un2 v with
      | true => exact Ev.now fun _ => rfl
      | false =>
        simp only [cond_false]
        cases h4 : ieq v.fKind 4 with
        | false => simpa using l0 false
        | true =>
          have := l0 (ilt v.fInt 0 || ilt 84005 v.fInt)
          simp only [cond_true, conf_badDay.f, Option.bind_some, Bool.true_and]
          rw [show (bif ilt v.fInt 0 then true else ilt 84005 v.fInt) = (ilt v.fInt 0 || ilt 84005 v.fInt) by cases ilt v.fInt 0 <;> rfl]
          exact this

theorem vf_ok : ∀ v, wt v ≤ 1048576 → Ev (fun k => conf_valuesFault.f k v) (vf v) := tree fun v ih hv => by
  have hv' := hv
  rw [wt_eq] at hv'
  rw [vf_eq]
  refine Ev.step (g := fun k => (conf_valueFault.f k v).bind fun y1 => bif !ieq y1 0 then some y1 else conf_valuesFault.l0 k v.fItems (llen v.fItems) 0) (fun k => by simp only [conf_valuesFault.f, eta]) (Ev.bind (own_ok v hv) ?_)
  cases h : ieq (own v) 0 with
  | false => exact Ev.now fun _ => rfl
  | true => exact items_conf v.fItems (by omega) fun k hk => ih k hk (by have := wt_mem hk; omega)

theorem vfR_ok : ∀ v, wt v ≤ 1048576 → Ev (fun k => mastref2_eachValue.f k v) (vf v) := tree fun v ih hv => by
  rw [wt_eq] at hv
  have li := items_ref v.fItems (by omega) fun k hk => ih k hk (by have := wt_mem hk; omega)
  have lk := keys_ref v.fKind v.fBool v.fInt v.fText v.fItems v.fKeys (by omega) (vfs v.fItems) li
  have lb := bad_ref v.fText (by omega)
  rw [vf_eq]
  cases hk : ilt v.fKind 0 || ilt 6 v.fKind with
  | true =>
    refine Ev.step (g := fun _ => some 10) (fun k => ?_) (Ev.now fun _ => by simp [own, hk, ieq])
    simp only [mastref2_eachValue.f]
    rw [show (bif ilt v.fKind 0 then true else ilt 6 v.fKind) = true by rw [← hk]; cases ilt v.fKind 0 <;> rfl]
    rfl
  | false =>
    have e1 : (bif ilt v.fKind 0 then true else ilt 6 v.fKind) = false := by rw [← hk]; cases ilt v.fKind 0 <;> rfl
    have e2 : (bif (bif (bif (bif (bif v.fBool then (!ieq v.fKind 1) else false) then true else (bif (bif (!ieq v.fInt 0) then (!ieq v.fKind 2) else false) then (!ieq v.fKind 4) else false)) then true else (bif (!seq v.fText c_empty) then (!ieq v.fKind 3) else false)) then true else (bif (bif (ilt 0 (llen v.fItems)) then (!ieq v.fKind 5) else false) then (!ieq v.fKind 6) else false)) then true else (bif (ilt 0 (llen v.fKeys)) then (!ieq v.fKind 6) else false)) = un v := by
      unfold un
      cases v.fBool <;> cases ieq v.fKind 1 <;> cases ieq v.fInt 0 <;> cases ieq v.fKind 2 <;> cases ieq v.fKind 4 <;> cases seq v.fText c_empty <;> cases ieq v.fKind 3 <;> cases ilt 0 (llen v.fItems) <;> cases ieq v.fKind 5 <;> cases ieq v.fKind 6 <;> cases ilt 0 (llen v.fKeys) <;> rfl
    have e3 : (bif ieq v.fKind 6 then (!ieq (llen v.fKeys) (llen v.fItems)) else false) = un2 v := by
      unfold un2
      cases ieq v.fKind 6 <;> rfl
    have e4 : (bif ieq v.fKind 4 then (bif ilt v.fInt 0 then true else ilt 84005 v.fInt) else false) = (ieq v.fKind 4 && (ilt v.fInt 0 || ilt 84005 v.fInt)) := by
      cases ieq v.fKind 4 <;> cases ilt v.fInt 0 <;> rfl
    have st : ∀ k, mastref2_eachValue.f (k + 1) v = bif un v then some 1 else bif un2 v then some 1 else bif (ieq v.fKind 4 && (ilt v.fInt 0 || ilt 84005 v.fInt)) then some 2 else bif ilt 5000 (slen v.fText) then some 4 else (mastref2_badByte.f k v.fText).bind fun y1 => bif y1 then some 9 else mastref2_eachValue.l0 k v.fKind v.fBool v.fInt v.fText v.fItems v.fKeys v.fKeys (llen v.fKeys) 0 := fun k => by
      simp only [mastref2_eachValue.f, e1, e2, e3, e4, cond_false]
    cases h1 : un v with
    | true => exact Ev.step (g := fun _ => some 1) (fun k => by rw [st, h1]; rfl) (Ev.now fun _ => by simp [own, hk, h1, ieq])
    | false =>
      cases h2 : un2 v with
      | true => exact Ev.step (g := fun _ => some 1) (fun k => by rw [st, h1, h2]; rfl) (Ev.now fun _ => by simp [own, hk, h1, h2, ieq])
      | false =>
        cases h3 : (ieq v.fKind 4 && (ilt v.fInt 0 || ilt 84005 v.fInt)) with
        | true => exact Ev.step (g := fun _ => some 2) (fun k => by rw [st, h1, h2, h3]; rfl) (Ev.now fun _ => by rw [show own v = 2 by unfold own; rw [hk, h1, h2, h3]; rfl]; rfl)
        | false =>
          cases h4 : ilt 5000 (slen v.fText) with
          | true => exact Ev.step (g := fun _ => some 4) (fun k => by rw [st, h1, h2, h3, h4]; rfl) (Ev.now fun _ => by rw [show own v = 4 by unfold own; rw [hk, h1, h2, h3, h4]; rfl]; rfl)
          | false =>
            have eo : own v = bif bad v.fText then 9 else ks none v.fKeys := by simp [own, hk, h1, h2, h3, h4]
            rw [eo]
            refine Ev.step (fun k => by rw [st, h1, h2, h3, h4]; rfl) (Ev.bind lb ?_)
            cases bad v.fText with
            | true => exact Ev.now fun _ => rfl
            | false => exact lk

/-- The check. -/
def chk (v : T_api_Value) : Int := bif decide (1000 < nT v) then 4 else bif decide (8 < lv v) then 13 else vf v
theorem chk_ok (v : T_api_Value) (hv : wt v ≤ 1048576) : Ev (fun k => conf_Check.f k v) (chk v) := by
  obtain ⟨r, r1, r2, r3⟩ := count_conf v hv
  refine Ev.congr (g := fun k => (conf_count.f k v).bind fun y1 => bif ilt 1000 y1 then some 4 else (conf_levels.f k v).bind fun y2 => bif ilt 8 y2 then some 13 else (conf_valuesFault.f k v).bind fun y3 => some y3) (fun k => by simp only [conf_Check.f, eta]) (Ev.bind r1 ?_)
  unfold chk
  by_cases c : 1000 < nT v
  · rw [ilt_t (show (1000 : Int) < (r : Int) by omega), decide_eq_true c]; exact Ev.now fun _ => rfl
  · rw [ilt_f (show (r : Int) ≤ 1000 by omega), decide_eq_false c]
    refine Ev.bind (levels_conf v hv) ?_
    by_cases c2 : 8 < lv v
    · rw [ilt_t (show (8 : Int) < (lv v : Int) by omega), decide_eq_true c2]; exact Ev.now fun _ => rfl
    · rw [ilt_f (show (lv v : Int) ≤ 8 by omega), decide_eq_false c2]
      exact Ev.bind (vf_ok v hv) (Ev.now fun _ => rfl)
theorem chkR_ok (v : T_api_Value) (hv : wt v ≤ 1048576) : Ev (fun k => mastref2_ConfCheck.f k v) (chk v) := by
  refine Ev.congr (g := fun k => (mastref2_ValuesOf.f k v).bind fun y1 => bif ilt 1000 y1 then some 4 else (mastref2_LevelsOf.f k v).bind fun y2 => bif ilt 8 y2 then some 13 else (mastref2_eachValue.f k v).bind fun y3 => some y3) (fun k => by simp only [mastref2_ConfCheck.f, eta]) (Ev.bind (values_ok v hv) ?_)
  unfold chk
  by_cases c : 1000 < nT v
  · rw [ilt_t (show (1000 : Int) < (nT v : Int) by omega), decide_eq_true c]; exact Ev.now fun _ => rfl
  · rw [ilt_f (show (nT v : Int) ≤ 1000 by omega), decide_eq_false c]
    refine Ev.bind (levels_ref v hv) ?_
    by_cases c2 : 8 < lv v
    · rw [ilt_t (show (8 : Int) < (lv v : Int) by omega), decide_eq_true c2]; exact Ev.now fun _ => rfl
    · rw [ilt_f (show (lv v : Int) ≤ 8 by omega), decide_eq_false c2]
      exact Ev.bind (vfR_ok v hv) (Ev.now fun _ => rfl)
/-! Pieces between dots. -/
def pcs (c : UInt8) : List UInt8 → List (List UInt8)
  | [] => [[]]
  | b :: l => if b = c then [] :: pcs c l else match pcs c l with
    | [] => [[b]]
    | p :: r => (b :: p) :: r
theorem splitK_pcs (c : UInt8) : ∀ l : List UInt8, Lib.splitK [c] 0 (l.count c) l = pcs c l
  | [] => rfl
  | b :: l => by
    have ih := splitK_pcs c l
    by_cases h : b = c
    · subst h
      rw [List.count_cons_self]
      have hx : Lib.index (b :: l) [b] = 0 := by
        unfold Lib.index
        rw [if_pos (by simp [List.isPrefixOf])]
      unfold Lib.splitK
      rw [hx]
      simp only [pcs, if_true]
      rw [if_neg (by decide)]
      simp [ih]
    · rw [List.count_cons_of_ne (fun e => h e)]
      have hx : Lib.index (b :: l) [c] = if Lib.index l [c] == -1 then -1 else Lib.index l [c] + 1 := by
        conv => lhs; unfold Lib.index
        rw [if_neg (by simp [List.isPrefixOf]; exact fun e => h e.symm)]
      simp only [pcs, if_neg h]
      cases hn : l.count c with
      | zero =>
        rw [hn] at ih
        rw [← ih]; rfl
      | succ n =>
        rw [hn] at ih
        rw [← ih]
        unfold Lib.splitK
        rw [hx]
        by_cases hm : Lib.index l [c] = -1
        · simp [hm]
        · have hg := Lib.index_ge l [c]
          have e1 : (Lib.index l [c] == -1) = false := beq_eq_false_iff_ne.2 hm
          simp only [e1, Bool.false_eq_true, if_false]
          have e2 : (Lib.index l [c] + 1 == -1) = false := beq_eq_false_iff_ne.2 (by omega)
          simp only [e2, Bool.false_eq_true, if_false]
          have e3 : (Lib.index l [c] + 1).toNat = (Lib.index l [c]).toNat + 1 := by omega
          rw [e3]
          simp [List.take_succ_cons, List.drop_succ_cons]
theorem parts_pcs (s : ByteArray) : (Lib.splitB c__2e 0 (Lib.countB s c__2e) s).map (·.data.toList) = pcs 46 s.data.toList := by
  rw [Lib.splitB_data]
  show Lib.splitK [46] 0 (Lib.count s.data.toList [46]) s.data.toList = _
  rw [Lib.count_one]
  exact splitK_pcs 46 _
theorem pcs_none (c : UInt8) : ∀ p : List UInt8, c ∉ p → pcs c p = [p]
  | [], _ => rfl
  | b :: l, h => by
    have h1 : b ≠ c := fun e => h (by rw [e]; exact List.mem_cons_self ..)
    have h2 := pcs_none c l fun e => h (List.mem_cons_of_mem _ e)
    simp only [pcs, if_neg h1, h2]
theorem pcs_cut (c : UInt8) : ∀ (p r : List UInt8), c ∉ p → pcs c (p ++ c :: r) = p :: pcs c r
  | [], r, _ => by simp [pcs]
  | b :: l, r, h => by
    have h1 : b ≠ c := fun e => h (by rw [e]; exact List.mem_cons_self ..)
    have h2 := pcs_cut c l r fun e => h (List.mem_cons_of_mem _ e)
    simp only [List.cons_append, pcs, if_neg h1, h2]
theorem ex_data (s : ByteArray) (a b : Nat) (h : a ≤ b) : (s.extract a b).data.toList = (s.data.toList.drop a).take (b - a) := by
  rw [ByteArray.data_extract, Array.toList_extract]
def digB (c : UInt8) : Bool := bif ile 48 (c.toNat : Int) then ile (c.toNat : Int) 57 else false
/-- Is a piece a number. -/
def dg : List UInt8 → Bool
  | [] => false
  | c :: r => ((c :: r).all digB && decide (r.length ≤ 3)) && (!ieq (c.toNat : Int) 48 || (c :: r == [48]))
theorem seq_zero (p : ByteArray) : seq p c_0 = (p.data.toList == [48]) := by
  unfold seq
  rw [ByteArray.toList_eq, ByteArray.toList_eq]
  rfl
theorem set_dig (c : UInt8) : c_0123456789.data.toList.contains c = digB c := by
  have h : ∀ n : Fin 256, c_0123456789.data.toList.contains (UInt8.ofNat n.val) = digB (UInt8.ofNat n.val) := by decide +kernel
  have := h ⟨c.toNat, c.toNat_lt⟩
  simpa using this
theorem digits_ok (s : ByteArray) (hs : s.size ≤ 2000000) : mastref2_digitsAlone.f s = some (!s.data.toList.isEmpty && s.data.toList.all digB) := by
  have hc : strings_Trim.f s c_0123456789 = some ⟨(Lib.trimS s.data.toList c_0123456789.data.toList).toArray⟩ := by
    unfold strings_Trim.f
    rw [if_pos ⟨by omega, by decide, by decide +kernel⟩]
  unfold mastref2_digitsAlone.f
  rw [seq_empty, hc]
  cases h : s.data.toList.isEmpty with
  | true => rfl
  | false =>
    simp only [Bool.not_false, cond_true, Option.bind_some, Bool.true_and]
    rw [seq_empty]
    show some (Lib.trimS s.data.toList _).isEmpty = _
    rw [trim_nil, show (fun x => c_0123456789.data.toList.contains x) = digB from funext set_dig]
theorem split_sz (sep : ByteArray) : ∀ (k : Nat) (s x : ByteArray), x ∈ Lib.splitB sep 0 k s → x.size ≤ s.size
  | 0, s, x, h => by
    have : x = s := by simpa [Lib.splitB] using h
    rw [this]; exact Nat.le_refl _
  | k + 1, s, x, h => by
    unfold Lib.splitB at h
    split at h
    · have : x = s := by simpa using h
      rw [this]; exact Nat.le_refl _
    · rcases List.mem_cons.1 h with rfl | h
      · rw [ByteArray.size_extract]; omega
      · have := split_sz sep k _ x h
        rw [ByteArray.size_extract] at this; omega
/-! The parts of a route, as the program takes them. -/
theorem dec_all : ∀ (l : List UInt8) (n : Nat), l.all digB = true → ∃ m, Lib.decFrom n l = some m
  | [], n, _ => ⟨n, rfl⟩
  | b :: r, n, h => by
    rw [List.all_cons, Bool.and_eq_true] at h
    have hb : 48 ≤ b.toNat ∧ b.toNat ≤ 57 := by
      have := h.1
      unfold digB at this
      by_cases c : (48 : Int) ≤ b.toNat
      · rw [ile_t c, cond_true] at this
        have := of_decide_eq_true this
        omega
      · rw [ile_f (by omega)] at this; exact nomatch this
    unfold Lib.decFrom Lib.digitVal
    rw [if_pos hb]
    exact dec_all r _ h.2
theorem dig_not {c : UInt8} (h : digB c = true) : c ≠ 45 ∧ c ≠ 43 ∧ c ≠ 42 := by
  refine ⟨?_, ?_, ?_⟩ <;> rintro rfl <;> exact absurd h (by decide)
theorem atoi_dg {p : ByteArray} (h : dg p.data.toList = true) : ∃ n : Nat, strconv_Atoi.f p = some (n : Int) := by
  cases hb : p.data.toList with
  | nil => rw [hb] at h; exact nomatch h
  | cons c r =>
    rw [hb] at h
    simp only [dg, Bool.and_eq_true] at h
    obtain ⟨⟨h1, h2⟩, _⟩ := h
    have h2 : r.length ≤ 3 := of_decide_eq_true h2
    have hc := dig_not (List.all_eq_true.1 h1 c (List.mem_cons_self ..))
    obtain ⟨m, hm⟩ := dec_all (c :: r) 0 h1
    refine ⟨m, ?_⟩
    unfold strconv_Atoi.f atoiF
    rw [size_l, hb, if_pos (by simp; omega)]
    unfold Lib.atoi
    have e1 : (c == 45) = false := beq_eq_false_iff_ne.2 hc.1
    have e2 : (c == 43) = false := beq_eq_false_iff_ne.2 hc.2.1
    simp only [e1, e2, Bool.false_eq_true, if_false, Lib.decNat, List.isEmpty_cons, hm]
    rfl
theorem slen_dash : slen c__2d = 1 := rfl
theorem trimDash (p : ByteArray) : strings_TrimPrefix.f p c__2d = some (match p.data.toList with | [] => p | c :: r => if c = 45 then p.extract 1 p.size else p) := by
  unfold strings_TrimPrefix.f internal_stringslite_TrimPrefix.f internal_stringslite_HasPrefix.f
  rw [slen_dash]
  have hl := size_l p
  cases hb : p.data.toList with
  | nil =>
    rw [hb] at hl
    rw [ile_f (show slen p < 1 by show (p.size : Int) < 1; rw [hl]; decide)]
    rfl
  | cons c r =>
    rw [hb] at hl
    have hl1 : 1 ≤ p.size := by rw [hl]; simp
    rw [ile_t (show (1 : Int) ≤ slen p by show (1 : Int) ≤ p.size; omega)]
    have hx : ssub p 0 1 = some (p.extract 0 1) := by
      unfold ssub
      rw [if_pos ⟨by omega, by omega, by omega⟩]; rfl
    have hy : ssub p 1 (slen p) = some (p.extract 1 p.size) := by
      unfold ssub
      rw [show slen p = (p.size : Int) from rfl, if_pos ⟨by omega, by omega, by omega⟩]; rfl
    have hs : seq (p.extract 0 1) c__2d = decide (c = 45) := by
      unfold seq
      rw [ByteArray.toList_eq, ByteArray.toList_eq, ex_data p 0 1 (by omega), hb]
      show ([c] == [45]) = _
      by_cases h : c = 45
      · subst h; rfl
      · rw [decide_eq_false h]; simp [h]
    simp only [cond_true, hx, Option.bind_some, hs]
    by_cases h : c = 45
    · rw [decide_eq_true h, if_pos h]
      simp only [cond_true, hy, Option.bind_some]
    · rw [decide_eq_false h, if_neg h]
      rfl
/-- A piece that does not begin with a dash: is it of digits. -/
theorem integer_ok (p : ByteArray) (hs : p.size ≤ 2000000) (c : UInt8) (r : List UInt8) (hb : p.data.toList = c :: r) (hc : c ≠ 45) : Ev (fun k => conf_isInteger.f k p) ((c :: r).all digB) := by
  have hl := size_l p
  have ht : strings_TrimPrefix.f p c__2d = some p := by rw [trimDash, hb]; simp [hc]
  have he : seq p c_empty = false := by rw [seq_empty, hb]; rfl
  have q := find_pure p.data.toList 0 (Nat.zero_le _) (fun k j => conf_isInteger.l0 k p (j : Int)) (fun _ => some true) (fun c => !digB c) (fun _ => false) true
    (fun k j h => by
      simp only [conf_isInteger.l0, slen_l, Go.Proofs.YthmedjljckbidaaGreatDoor.Lift.ilen _ _ h, cond_true, sat_l h, Option.bind_some, conf_isDigit.f, u0 (show j ≤ 4611686018427387904 by omega)]
      rfl)
    (fun k => by simp only [conf_isInteger.l0, slen_l, Go.Proofs.YthmedjljckbidaaGreatDoor.Lift.ilen', cond_false]) (Ev.now fun _ => rfl)
  have e : (bif p.data.toList.any (fun c => !digB c) then false else true) = (c :: r).all digB := by
    rw [hb, List.all_eq_not_any_not]
    cases (c :: r).any fun c => !digB c <;> rfl
  rw [fl_const, List.drop_zero, e] at q
  exact Ev.congr (fun k => by simp only [conf_isInteger.f, ht, Option.bind_some, he, cond_false]; rfl) q
/-- Some answer for a piece that begins with a dash. -/
theorem integer_any (p : ByteArray) (hs : p.size ≤ 2000000) : ∃ b, Ev (fun k => conf_isInteger.f k p) b := by
  cases ht : strings_TrimPrefix.f p c__2d with
  | none => rw [trimDash] at ht; cases ht
  | some y =>
    have hy : y.size ≤ 2000000 := by
      rw [trimDash] at ht
      have := Option.some.inj ht
      cases hb : p.data.toList with
      | nil => rw [hb] at this; rw [← this]; exact hs
      | cons c r =>
        rw [hb] at this
        simp only at this
        split at this
        · rw [← this, ByteArray.size_extract]; omega
        · rw [← this]; exact hs
    have hl := size_l y
    cases he : seq y c_empty with
    | true => exact ⟨false, Ev.now fun k => by simp only [conf_isInteger.f, ht, Option.bind_some, he, cond_true]⟩
    | false =>
      have q := find_pure y.data.toList 0 (Nat.zero_le _) (fun k j => conf_isInteger.l0 k y (j : Int)) (fun _ => some true) (fun c => !digB c) (fun _ => false) true
        (fun k j h => by
          simp only [conf_isInteger.l0, slen_l, Go.Proofs.YthmedjljckbidaaGreatDoor.Lift.ilen _ _ h, cond_true, sat_l h, Option.bind_some, conf_isDigit.f, u0 (show j ≤ 4611686018427387904 by omega)]
          rfl)
        (fun k => by simp only [conf_isInteger.l0, slen_l, Go.Proofs.YthmedjljckbidaaGreatDoor.Lift.ilen', cond_false]) (Ev.now fun _ => rfl)
      exact ⟨_, Ev.congr (fun k => by simp only [conf_isInteger.f, ht, Option.bind_some, he, cond_false]; rfl) q⟩

/-- Is it a piece of a route. -/
def pkS (st : Bool) (p : List UInt8) : Bool := dg p || keyL p || (st && p == [42])
theorem seq_star (p : ByteArray) : seq p c__2a = (p.data.toList == [42]) := by
  unfold seq
  rw [ByteArray.toList_eq, ByteArray.toList_eq]
  rfl
/-- The step of a piece. -/
def stp (p : ByteArray) : T_conf_step := bif key p then ⟨p, 0, false⟩ else bif seq p c__2a then ⟨c_empty, 0, true⟩ else ⟨c_empty, (strconv_Atoi.f p).getD 0, false⟩
theorem step_loop (st : Bool) (P : List ByteArray) (hP : P.length ≤ 3000000) (hz : ∀ x ∈ P, x.size ≤ 2000000) : ∀ (d j : Nat), P.length - j ≤ d → j ≤ P.length →
    Ev (fun k => conf_steps.l0 k st ((P.take j).map stp) P (llen P) (j : Int)) (bif (P.drop j).all (fun p => pkS st p.data.toList) then (P.map stp, true) else ([], false)) := by
  intro d
  have last : ∀ j, P.length ≤ j → Ev (fun k => conf_steps.l0 k st ((P.take j).map stp) P (llen P) (j : Int)) (bif (P.drop j).all (fun p => pkS st p.data.toList) then (P.map stp, true) else ([], false)) := fun j hj => by
    rw [List.drop_eq_nil_of_le hj, List.take_of_length_le hj]
    refine Ev.step (g := fun _ => some (P.map stp, true)) (fun k => ?_) (Ev.now fun _ => rfl)
    simp only [conf_steps.l0, llen_eq, ilt_f (show (P.length : Int) ≤ (j : Int) by omega), cond_false]
  induction d with
  | zero => intro j hd hj; exact last j (by omega)
  | succ d ih =>
    intro j hd hj
    rcases Nat.lt_or_ge j P.length with hlt | hge
    · have hr := ih (j + 1) (by omega) hlt
      rw [List.drop_eq_getElem_cons hlt, List.all_cons]
      have hzj := hz _ (List.getElem_mem hlt)
      have hw : wadd .i64 (j : Int) 1 = ((j + 1 : Nat) : Int) := u0 (by omega)
      have push : lapp 32 ((P.take j).map stp) [stp P[j]] = some ((P.take (j + 1)).map stp) := by
        rw [take_map hlt]
        exact lapp_ok (by simp only [List.length_map, List.length_take, List.length_singleton]; omega) (by simp only [List.length_map, List.length_take, List.length_singleton]; omega)
      have hk := key_conf P[j]
      refine Ev.step (fun k => by simp only [conf_steps.l0, llen_eq, Go.Proofs.YthmedjljckbidaaGreatDoor.Lift.ilen _ _ hlt, cond_true, lat_lt hlt, Option.bind_some, hw]; rfl) (Ev.bind hk ?_)
      cases hkey : key P[j] with
      | true =>
        have e1 : pkS st P[j].data.toList = true := by unfold pkS; rw [show keyL P[j].data.toList = key P[j] from rfl, hkey, Bool.or_true, Bool.true_or]
        have e2 : stp P[j] = ⟨P[j], 0, false⟩ := by unfold stp; rw [hkey]; rfl
        rw [e1, Bool.true_and]
        rw [e2] at push
        simp only [cond_true, push, Option.bind_some]
        exact hr
      | false =>
        simp only [cond_false]
        cases hstar : (st && seq P[j] c__2a) with
        | true =>
          obtain ⟨g1, g2⟩ := Bool.and_eq_true_iff.1 hstar
          have e1 : pkS st P[j].data.toList = true := by unfold pkS; rw [← seq_star, hstar, Bool.or_true]
          have e2 : stp P[j] = ⟨c_empty, 0, true⟩ := by unfold stp; rw [hkey, g2]; rfl
          rw [e1, Bool.true_and]
          rw [e2] at push
          simp only [g1, g2, cond_true, push, Option.bind_some]
          rw [g1] at hr
          exact hr
        | false =>
          have e0 : (bif st then seq P[j] c__2a else false) = false := by rw [← hstar]; cases st <;> rfl
          have e1 : pkS st P[j].data.toList = dg P[j].data.toList := by unfold pkS; rw [← seq_star, hstar, show keyL P[j].data.toList = key P[j] from rfl, hkey, Bool.or_false, Bool.or_false]
          rw [e1]
          simp only [e0, cond_false]
          cases hb : P[j].data.toList with
          | nil =>
            have : seq P[j] c_empty = true := by rw [seq_empty, hb]; rfl
            simp only [this, cond_true, dg, Bool.false_and, cond_false]
            exact Ev.now fun _ => rfl
          | cons c r =>
            have hne : seq P[j] c_empty = false := by rw [seq_empty, hb]; rfl
            have hsl : slen P[j] = ((c :: r).length : Int) := by rw [slen_l, hb]
            simp only [hne, cond_false]
            by_cases hlen : 3 < r.length
            · rw [ilt_t (show (4 : Int) < slen P[j] by rw [hsl, List.length_cons]; omega)]
              have : dg (c :: r) = false := by simp only [dg, decide_eq_false (show ¬ r.length ≤ 3 by omega), Bool.and_false, Bool.false_and]
              rw [this]
              exact Ev.now fun _ => rfl
            · rw [ilt_f (show slen P[j] ≤ (4 : Int) by rw [hsl, List.length_cons]; omega)]
              simp only [cond_false]
              by_cases h45 : c = 45
              · obtain ⟨b, hbb⟩ := integer_any P[j] hzj
                have : dg (c :: r) = false := by
                  simp only [dg, List.all_cons, h45, show digB 45 = false from by decide, Bool.false_and]
                rw [this]
                refine Ev.bind hbb ?_
                cases b with
                | false => exact Ev.now fun _ => rfl
                | true =>
                  have hi : ieq (c.toNat : Int) 45 = true := by rw [h45]; rfl
                  simp only [Bool.not_true, cond_false, sat_0 hb, Option.bind_some, hi, cond_true]
                  exact Ev.now fun _ => rfl
              · refine Ev.bind (integer_ok P[j] hzj c r hb h45) ?_
                cases had : (c :: r).all digB with
                | false =>
                  have : dg (c :: r) = false := by simp only [dg, had, Bool.false_and]
                  rw [this]
                  exact Ev.now fun _ => rfl
                | true =>
                  have hi : ieq (c.toNat : Int) 45 = false := ieq_f fun e => h45 (UInt8.toNat_inj.1 (by rw [show (45 : UInt8).toNat = 45 from rfl]; omega))
                  simp only [Bool.not_true, cond_false, sat_0 hb, Option.bind_some, hi]
                  have hdg : dg (c :: r) = (!ieq (c.toNat : Int) 48 || (c :: r == [48])) := by simp only [dg, had, decide_eq_true (show r.length ≤ 3 by omega), Bool.true_and]
                  have hz0 : seq P[j] c_0 = (c :: r == [48]) := by rw [seq_zero, hb]
                  rw [hdg, hz0]
                  cases q : (!ieq (c.toNat : Int) 48 || (c :: r == [48])) with
                  | false =>
                    have : (bif ieq (c.toNat : Int) 48 then !(c :: r == [48]) else false) = true := by
                      revert q
                      cases ieq (c.toNat : Int) 48 <;> cases (c :: r == [48]) <;> simp
                    simp only [this, cond_true]
                    exact Ev.now fun _ => rfl
                  | true =>
                    have : (bif ieq (c.toNat : Int) 48 then !(c :: r == [48]) else false) = false := by
                      revert q
                      cases ieq (c.toNat : Int) 48 <;> cases (c :: r == [48]) <;> simp
                    obtain ⟨n, hn⟩ := atoi_dg (p := P[j]) (by rw [hb, hdg, q])
                    have hst : seq P[j] c__2a = false := by
                      rw [seq_star, hb]
                      have := (dig_not (List.all_eq_true.1 had c (List.mem_cons_self ..))).2.2
                      simp [this]
                    have e2 : stp P[j] = ⟨c_empty, n, false⟩ := by unfold stp; rw [hkey, hst, hn]; rfl
                    rw [e2] at push
                    simp only [this, cond_false, hn, Option.bind_some, push]
                    exact hr
    · exact last j hge
def rpS (st : Bool) (s : ByteArray) : Bool := bif ilt 400 (slen s) then false else bif seq s c_empty then true else (pcs 46 s.data.toList).all (pkS st)
def parts (s : ByteArray) : List ByteArray := Lib.splitB c__2e 0 (Lib.countB s c__2e) s
def stps (s : ByteArray) : List T_conf_step := bif seq s c_empty then [] else (parts s).map stp
theorem steps_ok (st : Bool) (s : ByteArray) (hs : s.size ≤ 1048576) : Ev (fun k => conf_steps.f k s st) (bif rpS st s then (stps s, true) else ([], false)) := by
  unfold rpS stps
  cases h4 : ilt 400 (slen s) with
  | true => exact Ev.now fun k => by simp only [conf_steps.f, h4, cond_true]; rfl
  | false =>
    cases he : seq s c_empty with
    | true => exact Ev.now fun k => by simp only [conf_steps.f, h4, he, cond_true, cond_false]
    | false =>
      simp only [cond_false]
      have hsp : strings_Split.f s c__2e = some (parts s) := by
        unfold strings_Split.f splitF
        rw [if_pos ⟨by omega, by decide⟩]; rfl
      have hsz : ∀ x ∈ parts s, x.size ≤ 2000000 := fun x hx => by have := split_sz _ _ _ _ hx; omega
      have hlen : (parts s).length ≤ 3000000 := by
        have h1 := Lib.splitB_length_le c__2e 0 (Lib.countB s c__2e) s
        have h2 := Lib.countB_le c__2e (by decide) s.size s (Nat.le_refl _)
        unfold parts; omega
      have q := step_loop st (parts s) hlen hsz (parts s).length 0 (by omega) (by omega)
      have e : ((parts s).drop 0).all (fun p => pkS st p.data.toList) = (pcs 46 s.data.toList).all (pkS st) := by
        rw [List.drop_zero, ← parts_pcs s, List.all_map]; rfl
      rw [e] at q
      exact Ev.congr (fun k => by simp only [conf_steps.f, h4, he, cond_false, hsp, Option.bind_some]; rfl) q
theorem routeR_ok (st : Bool) (s : ByteArray) (hs : s.size ≤ 2000000) : ∃ o, Ev (fun k => mastref2_RouteParts.f k s st) (o, rpS st s) := by
  unfold rpS
  cases h4 : ilt 400 (slen s) with
  | true => exact ⟨[], Ev.now fun k => by simp only [mastref2_RouteParts.f, h4, cond_true]⟩
  | false =>
    cases he : seq s c_empty with
    | true => exact ⟨[], Ev.now fun k => by simp only [mastref2_RouteParts.f, h4, he, cond_true, cond_false]⟩
    | false =>
      simp only [cond_false]
      have hsp : strings_Split.f s c__2e = some (Lib.splitB c__2e 0 (Lib.countB s c__2e) s) := by
        unfold strings_Split.f splitF
        rw [if_pos ⟨by omega, by decide⟩]
      generalize hP : Lib.splitB c__2e 0 (Lib.countB s c__2e) s = P at hsp
      have hpp : P.map (·.data.toList) = pcs 46 s.data.toList := by rw [← hP]; exact parts_pcs s
      have hsz : ∀ x ∈ P, x.size ≤ 2000000 := fun x hx => by rw [← hP] at hx; have := split_sz _ _ _ _ hx; omega
      have hlen : P.length ≤ 4611686018427387904 := by
        have h1 := Lib.splitB_length_le c__2e 0 (Lib.countB s c__2e) s
        have h2 := Lib.countB_le c__2e (by decide) s.size s (Nat.le_refl _)
        rw [hP] at h1; omega
      have q := find_loop2 P 0 (Nat.zero_le _) (fun k j => mastref2_RouteParts.l0 k st P P (llen P) (j : Int))
        (fun _ p => (mastref2_digitsAlone.f p).bind fun y3 => bif (bif y3 then (ile (slen p) 4) else false) then ((sat p 0).bind fun y4 => some (p, (bif (!ieq y4 48) then true else (seq p c_0)))) else some (p, false))
        (fun k j y => mastref2_RouteParts.l1 k st P y.1 y.2 P (llen P) (j : Int)) (fun _ => some (P, true)) (fun p => !pkS st p.data.toList) (fun _ => ([], false)) (P, true)
        (fun k j h => by
          simp only [mastref2_RouteParts.l0, llen_eq, Go.Proofs.YthmedjljckbidaaGreatDoor.Lift.ilen _ _ h, cond_true, lat_lt h, Option.bind_some]
          cases mastref2_digitsAlone.f P[j] with
          | none => rfl
          | some y =>
            simp only [Option.bind_some]
            cases (bif y then ile (slen P[j]) 4 else false) with
            | false => rfl
            | true =>
              simp only [cond_true]
              cases sat P[j] 0 <;> rfl)
        (fun k => by simp only [mastref2_RouteParts.l0, llen_eq, Go.Proofs.YthmedjljckbidaaGreatDoor.Lift.ilen', cond_false]) (Ev.now fun _ => rfl)
        (fun j h => by
          have hz := hsz _ (List.getElem_mem h)
          have hd := digits_ok P[j] hz
          have hk := keyR_ok P[j] hz
          have el : ile (slen P[j]) 4 = decide (P[j].data.toList.length ≤ 4) := by
            rw [slen_l, ile_d]
            by_cases c : P[j].data.toList.length ≤ 4
            · rw [decide_eq_true c, decide_eq_true (by omega)]
            · rw [decide_eq_false c, decide_eq_false (by omega)]
          refine ⟨(P[j], dg P[j].data.toList), Ev.now fun _ => ?_, fun hq => ?_, fun hq v hv => ?_⟩
          · rw [hd]
            simp only [Option.bind_some, el]
            cases hb : P[j].data.toList with
            | nil => rfl
            | cons c r =>
              rw [sat_0 hb, seq_zero, hb]
              simp only [List.isEmpty_cons, Bool.not_false, Bool.true_and, Option.bind_some, dg, List.length_cons]
              rw [show decide (r.length + 1 ≤ 4) = decide (r.length ≤ 3) by by_cases c : r.length ≤ 3 <;> simp [c] <;> omega]
              cases (c :: r).all digB <;> cases decide (r.length ≤ 3) <;> cases ieq (c.toNat : Int) 48 <;> rfl
          · have h1 : (dg P[j].data.toList = false ∧ key P[j] = false) ∧ (st && seq P[j] c__2a) = false := by
              have : pkS st P[j].data.toList = false := by simpa using hq
              unfold pkS at this
              obtain ⟨t1, t2⟩ := Bool.or_eq_false_iff.1 this
              obtain ⟨t3, t4⟩ := Bool.or_eq_false_iff.1 t1
              exact ⟨⟨t3, t4⟩, by rw [seq_star]; exact t2⟩
            have e0 : (bif st then seq P[j] c__2a else false) = false := by rw [← h1.2]; cases st <;> rfl
            refine Ev.step (g := fun _ => some ([], false)) (fun k => ?_) (Ev.now fun _ => rfl)
            simp only [mastref2_RouteParts.l1, h1.1.1, Bool.not_false, cond_true, hk, h1.1.2, Option.bind_some, cond_false, e0]
          · have h1 : pkS st P[j].data.toList = true := by simpa using hq
            unfold pkS at h1
            rw [← seq_star] at h1
            have hw : wadd .i64 (j : Int) 1 = ((j + 1 : Nat) : Int) := u0 (by omega)
            refine Ev.step (fun k => ?_) hv
            simp only [mastref2_RouteParts.l1, hw]
            cases hg : dg P[j].data.toList with
            | true => simp
            | false =>
              simp only [Bool.not_false, cond_true, hk, Option.bind_some]
              rw [hg, show keyL P[j].data.toList = key P[j] from rfl] at h1
              revert h1
              cases key P[j] <;> cases st <;> cases seq P[j] c__2a <;> simp)
      rw [fl_const, List.drop_zero] at q
      have e : (bif P.any (fun p => !pkS st p.data.toList) then (([] : List ByteArray), false) else (P, true)) = ((bif P.any (fun p => !pkS st p.data.toList) then ([] : List ByteArray) else P), (pcs 46 s.data.toList).all (pkS st)) := by
        have : (pcs 46 s.data.toList).all (pkS st) = !P.any fun p => !pkS st p.data.toList := by
          rw [← hpp, List.all_map, List.all_eq_not_any_not]; rfl
        rw [this]
        cases P.any fun p => !pkS st p.data.toList <;> rfl
      rw [e] at q
      exact ⟨_, Ev.congr (fun k => by simp only [mastref2_RouteParts.f, h4, he, cond_false, hsp, Option.bind_some]; rfl) q⟩

/-! Stars. -/
theorem key_star {p : List UInt8} (h : keyL p = true) : (42 : UInt8) ∉ p := by
  cases p with
  | nil => simp
  | cons c r =>
    simp only [keyL, Bool.and_eq_true] at h
    intro hm
    rcases List.mem_cons.1 hm with e | e
    · rw [← e] at h; exact absurd h.1.2 (by decide)
    · exact absurd (List.all_eq_true.1 h.2 42 e) (by decide)
theorem dg_star {p : List UInt8} (h : dg p = true) : (42 : UInt8) ∉ p := by
  cases p with
  | nil => simp
  | cons c r =>
    simp only [dg, Bool.and_eq_true] at h
    intro hm
    exact absurd (List.all_eq_true.1 h.1.1 42 hm) (by decide)
theorem mem_pcs (c x : UInt8) (hx : x ≠ c) : ∀ l : List UInt8, x ∈ l ↔ ∃ p ∈ pcs c l, x ∈ p
  | [] => by simp [pcs]
  | b :: l => by
    have ih := mem_pcs c x hx l
    by_cases h : b = c
    · simp only [pcs, if_pos h, List.mem_cons]
      constructor
      · rintro (e | e)
        · exact absurd (e.trans h) hx
        · obtain ⟨p, h1, h2⟩ := ih.1 e
          exact ⟨p, .inr h1, h2⟩
      · rintro ⟨p, h1 | h1, h2⟩
        · rw [h1] at h2; cases h2
        · exact .inr (ih.2 ⟨p, h1, h2⟩)
    · simp only [pcs, if_neg h]
      cases hp : pcs c l with
      | nil =>
        rw [hp] at ih
        simp only [List.mem_cons, List.not_mem_nil, or_false] at ih ⊢
        constructor
        · rintro (e | e)
          · exact ⟨[b], rfl, by simp [e]⟩
          · obtain ⟨p, h1, _⟩ := ih.1 e; cases h1
        · rintro ⟨p, h1, h2⟩
          rw [h1] at h2
          exact .inl (by simpa using h2)
      | cons p0 r =>
        rw [hp] at ih
        simp only [List.mem_cons] at ih ⊢
        constructor
        · rintro (e | e)
          · exact ⟨b :: p0, .inl rfl, by simp [e]⟩
          · obtain ⟨p, h1 | h1, h2⟩ := ih.1 e
            · exact ⟨b :: p0, .inl rfl, by rw [← h1]; exact List.mem_cons_of_mem _ h2⟩
            · exact ⟨p, .inr h1, h2⟩
        · rintro ⟨p, h1 | h1, h2⟩
          · rw [h1] at h2
            rcases List.mem_cons.1 h2 with e | e
            · exact .inl e
            · exact .inr (ih.2 ⟨p0, .inl rfl, e⟩)
          · exact .inr (ih.2 ⟨p, .inr h1, h2⟩)
theorem contains_mem (l : List UInt8) (c : UInt8) : Lib.contains l [c] = l.contains c := by
  unfold Lib.contains
  rw [Lib.index_one]
  have hg := Lib.indexByte_ge l c
  by_cases h : Lib.indexByte l c = -1
  · have h2 := Lib.indexByte_none h
    rw [decide_eq_false (by omega)]
    symm
    rw [Bool.eq_false_iff]
    intro hm
    have hm : c ∈ l := by simpa using hm
    obtain ⟨k, hk⟩ := List.mem_iff_getElem?.1 hm
    exact h2 k hk
  · obtain ⟨o, ho⟩ : ∃ o : Nat, Lib.indexByte l c = o := ⟨(Lib.indexByte l c).toNat, by omega⟩
    have h2 := (Lib.indexByte_some ho).1
    rw [decide_eq_true (by omega)]
    symm
    have : c ∈ l := List.mem_iff_getElem?.2 ⟨o, h2⟩
    simpa using this
theorem stp_star (p : ByteArray) : (stp p).fstar = (p.data.toList == [42]) := by
  unfold stp
  rw [seq_star]
  cases hk : key p with
  | true =>
    have := key_star (p := p.data.toList) hk
    simp only [cond_true]
    cases q : (p.data.toList == [42]) with
    | false => rfl
    | true => rw [beq_iff_eq.1 q] at this; simp at this
  | false =>
    cases (p.data.toList == [42]) <;> rfl
/-- Is there a star. -/
def star (s : ByteArray) : Bool := s.data.toList.contains 42
theorem star_ok {s : ByteArray} (h : rpS true s = true) (hne : seq s c_empty = false) : (stps s).any (fun x => x.fstar) = star s := by
  unfold rpS at h
  cases h4 : ilt 400 (slen s) with
  | true => rw [h4] at h; exact nomatch h
  | false =>
    rw [h4, hne] at h
    simp only [cond_false] at h
    unfold stps star
    rw [hne]
    simp only [cond_false]
    rw [List.any_map]
    have e1 : ((fun x : T_conf_step => x.fstar) ∘ stp) = fun p : ByteArray => (p.data.toList == [42]) := funext stp_star
    rw [e1]
    have e2 : (parts s).any (fun p => (p.data.toList == [42])) = (pcs 46 s.data.toList).any (· == [42]) := by
      rw [← parts_pcs s, List.any_map]; rfl
    rw [e2, Bool.eq_iff_iff, List.any_eq_true, List.contains_iff_mem, mem_pcs 46 42 (by decide) s.data.toList]
    constructor
    · rintro ⟨p, h1, h2⟩
      exact ⟨p, h1, by rw [beq_iff_eq.1 h2]; simp⟩
    · rintro ⟨p, h1, h2⟩
      refine ⟨p, h1, ?_⟩
      have := List.all_eq_true.1 h p h1
      unfold pkS at this
      rcases Bool.or_eq_true_iff.1 this with q | q
      · rcases Bool.or_eq_true_iff.1 q with q | q
        · exact absurd h2 (dg_star q)
        · exact absurd h2 (key_star q)
      · simpa using q
theorem parts_pos (s : ByteArray) : (parts s).length ≠ 0 := by
  unfold parts
  rw [Lib.splitB_all c__2e (by decide) 0 _ s rfl]; omega

/-! One field. -/
theorem feta (y : T_conf_Field) : T_conf_Field.mk y.fRoute y.fKind y.fNeed y.fBounded y.fMin y.fMax y.fOneOf y.fDefault = y := by cases y; rfl
def fz (f : T_conf_Field) : Nat := f.fRoute.size + kz f.fOneOf + wt f.fDefault + 1
def dflt (f : T_conf_Field) : Int := bif !ieq (chk f.fDefault) 0 then chk f.fDefault else bif ieq f.fDefault.fKind 0 then 0 else bif (!ieq f.fKind (-1) && !ieq f.fDefault.fKind f.fKind) then 10 else bif star f.fRoute then 1 else 0
def oneF (e : Int) : List ByteArray → Int
  | [] => e
  | s :: r => bif ilt 5000 (slen s) then 4 else bif bad s then 9 else oneF e r
def rest (f : T_conf_Field) : Int := bif (!ieq f.fKind (-1) && (ilt f.fKind 0 || ilt 6 f.fKind)) then 10 else bif (!f.fBounded && (!ieq f.fMin 0 || !ieq f.fMax 0)) then 1 else bif ilt f.fMax f.fMin then 5 else bif (ilt 0 (llen f.fOneOf) && !ieq f.fKind 3) then 1 else oneF (dflt f) f.fOneOf
def ff (f : T_conf_Field) (b : Bool) : Int := bif !(rpS true f.fRoute && !seq f.fRoute c_empty) then 3 else bif b then 6 else rest f

theorem oneL (f : T_conf_Field) (ks : List ByteArray) (vs : List Bool) (l : List ByteArray) (hl : l = f.fOneOf) (hf : fz f ≤ 1048576) (hr : rpS true f.fRoute = true) (hne : seq f.fRoute c_empty = false) : ∀ (d j : Nat), l.length - j ≤ d → j ≤ l.length →
    Ev (fun k => conf_fieldFault.l0 k ks vs f.fRoute f.fKind f.fNeed f.fBounded f.fMin f.fMax f.fOneOf f.fDefault.fKind f.fDefault.fBool f.fDefault.fInt f.fDefault.fText f.fDefault.fItems f.fDefault.fKeys (stps f.fRoute) l (llen l) (j : Int)) (oneF (dflt f) (l.drop j), ks, vs, ()) := by
  unfold fz at hf
  have hlen := klen_le f.fOneOf
  rw [← hl] at hlen hf
  have hst := star_ok hr hne
  have hsl : (stps f.fRoute).length ≤ 3000000 := by
    unfold stps
    rw [hne]
    simp only [cond_false, List.length_map]
    have h1 := Lib.splitB_length_le c__2e 0 (Lib.countB f.fRoute c__2e) f.fRoute
    have h2 := Lib.countB_le c__2e (by decide) f.fRoute.size f.fRoute (Nat.le_refl _)
    unfold parts; omega
  have hstar : Ev (fun k => conf_hasStar.f k (stps f.fRoute)) (star f.fRoute) := by
    have q := find_pure (stps f.fRoute) 0 (Nat.zero_le _) (fun k j => conf_hasStar.l0 k (stps f.fRoute) (llen (stps f.fRoute)) (j : Int)) (fun _ => some false) (fun x => x.fstar) (fun _ => true) false
      (fun k j h => by simp only [conf_hasStar.l0, llen_eq, Go.Proofs.YthmedjljckbidaaGreatDoor.Lift.ilen _ _ h, cond_true, lat_lt h, Option.bind_some, u0 (show j ≤ 4611686018427387904 by omega)])
      (fun k => by simp only [conf_hasStar.l0, llen_eq, Go.Proofs.YthmedjljckbidaaGreatDoor.Lift.ilen', cond_false]) (Ev.now fun _ => rfl)
    rw [fl_const, List.drop_zero, hst] at q
    have e : (bif star f.fRoute then true else false) = star f.fRoute := by cases star f.fRoute <;> rfl
    rw [e] at q
    exact Ev.congr (fun k => by simp only [conf_hasStar.f]; rfl) q
  intro d
  have last : ∀ j, l.length ≤ j → Ev (fun k => conf_fieldFault.l0 k ks vs f.fRoute f.fKind f.fNeed f.fBounded f.fMin f.fMax f.fOneOf f.fDefault.fKind f.fDefault.fBool f.fDefault.fInt f.fDefault.fText f.fDefault.fItems f.fDefault.fKeys (stps f.fRoute) l (llen l) (j : Int)) (oneF (dflt f) (l.drop j), ks, vs, ()) := fun j hj => by
    rw [List.drop_eq_nil_of_le hj]
    refine Ev.step (fun k => by simp only [conf_fieldFault.l0, llen_eq, ilt_f (show (l.length : Int) ≤ (j : Int) by omega), cond_false, eta]; rfl) (Ev.bind (chk_ok f.fDefault (by omega)) ?_)
    simp only [oneF, dflt]
    cases ieq (chk f.fDefault) 0 with
    | false => exact Ev.now fun _ => rfl
    | true =>
      simp only [Bool.not_true, cond_false]
      cases h0 : ieq f.fDefault.fKind 0 with
      | true => exact Ev.now fun _ => rfl
      | false =>
        simp only [Bool.not_false, cond_true, cond_false]
        cases h1 : (!ieq f.fKind (-1) && !ieq f.fDefault.fKind f.fKind) with
        | true =>
          simp only [show (bif !ieq f.fKind (-1) then !ieq f.fDefault.fKind f.fKind else false) = true by rw [← h1]; cases ieq f.fKind (-1) <;> rfl]
          exact Ev.now fun _ => rfl
        | false =>
          simp only [show (bif !ieq f.fKind (-1) then !ieq f.fDefault.fKind f.fKind else false) = false by rw [← h1]; cases ieq f.fKind (-1) <;> rfl, cond_false]
          refine Ev.bind hstar ?_
          cases star f.fRoute <;> exact Ev.now fun _ => rfl
  induction d with
  | zero => intro j hd hj; exact last j (by omega)
  | succ d ih =>
    intro j hd hj
    rcases Nat.lt_or_ge j l.length with hlt | hge
    · rw [List.drop_eq_getElem_cons hlt]
      have hz := kz_mem (List.getElem_mem hlt)
      have st : ∀ k, conf_fieldFault.l0 (k + 1) ks vs f.fRoute f.fKind f.fNeed f.fBounded f.fMin f.fMax f.fOneOf f.fDefault.fKind f.fDefault.fBool f.fDefault.fInt f.fDefault.fText f.fDefault.fItems f.fDefault.fKeys (stps f.fRoute) l (llen l) (j : Int) = bif ilt 5000 (slen l[j]) then some (4, ks, vs, ()) else (conf_badBytes.f k l[j]).bind fun y3 => bif y3 then some (9, ks, vs, ()) else conf_fieldFault.l0 k ks vs f.fRoute f.fKind f.fNeed f.fBounded f.fMin f.fMax f.fOneOf f.fDefault.fKind f.fDefault.fBool f.fDefault.fInt f.fDefault.fText f.fDefault.fItems f.fDefault.fKeys (stps f.fRoute) l (llen l) ((j + 1 : Nat) : Int) := fun k => by
        simp only [conf_fieldFault.l0, llen_eq, Go.Proofs.YthmedjljckbidaaGreatDoor.Lift.ilen _ _ hlt, cond_true, lat_lt hlt, Option.bind_some, u0 (show j ≤ 4611686018427387904 by omega)]
      simp only [oneF]
      cases h5 : ilt 5000 (slen l[j]) with
      | true => exact Ev.step (g := fun _ => some (4, ks, vs, ())) (fun k => by rw [st, h5]; rfl) (Ev.now fun _ => rfl)
      | false =>
        refine Ev.step (fun k => by rw [st, h5]; rfl) (Ev.bind (bad_conf l[j] (by omega)) ?_)
        cases bad l[j] with
        | true => exact Ev.now fun _ => rfl
        | false => exact ih (j + 1) (by omega) hlt
    · exact last j hge

theorem fieldL (f : T_conf_Field) (ks : List ByteArray) (vs : List Bool) (hf : fz f ≤ 1048576) : Ev (fun k => conf_fieldFault.f k f ks vs) (ff f ((mget seq ks vs f.fRoute).getD false), ks, vs, ()) := by
  have hf' := hf
  unfold fz at hf'
  have h1 := steps_ok true f.fRoute (by omega)
  refine Ev.congr (fun k => by simp only [conf_fieldFault.f]; rfl) (Ev.bind h1 ?_)
  unfold ff
  cases hr : rpS true f.fRoute with
  | false => exact Ev.now fun _ => rfl
  | true =>
    simp only [cond_true, Bool.not_true, cond_false, Bool.true_and]
    cases hne : seq f.fRoute c_empty with
    | true =>
      have : stps f.fRoute = [] := by unfold stps; rw [hne]; rfl
      rw [this]
      exact Ev.now fun _ => rfl
    | false =>
      have : ieq (llen (stps f.fRoute)) 0 = false := by
        unfold stps
        rw [hne]
        simp only [cond_false, llen_eq, List.length_map]
        have := parts_pos f.fRoute
        exact ieq_f (by omega)
      rw [this]
      simp only [cond_false, Bool.not_false, Bool.not_true]
      cases (mget seq ks vs f.fRoute).getD false with
      | true => exact Ev.now fun _ => rfl
      | false =>
        simp only [cond_false]
        unfold rest
        have e1 : (bif !ieq f.fKind (-1) then (bif ilt f.fKind 0 then true else ilt 6 f.fKind) else false) = (!ieq f.fKind (-1) && (ilt f.fKind 0 || ilt 6 f.fKind)) := by cases ieq f.fKind (-1) <;> cases ilt f.fKind 0 <;> rfl
        have e2 : (bif !f.fBounded then (bif !ieq f.fMin 0 then true else !ieq f.fMax 0) else false) = (!f.fBounded && (!ieq f.fMin 0 || !ieq f.fMax 0)) := by cases f.fBounded <;> cases ieq f.fMin 0 <;> rfl
        have e3 : (bif ilt 0 (llen f.fOneOf) then !ieq f.fKind 3 else false) = (ilt 0 (llen f.fOneOf) && !ieq f.fKind 3) := by cases ilt 0 (llen f.fOneOf) <;> rfl
        rw [e1, e2, e3]
        cases (!ieq f.fKind (-1) && (ilt f.fKind 0 || ilt 6 f.fKind)) with
        | true => exact Ev.now fun _ => rfl
        | false =>
          cases (!f.fBounded && (!ieq f.fMin 0 || !ieq f.fMax 0)) with
          | true => exact Ev.now fun _ => rfl
          | false =>
            cases ilt f.fMax f.fMin with
            | true => exact Ev.now fun _ => rfl
            | false =>
              cases (ilt 0 (llen f.fOneOf) && !ieq f.fKind 3) with
              | true => exact Ev.now fun _ => rfl
              | false => exact oneL f ks vs f.fOneOf rfl hf hr hne f.fOneOf.length 0 (by omega) (by omega)

theorem oneR (f : T_conf_Field) (l : List ByteArray) (hl : l = f.fOneOf) (hf : fz f ≤ 1048576) : ∀ (d j : Nat), l.length - j ≤ d → j ≤ l.length →
    Ev (fun k => mastref2_fieldFault.l1 k f.fRoute f.fKind f.fNeed f.fBounded f.fMin f.fMax f.fOneOf f.fDefault.fKind f.fDefault.fBool f.fDefault.fInt f.fDefault.fText f.fDefault.fItems f.fDefault.fKeys l (llen l) (j : Int)) (oneF (dflt f) (l.drop j)) := by
  unfold fz at hf
  have hlen := klen_le f.fOneOf
  rw [← hl] at hlen hf
  have hcon : strings_Contains.f f.fRoute c__2a = some (star f.fRoute) := by
    unfold strings_Contains.f
    rw [if_pos (by omega)]
    show some (Lib.contains f.fRoute.data.toList [42]) = _
    rw [contains_mem]; rfl
  intro d
  have last : ∀ j, l.length ≤ j → Ev (fun k => mastref2_fieldFault.l1 k f.fRoute f.fKind f.fNeed f.fBounded f.fMin f.fMax f.fOneOf f.fDefault.fKind f.fDefault.fBool f.fDefault.fInt f.fDefault.fText f.fDefault.fItems f.fDefault.fKeys l (llen l) (j : Int)) (oneF (dflt f) (l.drop j)) := fun j hj => by
    rw [List.drop_eq_nil_of_le hj]
    refine Ev.step (fun k => by simp only [mastref2_fieldFault.l1, llen_eq, ilt_f (show (l.length : Int) ≤ (j : Int) by omega), cond_false, eta]; rfl) (Ev.bind (chkR_ok f.fDefault (by omega)) ?_)
    simp only [oneF, dflt]
    cases h : ieq (chk f.fDefault) 0 with
    | false =>
      simp only [Bool.not_false, cond_true]
      exact Ev.now fun _ => rfl
    | true =>
      simp only [Bool.not_true, cond_false]
      cases h0 : ieq f.fDefault.fKind 0 with
      | true => exact Ev.now fun _ => rfl
      | false =>
        simp only [cond_false]
        cases h1 : (!ieq f.fKind (-1) && !ieq f.fDefault.fKind f.fKind) with
        | true =>
          simp only [show (bif !ieq f.fKind (-1) then !ieq f.fDefault.fKind f.fKind else false) = true by rw [← h1]; cases ieq f.fKind (-1) <;> rfl]
          exact Ev.now fun _ => rfl
        | false =>
          simp only [show (bif !ieq f.fKind (-1) then !ieq f.fDefault.fKind f.fKind else false) = false by rw [← h1]; cases ieq f.fKind (-1) <;> rfl, cond_false, hcon, Option.bind_some]
          cases star f.fRoute <;> exact Ev.now fun _ => rfl
  induction d with
  | zero => intro j hd hj; exact last j (by omega)
  | succ d ih =>
    intro j hd hj
    rcases Nat.lt_or_ge j l.length with hlt | hge
    · rw [List.drop_eq_getElem_cons hlt]
      have hz := kz_mem (List.getElem_mem hlt)
      have st : ∀ k, mastref2_fieldFault.l1 (k + 1) f.fRoute f.fKind f.fNeed f.fBounded f.fMin f.fMax f.fOneOf f.fDefault.fKind f.fDefault.fBool f.fDefault.fInt f.fDefault.fText f.fDefault.fItems f.fDefault.fKeys l (llen l) (j : Int) = bif ilt 5000 (slen l[j]) then some 4 else (mastref2_badByte.f k l[j]).bind fun y3 => bif y3 then some 9 else mastref2_fieldFault.l1 k f.fRoute f.fKind f.fNeed f.fBounded f.fMin f.fMax f.fOneOf f.fDefault.fKind f.fDefault.fBool f.fDefault.fInt f.fDefault.fText f.fDefault.fItems f.fDefault.fKeys l (llen l) ((j + 1 : Nat) : Int) := fun k => by
        simp only [mastref2_fieldFault.l1, llen_eq, Go.Proofs.YthmedjljckbidaaGreatDoor.Lift.ilen _ _ hlt, cond_true, lat_lt hlt, Option.bind_some, u0 (show j ≤ 4611686018427387904 by omega)]
      simp only [oneF]
      cases h5 : ilt 5000 (slen l[j]) with
      | true => exact Ev.step (g := fun _ => some 4) (fun k => by rw [st, h5]; rfl) (Ev.now fun _ => rfl)
      | false =>
        refine Ev.step (fun k => by rw [st, h5]; rfl) (Ev.bind (bad_ref l[j] (by omega)) ?_)
        cases bad l[j] with
        | true => exact Ev.now fun _ => rfl
        | false => exact ih (j + 1) (by omega) hlt
    · exact last j hge

theorem fieldR (l : List T_conf_Field) (j : Nat) (hj : j < l.length) (hl : l.length ≤ 100) (hf : fz l[j] ≤ 1048576) : Ev (fun k => mastref2_fieldFault.f k l (j : Int)) (ff l[j] ((l.take j).any fun x => seq x.fRoute l[j].fRoute)) := by
  have hf' := hf
  unfold fz at hf'
  obtain ⟨o, ho⟩ := routeR_ok true l[j].fRoute (by omega)
  refine Ev.congr (fun k => by simp only [mastref2_fieldFault.f, lat_lt hj, Option.bind_some]; rfl) (Ev.bind ho ?_)
  unfold ff
  cases hr : rpS true l[j].fRoute with
  | false => exact Ev.now fun _ => rfl
  | true =>
    simp only [cond_true, Bool.not_true, cond_false, Bool.true_and]
    cases hne : seq l[j].fRoute c_empty with
    | true => exact Ev.now fun _ => rfl
    | false =>
      have hs : lsub l 0 (j : Int) = some (l.take j) := by
        unfold lsub
        rw [if_pos ⟨by omega, by omega, by omega⟩]
        simp
      simp only [cond_false, Bool.not_false, Bool.not_true, hs, Option.bind_some]
      have htl : (l.take j).length ≤ 100 := by rw [List.length_take]; omega
      have q := find_pure (l.take j) 0 (Nat.zero_le _) (fun k i => mastref2_fieldFault.l0 k l[j].fRoute l[j].fKind l[j].fNeed l[j].fBounded l[j].fMin l[j].fMax l[j].fOneOf l[j].fDefault.fKind l[j].fDefault.fBool l[j].fDefault.fInt l[j].fDefault.fText l[j].fDefault.fItems l[j].fDefault.fKeys (l.take j) (llen (l.take j)) (i : Int))
        (fun k => bif (!ieq l[j].fKind (-1) && (ilt l[j].fKind 0 || ilt 6 l[j].fKind)) then some 10 else bif (!l[j].fBounded && (!ieq l[j].fMin 0 || !ieq l[j].fMax 0)) then some 1 else bif ilt l[j].fMax l[j].fMin then some 5 else bif (ilt 0 (llen l[j].fOneOf) && !ieq l[j].fKind 3) then some 1 else mastref2_fieldFault.l1 k l[j].fRoute l[j].fKind l[j].fNeed l[j].fBounded l[j].fMin l[j].fMax l[j].fOneOf l[j].fDefault.fKind l[j].fDefault.fBool l[j].fDefault.fInt l[j].fDefault.fText l[j].fDefault.fItems l[j].fDefault.fKeys l[j].fOneOf (llen l[j].fOneOf) 0)
        (fun x => seq x.fRoute l[j].fRoute) (fun _ => 6) (rest l[j])
        (fun k i h => by simp only [mastref2_fieldFault.l0, llen_eq, Go.Proofs.YthmedjljckbidaaGreatDoor.Lift.ilen _ _ h, cond_true, lat_lt h, Option.bind_some, u0 (show i ≤ 4611686018427387904 by omega)])
        (fun k => by
          have e1 : (bif (bif ilt l[j].fKind 0 then true else ilt 6 l[j].fKind) then !ieq l[j].fKind (-1) else false) = (!ieq l[j].fKind (-1) && (ilt l[j].fKind 0 || ilt 6 l[j].fKind)) := by cases ieq l[j].fKind (-1) <;> cases ilt l[j].fKind 0 <;> cases ilt 6 l[j].fKind <;> rfl
          have e2 : (bif !l[j].fBounded then (bif !ieq l[j].fMin 0 then true else !ieq l[j].fMax 0) else false) = (!l[j].fBounded && (!ieq l[j].fMin 0 || !ieq l[j].fMax 0)) := by cases l[j].fBounded <;> cases ieq l[j].fMin 0 <;> rfl
          have e3 : (bif ilt 0 (llen l[j].fOneOf) then !ieq l[j].fKind 3 else false) = (ilt 0 (llen l[j].fOneOf) && !ieq l[j].fKind 3) := by cases ilt 0 (llen l[j].fOneOf) <;> rfl
          have e0 : ilt ((l.take j).length : Int) (llen (l.take j)) = false := by rw [llen_eq]; exact ilt_f (by omega)
          simp only [mastref2_fieldFault.l0, e0, cond_false, e1, e2, e3])
        (by
          unfold rest
          cases (!ieq l[j].fKind (-1) && (ilt l[j].fKind 0 || ilt 6 l[j].fKind)) with
          | true => exact Ev.now fun _ => rfl
          | false =>
            cases (!l[j].fBounded && (!ieq l[j].fMin 0 || !ieq l[j].fMax 0)) with
            | true => exact Ev.now fun _ => rfl
            | false =>
              cases ilt l[j].fMax l[j].fMin with
              | true => exact Ev.now fun _ => rfl
              | false =>
                cases (ilt 0 (llen l[j].fOneOf) && !ieq l[j].fKind 3) with
                | true => exact Ev.now fun _ => rfl
                | false => exact oneR l[j] l[j].fOneOf rfl hf l[j].fOneOf.length 0 (by omega) (by omega))
      rw [fl_const, List.drop_zero] at q
      exact q

/-! The fields. -/
theorem mget_rep : ∀ (ks : List ByteArray) (r : ByteArray), (mget seq ks (List.replicate ks.length true) r).getD false = ks.any fun k => seq r k
  | [], r => rfl
  | k :: ks, r => by
    have ih := mget_rep ks r
    rw [List.length_cons, List.replicate_succ, List.any_cons]
    unfold mget
    cases h : seq r k with
    | true => rfl
    | false => rw [Bool.false_or, ← ih]; rfl
theorem mput_rep : ∀ (ks : List ByteArray) (x : ByteArray), mputV seq ks (List.replicate ks.length true) x true = List.replicate (mputK seq ks x).length true
  | [], x => rfl
  | k :: ks, x => by
    have ih := mput_rep ks x
    rw [List.length_cons, List.replicate_succ]
    unfold mputV mputK
    cases h : seq x k with
    | true => rfl
    | false =>
      show true :: mputV seq ks (List.replicate ks.length true) x true = List.replicate (k :: mputK seq ks x).length true
      rw [ih]; rfl
theorem mput_any : ∀ (ks : List ByteArray) (x r : ByteArray), (mputK seq ks x).any (fun k => seq r k) = (ks.any (fun k => seq r k) || seq r x)
  | [], x, r => by simp [mputK]
  | k :: ks, x, r => by
    have ih := mput_any ks x r
    unfold mputK
    cases h : seq x k with
    | true =>
      have : x = k := by rw [seq_d] at h; exact of_decide_eq_true h
      subst this
      show (x :: ks).any _ = _
      simp only [List.any_cons]
      cases seq r x <;> simp
    | false =>
      show (k :: mputK seq ks x).any _ = _
      simp only [List.any_cons, ih]
      cases seq r k <;> simp
def sf : List T_conf_Field → List T_conf_Field → Int
  | _, [] => 0
  | pre, f :: r => bif ieq (ff f (pre.any fun x => seq x.fRoute f.fRoute)) 0 then sf (pre ++ [f]) r else ff f (pre.any fun x => seq x.fRoute f.fRoute)
theorem seq_comm (a b : ByteArray) : seq a b = seq b a := by
  rw [seq_d, seq_d]; congr 1; exact propext ⟨Eq.symm, Eq.symm⟩

theorem schemaL (l : List T_conf_Field) (hl : l.length ≤ 100) (hf : ∀ f ∈ l, fz f ≤ 1048576) : ∀ (d j : Nat) (ks : List ByteArray), l.length - j ≤ d → j ≤ l.length → (∀ r, ks.any (fun k => seq r k) = (l.take j).any fun x => seq x.fRoute r) →
    Ev (fun k => conf_CheckSchema.l0 k ks (List.replicate ks.length true) l (llen l) (j : Int)) (sf (l.take j) (l.drop j)) := by
  intro d
  have last : ∀ (j : Nat) (ks : List ByteArray), l.length ≤ j → Ev (fun k => conf_CheckSchema.l0 k ks (List.replicate ks.length true) l (llen l) (j : Int)) (sf (l.take j) (l.drop j)) := fun j ks hj => by
    rw [List.drop_eq_nil_of_le hj]
    refine Ev.step (g := fun _ => some 0) (fun k => ?_) (Ev.now fun _ => rfl)
    simp only [conf_CheckSchema.l0, llen_eq, ilt_f (show (l.length : Int) ≤ (j : Int) by omega), cond_false]
  induction d with
  | zero => intro j ks hd hj hi; exact last j ks (by omega)
  | succ d ih =>
    intro j ks hd hj hi
    rcases Nat.lt_or_ge j l.length with hlt | hge
    · rw [List.drop_eq_getElem_cons hlt]
      have h1 := fieldL l[j] ks (List.replicate ks.length true) (hf _ (List.getElem_mem hlt))
      rw [mget_rep, hi] at h1
      refine Ev.step (fun k => by simp only [conf_CheckSchema.l0, llen_eq, Go.Proofs.YthmedjljckbidaaGreatDoor.Lift.ilen _ _ hlt, cond_true, lat_lt hlt, Option.bind_some, eta, feta]; rfl) (Ev.bind h1 ?_)
      simp only [sf]
      cases ieq (ff l[j] ((l.take j).any fun x => seq x.fRoute l[j].fRoute)) 0 with
      | false => exact Ev.now fun _ => rfl
      | true =>
        have hr := ih (j + 1) (mputK seq ks l[j].fRoute) (by omega) hlt (fun r => by
          rw [mput_any, hi, List.take_succ_eq_append_getElem hlt, List.any_append, List.any_cons, List.any_nil, Bool.or_false, seq_comm r])
        rw [List.take_succ_eq_append_getElem hlt, ← mput_rep] at hr
        simp only [Bool.not_true, cond_false, u0 (show j ≤ 4611686018427387904 by omega)]
        exact hr
    · exact last j ks hge
theorem schemaR (l : List T_conf_Field) (b : Bool) (hl : l.length ≤ 100) (hf : ∀ f ∈ l, fz f ≤ 1048576) : ∀ (d j : Nat), l.length - j ≤ d → j ≤ l.length →
    Ev (fun k => mastref2_SchemaFault.l0 k l b (llen l) (j : Int)) (sf (l.take j) (l.drop j)) := by
  intro d
  have last : ∀ (j : Nat), l.length ≤ j → Ev (fun k => mastref2_SchemaFault.l0 k l b (llen l) (j : Int)) (sf (l.take j) (l.drop j)) := fun j hj => by
    rw [List.drop_eq_nil_of_le hj]
    refine Ev.step (g := fun _ => some 0) (fun k => ?_) (Ev.now fun _ => rfl)
    simp only [mastref2_SchemaFault.l0, llen_eq, ilt_f (show (l.length : Int) ≤ (j : Int) by omega), cond_false]
  induction d with
  | zero => intro j hd hj; exact last j (by omega)
  | succ d ih =>
    intro j hd hj
    rcases Nat.lt_or_ge j l.length with hlt | hge
    · rw [List.drop_eq_getElem_cons hlt]
      have h1 := fieldR l j hlt hl (hf _ (List.getElem_mem hlt))
      refine Ev.step (fun k => by simp only [mastref2_SchemaFault.l0, llen_eq, Go.Proofs.YthmedjljckbidaaGreatDoor.Lift.ilen _ _ hlt, cond_true]; rfl) (Ev.bind h1 ?_)
      simp only [sf]
      cases ieq (ff l[j] ((l.take j).any fun x => seq x.fRoute l[j].fRoute)) 0 with
      | false => exact Ev.now fun _ => rfl
      | true =>
        have hr := ih (j + 1) (by omega) hlt
        rw [List.take_succ_eq_append_getElem hlt] at hr
        simp only [Bool.not_true, cond_false, u0 (show j ≤ 4611686018427387904 by omega)]
        exact hr
    · exact last j hge

theorem fz_bulk (D : Nat) (f : T_conf_Field) (h : good ctx (D + 2) (.st 1) f) : fz f ≤ bulk ctx (D + 2) (.st 1) f := by
  have hv := wt_bulk (D + 1) f.fDefault h.2.2.2.2.2.2.2
  have hz : ∀ l : List ByteArray, kz l = (l.map (bulk ctx D .str)).sum := by
    intro l
    induction l with
    | nil => rfl
    | cons a l ih => simp only [kz, ih, List.map_cons, List.sum_cons, bulk_str]
  have h2 := hz f.fOneOf
  unfold fz
  rw [h2]
  show _ ≤ (f.fRoute.size + 1) + (1 + (1 + (1 + (1 + (1 + (((f.fOneOf.map (bulk ctx D .str)).sum + 1) + (bulk ctx (D + 1) (.st 2) f.fDefault + 0))))))) + 1
  omega
theorem all_small : ∀ (D : Nat) (x : T_conf_Schema), good ctx D (.st 0) x → ∀ f ∈ x.fFields, fz f ≤ bulk ctx D (.st 0) x
  | 0, x, h, f, hf => h.1.elim
  | 1, x, h, f, hf => (h.1.2.2 f hf).elim
  | 2, x, h, f, hf => (h.1.2.2 f hf).1.elim
  | 3, x, h, f, hf => (h.1.2.2 f hf).2.2.2.2.2.2.2.1.elim
  | D + 4, x, h, f, hf => by
    have h1 := fz_bulk D f (h.1.2.2 f hf)
    have hs : ∀ l : List T_conf_Field, f ∈ l → bulk ctx (D + 2) (.st 1) f ≤ (l.map (bulk ctx (D + 2) (.st 1))).sum := by
      intro l
      induction l with
      | nil => intro h; cases h
      | cons a l ih =>
        intro h
        show _ ≤ bulk ctx (D + 2) (.st 1) a + (l.map (bulk ctx (D + 2) (.st 1))).sum
        rcases List.mem_cons.1 h with e | e
        · subst e; exact Nat.le_add_right _ _
        · exact Nat.le_trans (ih e) (Nat.le_add_left _ _)
    have h2 := hs x.fFields hf
    show _ ≤ (((x.fFields.map (bulk ctx (D + 2) (.st 1))).sum + 1) + (1 + 0)) + 1
    omega

theorem bl_irr : ∀ a : List UInt8, Op.bytesLess a a = false
  | [] => rfl
  | x :: a => by simp [Op.bytesLess, bl_irr a]
theorem bl_trans : ∀ a b c : List UInt8, Op.bytesLess a b = true → Op.bytesLess b c = true → Op.bytesLess a c = true
  | _, [], _, h, _ => by simp [Op.bytesLess] at h
  | _, _ :: _, [], _, h => by simp [Op.bytesLess] at h
  | [], _ :: _, _ :: _, _, _ => rfl
  | x :: a, y :: b, z :: c, h1, h2 => by
    simp only [Op.bytesLess, Bool.or_eq_true, Bool.and_eq_true, decide_eq_true_eq, beq_iff_eq] at h1 h2 ⊢
    rcases h1 with h1 | ⟨h1, h3⟩
    · rcases h2 with h2 | ⟨h2, _⟩
      · exact .inl (UInt8.lt_trans h1 h2)
      · exact .inl (h2 ▸ h1)
    · rcases h2 with h2 | ⟨h2, h4⟩
      · exact .inl (h1 ▸ h2)
      · exact .inr ⟨h1.trans h2, bl_trans a b c h3 h4⟩
theorem bl_total : ∀ a b : List UInt8, Op.bytesLess a b = false → a ≠ b → Op.bytesLess b a = true
  | [], [], _, h => absurd rfl h
  | [], _ :: _, h, _ => by simp [Op.bytesLess] at h
  | _ :: _, [], _, _ => rfl
  | x :: a, y :: b, h, hne => by
    simp only [Op.bytesLess, Bool.or_eq_false_iff, Bool.and_eq_false_iff, decide_eq_false_iff_not, beq_eq_false_iff_ne] at h
    simp only [Op.bytesLess, Bool.or_eq_true, Bool.and_eq_true, decide_eq_true_eq, beq_iff_eq]
    by_cases e : x = y
    · subst e
      right
      refine ⟨rfl, bl_total a b (h.2.resolve_left fun q => q rfl) fun q => hne (by rw [q])⟩
    · left
      rcases Nat.lt_trichotomy x.toNat y.toNat with q | q | q
      · exact absurd (UInt8.lt_iff_toNat_lt.2 q) h.1
      · exact absurd (UInt8.toNat_inj.1 q) e
      · exact UInt8.lt_iff_toNat_lt.2 q
theorem sl_irr (a : ByteArray) : slt a a = false := bl_irr _
theorem sl_trans {a b c : ByteArray} (h1 : slt a b = true) (h2 : slt b c = true) : slt a c = true := bl_trans _ _ _ h1 h2
theorem sl_total {a b : ByteArray} (h : sle a b = false) : slt b a = true := by
  unfold sle at h
  obtain ⟨h1, h2⟩ := Bool.or_eq_false_iff.1 h
  refine bl_total _ _ h1 fun e => ?_
  unfold seq at h2
  rw [e] at h2
  simp at h2
/-! The order of values. -/
def zro : T_api_Value := ⟨0, false, 0, c_empty, [], []⟩
theorem vfs_zero : ∀ {l : List T_api_Value}, vfs l = 0 → ∀ k ∈ l, vf k = 0
  | a :: l, h, k, hk => by
    simp only [vfs] at h
    by_cases e : vf a = 0
    · rw [ieq_t e, cond_true] at h
      rcases List.mem_cons.1 hk with q | q
      · rw [q]; exact e
      · exact vfs_zero h k q
    · rw [ieq_f e, cond_false] at h; exact absurd h e
theorem vf_zero {v : T_api_Value} (h : vf v = 0) : own v = 0 ∧ vfs v.fItems = 0 := by
  rw [vf_eq] at h
  by_cases e : own v = 0
  · rw [ieq_t e, cond_true] at h; exact ⟨e, h⟩
  · rw [ieq_f e, cond_false] at h; exact absurd h e
theorem own_zero {v : T_api_Value} (h : own v = 0) : un2 v = false ∧ ks none v.fKeys = 0 := by
  unfold own at h
  cases h1 : ilt v.fKind 0 || ilt 6 v.fKind with
  | true => rw [h1] at h; exact nomatch h
  | false =>
    rw [h1, cond_false] at h
    cases h2 : (un v || un2 v) with
    | true => rw [h2] at h; exact nomatch h
    | false =>
      rw [h2, cond_false] at h
      cases h3 : (ieq v.fKind 4 && (ilt v.fInt 0 || ilt 84005 v.fInt)) with
      | true => rw [h3] at h; exact nomatch h
      | false =>
        rw [h3, cond_false] at h
        cases h4 : ilt 5000 (slen v.fText) with
        | true => rw [h4] at h; exact nomatch h
        | false =>
          rw [h4, cond_false] at h
          cases h5 : bad v.fText with
          | true => rw [h5] at h; exact nomatch h
          | false =>
            rw [h5, cond_false] at h
            exact ⟨(Bool.or_eq_false_iff.1 h2).2, h⟩
theorem len_of {v : T_api_Value} (h : un2 v = false) (h6 : v.fKind = 6) : v.fKeys.length = v.fItems.length := by
  unfold un2 at h
  rw [ieq_t h6, Bool.true_and, llen_eq, llen_eq, ieq_d] at h
  have : (v.fKeys.length : Int) = (v.fItems.length : Int) := by simpa using h
  omega
abbrev Srt (l : List ByteArray) : Prop := l.Pairwise fun a b => slt a b = true
theorem ks_srt : ∀ (l : List ByteArray) (p : Option ByteArray), ks p l = 0 → (∀ y, p = some y → ∀ x ∈ l, slt y x = true) ∧ Srt l
  | [], p, _ => ⟨(fun _ _ _ h => nomatch h), List.Pairwise.nil⟩
  | x :: r, p, h => by
    simp only [ks] at h
    cases hk : key x with
    | false => rw [hk] at h; exact nomatch h
    | true =>
      rw [hk] at h
      simp only [Bool.not_true, cond_false] at h
      cases hp : (match p with | none => false | some y => sle x y) with
      | true => rw [hp] at h; exact nomatch h
      | false =>
        rw [hp, cond_false] at h
        obtain ⟨i1, i2⟩ := ks_srt r (some x) h
        have i1 := i1 x rfl
        refine ⟨fun y hy z hz => ?_, .cons i1 i2⟩
        subst hy
        have hyx : slt y x = true := sl_total hp
        rcases List.mem_cons.1 hz with e | e
        · rw [e]; exact hyx
        · exact sl_trans hyx (i1 z e)

/-! Looking up a key. -/
def cnt (p : ByteArray) : List ByteArray → Nat
  | [] => 0
  | x :: r => bif slt x p then cnt p r + 1 else 0
theorem cnt_le (p : ByteArray) : ∀ l, cnt p l ≤ l.length
  | [] => Nat.le_refl _
  | x :: r => by
    have := cnt_le p r
    simp only [cnt, List.length_cons]
    cases slt x p <;> simp <;> omega
theorem cnt_lt (p : ByteArray) : ∀ (l : List ByteArray) (i : Nat) (h : i < l.length), i < cnt p l → slt l[i] p = true
  | x :: r, i, h, hi => by
    simp only [cnt] at hi
    cases hx : slt x p with
    | false => rw [hx] at hi; simp at hi
    | true =>
      rw [hx, cond_true] at hi
      cases i with
      | zero => exact hx
      | succ i => exact cnt_lt p r i (by simpa using h) (by omega)
theorem cnt_ge (p : ByteArray) : ∀ (l : List ByteArray), Srt l → ∀ (i : Nat) (h : i < l.length), cnt p l ≤ i → slt l[i] p = false
  | x :: r, hs, i, h, hi => by
    obtain ⟨h1, h2⟩ := List.pairwise_cons.1 hs
    simp only [cnt] at hi
    cases hx : slt x p with
    | true =>
      rw [hx, cond_true] at hi
      cases i with
      | zero => omega
      | succ i => exact cnt_ge p r h2 i (by simpa using h) (by omega)
    | false =>
      cases i with
      | zero => exact hx
      | succ i =>
        cases q : slt (x :: r)[i + 1] p with
        | false => rfl
        | true =>
          have hi' : i < r.length := by simpa using h
          have : slt x r[i] = true := h1 _ (List.getElem_mem hi')
          rw [sl_trans this q] at hx; cases hx
theorem fl_at {β : Type} (q : ByteArray → Bool) (hit : Nat → β) (fin : β) : ∀ (l : List ByteArray) (j0 t : Nat) (h : t < l.length), q l[t] = true → (∀ i (hi : i < l.length), i < t → q l[i] = false) → fl q hit fin j0 l = hit (j0 + t)
  | x :: r, j0, 0, h, hq, _ => by
    have : q x = true := hq
    simp only [fl, this, cond_true, Nat.add_zero]
  | x :: r, j0, t + 1, h, hq, hn => by
    have h0 : q x = false := hn 0 (by simp) (by omega)
    simp only [fl, h0, cond_false]
    rw [fl_at q hit fin r (j0 + 1) t (by simpa using h) hq (fun i hi ht => hn (i + 1) (by simpa using hi) (by omega))]
    congr 1; omega
theorem fl_no {β : Type} (q : ByteArray → Bool) (hit : Nat → β) (fin : β) : ∀ (l : List ByteArray) (j0 : Nat), (∀ x ∈ l, q x = false) → fl q hit fin j0 l = fin
  | [], _, _ => rfl
  | x :: r, j0, h => by
    simp only [fl, h x (List.mem_cons_self ..), cond_false]
    exact fl_no q hit fin r (j0 + 1) fun y hy => h y (List.mem_cons_of_mem _ hy)
/-- The place of a key among sorted ones. -/
theorem place {β : Type} (p : ByteArray) (l : List ByteArray) (hs : Srt l) (hit : Nat → β) (fin : β) : fl (fun s => seq s p) hit fin 0 l = if h : cnt p l < l.length then (bif seq l[cnt p l] p then hit (cnt p l) else fin) else fin := by
  have low : ∀ i (hi : i < l.length), i < cnt p l → seq l[i] p = false := fun i hi ht => by
    have h1 := cnt_lt p l i hi ht
    rw [seq_d]
    refine decide_eq_false fun e => ?_
    rw [e, sl_irr] at h1; cases h1
  by_cases h : cnt p l < l.length
  · rw [dif_pos h]
    cases hq : seq l[cnt p l] p with
    | true =>
      rw [cond_true, fl_at (fun s => seq s p) hit fin l 0 (cnt p l) h hq low, Nat.zero_add]
    | false =>
      refine fl_no _ hit fin l 0 fun x hx => ?_
      obtain ⟨i, hi, rfl⟩ := List.getElem_of_mem hx
      rcases Nat.lt_trichotomy i (cnt p l) with q | q | q
      · exact low i hi q
      · subst q; exact hq
      · cases e : seq l[i] p with
        | false => rfl
        | true =>
          have e : l[i] = p := by rw [seq_d] at e; exact of_decide_eq_true e
          have h1 := List.pairwise_iff_getElem.1 hs (cnt p l) i h hi q
          have h2 := cnt_ge p l hs (cnt p l) h (Nat.le_refl _)
          rw [e, h2] at h1; cases h1
  · rw [dif_neg h]
    refine fl_no _ hit fin l 0 fun x hx => ?_
    obtain ⟨i, hi, rfl⟩ := List.getElem_of_mem hx
    exact low i hi (by omega)
theorem mid_ok {lo hi : Nat} (h : lo + hi ≤ 4611686018427387904) : wcv .i64 (ishr .u64 (wcv .u64 (wadd .i64 (lo : Int) (hi : Int))) 1) = (((lo + hi) / 2 : Nat) : Int) := by
  have h1 : wadd .i64 (lo : Int) (hi : Int) = ((lo + hi : Nat) : Int) := by rw [wadd64 (by omega) (by omega)]; omega
  have h2 : wcv .u64 ((lo + hi : Nat) : Int) = ((lo + hi : Nat) : Int) := wrap_u rfl (by omega) (by show ((lo + hi : Nat) : Int) < 2 ^ 64; omega)
  have h3 : ishr .u64 ((lo + hi : Nat) : Int) 1 = (((lo + hi) / 2 : Nat) : Int) := by
    unfold ishr
    rw [show min (1 : Int).toNat IntKind.u64.bits = 1 from rfl, Int.fdiv_eq_ediv_of_nonneg _ (by decide)]
    omega
  rw [h1, h2, h3]
  unfold wcv
  exact wrap64 (by omega) (by omega)
theorem search_ok (p : ByteArray) (l : List ByteArray) (hs : Srt l) (hl : l.length ≤ 2000000) : ∀ (d lo hi : Nat), hi - lo ≤ d → lo ≤ cnt p l → cnt p l ≤ hi → hi ≤ l.length → Ev (fun k => sort_Search_at_sort_SearchStrings_c1.l0 k (lo : Int) (hi : Int) l p) ((cnt p l : Int), l, p, ()) := by
  have no : ilt 1 0 = false := rfl
  intro d
  induction d with
  | zero =>
    intro lo hi hd h1 h2 h3
    obtain rfl : lo = cnt p l := by omega
    refine Ev.step (g := fun _ => some ((cnt p l : Int), l, p, ())) (fun k => ?_) (Ev.now fun _ => rfl)
    simp only [sort_Search_at_sort_SearchStrings_c1.l0, ilt_f (show (hi : Int) ≤ (cnt p l : Int) by omega), cond_false]
  | succ d ih =>
    intro lo hi hd h1 h2 h3
    by_cases hlt : lo < hi
    · have hm : (lo + hi) / 2 < l.length := by omega
      have st : ∀ k, sort_Search_at_sort_SearchStrings_c1.l0 (k + 1) (lo : Int) (hi : Int) l p = bif slt l[(lo + hi) / 2] p then sort_Search_at_sort_SearchStrings_c1.l0 k (((lo + hi) / 2 + 1 : Nat) : Int) (hi : Int) l p else sort_Search_at_sort_SearchStrings_c1.l0 k (lo : Int) (((lo + hi) / 2 : Nat) : Int) l p := fun k => by
        simp only [sort_Search_at_sort_SearchStrings_c1.l0, ilt_t (show (lo : Int) < (hi : Int) by omega), cond_true, no, cond_false, mid_ok (show lo + hi ≤ 4611686018427387904 by omega), sort_SearchStrings_c1.f, lat_lt hm, Option.bind_some, u0 (show (lo + hi) / 2 ≤ 4611686018427387904 by omega), Bool.not_not]
      cases hq : slt l[(lo + hi) / 2] p with
      | true =>
        have : (lo + hi) / 2 < cnt p l := by
          rcases Nat.lt_or_ge ((lo + hi) / 2) (cnt p l) with q | q
          · exact q
          · rw [cnt_ge p l hs _ hm q] at hq; cases hq
        exact Ev.step (fun k => by rw [st, hq]; rfl) (ih _ _ (by omega) (by omega) h2 h3)
      | false =>
        have : cnt p l ≤ (lo + hi) / 2 := by
          rcases Nat.lt_or_ge ((lo + hi) / 2) (cnt p l) with q | q
          · rw [cnt_lt p l _ hm q] at hq; cases hq
          · exact q
        exact Ev.step (fun k => by rw [st, hq]; rfl) (ih _ _ (by omega) h1 this (by omega))
    · obtain rfl : lo = cnt p l := by omega
      refine Ev.step (g := fun _ => some ((cnt p l : Int), l, p, ())) (fun k => ?_) (Ev.now fun _ => rfl)
      simp only [sort_Search_at_sort_SearchStrings_c1.l0, ilt_f (show (hi : Int) ≤ (cnt p l : Int) by omega), cond_false]
/-- The item of a key. -/
def lk (v : T_api_Value) (p : ByteArray) : Option T_api_Value := bif ieq v.fKind 6 then fl (fun s => seq s p) (fun j => v.fItems[j]?) none 0 v.fKeys else none
def num (p : ByteArray) : Nat := ((strconv_Atoi.f p).getD 0).toNat
def stepv (v : T_api_Value) (p : ByteArray) : Option T_api_Value := bif key p then lk v p else bif ieq v.fKind 5 then v.fItems[num p]? else none
def out (o : Option T_api_Value) : T_api_Value × Bool := match o with | some x => (x, true) | none => (zro, false)

theorem find_ok (v : T_api_Value) (p : ByteArray) (hs : Srt v.fKeys) (hl : v.fKeys.length ≤ 2000000) : Ev (fun k => conf_find.f k v p) ((cnt p v.fKeys : Int), if h : cnt p v.fKeys < v.fKeys.length then seq v.fKeys[cnt p v.fKeys] p else false) := by
  have hc := cnt_le p v.fKeys
  have q := search_ok p v.fKeys hs hl v.fKeys.length 0 v.fKeys.length (by omega) (by omega) hc (Nat.le_refl _)
  have q2 : Ev (fun k => sort_SearchStrings.f k v.fKeys p) (cnt p v.fKeys : Int) := by
    refine Ev.congr (g := fun k => (sort_Search_at_sort_SearchStrings_c1.l0 k ((0 : Nat) : Int) (v.fKeys.length : Int) v.fKeys p).bind fun y1 => some y1.1) (fun k => ?_) (Ev.bind q (Ev.now fun _ => rfl))
    simp only [sort_SearchStrings.f, sort_Search_at_sort_SearchStrings_c1.f]
    rfl
  refine Ev.congr (fun k => by simp only [conf_find.f]; rfl) (Ev.bind q2 ?_)
  by_cases h : cnt p v.fKeys < v.fKeys.length
  · rw [dif_pos h]
    simp only [llen_eq, ilt_t (show (cnt p v.fKeys : Int) < (v.fKeys.length : Int) by omega), cond_true, lat_lt h, Option.bind_some]
    exact Ev.now fun _ => rfl
  · rw [dif_neg h]
    simp only [llen_eq, ilt_f (show (v.fKeys.length : Int) ≤ (cnt p v.fKeys : Int) by omega), cond_false]
    exact Ev.now fun _ => rfl

theorem follow_ok (v : T_api_Value) (p : ByteArray) (hv : wt v ≤ 1048576) (ho : own v = 0) (hp : pkS false p.data.toList = true) : Ev (fun k => conf_follow.f k v (stp p)) (out (stepv v p)) := by
  rw [wt_eq] at hv
  have hkl := klen_le v.fKeys
  have hil := len_le v.fItems
  obtain ⟨hu, hk0⟩ := own_zero ho
  have hs := (ks_srt v.fKeys none hk0).2
  unfold stepv
  cases hk : key p with
  | true =>
    have e1 : stp p = ⟨p, 0, false⟩ := by unfold stp; rw [hk]; rfl
    have hne : seq p c_empty = false := by
      rw [seq_empty]
      cases hb : p.data.toList with
      | nil => unfold key at hk; rw [hb] at hk; exact nomatch hk
      | cons _ _ => rfl
    rw [e1, cond_true]
    unfold lk
    cases h6 : ieq v.fKind 6 with
    | false => exact Ev.now fun k => by simp only [conf_follow.f, hne, Bool.not_false, cond_true, h6]; rfl
    | true =>
      have h66 : v.fKind = 6 := by rw [ieq_d] at h6; exact of_decide_eq_true h6
      have hlen := len_of hu h66
      rw [cond_true, place p v.fKeys hs]
      refine Ev.congr (fun k => by simp only [conf_follow.f, hne, Bool.not_false, cond_true, h6, Bool.not_true, cond_false, eta]; rfl) (Ev.bind (find_ok v p hs (by omega)) ?_)
      by_cases h : cnt p v.fKeys < v.fKeys.length
      · rw [dif_pos h, dif_pos h]
        cases seq v.fKeys[cnt p v.fKeys] p with
        | false => exact Ev.now fun _ => rfl
        | true =>
          have hi : cnt p v.fKeys < v.fItems.length := by omega
          simp only [Bool.not_true, cond_false, lat_lt hi, Option.bind_some, cond_true, List.getElem?_eq_getElem hi]
          exact Ev.now fun _ => rfl
      · rw [dif_neg h, dif_neg h]
        exact Ev.now fun _ => rfl
  | false =>
    have hdg : dg p.data.toList = true := by
      unfold pkS at hp
      rw [show keyL p.data.toList = key p from rfl, hk] at hp
      simpa using hp
    obtain ⟨n, hn⟩ := atoi_dg hdg
    have hnum : num p = n := by unfold num; rw [hn]; rfl
    have hst : seq p c__2a = false := by
      rw [seq_star]
      cases q : (p.data.toList == [42]) with
      | false => rfl
      | true => rw [beq_iff_eq.1 q] at hdg; exact absurd hdg (by decide)
    have e1 : stp p = ⟨c_empty, n, false⟩ := by unfold stp; rw [hk, hst, hn]; rfl
    rw [e1, cond_false, hnum]
    have st : ∀ k, conf_follow.f k v ⟨c_empty, (n : Int), false⟩ = bif (bif (!ieq v.fKind 5) then true else (ile (llen v.fItems) (n : Int))) then some (zro, false) else (lat v.fItems (n : Int)).bind fun y3 => some (y3, true) := fun k => by
      simp only [conf_follow.f, seq_self, Bool.not_true, cond_false, eta]; rfl
    refine Ev.now fun k => ?_
    rw [st]
    cases ieq v.fKind 5 with
    | false => rfl
    | true =>
      by_cases hi : n < v.fItems.length
      · rw [llen_eq, ile_f (show (n : Int) < (v.fItems.length : Int) by omega), lat_lt hi, List.getElem?_eq_getElem hi]; rfl
      · rw [llen_eq, ile_t (show (v.fItems.length : Int) ≤ (n : Int) by omega), List.getElem?_eq_none (by omega)]; rfl

theorem fl_idx {α : Type} (q : α → Bool) : ∀ (l : List α) (j0 : Nat), fl q (fun j => (j : Int)) (-1) j0 l = -1 ∨ ∃ m : Nat, m < j0 + l.length ∧ fl q (fun j => (j : Int)) (-1) j0 l = m
  | [], _ => .inl rfl
  | y :: r, j0 => by
    simp only [fl, List.length_cons]
    cases q y with
    | true => exact .inr ⟨j0, by omega, rfl⟩
    | false =>
      rcases fl_idx q r (j0 + 1) with h | ⟨m, h1, h2⟩
      · exact .inl h
      · exact .inr ⟨m, by omega, h2⟩
/-- As the reference goes. -/
theorem stepR_ok (v : T_api_Value) (p : ByteArray) (hv : wt v ≤ 1048576) (ho : own v = 0) (hp : pkS false p.data.toList = true) : ∃ i : Int, Ev (fun k => mastref2_Step.f k v p) i ∧ (bif ilt i 0 then none else lat v.fItems i) = stepv v p ∧ (ilt i 0 = false → (lat v.fItems i).isSome = true) := by
  rw [wt_eq] at hv
  have hkl := klen_le v.fKeys
  unfold stepv
  cases hk : key p with
  | true =>
    obtain ⟨c, r, hb, hsm⟩ : ∃ c r, p.data.toList = c :: r ∧ small c = true := by
      unfold key at hk
      cases hb : p.data.toList with
      | nil => rw [hb] at hk; exact nomatch hk
      | cons c r =>
        rw [hb] at hk
        simp only [keyL, Bool.and_eq_true] at hk
        exact ⟨c, r, rfl, hk.1.2⟩
    have h97 : ile 97 (c.toNat : Int) = true := by
      unfold small at hsm
      cases q : ile 97 (c.toNat : Int) with
      | true => rfl
      | false => rw [q] at hsm; exact nomatch hsm
    rw [cond_true]
    unfold lk
    cases h6 : ieq v.fKind 6 with
    | false =>
      refine ⟨-1, Ev.now fun k => ?_, rfl, fun h => nomatch h⟩
      simp only [mastref2_Step.f, sat_0 hb, Option.bind_some, h97, cond_true, h6, Bool.not_false]
    | true =>
      have q := find_pure v.fKeys 0 (Nat.zero_le _) (fun k j => slices_Index_string_string.l0 k v.fKeys p (llen v.fKeys) (j : Int)) (fun _ => some (-1)) (fun s => seq s p) (fun j => (j : Int)) (-1)
        (fun k j h => by
          simp only [slices_Index_string_string.l0, llen_eq, Go.Proofs.YthmedjljckbidaaGreatDoor.Lift.ilen _ _ h, cond_true, lat_lt h, Option.bind_some, u0 (show j ≤ 4611686018427387904 by omega)]
          rw [show seq p v.fKeys[j] = seq v.fKeys[j] p by rw [seq_d, seq_d]; congr 1; exact propext ⟨Eq.symm, Eq.symm⟩])
        (fun k => by simp only [slices_Index_string_string.l0, llen_eq, Go.Proofs.YthmedjljckbidaaGreatDoor.Lift.ilen', cond_false]) (Ev.now fun _ => rfl)
      rw [List.drop_zero] at q
      refine ⟨_, Ev.congr (g := fun k => (slices_Index_string_string.l0 k v.fKeys p (llen v.fKeys) 0).bind fun y2 => some y2) (fun k => ?_) (Ev.bind q (Ev.now fun _ => rfl)), ?_, fun hn => ?_⟩
      · simp only [mastref2_Step.f, sat_0 hb, Option.bind_some, h97, cond_true, h6, Bool.not_true, cond_false, slices_Index_string_string.f]
      · rw [cond_true, fl_map (fun i : Int => bif ilt i 0 then none else lat v.fItems i)]
        congr 1
      · have hlen := len_of (own_zero ho).1 (by rw [ieq_d] at h6; exact of_decide_eq_true h6)
        rcases fl_idx (fun s => seq s p) v.fKeys 0 with e | ⟨m, e1, e2⟩
        · rw [e] at hn; cases hn
        · rw [e2, lat_lt (show m < v.fItems.length by omega)]; rfl
  | false =>
    have hdg : dg p.data.toList = true := by
      unfold pkS at hp
      rw [show keyL p.data.toList = key p from rfl, hk] at hp
      simpa using hp
    obtain ⟨n, hn⟩ := atoi_dg hdg
    have hnum : num p = n := by unfold num; rw [hn]; rfl
    obtain ⟨c, r, hb, hd⟩ : ∃ c r, p.data.toList = c :: r ∧ digB c = true := by
      cases hb : p.data.toList with
      | nil => rw [hb] at hdg; exact nomatch hdg
      | cons c r =>
        rw [hb] at hdg
        simp only [dg, Bool.and_eq_true] at hdg
        exact ⟨c, r, rfl, List.all_eq_true.1 hdg.1.1 c (List.mem_cons_self ..)⟩
    have h97 : ile 97 (c.toNat : Int) = false := by
      unfold digB at hd
      cases q : ile 48 (c.toNat : Int) with
      | false => rw [q] at hd; exact nomatch hd
      | true =>
        rw [q, cond_true] at hd
        have := of_decide_eq_true hd
        exact ile_f (by omega)
    rw [cond_false, hnum]
    have st : ∀ k, mastref2_Step.f k v p = bif (bif (ieq v.fKind 5) then (ilt (n : Int) (llen v.fItems)) else false) then some (n : Int) else some (-1) := fun k => by
      simp only [mastref2_Step.f, sat_0 hb, Option.bind_some, h97, cond_false, hn]
    cases h5 : ieq v.fKind 5 with
    | false =>
      refine ⟨-1, Ev.now fun k => ?_, rfl, fun h => nomatch h⟩
      rw [st, h5]; rfl
    | true =>
      by_cases hi : n < v.fItems.length
      · refine ⟨n, Ev.now fun k => ?_, ?_, fun _ => ?_⟩
        · rw [st, h5, llen_eq, ilt_t (show (n : Int) < (v.fItems.length : Int) by omega)]; rfl
        · rw [ilt_f (show (0 : Int) ≤ (n : Int) by omega), cond_false, cond_true, lat_nat]
        · rw [lat_lt hi]; rfl
      · refine ⟨-1, Ev.now fun k => ?_, ?_, fun h => nomatch h⟩
        · rw [st, h5, llen_eq, ilt_f (show (v.fItems.length : Int) ≤ (n : Int) by omega)]; rfl
        · rw [cond_true, List.getElem?_eq_none (by omega)]; rfl

/-! Going along. -/

theorem fl_in {β : Type} (q : ByteArray → Bool) (hit : Nat → Option β) (P : β → Prop) (h : ∀ j x, hit j = some x → P x) : ∀ (l : List ByteArray) (j0 : Nat) (x : β), fl q hit none j0 l = some x → P x
  | [], _, x, e => by cases e
  | y :: r, j0, x, e => by
    simp only [fl] at e
    cases hq : q y with
    | true => rw [hq] at e; exact h _ _ e
    | false => rw [hq] at e; exact fl_in q hit P h r (j0 + 1) x e
theorem stepv_in {v x : T_api_Value} {p : ByteArray} (h : stepv v p = some x) : x ∈ v.fItems := by
  unfold stepv lk at h
  have get : ∀ j y, v.fItems[j]? = some y → y ∈ v.fItems := fun j y e => List.mem_iff_getElem?.2 ⟨j, e⟩
  cases hk : key p with
  | true =>
    rw [hk, cond_true] at h
    cases h6 : ieq v.fKind 6 with
    | false => rw [h6] at h; cases h
    | true => rw [h6] at h; exact fl_in _ _ _ get _ _ _ h
  | false =>
    rw [hk, cond_false] at h
    cases h5 : ieq v.fKind 5 with
    | false => rw [h5] at h; cases h
    | true => rw [h5] at h; exact get _ _ h
theorem chk_zero {v : T_api_Value} (h : chk v = 0) : vf v = 0 := by
  unfold chk at h
  cases h1 : decide (1000 < nT v) with
  | true => rw [h1] at h; exact nomatch h
  | false =>
    rw [h1, cond_false] at h
    cases h2 : decide (8 < lv v) with
    | true => rw [h2] at h; exact nomatch h
    | false => rw [h2] at h; exact h
theorem pcs_all {p : List UInt8 → Bool} {s : ByteArray} (h : (pcs 46 s.data.toList).all p = true) : ∀ x ∈ parts s, p x.data.toList = true := fun x hx => by
  rw [← parts_pcs] at h
  exact List.all_eq_true.1 h _ (List.mem_map.2 ⟨x, hx, rfl⟩)
theorem parts_few (s : ByteArray) (hs : s.size ≤ 1048576) : (parts s).length ≤ 3000000 := by
  have h1 := Lib.splitB_length_le c__2e 0 (Lib.countB s c__2e) s
  have h2 := Lib.countB_le c__2e (by decide) s.size s (Nat.le_refl _)
  unfold parts; omega
/-! Routes to what has no items. -/
theorem scat_of {a b : ByteArray} (h : a.size + b.size ≤ 9223372036854775807) : scat a b = some (a ++ b) := by unfold scat; rw [if_pos h]
theorem itoa_of (n : Nat) (h : n ≤ 2000000) : ∃ p, strconv_Itoa.f (n : Int) = some p ∧ p.size ≤ 21 := by
  refine ⟨_, by unfold strconv_Itoa.f; rw [if_pos ⟨by omega, by omega⟩], ?_⟩
  have := Lib.itoa_length_le (n : Int) (by omega) (by omega)
  show (Lib.itoa (n : Int)).toArray.size ≤ 21
  simpa using this
/-- A part is the same by both, and short. -/
theorem part_of (v : T_api_Value) (hv : wt v ≤ 1048576) (hu : un2 v = false) (j : Nat) (hj : j < v.fItems.length) : ∃ p, conf_part.f v (j : Int) = some p ∧ mastref2_PartOf.f v (j : Int) = some p ∧ p.size + 1 + 22 * wts v.fItems ≤ 22 * wt v := by
  have hw := wt_eq v
  have hl := len_le v.fItems
  by_cases h6 : v.fKind = 6
  · have hk := len_of hu h6
    have hm := kz_mem (List.getElem_mem (h := (by omega : j < v.fKeys.length)))
    refine ⟨v.fKeys[j], ?_, ?_, by omega⟩
    · simp only [conf_part.f, ieq_t h6, cond_true, lat_lt (l := v.fKeys) (n := j) (by omega), Option.bind_some]
    · simp only [mastref2_PartOf.f, ieq_t h6, cond_true, lat_lt (l := v.fKeys) (n := j) (by omega), Option.bind_some]
  · obtain ⟨p, h1, h2⟩ := itoa_of j (by omega)
    refine ⟨p, ?_, ?_, by omega⟩
    · simp only [conf_part.f, ieq_f h6, cond_false, h1, Option.bind_some]
    · simp only [mastref2_PartOf.f, ieq_f h6, cond_false, h1, Option.bind_some]
theorem joined_of (r p : ByteArray) (h : r.size + p.size ≤ 200000000) : ∃ s, conf_joined.f r p = some s ∧ mastref2_Route.f r p = some s ∧ s.size ≤ r.size + p.size + 1 := by
  cases he : seq r c_empty with
  | true => exact ⟨p, by simp only [conf_joined.f, he, cond_true], by simp only [mastref2_Route.f, he, cond_true], by omega⟩
  | false =>
    have h1 : c__2e.size = 1 := rfl
    have e1 : scat r c__2e = some (r ++ c__2e) := scat_of (by omega)
    have s1 : (r ++ c__2e).size = r.size + 1 := by rw [ByteArray.size_append, h1]
    have e2 : scat (r ++ c__2e) p = some (r ++ c__2e ++ p) := scat_of (by omega)
    refine ⟨r ++ c__2e ++ p, ?_, ?_, by rw [ByteArray.size_append, s1]; omega⟩
    · simp only [conf_joined.f, he, cond_false, e1, e2, Option.bind_some]
    · simp only [mastref2_Route.f, he, cond_false, e1, e2, Option.bind_some]
/-- The routes by both. -/
abbrev Rts (v : T_api_Value) (r : ByteArray) : Prop := ∃ L, L.length ≤ wt v ∧ (∀ x ∈ L, x.size ≤ 100000000) ∧ Ev (fun k => mastref2_routes.f k v r) L ∧ ∀ out : List ByteArray, out.length + wt v ≤ 100000000 → Ev (fun k => conf_routes.f k out v r) (out ++ L, ())
theorem routes_loop (v : T_api_Value) (hv : wt v ≤ 1048576) (hu : un2 v = false) (r : ByteArray) (hr : r.size + 22 * wt v ≤ 100000000) (ih : ∀ x ∈ v.fItems, ∀ s : ByteArray, s.size + 22 * wt x ≤ 100000000 → Rts x s) : ∀ (d j : Nat), v.fItems.length - j ≤ d → j ≤ v.fItems.length →
    ∃ L, L.length ≤ wts (v.fItems.drop j) ∧ (∀ x ∈ L, x.size ≤ 100000000) ∧ (∀ acc : List ByteArray, acc.length + wts (v.fItems.drop j) ≤ 100000000 → Ev (fun k => mastref2_routes.l0 k r v.fKind v.fBool v.fInt v.fText v.fItems v.fKeys acc v.fItems (llen v.fItems) (j : Int)) (acc ++ L)) ∧
      (∀ out : List ByteArray, out.length + wts (v.fItems.drop j) ≤ 100000000 → Ev (fun k => conf_routes.l0 k out r v.fKind v.fBool v.fInt v.fText v.fItems v.fKeys v.fItems (llen v.fItems) (j : Int)) (out ++ L, ())) ∧
      ∀ out : List ByteArray, out.length + wts (v.fItems.drop j) ≤ 100000000 → Ev (fun k => conf_routes_nil.l0 k out r v.fKind v.fBool v.fInt v.fText v.fItems v.fKeys v.fItems (llen v.fItems) (j : Int)) (out ++ L) := by
  intro d
  have hlen : v.fItems.length ≤ 1048576 := Nat.le_trans (len_le _) (by have := wt_eq v; omega)
  have last : ∀ j, j = v.fItems.length → ∃ L, L.length ≤ wts (v.fItems.drop j) ∧ (∀ x ∈ L, x.size ≤ 100000000) ∧ (∀ acc : List ByteArray, acc.length + wts (v.fItems.drop j) ≤ 100000000 → Ev (fun k => mastref2_routes.l0 k r v.fKind v.fBool v.fInt v.fText v.fItems v.fKeys acc v.fItems (llen v.fItems) (j : Int)) (acc ++ L)) ∧
      (∀ out : List ByteArray, out.length + wts (v.fItems.drop j) ≤ 100000000 → Ev (fun k => conf_routes.l0 k out r v.fKind v.fBool v.fInt v.fText v.fItems v.fKeys v.fItems (llen v.fItems) (j : Int)) (out ++ L, ())) ∧
      ∀ out : List ByteArray, out.length + wts (v.fItems.drop j) ≤ 100000000 → Ev (fun k => conf_routes_nil.l0 k out r v.fKind v.fBool v.fInt v.fText v.fItems v.fKeys v.fItems (llen v.fItems) (j : Int)) (out ++ L) := fun j h => by
    subst h
    have e := ilen' v.fItems
    refine ⟨[], Nat.zero_le _, (fun _ h => nomatch h), fun acc _ => ?_, fun out _ => ?_, fun out _ => ?_⟩
    · exact Ev.step (g := fun _ => some (acc ++ [])) (fun k => by simp only [mastref2_routes.l0, llen_eq, e, cond_false, List.append_nil]) (Ev.now fun _ => rfl)
    · exact Ev.step (g := fun _ => some (out ++ [], ())) (fun k => by simp only [conf_routes.l0, llen_eq, e, cond_false, List.append_nil]) (Ev.now fun _ => rfl)
    · exact Ev.step (g := fun _ => some (out ++ [])) (fun k => by simp only [conf_routes_nil.l0, llen_eq, e, cond_false, List.append_nil]) (Ev.now fun _ => rfl)
  induction d with
  | zero => intro j hd hj; exact last j (by omega)
  | succ d ihd =>
    intro j hd hj
    rcases Nat.lt_or_ge j v.fItems.length with hlt | hge
    case inr => exact last j (by omega)
    have hi := ilen v.fItems j hlt
    have hla := lat_lt (l := v.fItems) hlt
    have hmem := List.getElem_mem (h := hlt)
    have hwm := wt_mem hmem
    have hdrop : wts (v.fItems.drop j) = wt v.fItems[j] + wts (v.fItems.drop (j + 1)) := by rw [List.drop_eq_getElem_cons hlt]; rfl
    obtain ⟨p, p1, p2, p3⟩ := part_of v hv hu j hlt
    obtain ⟨s, s1, s2, s3⟩ := joined_of r p (by omega)
    obtain ⟨L1, a1, a2, a3, a4⟩ := ih _ hmem s (by omega)
    obtain ⟨L2, b1, b2, b3, b4, b5⟩ := ihd (j + 1) (by omega) hlt
    have hw : wadd .i64 (j : Int) 1 = ((j + 1 : Nat) : Int) := u0 (by omega)
    have h100 := wt_pos v.fItems[j]
    refine ⟨L1 ++ L2, by rw [List.length_append]; omega, fun x hx => (List.mem_append.1 hx).elim (a2 x) (b2 x), fun acc hacc => ?_, fun out hout => ?_, fun out hout => ?_⟩
    · have hlap : lapp 16 acc L1 = some (acc ++ L1) := lapp_ok (by omega) (by omega)
      refine Ev.step (g := fun k => (mastref2_routes.f k v.fItems[j] s).bind fun y4 => (lapp 16 acc y4).bind fun y5 => mastref2_routes.l0 k r v.fKind v.fBool v.fInt v.fText v.fItems v.fKeys y5 v.fItems (llen v.fItems) ((j + 1 : Nat) : Int)) (fun k => by simp only [mastref2_routes.l0, llen_eq, hi, cond_true, hla, Option.bind_some, eta, p2, s2, hw]) (Ev.bind a3 ?_)
      simp only [hlap, Option.bind_some]
      rw [← List.append_assoc]
      exact b3 (acc ++ L1) (by rw [List.length_append]; omega)
    · refine Ev.step (g := fun k => (conf_routes.f k out v.fItems[j] s).bind fun y5 => conf_routes.l0 k y5.1 r v.fKind v.fBool v.fInt v.fText v.fItems v.fKeys v.fItems (llen v.fItems) ((j + 1 : Nat) : Int)) (fun k => by simp only [conf_routes.l0, llen_eq, hi, cond_true, hla, Option.bind_some, eta, p1, s1, hw]) (Ev.bind (a4 out (by omega)) ?_)
      rw [← List.append_assoc]
      exact b4 (out ++ L1) (by rw [List.length_append]; omega)
    · refine Ev.step (g := fun k => (conf_routes.f k out v.fItems[j] s).bind fun y5 => conf_routes_nil.l0 k y5.1 r v.fKind v.fBool v.fInt v.fText v.fItems v.fKeys v.fItems (llen v.fItems) ((j + 1 : Nat) : Int)) (fun k => by simp only [conf_routes_nil.l0, llen_eq, hi, cond_true, hla, Option.bind_some, eta, p1, s1, hw]) (Ev.bind (a4 out (by omega)) ?_)
      rw [← List.append_assoc]
      exact b5 (out ++ L1) (by rw [List.length_append]; omega)
theorem empty_len {α : Type} {l : List α} (h : l = []) : ieq (llen l) 0 = true := by subst h; rfl
theorem some_len {α : Type} {l : List α} (h : l ≠ []) : ieq (llen l) 0 = false := by
  refine ieq_f fun e => h (List.eq_nil_of_length_eq_zero ?_)
  rw [llen_eq] at e
  omega
theorem routes_of : ∀ v, wt v ≤ 1048576 → vf v = 0 → ∀ r : ByteArray, r.size + 22 * wt v ≤ 100000000 → Rts v r := tree fun v ih hv h0 r hr => by
  have hz := vf_zero h0
  have hu := (own_zero hz.1).1
  have hp := wt_pos v
  by_cases he : v.fItems = []
  · refine ⟨[r], by simpa using hp, fun x hx => by simp at hx; subst hx; omega, ?_, fun out hout => ?_⟩
    · exact Ev.step (g := fun _ => some [r]) (fun k => by simp only [mastref2_routes.f, empty_len he, cond_true]) (Ev.now fun _ => rfl)
    · have hlap : lapp 16 out [r] = some (out ++ [r]) := lapp_ok (by simp; omega) (by simp; omega)
      exact Ev.step (g := fun _ => some (out ++ [r], ())) (fun k => by simp only [conf_routes.f, empty_len he, cond_true, hlap, Option.bind_some]) (Ev.now fun _ => rfl)
  · have hw := wt_eq v
    obtain ⟨L, b1, b2, b3, b4, b5⟩ := routes_loop v hv hu r hr (fun x hx s hs => ih x hx (by have := wt_mem hx; omega) (vfs_zero hz.2 x hx) s hs) v.fItems.length 0 (by omega) (by omega)
    rw [List.drop_zero] at b1 b3 b4
    refine ⟨L, by omega, b2, ?_, fun out hout => ?_⟩
    · exact Ev.step (g := fun k => mastref2_routes.l0 k r v.fKind v.fBool v.fInt v.fText v.fItems v.fKeys [] v.fItems (llen v.fItems) 0) (fun k => by simp only [mastref2_routes.f, some_len he, cond_false]) (b3 [] (by simp; omega))
    · exact Ev.step (g := fun k => conf_routes.l0 k out r v.fKind v.fBool v.fInt v.fText v.fItems v.fKeys v.fItems (llen v.fItems) 0) (fun k => by simp only [conf_routes.f, some_len he, cond_false]) (b4 out (by omega))
/-- From nothing on. -/
theorem routes_nil (v : T_api_Value) (hv : wt v ≤ 1048576) (h0 : vf v = 0) : ∃ L, L.length ≤ wt v ∧ (∀ x ∈ L, x.size ≤ 100000000) ∧ Ev (fun k => mastref2_routes.f k v c_empty) L ∧ Ev (fun k => conf_routes_nil.f k v c_empty) L := by
  have hz := vf_zero h0
  have hu := (own_zero hz.1).1
  have hp := wt_pos v
  have hc : c_empty.size = 0 := rfl
  by_cases he : v.fItems = []
  · refine ⟨[c_empty], by simpa using hp, fun x hx => by simp at hx; subst hx; omega, ?_, ?_⟩
    · exact Ev.step (g := fun _ => some [c_empty]) (fun k => by simp only [mastref2_routes.f, empty_len he, cond_true]) (Ev.now fun _ => rfl)
    · have hlap : lapp 16 [] [c_empty] = some [c_empty] := lapp_ok (by simp) (by simp)
      exact Ev.now fun k => by simp only [conf_routes_nil.f, empty_len he, cond_true, hlap, Option.bind_some]
  · have hw := wt_eq v
    obtain ⟨L, b1, b2, b3, b4, b5⟩ := routes_loop v hv hu c_empty (by omega) (fun x hx s hs => routes_of x (by have := wt_mem hx; omega) (vfs_zero hz.2 x hx) s hs) v.fItems.length 0 (by omega) (by omega)
    rw [List.drop_zero] at b1 b3 b5
    refine ⟨L, by omega, b2, ?_, ?_⟩
    · exact Ev.step (g := fun k => mastref2_routes.l0 k c_empty v.fKind v.fBool v.fInt v.fText v.fItems v.fKeys [] v.fItems (llen v.fItems) 0) (fun k => by simp only [mastref2_routes.f, some_len he, cond_false]) (b3 [] (by simp; omega))
    · exact Ev.congr (g := fun k => conf_routes_nil.l0 k [] c_empty v.fKind v.fBool v.fInt v.fText v.fItems v.fKeys v.fItems (llen v.fItems) 0) (fun k => by simp only [conf_routes_nil.f, some_len he, cond_false]) (b5 [] (by simp; omega))
theorem index_ok (l : List ByteArray) (p : ByteArray) (hl : l.length ≤ 2000000) : Ev (fun k => slices_Index_string_string.f k l p) (fl (fun s => seq s p) (fun j => (j : Int)) (-1) 0 l) := by
  have q := find_pure l 0 (Nat.zero_le _) (fun k j => slices_Index_string_string.l0 k l p (llen l) (j : Int)) (fun _ => some (-1)) (fun s => seq s p) (fun j => (j : Int)) (-1)
    (fun k j h => by
      simp only [slices_Index_string_string.l0, llen_eq, Go.Proofs.YthmedjljckbidaaGreatDoor.Lift.ilen _ _ h, cond_true, lat_lt h, Option.bind_some, u0 (show j ≤ 4611686018427387904 by omega), seq_comm p])
    (fun k => by simp only [slices_Index_string_string.l0, llen_eq, Go.Proofs.YthmedjljckbidaaGreatDoor.Lift.ilen', cond_false]) (Ev.now fun _ => rfl)
  rw [List.drop_zero] at q
  exact Ev.congr (fun k => by simp only [slices_Index_string_string.f]; try rfl) q
theorem any_loop {α β : Type} (l : List α) (L : Nat → Nat → Option β) (Q : α → Bool) (hit r : β) (hend : Ev (fun k => L k l.length) r)
    (hstep : ∀ (j : Nat) (h : j < l.length) (v : β), Ev (fun k => L k (j + 1)) v → Ev (fun k => L k j) (bif Q l[j] then hit else v)) : Ev (fun k => L k 0) (bif l.any Q then hit else r) := by
  have : ∀ (d j : Nat), l.length - j ≤ d → j ≤ l.length → Ev (fun k => L k j) (bif (l.drop j).any Q then hit else r) := by
    intro d
    induction d with
    | zero =>
      intro j hd hj
      obtain rfl : j = l.length := by omega
      rw [List.drop_eq_nil_of_le (Nat.le_refl _)]
      exact hend
    | succ d ih =>
      intro j hd hj
      rcases Nat.lt_or_ge j l.length with hlt | hge
      · have := hstep j hlt _ (ih (j + 1) (by omega) hlt)
        rw [List.drop_eq_getElem_cons hlt, List.any_cons]
        cases e : Q l[j] with
        | true => rw [e] at this; exact this
        | false => rw [e] at this; rw [Bool.false_or]; exact this
      · obtain rfl : j = l.length := by omega
        rw [List.drop_eq_nil_of_le (Nat.le_refl _)]
        exact hend
  have := this l.length 0 (by omega) (by omega)
  rwa [List.drop_zero] at this
theorem check_both (x0 : T_conf_Schema) (hw : ∀ f ∈ x0.fFields, fz f ≤ 1048576) : ∃ r, Ev (fun k => conf_CheckSchema.f k x0) r ∧ Ev (fun k => mastref2_SchemaFault.f k x0) r := by
  by_cases hl : x0.fFields.length ≤ 100
  · refine ⟨sf [] x0.fFields, ?_, ?_⟩
    · refine Ev.congr (fun k => by simp only [conf_CheckSchema.f, llen_eq, ilt_f (show (x0.fFields.length : Int) ≤ 100 by omega), cond_false]; rfl) (schemaL x0.fFields hl hw x0.fFields.length 0 [] (by omega) (by omega) (fun _ => rfl))
    · refine Ev.congr (fun k => by simp only [mastref2_SchemaFault.f, llen_eq, ilt_f (show (x0.fFields.length : Int) ≤ 100 by omega), cond_false]; rfl) (schemaR x0.fFields x0.fStrict hl hw x0.fFields.length 0 (by omega) (by omega))
  · refine ⟨4, Ev.now fun k => ?_, Ev.now fun k => ?_⟩
    · simp only [conf_CheckSchema.f, llen_eq, ilt_t (show (100 : Int) < (x0.fFields.length : Int) by omega), cond_true]
    · simp only [mastref2_SchemaFault.f, llen_eq, ilt_t (show (100 : Int) < (x0.fFields.length : Int) by omega), cond_true]


/-! A part's name. -/
theorem dig_range {c : UInt8} (h : digB c = true) : 48 ≤ c.toNat ∧ c.toNat ≤ 57 := by
  unfold digB at h
  by_cases e : (48 : Int) ≤ c.toNat
  · rw [ile_t e, cond_true] at h
    have := of_decide_eq_true h
    omega
  · rw [ile_f (by omega)] at h; exact nomatch h
theorem dec_big (u : Nat) (h : ¬ u < 10) : Lib.decDigits u = Lib.decDigits (u / 10) ++ [UInt8.ofNat (48 + u % 10)] := by rw [Lib.decDigits, dif_neg h]
theorem dec_inv : ∀ (l : List UInt8) (acc m : Nat), l.all digB = true → 0 < acc → Lib.decFrom acc l = some m → Lib.decDigits m = Lib.decDigits acc ++ l
  | [], acc, m, _, _, h => by
    have h : some acc = some m := h
    cases h; rw [List.append_nil]
  | b :: r, acc, m, ha, h0, h => by
    rw [List.all_cons, Bool.and_eq_true] at ha
    have hb := dig_range ha.1
    unfold Lib.decFrom Lib.digitVal at h
    rw [if_pos hb] at h
    have h : Lib.decFrom (acc * 10 + (b.toNat - 48)) r = some m := h
    have e1 : (acc * 10 + (b.toNat - 48)) / 10 = acc := by omega
    have e2 : (acc * 10 + (b.toNat - 48)) % 10 = b.toNat - 48 := by omega
    rw [dec_inv r _ m ha.2 (by omega) h, dec_big _ (by omega), e1, e2, show 48 + (b.toNat - 48) = b.toNat by omega]
    simp
theorem itoa_num {p : ByteArray} (h : dg p.data.toList = true) : ∃ n : Nat, strconv_Atoi.f p = some (n : Int) ∧ strconv_Itoa.f (n : Int) = some p := by
  cases hb : p.data.toList with
  | nil => rw [hb] at h; exact nomatch h
  | cons c r =>
    rw [hb] at h
    simp only [dg, Bool.and_eq_true, Bool.or_eq_true] at h
    obtain ⟨⟨h1, h2⟩, h3⟩ := h
    have h2 : r.length ≤ 3 := of_decide_eq_true h2
    have hq := List.all_eq_true.1 h1 c (List.mem_cons_self ..)
    have hc := dig_not hq
    have hd := dig_range hq
    obtain ⟨m, hm⟩ := dec_all (c :: r) 0 h1
    have hm2 : Lib.decFrom (c.toNat - 48) r = some m := by
      have := hm
      unfold Lib.decFrom Lib.digitVal at this
      rw [if_pos hd] at this
      have this : Lib.decFrom (0 * 10 + (c.toNat - 48)) r = some m := this
      rwa [Nat.zero_mul, Nat.zero_add] at this
    have one : Lib.decDigits (c.toNat - 48) = [c] := by
      rw [Lib.decDigits_one (by omega), show 48 + (c.toNat - 48) = c.toNat by omega]; simp
    have e : Lib.decDigits m = c :: r := by
      by_cases h0 : c.toNat = 48
      · have hr : r = [] := by
          rcases h3 with h3 | h3
          · rw [ieq_t (by omega)] at h3; exact nomatch h3
          · have := eq_of_beq h3
            exact (List.cons.inj this).2
        subst hr
        have hm2 : some (c.toNat - 48) = some m := hm2
        cases hm2; exact one
      · have hr : r.all digB = true := by
          rw [List.all_cons, Bool.and_eq_true] at h1; exact h1.2
        rw [dec_inv r _ m hr (by omega) hm2, one]; rfl
    refine ⟨m, ?_, ?_⟩
    · unfold strconv_Atoi.f atoiF
      rw [size_l, hb, if_pos (by simp; omega)]
      unfold Lib.atoi
      have e1 : (c == 45) = false := beq_eq_false_iff_ne.2 hc.1
      have e2 : (c == 43) = false := beq_eq_false_iff_ne.2 hc.2.1
      simp only [e1, e2, Bool.false_eq_true, if_false, Lib.decNat, List.isEmpty_cons, hm]
      rfl
    · have hlt := Lib.lt_pow_nDigits m
      have hle : Lib.nDigits m ≤ 4 := by rw [← Lib.decDigits_length, e]; simp; omega
      have h4 : (10 : Nat) ^ Lib.nDigits m ≤ 10 ^ 4 := Nat.pow_le_pow_right (by decide) hle
      unfold strconv_Itoa.f Lib.itoa
      rw [if_pos (by omega), if_neg (by omega), Int.toNat_natCast, e, ← hb]
theorem name_ok (p : ByteArray) (hp : pkS false p.data.toList = true) : Ev (fun k => conf_stepName.f k (stp p)) p := by
  cases hk : key p with
  | true =>
    have e1 : stp p = ⟨p, 0, false⟩ := by unfold stp; rw [hk]; rfl
    have hne : seq p c_empty = false := by
      rw [seq_empty]
      cases hb : p.data.toList with
      | nil => unfold key at hk; rw [hb] at hk; exact nomatch hk
      | cons _ _ => rfl
    rw [e1]
    exact Ev.now fun k => by simp only [conf_stepName.f, hne, Bool.not_false, cond_true]
  | false =>
    have hdg : dg p.data.toList = true := by
      have hk : keyL p.data.toList = false := hk
      unfold pkS at hp
      rw [hk, Bool.or_false, Bool.false_and, Bool.or_false] at hp
      exact hp
    have hs : seq p c__2a = false := by
      rw [seq_star]
      cases h : (p.data.toList == [42]) with
      | false => rfl
      | true => rw [eq_of_beq h] at hdg; exact absurd hdg (by decide)
    obtain ⟨n, n1, n2⟩ := itoa_num hdg
    have e1 : stp p = ⟨c_empty, n, false⟩ := by unfold stp; rw [hk, hs, n1]; rfl
    rw [e1]
    refine Ev.now fun k => ?_
    simp only [conf_stepName.f, seq_self, Bool.not_true, cond_false, conf_whole.f, Option.bind_some, conf_word.f, show ieq 2 1 = false from rfl, show ieq 2 2 = true from rfl, cond_true, n2]

/-! What is measured. -/
def msr (v : T_api_Value) : Int × Bool := bif (ieq v.fKind 2 || ieq v.fKind 4) then (v.fInt, true) else bif ieq v.fKind 3 then (slen v.fText, true) else bif (ieq v.fKind 5 || ieq v.fKind 6) then (llen v.fItems, true) else (0, false)
theorem msr_ok (v : T_api_Value) : Ev (fun k => conf_measure.f k v) (msr v) := by
  have l0 : ∀ b, Ev (fun k => conf_measure.l0 k v.fKind v.fBool v.fInt v.fText v.fItems v.fKeys v.fKind b) (bif b then (v.fInt, true) else bif ieq v.fKind 3 then (slen v.fText, true) else bif (ieq v.fKind 5 || ieq v.fKind 6) then (llen v.fItems, true) else (0, false)) := fun b => ⟨2, fun k hk => by
    obtain ⟨k, rfl⟩ : ∃ j, k = j + 2 := ⟨k - 2, by omega⟩
    simp only [conf_measure.l0, conf_measure.l1]
    cases b <;> cases ieq v.fKind 3 <;> cases ieq v.fKind 5 <;> cases ieq v.fKind 6 <;> rfl⟩
  unfold msr
  cases h2 : ieq v.fKind 2 with
  | true => exact Ev.congr (fun k => by simp only [conf_measure.f, h2, cond_true]) (l0 true)
  | false => exact Ev.congr (fun k => by simp only [conf_measure.f, h2, cond_false]) (l0 (ieq v.fKind 4))
theorem msrR_ok (v : T_api_Value) : Ev (fun k => mastref2_measure.f k v) (msr v) := by
  have l0 : ∀ b, Ev (fun k => mastref2_measure.l0 k v.fKind v.fBool v.fInt v.fText v.fItems v.fKeys v.fKind b) (bif b then (v.fInt, true) else bif ieq v.fKind 3 then (slen v.fText, true) else bif (ieq v.fKind 5 || ieq v.fKind 6) then (llen v.fItems, true) else (0, false)) := fun b => ⟨2, fun k hk => by
    obtain ⟨k, rfl⟩ : ∃ j, k = j + 2 := ⟨k - 2, by omega⟩
    simp only [mastref2_measure.l0, mastref2_measure.l1]
    cases b <;> cases ieq v.fKind 3 <;> cases ieq v.fKind 5 <;> cases ieq v.fKind 6 <;> rfl⟩
  unfold msr
  cases h2 : ieq v.fKind 2 with
  | true => exact Ev.congr (fun k => by simp only [mastref2_measure.f, h2, cond_true]) (l0 true)
  | false => exact Ev.congr (fun k => by simp only [mastref2_measure.f, h2, cond_false]) (l0 (ieq v.fKind 4))

/-! One value judged. -/
def five (f : T_conf_Field) (v : T_api_Value) (r : ByteArray) : List T_conf_Fault := bif (ieq (llen f.fOneOf) 0 || !ieq v.fKind 3) then [] else bif f.fOneOf.any (fun s => seq s v.fText) then [] else [⟨r, 5⟩]
def lim (f : T_conf_Field) (v : T_api_Value) (r : ByteArray) : List T_conf_Fault := bif ((msr v).2 && f.fBounded) then (bif ilt (msr v).1 f.fMin then [⟨r, 3⟩] else bif ilt f.fMax (msr v).1 then [⟨r, 4⟩] else []) else []
def valF (f : T_conf_Field) (v : T_api_Value) (r : ByteArray) : List T_conf_Fault := bif (!ieq f.fKind (-1) && !ieq v.fKind f.fKind) then [⟨r, 2⟩] else lim f v r ++ five f v r
theorem add_ok (out : List T_conf_Fault) (r : ByteArray) (n : Int) (h : out.length ≤ 1000000000000) : conf_judge_add.f out r n = some ((), out ++ [⟨r, n⟩], ()) := by
  have e : lapp 24 out [T_conf_Fault.mk r n] = some (out ++ [⟨r, n⟩]) := lapp_ok (by simp; omega) (by simp; omega)
  simp only [conf_judge_add.f, e, Option.bind_some]
theorem five_ok (f : T_conf_Field) (v : T_api_Value) (r : ByteArray) (out : List T_conf_Fault) (h : out.length ≤ 1000000000000) (hf : f.fOneOf.length ≤ 2000000) :
    Ev (fun k => conf_judge_value.l0 k out r f.fRoute f.fKind f.fNeed f.fBounded f.fMin f.fMax f.fOneOf f.fDefault.fKind f.fDefault.fBool f.fDefault.fInt f.fDefault.fText f.fDefault.fItems f.fDefault.fKeys v.fKind v.fBool v.fInt v.fText v.fItems v.fKeys) ((), out ++ five f v r, ()) := by
  unfold five
  have eor : ∀ a b : Bool, (bif a then true else b) = (a || b) := fun a b => by cases a <;> rfl
  cases e : (ieq (llen f.fOneOf) 0 || !ieq v.fKind 3) with
  | true => exact Ev.step (g := fun _ => some ((), out ++ [], ())) (fun k => by simp only [conf_judge_value.l0, eor, e, cond_true, List.append_nil]) (Ev.now fun _ => rfl)
  | false =>
    have q := find_pure f.fOneOf 0 (Nat.zero_le _) (fun k j => conf_judge_value.l1 k out r v.fKind v.fBool v.fInt v.fText v.fItems v.fKeys f.fOneOf (llen f.fOneOf) (j : Int)) (fun _ => some ((), out ++ [⟨r, 5⟩], ())) (fun s => seq s v.fText) (fun _ => ((), out, ())) ((), out ++ [⟨r, 5⟩], ())
      (fun k j h => by
        simp only [conf_judge_value.l1, llen_eq, Go.Proofs.YthmedjljckbidaaGreatDoor.Lift.ilen _ _ h, cond_true, lat_lt h, Option.bind_some, u0 (show j ≤ 4611686018427387904 by omega)])
      (fun k => by simp only [conf_judge_value.l1, llen_eq, Go.Proofs.YthmedjljckbidaaGreatDoor.Lift.ilen', cond_false, add_ok out r 5 h, Option.bind_some]) (Ev.now fun _ => rfl)
    rw [List.drop_zero, fl_const] at q
    refine Ev.step (fun k => by simp only [conf_judge_value.l0, eor, e, cond_false]; rfl) ?_
    cases e2 : f.fOneOf.any (fun s => seq s v.fText) with
    | true => rw [e2] at q; show Ev _ ((), out ++ [], ()); rw [List.append_nil]; exact q
    | false => rw [e2] at q; exact q
theorem value_ok (f : T_conf_Field) (v : T_api_Value) (r : ByteArray) (out : List T_conf_Fault) (h : out.length ≤ 900000000000) (hf : f.fOneOf.length ≤ 2000000) :
    Ev (fun k => conf_judge_value.f k out f v r) ((), out ++ valF f v r, ()) := by
  unfold valF
  have eand : ∀ a b : Bool, (bif a then b else false) = (a && b) := fun a b => by cases a <;> rfl
  cases e : (!ieq f.fKind (-1) && !ieq v.fKind f.fKind) with
  | true => exact Ev.now fun k => by simp only [conf_judge_value.f, eand, e, cond_true, add_ok out r 2 (by omega), Option.bind_some]
  | false =>
    simp only [cond_false]
    refine Ev.congr (fun k => by simp only [conf_judge_value.f, eand, e, cond_false, eta]; rfl) (Ev.bind (msr_ok v) ?_)
    rw [← List.append_assoc]
    unfold lim
    cases e2 : ((msr v).2 && f.fBounded) with
    | false =>
      simp only [cond_false, List.append_nil]
      exact five_ok f v r out (by omega) hf
    | true =>
      simp only [cond_true]
      cases e3 : ilt (msr v).1 f.fMin with
      | true =>
        simp only [cond_true, add_ok out r 3 (by omega), Option.bind_some]
        exact five_ok f v r _ (by simp; omega) hf
      | false =>
        simp only [cond_false]
        cases e4 : ilt f.fMax (msr v).1 with
        | true =>
          simp only [cond_true, add_ok out r 4 (by omega), Option.bind_some]
          exact five_ok f v r _ (by simp; omega) hf
        | false =>
          simp only [cond_false, List.append_nil]
          exact five_ok f v r out (by omega) hf
theorem valF_len (f : T_conf_Field) (v : T_api_Value) (r : ByteArray) : (valF f v r).length ≤ 2 := by
  unfold valF lim five
  cases (!ieq f.fKind (-1) && !ieq v.fKind f.fKind) <;> cases ((msr v).2 && f.fBounded) <;> cases ilt (msr v).1 f.fMin <;> cases ilt f.fMax (msr v).1 <;> cases (ieq (llen f.fOneOf) 0 || !ieq v.fKind 3) <;> cases f.fOneOf.any (fun s => seq s v.fText) <;> simp

/-! What is reached. -/
def fau (f : T_conf_Field) (x : T_mastref2_reached) : List T_conf_Fault := bif x.fmissing then (bif f.fNeed then [⟨x.froute, 1⟩] else []) else valF f x.fv x.froute
theorem fau_len (f : T_conf_Field) (x : T_mastref2_reached) : (fau f x).length ≤ 2 := by
  unfold fau
  have := valF_len f x.fv x.froute
  cases x.fmissing <;> cases f.fNeed <;> simp <;> omega
theorem faus_len (f : T_conf_Field) : ∀ R : List T_mastref2_reached, (R.flatMap (fau f)).length ≤ 2 * R.length
  | [] => Nat.le_refl _
  | x :: R => by
    have := faus_len f R
    have := fau_len f x
    simp only [List.flatMap_cons, List.length_append, List.length_cons]; omega
theorem lsub_tail {α : Type} (a : α) (l : List α) : lsub (a :: l) 1 (llen (a :: l)) = some l := by
  unfold lsub llen
  rw [if_pos (by simp; omega)]
  simp
theorem lsub_tl {α : Type} (a : α) (l : List α) : lsub (a :: l) 1 ((a :: l).length : Int) = some l := lsub_tail a l
abbrev Wk (f : T_conf_Field) (P : List ByteArray) (v : T_api_Value) (r : ByteArray) : Prop := ∃ R : List T_mastref2_reached, R.length ≤ wt v ∧ Ev (fun k => mastref2_reach.f k v P r) R ∧
  ∀ out : List T_conf_Fault, out.length + 2 * wt v ≤ 900000000000 → Ev (fun k => conf_judge_walk.f k out f (P.map stp) v r) ((), out ++ R.flatMap (fau f), ())
theorem star_loop (f : T_conf_Field) (p : ByteArray) (ps : List ByteArray) (v : T_api_Value) (hv : wt v ≤ 1048576) (hu : un2 v = false) (r : ByteArray) (hr : r.size + 22 * wt v + 500 * ps.length ≤ 100000000) (ih : ∀ x ∈ v.fItems, ∀ s : ByteArray, s.size + 22 * wt x + 500 * ps.length ≤ 100000000 → Wk f ps x s) : ∀ (d j : Nat), v.fItems.length - j ≤ d → j ≤ v.fItems.length →
    ∃ R : List T_mastref2_reached, R.length ≤ wts (v.fItems.drop j) ∧
      (∀ acc : List T_mastref2_reached, acc.length + wts (v.fItems.drop j) ≤ 100000000 → Ev (fun k => mastref2_reach.l0 k (p :: ps) r v.fKind v.fBool v.fInt v.fText v.fItems v.fKeys acc v.fItems (llen v.fItems) (j : Int)) (acc ++ R)) ∧
      ∀ out : List T_conf_Fault, out.length + 2 * wts (v.fItems.drop j) ≤ 900000000000 → Ev (fun k => conf_judge_walk.l0 k out (stp p :: ps.map stp) r f.fRoute f.fKind f.fNeed f.fBounded f.fMin f.fMax f.fOneOf f.fDefault.fKind f.fDefault.fBool f.fDefault.fInt f.fDefault.fText f.fDefault.fItems f.fDefault.fKeys v.fKind v.fBool v.fInt v.fText v.fItems v.fKeys v.fItems (llen v.fItems) (j : Int)) ((), out ++ R.flatMap (fau f), ()) := by
  intro d
  have hlen : v.fItems.length ≤ 1048576 := Nat.le_trans (len_le _) (by have := wt_eq v; omega)
  have last : ∀ j, j = v.fItems.length → ∃ R : List T_mastref2_reached, R.length ≤ wts (v.fItems.drop j) ∧
      (∀ acc : List T_mastref2_reached, acc.length + wts (v.fItems.drop j) ≤ 100000000 → Ev (fun k => mastref2_reach.l0 k (p :: ps) r v.fKind v.fBool v.fInt v.fText v.fItems v.fKeys acc v.fItems (llen v.fItems) (j : Int)) (acc ++ R)) ∧
      ∀ out : List T_conf_Fault, out.length + 2 * wts (v.fItems.drop j) ≤ 900000000000 → Ev (fun k => conf_judge_walk.l0 k out (stp p :: ps.map stp) r f.fRoute f.fKind f.fNeed f.fBounded f.fMin f.fMax f.fOneOf f.fDefault.fKind f.fDefault.fBool f.fDefault.fInt f.fDefault.fText f.fDefault.fItems f.fDefault.fKeys v.fKind v.fBool v.fInt v.fText v.fItems v.fKeys v.fItems (llen v.fItems) (j : Int)) ((), out ++ R.flatMap (fau f), ()) := fun j h => by
    subst h
    have e := ilen' v.fItems
    refine ⟨[], Nat.zero_le _, fun acc _ => ?_, fun out _ => ?_⟩
    · exact Ev.step (g := fun _ => some (acc ++ [])) (fun k => by simp only [mastref2_reach.l0, llen_eq, e, cond_false, List.append_nil]) (Ev.now fun _ => rfl)
    · exact Ev.step (g := fun _ => some ((), out ++ [], ())) (fun k => by simp only [conf_judge_walk.l0, llen_eq, e, cond_false, List.append_nil]) (Ev.now fun _ => rfl)
  induction d with
  | zero => intro j hd hj; exact last j (by omega)
  | succ d ihd =>
    intro j hd hj
    rcases Nat.lt_or_ge j v.fItems.length with hlt | hge
    case inr => exact last j (by omega)
    have hi := ilen v.fItems j hlt
    have hla := lat_lt (l := v.fItems) hlt
    have hmem := List.getElem_mem (h := hlt)
    have hwm := wt_mem hmem
    have hdrop : wts (v.fItems.drop j) = wt v.fItems[j] + wts (v.fItems.drop (j + 1)) := by rw [List.drop_eq_getElem_cons hlt]; rfl
    obtain ⟨q, p1, p2, p3⟩ := part_of v hv hu j hlt
    obtain ⟨s, s1, s2, s3⟩ := joined_of r q (by omega)
    obtain ⟨R1, a1, a3, a4⟩ := ih _ hmem s (by omega)
    obtain ⟨R2, b1, b3, b4⟩ := ihd (j + 1) (by omega) hlt
    have hw : wadd .i64 (j : Int) 1 = ((j + 1 : Nat) : Int) := u0 (by omega)
    have h100 := wt_pos v.fItems[j]
    have hfl := faus_len f R1
    refine ⟨R1 ++ R2, by rw [List.length_append]; omega, fun acc hacc => ?_, fun out hout => ?_⟩
    · have hlap : lapp 112 acc R1 = some (acc ++ R1) := lapp_ok (by omega) (by omega)
      refine Ev.step (g := fun k => (mastref2_reach.f k v.fItems[j] ps s).bind fun y4 => (lapp 112 acc y4).bind fun y5 => mastref2_reach.l0 k (p :: ps) r v.fKind v.fBool v.fInt v.fText v.fItems v.fKeys y5 v.fItems (llen v.fItems) ((j + 1 : Nat) : Int)) (fun k => by simp only [mastref2_reach.l0, lsub_tl, llen_eq, hi, cond_true, hla, Option.bind_some, eta, p2, s2, hw]) (Ev.bind a3 ?_)
      simp only [hlap, Option.bind_some]
      rw [← List.append_assoc]
      exact b3 (acc ++ R1) (by rw [List.length_append]; omega)
    · refine Ev.step (g := fun k => (conf_judge_walk.f k out f (ps.map stp) v.fItems[j] s).bind fun y5 => conf_judge_walk.l0 k y5.2.1 (stp p :: ps.map stp) r f.fRoute f.fKind f.fNeed f.fBounded f.fMin f.fMax f.fOneOf f.fDefault.fKind f.fDefault.fBool f.fDefault.fInt f.fDefault.fText f.fDefault.fItems f.fDefault.fKeys v.fKind v.fBool v.fInt v.fText v.fItems v.fKeys v.fItems (llen v.fItems) ((j + 1 : Nat) : Int)) (fun k => by simp only [conf_judge_walk.l0, lsub_tl, llen_eq, hi, cond_true, hla, Option.bind_some, eta, feta, p1, s1, hw]) (Ev.bind (a4 out (by omega)) ?_)
      rw [List.flatMap_append, ← List.append_assoc]
      exact b4 (out ++ R1.flatMap (fau f)) (by rw [List.length_append]; omega)
theorem walk_ok (f : T_conf_Field) (hf : f.fOneOf.length ≤ 2000000) : ∀ (P : List ByteArray), (∀ p ∈ P, pkS true p.data.toList = true ∧ p.size ≤ 400) → ∀ v, wt v ≤ 1048576 → vf v = 0 → ∀ r : ByteArray, r.size + 22 * wt v + 500 * P.length ≤ 100000000 → Wk f P v r
  | [], _, v, hv, h0, r, hr => by
    have hp := wt_pos v
    refine ⟨[⟨r, v, false⟩], by simpa using hp, ?_, fun out hout => ?_⟩
    · exact Ev.step (g := fun _ => some [⟨r, v, false⟩]) (fun k => by simp only [mastref2_reach.f, eta]; rfl) (Ev.now fun _ => rfl)
    · have q := value_ok f v r out (by omega) hf
      refine Ev.step (g := fun k => (conf_judge_value.f k out f v r).bind fun y1 => some ((), y1.2.1, ())) (fun k => by simp only [conf_judge_walk.f, eta, feta]; rfl) (Ev.bind q (Ev.now fun _ => ?_))
      simp [fau]
  | p :: ps, hP, v, hv, h0, r, hr => by
    have hz := vf_zero h0
    have hu := (own_zero hz.1).1
    have hp := wt_pos v
    have hw := wt_eq v
    have hpp := hP p (List.mem_cons_self ..)
    have hps : ∀ x ∈ ps, pkS true x.data.toList = true ∧ x.size ≤ 400 := fun x hx => hP x (List.mem_cons_of_mem _ hx)
    have hl : (p :: ps).length = ps.length + 1 := rfl
    have i0 : ∀ {α : Type} (a : α) (l : List α), ieq (llen (a :: l)) 0 = false := fun a l => ieq_f (by rw [llen_eq, List.length_cons]; omega)
    have la : ∀ {α : Type} (a : α) (l : List α), lat (a :: l) 0 = some a := fun a l => rfl
    cases hs : seq p c__2a with
    | true =>
      have hst : (stp p).fstar = true := by rw [stp_star, ← seq_star, hs]
      obtain ⟨R, b1, b3, b4⟩ := star_loop f p ps v hv hu r (by omega) (fun x hx s hsz => walk_ok f hf ps hps x (by have := wt_mem hx; omega) (vfs_zero hz.2 x hx) s hsz) v.fItems.length 0 (by omega) (by omega)
      rw [List.drop_zero] at b1 b3 b4
      refine ⟨R, by omega, ?_, fun out hout => ?_⟩
      · exact Ev.step (g := fun k => mastref2_reach.l0 k (p :: ps) r v.fKind v.fBool v.fInt v.fText v.fItems v.fKeys [] v.fItems (llen v.fItems) 0) (fun k => by simp only [mastref2_reach.f, i0, la, Option.bind_some, hs, cond_true, cond_false]) (b3 [] (by simp; omega))
      · exact Ev.step (g := fun k => conf_judge_walk.l0 k out (stp p :: ps.map stp) r f.fRoute f.fKind f.fNeed f.fBounded f.fMin f.fMax f.fOneOf f.fDefault.fKind f.fDefault.fBool f.fDefault.fInt f.fDefault.fText f.fDefault.fItems f.fDefault.fKeys v.fKind v.fBool v.fInt v.fText v.fItems v.fKeys v.fItems (llen v.fItems) 0) (fun k => by simp only [List.map_cons, conf_judge_walk.f, i0, la, Option.bind_some, hst, cond_true, cond_false]) (b4 out (by omega))
    | false =>
      have hst : (stp p).fstar = false := by rw [stp_star, ← seq_star, hs]
      have hpf : pkS false p.data.toList = true := by
        have := hpp.1
        unfold pkS at this ⊢
        rw [← seq_star, hs] at this
        exact this
      obtain ⟨s, s1, s2, s3⟩ := joined_of r p (by have := hpp.2; omega)
      have hsz : s.size + 22 * wt v + 500 * ps.length ≤ 100000000 := by have := hpp.2; omega
      have hn := name_ok p hpf
      have hfo := follow_ok v p hv hz.1 hpf
      obtain ⟨i, i1, i2, i3⟩ := stepR_ok v p hv hz.1 hpf
      cases hi : ilt i 0 with
      | true =>
        rw [hi, cond_true] at i2
        rw [← i2] at hfo
        refine ⟨[⟨s, zro, true⟩], by simpa using hp, ?_, fun out hout => ?_⟩
        · refine Ev.step (g := fun k => (mastref2_Step.f k v p).bind fun y5 => bif ilt y5 0 then some [T_mastref2_reached.mk s zro true] else (lat v.fItems y5).bind fun y6 => (mastref2_reach.f k y6 ps s).bind fun y8 => some y8) (fun k => by simp only [mastref2_reach.f, i0, la, Option.bind_some, hs, cond_false, s2, lsub_tail, eta]; rfl) (Ev.bind i1 ?_)
          rw [hi]
          exact Ev.now fun _ => rfl
        · refine Ev.step (fun k => by simp only [List.map_cons, conf_judge_walk.f, i0, la, Option.bind_some, hst, cond_false, eta]; rfl) (Ev.bind hn ?_)
          simp only [s1, Option.bind_some]
          refine Ev.bind hfo ?_
          show Ev (fun k => bif f.fNeed then _ else _) _
          cases hnd : f.fNeed with
          | true => exact Ev.now fun k => by simp only [cond_true, add_ok out s 1 (by omega), Option.bind_some, List.flatMap_cons, List.flatMap_nil, fau, hnd, List.append_nil]
          | false => exact Ev.now fun k => by simp only [cond_false, List.flatMap_cons, List.flatMap_nil, fau, hnd, List.append_nil, cond_true]
      | false =>
        rw [hi, cond_false] at i2
        obtain ⟨x, hx⟩ := Option.isSome_iff_exists.1 (i3 hi)
        rw [hx] at i2
        rw [← i2] at hfo
        have hxm := stepv_in i2.symm
        have hxw := wt_mem hxm
        obtain ⟨R, r1, r2, r3⟩ := walk_ok f hf ps hps x (by omega) (vfs_zero hz.2 x hxm) s (by omega)
        refine ⟨R, by omega, ?_, fun ou hou => ?_⟩
        · refine Ev.step (g := fun k => (mastref2_Step.f k v p).bind fun y5 => bif ilt y5 0 then some [T_mastref2_reached.mk s zro true] else (lat v.fItems y5).bind fun y6 => (mastref2_reach.f k y6 ps s).bind fun y8 => some y8) (fun k => by simp only [mastref2_reach.f, i0, la, Option.bind_some, hs, cond_false, s2, lsub_tail, eta]; rfl) (Ev.bind i1 ?_)
          simp only [hi, cond_false, hx, Option.bind_some]
          exact Ev.bind r2 (Ev.now fun _ => rfl)
        · refine Ev.step (fun k => by simp only [List.map_cons, conf_judge_walk.f, i0, la, Option.bind_some, hst, cond_false, eta]; rfl) (Ev.bind hn ?_)
          simp only [s1, Option.bind_some]
          refine Ev.bind hfo ?_
          simp only [out, cond_true, lsub_tail, Option.bind_some, eta, feta]
          exact Ev.bind (r3 ou (by omega)) (Ev.now fun _ => rfl)

/-! The reference, over what is reached. -/
theorem contains_ok (l : List ByteArray) (p : ByteArray) (hl : l.length ≤ 2000000) : Ev (fun k => slices_Contains_string_string.f k l p) (l.any fun s => seq s p) := by
  refine Ev.congr (fun k => by simp only [slices_Contains_string_string.f]; try rfl) (Ev.bind (index_ok l p hl) ?_)
  rw [fl_any]
  exact Ev.now fun _ => rfl
theorem one_ok (acc : List T_conf_Fault) (r : ByteArray) (n : Int) (h : acc.length ≤ 1000000000000) : lapp 24 acc [T_conf_Fault.mk r n] = some (acc ++ [⟨r, n⟩]) := lapp_ok (by simp; omega) (by simp; omega)
theorem pos_len {α : Type} (l : List α) : ilt 0 (llen l) = !ieq (llen l) 0 := by
  rw [llen_eq]
  by_cases h : l.length = 0
  · rw [ilt_f (by omega), ieq_t (by omega)]; rfl
  · rw [ilt_t (by omega), ieq_f (by omega)]; rfl
theorem l4_ok (l : List T_conf_Field) (b : Bool) (v : T_api_Value) (f : T_conf_Field) (i : Nat) (R : List T_mastref2_reached) (y : T_mastref2_reached) (j : Nat) (hj : j ≤ 100000000) (acc : List T_conf_Fault) (ha : acc.length ≤ 1000000000000) (q : Bool) (z : List T_conf_Fault × Int)
    (h : Ev (fun k => mastref2_FaultsOf.l1 k l b v.fKind v.fBool v.fInt v.fText v.fItems v.fKeys (acc ++ bif q then [⟨y.froute, 5⟩] else []) f.fRoute f.fKind f.fNeed f.fBounded f.fMin f.fMax f.fOneOf f.fDefault.fKind f.fDefault.fBool f.fDefault.fInt f.fDefault.fText f.fDefault.fItems f.fDefault.fKeys l (llen l) (i : Int) R (llen R) ((j + 1 : Nat) : Int)) z) : Ev (fun k => mastref2_FaultsOf.l4 k l b v.fKind v.fBool v.fInt v.fText v.fItems v.fKeys acc f.fRoute f.fKind f.fNeed f.fBounded f.fMin f.fMax f.fOneOf f.fDefault.fKind f.fDefault.fBool f.fDefault.fInt f.fDefault.fText f.fDefault.fItems f.fDefault.fKeys y.froute y.fv.fKind y.fv.fBool y.fv.fInt y.fv.fText y.fv.fItems y.fv.fKeys y.fmissing l (llen l) (i : Int) R (llen R) (j : Int) q) z := by
  have hw : wadd .i64 (j : Int) 1 = ((j + 1 : Nat) : Int) := u0 (by omega)
  cases q with
  | true => exact Ev.step (fun k => by simp only [mastref2_FaultsOf.l4, cond_true, one_ok acc y.froute 5 ha, Option.bind_some, hw]) h
  | false =>
    simp only [cond_false, List.append_nil] at h
    exact Ev.step (fun k => by simp only [mastref2_FaultsOf.l4, cond_false, hw]) h
theorem l3_ok (l : List T_conf_Field) (b : Bool) (v : T_api_Value) (f : T_conf_Field) (hf : f.fOneOf.length ≤ 2000000) (i : Nat) (R : List T_mastref2_reached) (y : T_mastref2_reached) (j : Nat) (hj : j ≤ 100000000) (acc : List T_conf_Fault) (ha : acc.length ≤ 1000000000000) (z : List T_conf_Fault × Int)
    (h : Ev (fun k => mastref2_FaultsOf.l1 k l b v.fKind v.fBool v.fInt v.fText v.fItems v.fKeys (acc ++ five f y.fv y.froute) f.fRoute f.fKind f.fNeed f.fBounded f.fMin f.fMax f.fOneOf f.fDefault.fKind f.fDefault.fBool f.fDefault.fInt f.fDefault.fText f.fDefault.fItems f.fDefault.fKeys l (llen l) (i : Int) R (llen R) ((j + 1 : Nat) : Int)) z) : Ev (fun k => mastref2_FaultsOf.l3 k l b v.fKind v.fBool v.fInt v.fText v.fItems v.fKeys acc f.fRoute f.fKind f.fNeed f.fBounded f.fMin f.fMax f.fOneOf f.fDefault.fKind f.fDefault.fBool f.fDefault.fInt f.fDefault.fText f.fDefault.fItems f.fDefault.fKeys y.froute y.fv.fKind y.fv.fBool y.fv.fInt y.fv.fText y.fv.fItems y.fv.fKeys y.fmissing l (llen l) (i : Int) R (llen R) (j : Int)) z := by
  have ec : (bif !ieq (llen f.fOneOf) 0 then ieq y.fv.fKind 3 else false) = !(ieq (llen f.fOneOf) 0 || !ieq y.fv.fKind 3) := by
    cases ieq (llen f.fOneOf) 0 <;> cases ieq y.fv.fKind 3 <;> rfl
  unfold five at h
  cases e : (ieq (llen f.fOneOf) 0 || !ieq y.fv.fKind 3) with
  | true =>
    rw [e] at h
    exact Ev.step (fun k => by simp only [mastref2_FaultsOf.l3, pos_len, ec, e, Bool.not_true, cond_false]) (l4_ok l b v f i R y j hj acc ha false z h)
  | false =>
    rw [e] at h
    refine Ev.step (fun k => by simp only [mastref2_FaultsOf.l3, pos_len, ec, e, Bool.not_false, cond_true]; rfl) (Ev.bind (contains_ok f.fOneOf y.fv.fText hf) ?_)
    refine l4_ok l b v f i R y j hj acc ha (!f.fOneOf.any (fun s => seq s y.fv.fText)) z ?_
    cases e2 : f.fOneOf.any (fun s => seq s y.fv.fText) with
    | true => rw [e2] at h; exact h
    | false => rw [e2] at h; exact h
theorem l1_loop (l : List T_conf_Field) (b : Bool) (v : T_api_Value) (f : T_conf_Field) (hf : f.fOneOf.length ≤ 2000000) (i : Nat) (hi : i ≤ 1000) (R : List T_mastref2_reached) (hR : R.length ≤ 10000000) (z : List T_conf_Fault × Int) : ∀ (d j : Nat) (acc : List T_conf_Fault), R.length - j ≤ d → j ≤ R.length → acc.length + 2 * (R.length - j) ≤ 900000000000 →
    Ev (fun k => mastref2_FaultsOf.l0 k l b v.fKind v.fBool v.fInt v.fText v.fItems v.fKeys (acc ++ (R.drop j).flatMap (fau f)) l (llen l) ((i + 1 : Nat) : Int)) z → Ev (fun k => mastref2_FaultsOf.l1 k l b v.fKind v.fBool v.fInt v.fText v.fItems v.fKeys acc f.fRoute f.fKind f.fNeed f.fBounded f.fMin f.fMax f.fOneOf f.fDefault.fKind f.fDefault.fBool f.fDefault.fInt f.fDefault.fText f.fDefault.fItems f.fDefault.fKeys l (llen l) (i : Int) R (llen R) (j : Int)) z := by
  intro d
  have last : ∀ (j : Nat) (acc : List T_conf_Fault), j = R.length → Ev (fun k => mastref2_FaultsOf.l0 k l b v.fKind v.fBool v.fInt v.fText v.fItems v.fKeys (acc ++ (R.drop j).flatMap (fau f)) l (llen l) ((i + 1 : Nat) : Int)) z → Ev (fun k => mastref2_FaultsOf.l1 k l b v.fKind v.fBool v.fInt v.fText v.fItems v.fKeys acc f.fRoute f.fKind f.fNeed f.fBounded f.fMin f.fMax f.fOneOf f.fDefault.fKind f.fDefault.fBool f.fDefault.fInt f.fDefault.fText f.fDefault.fItems f.fDefault.fKeys l (llen l) (i : Int) R (llen R) (j : Int)) z := fun j acc e h => by
    subst e
    rw [List.drop_eq_nil_of_le (Nat.le_refl _), List.flatMap_nil, List.append_nil] at h
    exact Ev.step (fun k => by simp only [mastref2_FaultsOf.l1, llen_eq, ilen', cond_false, u0 (show i ≤ 4611686018427387904 by omega)]) h
  induction d with
  | zero => intro j acc hd hj _ h; exact last j acc (by omega) h
  | succ d ih =>
    intro j acc hd hj ha h
    rcases Nat.lt_or_ge j R.length with hlt | hge
    case inr => exact last j acc (by omega) h
    have hw : wadd .i64 (j : Int) 1 = ((j + 1 : Nat) : Int) := u0 (by omega)
    have hfl := fau_len f R[j]
    rw [List.drop_eq_getElem_cons hlt, List.flatMap_cons, ← List.append_assoc] at h
    have nx := ih (j + 1) (acc ++ fau f R[j]) (by omega) hlt (by rw [List.length_append]; omega) h
    refine Ev.step (fun k => by simp only [mastref2_FaultsOf.l1, llen_eq, Go.Proofs.YthmedjljckbidaaGreatDoor.Lift.ilen _ _ hlt, cond_true, lat_lt hlt, Option.bind_some, eta, hw]; rfl) (Ev.bind (msrR_ok R[j].fv) ?_)
    unfold fau at nx
    cases hm : R[j].fmissing with
    | true =>
      rw [hm] at nx
      simp only [cond_true] at nx ⊢
      cases hn : f.fNeed with
      | true =>
        rw [hn] at nx
        simp only [cond_true, one_ok acc R[j].froute 1 (by omega), Option.bind_some] at nx ⊢
        exact nx
      | false =>
        rw [hn] at nx
        simp only [cond_false, List.append_nil] at nx ⊢
        exact nx
    | false =>
      rw [hm] at nx
      simp only [cond_false] at nx ⊢
      have eand : ∀ a b : Bool, (bif a then b else false) = (a && b) := fun a b => by cases a <;> rfl
      simp only [eand]
      unfold valF at nx
      cases hk : (!ieq f.fKind (-1) && !ieq R[j].fv.fKind f.fKind) with
      | true =>
        rw [hk] at nx
        simp only [cond_true, one_ok acc R[j].froute 2 (by omega), Option.bind_some] at nx ⊢
        exact nx
      | false =>
        rw [hk] at nx
        simp only [cond_false] at nx ⊢
        rw [← List.append_assoc] at nx
        have main : ∀ pre : List T_conf_Fault, pre.length ≤ 1 → lim f R[j].fv R[j].froute = pre → Ev (fun k => mastref2_FaultsOf.l3 k l b v.fKind v.fBool v.fInt v.fText v.fItems v.fKeys (acc ++ pre) f.fRoute f.fKind f.fNeed f.fBounded f.fMin f.fMax f.fOneOf f.fDefault.fKind f.fDefault.fBool f.fDefault.fInt f.fDefault.fText f.fDefault.fItems f.fDefault.fKeys R[j].froute R[j].fv.fKind R[j].fv.fBool R[j].fv.fInt R[j].fv.fText R[j].fv.fItems R[j].fv.fKeys false l (llen l) (i : Int) R (llen R) (j : Int)) z := fun pre hp hl => by
          rw [hl] at nx
          have := l3_ok l b v f hf i R R[j] j (by omega) (acc ++ pre) (by rw [List.length_append]; omega) z nx
          rw [hm] at this
          exact this
        have e2 : (f.fBounded && (msr R[j].fv).2) = ((msr R[j].fv).2 && f.fBounded) := Bool.and_comm _ _
        simp only [e2]
        cases h2 : ((msr R[j].fv).2 && f.fBounded) with
        | false =>
          have := main [] (by simp) (by unfold lim; rw [h2]; rfl)
          rw [List.append_nil] at this
          simp only [Bool.false_and, cond_false]
          exact this
        | true =>
          simp only [Bool.true_and]
          cases h3 : ilt (msr R[j].fv).1 f.fMin with
          | true =>
            have := main [⟨R[j].froute, 3⟩] (by simp) (by unfold lim; rw [h2, h3]; rfl)
            simp only [cond_true, one_ok acc R[j].froute 3 (by omega), Option.bind_some]
            exact this
          | false =>
            simp only [cond_false]
            cases h4 : ilt f.fMax (msr R[j].fv).1 with
            | true =>
              have := main [⟨R[j].froute, 4⟩] (by simp) (by unfold lim; rw [h2, h3, h4]; rfl)
              simp only [cond_true, one_ok acc R[j].froute 4 (by omega), Option.bind_some]
              exact this
            | false =>
              have := main [] (by simp) (by unfold lim; rw [h2, h3, h4]; rfl)
              rw [List.append_nil] at this
              simp only [cond_false]
              exact this

/-! Does a route match a pattern. -/
def mt : List ByteArray → List ByteArray → Bool
  | [], _ => true
  | _ :: _, [] => false
  | p :: P, q :: Q => (seq p c__2a || seq p q) && mt P Q
theorem mt_short : ∀ P Q : List ByteArray, Q.length < P.length → mt P Q = false
  | [], Q, h => absurd h (Nat.not_lt_zero _)
  | p :: P, [], _ => rfl
  | p :: P, q :: Q, h => by
    have := mt_short P Q (by simpa using h)
    simp only [mt, this, Bool.and_false]
theorem mtL (P Q : List ByteArray) (h : P.length ≤ Q.length) (hP : P.length ≤ 3000000) : ∀ (d j : Nat), P.length - j ≤ d → j ≤ P.length → Ev (fun k => conf_matches.l0 k Q P (llen P) (j : Int)) (mt (P.drop j) (Q.drop j)) := by
  intro d
  have last : ∀ j, j = P.length → Ev (fun k => conf_matches.l0 k Q P (llen P) (j : Int)) (mt (P.drop j) (Q.drop j)) := fun j e => by
    subst e
    rw [List.drop_eq_nil_of_le (Nat.le_refl _)]
    exact Ev.step (g := fun _ => some true) (fun k => by simp only [conf_matches.l0, llen_eq, ilen', cond_false]) (Ev.now fun _ => rfl)
  induction d with
  | zero => intro j hd hj; exact last j (by omega)
  | succ d ih =>
    intro j hd hj
    rcases Nat.lt_or_ge j P.length with hlt | hge
    case inr => exact last j (by omega)
    have hq : j < Q.length := by omega
    have hw : wadd .i64 (j : Int) 1 = ((j + 1 : Nat) : Int) := u0 (by omega)
    have nx := ih (j + 1) (by omega) hlt
    rw [List.drop_eq_getElem_cons hlt, List.drop_eq_getElem_cons hq]
    simp only [mt]
    cases h1 : seq P[j] c__2a with
    | true => exact Ev.step (fun k => by simp only [conf_matches.l0, llen_eq, Go.Proofs.YthmedjljckbidaaGreatDoor.Lift.ilen _ _ hlt, cond_true, lat_lt hlt, Option.bind_some, h1, Bool.not_true, cond_false, hw]) nx
    | false =>
      cases h2 : seq P[j] Q[j] with
      | true => exact Ev.step (fun k => by simp only [conf_matches.l0, llen_eq, Go.Proofs.YthmedjljckbidaaGreatDoor.Lift.ilen _ _ hlt, cond_true, lat_lt hlt, lat_lt hq, Option.bind_some, h1, h2, Bool.not_true, Bool.not_false, cond_false, hw]) nx
      | false => exact Ev.step (g := fun _ => some false) (fun k => by simp only [conf_matches.l0, llen_eq, Go.Proofs.YthmedjljckbidaaGreatDoor.Lift.ilen _ _ hlt, cond_true, lat_lt hlt, lat_lt hq, Option.bind_some, h1, h2, Bool.not_false]) (Ev.now fun _ => rfl)
theorem mtR (P Q : List ByteArray) (h : P.length ≤ Q.length) (hP : P.length ≤ 3000000) : ∀ (d j : Nat), P.length - j ≤ d → j ≤ P.length → Ev (fun k => mastref2_matchesRoute.l0 k Q P (llen P) (j : Int)) (mt (P.drop j) (Q.drop j)) := by
  intro d
  have last : ∀ j, j = P.length → Ev (fun k => mastref2_matchesRoute.l0 k Q P (llen P) (j : Int)) (mt (P.drop j) (Q.drop j)) := fun j e => by
    subst e
    rw [List.drop_eq_nil_of_le (Nat.le_refl _)]
    exact Ev.step (g := fun _ => some true) (fun k => by simp only [mastref2_matchesRoute.l0, llen_eq, ilen', cond_false]) (Ev.now fun _ => rfl)
  induction d with
  | zero => intro j hd hj; exact last j (by omega)
  | succ d ih =>
    intro j hd hj
    rcases Nat.lt_or_ge j P.length with hlt | hge
    case inr => exact last j (by omega)
    have hq : j < Q.length := by omega
    have hw : wadd .i64 (j : Int) 1 = ((j + 1 : Nat) : Int) := u0 (by omega)
    have nx := ih (j + 1) (by omega) hlt
    rw [List.drop_eq_getElem_cons hlt, List.drop_eq_getElem_cons hq]
    simp only [mt]
    cases h1 : seq P[j] c__2a with
    | true => exact Ev.step (fun k => by simp only [mastref2_matchesRoute.l0, llen_eq, Go.Proofs.YthmedjljckbidaaGreatDoor.Lift.ilen _ _ hlt, cond_true, lat_lt hlt, Option.bind_some, h1, Bool.not_true, cond_false, hw]) nx
    | false =>
      cases h2 : seq P[j] Q[j] with
      | true => exact Ev.step (fun k => by simp only [mastref2_matchesRoute.l0, llen_eq, Go.Proofs.YthmedjljckbidaaGreatDoor.Lift.ilen _ _ hlt, cond_true, lat_lt hlt, lat_lt hq, Option.bind_some, h1, h2, Bool.not_true, Bool.not_false, cond_false, hw]) nx
      | false => exact Ev.step (g := fun _ => some false) (fun k => by simp only [mastref2_matchesRoute.l0, llen_eq, Go.Proofs.YthmedjljckbidaaGreatDoor.Lift.ilen _ _ hlt, cond_true, lat_lt hlt, lat_lt hq, Option.bind_some, h1, h2, Bool.not_false]) (Ev.now fun _ => rfl)
theorem match_ok (P Q : List ByteArray) (hP : P.length ≤ 3000000) : Ev (fun k => conf_matches.f k P Q) (mt P Q) := by
  rcases Nat.lt_or_ge Q.length P.length with h | h
  · rw [mt_short P Q h]
    exact Ev.now fun k => by simp only [conf_matches.f, llen_eq, ilt_t (show (Q.length : Int) < (P.length : Int) by omega), cond_true]
  · exact Ev.congr (fun k => by simp only [conf_matches.f, llen_eq, ilt_f (show (P.length : Int) ≤ (Q.length : Int) by omega), cond_false]; try rfl) (mtL P Q h hP P.length 0 (by omega) (by omega))
theorem split_ok (s : ByteArray) (hs : s.size ≤ 100000000) : strings_Split.f s c__2e = some (parts s) := by
  unfold strings_Split.f splitF
  rw [if_pos ⟨by omega, by decide⟩]; rfl
/-- Does a field match a route. -/
def hit (f : T_conf_Field) (s : ByteArray) : Bool := !seq s c_empty && mt (parts f.fRoute) (parts s)
theorem hit_ok (f : T_conf_Field) (s : ByteArray) (hs : s.size ≤ 100000000) (hf : f.fRoute.size ≤ 1048576) : Ev (fun k => mastref2_matchesRoute.f k f.fRoute s) (hit f s) := by
  unfold hit
  cases e : seq s c_empty with
  | true => exact Ev.now fun k => by simp only [mastref2_matchesRoute.f, e, cond_true]; rfl
  | false =>
    have hP := parts_few f.fRoute hf
    show Ev _ (mt (parts f.fRoute) (parts s))
    rcases Nat.lt_or_ge (parts s).length (parts f.fRoute).length with h | h
    · rw [mt_short _ _ h]
      exact Ev.now fun k => by simp only [mastref2_matchesRoute.f, e, cond_false, split_ok f.fRoute (by omega), split_ok s hs, Option.bind_some, llen_eq, ilt_t (show ((parts s).length : Int) < ((parts f.fRoute).length : Int) by omega), cond_true]
    · exact Ev.congr (fun k => by simp only [mastref2_matchesRoute.f, e, cond_false, split_ok f.fRoute (by omega), split_ok s hs, Option.bind_some, llen_eq, ilt_f (show ((parts f.fRoute).length : Int) ≤ ((parts s).length : Int) by omega), cond_false]; try rfl) (mtR (parts f.fRoute) (parts s) h hP _ 0 (by omega) (by omega))

/-! The fields, one behind the other. -/
abbrev Fine (f : T_conf_Field) : Prop := rpS true f.fRoute = true ∧ seq f.fRoute c_empty = false ∧ fz f ≤ 1048576
theorem fine_len {f : T_conf_Field} (h : Fine f) : f.fRoute.size ≤ 400 := by
  have h1 := h.1
  unfold rpS at h1
  cases h4 : ilt 400 (slen f.fRoute) with
  | true => rw [h4] at h1; exact nomatch h1
  | false =>
    have : ¬ (400 : Int) < slen f.fRoute := of_decide_eq_false h4
    unfold slen at this; omega
theorem fine_parts {f : T_conf_Field} (h : Fine f) : ∀ p ∈ parts f.fRoute, pkS true p.data.toList = true ∧ p.size ≤ 400 := fun p hp => by
  have h1 := h.1
  have h2 := fine_len h
  have h3 := split_sz _ _ _ _ hp
  refine ⟨?_, by omega⟩
  unfold rpS at h1
  rw [ilt_f (show slen f.fRoute ≤ 400 by unfold slen; omega), cond_false, h.2.1, cond_false] at h1
  exact pcs_all h1 p hp
theorem fine_one {f : T_conf_Field} (h : Fine f) : f.fOneOf.length ≤ 2000000 := by
  have h1 := h.2.2
  have h2 := klen_le f.fOneOf
  unfold fz at h1; omega
theorem parts_le (s : ByteArray) (hs : s.size ≤ 400) : (parts s).length ≤ 402 := by
  have h1 := Lib.splitB_length_le c__2e 0 (Lib.countB s c__2e) s
  have h2 := Lib.countB_le c__2e (by decide) s.size s (Nat.le_refl _)
  unfold parts; omega
theorem fields_ok (l : List T_conf_Field) (b : Bool) (v : T_api_Value) (hl : l.length ≤ 100) (hF : ∀ f ∈ l, Fine f) (hv : wt v ≤ 1048576) (h0 : vf v = 0) : ∀ (d j : Nat), l.length - j ≤ d → j ≤ l.length →
    ∃ F : List T_conf_Fault, F.length ≤ 2097152 * (l.length - j) ∧
      (∀ (out : List T_conf_Fault) (pats : List (List ByteArray)) (z : List T_conf_Fault × Int), out.length + 2097152 * (l.length - j) ≤ 500000000000 → pats.length ≤ j → Ev (fun k => conf_Faults.l0 k l b v.fKind v.fBool v.fInt v.fText v.fItems v.fKeys (out ++ F) (pats ++ (l.drop j).map fun f => parts f.fRoute) l (llen l) (l.length : Int)) z → Ev (fun k => conf_Faults.l0 k l b v.fKind v.fBool v.fInt v.fText v.fItems v.fKeys out pats l (llen l) (j : Int)) z) ∧
      ∀ (acc : List T_conf_Fault) (z : List T_conf_Fault × Int), acc.length + 2097152 * (l.length - j) ≤ 500000000000 → Ev (fun k => mastref2_FaultsOf.l0 k l b v.fKind v.fBool v.fInt v.fText v.fItems v.fKeys (acc ++ F) l (llen l) (l.length : Int)) z → Ev (fun k => mastref2_FaultsOf.l0 k l b v.fKind v.fBool v.fInt v.fText v.fItems v.fKeys acc l (llen l) (j : Int)) z := by
  intro d
  have last : ∀ j, j = l.length → ∃ F : List T_conf_Fault, F.length ≤ 2097152 * (l.length - j) ∧
      (∀ (out : List T_conf_Fault) (pats : List (List ByteArray)) (z : List T_conf_Fault × Int), out.length + 2097152 * (l.length - j) ≤ 500000000000 → pats.length ≤ j → Ev (fun k => conf_Faults.l0 k l b v.fKind v.fBool v.fInt v.fText v.fItems v.fKeys (out ++ F) (pats ++ (l.drop j).map fun f => parts f.fRoute) l (llen l) (l.length : Int)) z → Ev (fun k => conf_Faults.l0 k l b v.fKind v.fBool v.fInt v.fText v.fItems v.fKeys out pats l (llen l) (j : Int)) z) ∧
      ∀ (acc : List T_conf_Fault) (z : List T_conf_Fault × Int), acc.length + 2097152 * (l.length - j) ≤ 500000000000 → Ev (fun k => mastref2_FaultsOf.l0 k l b v.fKind v.fBool v.fInt v.fText v.fItems v.fKeys (acc ++ F) l (llen l) (l.length : Int)) z → Ev (fun k => mastref2_FaultsOf.l0 k l b v.fKind v.fBool v.fInt v.fText v.fItems v.fKeys acc l (llen l) (j : Int)) z := fun j e => by
    subst e
    refine ⟨[], Nat.zero_le _, fun out pats z _ _ h => ?_, fun acc z _ h => ?_⟩
    · rw [List.drop_eq_nil_of_le (Nat.le_refl _), List.map_nil, List.append_nil, List.append_nil] at h; exact h
    · rw [List.append_nil] at h; exact h
  induction d with
  | zero => intro j hd hj; exact last j (by omega)
  | succ d ih =>
    intro j hd hj
    rcases Nat.lt_or_ge j l.length with hlt | hge
    case inr => exact last j (by omega)
    have hmem := List.getElem_mem (h := hlt)
    have fin := hF _ hmem
    have h400 := fine_len fin
    have hw : wadd .i64 (j : Int) 1 = ((j + 1 : Nat) : Int) := u0 (by omega)
    have hp := parts_le l[j].fRoute h400
    have hc : c_empty.size = 0 := rfl
    have hst := steps_ok true l[j].fRoute (by omega)
    rw [fin.1, cond_true, show stps l[j].fRoute = (parts l[j].fRoute).map stp by unfold stps; rw [fin.2.1]; rfl] at hst
    have hsp := split_ok l[j].fRoute (by omega)
    obtain ⟨R, r1, r2, r3⟩ := walk_ok l[j] (fine_one fin) (parts l[j].fRoute) (fine_parts fin) v hv h0 c_empty (by omega)
    have hfl := faus_len l[j] R
    obtain ⟨F, f1, f2, f3⟩ := ih (j + 1) (by omega) hlt
    refine ⟨R.flatMap (fau l[j]) ++ F, by rw [List.length_append]; omega, fun out pats z ho hpt h => ?_, fun acc z ha h => ?_⟩
    · have hlap : lapp 24 pats [parts l[j].fRoute] = some (pats ++ [parts l[j].fRoute]) := lapp_ok (by simp; omega) (by simp; omega)
      rw [List.drop_eq_getElem_cons hlt, List.map_cons, ← List.append_assoc] at h
      have h2 := f2 (out ++ R.flatMap (fau l[j])) (pats ++ [parts l[j].fRoute]) z (by rw [List.length_append]; omega) (by simp; omega) (by
        rw [List.append_assoc pats]; exact h)
      refine Ev.step (fun k => by simp only [conf_Faults.l0, llen_eq, Go.Proofs.YthmedjljckbidaaGreatDoor.Lift.ilen _ _ hlt, cond_true, lat_lt hlt, Option.bind_some, eta, feta, hsp, hw]; rfl) (Ev.bind hst (Ev.bind (r3 out (by omega)) ?_))
      simp only [hlap, Option.bind_some]
      exact h2
    · rw [← List.append_assoc] at h
      have h2 := f3 (acc ++ R.flatMap (fau l[j])) z (by rw [List.length_append]; omega) h
      refine Ev.step (fun k => by simp only [mastref2_FaultsOf.l0, llen_eq, Go.Proofs.YthmedjljckbidaaGreatDoor.Lift.ilen _ _ hlt, cond_true, lat_lt hlt, Option.bind_some, eta, hsp]; rfl) (Ev.bind r2 ?_)
      exact l1_loop l b v l[j] (fine_one fin) j (by omega) R (by omega) z R.length 0 acc (by omega) (by omega) (by omega) h2

/-! The routes that no field matches. -/
def six (l : List T_conf_Field) (s : ByteArray) : List T_conf_Fault := bif l.any (fun f => hit f s) then [] else [⟨s, 6⟩]
theorem six_len (l : List T_conf_Field) : ∀ L : List ByteArray, (L.flatMap (six l)).length ≤ L.length
  | [] => Nat.le_refl _
  | s :: L => by
    have := six_len l L
    have h1 : (six l s).length ≤ 1 := by unfold six; cases l.any (fun f => hit f s) <;> simp
    simp only [List.flatMap_cons, List.length_append, List.length_cons]; omega
theorem inner (l : List T_conf_Field) (hl : l.length ≤ 100) (hF : ∀ f ∈ l, Fine f) (L : List ByteArray) (s : ByteArray) (hs : s.size ≤ 100000000) (i : Nat) (hi : i ≤ 100000000) (F : List T_conf_Fault) (hFl : F.length ≤ 900000000000) (P : List (List ByteArray)) (hP : P = l.map fun f => parts f.fRoute) (z : List T_conf_Fault × Int) : ∀ (d j : Nat) (b0 : Bool), l.length - j ≤ d → j ≤ l.length →
    Ev (fun k => conf_Faults.l1 k (F ++ bif (b0 || (l.drop j).any (fun f => hit f s)) then [] else [⟨s, 6⟩]) P L (llen L) ((i + 1 : Nat) : Int)) z → Ev (fun k => conf_Faults.l2 k F P s b0 L (llen L) (i : Int) P (llen P) (j : Int)) z := by
  intro d
  have hlen : P.length = l.length := by rw [hP, List.length_map]
  have last : ∀ (j : Nat) (b0 : Bool), j = l.length → Ev (fun k => conf_Faults.l1 k (F ++ bif (b0 || (l.drop j).any (fun f => hit f s)) then [] else [⟨s, 6⟩]) P L (llen L) ((i + 1 : Nat) : Int)) z → Ev (fun k => conf_Faults.l2 k F P s b0 L (llen L) (i : Int) P (llen P) (j : Int)) z := fun j b0 e h => by
    subst e
    rw [List.drop_eq_nil_of_le (Nat.le_refl _), List.any_nil, Bool.or_false] at h
    have hw : wadd .i64 (i : Int) 1 = ((i + 1 : Nat) : Int) := u0 (by omega)
    have hl' : ilt (l.length : Int) (P.length : Int) = false := ilt_f (by omega)
    cases b0 with
    | true =>
      rw [cond_true, List.append_nil] at h
      exact Ev.step (fun k => by simp only [conf_Faults.l2, llen_eq, hl', cond_false, Bool.not_true, hw]; try rfl) h
    | false =>
      rw [cond_false] at h
      exact Ev.step (fun k => by simp only [conf_Faults.l2, llen_eq, hl', cond_false, Bool.not_false, cond_true, add_ok F s 6 (by omega), Option.bind_some, hw]; try rfl) h
  induction d with
  | zero => intro j b0 hd hj h; exact last j b0 (by omega) h
  | succ d ih =>
    intro j b0 hd hj h
    rcases Nat.lt_or_ge j l.length with hlt | hge
    case inr => exact last j b0 (by omega) h
    have hw : wadd .i64 (j : Int) 1 = ((j + 1 : Nat) : Int) := u0 (by omega)
    have hlp : j < P.length := by omega
    have hi' : ilt (j : Int) (P.length : Int) = true := ilt_t (by omega)
    have hat : P[j] = parts l[j].fRoute := by subst hP; rw [List.getElem_map]
    have fin := hF _ (List.getElem_mem hlt)
    rw [List.drop_eq_getElem_cons hlt, List.any_cons] at h
    cases b0 with
    | true =>
      exact Ev.step (fun k => by simp only [conf_Faults.l2, llen_eq, hi', cond_true, lat_lt hlp, Option.bind_some, hw]; try rfl) (ih (j + 1) true (by omega) hlt h)
    | false =>
      rw [Bool.false_or] at h
      cases e : seq s c_empty with
      | true =>
        have eh : hit l[j] s = false := by unfold hit; rw [e]; rfl
        rw [eh] at h
        exact Ev.step (fun k => by simp only [conf_Faults.l2, llen_eq, hi', cond_true, lat_lt hlp, Option.bind_some, hw, e, Bool.not_true, cond_false]; try rfl) (ih (j + 1) false (by omega) hlt h)
      | false =>
        have eh : hit l[j] s = mt (parts l[j].fRoute) (parts s) := by unfold hit; rw [e]; rfl
        rw [eh] at h
        have hm := match_ok (parts l[j].fRoute) (parts s) (by have := parts_le l[j].fRoute (fine_len fin); omega)
        refine Ev.step (fun k => by simp only [conf_Faults.l2, llen_eq, hi', cond_true, lat_lt hlp, Option.bind_some, hw, e, Bool.not_false, cond_false, split_ok s hs, hat]; rfl) (Ev.bind hm ?_)
        exact ih (j + 1) (mt (parts l[j].fRoute) (parts s)) (by omega) hlt h
theorem strictL (l : List T_conf_Field) (hl : l.length ≤ 100) (hF : ∀ f ∈ l, Fine f) (L : List ByteArray) (hL : L.length ≤ 2000000) (hs : ∀ s ∈ L, s.size ≤ 100000000) (P : List (List ByteArray)) (hP : P = l.map fun f => parts f.fRoute) : ∀ (d j : Nat) (F : List T_conf_Fault), L.length - j ≤ d → j ≤ L.length → F.length + (L.length - j) ≤ 900000000000 →
    Ev (fun k => conf_Faults.l1 k F P L (llen L) (j : Int)) (F ++ (L.drop j).flatMap (six l), 0) := by
  intro d
  have last : ∀ (j : Nat) (F : List T_conf_Fault), j = L.length → Ev (fun k => conf_Faults.l1 k F P L (llen L) (j : Int)) (F ++ (L.drop j).flatMap (six l), 0) := fun j F e => by
    subst e
    rw [List.drop_eq_nil_of_le (Nat.le_refl _), List.flatMap_nil, List.append_nil]
    exact Ev.step (g := fun _ => some (F, 0)) (fun k => by simp only [conf_Faults.l1, llen_eq, ilen', cond_false]) (Ev.now fun _ => rfl)
  induction d with
  | zero => intro j F hd hj _; exact last j F (by omega)
  | succ d ih =>
    intro j F hd hj hFl
    rcases Nat.lt_or_ge j L.length with hlt | hge
    case inr => exact last j F (by omega)
    have hm := List.getElem_mem (h := hlt)
    rw [List.drop_eq_getElem_cons hlt, List.flatMap_cons, ← List.append_assoc]
    have h1 : (six l L[j]).length ≤ 1 := by unfold six; cases l.any (fun f => hit f L[j]) <;> simp
    have nx := ih (j + 1) (F ++ six l L[j]) (by omega) hlt (by rw [List.length_append]; omega)
    refine Ev.step (fun k => by simp only [conf_Faults.l1, llen_eq, Go.Proofs.YthmedjljckbidaaGreatDoor.Lift.ilen _ _ hlt, cond_true, lat_lt hlt, Option.bind_some]; rfl) ?_
    exact inner l hl hF L L[j] (hs _ hm) j (by omega) F (by omega) P hP _ l.length 0 false (by omega) (by omega) (by rw [List.drop_zero, Bool.false_or]; exact nx)
theorem any_ok (l : List T_conf_Field) (hl : l.length ≤ 100) (hF : ∀ f ∈ l, Fine f) (s : ByteArray) (hs : s.size ≤ 100000000) : Ev (fun k => slices_ContainsFunc_conf_Field_conf_Field_at_mastref2_FaultsOf_c1.f k l s) (l.any (fun f => hit f s), s, ()) := by
  have q := find_loop l 0 (Nat.zero_le _) (fun k j => slices_IndexFunc_conf_Field_conf_Field_at_mastref2_FaultsOf_c1.l0 k l (llen l) (j : Int) s) (fun k f => mastref2_FaultsOf_c1.f k f s) (fun k j y => bif y.1 then some ((j : Int), y.2.1, ()) else slices_IndexFunc_conf_Field_conf_Field_at_mastref2_FaultsOf_c1.l0 k l (llen l) ((j + 1 : Nat) : Int) y.2.1) (fun _ => some (-1, s, ())) (fun f => hit f s) (fun j => ((j : Int), s, ())) (-1, s, ())
    (fun k j h => by simp only [slices_IndexFunc_conf_Field_conf_Field_at_mastref2_FaultsOf_c1.l0, llen_eq, Go.Proofs.YthmedjljckbidaaGreatDoor.Lift.ilen _ _ h, cond_true, lat_lt h, Option.bind_some, u0 (show j ≤ 4611686018427387904 by omega)])
    (fun k => by simp only [slices_IndexFunc_conf_Field_conf_Field_at_mastref2_FaultsOf_c1.l0, llen_eq, Go.Proofs.YthmedjljckbidaaGreatDoor.Lift.ilen', cond_false]) (Ev.now fun _ => rfl)
    (fun j h => ⟨(hit l[j] s, s, ()), Ev.congr (fun k => by simp only [mastref2_FaultsOf_c1.f]; rfl) (Ev.bind (hit_ok l[j] s hs (by have := fine_len (hF _ (List.getElem_mem h)); omega)) (Ev.now fun _ => rfl)), fun k => rfl⟩)
  rw [List.drop_zero] at q
  refine Ev.congr (fun k => by simp only [slices_ContainsFunc_conf_Field_conf_Field_at_mastref2_FaultsOf_c1.f, slices_IndexFunc_conf_Field_conf_Field_at_mastref2_FaultsOf_c1.f]; rfl) (Ev.bind q (Ev.now fun _ => ?_))
  have e := fl_map (fun y : Int × ByteArray × Unit => (ile 0 y.1, y.2.1, ())) (fun f => hit f s) (fun j => ((j : Int), s, ())) (-1, s, ()) l 0
  have e2 := fl_const (fun f => hit f s) (true, s, ()) (false, s, ()) l 0
  refine congrArg some (Eq.trans e ?_)
  rw [show (fun j : Nat => (ile 0 (j : Int), s, ())) = (fun _ => (true, s, ())) from funext fun j => by rw [ile_t (by omega)]]
  rw [show ((ile 0 (-1) : Bool), s, ()) = (false, s, ()) from rfl, e2]
  cases l.any (fun f => hit f s) <;> rfl
theorem strictR (l : List T_conf_Field) (b : Bool) (hl : l.length ≤ 100) (hF : ∀ f ∈ l, Fine f) (L : List ByteArray) (hL : L.length ≤ 2000000) (hs : ∀ s ∈ L, s.size ≤ 100000000) : ∀ (d j : Nat) (F : List T_conf_Fault), L.length - j ≤ d → j ≤ L.length → F.length + (L.length - j) ≤ 900000000000 →
    Ev (fun k => mastref2_FaultsOf.l2 k l b F L (llen L) (j : Int)) (F ++ (L.drop j).flatMap (six l), 0) := by
  intro d
  have last : ∀ (j : Nat) (F : List T_conf_Fault), j = L.length → Ev (fun k => mastref2_FaultsOf.l2 k l b F L (llen L) (j : Int)) (F ++ (L.drop j).flatMap (six l), 0) := fun j F e => by
    subst e
    rw [List.drop_eq_nil_of_le (Nat.le_refl _), List.flatMap_nil, List.append_nil]
    exact Ev.step (g := fun _ => some (F, 0)) (fun k => by simp only [mastref2_FaultsOf.l2, llen_eq, ilen', cond_false]) (Ev.now fun _ => rfl)
  induction d with
  | zero => intro j F hd hj _; exact last j F (by omega)
  | succ d ih =>
    intro j F hd hj hFl
    rcases Nat.lt_or_ge j L.length with hlt | hge
    case inr => exact last j F (by omega)
    have hm := List.getElem_mem (h := hlt)
    have hw : wadd .i64 (j : Int) 1 = ((j + 1 : Nat) : Int) := u0 (by omega)
    rw [List.drop_eq_getElem_cons hlt, List.flatMap_cons, ← List.append_assoc]
    have h1 : (six l L[j]).length ≤ 1 := by unfold six; cases l.any (fun f => hit f L[j]) <;> simp
    have nx := ih (j + 1) (F ++ six l L[j]) (by omega) hlt (by rw [List.length_append]; omega)
    refine Ev.step (fun k => by simp only [mastref2_FaultsOf.l2, llen_eq, Go.Proofs.YthmedjljckbidaaGreatDoor.Lift.ilen _ _ hlt, cond_true, lat_lt hlt, Option.bind_some, hw]; rfl) (Ev.bind (any_ok l hl hF L[j] (hs _ hm)) ?_)
    have e6 : six l L[j] = bif l.any (fun f => hit f L[j]) then [] else [⟨L[j], 6⟩] := rfl
    rw [e6] at nx
    rw [e6]
    cases e : l.any (fun f => hit f L[j]) with
    | true => rw [e] at nx; simp only [cond_true, List.append_nil, Bool.not_true, cond_false] at nx ⊢; exact nx
    | false => rw [e] at nx; simp only [cond_false, Bool.not_false, cond_true, one_ok F L[j] 6 (by omega), Option.bind_some] at nx ⊢; exact nx

/-! What is alike itself. -/
theorem eqf_loop (l : List T_conf_Fault) (hl : l.length ≤ 1000000000000) : ∀ (d j : Nat), l.length - j ≤ d → j ≤ l.length → Ev (fun k => slices_Equal_conf_Fault_conf_Fault.l0 k l l (llen l) (j : Int)) true := by
  intro d
  have last : ∀ j, j = l.length → Ev (fun k => slices_Equal_conf_Fault_conf_Fault.l0 k l l (llen l) (j : Int)) true := fun j h => by
    subst h
    exact Ev.step (g := fun _ => some true) (fun k => by simp only [slices_Equal_conf_Fault_conf_Fault.l0, llen_eq, ilen', cond_false]) (Ev.now fun _ => rfl)
  induction d with
  | zero => intro j hd hj; exact last j (by omega)
  | succ d ih =>
    intro j hd hj
    rcases Nat.lt_or_ge j l.length with hlt | hge
    · have hw : wadd .i64 (j : Int) 1 = ((j + 1 : Nat) : Int) := u0 (by omega)
      exact Ev.step (fun k => by simp only [slices_Equal_conf_Fault_conf_Fault.l0, llen_eq, ilen l j hlt, cond_true, lat_lt hlt, Option.bind_some, seq_self, ieq_self, Bool.and_self, Bool.not_true, cond_false, hw]) (ih (j + 1) (by omega) hlt)
    · exact last j (by omega)
theorem eqf_ok (l : List T_conf_Fault) (hl : l.length ≤ 1000000000000) : Ev (fun k => mastref2_Alike_at_conf_Fault.f k l l) true :=
  Ev.congr (fun k => by simp only [mastref2_Alike_at_conf_Fault.f]; rfl) (Ev.bind (Ev.congr (fun k => by simp only [slices_Equal_conf_Fault_conf_Fault.f, ieq_self, Bool.not_true, cond_false]; rfl) (eqf_loop l hl l.length 0 (by omega) (by omega))) (Ev.now fun _ => rfl))
theorem sf_fine : ∀ (l pre : List T_conf_Field), sf pre l = 0 → ∀ f ∈ l, rpS true f.fRoute = true ∧ seq f.fRoute c_empty = false
  | [], _, _, f, hf => nomatch hf
  | x :: r, pre, h, f, hf => by
    simp only [sf] at h
    cases e : ieq (ff x (pre.any fun y => seq y.fRoute x.fRoute)) 0 with
    | false =>
      rw [e, cond_false] at h
      rw [h] at e; exact nomatch e
    | true =>
      rw [e, cond_true] at h
      rcases List.mem_cons.1 hf with rfl | hf
      · unfold ff at e
        cases h1 : rpS true f.fRoute <;> cases h2 : seq f.fRoute c_empty
        · rw [h1, h2] at e; exact nomatch e
        · rw [h1, h2] at e; exact nomatch e
        · exact ⟨rfl, rfl⟩
        · rw [h1, h2] at e; exact nomatch e
      · exact sf_fine r _ h f hf
theorem check_fine (x0 : T_conf_Schema) (hw : ∀ f ∈ x0.fFields, fz f ≤ 1048576) : ∃ r, Ev (fun k => conf_CheckSchema.f k x0) r ∧ Ev (fun k => mastref2_SchemaFault.f k x0) r ∧ (r = 0 → x0.fFields.length ≤ 100 ∧ ∀ f ∈ x0.fFields, Fine f) := by
  by_cases hl : x0.fFields.length ≤ 100
  · refine ⟨sf [] x0.fFields, ?_, ?_, fun h => ⟨hl, fun f hf => ⟨(sf_fine _ _ h f hf).1, (sf_fine _ _ h f hf).2, hw f hf⟩⟩⟩
    · refine Ev.congr (fun k => by simp only [conf_CheckSchema.f, llen_eq, ilt_f (show (x0.fFields.length : Int) ≤ 100 by omega), cond_false]; rfl) (schemaL x0.fFields hl hw x0.fFields.length 0 [] (by omega) (by omega) (fun _ => rfl))
    · refine Ev.congr (fun k => by simp only [mastref2_SchemaFault.f, llen_eq, ilt_f (show (x0.fFields.length : Int) ≤ 100 by omega), cond_false]; rfl) (schemaR x0.fFields x0.fStrict hl hw x0.fFields.length 0 (by omega) (by omega))
  · refine ⟨4, Ev.now fun k => ?_, Ev.now fun k => ?_, fun h => absurd h (by decide)⟩
    · simp only [conf_CheckSchema.f, llen_eq, ilt_t (show (100 : Int) < (x0.fFields.length : Int) by omega), cond_true]
    · simp only [mastref2_SchemaFault.f, llen_eq, ilt_t (show (100 : Int) < (x0.fFields.length : Int) by omega), cond_true]

theorem pure_holds : Pure := fun x0 x1 h0 h1 => by
  obtain ⟨D, d1, d2⟩ := h0
  obtain ⟨D1, e1, e2⟩ := h1
  have hw : ∀ f ∈ x0.fFields, fz f ≤ 1048576 := fun f hf => Nat.le_trans (all_small D x0 d1 f hf) d2
  have hv : wt x1 ≤ 1048576 := Nat.le_trans (wt_bulk D1 x1 e1) e2
  refine (show Ev (fun k => mastlaw2_SchemaFaults.f k x0 x1) true from ?_).get
  suffices h : ∃ F : List T_conf_Fault, ∃ n : Int, F.length ≤ 1000000000000 ∧ Ev (fun k => conf_Faults.f k x0 x1) (F, n) ∧ Ev (fun k => mastref2_FaultsOf.f k x0 x1) (F, n) by
    obtain ⟨F, n, hF, h1, h2⟩ := h
    refine Ev.congr (fun k => by simp only [mastlaw2_SchemaFaults.f, eta]; rfl) (Ev.bind h1 (Ev.bind h2 ?_))
    exact Ev.congr (g := fun k => (mastref2_Alike_at_conf_Fault.f k F F).bind fun y3 => some y3) (fun k => by simp only [ieq_self, cond_true]) (Ev.bind (eqf_ok F hF) (Ev.now fun _ => rfl))
  obtain ⟨r, r1, r2, r3⟩ := check_fine x0 hw
  by_cases hr : r = 0
  case neg =>
    have hn := ieq_f hr
    refine ⟨[], r, Nat.zero_le _, ?_, ?_⟩
    · exact Ev.congr (fun k => by simp only [conf_Faults.f, eta]; rfl) (Ev.bind r1 (Ev.now fun k => by rw [hn]; first | done | rfl))
    · exact Ev.congr (fun k => by simp only [mastref2_FaultsOf.f, eta]; rfl) (Ev.bind r2 (Ev.now fun k => by rw [hn]; first | done | rfl))
  subst hr
  have z0 : ieq (0 : Int) 0 = true := rfl
  obtain ⟨hl, hF⟩ := r3 rfl
  by_cases hc : chk x1 = 0
  case neg =>
    have hn := ieq_f hc
    refine ⟨[], chk x1, Nat.zero_le _, ?_, ?_⟩
    · refine Ev.congr (fun k => by simp only [conf_Faults.f, eta]; rfl) (Ev.bind r1 ?_)
      simp only [z0, Bool.not_true, cond_false]
      exact Ev.bind (chk_ok x1 hv) (Ev.now fun k => by rw [hn]; first | done | rfl)
    · refine Ev.congr (fun k => by simp only [mastref2_FaultsOf.f, eta]; rfl) (Ev.bind r2 ?_)
      simp only [z0, Bool.not_true, cond_false]
      exact Ev.bind (chkR_ok x1 hv) (Ev.now fun k => by rw [hn]; first | done | rfl)
  have h0 := chk_zero hc
  have k1 := chk_ok x1 hv
  have k2 := chkR_ok x1 hv
  rw [hc] at k1 k2
  obtain ⟨F, f1, f2, f3⟩ := fields_ok x0.fFields x0.fStrict x1 hl hF hv h0 x0.fFields.length 0 (by omega) (by omega)
  suffices h : ∃ G : List T_conf_Fault, G.length ≤ 1000000000000 ∧ Ev (fun k => conf_Faults.l0 k x0.fFields x0.fStrict x1.fKind x1.fBool x1.fInt x1.fText x1.fItems x1.fKeys ([] ++ F) ([] ++ (x0.fFields.drop 0).map fun f => parts f.fRoute) x0.fFields (llen x0.fFields) (x0.fFields.length : Int)) (G, 0) ∧ Ev (fun k => mastref2_FaultsOf.l0 k x0.fFields x0.fStrict x1.fKind x1.fBool x1.fInt x1.fText x1.fItems x1.fKeys ([] ++ F) x0.fFields (llen x0.fFields) (x0.fFields.length : Int)) (G, 0) by
    obtain ⟨G, g1, g2, g3⟩ := h
    refine ⟨G, 0, g1, ?_, ?_⟩
    · refine Ev.congr (fun k => by simp only [conf_Faults.f, eta]; rfl) (Ev.bind r1 ?_)
      simp only [z0, Bool.not_true, cond_false]
      refine Ev.bind k1 ?_
      simp only [z0, Bool.not_true, cond_false]
      exact f2 [] [] (G, 0) (by simp; omega) (by simp) g2
    · refine Ev.congr (fun k => by simp only [mastref2_FaultsOf.f, eta]; rfl) (Ev.bind r2 ?_)
      simp only [z0, Bool.not_true, cond_false]
      refine Ev.bind k2 ?_
      simp only [z0, Bool.not_true, cond_false]
      exact f3 [] (G, 0) (by simp; omega) g3
  cases hs : x0.fStrict with
  | false =>
    refine ⟨F, by omega, ?_, ?_⟩
    · exact Ev.step (g := fun _ => some (F, 0)) (fun k => by simp only [conf_Faults.l0, llen_eq, ilen', cond_false, Bool.not_false, cond_true, List.nil_append]) (Ev.now fun _ => rfl)
    · exact Ev.step (g := fun _ => some (F, 0)) (fun k => by simp only [mastref2_FaultsOf.l0, llen_eq, ilen', cond_false, List.nil_append]) (Ev.now fun _ => rfl)
  | true =>
    obtain ⟨L, l1, l2, l3, l4⟩ := routes_nil x1 hv h0
    have sx := six_len x0.fFields L
    refine ⟨F ++ L.flatMap (six x0.fFields), by rw [List.length_append]; omega, ?_, ?_⟩
    · refine Ev.step (fun k => by simp only [conf_Faults.l0, llen_eq, ilen', cond_false, Bool.not_true, List.nil_append, eta]; rfl) (Ev.bind l4 ?_)
      exact strictL x0.fFields hl hF L (by omega) l2 _ (by rw [List.drop_zero]) L.length 0 F (by omega) (by omega) (by omega)
    · refine Ev.step (fun k => by simp only [mastref2_FaultsOf.l0, llen_eq, ilen', cond_false, cond_true, List.nil_append, eta]; rfl) (Ev.bind l3 ?_)
      exact strictR x0.fFields true hl hF L (by omega) l2 L.length 0 F (by omega) (by omega) (by omega)

end Go.Proofs.YthmedjljckbidaaGreatDoor.LSchemaFaults
