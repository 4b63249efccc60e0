/- A schema is checked as the reference says, for schemas of small bulk. Conditions: none. -/
import Derived.Test.YtibnepagledbjaaDoorLSchemaChecksOp
import Derived.Lib.SplitLaws
set_option linter.unusedVariables false
set_option linter.unusedSimpArgs false
namespace Go.Proofs.YtibnepagledbjaaDoor.LSchemaChecks
open Go Go.Proofs.YtibnepagledbjaaDoor.Lift

theorem eta (y : T_api_Value) : T_api_Value.mk y.fKind y.fBool y.fInt y.fText y.fItems y.fKeys = y := by cases y; rfl

mutual
/-- How many values. -/
def nT : T_api_Value → Nat
  | ⟨_, _, _, _, is, _⟩ => nTs is + 1
def nTs : List T_api_Value → Nat
  | [] => 0
  | t :: r => nT t + nTs r
end
mutual
/-- How many levels. -/
def lv : T_api_Value → Nat
  | ⟨_, _, _, _, is, _⟩ => lvs is + 1
def lvs : List T_api_Value → Nat
  | [] => 0
  | t :: r => max (lv t) (lvs r)
end
def kz : List ByteArray → Nat
  | [] => 0
  | s :: r => s.size + 1 + kz r
mutual
/-- How much is held. -/
def wt : T_api_Value → Nat
  | ⟨_, _, _, t, is, ks⟩ => t.size + kz ks + wts is + 1
def wts : List T_api_Value → Nat
  | [] => 0
  | t :: r => wt t + wts r
end
theorem nT_eq (t : T_api_Value) : nT t = nTs t.fItems + 1 := by cases t; simp [nT]
theorem lv_eq (t : T_api_Value) : lv t = lvs t.fItems + 1 := by cases t; simp [lv]
theorem wt_eq (t : T_api_Value) : wt t = t.fText.size + kz t.fKeys + wts t.fItems + 1 := by cases t; simp [wt]
theorem wt_pos (t : T_api_Value) : 1 ≤ wt t := by rw [wt_eq]; omega
theorem wt_mem : ∀ {l : List T_api_Value} {t : T_api_Value}, t ∈ l → wt t ≤ wts l
  | a :: l, t, h => by
    simp only [wts]
    rcases List.mem_cons.1 h with rfl | h
    · omega
    · have := wt_mem h; omega
theorem len_le : ∀ l : List T_api_Value, l.length ≤ wts l
  | [] => Nat.zero_le _
  | a :: l => by
    have := len_le l
    have := wt_pos a
    simp only [wts, List.length_cons]; omega
theorem kz_mem : ∀ {l : List ByteArray} {s : ByteArray}, s ∈ l → s.size < kz l
  | a :: l, s, h => by
    simp only [kz]
    rcases List.mem_cons.1 h with rfl | h
    · omega
    · have := kz_mem h; omega
theorem klen_le : ∀ l : List ByteArray, l.length ≤ kz l
  | [] => Nat.zero_le _
  | a :: l => by
    have := klen_le l
    simp only [kz, List.length_cons]; omega
theorem tree {P : T_api_Value → Prop} (h : ∀ t, (∀ k ∈ t.fItems, P k) → P t) : ∀ t, P t := by
  have : ∀ (n : Nat) (t : T_api_Value), wt t ≤ n → P t := by
    intro n
    induction n with
    | zero => intro t ht; have := wt_pos t; omega
    | succ n ih => intro t ht; exact h t fun k hk => ih k (by have := wt_mem hk; rw [wt_eq] at ht; omega)
  exact fun t => this _ t (Nat.le_refl _)
theorem nT_wt : ∀ t, nT t ≤ wt t := tree fun t ih => by
  have : ∀ l : List T_api_Value, (∀ k ∈ l, nT k ≤ wt k) → nTs l ≤ wts l := by
    intro l
    induction l with
    | nil => intro _; exact Nat.zero_le _
    | cons a l ih =>
      intro h
      have h1 := h a (List.mem_cons_self ..)
      have h2 := ih fun k hk => h k (List.mem_cons_of_mem _ hk)
      simp only [nTs, wts]; omega
  have := this t.fItems ih
  rw [nT_eq, wt_eq]; omega
theorem nTs_wts : ∀ l, nTs l ≤ wts l
  | [] => Nat.zero_le _
  | a :: l => by have := nT_wt a; have := nTs_wts l; simp only [nTs, wts]; omega
theorem lv_wt : ∀ t, lv t ≤ wt t := tree fun t ih => by
  have : ∀ l : List T_api_Value, (∀ k ∈ l, lv k ≤ wt k) → lvs l ≤ wts l := by
    intro l
    induction l with
    | nil => intro _; exact Nat.zero_le _
    | cons a l ih =>
      intro h
      have h1 := h a (List.mem_cons_self ..)
      have h2 := ih fun k hk => h k (List.mem_cons_of_mem _ hk)
      simp only [lvs, wts]; omega
  have := this t.fItems ih
  rw [lv_eq, wt_eq]; omega
theorem bulk_str (D : Nat) (s : ByteArray) : bulk ctx D .str s = s.size + 1 := by cases D <;> rfl
theorem wt_bulk : ∀ (D : Nat) (t : T_api_Value), good ctx D (.st 2) t → wt t ≤ bulk ctx D (.st 2) t
  | 0, t, h => h.1.elim
  | 1, t, h => by
    have hi : t.fItems = [] := List.eq_nil_iff_forall_not_mem.2 fun k hk => h.2.2.2.2.1.2.2 k hk
    have hk : t.fKeys = [] := List.eq_nil_iff_forall_not_mem.2 fun k hk => h.2.2.2.2.2.2.2 k hk
    rw [wt_eq, hi, hk]
    show t.fText.size + 0 + 0 + 1 ≤ 1 + (1 + (1 + ((t.fText.size + 1) + ((((t.fItems.map fun _ => 0).sum + 1)) + (((t.fKeys.map fun _ => 0).sum + 1) + 0))))) + 1
    omega
  | D + 2, t, h => by
    have hi : ∀ k ∈ t.fItems, wt k ≤ bulk ctx D (.st 2) k := fun k hk => wt_bulk D k (h.2.2.2.2.1.2.2 k hk)
    have hs : ∀ l : List T_api_Value, (∀ k ∈ l, wt k ≤ bulk ctx D (.st 2) k) → wts l ≤ (l.map (bulk ctx D (.st 2))).sum := by
      intro l
      induction l with
      | nil => intro _; exact Nat.zero_le _
      | cons a l ih =>
        intro h
        have h1 := h a (List.mem_cons_self ..)
        have h2 := ih fun k hk => h k (List.mem_cons_of_mem _ hk)
        simp only [wts, List.map_cons, List.sum_cons]
        exact Nat.add_le_add h1 h2
    have hz : ∀ l : List ByteArray, kz l = (l.map (bulk ctx D .str)).sum := by
      intro l
      induction l with
      | nil => rfl
      | cons a l ih => simp only [kz, ih, List.map_cons, List.sum_cons, bulk_str]
    have h1 := hs t.fItems hi
    have h2 := hz t.fKeys
    rw [wt_eq, h2]
    show _ ≤ 1 + (1 + (1 + ((t.fText.size + 1) + (((t.fItems.map (bulk ctx D (.st 2))).sum + 1) + (((t.fKeys.map (bulk ctx D .str)).sum + 1) + 0))))) + 1
    omega

/-! How many values, how many levels. -/
theorem count_loop_conf (l : List T_api_Value) (hl : wts l ≤ 1048576) (ih : ∀ k ∈ l, ∃ r : Nat, Ev (fun f => conf_count.f f k) (r : Int) ∧ r ≤ nT k ∧ (1000 < r ∨ r = nT k)) : ∀ (d j a : Nat), l.length - j ≤ d → j ≤ l.length → a + nTs (l.drop j) ≤ 1048577 →
    ∃ r : Nat, Ev (fun f => conf_count.l0 f (a : Int) l (llen l) (j : Int)) (r : Int) ∧ r ≤ a + nTs (l.drop j) ∧ (1000 < r ∨ r = a + nTs (l.drop j)) := by
  have hlen := len_le l
  have fin : ∀ j a : Nat, l.length ≤ j → ∃ r : Nat, Ev (fun f => conf_count.l0 f (a : Int) l (llen l) (j : Int)) (r : Int) ∧ r ≤ a + nTs (l.drop j) ∧ (1000 < r ∨ r = a + nTs (l.drop j)) := fun j a h => by
    refine ⟨a, Ev.step (g := fun _ => some (a : Int)) (fun k => ?_) (Ev.now fun _ => rfl), by omega, ?_⟩
    · simp only [conf_count.l0, llen_eq, ilt_f (show (l.length : Int) ≤ (j : Int) by omega), cond_false]
    · rw [List.drop_eq_nil_of_le h]; simp [nTs]
  intro d
  induction d with
  | zero => intro j a hd hj hb; exact fin j a (by omega)
  | succ d ihd =>
    intro j a hd hj hb
    rcases Nat.lt_or_ge j l.length with hlt | hge
    · rw [List.drop_eq_getElem_cons hlt] at hb ⊢
      simp only [nTs] at hb ⊢
      by_cases ha : 1000 < a
      · refine ⟨a, Ev.step (g := fun _ => some (a : Int)) (fun k => ?_) (Ev.now fun _ => rfl), by omega, .inl ha⟩
        simp only [conf_count.l0, llen_eq, ilt_t (show (j : Int) < (l.length : Int) by omega), cond_true, lat_lt hlt, Option.bind_some, ilt_t (show (1000 : Int) < (a : Int) by omega)]
      · obtain ⟨r, r1, r2, r3⟩ := ih _ (List.getElem_mem hlt)
        obtain ⟨q, q1, q2, q3⟩ := ihd (j + 1) (a + r) (by omega) hlt (by omega)
        have w : wadd .i64 (a : Int) (r : Int) = ((a + r : Nat) : Int) := by rw [wadd64 (by omega) (by omega)]; omega
        refine ⟨q, Ev.step (g := fun k => (conf_count.f k l[j]).bind fun y2 => conf_count.l0 k (wadd .i64 (a : Int) y2) l (llen l) ((j + 1 : Nat) : Int)) (fun k => ?_) (Ev.bind r1 (by rw [w]; exact q1)), by omega, by omega⟩
        simp only [conf_count.l0, llen_eq, ilt_t (show (j : Int) < (l.length : Int) by omega), cond_true, lat_lt hlt, Option.bind_some, ilt_f (show (a : Int) ≤ 1000 by omega), cond_false, eta, u0 (show j ≤ 4611686018427387904 by omega)]
    · exact fin j a hge
theorem count_conf : ∀ t, wt t ≤ 1048576 → ∃ r : Nat, Ev (fun f => conf_count.f f t) (r : Int) ∧ r ≤ nT t ∧ (1000 < r ∨ r = nT t) := tree fun t ih hn => by
  have h0 := nTs_wts t.fItems
  rw [wt_eq] at hn
  obtain ⟨r, r1, r2, r3⟩ := count_loop_conf t.fItems (by omega) (fun k hk => ih k hk (by have := wt_mem hk; omega)) t.fItems.length 0 1 (by omega) (by omega) (by rw [List.drop_zero]; omega)
  rw [List.drop_zero] at r2 r3
  rw [nT_eq]
  exact ⟨r, Ev.step (fun k => by simp only [conf_count.f]; rfl) r1, by omega, by omega⟩

theorem both_loop (l : List T_api_Value) (hl : wts l ≤ 1048576) (ih : ∀ k ∈ l, Ev (fun f => mastref2_ValuesOf.f f k) (nT k : Int)) : ∀ (d j a : Nat), l.length - j ≤ d → j ≤ l.length → a + nTs (l.drop j) ≤ 1048577 →
    Ev (fun f => mastref2_ValuesOf.l0 f (a : Int) l (llen l) (j : Int)) ((a + nTs (l.drop j) : Nat) : Int) := by
  have hlen := len_le l
  have fin : ∀ j a : Nat, l.length ≤ j → Ev (fun f => mastref2_ValuesOf.l0 f (a : Int) l (llen l) (j : Int)) ((a + nTs (l.drop j) : Nat) : Int) := fun j a h => by
    rw [List.drop_eq_nil_of_le h]
    refine Ev.step (g := fun _ => some (a : Int)) (fun k => ?_) (Ev.now fun _ => by simp [nTs])
    simp only [mastref2_ValuesOf.l0, llen_eq, ilt_f (show (l.length : Int) ≤ (j : Int) by omega), cond_false]
  intro d
  induction d with
  | zero => intro j a hd hj hb; exact fin j a (by omega)
  | succ d ihd =>
    intro j a hd hj hb
    rcases Nat.lt_or_ge j l.length with hlt | hge
    · rw [List.drop_eq_getElem_cons hlt] at hb ⊢
      simp only [nTs] at hb ⊢
      have q1 := ihd (j + 1) (a + nT l[j]) (by omega) hlt (by omega)
      have w : wadd .i64 (a : Int) (nT l[j] : Int) = ((a + nT l[j] : Nat) : Int) := by rw [wadd64 (by omega) (by omega)]; omega
      rw [show a + (nT l[j] + nTs (l.drop (j + 1))) = a + nT l[j] + nTs (l.drop (j + 1)) by omega]
      refine Ev.step (g := fun k => (mastref2_ValuesOf.f k l[j]).bind fun y2 => mastref2_ValuesOf.l0 k (wadd .i64 (a : Int) y2) l (llen l) ((j + 1 : Nat) : Int)) (fun k => ?_) (Ev.bind (ih _ (List.getElem_mem hlt)) (by rw [w]; exact q1))
      simp only [mastref2_ValuesOf.l0, llen_eq, ilt_t (show (j : Int) < (l.length : Int) by omega), cond_true, lat_lt hlt, Option.bind_some, eta, u0 (show j ≤ 4611686018427387904 by omega)]
    · exact fin j a hge
theorem values_ok : ∀ t, wt t ≤ 1048576 → Ev (fun f => mastref2_ValuesOf.f f t) (nT t : Int) := tree fun t ih hn => by
  have h0 := nTs_wts t.fItems
  rw [wt_eq] at hn
  have := both_loop t.fItems (by omega) (fun k hk => ih k hk (by have := wt_mem hk; omega)) t.fItems.length 0 1 (by omega) (by omega) (by rw [List.drop_zero]; omega)
  rw [List.drop_zero, Nat.add_comm 1] at this
  rw [nT_eq]
  exact Ev.step (fun k => by simp only [mastref2_ValuesOf.f]; rfl) this
theorem levels_loop_conf (l : List T_api_Value) (hl : wts l ≤ 1048576) (ih : ∀ k ∈ l, Ev (fun f => conf_levels.f f k) (lv k : Int)) : ∀ (d j a : Nat), l.length - j ≤ d → j ≤ l.length → a ≤ 1048576 →
    Ev (fun f => conf_levels.l0 f (a : Int) l (llen l) (j : Int)) ((max a (lvs (l.drop j)) + 1 : Nat) : Int) := by
  have hlen := len_le l
  have hlv := fun k (hk : k ∈ l) => (show lv k ≤ 1048576 by have h1 := wt_mem hk; have h2 := lv_wt k; omega)
  have fin : ∀ j a : Nat, l.length ≤ j → a ≤ 1048576 → Ev (fun f => conf_levels.l0 f (a : Int) l (llen l) (j : Int)) ((max a (lvs (l.drop j)) + 1 : Nat) : Int) := fun j a h ha => by
    rw [List.drop_eq_nil_of_le h]
    refine Ev.step (g := fun _ => some ((max a (lvs []) + 1 : Nat) : Int)) (fun k => ?_) (Ev.now fun _ => rfl)
    simp only [conf_levels.l0, llen_eq, ilt_f (show (l.length : Int) ≤ (j : Int) by omega), cond_false, lvs, u0 (show a ≤ 4611686018427387904 by omega)]
    simp
  intro d
  induction d with
  | zero => intro j a hd hj ha; exact fin j a (by omega) ha
  | succ d ihd =>
    intro j a hd hj ha
    rcases Nat.lt_or_ge j l.length with hlt | hge
    · rw [List.drop_eq_getElem_cons hlt]
      have hk := hlv _ (List.getElem_mem hlt)
      have := ihd (j + 1) (max a (lv l[j])) (by omega) hlt (by omega)
      rw [show max (max a (lv l[j])) (lvs (l.drop (j + 1))) = max a (lvs (l[j] :: l.drop (j + 1))) by simp only [lvs]; omega] at this
      refine Ev.step (g := fun k => (conf_levels.f k l[j]).bind fun y2 => conf_levels.l0 k (imax (a : Int) y2) l (llen l) ((j + 1 : Nat) : Int)) (fun k => ?_) (Ev.bind (ih _ (List.getElem_mem hlt)) (by rw [imax_nat]; exact this))
      simp only [conf_levels.l0, llen_eq, ilt_t (show (j : Int) < (l.length : Int) by omega), cond_true, lat_lt hlt, Option.bind_some, eta, u0 (show j ≤ 4611686018427387904 by omega)]
    · exact fin j a hge ha
theorem levels_conf : ∀ t, wt t ≤ 1048576 → Ev (fun f => conf_levels.f f t) (lv t : Int) := tree fun t ih hn => by
  rw [wt_eq] at hn
  have := levels_loop_conf t.fItems (by omega) (fun k hk => ih k hk (by have := wt_mem hk; omega)) t.fItems.length 0 0 (by omega) (by omega) (by omega)
  rw [List.drop_zero, Nat.zero_max] at this
  rw [lv_eq]
  exact Ev.step (fun k => by simp only [conf_levels.f]; rfl) this

theorem levels_loop_ref (l : List T_api_Value) (hl : wts l ≤ 1048576) (ih : ∀ k ∈ l, Ev (fun f => mastref2_LevelsOf.f f k) (lv k : Int)) : ∀ (d j a : Nat), l.length - j ≤ d → j ≤ l.length → a ≤ 1048576 →
    Ev (fun f => mastref2_LevelsOf.l0 f (a : Int) l (llen l) (j : Int)) ((max a (lvs (l.drop j)) + 1 : Nat) : Int) := by
  have hlen := len_le l
  have hlv := fun k (hk : k ∈ l) => (show lv k ≤ 1048576 by have h1 := wt_mem hk; have h2 := lv_wt k; omega)
  have fin : ∀ j a : Nat, l.length ≤ j → a ≤ 1048576 → Ev (fun f => mastref2_LevelsOf.l0 f (a : Int) l (llen l) (j : Int)) ((max a (lvs (l.drop j)) + 1 : Nat) : Int) := fun j a h ha => by
    rw [List.drop_eq_nil_of_le h]
    refine Ev.step (g := fun _ => some ((max a (lvs []) + 1 : Nat) : Int)) (fun k => ?_) (Ev.now fun _ => rfl)
    simp only [mastref2_LevelsOf.l0, llen_eq, ilt_f (show (l.length : Int) ≤ (j : Int) by omega), cond_false, lvs, u0 (show a ≤ 4611686018427387904 by omega)]
    simp
  intro d
  induction d with
  | zero => intro j a hd hj ha; exact fin j a (by omega) ha
  | succ d ihd =>
    intro j a hd hj ha
    rcases Nat.lt_or_ge j l.length with hlt | hge
    · rw [List.drop_eq_getElem_cons hlt]
      have hk := hlv _ (List.getElem_mem hlt)
      have := ihd (j + 1) (max a (lv l[j])) (by omega) hlt (by omega)
      rw [show max (max a (lv l[j])) (lvs (l.drop (j + 1))) = max a (lvs (l[j] :: l.drop (j + 1))) by simp only [lvs]; omega] at this
      refine Ev.step (g := fun k => (mastref2_LevelsOf.f k l[j]).bind fun y2 => mastref2_LevelsOf.l0 k (imax (a : Int) y2) l (llen l) ((j + 1 : Nat) : Int)) (fun k => ?_) (Ev.bind (ih _ (List.getElem_mem hlt)) (by rw [imax_nat]; exact this))
      simp only [mastref2_LevelsOf.l0, llen_eq, ilt_t (show (j : Int) < (l.length : Int) by omega), cond_true, lat_lt hlt, Option.bind_some, eta, u0 (show j ≤ 4611686018427387904 by omega)]
    · exact fin j a hge ha
theorem levels_ref : ∀ t, wt t ≤ 1048576 → Ev (fun f => mastref2_LevelsOf.f f t) (lv t : Int) := tree fun t ih hn => by
  rw [wt_eq] at hn
  have := levels_loop_ref t.fItems (by omega) (fun k hk => ih k hk (by have := wt_mem hk; omega)) t.fItems.length 0 0 (by omega) (by omega) (by omega)
  rw [List.drop_zero, Nat.zero_max] at this
  rw [lv_eq]
  exact Ev.step (fun k => by simp only [mastref2_LevelsOf.f]; rfl) this


/-! Bad bytes. -/
def badB (b : UInt8) : Bool := ilt (b.toNat : Int) 32 && (!ieq (b.toNat : Int) 9 && !ieq (b.toNat : Int) 10)
def bad (s : ByteArray) : Bool := s.data.toList.any badB
theorem bad_conf (s : ByteArray) (hs : s.size ≤ 2000000) : Ev (fun k => conf_badBytes.f k s) (bad s) := by
  have hl := size_l s
  have h := find_pure s.data.toList 0 (Nat.zero_le _) (fun k j => conf_badBytes.l0 k s (j : Int)) (fun _ => some false) badB (fun _ => true) false
    (fun k j h => by
      simp only [conf_badBytes.l0, slen_l, ilen _ _ h, cond_true, sat_l h, Option.bind_some, u0 (show j ≤ 4611686018427387904 by omega), badB]
      cases ilt (s.data.toList[j].toNat : Int) 32 <;> cases ieq (s.data.toList[j].toNat : Int) 9 <;> cases ieq (s.data.toList[j].toNat : Int) 10 <;> rfl)
    (fun k => by simp only [conf_badBytes.l0, slen_l, ilen', cond_false]) (Ev.now fun _ => rfl)
  rw [List.drop_zero, fl_const] at h
  refine Ev.congr (fun k => by simp only [conf_badBytes.f]; rfl) (show Ev _ (bad s) from ?_)
  unfold bad
  rw [show (s.data.toList.any badB) = (bif s.data.toList.any badB then true else false) by cases s.data.toList.any badB <;> rfl]
  exact h

theorem bad_ref (s : ByteArray) (hs : s.size ≤ 2000000) : Ev (fun k => mastref2_badByte.f k s) (bad s) := by
  have hl := size_l s
  have h := find_pure s.data.toList 0 (Nat.zero_le _) (fun k j => mastref2_badByte.l0 k s (j : Int)) (fun _ => some false) badB (fun _ => true) false
    (fun k j h => by
      simp only [mastref2_badByte.l0, slen_l, ilen _ _ h, cond_true, sat_l h, Option.bind_some, u0 (show j ≤ 4611686018427387904 by omega), badB]
      cases ilt (s.data.toList[j].toNat : Int) 32 <;> cases ieq (s.data.toList[j].toNat : Int) 9 <;> cases ieq (s.data.toList[j].toNat : Int) 10 <;> rfl)
    (fun k => by simp only [mastref2_badByte.l0, slen_l, ilen', cond_false]) (Ev.now fun _ => rfl)
  rw [List.drop_zero, fl_const] at h
  refine Ev.congr (fun k => by simp only [mastref2_badByte.f]; rfl) (show Ev _ (bad s) from ?_)
  unfold bad
  rw [show (s.data.toList.any badB) = (bif s.data.toList.any badB then true else false) by cases s.data.toList.any badB <;> rfl]
  exact h


/-! Keys. -/
def small (c : UInt8) : Bool := bif ile 97 (c.toNat : Int) then ile (c.toNat : Int) 122 else false
def ins (c : UInt8) : Bool := small c || (bif ile 48 (c.toNat : Int) then ile (c.toNat : Int) 57 else false) || ieq (c.toNat : Int) 45 || ieq (c.toNat : Int) 95
def keyL : List UInt8 → Bool
  | [] => false
  | c :: r => decide (r.length < 40) && small c && r.all ins
def key (s : ByteArray) : Bool := keyL s.data.toList
theorem seq_empty (s : ByteArray) : seq s c_empty = s.data.toList.isEmpty := by
  unfold seq
  rw [ByteArray.toList_eq, ByteArray.toList_eq]
  cases h : s.data.toList <;> rfl
theorem all_ins (r : List UInt8) : (bif r.any fun c => !ins c then false else true) = r.all ins := by
  rw [List.all_eq_not_any_not]
  cases r.any fun c => !ins c <;> rfl
theorem key_conf (s : ByteArray) : Ev (fun k => conf_isKey.f k s) (key s) := by
  cases h : s.data.toList with
  | nil => exact Ev.now fun k => by simp only [conf_isKey.f, seq_empty, h, key, keyL, List.isEmpty_nil, cond_true]
  | cons c r =>
    by_cases hl : r.length < 40
    · have hl' : s.data.toList.length ≤ 40 := by rw [h]; simp; omega
      cases hc : small c with
      | false =>
        refine Ev.now fun k => ?_
        simp only [conf_isKey.f, seq_empty, h, key, keyL, List.isEmpty_cons, cond_false, slen_l, ilt_f (show ((c :: r).length : Int) ≤ 40 by rw [← h]; omega), sat_0 h, Option.bind_some, conf_isSmall.f, hc, Bool.and_false, Bool.false_and]
        rw [show (bif ile 97 (c.toNat : Int) then ile (c.toNat : Int) 122 else false) = small c from rfl, hc]
        rfl
      | true =>
        have q := find_pure s.data.toList 1 (by rw [h]; simp) (fun k j => conf_isKey.l0 k s (j : Int)) (fun _ => some true) (fun c => !ins c) (fun _ => false) true
          (fun k j h => by
            simp only [conf_isKey.l0, slen_l, ilen _ _ h, cond_true, sat_l h, Option.bind_some, u0 (show j ≤ 4611686018427387904 by omega), conf_isSmall.f, conf_isDigit.f, ins, small]
            cases (bif ile 97 (s.data.toList[j].toNat : Int) then ile (s.data.toList[j].toNat : Int) 122 else false) <;> cases (bif ile 48 (s.data.toList[j].toNat : Int) then ile (s.data.toList[j].toNat : Int) 57 else false) <;> cases ieq (s.data.toList[j].toNat : Int) 45 <;> cases ieq (s.data.toList[j].toNat : Int) 95 <;> rfl)
          (fun k => by simp only [conf_isKey.l0, slen_l, ilen', cond_false]) (Ev.now fun _ => rfl)
        rw [fl_const, h, List.drop_succ_cons, List.drop_zero, all_ins] at q
        have e : key s = r.all ins := by unfold key; rw [h]; simp [keyL, hl, hc]
        rw [e]
        refine Ev.congr (fun k => ?_) q
        simp only [conf_isKey.f, seq_empty, h, List.isEmpty_cons, cond_false, slen_l, ilt_f (show ((c :: r).length : Int) ≤ 40 by rw [← h]; omega), sat_0 h, Option.bind_some, conf_isSmall.f]
        rw [show (bif ile 97 (c.toNat : Int) then ile (c.toNat : Int) 122 else false) = small c from rfl, hc]
        rfl
    · refine Ev.now fun k => ?_
      simp only [conf_isKey.f, seq_empty, h, key, keyL, List.isEmpty_cons, cond_false, slen_l, ilt_t (show (40 : Int) < ((c :: r).length : Int) by simp; omega), cond_true, decide_eq_false hl, Bool.false_and]

theorem mem_dw {α : Type} {p : α → Bool} : ∀ {l : List α} {x : α}, x ∈ l → p x = false → x ∈ l.dropWhile p
  | a :: l, x, h, hp => by
    rw [List.dropWhile_cons]
    split
    · rename_i ha
      rcases List.mem_cons.1 h with rfl | h
      · rw [hp] at ha; cases ha
      · exact mem_dw h hp
    · exact h
theorem dw_nil {α : Type} {p : α → Bool} : ∀ {l : List α}, (∀ x ∈ l, p x = true) → l.dropWhile p = []
  | [], _ => rfl
  | a :: l, h => by rw [List.dropWhile_cons, if_pos (h a (List.mem_cons_self ..))]; exact dw_nil fun x hx => h x (List.mem_cons_of_mem _ hx)
theorem trim_nil (l cs : List UInt8) : (Lib.trimS l cs).isEmpty = l.all (cs.contains ·) := by
  unfold Lib.trimS Lib.trimLeftS Lib.trimRightS
  cases h : l.all (cs.contains ·) with
  | true =>
    have h := List.all_eq_true.1 h
    rw [dw_nil (l := l.reverse) fun x hx => h x (List.mem_reverse.1 hx)]
    rfl
  | false =>
    obtain ⟨x, hx, hp⟩ : ∃ x ∈ l, cs.contains x = false := by
      rcases List.all_eq_false.1 h with ⟨x, hx, hp⟩
      exact ⟨x, hx, by simpa using hp⟩
    have h1 : x ∈ (l.reverse.dropWhile (cs.contains ·)).reverse := List.mem_reverse.2 (mem_dw (List.mem_reverse.2 hx) hp)
    have h2 := mem_dw h1 hp
    cases e : List.dropWhile (cs.contains ·) (l.reverse.dropWhile (cs.contains ·)).reverse with
    | nil => rw [e] at h2; cases h2
    | cons _ _ => rfl
theorem set_ins (c : UInt8) : c_abcdefghijklmnopqrst_0e2e2cf4.data.toList.contains c = ins c := by
  have h : ∀ n : Fin 256, c_abcdefghijklmnopqrst_0e2e2cf4.data.toList.contains (UInt8.ofNat n.val) = ins (UInt8.ofNat n.val) := by decide +kernel
  have := h ⟨c.toNat, c.toNat_lt⟩
  simpa using this
theorem keyR_ok (s : ByteArray) (hs : s.size ≤ 2000000) : mastref2_IsKey.f s = some (key s) := by
  unfold mastref2_IsKey.f key
  rw [seq_empty, slen_l]
  have hc : strings_Trim.f s c_abcdefghijklmnopqrst_0e2e2cf4 = some ⟨(Lib.trimS s.data.toList c_abcdefghijklmnopqrst_0e2e2cf4.data.toList).toArray⟩ := by
    unfold strings_Trim.f
    rw [if_pos ⟨by omega, by decide, by decide +kernel⟩]
  rw [hc]
  cases h : s.data.toList with
  | nil => simp [keyL]
  | cons c r =>
    simp only [List.isEmpty_cons, cond_false, sat_0 h, Option.bind_some, keyL]
    by_cases hl : r.length < 40
    · rw [ilt_f (show ((c :: r).length : Int) ≤ 40 by simp; omega), cond_false, decide_eq_true hl, Bool.true_and]
      unfold small
      rw [ilt_d, ilt_d, ile_d, ile_d]
      by_cases h1 : (c.toNat : Int) < 97
      · simp [h1, show ¬ (97 : Int) ≤ c.toNat by omega]
      · by_cases h2 : (122 : Int) < c.toNat
        · simp [h1, h2, show ¬ (c.toNat : Int) ≤ 122 by omega]
        · rw [decide_eq_false h1, decide_eq_false h2, decide_eq_true (show (97 : Int) ≤ c.toNat by omega), decide_eq_true (show (c.toNat : Int) ≤ 122 by omega)]
          simp only [cond_false, cond_true, Bool.true_and]
          rw [seq_empty]
          show some (Lib.trimS (c :: r) _).isEmpty = _
          rw [trim_nil, show (fun x => c_abcdefghijklmnopqrst_0e2e2cf4.data.toList.contains x) = ins from funext set_ins, List.all_cons]
          have : ins c = true := by
            unfold ins small
            rw [ile_t (show (97 : Int) ≤ c.toNat by omega), ile_t (show (c.toNat : Int) ≤ 122 by omega)]
            rfl
          rw [this]; rfl
    · rw [ilt_t (show (40 : Int) < ((c :: r).length : Int) by simp; omega), cond_true, decide_eq_false hl]
      rfl

/-- What is wrong with the keys. -/
def ks : Option ByteArray → List ByteArray → Int
  | _, [] => 0
  | p, x :: r => bif !key x then 12 else bif (match p with | none => false | some y => sle x y) then 5 else ks (some x) r
def prev (l : List ByteArray) : Nat → Option ByteArray
  | 0 => none
  | j + 1 => l[j]?
theorem prev_succ {l : List ByteArray} {j : Nat} (h : j < l.length) : prev l (j + 1) = some l[j] := List.getElem?_eq_getElem h
theorem keys_loop_conf (k0 : Int) (b0 : Bool) (i0 : Int) (t0 : ByteArray) (is0 : List T_api_Value) (l : List ByteArray) (hl : kz l ≤ 1048576) : ∀ (d j : Nat), l.length - j ≤ d → j ≤ l.length →
    Ev (fun k => conf_valueFault.l1 k k0 b0 i0 t0 is0 l l (llen l) (j : Int)) (ks (prev l j) (l.drop j)) := by
  have hlen := klen_le l
  intro d
  have fin : ∀ j : Nat, l.length ≤ j → Ev (fun k => conf_valueFault.l1 k k0 b0 i0 t0 is0 l l (llen l) (j : Int)) (ks (prev l j) (l.drop j)) := fun j h => by
    rw [List.drop_eq_nil_of_le h]
    refine Ev.step (fun k => ?_) (show Ev (fun _ => some 0) (ks (prev l j) []) from Ev.now fun _ => rfl)
    simp only [conf_valueFault.l1, llen_eq, ilt_f (show (l.length : Int) ≤ (j : Int) by omega), cond_false]
  induction d with
  | zero => intro j hd hj; exact fin j (by omega)
  | succ d ihd =>
    intro j hd hj
    rcases Nat.lt_or_ge j l.length with hlt | hge
    · rw [List.drop_eq_getElem_cons hlt]
      have hr := ihd (j + 1) (by omega) hlt
      rw [prev_succ hlt] at hr
      have hkz := kz_mem (List.getElem_mem hlt)
      cases hk : key l[j] with
      | false =>
        refine Ev.step (fun k => by simp only [conf_valueFault.l1, llen_eq, ilt_t (show (j : Int) < (l.length : Int) by omega), cond_true, lat_lt hlt, Option.bind_some]; rfl) (Ev.bind (key_conf l[j]) ?_)
        rw [hk]
        exact Ev.now fun _ => by simp [ks, hk]
      | true =>
        cases j with
        | zero =>
          have e : ks (prev l 0) (l[0] :: l.drop 1) = ks (some l[0]) (l.drop 1) := by simp [ks, hk, prev]
          rw [e]
          refine Ev.step (fun k => by simp only [conf_valueFault.l1, llen_eq, ilt_t (show ((0 : Nat) : Int) < (l.length : Int) by omega), cond_true, lat_lt hlt, Option.bind_some]; rfl) (Ev.bind (key_conf l[0]) ?_)
          rw [hk]
          simp only [Bool.not_true, cond_false, ilt_f (show ((0 : Nat) : Int) ≤ 0 by omega), u0 (show 0 ≤ 4611686018427387904 by omega)]
          exact hr
        | succ i =>
          have hi : i < l.length := by omega
          have w : wsub .i64 ((i + 1 : Nat) : Int) 1 = (i : Int) := by rw [wsub64 (by omega) (by omega)]; omega
          rw [prev_succ hi]
          cases hle : sle l[i + 1] l[i] with
          | true =>
            have e : ks (some l[i]) (l[i + 1] :: l.drop (i + 1 + 1)) = 5 := by simp [ks, hk, hle]
            rw [e]
            refine Ev.step (fun k => by simp only [conf_valueFault.l1, llen_eq, ilt_t (show ((i + 1 : Nat) : Int) < (l.length : Int) by omega), cond_true, lat_lt hlt, Option.bind_some]; rfl) (Ev.bind (key_conf l[i + 1]) ?_)
            rw [hk]
            simp only [Bool.not_true, cond_false, ilt_t (show (0 : Int) < ((i + 1 : Nat) : Int) by omega), cond_true, w, lat_lt hi, Option.bind_some, hle, u0 (show i + 1 ≤ 4611686018427387904 by omega)]
            exact Ev.now fun _ => rfl
          | false =>
            have e : ks (some l[i]) (l[i + 1] :: l.drop (i + 1 + 1)) = ks (some l[i + 1]) (l.drop (i + 1 + 1)) := by simp [ks, hk, hle]
            rw [e]
            refine Ev.step (fun k => by simp only [conf_valueFault.l1, llen_eq, ilt_t (show ((i + 1 : Nat) : Int) < (l.length : Int) by omega), cond_true, lat_lt hlt, Option.bind_some]; rfl) (Ev.bind (key_conf l[i + 1]) ?_)
            rw [hk]
            simp only [Bool.not_true, cond_false, ilt_t (show (0 : Int) < ((i + 1 : Nat) : Int) by omega), cond_true, w, lat_lt hi, Option.bind_some, hle, u0 (show i + 1 ≤ 4611686018427387904 by omega)]
            exact hr
    · exact fin j hge
theorem keys_conf (k0 : Int) (b0 : Bool) (i0 : Int) (t0 : ByteArray) (is0 : List T_api_Value) (l : List ByteArray) (hl : kz l ≤ 1048576) : Ev (fun k => conf_valueFault.l1 k k0 b0 i0 t0 is0 l l (llen l) 0) (ks none l) := by
  have := keys_loop_conf k0 b0 i0 t0 is0 l hl  l.length 0 (by omega) (by omega)
  rw [List.drop_zero] at this
  exact this

theorem keys_loop_ref (k0 : Int) (b0 : Bool) (i0 : Int) (t0 : ByteArray) (is0 : List T_api_Value) (l : List ByteArray) (hl : kz l ≤ 1048576) (e : Int) (he : Ev (fun k => mastref2_eachValue.l1 k is0 (llen is0) 0) e) : ∀ (d j : Nat), l.length - j ≤ d → j ≤ l.length →
    Ev (fun k => mastref2_eachValue.l0 k k0 b0 i0 t0 is0 l l (llen l) (j : Int)) (bif ieq (ks (prev l j) (l.drop j)) 0 then e else ks (prev l j) (l.drop j)) := by
  have hlen := klen_le l
  intro d
  have fin : ∀ j : Nat, l.length ≤ j → Ev (fun k => mastref2_eachValue.l0 k k0 b0 i0 t0 is0 l l (llen l) (j : Int)) (bif ieq (ks (prev l j) (l.drop j)) 0 then e else ks (prev l j) (l.drop j)) := fun j h => by
    rw [List.drop_eq_nil_of_le h]
    refine Ev.step (fun k => ?_) (show Ev (fun k => mastref2_eachValue.l1 k is0 (llen is0) 0) (bif ieq (ks (prev l j) []) 0 then e else ks (prev l j) []) from he)
    simp only [mastref2_eachValue.l0, llen_eq, ilt_f (show (l.length : Int) ≤ (j : Int) by omega), cond_false]
  induction d with
  | zero => intro j hd hj; exact fin j (by omega)
  | succ d ihd =>
    intro j hd hj
    rcases Nat.lt_or_ge j l.length with hlt | hge
    · rw [List.drop_eq_getElem_cons hlt]
      have hr := ihd (j + 1) (by omega) hlt
      rw [prev_succ hlt] at hr
      have hkz := kz_mem (List.getElem_mem hlt)
      cases hk : key l[j] with
      | false =>
        refine Ev.step (g := fun _ => some 12) (fun k => ?_) (Ev.now fun _ => by simp [ks, hk, ieq])
        simp only [mastref2_eachValue.l0, llen_eq, ilt_t (show (j : Int) < (l.length : Int) by omega), cond_true, lat_lt hlt, Option.bind_some, keyR_ok l[j] (by omega), hk, Bool.not_false]
      | true =>
        cases j with
        | zero =>
          have e : ks (prev l 0) (l[0] :: l.drop 1) = ks (some l[0]) (l.drop 1) := by simp [ks, hk, prev]
          rw [e]
          refine Ev.step (fun k => ?_) hr
          simp only [mastref2_eachValue.l0, llen_eq, ilt_t (show ((0 : Nat) : Int) < (l.length : Int) by omega), cond_true, lat_lt hlt, Option.bind_some, keyR_ok l[0] (by omega), hk, Bool.not_true, cond_false, ilt_f (show ((0 : Nat) : Int) ≤ 0 by omega), u0 (show 0 ≤ 4611686018427387904 by omega)]
        | succ i =>
          have hi : i < l.length := by omega
          have w : wsub .i64 ((i + 1 : Nat) : Int) 1 = (i : Int) := by rw [wsub64 (by omega) (by omega)]; omega
          rw [prev_succ hi]
          cases hle : sle l[i + 1] l[i] with
          | true =>
            have e : ks (some l[i]) (l[i + 1] :: l.drop (i + 1 + 1)) = 5 := by simp [ks, hk, hle]
            rw [e]
            refine Ev.step (g := fun _ => some 5) (fun k => ?_) (Ev.now fun _ => rfl)
            simp only [mastref2_eachValue.l0, llen_eq, ilt_t (show ((i + 1 : Nat) : Int) < (l.length : Int) by omega), cond_true, lat_lt hlt, Option.bind_some, keyR_ok l[i + 1] (by omega), hk, Bool.not_true, cond_false, ilt_t (show (0 : Int) < ((i + 1 : Nat) : Int) by omega), w, lat_lt hi, hle, u0 (show i + 1 ≤ 4611686018427387904 by omega)]
          | false =>
            have e : ks (some l[i]) (l[i + 1] :: l.drop (i + 1 + 1)) = ks (some l[i + 1]) (l.drop (i + 1 + 1)) := by simp [ks, hk, hle]
            rw [e]
            refine Ev.step (fun k => ?_) hr
            simp only [mastref2_eachValue.l0, llen_eq, ilt_t (show ((i + 1 : Nat) : Int) < (l.length : Int) by omega), cond_true, lat_lt hlt, Option.bind_some, keyR_ok l[i + 1] (by omega), hk, Bool.not_true, cond_false, ilt_t (show (0 : Int) < ((i + 1 : Nat) : Int) by omega), w, lat_lt hi, hle, u0 (show i + 1 ≤ 4611686018427387904 by omega)]
    · exact fin j hge
theorem keys_ref (k0 : Int) (b0 : Bool) (i0 : Int) (t0 : ByteArray) (is0 : List T_api_Value) (l : List ByteArray) (hl : kz l ≤ 1048576) (e : Int) (he : Ev (fun k => mastref2_eachValue.l1 k is0 (llen is0) 0) e) : Ev (fun k => mastref2_eachValue.l0 k k0 b0 i0 t0 is0 l l (llen l) 0) (bif ieq (ks none l) 0 then e else ks (none) (l)) := by
  have := keys_loop_ref k0 b0 i0 t0 is0 l hl e he l.length 0 (by omega) (by omega)
  rw [List.drop_zero] at this
  exact this


/-! One value. -/
def un (v : T_api_Value) : Bool := (v.fBool && !ieq v.fKind 1) || ((!ieq v.fInt 0 && !ieq v.fKind 2) && !ieq v.fKind 4) || (!seq v.fText c_empty && !ieq v.fKind 3) || ((ilt 0 (llen v.fItems) && !ieq v.fKind 5) && !ieq v.fKind 6) || (ilt 0 (llen v.fKeys) && !ieq v.fKind 6)
def un2 (v : T_api_Value) : Bool := ieq v.fKind 6 && !ieq (llen v.fKeys) (llen v.fItems)
def own (v : T_api_Value) : Int :=
  bif ilt v.fKind 0 || ilt 6 v.fKind then 10 else bif un v || un2 v then 1 else bif ieq v.fKind 4 && (ilt v.fInt 0 || ilt 84005 v.fInt) then 2 else bif ilt 5000 (slen v.fText) then 4 else bif bad v.fText then 9 else ks none v.fKeys
mutual
def vf : T_api_Value → Int
  | ⟨k, b, i, t, is, s⟩ => bif ieq (own ⟨k, b, i, t, is, s⟩) 0 then vfs is else own ⟨k, b, i, t, is, s⟩
def vfs : List T_api_Value → Int
  | [] => 0
  | t :: r => bif ieq (vf t) 0 then vfs r else vf t
end
theorem vf_eq (t : T_api_Value) : vf t = bif ieq (own t) 0 then vfs t.fItems else own t := by cases t; simp [vf]
theorem vfs_find : ∀ (l : List T_api_Value) (v : Int), (∃ t ∈ l, vf t ≠ 0 ∧ True) ∨ vfs l = 0 := fun l v => by
  induction l with
  | nil => exact .inr rfl
  | cons a l ih =>
    by_cases h : vf a = 0
    · rcases ih with ⟨t, h1, h2⟩ | h2
      · exact .inl ⟨t, List.mem_cons_of_mem _ h1, h2⟩
      · right; simp only [vfs, ieq_t h, cond_true]; exact h2
    · exact .inl ⟨a, List.mem_cons_self .., h, trivial⟩
theorem items_conf (l : List T_api_Value) (hl : wts l ≤ 1048576) (ih : ∀ k ∈ l, Ev (fun f => conf_valuesFault.f f k) (vf k)) : Ev (fun k => conf_valuesFault.l0 k l (llen l) 0) (vfs l) := by
  have hlen := len_le l
  have : ∀ (d j : Nat), l.length - j ≤ d → j ≤ l.length → Ev (fun k => conf_valuesFault.l0 k l (llen l) (j : Int)) (vfs (l.drop j)) := by
    intro d
    have fin : ∀ j : Nat, l.length ≤ j → Ev (fun k => conf_valuesFault.l0 k l (llen l) (j : Int)) (vfs (l.drop j)) := fun j h => by
      rw [List.drop_eq_nil_of_le h]
      refine Ev.step (g := fun _ => some 0) (fun k => ?_) (Ev.now fun _ => rfl)
      simp only [conf_valuesFault.l0, llen_eq, ilt_f (show (l.length : Int) ≤ (j : Int) by omega), cond_false]
    induction d with
    | zero => intro j hd hj; exact fin j (by omega)
    | succ d ihd =>
      intro j hd hj
      rcases Nat.lt_or_ge j l.length with hlt | hge
      · rw [List.drop_eq_getElem_cons hlt]
        refine Ev.step (fun k => by simp only [conf_valuesFault.l0, llen_eq, ilt_t (show (j : Int) < (l.length : Int) by omega), cond_true, lat_lt hlt, Option.bind_some, eta]; rfl) (Ev.bind (ih _ (List.getElem_mem hlt)) ?_)
        simp only [vfs, u0 (show j ≤ 4611686018427387904 by omega)]
        cases ieq (vf l[j]) 0 with
        | true => exact ihd (j + 1) (by omega) hlt
        | false => exact Ev.now fun _ => rfl
      · exact fin j hge
  have := this l.length 0 (by omega) (by omega)
  rw [List.drop_zero] at this
  exact this

theorem items_ref (l : List T_api_Value) (hl : wts l ≤ 1048576) (ih : ∀ k ∈ l, Ev (fun f => mastref2_eachValue.f f k) (vf k)) : Ev (fun k => mastref2_eachValue.l1 k l (llen l) 0) (vfs l) := by
  have hlen := len_le l
  have : ∀ (d j : Nat), l.length - j ≤ d → j ≤ l.length → Ev (fun k => mastref2_eachValue.l1 k l (llen l) (j : Int)) (vfs (l.drop j)) := by
    intro d
    have fin : ∀ j : Nat, l.length ≤ j → Ev (fun k => mastref2_eachValue.l1 k l (llen l) (j : Int)) (vfs (l.drop j)) := fun j h => by
      rw [List.drop_eq_nil_of_le h]
      refine Ev.step (g := fun _ => some 0) (fun k => ?_) (Ev.now fun _ => rfl)
      simp only [mastref2_eachValue.l1, llen_eq, ilt_f (show (l.length : Int) ≤ (j : Int) by omega), cond_false]
    induction d with
    | zero => intro j hd hj; exact fin j (by omega)
    | succ d ihd =>
      intro j hd hj
      rcases Nat.lt_or_ge j l.length with hlt | hge
      · rw [List.drop_eq_getElem_cons hlt]
        refine Ev.step (fun k => by simp only [mastref2_eachValue.l1, llen_eq, ilt_t (show (j : Int) < (l.length : Int) by omega), cond_true, lat_lt hlt, Option.bind_some, eta]; rfl) (Ev.bind (ih _ (List.getElem_mem hlt)) ?_)
        simp only [vfs, u0 (show j ≤ 4611686018427387904 by omega)]
        cases ieq (vf l[j]) 0 with
        | true => exact ihd (j + 1) (by omega) hlt
        | false => exact Ev.now fun _ => rfl
      · exact fin j hge
  have := this l.length 0 (by omega) (by omega)
  rw [List.drop_zero] at this
  exact this


theorem unused_ok (v : T_api_Value) : Ev (fun k => conf_unused.f k v) (un v || un2 v) := by
  have l0 : ∀ b : Bool, Ev (fun k => conf_unused.l0 k v.fKind v.fBool v.fInt v.fText v.fItems v.fKeys v.fKind b) (b || ((ilt 0 (llen v.fItems) && !ieq v.fKind 5) && !ieq v.fKind 6) || (ilt 0 (llen v.fKeys) && !ieq v.fKind 6) || un2 v) := fun b => by
    refine Ev.step (g := fun _ => some (b || ((ilt 0 (llen v.fItems) && !ieq v.fKind 5) && !ieq v.fKind 6) || (ilt 0 (llen v.fKeys) && !ieq v.fKind 6) || un2 v)) (fun k => ?_) (Ev.now fun _ => rfl)
    simp only [conf_unused.l0, un2]
    cases b <;> cases ilt 0 (llen v.fItems) <;> cases ieq v.fKind 5 <;> cases ieq v.fKind 6 <;> cases ilt 0 (llen v.fKeys) <;> cases ieq (llen v.fKeys) (llen v.fItems) <;> rfl
  have l1 := l0 (v.fBool && !ieq v.fKind 1 || ((!ieq v.fInt 0 && !ieq v.fKind 2) && !ieq v.fKind 4) || (!seq v.fText c_empty && !ieq v.fKind 3))
  refine Ev.congr (fun k => ?_) l1
  simp only [conf_unused.f]
  cases v.fBool <;> cases ieq v.fKind 1 <;> cases ieq v.fInt 0 <;> cases ieq v.fKind 2 <;> cases ieq v.fKind 4 <;> cases seq v.fText c_empty <;> cases ieq v.fKind 3 <;> rfl

theorem own_ok (v : T_api_Value) (hv : wt v ≤ 1048576) : Ev (fun k => conf_valueFault.f k v) (own v) := by
  rw [wt_eq] at hv
  have l0 : ∀ b : Bool, Ev (fun k => conf_valueFault.l0 k v.fKind v.fBool v.fInt v.fText v.fItems v.fKeys b) (bif b then 2 else bif ilt 5000 (slen v.fText) then 4 else bif bad v.fText then 9 else ks none v.fKeys) := fun b => by
    cases b with
    | true => exact Ev.step (g := fun _ => some 2) (fun k => by simp only [conf_valueFault.l0, cond_true]) (Ev.now fun _ => rfl)
    | false =>
      simp only [cond_false]
      cases h : ilt 5000 (slen v.fText) with
      | true => exact Ev.step (g := fun _ => some 4) (fun k => by simp only [conf_valueFault.l0, cond_false, h, cond_true]) (Ev.now fun _ => rfl)
      | false =>
        simp only [cond_false]
        refine Ev.step (fun k => by simp only [conf_valueFault.l0, cond_false, h]; rfl) (Ev.bind (bad_conf v.fText (by omega)) ?_)
        cases bad v.fText with
        | true => exact Ev.now fun _ => rfl
        | false =>
          simp only [cond_false]
          exact keys_conf v.fKind v.fBool v.fInt v.fText v.fItems v.fKeys (by omega)
  unfold own
  cases h : ilt v.fKind 0 || ilt 6 v.fKind with
  | true =>
    refine Ev.now fun k => ?_
    simp only [conf_valueFault.f]
    rw [show (bif ilt v.fKind 0 then true else ilt 6 v.fKind) = true by rw [← h]; cases ilt v.fKind 0 <;> rfl]
    rfl
  | false =>
    simp only [cond_false]
    refine Ev.congr (g := fun k => (conf_unused.f k v).bind fun y1 => bif y1 then some 1 else bif ieq v.fKind 4 then (conf_badDay.f v.fInt).bind fun y2 => conf_valueFault.l0 k v.fKind v.fBool v.fInt v.fText v.fItems v.fKeys y2 else conf_valueFault.l0 k v.fKind v.fBool v.fInt v.fText v.fItems v.fKeys false) (fun k => ?_) (Ev.bind (unused_ok v) ?_)
    · simp only [conf_valueFault.f, eta]
      rw [show (bif ilt v.fKind 0 then true else ilt 6 v.fKind) = false by rw [← h]; cases ilt v.fKind 0 <;> rfl]
      rfl
    · cases un v || un2 v with
      | true => exact Ev.now fun _ => rfl
      | false =>
        simp only [cond_false]
        cases h4 : ieq v.fKind 4 with
        | false => simpa using l0 false
        | true =>
          have := l0 (ilt v.fInt 0 || ilt 84005 v.fInt)
          simp only [cond_true, conf_badDay.f, Option.bind_some, Bool.true_and]
          rw [show (bif ilt v.fInt 0 then true else ilt 84005 v.fInt) = (ilt v.fInt 0 || ilt 84005 v.fInt) by cases ilt v.fInt 0 <;> rfl]
          exact this

theorem vf_ok : ∀ v, wt v ≤ 1048576 → Ev (fun k => conf_valuesFault.f k v) (vf v) := tree fun v ih hv => by
  have hv' := hv
  rw [wt_eq] at hv'
  rw [vf_eq]
  refine Ev.step (g := fun k => (conf_valueFault.f k v).bind fun y1 => bif !ieq y1 0 then some y1 else conf_valuesFault.l0 k v.fItems (llen v.fItems) 0) (fun k => by simp only [conf_valuesFault.f, eta]) (Ev.bind (own_ok v hv) ?_)
  cases h : ieq (own v) 0 with
  | false => exact Ev.now fun _ => rfl
  | true => exact items_conf v.fItems (by omega) fun k hk => ih k hk (by have := wt_mem hk; omega)

theorem vfR_ok : ∀ v, wt v ≤ 1048576 → Ev (fun k => mastref2_eachValue.f k v) (vf v) := tree fun v ih hv => by
  rw [wt_eq] at hv
  have li := items_ref v.fItems (by omega) fun k hk => ih k hk (by have := wt_mem hk; omega)
  have lk := keys_ref v.fKind v.fBool v.fInt v.fText v.fItems v.fKeys (by omega) (vfs v.fItems) li
  have lb := bad_ref v.fText (by omega)
  rw [vf_eq]
  cases hk : ilt v.fKind 0 || ilt 6 v.fKind with
  | true =>
    refine Ev.step (g := fun _ => some 10) (fun k => ?_) (Ev.now fun _ => by simp [own, hk, ieq])
    simp only [mastref2_eachValue.f]
    rw [show (bif ilt v.fKind 0 then true else ilt 6 v.fKind) = true by rw [← hk]; cases ilt v.fKind 0 <;> rfl]
    rfl
  | false =>
    have e1 : (bif ilt v.fKind 0 then true else ilt 6 v.fKind) = false := by rw [← hk]; cases ilt v.fKind 0 <;> rfl
    have e2 : (bif (bif (bif (bif (bif v.fBool then (!ieq v.fKind 1) else false) then true else (bif (bif (!ieq v.fInt 0) then (!ieq v.fKind 2) else false) then (!ieq v.fKind 4) else false)) then true else (bif (!seq v.fText c_empty) then (!ieq v.fKind 3) else false)) then true else (bif (bif (ilt 0 (llen v.fItems)) then (!ieq v.fKind 5) else false) then (!ieq v.fKind 6) else false)) then true else (bif (ilt 0 (llen v.fKeys)) then (!ieq v.fKind 6) else false)) = un v := by
      unfold un
      cases v.fBool <;> cases ieq v.fKind 1 <;> cases ieq v.fInt 0 <;> cases ieq v.fKind 2 <;> cases ieq v.fKind 4 <;> cases seq v.fText c_empty <;> cases ieq v.fKind 3 <;> cases ilt 0 (llen v.fItems) <;> cases ieq v.fKind 5 <;> cases ieq v.fKind 6 <;> cases ilt 0 (llen v.fKeys) <;> rfl
    have e3 : (bif ieq v.fKind 6 then (!ieq (llen v.fKeys) (llen v.fItems)) else false) = un2 v := by
      unfold un2
      cases ieq v.fKind 6 <;> rfl
    have e4 : (bif ieq v.fKind 4 then (bif ilt v.fInt 0 then true else ilt 84005 v.fInt) else false) = (ieq v.fKind 4 && (ilt v.fInt 0 || ilt 84005 v.fInt)) := by
      cases ieq v.fKind 4 <;> cases ilt v.fInt 0 <;> rfl
    have st : ∀ k, mastref2_eachValue.f (k + 1) v = bif un v then some 1 else bif un2 v then some 1 else bif (ieq v.fKind 4 && (ilt v.fInt 0 || ilt 84005 v.fInt)) then some 2 else bif ilt 5000 (slen v.fText) then some 4 else (mastref2_badByte.f k v.fText).bind fun y1 => bif y1 then some 9 else mastref2_eachValue.l0 k v.fKind v.fBool v.fInt v.fText v.fItems v.fKeys v.fKeys (llen v.fKeys) 0 := fun k => by
      simp only [mastref2_eachValue.f, e1, e2, e3, e4, cond_false]
    cases h1 : un v with
    | true => exact Ev.step (g := fun _ => some 1) (fun k => by rw [st, h1]; rfl) (Ev.now fun _ => by simp [own, hk, h1, ieq])
    | false =>
      cases h2 : un2 v with
      | true => exact Ev.step (g := fun _ => some 1) (fun k => by rw [st, h1, h2]; rfl) (Ev.now fun _ => by simp [own, hk, h1, h2, ieq])
      | false =>
        cases h3 : (ieq v.fKind 4 && (ilt v.fInt 0 || ilt 84005 v.fInt)) with
        | true => exact Ev.step (g := fun _ => some 2) (fun k => by rw [st, h1, h2, h3]; rfl) (Ev.now fun _ => by rw [show own v = 2 by unfold own; rw [hk, h1, h2, h3]; rfl]; rfl)
        | false =>
          cases h4 : ilt 5000 (slen v.fText) with
          | true => exact Ev.step (g := fun _ => some 4) (fun k => by rw [st, h1, h2, h3, h4]; rfl) (Ev.now fun _ => by rw [show own v = 4 by unfold own; rw [hk, h1, h2, h3, h4]; rfl]; rfl)
          | false =>
            have eo : own v = bif bad v.fText then 9 else ks none v.fKeys := by simp [own, hk, h1, h2, h3, h4]
            rw [eo]
            refine Ev.step (fun k => by rw [st, h1, h2, h3, h4]; rfl) (Ev.bind lb ?_)
            cases bad v.fText with
            | true => exact Ev.now fun _ => rfl
            | false => exact lk

/-- The check. -/
def chk (v : T_api_Value) : Int := bif decide (1000 < nT v) then 4 else bif decide (8 < lv v) then 13 else vf v
theorem chk_ok (v : T_api_Value) (hv : wt v ≤ 1048576) : Ev (fun k => conf_Check.f k v) (chk v) := by
  obtain ⟨r, r1, r2, r3⟩ := count_conf v hv
  refine Ev.congr (g := fun k => (conf_count.f k v).bind fun y1 => bif ilt 1000 y1 then some 4 else (conf_levels.f k v).bind fun y2 => bif ilt 8 y2 then some 13 else (conf_valuesFault.f k v).bind fun y3 => some y3) (fun k => by simp only [conf_Check.f, eta]) (Ev.bind r1 ?_)
  unfold chk
  by_cases c : 1000 < nT v
  · rw [ilt_t (show (1000 : Int) < (r : Int) by omega), decide_eq_true c]; exact Ev.now fun _ => rfl
  · rw [ilt_f (show (r : Int) ≤ 1000 by omega), decide_eq_false c]
    refine Ev.bind (levels_conf v hv) ?_
    by_cases c2 : 8 < lv v
    · rw [ilt_t (show (8 : Int) < (lv v : Int) by omega), decide_eq_true c2]; exact Ev.now fun _ => rfl
    · rw [ilt_f (show (lv v : Int) ≤ 8 by omega), decide_eq_false c2]
      exact Ev.bind (vf_ok v hv) (Ev.now fun _ => rfl)
theorem chkR_ok (v : T_api_Value) (hv : wt v ≤ 1048576) : Ev (fun k => mastref2_ConfCheck.f k v) (chk v) := by
  refine Ev.congr (g := fun k => (mastref2_ValuesOf.f k v).bind fun y1 => bif ilt 1000 y1 then some 4 else (mastref2_LevelsOf.f k v).bind fun y2 => bif ilt 8 y2 then some 13 else (mastref2_eachValue.f k v).bind fun y3 => some y3) (fun k => by simp only [mastref2_ConfCheck.f, eta]) (Ev.bind (values_ok v hv) ?_)
  unfold chk
  by_cases c : 1000 < nT v
  · rw [ilt_t (show (1000 : Int) < (nT v : Int) by omega), decide_eq_true c]; exact Ev.now fun _ => rfl
  · rw [ilt_f (show (nT v : Int) ≤ 1000 by omega), decide_eq_false c]
    refine Ev.bind (levels_ref v hv) ?_
    by_cases c2 : 8 < lv v
    · rw [ilt_t (show (8 : Int) < (lv v : Int) by omega), decide_eq_true c2]; exact Ev.now fun _ => rfl
    · rw [ilt_f (show (lv v : Int) ≤ 8 by omega), decide_eq_false c2]
      exact Ev.bind (vfR_ok v hv) (Ev.now fun _ => rfl)
/-! Pieces between dots. -/
def pcs (c : UInt8) : List UInt8 → List (List UInt8)
  | [] => [[]]
  | b :: l => if b = c then [] :: pcs c l else match pcs c l with
    | [] => [[b]]
    | p :: r => (b :: p) :: r
theorem splitK_pcs (c : UInt8) : ∀ l : List UInt8, Lib.splitK [c] 0 (l.count c) l = pcs c l
  | [] => rfl
  | b :: l => by
    have ih := splitK_pcs c l
    by_cases h : b = c
    · subst h
      rw [List.count_cons_self]
      have hx : Lib.index (b :: l) [b] = 0 := by
        unfold Lib.index
        rw [if_pos (by simp [List.isPrefixOf])]
      unfold Lib.splitK
      rw [hx]
      simp only [pcs, if_true]
      rw [if_neg (by decide)]
      simp [ih]
    · rw [List.count_cons_of_ne (fun e => h e)]
      have hx : Lib.index (b :: l) [c] = if Lib.index l [c] == -1 then -1 else Lib.index l [c] + 1 := by
        conv => lhs; unfold Lib.index
        rw [if_neg (by simp [List.isPrefixOf]; exact fun e => h e.symm)]
      simp only [pcs, if_neg h]
      cases hn : l.count c with
      | zero =>
        rw [hn] at ih
        rw [← ih]; rfl
      | succ n =>
        rw [hn] at ih
        rw [← ih]
        unfold Lib.splitK
        rw [hx]
        by_cases hm : Lib.index l [c] = -1
        · simp [hm]
        · have hg := Lib.index_ge l [c]
          have e1 : (Lib.index l [c] == -1) = false := beq_eq_false_iff_ne.2 hm
          simp only [e1, Bool.false_eq_true, if_false]
          have e2 : (Lib.index l [c] + 1 == -1) = false := beq_eq_false_iff_ne.2 (by omega)
          simp only [e2, Bool.false_eq_true, if_false]
          have e3 : (Lib.index l [c] + 1).toNat = (Lib.index l [c]).toNat + 1 := by omega
          rw [e3]
          simp [List.take_succ_cons, List.drop_succ_cons]
theorem parts_pcs (s : ByteArray) : (Lib.splitB c__2e 0 (Lib.countB s c__2e) s).map (·.data.toList) = pcs 46 s.data.toList := by
  rw [Lib.splitB_data]
  show Lib.splitK [46] 0 (Lib.count s.data.toList [46]) s.data.toList = _
  rw [Lib.count_one]
  exact splitK_pcs 46 _
theorem pcs_none (c : UInt8) : ∀ p : List UInt8, c ∉ p → pcs c p = [p]
  | [], _ => rfl
  | b :: l, h => by
    have h1 : b ≠ c := fun e => h (by rw [e]; exact List.mem_cons_self ..)
    have h2 := pcs_none c l fun e => h (List.mem_cons_of_mem _ e)
    simp only [pcs, if_neg h1, h2]
theorem pcs_cut (c : UInt8) : ∀ (p r : List UInt8), c ∉ p → pcs c (p ++ c :: r) = p :: pcs c r
  | [], r, _ => by simp [pcs]
  | b :: l, r, h => by
    have h1 : b ≠ c := fun e => h (by rw [e]; exact List.mem_cons_self ..)
    have h2 := pcs_cut c l r fun e => h (List.mem_cons_of_mem _ e)
    simp only [List.cons_append, pcs, if_neg h1, h2]
theorem ex_data (s : ByteArray) (a b : Nat) (h : a ≤ b) : (s.extract a b).data.toList = (s.data.toList.drop a).take (b - a) := by
  rw [ByteArray.data_extract, Array.toList_extract]
def digB (c : UInt8) : Bool := bif ile 48 (c.toNat : Int) then ile (c.toNat : Int) 57 else false
/-- Is a piece a number. -/
def dg : List UInt8 → Bool
  | [] => false
  | c :: r => ((c :: r).all digB && decide (r.length ≤ 3)) && (!ieq (c.toNat : Int) 48 || (c :: r == [48]))
theorem seq_zero (p : ByteArray) : seq p c_0 = (p.data.toList == [48]) := by
  unfold seq
  rw [ByteArray.toList_eq, ByteArray.toList_eq]
  rfl
theorem set_dig (c : UInt8) : c_0123456789.data.toList.contains c = digB c := by
  have h : ∀ n : Fin 256, c_0123456789.data.toList.contains (UInt8.ofNat n.val) = digB (UInt8.ofNat n.val) := by decide +kernel
  have := h ⟨c.toNat, c.toNat_lt⟩
  simpa using this
theorem digits_ok (s : ByteArray) (hs : s.size ≤ 2000000) : mastref2_digitsAlone.f s = some (!s.data.toList.isEmpty && s.data.toList.all digB) := by
  have hc : strings_Trim.f s c_0123456789 = some ⟨(Lib.trimS s.data.toList c_0123456789.data.toList).toArray⟩ := by
    unfold strings_Trim.f
    rw [if_pos ⟨by omega, by decide, by decide +kernel⟩]
  unfold mastref2_digitsAlone.f
  rw [seq_empty, hc]
  cases h : s.data.toList.isEmpty with
  | true => rfl
  | false =>
    simp only [Bool.not_false, cond_true, Option.bind_some, Bool.true_and]
    rw [seq_empty]
    show some (Lib.trimS s.data.toList _).isEmpty = _
    rw [trim_nil, show (fun x => c_0123456789.data.toList.contains x) = digB from funext set_dig]
theorem split_sz (sep : ByteArray) : ∀ (k : Nat) (s x : ByteArray), x ∈ Lib.splitB sep 0 k s → x.size ≤ s.size
  | 0, s, x, h => by
    have : x = s := by simpa [Lib.splitB] using h
    rw [this]; exact Nat.le_refl _
  | k + 1, s, x, h => by
    unfold Lib.splitB at h
    split at h
    · have : x = s := by simpa using h
      rw [this]; exact Nat.le_refl _
    · rcases List.mem_cons.1 h with rfl | h
      · rw [ByteArray.size_extract]; omega
      · have := split_sz sep k _ x h
        rw [ByteArray.size_extract] at this; omega
/-! The parts of a route, as the program takes them. -/
theorem dec_all : ∀ (l : List UInt8) (n : Nat), l.all digB = true → ∃ m, Lib.decFrom n l = some m
  | [], n, _ => ⟨n, rfl⟩
  | b :: r, n, h => by
    rw [List.all_cons, Bool.and_eq_true] at h
    have hb : 48 ≤ b.toNat ∧ b.toNat ≤ 57 := by
      have := h.1
      unfold digB at this
      by_cases c : (48 : Int) ≤ b.toNat
      · rw [ile_t c, cond_true] at this
        have := of_decide_eq_true this
        omega
      · rw [ile_f (by omega)] at this; exact nomatch this
    unfold Lib.decFrom Lib.digitVal
    rw [if_pos hb]
    exact dec_all r _ h.2
theorem dig_not {c : UInt8} (h : digB c = true) : c ≠ 45 ∧ c ≠ 43 ∧ c ≠ 42 := by
  refine ⟨?_, ?_, ?_⟩ <;> rintro rfl <;> exact absurd h (by decide)
theorem atoi_dg {p : ByteArray} (h : dg p.data.toList = true) : ∃ n, strconv_Atoi.f p = some n := by
  cases hb : p.data.toList with
  | nil => rw [hb] at h; exact nomatch h
  | cons c r =>
    rw [hb] at h
    simp only [dg, Bool.and_eq_true] at h
    obtain ⟨⟨h1, h2⟩, _⟩ := h
    have h2 : r.length ≤ 3 := of_decide_eq_true h2
    have hc := dig_not (List.all_eq_true.1 h1 c (List.mem_cons_self ..))
    obtain ⟨m, hm⟩ := dec_all (c :: r) 0 h1
    refine ⟨(m : Int), ?_⟩
    unfold strconv_Atoi.f atoiF
    rw [size_l, hb, if_pos (by simp; omega)]
    unfold Lib.atoi
    have e1 : (c == 45) = false := beq_eq_false_iff_ne.2 hc.1
    have e2 : (c == 43) = false := beq_eq_false_iff_ne.2 hc.2.1
    simp only [e1, e2, Bool.false_eq_true, if_false, Lib.decNat, List.isEmpty_cons, hm]
    rfl
theorem slen_dash : slen c__2d = 1 := rfl
theorem trimDash (p : ByteArray) : strings_TrimPrefix.f p c__2d = some (match p.data.toList with | [] => p | c :: r => if c = 45 then p.extract 1 p.size else p) := by
  unfold strings_TrimPrefix.f internal_stringslite_TrimPrefix.f internal_stringslite_HasPrefix.f
  rw [slen_dash]
  have hl := size_l p
  cases hb : p.data.toList with
  | nil =>
    rw [hb] at hl
    rw [ile_f (show slen p < 1 by show (p.size : Int) < 1; rw [hl]; decide)]
    rfl
  | cons c r =>
    rw [hb] at hl
    have hl1 : 1 ≤ p.size := by rw [hl]; simp
    rw [ile_t (show (1 : Int) ≤ slen p by show (1 : Int) ≤ p.size; omega)]
    have hx : ssub p 0 1 = some (p.extract 0 1) := by
      unfold ssub
      rw [if_pos ⟨by omega, by omega, by omega⟩]; rfl
    have hy : ssub p 1 (slen p) = some (p.extract 1 p.size) := by
      unfold ssub
      rw [show slen p = (p.size : Int) from rfl, if_pos ⟨by omega, by omega, by omega⟩]; rfl
    have hs : seq (p.extract 0 1) c__2d = decide (c = 45) := by
      unfold seq
      rw [ByteArray.toList_eq, ByteArray.toList_eq, ex_data p 0 1 (by omega), hb]
      show ([c] == [45]) = _
      by_cases h : c = 45
      · subst h; rfl
      · rw [decide_eq_false h]; simp [h]
    simp only [cond_true, hx, Option.bind_some, hs]
    by_cases h : c = 45
    · rw [decide_eq_true h, if_pos h]
      simp only [cond_true, hy, Option.bind_some]
    · rw [decide_eq_false h, if_neg h]
      rfl
/-- A piece that does not begin with a dash: is it of digits. -/
theorem integer_ok (p : ByteArray) (hs : p.size ≤ 2000000) (c : UInt8) (r : List UInt8) (hb : p.data.toList = c :: r) (hc : c ≠ 45) : Ev (fun k => conf_isInteger.f k p) ((c :: r).all digB) := by
  have hl := size_l p
  have ht : strings_TrimPrefix.f p c__2d = some p := by rw [trimDash, hb]; simp [hc]
  have he : seq p c_empty = false := by rw [seq_empty, hb]; rfl
  have q := find_pure p.data.toList 0 (Nat.zero_le _) (fun k j => conf_isInteger.l0 k p (j : Int)) (fun _ => some true) (fun c => !digB c) (fun _ => false) true
    (fun k j h => by
      simp only [conf_isInteger.l0, slen_l, Go.Proofs.YtibnepagledbjaaDoor.Lift.ilen _ _ h, cond_true, sat_l h, Option.bind_some, conf_isDigit.f, u0 (show j ≤ 4611686018427387904 by omega)]
      rfl)
    (fun k => by simp only [conf_isInteger.l0, slen_l, Go.Proofs.YtibnepagledbjaaDoor.Lift.ilen', cond_false]) (Ev.now fun _ => rfl)
  have e : (bif p.data.toList.any (fun c => !digB c) then false else true) = (c :: r).all digB := by
    rw [hb, List.all_eq_not_any_not]
    cases (c :: r).any fun c => !digB c <;> rfl
  rw [fl_const, List.drop_zero, e] at q
  exact Ev.congr (fun k => by simp only [conf_isInteger.f, ht, Option.bind_some, he, cond_false]; rfl) q
/-- Some answer for a piece that begins with a dash. -/
theorem integer_any (p : ByteArray) (hs : p.size ≤ 2000000) : ∃ b, Ev (fun k => conf_isInteger.f k p) b := by
  cases ht : strings_TrimPrefix.f p c__2d with
  | none => rw [trimDash] at ht; cases ht
  | some y =>
    have hy : y.size ≤ 2000000 := by
      rw [trimDash] at ht
      have := Option.some.inj ht
      cases hb : p.data.toList with
      | nil => rw [hb] at this; rw [← this]; exact hs
      | cons c r =>
        rw [hb] at this
        simp only at this
        split at this
        · rw [← this, ByteArray.size_extract]; omega
        · rw [← this]; exact hs
    have hl := size_l y
    cases he : seq y c_empty with
    | true => exact ⟨false, Ev.now fun k => by simp only [conf_isInteger.f, ht, Option.bind_some, he, cond_true]⟩
    | false =>
      have q := find_pure y.data.toList 0 (Nat.zero_le _) (fun k j => conf_isInteger.l0 k y (j : Int)) (fun _ => some true) (fun c => !digB c) (fun _ => false) true
        (fun k j h => by
          simp only [conf_isInteger.l0, slen_l, Go.Proofs.YtibnepagledbjaaDoor.Lift.ilen _ _ h, cond_true, sat_l h, Option.bind_some, conf_isDigit.f, u0 (show j ≤ 4611686018427387904 by omega)]
          rfl)
        (fun k => by simp only [conf_isInteger.l0, slen_l, Go.Proofs.YtibnepagledbjaaDoor.Lift.ilen', cond_false]) (Ev.now fun _ => rfl)
      exact ⟨_, Ev.congr (fun k => by simp only [conf_isInteger.f, ht, Option.bind_some, he, cond_false]; rfl) q⟩

/-- Is it a piece of a route. -/
def pkS (st : Bool) (p : List UInt8) : Bool := dg p || keyL p || (st && p == [42])
theorem seq_star (p : ByteArray) : seq p c__2a = (p.data.toList == [42]) := by
  unfold seq
  rw [ByteArray.toList_eq, ByteArray.toList_eq]
  rfl
/-- The step of a piece. -/
def stp (p : ByteArray) : T_conf_step := bif key p then ⟨p, 0, false⟩ else bif seq p c__2a then ⟨c_empty, 0, true⟩ else ⟨c_empty, (strconv_Atoi.f p).getD 0, false⟩
theorem step_loop (st : Bool) (P : List ByteArray) (hP : P.length ≤ 3000000) (hz : ∀ x ∈ P, x.size ≤ 2000000) : ∀ (d j : Nat), P.length - j ≤ d → j ≤ P.length →
    Ev (fun k => conf_steps.l0 k st ((P.take j).map stp) P (llen P) (j : Int)) (bif (P.drop j).all (fun p => pkS st p.data.toList) then (P.map stp, true) else ([], false)) := by
  intro d
  have last : ∀ j, P.length ≤ j → Ev (fun k => conf_steps.l0 k st ((P.take j).map stp) P (llen P) (j : Int)) (bif (P.drop j).all (fun p => pkS st p.data.toList) then (P.map stp, true) else ([], false)) := fun j hj => by
    rw [List.drop_eq_nil_of_le hj, List.take_of_length_le hj]
    refine Ev.step (g := fun _ => some (P.map stp, true)) (fun k => ?_) (Ev.now fun _ => rfl)
    simp only [conf_steps.l0, llen_eq, ilt_f (show (P.length : Int) ≤ (j : Int) by omega), cond_false]
  induction d with
  | zero => intro j hd hj; exact last j (by omega)
  | succ d ih =>
    intro j hd hj
    rcases Nat.lt_or_ge j P.length with hlt | hge
    · have hr := ih (j + 1) (by omega) hlt
      rw [List.drop_eq_getElem_cons hlt, List.all_cons]
      have hzj := hz _ (List.getElem_mem hlt)
      have hw : wadd .i64 (j : Int) 1 = ((j + 1 : Nat) : Int) := u0 (by omega)
      have push : lapp 32 ((P.take j).map stp) [stp P[j]] = some ((P.take (j + 1)).map stp) := by
        rw [take_map hlt]
        exact lapp_ok (by simp only [List.length_map, List.length_take, List.length_singleton]; omega) (by simp only [List.length_map, List.length_take, List.length_singleton]; omega)
      have hk := key_conf P[j]
      refine Ev.step (fun k => by simp only [conf_steps.l0, llen_eq, Go.Proofs.YtibnepagledbjaaDoor.Lift.ilen _ _ hlt, cond_true, lat_lt hlt, Option.bind_some, hw]; rfl) (Ev.bind hk ?_)
      cases hkey : key P[j] with
      | true =>
        have e1 : pkS st P[j].data.toList = true := by unfold pkS; rw [show keyL P[j].data.toList = key P[j] from rfl, hkey, Bool.or_true, Bool.true_or]
        have e2 : stp P[j] = ⟨P[j], 0, false⟩ := by unfold stp; rw [hkey]; rfl
        rw [e1, Bool.true_and]
        rw [e2] at push
        simp only [cond_true, push, Option.bind_some]
        exact hr
      | false =>
        simp only [cond_false]
        cases hstar : (st && seq P[j] c__2a) with
        | true =>
          obtain ⟨g1, g2⟩ := Bool.and_eq_true_iff.1 hstar
          have e1 : pkS st P[j].data.toList = true := by unfold pkS; rw [← seq_star, hstar, Bool.or_true]
          have e2 : stp P[j] = ⟨c_empty, 0, true⟩ := by unfold stp; rw [hkey, g2]; rfl
          rw [e1, Bool.true_and]
          rw [e2] at push
          simp only [g1, g2, cond_true, push, Option.bind_some]
          rw [g1] at hr
          exact hr
        | false =>
          have e0 : (bif st then seq P[j] c__2a else false) = false := by rw [← hstar]; cases st <;> rfl
          have e1 : pkS st P[j].data.toList = dg P[j].data.toList := by unfold pkS; rw [← seq_star, hstar, show keyL P[j].data.toList = key P[j] from rfl, hkey, Bool.or_false, Bool.or_false]
          rw [e1]
          simp only [e0, cond_false]
          cases hb : P[j].data.toList with
          | nil =>
            have : seq P[j] c_empty = true := by rw [seq_empty, hb]; rfl
            simp only [this, cond_true, dg, Bool.false_and, cond_false]
            exact Ev.now fun _ => rfl
          | cons c r =>
            have hne : seq P[j] c_empty = false := by rw [seq_empty, hb]; rfl
            have hsl : slen P[j] = ((c :: r).length : Int) := by rw [slen_l, hb]
            simp only [hne, cond_false]
            by_cases hlen : 3 < r.length
            · rw [ilt_t (show (4 : Int) < slen P[j] by rw [hsl, List.length_cons]; omega)]
              have : dg (c :: r) = false := by simp only [dg, decide_eq_false (show ¬ r.length ≤ 3 by omega), Bool.and_false, Bool.false_and]
              rw [this]
              exact Ev.now fun _ => rfl
            · rw [ilt_f (show slen P[j] ≤ (4 : Int) by rw [hsl, List.length_cons]; omega)]
              simp only [cond_false]
              by_cases h45 : c = 45
              · obtain ⟨b, hbb⟩ := integer_any P[j] hzj
                have : dg (c :: r) = false := by
                  simp only [dg, List.all_cons, h45, show digB 45 = false from by decide, Bool.false_and]
                rw [this]
                refine Ev.bind hbb ?_
                cases b with
                | false => exact Ev.now fun _ => rfl
                | true =>
                  have hi : ieq (c.toNat : Int) 45 = true := by rw [h45]; rfl
                  simp only [Bool.not_true, cond_false, sat_0 hb, Option.bind_some, hi, cond_true]
                  exact Ev.now fun _ => rfl
              · refine Ev.bind (integer_ok P[j] hzj c r hb h45) ?_
                cases had : (c :: r).all digB with
                | false =>
                  have : dg (c :: r) = false := by simp only [dg, had, Bool.false_and]
                  rw [this]
                  exact Ev.now fun _ => rfl
                | true =>
                  have hi : ieq (c.toNat : Int) 45 = false := ieq_f fun e => h45 (UInt8.toNat_inj.1 (by rw [show (45 : UInt8).toNat = 45 from rfl]; omega))
                  simp only [Bool.not_true, cond_false, sat_0 hb, Option.bind_some, hi]
                  have hdg : dg (c :: r) = (!ieq (c.toNat : Int) 48 || (c :: r == [48])) := by simp only [dg, had, decide_eq_true (show r.length ≤ 3 by omega), Bool.true_and]
                  have hz0 : seq P[j] c_0 = (c :: r == [48]) := by rw [seq_zero, hb]
                  rw [hdg, hz0]
                  cases q : (!ieq (c.toNat : Int) 48 || (c :: r == [48])) with
                  | false =>
                    have : (bif ieq (c.toNat : Int) 48 then !(c :: r == [48]) else false) = true := by
                      revert q
                      cases ieq (c.toNat : Int) 48 <;> cases (c :: r == [48]) <;> simp
                    simp only [this, cond_true]
                    exact Ev.now fun _ => rfl
                  | true =>
                    have : (bif ieq (c.toNat : Int) 48 then !(c :: r == [48]) else false) = false := by
                      revert q
                      cases ieq (c.toNat : Int) 48 <;> cases (c :: r == [48]) <;> simp
                    obtain ⟨n, hn⟩ := atoi_dg (p := P[j]) (by rw [hb, hdg, q])
                    have hst : seq P[j] c__2a = false := by
                      rw [seq_star, hb]
                      have := (dig_not (List.all_eq_true.1 had c (List.mem_cons_self ..))).2.2
                      simp [this]
                    have e2 : stp P[j] = ⟨c_empty, n, false⟩ := by unfold stp; rw [hkey, hst, hn]; rfl
                    rw [e2] at push
                    simp only [this, cond_false, hn, Option.bind_some, push]
                    exact hr
    · exact last j hge
def rpS (st : Bool) (s : ByteArray) : Bool := bif ilt 400 (slen s) then false else bif seq s c_empty then true else (pcs 46 s.data.toList).all (pkS st)
def parts (s : ByteArray) : List ByteArray := Lib.splitB c__2e 0 (Lib.countB s c__2e) s
def stps (s : ByteArray) : List T_conf_step := bif seq s c_empty then [] else (parts s).map stp
theorem steps_ok (st : Bool) (s : ByteArray) (hs : s.size ≤ 1048576) : Ev (fun k => conf_steps.f k s st) (bif rpS st s then (stps s, true) else ([], false)) := by
  unfold rpS stps
  cases h4 : ilt 400 (slen s) with
  | true => exact Ev.now fun k => by simp only [conf_steps.f, h4, cond_true]; rfl
  | false =>
    cases he : seq s c_empty with
    | true => exact Ev.now fun k => by simp only [conf_steps.f, h4, he, cond_true, cond_false]
    | false =>
      simp only [cond_false]
      have hsp : strings_Split.f s c__2e = some (parts s) := by
        unfold strings_Split.f splitF
        rw [if_pos ⟨by omega, by decide⟩]; rfl
      have hsz : ∀ x ∈ parts s, x.size ≤ 2000000 := fun x hx => by have := split_sz _ _ _ _ hx; omega
      have hlen : (parts s).length ≤ 3000000 := by
        have h1 := Lib.splitB_length_le c__2e 0 (Lib.countB s c__2e) s
        have h2 := Lib.countB_le c__2e (by decide) s.size s (Nat.le_refl _)
        unfold parts; omega
      have q := step_loop st (parts s) hlen hsz (parts s).length 0 (by omega) (by omega)
      have e : ((parts s).drop 0).all (fun p => pkS st p.data.toList) = (pcs 46 s.data.toList).all (pkS st) := by
        rw [List.drop_zero, ← parts_pcs s, List.all_map]; rfl
      rw [e] at q
      exact Ev.congr (fun k => by simp only [conf_steps.f, h4, he, cond_false, hsp, Option.bind_some]; rfl) q
theorem routeR_ok (st : Bool) (s : ByteArray) (hs : s.size ≤ 2000000) : ∃ o, Ev (fun k => mastref2_RouteParts.f k s st) (o, rpS st s) := by
  unfold rpS
  cases h4 : ilt 400 (slen s) with
  | true => exact ⟨[], Ev.now fun k => by simp only [mastref2_RouteParts.f, h4, cond_true]⟩
  | false =>
    cases he : seq s c_empty with
    | true => exact ⟨[], Ev.now fun k => by simp only [mastref2_RouteParts.f, h4, he, cond_true, cond_false]⟩
    | false =>
      simp only [cond_false]
      have hsp : strings_Split.f s c__2e = some (Lib.splitB c__2e 0 (Lib.countB s c__2e) s) := by
        unfold strings_Split.f splitF
        rw [if_pos ⟨by omega, by decide⟩]
      generalize hP : Lib.splitB c__2e 0 (Lib.countB s c__2e) s = P at hsp
      have hpp : P.map (·.data.toList) = pcs 46 s.data.toList := by rw [← hP]; exact parts_pcs s
      have hsz : ∀ x ∈ P, x.size ≤ 2000000 := fun x hx => by rw [← hP] at hx; have := split_sz _ _ _ _ hx; omega
      have hlen : P.length ≤ 4611686018427387904 := by
        have h1 := Lib.splitB_length_le c__2e 0 (Lib.countB s c__2e) s
        have h2 := Lib.countB_le c__2e (by decide) s.size s (Nat.le_refl _)
        rw [hP] at h1; omega
      have q := find_loop2 P 0 (Nat.zero_le _) (fun k j => mastref2_RouteParts.l0 k st P P (llen P) (j : Int))
        (fun _ p => (mastref2_digitsAlone.f p).bind fun y3 => bif (bif y3 then (ile (slen p) 4) else false) then ((sat p 0).bind fun y4 => some (p, (bif (!ieq y4 48) then true else (seq p c_0)))) else some (p, false))
        (fun k j y => mastref2_RouteParts.l1 k st P y.1 y.2 P (llen P) (j : Int)) (fun _ => some (P, true)) (fun p => !pkS st p.data.toList) (fun _ => ([], false)) (P, true)
        (fun k j h => by
          simp only [mastref2_RouteParts.l0, llen_eq, Go.Proofs.YtibnepagledbjaaDoor.Lift.ilen _ _ h, cond_true, lat_lt h, Option.bind_some]
          cases mastref2_digitsAlone.f P[j] with
          | none => rfl
          | some y =>
            simp only [Option.bind_some]
            cases (bif y then ile (slen P[j]) 4 else false) with
            | false => rfl
            | true =>
              simp only [cond_true]
              cases sat P[j] 0 <;> rfl)
        (fun k => by simp only [mastref2_RouteParts.l0, llen_eq, Go.Proofs.YtibnepagledbjaaDoor.Lift.ilen', cond_false]) (Ev.now fun _ => rfl)
        (fun j h => by
          have hz := hsz _ (List.getElem_mem h)
          have hd := digits_ok P[j] hz
          have hk := keyR_ok P[j] hz
          have el : ile (slen P[j]) 4 = decide (P[j].data.toList.length ≤ 4) := by
            rw [slen_l, ile_d]
            by_cases c : P[j].data.toList.length ≤ 4
            · rw [decide_eq_true c, decide_eq_true (by omega)]
            · rw [decide_eq_false c, decide_eq_false (by omega)]
          refine ⟨(P[j], dg P[j].data.toList), Ev.now fun _ => ?_, fun hq => ?_, fun hq v hv => ?_⟩
          · rw [hd]
            simp only [Option.bind_some, el]
            cases hb : P[j].data.toList with
            | nil => rfl
            | cons c r =>
              rw [sat_0 hb, seq_zero, hb]
              simp only [List.isEmpty_cons, Bool.not_false, Bool.true_and, Option.bind_some, dg, List.length_cons]
              rw [show decide (r.length + 1 ≤ 4) = decide (r.length ≤ 3) by by_cases c : r.length ≤ 3 <;> simp [c] <;> omega]
              cases (c :: r).all digB <;> cases decide (r.length ≤ 3) <;> cases ieq (c.toNat : Int) 48 <;> rfl
          · have h1 : (dg P[j].data.toList = false ∧ key P[j] = false) ∧ (st && seq P[j] c__2a) = false := by
              have : pkS st P[j].data.toList = false := by simpa using hq
              unfold pkS at this
              obtain ⟨t1, t2⟩ := Bool.or_eq_false_iff.1 this
              obtain ⟨t3, t4⟩ := Bool.or_eq_false_iff.1 t1
              exact ⟨⟨t3, t4⟩, by rw [seq_star]; exact t2⟩
            have e0 : (bif st then seq P[j] c__2a else false) = false := by rw [← h1.2]; cases st <;> rfl
            refine Ev.step (g := fun _ => some ([], false)) (fun k => ?_) (Ev.now fun _ => rfl)
            simp only [mastref2_RouteParts.l1, h1.1.1, Bool.not_false, cond_true, hk, h1.1.2, Option.bind_some, cond_false, e0]
          · have h1 : pkS st P[j].data.toList = true := by simpa using hq
            unfold pkS at h1
            rw [← seq_star] at h1
            have hw : wadd .i64 (j : Int) 1 = ((j + 1 : Nat) : Int) := u0 (by omega)
            refine Ev.step (fun k => ?_) hv
            simp only [mastref2_RouteParts.l1, hw]
            cases hg : dg P[j].data.toList with
            | true => simp
            | false =>
              simp only [Bool.not_false, cond_true, hk, Option.bind_some]
              rw [hg, show keyL P[j].data.toList = key P[j] from rfl] at h1
              revert h1
              cases key P[j] <;> cases st <;> cases seq P[j] c__2a <;> simp)
      rw [fl_const, List.drop_zero] at q
      have e : (bif P.any (fun p => !pkS st p.data.toList) then (([] : List ByteArray), false) else (P, true)) = ((bif P.any (fun p => !pkS st p.data.toList) then ([] : List ByteArray) else P), (pcs 46 s.data.toList).all (pkS st)) := by
        have : (pcs 46 s.data.toList).all (pkS st) = !P.any fun p => !pkS st p.data.toList := by
          rw [← hpp, List.all_map, List.all_eq_not_any_not]; rfl
        rw [this]
        cases P.any fun p => !pkS st p.data.toList <;> rfl
      rw [e] at q
      exact ⟨_, Ev.congr (fun k => by simp only [mastref2_RouteParts.f, h4, he, cond_false, hsp, Option.bind_some]; rfl) q⟩

/-! Stars. -/
theorem key_star {p : List UInt8} (h : keyL p = true) : (42 : UInt8) ∉ p := by
  cases p with
  | nil => simp
  | cons c r =>
    simp only [keyL, Bool.and_eq_true] at h
    intro hm
    rcases List.mem_cons.1 hm with e | e
    · rw [← e] at h; exact absurd h.1.2 (by decide)
    · exact absurd (List.all_eq_true.1 h.2 42 e) (by decide)
theorem dg_star {p : List UInt8} (h : dg p = true) : (42 : UInt8) ∉ p := by
  cases p with
  | nil => simp
  | cons c r =>
    simp only [dg, Bool.and_eq_true] at h
    intro hm
    exact absurd (List.all_eq_true.1 h.1.1 42 hm) (by decide)
theorem mem_pcs (c x : UInt8) (hx : x ≠ c) : ∀ l : List UInt8, x ∈ l ↔ ∃ p ∈ pcs c l, x ∈ p
  | [] => by simp [pcs]
  | b :: l => by
    have ih := mem_pcs c x hx l
    by_cases h : b = c
    · simp only [pcs, if_pos h, List.mem_cons]
      constructor
      · rintro (e | e)
        · exact absurd (e.trans h) hx
        · obtain ⟨p, h1, h2⟩ := ih.1 e
          exact ⟨p, .inr h1, h2⟩
      · rintro ⟨p, h1 | h1, h2⟩
        · rw [h1] at h2; cases h2
        · exact .inr (ih.2 ⟨p, h1, h2⟩)
    · simp only [pcs, if_neg h]
      cases hp : pcs c l with
      | nil =>
        rw [hp] at ih
        simp only [List.mem_cons, List.not_mem_nil, or_false] at ih ⊢
        constructor
        · rintro (e | e)
          · exact ⟨[b], rfl, by simp [e]⟩
          · obtain ⟨p, h1, _⟩ := ih.1 e; cases h1
        · rintro ⟨p, h1, h2⟩
          rw [h1] at h2
          exact .inl (by simpa using h2)
      | cons p0 r =>
        rw [hp] at ih
        simp only [List.mem_cons] at ih ⊢
        constructor
        · rintro (e | e)
          · exact ⟨b :: p0, .inl rfl, by simp [e]⟩
          · obtain ⟨p, h1 | h1, h2⟩ := ih.1 e
            · exact ⟨b :: p0, .inl rfl, by rw [← h1]; exact List.mem_cons_of_mem _ h2⟩
            · exact ⟨p, .inr h1, h2⟩
        · rintro ⟨p, h1 | h1, h2⟩
          · rw [h1] at h2
            rcases List.mem_cons.1 h2 with e | e
            · exact .inl e
            · exact .inr (ih.2 ⟨p0, .inl rfl, e⟩)
          · exact .inr (ih.2 ⟨p, .inr h1, h2⟩)
theorem contains_mem (l : List UInt8) (c : UInt8) : Lib.contains l [c] = l.contains c := by
  unfold Lib.contains
  rw [Lib.index_one]
  have hg := Lib.indexByte_ge l c
  by_cases h : Lib.indexByte l c = -1
  · have h2 := Lib.indexByte_none h
    rw [decide_eq_false (by omega)]
    symm
    rw [Bool.eq_false_iff]
    intro hm
    have hm : c ∈ l := by simpa using hm
    obtain ⟨k, hk⟩ := List.mem_iff_getElem?.1 hm
    exact h2 k hk
  · obtain ⟨o, ho⟩ : ∃ o : Nat, Lib.indexByte l c = o := ⟨(Lib.indexByte l c).toNat, by omega⟩
    have h2 := (Lib.indexByte_some ho).1
    rw [decide_eq_true (by omega)]
    symm
    have : c ∈ l := List.mem_iff_getElem?.2 ⟨o, h2⟩
    simpa using this
theorem stp_star (p : ByteArray) : (stp p).fstar = (p.data.toList == [42]) := by
  unfold stp
  rw [seq_star]
  cases hk : key p with
  | true =>
    have := key_star (p := p.data.toList) hk
    simp only [cond_true]
    cases q : (p.data.toList == [42]) with
    | false => rfl
    | true => rw [beq_iff_eq.1 q] at this; simp at this
  | false =>
    cases (p.data.toList == [42]) <;> rfl
/-- Is there a star. -/
def star (s : ByteArray) : Bool := s.data.toList.contains 42
theorem star_ok {s : ByteArray} (h : rpS true s = true) (hne : seq s c_empty = false) : (stps s).any (fun x => x.fstar) = star s := by
  unfold rpS at h
  cases h4 : ilt 400 (slen s) with
  | true => rw [h4] at h; exact nomatch h
  | false =>
    rw [h4, hne] at h
    simp only [cond_false] at h
    unfold stps star
    rw [hne]
    simp only [cond_false]
    rw [List.any_map]
    have e1 : ((fun x : T_conf_step => x.fstar) ∘ stp) = fun p : ByteArray => (p.data.toList == [42]) := funext stp_star
    rw [e1]
    have e2 : (parts s).any (fun p => (p.data.toList == [42])) = (pcs 46 s.data.toList).any (· == [42]) := by
      rw [← parts_pcs s, List.any_map]; rfl
    rw [e2, Bool.eq_iff_iff, List.any_eq_true, List.contains_iff_mem, mem_pcs 46 42 (by decide) s.data.toList]
    constructor
    · rintro ⟨p, h1, h2⟩
      exact ⟨p, h1, by rw [beq_iff_eq.1 h2]; simp⟩
    · rintro ⟨p, h1, h2⟩
      refine ⟨p, h1, ?_⟩
      have := List.all_eq_true.1 h p h1
      unfold pkS at this
      rcases Bool.or_eq_true_iff.1 this with q | q
      · rcases Bool.or_eq_true_iff.1 q with q | q
        · exact absurd h2 (dg_star q)
        · exact absurd h2 (key_star q)
      · simpa using q
theorem parts_pos (s : ByteArray) : (parts s).length ≠ 0 := by
  unfold parts
  rw [Lib.splitB_all c__2e (by decide) 0 _ s rfl]; omega

/-! One field. -/
theorem feta (y : T_conf_Field) : T_conf_Field.mk y.fRoute y.fKind y.fNeed y.fBounded y.fMin y.fMax y.fOneOf y.fDefault = y := by cases y; rfl
def fz (f : T_conf_Field) : Nat := f.fRoute.size + kz f.fOneOf + wt f.fDefault + 1
def dflt (f : T_conf_Field) : Int := bif !ieq (chk f.fDefault) 0 then chk f.fDefault else bif ieq f.fDefault.fKind 0 then 0 else bif (!ieq f.fKind (-1) && !ieq f.fDefault.fKind f.fKind) then 10 else bif star f.fRoute then 1 else 0
def oneF (e : Int) : List ByteArray → Int
  | [] => e
  | s :: r => bif ilt 5000 (slen s) then 4 else bif bad s then 9 else oneF e r
def rest (f : T_conf_Field) : Int := bif (!ieq f.fKind (-1) && (ilt f.fKind 0 || ilt 6 f.fKind)) then 10 else bif (!f.fBounded && (!ieq f.fMin 0 || !ieq f.fMax 0)) then 1 else bif ilt f.fMax f.fMin then 5 else bif (ilt 0 (llen f.fOneOf) && !ieq f.fKind 3) then 1 else oneF (dflt f) f.fOneOf
def ff (f : T_conf_Field) (b : Bool) : Int := bif !(rpS true f.fRoute && !seq f.fRoute c_empty) then 3 else bif b then 6 else rest f

theorem oneL (f : T_conf_Field) (ks : List ByteArray) (vs : List Bool) (l : List ByteArray) (hl : l = f.fOneOf) (hf : fz f ≤ 1048576) (hr : rpS true f.fRoute = true) (hne : seq f.fRoute c_empty = false) : ∀ (d j : Nat), l.length - j ≤ d → j ≤ l.length →
    Ev (fun k => conf_fieldFault.l0 k ks vs f.fRoute f.fKind f.fNeed f.fBounded f.fMin f.fMax f.fOneOf f.fDefault.fKind f.fDefault.fBool f.fDefault.fInt f.fDefault.fText f.fDefault.fItems f.fDefault.fKeys (stps f.fRoute) l (llen l) (j : Int)) (oneF (dflt f) (l.drop j), ks, vs, ()) := by
  unfold fz at hf
  have hlen := klen_le f.fOneOf
  rw [← hl] at hlen hf
  have hst := star_ok hr hne
  have hsl : (stps f.fRoute).length ≤ 3000000 := by
    unfold stps
    rw [hne]
    simp only [cond_false, List.length_map]
    have h1 := Lib.splitB_length_le c__2e 0 (Lib.countB f.fRoute c__2e) f.fRoute
    have h2 := Lib.countB_le c__2e (by decide) f.fRoute.size f.fRoute (Nat.le_refl _)
    unfold parts; omega
  have hstar : Ev (fun k => conf_hasStar.f k (stps f.fRoute)) (star f.fRoute) := by
    have q := find_pure (stps f.fRoute) 0 (Nat.zero_le _) (fun k j => conf_hasStar.l0 k (stps f.fRoute) (llen (stps f.fRoute)) (j : Int)) (fun _ => some false) (fun x => x.fstar) (fun _ => true) false
      (fun k j h => by simp only [conf_hasStar.l0, llen_eq, Go.Proofs.YtibnepagledbjaaDoor.Lift.ilen _ _ h, cond_true, lat_lt h, Option.bind_some, u0 (show j ≤ 4611686018427387904 by omega)])
      (fun k => by simp only [conf_hasStar.l0, llen_eq, Go.Proofs.YtibnepagledbjaaDoor.Lift.ilen', cond_false]) (Ev.now fun _ => rfl)
    rw [fl_const, List.drop_zero, hst] at q
    have e : (bif star f.fRoute then true else false) = star f.fRoute := by cases star f.fRoute <;> rfl
    rw [e] at q
    exact Ev.congr (fun k => by simp only [conf_hasStar.f]; rfl) q
  intro d
  have last : ∀ j, l.length ≤ j → Ev (fun k => conf_fieldFault.l0 k ks vs f.fRoute f.fKind f.fNeed f.fBounded f.fMin f.fMax f.fOneOf f.fDefault.fKind f.fDefault.fBool f.fDefault.fInt f.fDefault.fText f.fDefault.fItems f.fDefault.fKeys (stps f.fRoute) l (llen l) (j : Int)) (oneF (dflt f) (l.drop j), ks, vs, ()) := fun j hj => by
    rw [List.drop_eq_nil_of_le hj]
    refine Ev.step (fun k => by simp only [conf_fieldFault.l0, llen_eq, ilt_f (show (l.length : Int) ≤ (j : Int) by omega), cond_false, eta]; rfl) (Ev.bind (chk_ok f.fDefault (by omega)) ?_)
    simp only [oneF, dflt]
    cases ieq (chk f.fDefault) 0 with
    | false => exact Ev.now fun _ => rfl
    | true =>
      simp only [Bool.not_true, cond_false]
      cases h0 : ieq f.fDefault.fKind 0 with
      | true => exact Ev.now fun _ => rfl
      | false =>
        simp only [Bool.not_false, cond_true, cond_false]
        cases h1 : (!ieq f.fKind (-1) && !ieq f.fDefault.fKind f.fKind) with
        | true =>
          simp only [show (bif !ieq f.fKind (-1) then !ieq f.fDefault.fKind f.fKind else false) = true by rw [← h1]; cases ieq f.fKind (-1) <;> rfl]
          exact Ev.now fun _ => rfl
        | false =>
          simp only [show (bif !ieq f.fKind (-1) then !ieq f.fDefault.fKind f.fKind else false) = false by rw [← h1]; cases ieq f.fKind (-1) <;> rfl, cond_false]
          refine Ev.bind hstar ?_
          cases star f.fRoute <;> exact Ev.now fun _ => rfl
  induction d with
  | zero => intro j hd hj; exact last j (by omega)
  | succ d ih =>
    intro j hd hj
    rcases Nat.lt_or_ge j l.length with hlt | hge
    · rw [List.drop_eq_getElem_cons hlt]
      have hz := kz_mem (List.getElem_mem hlt)
      have st : ∀ k, conf_fieldFault.l0 (k + 1) ks vs f.fRoute f.fKind f.fNeed f.fBounded f.fMin f.fMax f.fOneOf f.fDefault.fKind f.fDefault.fBool f.fDefault.fInt f.fDefault.fText f.fDefault.fItems f.fDefault.fKeys (stps f.fRoute) l (llen l) (j : Int) = bif ilt 5000 (slen l[j]) then some (4, ks, vs, ()) else (conf_badBytes.f k l[j]).bind fun y3 => bif y3 then some (9, ks, vs, ()) else conf_fieldFault.l0 k ks vs f.fRoute f.fKind f.fNeed f.fBounded f.fMin f.fMax f.fOneOf f.fDefault.fKind f.fDefault.fBool f.fDefault.fInt f.fDefault.fText f.fDefault.fItems f.fDefault.fKeys (stps f.fRoute) l (llen l) ((j + 1 : Nat) : Int) := fun k => by
        simp only [conf_fieldFault.l0, llen_eq, Go.Proofs.YtibnepagledbjaaDoor.Lift.ilen _ _ hlt, cond_true, lat_lt hlt, Option.bind_some, u0 (show j ≤ 4611686018427387904 by omega)]
      simp only [oneF]
      cases h5 : ilt 5000 (slen l[j]) with
      | true => exact Ev.step (g := fun _ => some (4, ks, vs, ())) (fun k => by rw [st, h5]; rfl) (Ev.now fun _ => rfl)
      | false =>
        refine Ev.step (fun k => by rw [st, h5]; rfl) (Ev.bind (bad_conf l[j] (by omega)) ?_)
        cases bad l[j] with
        | true => exact Ev.now fun _ => rfl
        | false => exact ih (j + 1) (by omega) hlt
    · exact last j hge

theorem fieldL (f : T_conf_Field) (ks : List ByteArray) (vs : List Bool) (hf : fz f ≤ 1048576) : Ev (fun k => conf_fieldFault.f k f ks vs) (ff f ((mget seq ks vs f.fRoute).getD false), ks, vs, ()) := by
  have hf' := hf
  unfold fz at hf'
  have h1 := steps_ok true f.fRoute (by omega)
  refine Ev.congr (fun k => by simp only [conf_fieldFault.f]; rfl) (Ev.bind h1 ?_)
  unfold ff
  cases hr : rpS true f.fRoute with
  | false => exact Ev.now fun _ => rfl
  | true =>
    simp only [cond_true, Bool.not_true, cond_false, Bool.true_and]
    cases hne : seq f.fRoute c_empty with
    | true =>
      have : stps f.fRoute = [] := by unfold stps; rw [hne]; rfl
      rw [this]
      exact Ev.now fun _ => rfl
    | false =>
      have : ieq (llen (stps f.fRoute)) 0 = false := by
        unfold stps
        rw [hne]
        simp only [cond_false, llen_eq, List.length_map]
        have := parts_pos f.fRoute
        exact ieq_f (by omega)
      rw [this]
      simp only [cond_false, Bool.not_false, Bool.not_true]
      cases (mget seq ks vs f.fRoute).getD false with
      | true => exact Ev.now fun _ => rfl
      | false =>
        simp only [cond_false]
        unfold rest
        have e1 : (bif !ieq f.fKind (-1) then (bif ilt f.fKind 0 then true else ilt 6 f.fKind) else false) = (!ieq f.fKind (-1) && (ilt f.fKind 0 || ilt 6 f.fKind)) := by cases ieq f.fKind (-1) <;> cases ilt f.fKind 0 <;> rfl
        have e2 : (bif !f.fBounded then (bif !ieq f.fMin 0 then true else !ieq f.fMax 0) else false) = (!f.fBounded && (!ieq f.fMin 0 || !ieq f.fMax 0)) := by cases f.fBounded <;> cases ieq f.fMin 0 <;> rfl
        have e3 : (bif ilt 0 (llen f.fOneOf) then !ieq f.fKind 3 else false) = (ilt 0 (llen f.fOneOf) && !ieq f.fKind 3) := by cases ilt 0 (llen f.fOneOf) <;> rfl
        rw [e1, e2, e3]
        cases (!ieq f.fKind (-1) && (ilt f.fKind 0 || ilt 6 f.fKind)) with
        | true => exact Ev.now fun _ => rfl
        | false =>
          cases (!f.fBounded && (!ieq f.fMin 0 || !ieq f.fMax 0)) with
          | true => exact Ev.now fun _ => rfl
          | false =>
            cases ilt f.fMax f.fMin with
            | true => exact Ev.now fun _ => rfl
            | false =>
              cases (ilt 0 (llen f.fOneOf) && !ieq f.fKind 3) with
              | true => exact Ev.now fun _ => rfl
              | false => exact oneL f ks vs f.fOneOf rfl hf hr hne f.fOneOf.length 0 (by omega) (by omega)

theorem oneR (f : T_conf_Field) (l : List ByteArray) (hl : l = f.fOneOf) (hf : fz f ≤ 1048576) : ∀ (d j : Nat), l.length - j ≤ d → j ≤ l.length →
    Ev (fun k => mastref2_fieldFault.l1 k f.fRoute f.fKind f.fNeed f.fBounded f.fMin f.fMax f.fOneOf f.fDefault.fKind f.fDefault.fBool f.fDefault.fInt f.fDefault.fText f.fDefault.fItems f.fDefault.fKeys l (llen l) (j : Int)) (oneF (dflt f) (l.drop j)) := by
  unfold fz at hf
  have hlen := klen_le f.fOneOf
  rw [← hl] at hlen hf
  have hcon : strings_Contains.f f.fRoute c__2a = some (star f.fRoute) := by
    unfold strings_Contains.f
    rw [if_pos (by omega)]
    show some (Lib.contains f.fRoute.data.toList [42]) = _
    rw [contains_mem]; rfl
  intro d
  have last : ∀ j, l.length ≤ j → Ev (fun k => mastref2_fieldFault.l1 k f.fRoute f.fKind f.fNeed f.fBounded f.fMin f.fMax f.fOneOf f.fDefault.fKind f.fDefault.fBool f.fDefault.fInt f.fDefault.fText f.fDefault.fItems f.fDefault.fKeys l (llen l) (j : Int)) (oneF (dflt f) (l.drop j)) := fun j hj => by
    rw [List.drop_eq_nil_of_le hj]
    refine Ev.step (fun k => by simp only [mastref2_fieldFault.l1, llen_eq, ilt_f (show (l.length : Int) ≤ (j : Int) by omega), cond_false, eta]; rfl) (Ev.bind (chkR_ok f.fDefault (by omega)) ?_)
    simp only [oneF, dflt]
    cases h : ieq (chk f.fDefault) 0 with
    | false =>
      simp only [Bool.not_false, cond_true]
      exact Ev.now fun _ => rfl
    | true =>
      simp only [Bool.not_true, cond_false]
      cases h0 : ieq f.fDefault.fKind 0 with
      | true => exact Ev.now fun _ => rfl
      | false =>
        simp only [cond_false]
        cases h1 : (!ieq f.fKind (-1) && !ieq f.fDefault.fKind f.fKind) with
        | true =>
          simp only [show (bif !ieq f.fKind (-1) then !ieq f.fDefault.fKind f.fKind else false) = true by rw [← h1]; cases ieq f.fKind (-1) <;> rfl]
          exact Ev.now fun _ => rfl
        | false =>
          simp only [show (bif !ieq f.fKind (-1) then !ieq f.fDefault.fKind f.fKind else false) = false by rw [← h1]; cases ieq f.fKind (-1) <;> rfl, cond_false, hcon, Option.bind_some]
          cases star f.fRoute <;> exact Ev.now fun _ => rfl
  induction d with
  | zero => intro j hd hj; exact last j (by omega)
  | succ d ih =>
    intro j hd hj
    rcases Nat.lt_or_ge j l.length with hlt | hge
    · rw [List.drop_eq_getElem_cons hlt]
      have hz := kz_mem (List.getElem_mem hlt)
      have st : ∀ k, mastref2_fieldFault.l1 (k + 1) f.fRoute f.fKind f.fNeed f.fBounded f.fMin f.fMax f.fOneOf f.fDefault.fKind f.fDefault.fBool f.fDefault.fInt f.fDefault.fText f.fDefault.fItems f.fDefault.fKeys l (llen l) (j : Int) = bif ilt 5000 (slen l[j]) then some 4 else (mastref2_badByte.f k l[j]).bind fun y3 => bif y3 then some 9 else mastref2_fieldFault.l1 k f.fRoute f.fKind f.fNeed f.fBounded f.fMin f.fMax f.fOneOf f.fDefault.fKind f.fDefault.fBool f.fDefault.fInt f.fDefault.fText f.fDefault.fItems f.fDefault.fKeys l (llen l) ((j + 1 : Nat) : Int) := fun k => by
        simp only [mastref2_fieldFault.l1, llen_eq, Go.Proofs.YtibnepagledbjaaDoor.Lift.ilen _ _ hlt, cond_true, lat_lt hlt, Option.bind_some, u0 (show j ≤ 4611686018427387904 by omega)]
      simp only [oneF]
      cases h5 : ilt 5000 (slen l[j]) with
      | true => exact Ev.step (g := fun _ => some 4) (fun k => by rw [st, h5]; rfl) (Ev.now fun _ => rfl)
      | false =>
        refine Ev.step (fun k => by rw [st, h5]; rfl) (Ev.bind (bad_ref l[j] (by omega)) ?_)
        cases bad l[j] with
        | true => exact Ev.now fun _ => rfl
        | false => exact ih (j + 1) (by omega) hlt
    · exact last j hge

theorem fieldR (l : List T_conf_Field) (j : Nat) (hj : j < l.length) (hl : l.length ≤ 100) (hf : fz l[j] ≤ 1048576) : Ev (fun k => mastref2_fieldFault.f k l (j : Int)) (ff l[j] ((l.take j).any fun x => seq x.fRoute l[j].fRoute)) := by
  have hf' := hf
  unfold fz at hf'
  obtain ⟨o, ho⟩ := routeR_ok true l[j].fRoute (by omega)
  refine Ev.congr (fun k => by simp only [mastref2_fieldFault.f, lat_lt hj, Option.bind_some]; rfl) (Ev.bind ho ?_)
  unfold ff
  cases hr : rpS true l[j].fRoute with
  | false => exact Ev.now fun _ => rfl
  | true =>
    simp only [cond_true, Bool.not_true, cond_false, Bool.true_and]
    cases hne : seq l[j].fRoute c_empty with
    | true => exact Ev.now fun _ => rfl
    | false =>
      have hs : lsub l 0 (j : Int) = some (l.take j) := by
        unfold lsub
        rw [if_pos ⟨by omega, by omega, by omega⟩]
        simp
      simp only [cond_false, Bool.not_false, Bool.not_true, hs, Option.bind_some]
      have htl : (l.take j).length ≤ 100 := by rw [List.length_take]; omega
      have q := find_pure (l.take j) 0 (Nat.zero_le _) (fun k i => mastref2_fieldFault.l0 k l[j].fRoute l[j].fKind l[j].fNeed l[j].fBounded l[j].fMin l[j].fMax l[j].fOneOf l[j].fDefault.fKind l[j].fDefault.fBool l[j].fDefault.fInt l[j].fDefault.fText l[j].fDefault.fItems l[j].fDefault.fKeys (l.take j) (llen (l.take j)) (i : Int))
        (fun k => bif (!ieq l[j].fKind (-1) && (ilt l[j].fKind 0 || ilt 6 l[j].fKind)) then some 10 else bif (!l[j].fBounded && (!ieq l[j].fMin 0 || !ieq l[j].fMax 0)) then some 1 else bif ilt l[j].fMax l[j].fMin then some 5 else bif (ilt 0 (llen l[j].fOneOf) && !ieq l[j].fKind 3) then some 1 else mastref2_fieldFault.l1 k l[j].fRoute l[j].fKind l[j].fNeed l[j].fBounded l[j].fMin l[j].fMax l[j].fOneOf l[j].fDefault.fKind l[j].fDefault.fBool l[j].fDefault.fInt l[j].fDefault.fText l[j].fDefault.fItems l[j].fDefault.fKeys l[j].fOneOf (llen l[j].fOneOf) 0)
        (fun x => seq x.fRoute l[j].fRoute) (fun _ => 6) (rest l[j])
        (fun k i h => by simp only [mastref2_fieldFault.l0, llen_eq, Go.Proofs.YtibnepagledbjaaDoor.Lift.ilen _ _ h, cond_true, lat_lt h, Option.bind_some, u0 (show i ≤ 4611686018427387904 by omega)])
        (fun k => by
          have e1 : (bif (bif ilt l[j].fKind 0 then true else ilt 6 l[j].fKind) then !ieq l[j].fKind (-1) else false) = (!ieq l[j].fKind (-1) && (ilt l[j].fKind 0 || ilt 6 l[j].fKind)) := by cases ieq l[j].fKind (-1) <;> cases ilt l[j].fKind 0 <;> cases ilt 6 l[j].fKind <;> rfl
          have e2 : (bif !l[j].fBounded then (bif !ieq l[j].fMin 0 then true else !ieq l[j].fMax 0) else false) = (!l[j].fBounded && (!ieq l[j].fMin 0 || !ieq l[j].fMax 0)) := by cases l[j].fBounded <;> cases ieq l[j].fMin 0 <;> rfl
          have e3 : (bif ilt 0 (llen l[j].fOneOf) then !ieq l[j].fKind 3 else false) = (ilt 0 (llen l[j].fOneOf) && !ieq l[j].fKind 3) := by cases ilt 0 (llen l[j].fOneOf) <;> rfl
          have e0 : ilt ((l.take j).length : Int) (llen (l.take j)) = false := by rw [llen_eq]; exact ilt_f (by omega)
          simp only [mastref2_fieldFault.l0, e0, cond_false, e1, e2, e3])
        (by
          unfold rest
          cases (!ieq l[j].fKind (-1) && (ilt l[j].fKind 0 || ilt 6 l[j].fKind)) with
          | true => exact Ev.now fun _ => rfl
          | false =>
            cases (!l[j].fBounded && (!ieq l[j].fMin 0 || !ieq l[j].fMax 0)) with
            | true => exact Ev.now fun _ => rfl
            | false =>
              cases ilt l[j].fMax l[j].fMin with
              | true => exact Ev.now fun _ => rfl
              | false =>
                cases (ilt 0 (llen l[j].fOneOf) && !ieq l[j].fKind 3) with
                | true => exact Ev.now fun _ => rfl
                | false => exact oneR l[j] l[j].fOneOf rfl hf l[j].fOneOf.length 0 (by omega) (by omega))
      rw [fl_const, List.drop_zero] at q
      exact q

/-! The fields. -/
theorem mget_rep : ∀ (ks : List ByteArray) (r : ByteArray), (mget seq ks (List.replicate ks.length true) r).getD false = ks.any fun k => seq r k
  | [], r => rfl
  | k :: ks, r => by
    have ih := mget_rep ks r
    rw [List.length_cons, List.replicate_succ, List.any_cons]
    unfold mget
    cases h : seq r k with
    | true => rfl
    | false => rw [Bool.false_or, ← ih]; rfl
theorem mput_rep : ∀ (ks : List ByteArray) (x : ByteArray), mputV seq ks (List.replicate ks.length true) x true = List.replicate (mputK seq ks x).length true
  | [], x => rfl
  | k :: ks, x => by
    have ih := mput_rep ks x
    rw [List.length_cons, List.replicate_succ]
    unfold mputV mputK
    cases h : seq x k with
    | true => rfl
    | false =>
      show true :: mputV seq ks (List.replicate ks.length true) x true = List.replicate (k :: mputK seq ks x).length true
      rw [ih]; rfl
theorem mput_any : ∀ (ks : List ByteArray) (x r : ByteArray), (mputK seq ks x).any (fun k => seq r k) = (ks.any (fun k => seq r k) || seq r x)
  | [], x, r => by simp [mputK]
  | k :: ks, x, r => by
    have ih := mput_any ks x r
    unfold mputK
    cases h : seq x k with
    | true =>
      have : x = k := by rw [seq_d] at h; exact of_decide_eq_true h
      subst this
      show (x :: ks).any _ = _
      simp only [List.any_cons]
      cases seq r x <;> simp
    | false =>
      show (k :: mputK seq ks x).any _ = _
      simp only [List.any_cons, ih]
      cases seq r k <;> simp
def sf : List T_conf_Field → List T_conf_Field → Int
  | _, [] => 0
  | pre, f :: r => bif ieq (ff f (pre.any fun x => seq x.fRoute f.fRoute)) 0 then sf (pre ++ [f]) r else ff f (pre.any fun x => seq x.fRoute f.fRoute)
theorem seq_comm (a b : ByteArray) : seq a b = seq b a := by
  rw [seq_d, seq_d]; congr 1; exact propext ⟨Eq.symm, Eq.symm⟩

theorem schemaL (l : List T_conf_Field) (hl : l.length ≤ 100) (hf : ∀ f ∈ l, fz f ≤ 1048576) : ∀ (d j : Nat) (ks : List ByteArray), l.length - j ≤ d → j ≤ l.length → (∀ r, ks.any (fun k => seq r k) = (l.take j).any fun x => seq x.fRoute r) →
    Ev (fun k => conf_CheckSchema.l0 k ks (List.replicate ks.length true) l (llen l) (j : Int)) (sf (l.take j) (l.drop j)) := by
  intro d
  have last : ∀ (j : Nat) (ks : List ByteArray), l.length ≤ j → Ev (fun k => conf_CheckSchema.l0 k ks (List.replicate ks.length true) l (llen l) (j : Int)) (sf (l.take j) (l.drop j)) := fun j ks hj => by
    rw [List.drop_eq_nil_of_le hj]
    refine Ev.step (g := fun _ => some 0) (fun k => ?_) (Ev.now fun _ => rfl)
    simp only [conf_CheckSchema.l0, llen_eq, ilt_f (show (l.length : Int) ≤ (j : Int) by omega), cond_false]
  induction d with
  | zero => intro j ks hd hj hi; exact last j ks (by omega)
  | succ d ih =>
    intro j ks hd hj hi
    rcases Nat.lt_or_ge j l.length with hlt | hge
    · rw [List.drop_eq_getElem_cons hlt]
      have h1 := fieldL l[j] ks (List.replicate ks.length true) (hf _ (List.getElem_mem hlt))
      rw [mget_rep, hi] at h1
      refine Ev.step (fun k => by simp only [conf_CheckSchema.l0, llen_eq, Go.Proofs.YtibnepagledbjaaDoor.Lift.ilen _ _ hlt, cond_true, lat_lt hlt, Option.bind_some, eta, feta]; rfl) (Ev.bind h1 ?_)
      simp only [sf]
      cases ieq (ff l[j] ((l.take j).any fun x => seq x.fRoute l[j].fRoute)) 0 with
      | false => exact Ev.now fun _ => rfl
      | true =>
        have hr := ih (j + 1) (mputK seq ks l[j].fRoute) (by omega) hlt (fun r => by
          rw [mput_any, hi, List.take_succ_eq_append_getElem hlt, List.any_append, List.any_cons, List.any_nil, Bool.or_false, seq_comm r])
        rw [List.take_succ_eq_append_getElem hlt, ← mput_rep] at hr
        simp only [Bool.not_true, cond_false, u0 (show j ≤ 4611686018427387904 by omega)]
        exact hr
    · exact last j ks hge
theorem schemaR (l : List T_conf_Field) (b : Bool) (hl : l.length ≤ 100) (hf : ∀ f ∈ l, fz f ≤ 1048576) : ∀ (d j : Nat), l.length - j ≤ d → j ≤ l.length →
    Ev (fun k => mastref2_SchemaFault.l0 k l b (llen l) (j : Int)) (sf (l.take j) (l.drop j)) := by
  intro d
  have last : ∀ (j : Nat), l.length ≤ j → Ev (fun k => mastref2_SchemaFault.l0 k l b (llen l) (j : Int)) (sf (l.take j) (l.drop j)) := fun j hj => by
    rw [List.drop_eq_nil_of_le hj]
    refine Ev.step (g := fun _ => some 0) (fun k => ?_) (Ev.now fun _ => rfl)
    simp only [mastref2_SchemaFault.l0, llen_eq, ilt_f (show (l.length : Int) ≤ (j : Int) by omega), cond_false]
  induction d with
  | zero => intro j hd hj; exact last j (by omega)
  | succ d ih =>
    intro j hd hj
    rcases Nat.lt_or_ge j l.length with hlt | hge
    · rw [List.drop_eq_getElem_cons hlt]
      have h1 := fieldR l j hlt hl (hf _ (List.getElem_mem hlt))
      refine Ev.step (fun k => by simp only [mastref2_SchemaFault.l0, llen_eq, Go.Proofs.YtibnepagledbjaaDoor.Lift.ilen _ _ hlt, cond_true]; rfl) (Ev.bind h1 ?_)
      simp only [sf]
      cases ieq (ff l[j] ((l.take j).any fun x => seq x.fRoute l[j].fRoute)) 0 with
      | false => exact Ev.now fun _ => rfl
      | true =>
        have hr := ih (j + 1) (by omega) hlt
        rw [List.take_succ_eq_append_getElem hlt] at hr
        simp only [Bool.not_true, cond_false, u0 (show j ≤ 4611686018427387904 by omega)]
        exact hr
    · exact last j hge

theorem fz_bulk (D : Nat) (f : T_conf_Field) (h : good ctx (D + 2) (.st 1) f) : fz f ≤ bulk ctx (D + 2) (.st 1) f := by
  have hv := wt_bulk (D + 1) f.fDefault h.2.2.2.2.2.2.2
  have hz : ∀ l : List ByteArray, kz l = (l.map (bulk ctx D .str)).sum := by
    intro l
    induction l with
    | nil => rfl
    | cons a l ih => simp only [kz, ih, List.map_cons, List.sum_cons, bulk_str]
  have h2 := hz f.fOneOf
  unfold fz
  rw [h2]
  show _ ≤ (f.fRoute.size + 1) + (1 + (1 + (1 + (1 + (1 + (((f.fOneOf.map (bulk ctx D .str)).sum + 1) + (bulk ctx (D + 1) (.st 2) f.fDefault + 0))))))) + 1
  omega
theorem all_small : ∀ (D : Nat) (x : T_conf_Schema), good ctx D (.st 0) x → ∀ f ∈ x.fFields, fz f ≤ bulk ctx D (.st 0) x
  | 0, x, h, f, hf => h.1.elim
  | 1, x, h, f, hf => (h.1.2.2 f hf).elim
  | 2, x, h, f, hf => (h.1.2.2 f hf).1.elim
  | 3, x, h, f, hf => (h.1.2.2 f hf).2.2.2.2.2.2.2.1.elim
  | D + 4, x, h, f, hf => by
    have h1 := fz_bulk D f (h.1.2.2 f hf)
    have hs : ∀ l : List T_conf_Field, f ∈ l → bulk ctx (D + 2) (.st 1) f ≤ (l.map (bulk ctx (D + 2) (.st 1))).sum := by
      intro l
      induction l with
      | nil => intro h; cases h
      | cons a l ih =>
        intro h
        show _ ≤ bulk ctx (D + 2) (.st 1) a + (l.map (bulk ctx (D + 2) (.st 1))).sum
        rcases List.mem_cons.1 h with e | e
        · subst e; exact Nat.le_add_right _ _
        · exact Nat.le_trans (ih e) (Nat.le_add_left _ _)
    have h2 := hs x.fFields hf
    show _ ≤ (((x.fFields.map (bulk ctx (D + 2) (.st 1))).sum + 1) + (1 + 0)) + 1
    omega

theorem pure_holds : Pure := fun x0 h0 => by
  obtain ⟨D, d1, d2⟩ := h0
  have hw : ∀ f ∈ x0.fFields, fz f ≤ 1048576 := fun f hf => Nat.le_trans (all_small D x0 d1 f hf) d2
  refine (show Ev (fun k => mastlaw2_SchemaChecks.f k x0) true from ?_).get
  suffices h : ∃ r, Ev (fun k => conf_CheckSchema.f k x0) r ∧ Ev (fun k => mastref2_SchemaFault.f k x0) r by
    obtain ⟨r, h1, h2⟩ := h
    exact Ev.congr (g := fun k => (conf_CheckSchema.f k x0).bind fun y1 => (mastref2_SchemaFault.f k x0).bind fun y2 => some (ieq y1 y2)) (fun k => by simp only [mastlaw2_SchemaChecks.f]) (Ev.bind h1 (Ev.bind h2 (Ev.now fun _ => by rw [ieq_self])))
  by_cases hl : x0.fFields.length ≤ 100
  · refine ⟨sf [] x0.fFields, ?_, ?_⟩
    · refine Ev.congr (fun k => by simp only [conf_CheckSchema.f, llen_eq, ilt_f (show (x0.fFields.length : Int) ≤ 100 by omega), cond_false]; rfl) (schemaL x0.fFields hl hw x0.fFields.length 0 [] (by omega) (by omega) (fun _ => rfl))
    · refine Ev.congr (fun k => by simp only [mastref2_SchemaFault.f, llen_eq, ilt_f (show (x0.fFields.length : Int) ≤ 100 by omega), cond_false]; rfl) (schemaR x0.fFields x0.fStrict hl hw x0.fFields.length 0 (by omega) (by omega))
  · refine ⟨4, Ev.now fun k => ?_, Ev.now fun k => ?_⟩
    · simp only [conf_CheckSchema.f, llen_eq, ilt_t (show (100 : Int) < (x0.fFields.length : Int) by omega), cond_true]
    · simp only [mastref2_SchemaFault.f, llen_eq, ilt_t (show (100 : Int) < (x0.fFields.length : Int) by omega), cond_true]

end Go.Proofs.YtibnepagledbjaaDoor.LSchemaChecks
