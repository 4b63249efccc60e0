/- A schema's value is read as the reference says, for values of small bulk. Conditions: none. -/
import Derived.Test.YtmbjiadilfbooaaGreatDoorLSchemaReadsOp
import Derived.Lib.SplitLaws
set_option linter.unusedVariables false
set_option linter.unusedSimpArgs false
namespace Go.Proofs.YtmbjiadilfbooaaGreatDoor.LSchemaReads
open Go Go.Proofs.YtmbjiadilfbooaaGreatDoor.Lift

theorem eta (y : T_api_Value) : T_api_Value.mk y.fKind y.fBool y.fInt y.fText y.fItems y.fKeys = y := by cases y; rfl

mutual
/-- How many values. -/
def nT : T_api_Value → Nat
  | ⟨_, _, _, _, is, _⟩ => nTs is + 1
def nTs : List T_api_Value → Nat
  | [] => 0
  | t :: r => nT t + nTs r
end
mutual
/-- How many levels. -/
def lv : T_api_Value → Nat
  | ⟨_, _, _, _, is, _⟩ => lvs is + 1
def lvs : List T_api_Value → Nat
  | [] => 0
  | t :: r => max (lv t) (lvs r)
end
def kz : List ByteArray → Nat
  | [] => 0
  | s :: r => s.size + 1 + kz r
mutual
/-- How much is held. -/
def wt : T_api_Value → Nat
  | ⟨_, _, _, t, is, ks⟩ => t.size + kz ks + wts is + 1
def wts : List T_api_Value → Nat
  | [] => 0
  | t :: r => wt t + wts r
end
theorem nT_eq (t : T_api_Value) : nT t = nTs t.fItems + 1 := by cases t; simp [nT]
theorem lv_eq (t : T_api_Value) : lv t = lvs t.fItems + 1 := by cases t; simp [lv]
theorem wt_eq (t : T_api_Value) : wt t = t.fText.size + kz t.fKeys + wts t.fItems + 1 := by cases t; simp [wt]
theorem wt_pos (t : T_api_Value) : 1 ≤ wt t := by rw [wt_eq]; omega
theorem wt_mem : ∀ {l : List T_api_Value} {t : T_api_Value}, t ∈ l → wt t ≤ wts l
  | a :: l, t, h => by
    simp only [wts]
    rcases List.mem_cons.1 h with rfl | h
    · omega
    · have := wt_mem h; omega
theorem len_le : ∀ l : List T_api_Value, l.length ≤ wts l
  | [] => Nat.zero_le _
  | a :: l => by
    have := len_le l
    have := wt_pos a
    simp only [wts, List.length_cons]; omega
theorem kz_mem : ∀ {l : List ByteArray} {s : ByteArray}, s ∈ l → s.size < kz l
  | a :: l, s, h => by
    simp only [kz]
    rcases List.mem_cons.1 h with rfl | h
    · omega
    · have := kz_mem h; omega
theorem klen_le : ∀ l : List ByteArray, l.length ≤ kz l
  | [] => Nat.zero_le _
  | a :: l => by
    have := klen_le l
    simp only [kz, List.length_cons]; omega
theorem tree {P : T_api_Value → Prop} (h : ∀ t, (∀ k ∈ t.fItems, P k) → P t) : ∀ t, P t := by
  have : ∀ (n : Nat) (t : T_api_Value), wt t ≤ n → P t := by
    intro n
    induction n with
    | zero => intro t ht; have := wt_pos t; omega
    | succ n ih => intro t ht; exact h t fun k hk => ih k (by have := wt_mem hk; rw [wt_eq] at ht; omega)
  exact fun t => this _ t (Nat.le_refl _)
theorem nT_wt : ∀ t, nT t ≤ wt t := tree fun t ih => by
  have : ∀ l : List T_api_Value, (∀ k ∈ l, nT k ≤ wt k) → nTs l ≤ wts l := by
    intro l
    induction l with
    | nil => intro _; exact Nat.zero_le _
    | cons a l ih =>
      intro h
      have h1 := h a (List.mem_cons_self ..)
      have h2 := ih fun k hk => h k (List.mem_cons_of_mem _ hk)
      simp only [nTs, wts]; omega
  have := this t.fItems ih
  rw [nT_eq, wt_eq]; omega
theorem nTs_wts : ∀ l, nTs l ≤ wts l
  | [] => Nat.zero_le _
  | a :: l => by have := nT_wt a; have := nTs_wts l; simp only [nTs, wts]; omega
theorem lv_wt : ∀ t, lv t ≤ wt t := tree fun t ih => by
  have : ∀ l : List T_api_Value, (∀ k ∈ l, lv k ≤ wt k) → lvs l ≤ wts l := by
    intro l
    induction l with
    | nil => intro _; exact Nat.zero_le _
    | cons a l ih =>
      intro h
      have h1 := h a (List.mem_cons_self ..)
      have h2 := ih fun k hk => h k (List.mem_cons_of_mem _ hk)
      simp only [lvs, wts]; omega
  have := this t.fItems ih
  rw [lv_eq, wt_eq]; omega
theorem bulk_str (D : Nat) (s : ByteArray) : bulk ctx D .str s = s.size + 1 := by cases D <;> rfl
theorem wt_bulk : ∀ (D : Nat) (t : T_api_Value), good ctx D (.st 0) t → wt t ≤ bulk ctx D (.st 0) t
  | 0, t, h => h.1.elim
  | 1, t, h => by
    have hi : t.fItems = [] := List.eq_nil_iff_forall_not_mem.2 fun k hk => h.2.2.2.2.1.2.2 k hk
    have hk : t.fKeys = [] := List.eq_nil_iff_forall_not_mem.2 fun k hk => h.2.2.2.2.2.2.2 k hk
    rw [wt_eq, hi, hk]
    show t.fText.size + 0 + 0 + 1 ≤ 1 + (1 + (1 + ((t.fText.size + 1) + ((((t.fItems.map fun _ => 0).sum + 1)) + (((t.fKeys.map fun _ => 0).sum + 1) + 0))))) + 1
    omega
  | D + 2, t, h => by
    have hi : ∀ k ∈ t.fItems, wt k ≤ bulk ctx D (.st 0) k := fun k hk => wt_bulk D k (h.2.2.2.2.1.2.2 k hk)
    have hs : ∀ l : List T_api_Value, (∀ k ∈ l, wt k ≤ bulk ctx D (.st 0) k) → wts l ≤ (l.map (bulk ctx D (.st 0))).sum := by
      intro l
      induction l with
      | nil => intro _; exact Nat.zero_le _
      | cons a l ih =>
        intro h
        have h1 := h a (List.mem_cons_self ..)
        have h2 := ih fun k hk => h k (List.mem_cons_of_mem _ hk)
        simp only [wts, List.map_cons, List.sum_cons]
        exact Nat.add_le_add h1 h2
    have hz : ∀ l : List ByteArray, kz l = (l.map (bulk ctx D .str)).sum := by
      intro l
      induction l with
      | nil => rfl
      | cons a l ih => simp only [kz, ih, List.map_cons, List.sum_cons, bulk_str]
    have h1 := hs t.fItems hi
    have h2 := hz t.fKeys
    rw [wt_eq, h2]
    show _ ≤ 1 + (1 + (1 + ((t.fText.size + 1) + (((t.fItems.map (bulk ctx D (.st 0))).sum + 1) + (((t.fKeys.map (bulk ctx D .str)).sum + 1) + 0))))) + 1
    omega

/-! How many values, how many levels. -/
theorem count_loop_conf (l : List T_api_Value) (hl : wts l ≤ 1048576) (ih : ∀ k ∈ l, ∃ r : Nat, Ev (fun f => conf_count.f f k) (r : Int) ∧ r ≤ nT k ∧ (1000 < r ∨ r = nT k)) : ∀ (d j a : Nat), l.length - j ≤ d → j ≤ l.length → a + nTs (l.drop j) ≤ 1048577 →
    ∃ r : Nat, Ev (fun f => conf_count.l0 f (a : Int) l (llen l) (j : Int)) (r : Int) ∧ r ≤ a + nTs (l.drop j) ∧ (1000 < r ∨ r = a + nTs (l.drop j)) := by
  have hlen := len_le l
  have fin : ∀ j a : Nat, l.length ≤ j → ∃ r : Nat, Ev (fun f => conf_count.l0 f (a : Int) l (llen l) (j : Int)) (r : Int) ∧ r ≤ a + nTs (l.drop j) ∧ (1000 < r ∨ r = a + nTs (l.drop j)) := fun j a h => by
    refine ⟨a, Ev.step (g := fun _ => some (a : Int)) (fun k => ?_) (Ev.now fun _ => rfl), by omega, ?_⟩
    · simp only [conf_count.l0, llen_eq, ilt_f (show (l.length : Int) ≤ (j : Int) by omega), cond_false]
    · rw [List.drop_eq_nil_of_le h]; simp [nTs]
  intro d
  induction d with
  | zero => intro j a hd hj hb; exact fin j a (by omega)
  | succ d ihd =>
    intro j a hd hj hb
    rcases Nat.lt_or_ge j l.length with hlt | hge
    · rw [List.drop_eq_getElem_cons hlt] at hb ⊢
      simp only [nTs] at hb ⊢
      by_cases ha : 1000 < a
      · refine ⟨a, Ev.step (g := fun _ => some (a : Int)) (fun k => ?_) (Ev.now fun _ => rfl), by omega, .inl ha⟩
        simp only [conf_count.l0, llen_eq, ilt_t (show (j : Int) < (l.length : Int) by omega), cond_true, lat_lt hlt, Option.bind_some, ilt_t (show (1000 : Int) < (a : Int) by omega)]
      · obtain ⟨r, r1, r2, r3⟩ := ih _ (List.getElem_mem hlt)
        obtain ⟨q, q1, q2, q3⟩ := ihd (j + 1) (a + r) (by omega) hlt (by omega)
        have w : wadd .i64 (a : Int) (r : Int) = ((a + r : Nat) : Int) := by rw [wadd64 (by omega) (by omega)]; omega
        refine ⟨q, Ev.step (g := fun k => (conf_count.f k l[j]).bind fun y2 => conf_count.l0 k (wadd .i64 (a : Int) y2) l (llen l) ((j + 1 : Nat) : Int)) (fun k => ?_) (Ev.bind r1 (by rw [w]; exact q1)), by omega, by omega⟩
        simp only [conf_count.l0, llen_eq, ilt_t (show (j : Int) < (l.length : Int) by omega), cond_true, lat_lt hlt, Option.bind_some, ilt_f (show (a : Int) ≤ 1000 by omega), cond_false, eta, u0 (show j ≤ 4611686018427387904 by omega)]
    · exact fin j a hge
theorem count_conf : ∀ t, wt t ≤ 1048576 → ∃ r : Nat, Ev (fun f => conf_count.f f t) (r : Int) ∧ r ≤ nT t ∧ (1000 < r ∨ r = nT t) := tree fun t ih hn => by
  have h0 := nTs_wts t.fItems
  rw [wt_eq] at hn
  obtain ⟨r, r1, r2, r3⟩ := count_loop_conf t.fItems (by omega) (fun k hk => ih k hk (by have := wt_mem hk; omega)) t.fItems.length 0 1 (by omega) (by omega) (by rw [List.drop_zero]; omega)
  rw [List.drop_zero] at r2 r3
  rw [nT_eq]
  exact ⟨r, Ev.step (fun k => by simp only [conf_count.f]; rfl) r1, by omega, by omega⟩

theorem both_loop (l : List T_api_Value) (hl : wts l ≤ 1048576) (ih : ∀ k ∈ l, Ev (fun f => mastref2_ValuesOf.f f k) (nT k : Int)) : ∀ (d j a : Nat), l.length - j ≤ d → j ≤ l.length → a + nTs (l.drop j) ≤ 1048577 →
    Ev (fun f => mastref2_ValuesOf.l0 f (a : Int) l (llen l) (j : Int)) ((a + nTs (l.drop j) : Nat) : Int) := by
  have hlen := len_le l
  have fin : ∀ j a : Nat, l.length ≤ j → Ev (fun f => mastref2_ValuesOf.l0 f (a : Int) l (llen l) (j : Int)) ((a + nTs (l.drop j) : Nat) : Int) := fun j a h => by
    rw [List.drop_eq_nil_of_le h]
    refine Ev.step (g := fun _ => some (a : Int)) (fun k => ?_) (Ev.now fun _ => by simp [nTs])
    simp only [mastref2_ValuesOf.l0, llen_eq, ilt_f (show (l.length : Int) ≤ (j : Int) by omega), cond_false]
  intro d
  induction d with
  | zero => intro j a hd hj hb; exact fin j a (by omega)
  | succ d ihd =>
    intro j a hd hj hb
    rcases Nat.lt_or_ge j l.length with hlt | hge
    · rw [List.drop_eq_getElem_cons hlt] at hb ⊢
      simp only [nTs] at hb ⊢
      have q1 := ihd (j + 1) (a + nT l[j]) (by omega) hlt (by omega)
      have w : wadd .i64 (a : Int) (nT l[j] : Int) = ((a + nT l[j] : Nat) : Int) := by rw [wadd64 (by omega) (by omega)]; omega
      rw [show a + (nT l[j] + nTs (l.drop (j + 1))) = a + nT l[j] + nTs (l.drop (j + 1)) by omega]
      refine Ev.step (g := fun k => (mastref2_ValuesOf.f k l[j]).bind fun y2 => mastref2_ValuesOf.l0 k (wadd .i64 (a : Int) y2) l (llen l) ((j + 1 : Nat) : Int)) (fun k => ?_) (Ev.bind (ih _ (List.getElem_mem hlt)) (by rw [w]; exact q1))
      simp only [mastref2_ValuesOf.l0, llen_eq, ilt_t (show (j : Int) < (l.length : Int) by omega), cond_true, lat_lt hlt, Option.bind_some, eta, u0 (show j ≤ 4611686018427387904 by omega)]
    · exact fin j a hge
theorem values_ok : ∀ t, wt t ≤ 1048576 → Ev (fun f => mastref2_ValuesOf.f f t) (nT t : Int) := tree fun t ih hn => by
  have h0 := nTs_wts t.fItems
  rw [wt_eq] at hn
  have := both_loop t.fItems (by omega) (fun k hk => ih k hk (by have := wt_mem hk; omega)) t.fItems.length 0 1 (by omega) (by omega) (by rw [List.drop_zero]; omega)
  rw [List.drop_zero, Nat.add_comm 1] at this
  rw [nT_eq]
  exact Ev.step (fun k => by simp only [mastref2_ValuesOf.f]; rfl) this
theorem levels_loop_conf (l : List T_api_Value) (hl : wts l ≤ 1048576) (ih : ∀ k ∈ l, Ev (fun f => conf_levels.f f k) (lv k : Int)) : ∀ (d j a : Nat), l.length - j ≤ d → j ≤ l.length → a ≤ 1048576 →
    Ev (fun f => conf_levels.l0 f (a : Int) l (llen l) (j : Int)) ((max a (lvs (l.drop j)) + 1 : Nat) : Int) := by
  have hlen := len_le l
  have hlv := fun k (hk : k ∈ l) => (show lv k ≤ 1048576 by have h1 := wt_mem hk; have h2 := lv_wt k; omega)
  have fin : ∀ j a : Nat, l.length ≤ j → a ≤ 1048576 → Ev (fun f => conf_levels.l0 f (a : Int) l (llen l) (j : Int)) ((max a (lvs (l.drop j)) + 1 : Nat) : Int) := fun j a h ha => by
    rw [List.drop_eq_nil_of_le h]
    refine Ev.step (g := fun _ => some ((max a (lvs []) + 1 : Nat) : Int)) (fun k => ?_) (Ev.now fun _ => rfl)
    simp only [conf_levels.l0, llen_eq, ilt_f (show (l.length : Int) ≤ (j : Int) by omega), cond_false, lvs, u0 (show a ≤ 4611686018427387904 by omega)]
    simp
  intro d
  induction d with
  | zero => intro j a hd hj ha; exact fin j a (by omega) ha
  | succ d ihd =>
    intro j a hd hj ha
    rcases Nat.lt_or_ge j l.length with hlt | hge
    · rw [List.drop_eq_getElem_cons hlt]
      have hk := hlv _ (List.getElem_mem hlt)
      have := ihd (j + 1) (max a (lv l[j])) (by omega) hlt (by omega)
      rw [show max (max a (lv l[j])) (lvs (l.drop (j + 1))) = max a (lvs (l[j] :: l.drop (j + 1))) by simp only [lvs]; omega] at this
      refine Ev.step (g := fun k => (conf_levels.f k l[j]).bind fun y2 => conf_levels.l0 k (imax (a : Int) y2) l (llen l) ((j + 1 : Nat) : Int)) (fun k => ?_) (Ev.bind (ih _ (List.getElem_mem hlt)) (by rw [imax_nat]; exact this))
      simp only [conf_levels.l0, llen_eq, ilt_t (show (j : Int) < (l.length : Int) by omega), cond_true, lat_lt hlt, Option.bind_some, eta, u0 (show j ≤ 4611686018427387904 by omega)]
    · exact fin j a hge ha
theorem levels_conf : ∀ t, wt t ≤ 1048576 → Ev (fun f => conf_levels.f f t) (lv t : Int) := tree fun t ih hn => by
  rw [wt_eq] at hn
  have := levels_loop_conf t.fItems (by omega) (fun k hk => ih k hk (by have := wt_mem hk; omega)) t.fItems.length 0 0 (by omega) (by omega) (by omega)
  rw [List.drop_zero, Nat.zero_max] at this
  rw [lv_eq]
  exact Ev.step (fun k => by simp only [conf_levels.f]; rfl) this

theorem levels_loop_ref (l : List T_api_Value) (hl : wts l ≤ 1048576) (ih : ∀ k ∈ l, Ev (fun f => mastref2_LevelsOf.f f k) (lv k : Int)) : ∀ (d j a : Nat), l.length - j ≤ d → j ≤ l.length → a ≤ 1048576 →
    Ev (fun f => mastref2_LevelsOf.l0 f (a : Int) l (llen l) (j : Int)) ((max a (lvs (l.drop j)) + 1 : Nat) : Int) := by
  have hlen := len_le l
  have hlv := fun k (hk : k ∈ l) => (show lv k ≤ 1048576 by have h1 := wt_mem hk; have h2 := lv_wt k; omega)
  have fin : ∀ j a : Nat, l.length ≤ j → a ≤ 1048576 → Ev (fun f => mastref2_LevelsOf.l0 f (a : Int) l (llen l) (j : Int)) ((max a (lvs (l.drop j)) + 1 : Nat) : Int) := fun j a h ha => by
    rw [List.drop_eq_nil_of_le h]
    refine Ev.step (g := fun _ => some ((max a (lvs []) + 1 : Nat) : Int)) (fun k => ?_) (Ev.now fun _ => rfl)
    simp only [mastref2_LevelsOf.l0, llen_eq, ilt_f (show (l.length : Int) ≤ (j : Int) by omega), cond_false, lvs, u0 (show a ≤ 4611686018427387904 by omega)]
    simp
  intro d
  induction d with
  | zero => intro j a hd hj ha; exact fin j a (by omega) ha
  | succ d ihd =>
    intro j a hd hj ha
    rcases Nat.lt_or_ge j l.length with hlt | hge
    · rw [List.drop_eq_getElem_cons hlt]
      have hk := hlv _ (List.getElem_mem hlt)
      have := ihd (j + 1) (max a (lv l[j])) (by omega) hlt (by omega)
      rw [show max (max a (lv l[j])) (lvs (l.drop (j + 1))) = max a (lvs (l[j] :: l.drop (j + 1))) by simp only [lvs]; omega] at this
      refine Ev.step (g := fun k => (mastref2_LevelsOf.f k l[j]).bind fun y2 => mastref2_LevelsOf.l0 k (imax (a : Int) y2) l (llen l) ((j + 1 : Nat) : Int)) (fun k => ?_) (Ev.bind (ih _ (List.getElem_mem hlt)) (by rw [imax_nat]; exact this))
      simp only [mastref2_LevelsOf.l0, llen_eq, ilt_t (show (j : Int) < (l.length : Int) by omega), cond_true, lat_lt hlt, Option.bind_some, eta, u0 (show j ≤ 4611686018427387904 by omega)]
    · exact fin j a hge ha
theorem levels_ref : ∀ t, wt t ≤ 1048576 → Ev (fun f => mastref2_LevelsOf.f f t) (lv t : Int) := tree fun t ih hn => by
  rw [wt_eq] at hn
  have := levels_loop_ref t.fItems (by omega) (fun k hk => ih k hk (by have := wt_mem hk; omega)) t.fItems.length 0 0 (by omega) (by omega) (by omega)
  rw [List.drop_zero, Nat.zero_max] at this
  rw [lv_eq]
  exact Ev.step (fun k => by simp only [mastref2_LevelsOf.f]; rfl) this


/-! Bad bytes. -/
def badB (b : UInt8) : Bool := ilt (b.toNat : Int) 32 && (!ieq (b.toNat : Int) 9 && !ieq (b.toNat : Int) 10)
def bad (s : ByteArray) : Bool := s.data.toList.any badB
theorem bad_conf (s : ByteArray) (hs : s.size ≤ 2000000) : Ev (fun k => conf_badBytes.f k s) (bad s) := by
  have hl := size_l s
  have h := find_pure s.data.toList 0 (Nat.zero_le _) (fun k j => conf_badBytes.l0 k s (j : Int)) (fun _ => some false) badB (fun _ => true) false
    (fun k j h => by
      simp only [conf_badBytes.l0, slen_l, ilen _ _ h, cond_true, sat_l h, Option.bind_some, u0 (show j ≤ 4611686018427387904 by omega), badB]
      cases ilt (s.data.toList[j].toNat : Int) 32 <;> cases ieq (s.data.toList[j].toNat : Int) 9 <;> cases ieq (s.data.toList[j].toNat : Int) 10 <;> rfl)
    (fun k => by simp only [conf_badBytes.l0, slen_l, ilen', cond_false]) (Ev.now fun _ => rfl)
  rw [List.drop_zero, fl_const] at h
  refine Ev.congr (fun k => by simp only [conf_badBytes.f]; rfl) (show Ev _ (bad s) from ?_)
  unfold bad
  rw [show (s.data.toList.any badB) = (bif s.data.toList.any badB then true else false) by cases s.data.toList.any badB <;> rfl]
  exact h

theorem bad_ref (s : ByteArray) (hs : s.size ≤ 2000000) : Ev (fun k => mastref2_badByte.f k s) (bad s) := by
  have hl := size_l s
  have h := find_pure s.data.toList 0 (Nat.zero_le _) (fun k j => mastref2_badByte.l0 k s (j : Int)) (fun _ => some false) badB (fun _ => true) false
    (fun k j h => by
      simp only [mastref2_badByte.l0, slen_l, ilen _ _ h, cond_true, sat_l h, Option.bind_some, u0 (show j ≤ 4611686018427387904 by omega), badB]
      cases ilt (s.data.toList[j].toNat : Int) 32 <;> cases ieq (s.data.toList[j].toNat : Int) 9 <;> cases ieq (s.data.toList[j].toNat : Int) 10 <;> rfl)
    (fun k => by simp only [mastref2_badByte.l0, slen_l, ilen', cond_false]) (Ev.now fun _ => rfl)
  rw [List.drop_zero, fl_const] at h
  refine Ev.congr (fun k => by simp only [mastref2_badByte.f]; rfl) (show Ev _ (bad s) from ?_)
  unfold bad
  rw [show (s.data.toList.any badB) = (bif s.data.toList.any badB then true else false) by cases s.data.toList.any badB <;> rfl]
  exact h


/-! Keys. -/
def small (c : UInt8) : Bool := bif ile 97 (c.toNat : Int) then ile (c.toNat : Int) 122 else false
def ins (c : UInt8) : Bool := small c || (bif ile 48 (c.toNat : Int) then ile (c.toNat : Int) 57 else false) || ieq (c.toNat : Int) 45 || ieq (c.toNat : Int) 95
def keyL : List UInt8 → Bool
  | [] => false
  | c :: r => decide (r.length < 40) && small c && r.all ins
def key (s : ByteArray) : Bool := keyL s.data.toList
theorem seq_empty (s : ByteArray) : seq s c_empty = s.data.toList.isEmpty := by
  unfold seq
  rw [ByteArray.toList_eq, ByteArray.toList_eq]
  cases h : s.data.toList <;> rfl
theorem all_ins (r : List UInt8) : (bif r.any fun c => !ins c then false else true) = r.all ins := by
  rw [List.all_eq_not_any_not]
  cases r.any fun c => !ins c <;> rfl
theorem key_conf (s : ByteArray) : Ev (fun k => conf_isKey.f k s) (key s) := by
  cases h : s.data.toList with
  | nil => exact Ev.now fun k => by simp only [conf_isKey.f, seq_empty, h, key, keyL, List.isEmpty_nil, cond_true]
  | cons c r =>
    by_cases hl : r.length < 40
    · have hl' : s.data.toList.length ≤ 40 := by rw [h]; simp; omega
      cases hc : small c with
      | false =>
        refine Ev.now fun k => ?_
        simp only [conf_isKey.f, seq_empty, h, key, keyL, List.isEmpty_cons, cond_false, slen_l, ilt_f (show ((c :: r).length : Int) ≤ 40 by rw [← h]; omega), sat_0 h, Option.bind_some, conf_isSmall.f, hc, Bool.and_false, Bool.false_and]
        rw [show (bif ile 97 (c.toNat : Int) then ile (c.toNat : Int) 122 else false) = small c from rfl, hc]
        rfl
      | true =>
        have q := find_pure s.data.toList 1 (by rw [h]; simp) (fun k j => conf_isKey.l0 k s (j : Int)) (fun _ => some true) (fun c => !ins c) (fun _ => false) true
          (fun k j h => by
            simp only [conf_isKey.l0, slen_l, ilen _ _ h, cond_true, sat_l h, Option.bind_some, u0 (show j ≤ 4611686018427387904 by omega), conf_isSmall.f, conf_isDigit.f, ins, small]
            cases (bif ile 97 (s.data.toList[j].toNat : Int) then ile (s.data.toList[j].toNat : Int) 122 else false) <;> cases (bif ile 48 (s.data.toList[j].toNat : Int) then ile (s.data.toList[j].toNat : Int) 57 else false) <;> cases ieq (s.data.toList[j].toNat : Int) 45 <;> cases ieq (s.data.toList[j].toNat : Int) 95 <;> rfl)
          (fun k => by simp only [conf_isKey.l0, slen_l, ilen', cond_false]) (Ev.now fun _ => rfl)
        rw [fl_const, h, List.drop_succ_cons, List.drop_zero, all_ins] at q
        have e : key s = r.all ins := by unfold key; rw [h]; simp [keyL, hl, hc]
        rw [e]
        refine Ev.congr (fun k => ?_) q
        simp only [conf_isKey.f, seq_empty, h, List.isEmpty_cons, cond_false, slen_l, ilt_f (show ((c :: r).length : Int) ≤ 40 by rw [← h]; omega), sat_0 h, Option.bind_some, conf_isSmall.f]
        rw [show (bif ile 97 (c.toNat : Int) then ile (c.toNat : Int) 122 else false) = small c from rfl, hc]
        rfl
    · refine Ev.now fun k => ?_
      simp only [conf_isKey.f, seq_empty, h, key, keyL, List.isEmpty_cons, cond_false, slen_l, ilt_t (show (40 : Int) < ((c :: r).length : Int) by simp; omega), cond_true, decide_eq_false hl, Bool.false_and]

theorem mem_dw {α : Type} {p : α → Bool} : ∀ {l : List α} {x : α}, x ∈ l → p x = false → x ∈ l.dropWhile p
  | a :: l, x, h, hp => by
    rw [List.dropWhile_cons]
    split
    · rename_i ha
      rcases List.mem_cons.1 h with rfl | h
      · rw [hp] at ha; cases ha
      · exact mem_dw h hp
    · exact h
theorem dw_nil {α : Type} {p : α → Bool} : ∀ {l : List α}, (∀ x ∈ l, p x = true) → l.dropWhile p = []
  | [], _ => rfl
  | a :: l, h => by rw [List.dropWhile_cons, if_pos (h a (List.mem_cons_self ..))]; exact dw_nil fun x hx => h x (List.mem_cons_of_mem _ hx)
theorem trim_nil (l cs : List UInt8) : (Lib.trimS l cs).isEmpty = l.all (cs.contains ·) := by
  unfold Lib.trimS Lib.trimLeftS Lib.trimRightS
  cases h : l.all (cs.contains ·) with
  | true =>
    have h := List.all_eq_true.1 h
    rw [dw_nil (l := l.reverse) fun x hx => h x (List.mem_reverse.1 hx)]
    rfl
  | false =>
    obtain ⟨x, hx, hp⟩ : ∃ x ∈ l, cs.contains x = false := by
      rcases List.all_eq_false.1 h with ⟨x, hx, hp⟩
      exact ⟨x, hx, by simpa using hp⟩
    have h1 : x ∈ (l.reverse.dropWhile (cs.contains ·)).reverse := List.mem_reverse.2 (mem_dw (List.mem_reverse.2 hx) hp)
    have h2 := mem_dw h1 hp
    cases e : List.dropWhile (cs.contains ·) (l.reverse.dropWhile (cs.contains ·)).reverse with
    | nil => rw [e] at h2; cases h2
    | cons _ _ => rfl
theorem set_ins (c : UInt8) : c_abcdefghijklmnopqrst_0e2e2cf4.data.toList.contains c = ins c := by
  have h : ∀ n : Fin 256, c_abcdefghijklmnopqrst_0e2e2cf4.data.toList.contains (UInt8.ofNat n.val) = ins (UInt8.ofNat n.val) := by decide +kernel
  have := h ⟨c.toNat, c.toNat_lt⟩
  simpa using this
theorem keyR_ok (s : ByteArray) (hs : s.size ≤ 2000000) : mastref2_IsKey.f s = some (key s) := by
  unfold mastref2_IsKey.f key
  rw [seq_empty, slen_l]
  have hc : strings_Trim.f s c_abcdefghijklmnopqrst_0e2e2cf4 = some ⟨(Lib.trimS s.data.toList c_abcdefghijklmnopqrst_0e2e2cf4.data.toList).toArray⟩ := by
    unfold strings_Trim.f
    rw [if_pos ⟨by omega, by decide, by decide +kernel⟩]
  rw [hc]
  cases h : s.data.toList with
  | nil => simp [keyL]
  | cons c r =>
    simp only [List.isEmpty_cons, cond_false, sat_0 h, Option.bind_some, keyL]
    by_cases hl : r.length < 40
    · rw [ilt_f (show ((c :: r).length : Int) ≤ 40 by simp; omega), cond_false, decide_eq_true hl, Bool.true_and]
      unfold small
      rw [ilt_d, ilt_d, ile_d, ile_d]
      by_cases h1 : (c.toNat : Int) < 97
      · simp [h1, show ¬ (97 : Int) ≤ c.toNat by omega]
      · by_cases h2 : (122 : Int) < c.toNat
        · simp [h1, h2, show ¬ (c.toNat : Int) ≤ 122 by omega]
        · rw [decide_eq_false h1, decide_eq_false h2, decide_eq_true (show (97 : Int) ≤ c.toNat by omega), decide_eq_true (show (c.toNat : Int) ≤ 122 by omega)]
          simp only [cond_false, cond_true, Bool.true_and]
          rw [seq_empty]
          show some (Lib.trimS (c :: r) _).isEmpty = _
          rw [trim_nil, show (fun x => c_abcdefghijklmnopqrst_0e2e2cf4.data.toList.contains x) = ins from funext set_ins, List.all_cons]
          have : ins c = true := by
            unfold ins small
            rw [ile_t (show (97 : Int) ≤ c.toNat by omega), ile_t (show (c.toNat : Int) ≤ 122 by omega)]
            rfl
          rw [this]; rfl
    · rw [ilt_t (show (40 : Int) < ((c :: r).length : Int) by simp; omega), cond_true, decide_eq_false hl]
      rfl

/-- What is wrong with the keys. -/
def ks : Option ByteArray → List ByteArray → Int
  | _, [] => 0
  | p, x :: r => bif !key x then 12 else bif (match p with | none => false | some y => sle x y) then 5 else ks (some x) r
def prev (l : List ByteArray) : Nat → Option ByteArray
  | 0 => none
  | j + 1 => l[j]?
theorem prev_succ {l : List ByteArray} {j : Nat} (h : j < l.length) : prev l (j + 1) = some l[j] := List.getElem?_eq_getElem h
theorem keys_loop_conf (k0 : Int) (b0 : Bool) (i0 : Int) (t0 : ByteArray) (is0 : List T_api_Value) (l : List ByteArray) (hl : kz l ≤ 1048576) : ∀ (d j : Nat), l.length - j ≤ d → j ≤ l.length →
    Ev (fun k => conf_valueFault.l1 k k0 b0 i0 t0 is0 l l (llen l) (j : Int)) (ks (prev l j) (l.drop j)) := by
  have hlen := klen_le l
  intro d
  have fin : ∀ j : Nat, l.length ≤ j → Ev (fun k => conf_valueFault.l1 k k0 b0 i0 t0 is0 l l (llen l) (j : Int)) (ks (prev l j) (l.drop j)) := fun j h => by
    rw [List.drop_eq_nil_of_le h]
    refine Ev.step (fun k => ?_) (show Ev (fun _ => some 0) (ks (prev l j) []) from Ev.now fun _ => rfl)
    simp only [conf_valueFault.l1, llen_eq, ilt_f (show (l.length : Int) ≤ (j : Int) by omega), cond_false]
  induction d with
  | zero => intro j hd hj; exact fin j (by omega)
  | succ d ihd =>
    intro j hd hj
    rcases Nat.lt_or_ge j l.length with hlt | hge
    · rw [List.drop_eq_getElem_cons hlt]
      have hr := ihd (j + 1) (by omega) hlt
      rw [prev_succ hlt] at hr
      have hkz := kz_mem (List.getElem_mem hlt)
      cases hk : key l[j] with
      | false =>
        refine Ev.step (fun k => by simp only [conf_valueFault.l1, llen_eq, ilt_t (show (j : Int) < (l.length : Int) by omega), cond_true, lat_lt hlt, Option.bind_some]; rfl) (Ev.bind (key_conf l[j]) ?_)
        rw [hk]
        exact Ev.now fun _ => by simp [ks, hk]
      | true =>
        cases j with
        | zero =>
          have e : ks (prev l 0) (l[0] :: l.drop 1) = ks (some l[0]) (l.drop 1) := by simp [ks, hk, prev]
          rw [e]
          refine Ev.step (fun k => by simp only [conf_valueFault.l1, llen_eq, ilt_t (show ((0 : Nat) : Int) < (l.length : Int) by omega), cond_true, lat_lt hlt, Option.bind_some]; rfl) (Ev.bind (key_conf l[0]) ?_)
          rw [hk]
          simp only [Bool.not_true, cond_false, ilt_f (show ((0 : Nat) : Int) ≤ 0 by omega), u0 (show 0 ≤ 4611686018427387904 by omega)]
          exact hr
        | succ i =>
          have hi : i < l.length := by omega
          have w : wsub .i64 ((i + 1 : Nat) : Int) 1 = (i : Int) := by rw [wsub64 (by omega) (by omega)]; omega
          rw [prev_succ hi]
          cases hle : sle l[i + 1] l[i] with
          | true =>
            have e : ks (some l[i]) (l[i + 1] :: l.drop (i + 1 + 1)) = 5 := by simp [ks, hk, hle]
            rw [e]
            refine Ev.step (fun k => by simp only [conf_valueFault.l1, llen_eq, ilt_t (show ((i + 1 : Nat) : Int) < (l.length : Int) by omega), cond_true, lat_lt hlt, Option.bind_some]; rfl) (Ev.bind (key_conf l[i + 1]) ?_)
            rw [hk]
            simp only [Bool.not_true, cond_false, ilt_t (show (0 : Int) < ((i + 1 : Nat) : Int) by omega), cond_true, w, lat_lt hi, Option.bind_some, hle, u0 (show i + 1 ≤ 4611686018427387904 by omega)]
            exact Ev.now fun _ => rfl
          | false =>
            have e : ks (some l[i]) (l[i + 1] :: l.drop (i + 1 + 1)) = ks (some l[i + 1]) (l.drop (i + 1 + 1)) := by simp [ks, hk, hle]
            rw [e]
            refine Ev.step (fun k => by simp only [conf_valueFault.l1, llen_eq, ilt_t (show ((i + 1 : Nat) : Int) < (l.length : Int) by omega), cond_true, lat_lt hlt, Option.bind_some]; rfl) (Ev.bind (key_conf l[i + 1]) ?_)
            rw [hk]
            simp only [Bool.not_true, cond_false, ilt_t (show (0 : Int) < ((i + 1 : Nat) : Int) by omega), cond_true, w, lat_lt hi, Option.bind_some, hle, u0 (show i + 1 ≤ 4611686018427387904 by omega)]
            exact hr
    · exact fin j hge
theorem keys_conf (k0 : Int) (b0 : Bool) (i0 : Int) (t0 : ByteArray) (is0 : List T_api_Value) (l : List ByteArray) (hl : kz l ≤ 1048576) : Ev (fun k => conf_valueFault.l1 k k0 b0 i0 t0 is0 l l (llen l) 0) (ks none l) := by
  have := keys_loop_conf k0 b0 i0 t0 is0 l hl  l.length 0 (by omega) (by omega)
  rw [List.drop_zero] at this
  exact this

theorem keys_loop_ref (k0 : Int) (b0 : Bool) (i0 : Int) (t0 : ByteArray) (is0 : List T_api_Value) (l : List ByteArray) (hl : kz l ≤ 1048576) (e : Int) (he : Ev (fun k => mastref2_eachValue.l1 k is0 (llen is0) 0) e) : ∀ (d j : Nat), l.length - j ≤ d → j ≤ l.length →
    Ev (fun k => mastref2_eachValue.l0 k k0 b0 i0 t0 is0 l l (llen l) (j : Int)) (bif ieq (ks (prev l j) (l.drop j)) 0 then e else ks (prev l j) (l.drop j)) := by
  have hlen := klen_le l
  intro d
  have fin : ∀ j : Nat, l.length ≤ j → Ev (fun k => mastref2_eachValue.l0 k k0 b0 i0 t0 is0 l l (llen l) (j : Int)) (bif ieq (ks (prev l j) (l.drop j)) 0 then e else ks (prev l j) (l.drop j)) := fun j h => by
    rw [List.drop_eq_nil_of_le h]
    refine Ev.step (fun k => ?_) (show Ev (fun k => mastref2_eachValue.l1 k is0 (llen is0) 0) (bif ieq (ks (prev l j) []) 0 then e else ks (prev l j) []) from he)
    simp only [mastref2_eachValue.l0, llen_eq, ilt_f (show (l.length : Int) ≤ (j : Int) by omega), cond_false]
  induction d with
  | zero => intro j hd hj; exact fin j (by omega)
  | succ d ihd =>
    intro j hd hj
    rcases Nat.lt_or_ge j l.length with hlt | hge
    · rw [List.drop_eq_getElem_cons hlt]
      have hr := ihd (j + 1) (by omega) hlt
      rw [prev_succ hlt] at hr
      have hkz := kz_mem (List.getElem_mem hlt)
      cases hk : key l[j] with
      | false =>
        refine Ev.step (g := fun _ => some 12) (fun k => ?_) (Ev.now fun _ => by simp [ks, hk, ieq])
        simp only [mastref2_eachValue.l0, llen_eq, ilt_t (show (j : Int) < (l.length : Int) by omega), cond_true, lat_lt hlt, Option.bind_some, keyR_ok l[j] (by omega), hk, Bool.not_false]
      | true =>
        cases j with
        | zero =>
          have e : ks (prev l 0) (l[0] :: l.drop 1) = ks (some l[0]) (l.drop 1) := by simp [ks, hk, prev]
          rw [e]
          refine Ev.step (fun k => ?_) hr
          simp only [mastref2_eachValue.l0, llen_eq, ilt_t (show ((0 : Nat) : Int) < (l.length : Int) by omega), cond_true, lat_lt hlt, Option.bind_some, keyR_ok l[0] (by omega), hk, Bool.not_true, cond_false, ilt_f (show ((0 : Nat) : Int) ≤ 0 by omega), u0 (show 0 ≤ 4611686018427387904 by omega)]
        | succ i =>
          have hi : i < l.length := by omega
          have w : wsub .i64 ((i + 1 : Nat) : Int) 1 = (i : Int) := by rw [wsub64 (by omega) (by omega)]; omega
          rw [prev_succ hi]
          cases hle : sle l[i + 1] l[i] with
          | true =>
            have e : ks (some l[i]) (l[i + 1] :: l.drop (i + 1 + 1)) = 5 := by simp [ks, hk, hle]
            rw [e]
            refine Ev.step (g := fun _ => some 5) (fun k => ?_) (Ev.now fun _ => rfl)
            simp only [mastref2_eachValue.l0, llen_eq, ilt_t (show ((i + 1 : Nat) : Int) < (l.length : Int) by omega), cond_true, lat_lt hlt, Option.bind_some, keyR_ok l[i + 1] (by omega), hk, Bool.not_true, cond_false, ilt_t (show (0 : Int) < ((i + 1 : Nat) : Int) by omega), w, lat_lt hi, hle, u0 (show i + 1 ≤ 4611686018427387904 by omega)]
          | false =>
            have e : ks (some l[i]) (l[i + 1] :: l.drop (i + 1 + 1)) = ks (some l[i + 1]) (l.drop (i + 1 + 1)) := by simp [ks, hk, hle]
            rw [e]
            refine Ev.step (fun k => ?_) hr
            simp only [mastref2_eachValue.l0, llen_eq, ilt_t (show ((i + 1 : Nat) : Int) < (l.length : Int) by omega), cond_true, lat_lt hlt, Option.bind_some, keyR_ok l[i + 1] (by omega), hk, Bool.not_true, cond_false, ilt_t (show (0 : Int) < ((i + 1 : Nat) : Int) by omega), w, lat_lt hi, hle, u0 (show i + 1 ≤ 4611686018427387904 by omega)]
    · exact fin j hge
theorem keys_ref (k0 : Int) (b0 : Bool) (i0 : Int) (t0 : ByteArray) (is0 : List T_api_Value) (l : List ByteArray) (hl : kz l ≤ 1048576) (e : Int) (he : Ev (fun k => mastref2_eachValue.l1 k is0 (llen is0) 0) e) : Ev (fun k => mastref2_eachValue.l0 k k0 b0 i0 t0 is0 l l (llen l) 0) (bif ieq (ks none l) 0 then e else ks (none) (l)) := by
  have := keys_loop_ref k0 b0 i0 t0 is0 l hl e he l.length 0 (by omega) (by omega)
  rw [List.drop_zero] at this
  exact this


/-! One value. -/
def un (v : T_api_Value) : Bool := (v.fBool && !ieq v.fKind 1) || ((!ieq v.fInt 0 && !ieq v.fKind 2) && !ieq v.fKind 4) || (!seq v.fText c_empty && !ieq v.fKind 3) || ((ilt 0 (llen v.fItems) && !ieq v.fKind 5) && !ieq v.fKind 6) || (ilt 0 (llen v.fKeys) && !ieq v.fKind 6)
def un2 (v : T_api_Value) : Bool := ieq v.fKind 6 && !ieq (llen v.fKeys) (llen v.fItems)
def own (v : T_api_Value) : Int :=
  bif ilt v.fKind 0 || ilt 6 v.fKind then 10 else bif un v || un2 v then 1 else bif ieq v.fKind 4 && (ilt v.fInt 0 || ilt 84005 v.fInt) then 2 else bif ilt 5000 (slen v.fText) then 4 else bif bad v.fText then 9 else ks none v.fKeys
mutual
def vf : T_api_Value → Int
  | ⟨k, b, i, t, is, s⟩ => bif ieq (own ⟨k, b, i, t, is, s⟩) 0 then vfs is else own ⟨k, b, i, t, is, s⟩
def vfs : List T_api_Value → Int
  | [] => 0
  | t :: r => bif ieq (vf t) 0 then vfs r else vf t
end
theorem vf_eq (t : T_api_Value) : vf t = bif ieq (own t) 0 then vfs t.fItems else own t := by cases t; simp [vf]
theorem vfs_find : ∀ (l : List T_api_Value) (v : Int), (∃ t ∈ l, vf t ≠ 0 ∧ True) ∨ vfs l = 0 := fun l v => by
  induction l with
  | nil => exact .inr rfl
  | cons a l ih =>
    by_cases h : vf a = 0
    · rcases ih with ⟨t, h1, h2⟩ | h2
      · exact .inl ⟨t, List.mem_cons_of_mem _ h1, h2⟩
      · right; simp only [vfs, ieq_t h, cond_true]; exact h2
    · exact .inl ⟨a, List.mem_cons_self .., h, trivial⟩
theorem items_conf (l : List T_api_Value) (hl : wts l ≤ 1048576) (ih : ∀ k ∈ l, Ev (fun f => conf_valuesFault.f f k) (vf k)) : Ev (fun k => conf_valuesFault.l0 k l (llen l) 0) (vfs l) := by
  have hlen := len_le l
  have : ∀ (d j : Nat), l.length - j ≤ d → j ≤ l.length → Ev (fun k => conf_valuesFault.l0 k l (llen l) (j : Int)) (vfs (l.drop j)) := by
    intro d
    have fin : ∀ j : Nat, l.length ≤ j → Ev (fun k => conf_valuesFault.l0 k l (llen l) (j : Int)) (vfs (l.drop j)) := fun j h => by
      rw [List.drop_eq_nil_of_le h]
      refine Ev.step (g := fun _ => some 0) (fun k => ?_) (Ev.now fun _ => rfl)
      simp only [conf_valuesFault.l0, llen_eq, ilt_f (show (l.length : Int) ≤ (j : Int) by omega), cond_false]
    induction d with
    | zero => intro j hd hj; exact fin j (by omega)
    | succ d ihd =>
      intro j hd hj
      rcases Nat.lt_or_ge j l.length with hlt | hge
      · rw [List.drop_eq_getElem_cons hlt]
        refine Ev.step (fun k => by simp only [conf_valuesFault.l0, llen_eq, ilt_t (show (j : Int) < (l.length : Int) by omega), cond_true, lat_lt hlt, Option.bind_some, eta]; rfl) (Ev.bind (ih _ (List.getElem_mem hlt)) ?_)
        simp only [vfs, u0 (show j ≤ 4611686018427387904 by omega)]
        cases ieq (vf l[j]) 0 with
        | true => exact ihd (j + 1) (by omega) hlt
        | false => exact Ev.now fun _ => rfl
      · exact fin j hge
  have := this l.length 0 (by omega) (by omega)
  rw [List.drop_zero] at this
  exact this

theorem items_ref (l : List T_api_Value) (hl : wts l ≤ 1048576) (ih : ∀ k ∈ l, Ev (fun f => mastref2_eachValue.f f k) (vf k)) : Ev (fun k => mastref2_eachValue.l1 k l (llen l) 0) (vfs l) := by
  have hlen := len_le l
  have : ∀ (d j : Nat), l.length - j ≤ d → j ≤ l.length → Ev (fun k => mastref2_eachValue.l1 k l (llen l) (j : Int)) (vfs (l.drop j)) := by
    intro d
    have fin : ∀ j : Nat, l.length ≤ j → Ev (fun k => mastref2_eachValue.l1 k l (llen l) (j : Int)) (vfs (l.drop j)) := fun j h => by
      rw [List.drop_eq_nil_of_le h]
      refine Ev.step (g := fun _ => some 0) (fun k => ?_) (Ev.now fun _ => rfl)
      simp only [mastref2_eachValue.l1, llen_eq, ilt_f (show (l.length : Int) ≤ (j : Int) by omega), cond_false]
    induction d with
    | zero => intro j hd hj; exact fin j (by omega)
    | succ d ihd =>
      intro j hd hj
      rcases Nat.lt_or_ge j l.length with hlt | hge
      · rw [List.drop_eq_getElem_cons hlt]
        refine Ev.step (fun k => by simp only [mastref2_eachValue.l1, llen_eq, ilt_t (show (j : Int) < (l.length : Int) by omega), cond_true, lat_lt hlt, Option.bind_some, eta]; rfl) (Ev.bind (ih _ (List.getElem_mem hlt)) ?_)
        simp only [vfs, u0 (show j ≤ 4611686018427387904 by omega)]
        cases ieq (vf l[j]) 0 with
        | true => exact ihd (j + 1) (by omega) hlt
        | false => exact Ev.now fun _ => rfl
      · exact fin j hge
  have := this l.length 0 (by omega) (by omega)
  rw [List.drop_zero] at this
  exact this


theorem unused_ok (v : T_api_Value) : Ev (fun k => conf_unused.f k v) (un v || un2 v) := by
  have l0 : ∀ b : Bool, Ev (fun k => conf_unused.l0 k v.fKind v.fBool v.fInt v.fText v.fItems v.fKeys v.fKind b) (b || ((ilt 0 (llen v.fItems) && !ieq v.fKind 5) && !ieq v.fKind 6) || (ilt 0 (llen v.fKeys) && !ieq v.fKind 6) || un2 v) := fun b => by
    refine Ev.step (g := fun _ => some (b || ((ilt 0 (llen v.fItems) && !ieq v.fKind 5) && !ieq v.fKind 6) || (ilt 0 (llen v.fKeys) && !ieq v.fKind 6) || un2 v)) (fun k => ?_) (Ev.now fun _ => rfl)
    simp only [conf_unused.l0, un2]
    cases b <;> cases ilt 0 (llen v.fItems) <;> cases ieq v.fKind 5 <;> cases ieq v.fKind 6 <;> cases ilt 0 (llen v.fKeys) <;> cases ieq (llen v.fKeys) (llen v.fItems) <;> rfl
  have l1 := l0 (v.fBool && !ieq v.fKind 1 || ((!ieq v.fInt 0 && !ieq v.fKind 2) && !ieq v.fKind 4) || (!seq v.fText c_empty && !ieq v.fKind 3))
  refine Ev.congr (fun k => ?_) l1
  simp only [conf_unused.f]
  cases v.fBool <;> cases ieq v.fKind 1 <;> cases ieq v.fInt 0 <;> cases ieq v.fKind 2 <;> cases ieq v.fKind 4 <;> cases seq v.fText c_empty <;> cases ieq v.fKind 3 <;> rfl

theorem own_ok (v : T_api_Value) (hv : wt v ≤ 1048576) : Ev (fun k => conf_valueFault.f k v) (own v) := by
  rw [wt_eq] at hv
  have l0 : ∀ b : Bool, Ev (fun k => conf_valueFault.l0 k v.fKind v.fBool v.fInt v.fText v.fItems v.fKeys b) (bif b then 2 else bif ilt 5000 (slen v.fText) then 4 else bif bad v.fText then 9 else ks none v.fKeys) := fun b => by
    cases b with
    | true => exact Ev.step (g := fun _ => some 2) (fun k => by simp only [conf_valueFault.l0, cond_true]) (Ev.now fun _ => rfl)
    | false =>
      simp only [cond_false]
      cases h : ilt 5000 (slen v.fText) with
      | true => exact Ev.step (g := fun _ => some 4) (fun k => by simp only [conf_valueFault.l0, cond_false, h, cond_true]) (Ev.now fun _ => rfl)
      | false =>
        simp only [cond_false]
        refine Ev.step (fun k => by simp only [conf_valueFault.l0, cond_false, h]; rfl) (Ev.bind (bad_conf v.fText (by omega)) ?_)
        cases bad v.fText with
        | true => exact Ev.now fun _ => rfl
        | false =>
          simp only [cond_false]
          exact keys_conf v.fKind v.fBool v.fInt v.fText v.fItems v.fKeys (by omega)
  unfold own
  cases h : ilt v.fKind 0 || ilt 6 v.fKind with
  | true =>
    refine Ev.now fun k => ?_
    simp only [conf_valueFault.f]
    rw [show (bif ilt v.fKind 0 then true else ilt 6 v.fKind) = true by rw [← h]; cases ilt v.fKind 0 <;> rfl]
    rfl
  | false =>
    simp only [cond_false]
    refine Ev.congr (g := fun k => (conf_unused.f k v).bind fun y1 => bif y1 then some 1 else bif ieq v.fKind 4 then (conf_badDay.f v.fInt).bind fun y2 => conf_valueFault.l0 k v.fKind v.fBool v.fInt v.fText v.fItems v.fKeys y2 else conf_valueFault.l0 k v.fKind v.fBool v.fInt v.fText v.fItems v.fKeys false) (fun k => ?_) (Ev.bind (unused_ok v) ?_)
    · simp only [conf_valueFault.f, eta]
      rw [show (bif ilt v.fKind 0 then true else ilt 6 v.fKind) = false by rw [← h]; cases ilt v.fKind 0 <;> rfl]
      rfl
    · cases un v || un2 v with
      | true => exact Ev.now fun _ => rfl
      | false =>
        simp only [cond_false]
        cases h4 : ieq v.fKind 4 with
        | false => simpa using l0 false
        | true =>
          have := l0 (ilt v.fInt 0 || ilt 84005 v.fInt)
          simp only [cond_true, conf_badDay.f, Option.bind_some, Bool.true_and]
          rw [show (bif ilt v.fInt 0 then true else ilt 84005 v.fInt) = (ilt v.fInt 0 || ilt 84005 v.fInt) by cases ilt v.fInt 0 <;> rfl]
          exact this

theorem vf_ok : ∀ v, wt v ≤ 1048576 → Ev (fun k => conf_valuesFault.f k v) (vf v) := tree fun v ih hv => by
  have hv' := hv
  rw [wt_eq] at hv'
  rw [vf_eq]
  refine Ev.step (g := fun k => (conf_valueFault.f k v).bind fun y1 => bif !ieq y1 0 then some y1 else conf_valuesFault.l0 k v.fItems (llen v.fItems) 0) (fun k => by simp only [conf_valuesFault.f, eta]) (Ev.bind (own_ok v hv) ?_)
  cases h : ieq (own v) 0 with
  | false => exact Ev.now fun _ => rfl
  | true => exact items_conf v.fItems (by omega) fun k hk => ih k hk (by have := wt_mem hk; omega)

theorem vfR_ok : ∀ v, wt v ≤ 1048576 → Ev (fun k => mastref2_eachValue.f k v) (vf v) := tree fun v ih hv => by
  rw [wt_eq] at hv
  have li := items_ref v.fItems (by omega) fun k hk => ih k hk (by have := wt_mem hk; omega)
  have lk := keys_ref v.fKind v.fBool v.fInt v.fText v.fItems v.fKeys (by omega) (vfs v.fItems) li
  have lb := bad_ref v.fText (by omega)
  rw [vf_eq]
  cases hk : ilt v.fKind 0 || ilt 6 v.fKind with
  | true =>
    refine Ev.step (g := fun _ => some 10) (fun k => ?_) (Ev.now fun _ => by simp [own, hk, ieq])
    simp only [mastref2_eachValue.f]
    rw [show (bif ilt v.fKind 0 then true else ilt 6 v.fKind) = true by rw [← hk]; cases ilt v.fKind 0 <;> rfl]
    rfl
  | false =>
    have e1 : (bif ilt v.fKind 0 then true else ilt 6 v.fKind) = false := by rw [← hk]; cases ilt v.fKind 0 <;> rfl
    have e2 : (bif (bif (bif (bif (bif v.fBool then (!ieq v.fKind 1) else false) then true else (bif (bif (!ieq v.fInt 0) then (!ieq v.fKind 2) else false) then (!ieq v.fKind 4) else false)) then true else (bif (!seq v.fText c_empty) then (!ieq v.fKind 3) else false)) then true else (bif (bif (ilt 0 (llen v.fItems)) then (!ieq v.fKind 5) else false) then (!ieq v.fKind 6) else false)) then true else (bif (ilt 0 (llen v.fKeys)) then (!ieq v.fKind 6) else false)) = un v := by
      unfold un
      cases v.fBool <;> cases ieq v.fKind 1 <;> cases ieq v.fInt 0 <;> cases ieq v.fKind 2 <;> cases ieq v.fKind 4 <;> cases seq v.fText c_empty <;> cases ieq v.fKind 3 <;> cases ilt 0 (llen v.fItems) <;> cases ieq v.fKind 5 <;> cases ieq v.fKind 6 <;> cases ilt 0 (llen v.fKeys) <;> rfl
    have e3 : (bif ieq v.fKind 6 then (!ieq (llen v.fKeys) (llen v.fItems)) else false) = un2 v := by
      unfold un2
      cases ieq v.fKind 6 <;> rfl
    have e4 : (bif ieq v.fKind 4 then (bif ilt v.fInt 0 then true else ilt 84005 v.fInt) else false) = (ieq v.fKind 4 && (ilt v.fInt 0 || ilt 84005 v.fInt)) := by
      cases ieq v.fKind 4 <;> cases ilt v.fInt 0 <;> rfl
    have st : ∀ k, mastref2_eachValue.f (k + 1) v = bif un v then some 1 else bif un2 v then some 1 else bif (ieq v.fKind 4 && (ilt v.fInt 0 || ilt 84005 v.fInt)) then some 2 else bif ilt 5000 (slen v.fText) then some 4 else (mastref2_badByte.f k v.fText).bind fun y1 => bif y1 then some 9 else mastref2_eachValue.l0 k v.fKind v.fBool v.fInt v.fText v.fItems v.fKeys v.fKeys (llen v.fKeys) 0 := fun k => by
      simp only [mastref2_eachValue.f, e1, e2, e3, e4, cond_false]
    cases h1 : un v with
    | true => exact Ev.step (g := fun _ => some 1) (fun k => by rw [st, h1]; rfl) (Ev.now fun _ => by simp [own, hk, h1, ieq])
    | false =>
      cases h2 : un2 v with
      | true => exact Ev.step (g := fun _ => some 1) (fun k => by rw [st, h1, h2]; rfl) (Ev.now fun _ => by simp [own, hk, h1, h2, ieq])
      | false =>
        cases h3 : (ieq v.fKind 4 && (ilt v.fInt 0 || ilt 84005 v.fInt)) with
        | true => exact Ev.step (g := fun _ => some 2) (fun k => by rw [st, h1, h2, h3]; rfl) (Ev.now fun _ => by rw [show own v = 2 by unfold own; rw [hk, h1, h2, h3]; rfl]; rfl)
        | false =>
          cases h4 : ilt 5000 (slen v.fText) with
          | true => exact Ev.step (g := fun _ => some 4) (fun k => by rw [st, h1, h2, h3, h4]; rfl) (Ev.now fun _ => by rw [show own v = 4 by unfold own; rw [hk, h1, h2, h3, h4]; rfl]; rfl)
          | false =>
            have eo : own v = bif bad v.fText then 9 else ks none v.fKeys := by simp [own, hk, h1, h2, h3, h4]
            rw [eo]
            refine Ev.step (fun k => by rw [st, h1, h2, h3, h4]; rfl) (Ev.bind lb ?_)
            cases bad v.fText with
            | true => exact Ev.now fun _ => rfl
            | false => exact lk

/-- The check. -/
def chk (v : T_api_Value) : Int := bif decide (1000 < nT v) then 4 else bif decide (8 < lv v) then 13 else vf v
theorem chk_ok (v : T_api_Value) (hv : wt v ≤ 1048576) : Ev (fun k => conf_Check.f k v) (chk v) := by
  obtain ⟨r, r1, r2, r3⟩ := count_conf v hv
  refine Ev.congr (g := fun k => (conf_count.f k v).bind fun y1 => bif ilt 1000 y1 then some 4 else (conf_levels.f k v).bind fun y2 => bif ilt 8 y2 then some 13 else (conf_valuesFault.f k v).bind fun y3 => some y3) (fun k => by simp only [conf_Check.f, eta]) (Ev.bind r1 ?_)
  unfold chk
  by_cases c : 1000 < nT v
  · rw [ilt_t (show (1000 : Int) < (r : Int) by omega), decide_eq_true c]; exact Ev.now fun _ => rfl
  · rw [ilt_f (show (r : Int) ≤ 1000 by omega), decide_eq_false c]
    refine Ev.bind (levels_conf v hv) ?_
    by_cases c2 : 8 < lv v
    · rw [ilt_t (show (8 : Int) < (lv v : Int) by omega), decide_eq_true c2]; exact Ev.now fun _ => rfl
    · rw [ilt_f (show (lv v : Int) ≤ 8 by omega), decide_eq_false c2]
      exact Ev.bind (vf_ok v hv) (Ev.now fun _ => rfl)
theorem chkR_ok (v : T_api_Value) (hv : wt v ≤ 1048576) : Ev (fun k => mastref2_ConfCheck.f k v) (chk v) := by
  refine Ev.congr (g := fun k => (mastref2_ValuesOf.f k v).bind fun y1 => bif ilt 1000 y1 then some 4 else (mastref2_LevelsOf.f k v).bind fun y2 => bif ilt 8 y2 then some 13 else (mastref2_eachValue.f k v).bind fun y3 => some y3) (fun k => by simp only [mastref2_ConfCheck.f, eta]) (Ev.bind (values_ok v hv) ?_)
  unfold chk
  by_cases c : 1000 < nT v
  · rw [ilt_t (show (1000 : Int) < (nT v : Int) by omega), decide_eq_true c]; exact Ev.now fun _ => rfl
  · rw [ilt_f (show (nT v : Int) ≤ 1000 by omega), decide_eq_false c]
    refine Ev.bind (levels_ref v hv) ?_
    by_cases c2 : 8 < lv v
    · rw [ilt_t (show (8 : Int) < (lv v : Int) by omega), decide_eq_true c2]; exact Ev.now fun _ => rfl
    · rw [ilt_f (show (lv v : Int) ≤ 8 by omega), decide_eq_false c2]
      exact Ev.bind (vfR_ok v hv) (Ev.now fun _ => rfl)
/-! Pieces between dots. -/
def pcs (c : UInt8) : List UInt8 → List (List UInt8)
  | [] => [[]]
  | b :: l => if b = c then [] :: pcs c l else match pcs c l with
    | [] => [[b]]
    | p :: r => (b :: p) :: r
theorem splitK_pcs (c : UInt8) : ∀ l : List UInt8, Lib.splitK [c] 0 (l.count c) l = pcs c l
  | [] => rfl
  | b :: l => by
    have ih := splitK_pcs c l
    by_cases h : b = c
    · subst h
      rw [List.count_cons_self]
      have hx : Lib.index (b :: l) [b] = 0 := by
        unfold Lib.index
        rw [if_pos (by simp [List.isPrefixOf])]
      unfold Lib.splitK
      rw [hx]
      simp only [pcs, if_true]
      rw [if_neg (by decide)]
      simp [ih]
    · rw [List.count_cons_of_ne (fun e => h e)]
      have hx : Lib.index (b :: l) [c] = if Lib.index l [c] == -1 then -1 else Lib.index l [c] + 1 := by
        conv => lhs; unfold Lib.index
        rw [if_neg (by simp [List.isPrefixOf]; exact fun e => h e.symm)]
      simp only [pcs, if_neg h]
      cases hn : l.count c with
      | zero =>
        rw [hn] at ih
        rw [← ih]; rfl
      | succ n =>
        rw [hn] at ih
        rw [← ih]
        unfold Lib.splitK
        rw [hx]
        by_cases hm : Lib.index l [c] = -1
        · simp [hm]
        · have hg := Lib.index_ge l [c]
          have e1 : (Lib.index l [c] == -1) = false := beq_eq_false_iff_ne.2 hm
          simp only [e1, Bool.false_eq_true, if_false]
          have e2 : (Lib.index l [c] + 1 == -1) = false := beq_eq_false_iff_ne.2 (by omega)
          simp only [e2, Bool.false_eq_true, if_false]
          have e3 : (Lib.index l [c] + 1).toNat = (Lib.index l [c]).toNat + 1 := by omega
          rw [e3]
          simp [List.take_succ_cons, List.drop_succ_cons]
theorem parts_pcs (s : ByteArray) : (Lib.splitB c__2e 0 (Lib.countB s c__2e) s).map (·.data.toList) = pcs 46 s.data.toList := by
  rw [Lib.splitB_data]
  show Lib.splitK [46] 0 (Lib.count s.data.toList [46]) s.data.toList = _
  rw [Lib.count_one]
  exact splitK_pcs 46 _
theorem pcs_none (c : UInt8) : ∀ p : List UInt8, c ∉ p → pcs c p = [p]
  | [], _ => rfl
  | b :: l, h => by
    have h1 : b ≠ c := fun e => h (by rw [e]; exact List.mem_cons_self ..)
    have h2 := pcs_none c l fun e => h (List.mem_cons_of_mem _ e)
    simp only [pcs, if_neg h1, h2]
theorem pcs_cut (c : UInt8) : ∀ (p r : List UInt8), c ∉ p → pcs c (p ++ c :: r) = p :: pcs c r
  | [], r, _ => by simp [pcs]
  | b :: l, r, h => by
    have h1 : b ≠ c := fun e => h (by rw [e]; exact List.mem_cons_self ..)
    have h2 := pcs_cut c l r fun e => h (List.mem_cons_of_mem _ e)
    simp only [List.cons_append, pcs, if_neg h1, h2]
theorem ex_data (s : ByteArray) (a b : Nat) (h : a ≤ b) : (s.extract a b).data.toList = (s.data.toList.drop a).take (b - a) := by
  rw [ByteArray.data_extract, Array.toList_extract]
def digB (c : UInt8) : Bool := bif ile 48 (c.toNat : Int) then ile (c.toNat : Int) 57 else false
/-- Is a piece a number. -/
def dg : List UInt8 → Bool
  | [] => false
  | c :: r => ((c :: r).all digB && decide (r.length ≤ 3)) && (!ieq (c.toNat : Int) 48 || (c :: r == [48]))
theorem seq_zero (p : ByteArray) : seq p c_0 = (p.data.toList == [48]) := by
  unfold seq
  rw [ByteArray.toList_eq, ByteArray.toList_eq]
  rfl
theorem set_dig (c : UInt8) : c_0123456789.data.toList.contains c = digB c := by
  have h : ∀ n : Fin 256, c_0123456789.data.toList.contains (UInt8.ofNat n.val) = digB (UInt8.ofNat n.val) := by decide +kernel
  have := h ⟨c.toNat, c.toNat_lt⟩
  simpa using this
theorem digits_ok (s : ByteArray) (hs : s.size ≤ 2000000) : mastref2_digitsAlone.f s = some (!s.data.toList.isEmpty && s.data.toList.all digB) := by
  have hc : strings_Trim.f s c_0123456789 = some ⟨(Lib.trimS s.data.toList c_0123456789.data.toList).toArray⟩ := by
    unfold strings_Trim.f
    rw [if_pos ⟨by omega, by decide, by decide +kernel⟩]
  unfold mastref2_digitsAlone.f
  rw [seq_empty, hc]
  cases h : s.data.toList.isEmpty with
  | true => rfl
  | false =>
    simp only [Bool.not_false, cond_true, Option.bind_some, Bool.true_and]
    rw [seq_empty]
    show some (Lib.trimS s.data.toList _).isEmpty = _
    rw [trim_nil, show (fun x => c_0123456789.data.toList.contains x) = digB from funext set_dig]
theorem split_sz (sep : ByteArray) : ∀ (k : Nat) (s x : ByteArray), x ∈ Lib.splitB sep 0 k s → x.size ≤ s.size
  | 0, s, x, h => by
    have : x = s := by simpa [Lib.splitB] using h
    rw [this]; exact Nat.le_refl _
  | k + 1, s, x, h => by
    unfold Lib.splitB at h
    split at h
    · have : x = s := by simpa using h
      rw [this]; exact Nat.le_refl _
    · rcases List.mem_cons.1 h with rfl | h
      · rw [ByteArray.size_extract]; omega
      · have := split_sz sep k _ x h
        rw [ByteArray.size_extract] at this; omega
/-! The parts of a route, as the program takes them. -/
theorem dec_all : ∀ (l : List UInt8) (n : Nat), l.all digB = true → ∃ m, Lib.decFrom n l = some m
  | [], n, _ => ⟨n, rfl⟩
  | b :: r, n, h => by
    rw [List.all_cons, Bool.and_eq_true] at h
    have hb : 48 ≤ b.toNat ∧ b.toNat ≤ 57 := by
      have := h.1
      unfold digB at this
      by_cases c : (48 : Int) ≤ b.toNat
      · rw [ile_t c, cond_true] at this
        have := of_decide_eq_true this
        omega
      · rw [ile_f (by omega)] at this; exact nomatch this
    unfold Lib.decFrom Lib.digitVal
    rw [if_pos hb]
    exact dec_all r _ h.2
theorem dig_not {c : UInt8} (h : digB c = true) : c ≠ 45 ∧ c ≠ 43 ∧ c ≠ 42 := by
  refine ⟨?_, ?_, ?_⟩ <;> rintro rfl <;> exact absurd h (by decide)
theorem atoi_dg {p : ByteArray} (h : dg p.data.toList = true) : ∃ n, strconv_Atoi.f p = some n := by
  cases hb : p.data.toList with
  | nil => rw [hb] at h; exact nomatch h
  | cons c r =>
    rw [hb] at h
    simp only [dg, Bool.and_eq_true] at h
    obtain ⟨⟨h1, h2⟩, _⟩ := h
    have h2 : r.length ≤ 3 := of_decide_eq_true h2
    have hc := dig_not (List.all_eq_true.1 h1 c (List.mem_cons_self ..))
    obtain ⟨m, hm⟩ := dec_all (c :: r) 0 h1
    refine ⟨(m : Int), ?_⟩
    unfold strconv_Atoi.f atoiF
    rw [size_l, hb, if_pos (by simp; omega)]
    unfold Lib.atoi
    have e1 : (c == 45) = false := beq_eq_false_iff_ne.2 hc.1
    have e2 : (c == 43) = false := beq_eq_false_iff_ne.2 hc.2.1
    simp only [e1, e2, Bool.false_eq_true, if_false, Lib.decNat, List.isEmpty_cons, hm]
    rfl
theorem slen_dash : slen c__2d = 1 := rfl
theorem trimDash (p : ByteArray) : strings_TrimPrefix.f p c__2d = some (match p.data.toList with | [] => p | c :: r => if c = 45 then p.extract 1 p.size else p) := by
  unfold strings_TrimPrefix.f internal_stringslite_TrimPrefix.f internal_stringslite_HasPrefix.f
  rw [slen_dash]
  have hl := size_l p
  cases hb : p.data.toList with
  | nil =>
    rw [hb] at hl
    rw [ile_f (show slen p < 1 by show (p.size : Int) < 1; rw [hl]; decide)]
    rfl
  | cons c r =>
    rw [hb] at hl
    have hl1 : 1 ≤ p.size := by rw [hl]; simp
    rw [ile_t (show (1 : Int) ≤ slen p by show (1 : Int) ≤ p.size; omega)]
    have hx : ssub p 0 1 = some (p.extract 0 1) := by
      unfold ssub
      rw [if_pos ⟨by omega, by omega, by omega⟩]; rfl
    have hy : ssub p 1 (slen p) = some (p.extract 1 p.size) := by
      unfold ssub
      rw [show slen p = (p.size : Int) from rfl, if_pos ⟨by omega, by omega, by omega⟩]; rfl
    have hs : seq (p.extract 0 1) c__2d = decide (c = 45) := by
      unfold seq
      rw [ByteArray.toList_eq, ByteArray.toList_eq, ex_data p 0 1 (by omega), hb]
      show ([c] == [45]) = _
      by_cases h : c = 45
      · subst h; rfl
      · rw [decide_eq_false h]; simp [h]
    simp only [cond_true, hx, Option.bind_some, hs]
    by_cases h : c = 45
    · rw [decide_eq_true h, if_pos h]
      simp only [cond_true, hy, Option.bind_some]
    · rw [decide_eq_false h, if_neg h]
      rfl
/-- A piece that does not begin with a dash: is it of digits. -/
theorem integer_ok (p : ByteArray) (hs : p.size ≤ 2000000) (c : UInt8) (r : List UInt8) (hb : p.data.toList = c :: r) (hc : c ≠ 45) : Ev (fun k => conf_isInteger.f k p) ((c :: r).all digB) := by
  have hl := size_l p
  have ht : strings_TrimPrefix.f p c__2d = some p := by rw [trimDash, hb]; simp [hc]
  have he : seq p c_empty = false := by rw [seq_empty, hb]; rfl
  have q := find_pure p.data.toList 0 (Nat.zero_le _) (fun k j => conf_isInteger.l0 k p (j : Int)) (fun _ => some true) (fun c => !digB c) (fun _ => false) true
    (fun k j h => by
      simp only [conf_isInteger.l0, slen_l, Go.Proofs.YtmbjiadilfbooaaGreatDoor.Lift.ilen _ _ h, cond_true, sat_l h, Option.bind_some, conf_isDigit.f, u0 (show j ≤ 4611686018427387904 by omega)]
      rfl)
    (fun k => by simp only [conf_isInteger.l0, slen_l, Go.Proofs.YtmbjiadilfbooaaGreatDoor.Lift.ilen', cond_false]) (Ev.now fun _ => rfl)
  have e : (bif p.data.toList.any (fun c => !digB c) then false else true) = (c :: r).all digB := by
    rw [hb, List.all_eq_not_any_not]
    cases (c :: r).any fun c => !digB c <;> rfl
  rw [fl_const, List.drop_zero, e] at q
  exact Ev.congr (fun k => by simp only [conf_isInteger.f, ht, Option.bind_some, he, cond_false]; rfl) q
/-- Some answer for a piece that begins with a dash. -/
theorem integer_any (p : ByteArray) (hs : p.size ≤ 2000000) : ∃ b, Ev (fun k => conf_isInteger.f k p) b := by
  cases ht : strings_TrimPrefix.f p c__2d with
  | none => rw [trimDash] at ht; cases ht
  | some y =>
    have hy : y.size ≤ 2000000 := by
      rw [trimDash] at ht
      have := Option.some.inj ht
      cases hb : p.data.toList with
      | nil => rw [hb] at this; rw [← this]; exact hs
      | cons c r =>
        rw [hb] at this
        simp only at this
        split at this
        · rw [← this, ByteArray.size_extract]; omega
        · rw [← this]; exact hs
    have hl := size_l y
    cases he : seq y c_empty with
    | true => exact ⟨false, Ev.now fun k => by simp only [conf_isInteger.f, ht, Option.bind_some, he, cond_true]⟩
    | false =>
      have q := find_pure y.data.toList 0 (Nat.zero_le _) (fun k j => conf_isInteger.l0 k y (j : Int)) (fun _ => some true) (fun c => !digB c) (fun _ => false) true
        (fun k j h => by
          simp only [conf_isInteger.l0, slen_l, Go.Proofs.YtmbjiadilfbooaaGreatDoor.Lift.ilen _ _ h, cond_true, sat_l h, Option.bind_some, conf_isDigit.f, u0 (show j ≤ 4611686018427387904 by omega)]
          rfl)
        (fun k => by simp only [conf_isInteger.l0, slen_l, Go.Proofs.YtmbjiadilfbooaaGreatDoor.Lift.ilen', cond_false]) (Ev.now fun _ => rfl)
      exact ⟨_, Ev.congr (fun k => by simp only [conf_isInteger.f, ht, Option.bind_some, he, cond_false]; rfl) q⟩

/-- Is it a piece of a route. -/
def pkS (st : Bool) (p : List UInt8) : Bool := dg p || keyL p || (st && p == [42])
theorem seq_star (p : ByteArray) : seq p c__2a = (p.data.toList == [42]) := by
  unfold seq
  rw [ByteArray.toList_eq, ByteArray.toList_eq]
  rfl
/-- The step of a piece. -/
def stp (p : ByteArray) : T_conf_step := bif key p then ⟨p, 0, false⟩ else bif seq p c__2a then ⟨c_empty, 0, true⟩ else ⟨c_empty, (strconv_Atoi.f p).getD 0, false⟩
theorem step_loop (st : Bool) (P : List ByteArray) (hP : P.length ≤ 3000000) (hz : ∀ x ∈ P, x.size ≤ 2000000) : ∀ (d j : Nat), P.length - j ≤ d → j ≤ P.length →
    Ev (fun k => conf_steps.l0 k st ((P.take j).map stp) P (llen P) (j : Int)) (bif (P.drop j).all (fun p => pkS st p.data.toList) then (P.map stp, true) else ([], false)) := by
  intro d
  have last : ∀ j, P.length ≤ j → Ev (fun k => conf_steps.l0 k st ((P.take j).map stp) P (llen P) (j : Int)) (bif (P.drop j).all (fun p => pkS st p.data.toList) then (P.map stp, true) else ([], false)) := fun j hj => by
    rw [List.drop_eq_nil_of_le hj, List.take_of_length_le hj]
    refine Ev.step (g := fun _ => some (P.map stp, true)) (fun k => ?_) (Ev.now fun _ => rfl)
    simp only [conf_steps.l0, llen_eq, ilt_f (show (P.length : Int) ≤ (j : Int) by omega), cond_false]
  induction d with
  | zero => intro j hd hj; exact last j (by omega)
  | succ d ih =>
    intro j hd hj
    rcases Nat.lt_or_ge j P.length with hlt | hge
    · have hr := ih (j + 1) (by omega) hlt
      rw [List.drop_eq_getElem_cons hlt, List.all_cons]
      have hzj := hz _ (List.getElem_mem hlt)
      have hw : wadd .i64 (j : Int) 1 = ((j + 1 : Nat) : Int) := u0 (by omega)
      have push : lapp 32 ((P.take j).map stp) [stp P[j]] = some ((P.take (j + 1)).map stp) := by
        rw [take_map hlt]
        exact lapp_ok (by simp only [List.length_map, List.length_take, List.length_singleton]; omega) (by simp only [List.length_map, List.length_take, List.length_singleton]; omega)
      have hk := key_conf P[j]
      refine Ev.step (fun k => by simp only [conf_steps.l0, llen_eq, Go.Proofs.YtmbjiadilfbooaaGreatDoor.Lift.ilen _ _ hlt, cond_true, lat_lt hlt, Option.bind_some, hw]; rfl) (Ev.bind hk ?_)
      cases hkey : key P[j] with
      | true =>
        have e1 : pkS st P[j].data.toList = true := by unfold pkS; rw [show keyL P[j].data.toList = key P[j] from rfl, hkey, Bool.or_true, Bool.true_or]
        have e2 : stp P[j] = ⟨P[j], 0, false⟩ := by unfold stp; rw [hkey]; rfl
        rw [e1, Bool.true_and]
        rw [e2] at push
        simp only [cond_true, push, Option.bind_some]
        exact hr
      | false =>
        simp only [cond_false]
        cases hstar : (st && seq P[j] c__2a) with
        | true =>
          obtain ⟨g1, g2⟩ := Bool.and_eq_true_iff.1 hstar
          have e1 : pkS st P[j].data.toList = true := by unfold pkS; rw [← seq_star, hstar, Bool.or_true]
          have e2 : stp P[j] = ⟨c_empty, 0, true⟩ := by unfold stp; rw [hkey, g2]; rfl
          rw [e1, Bool.true_and]
          rw [e2] at push
          simp only [g1, g2, cond_true, push, Option.bind_some]
          rw [g1] at hr
          exact hr
        | false =>
          have e0 : (bif st then seq P[j] c__2a else false) = false := by rw [← hstar]; cases st <;> rfl
          have e1 : pkS st P[j].data.toList = dg P[j].data.toList := by unfold pkS; rw [← seq_star, hstar, show keyL P[j].data.toList = key P[j] from rfl, hkey, Bool.or_false, Bool.or_false]
          rw [e1]
          simp only [e0, cond_false]
          cases hb : P[j].data.toList with
          | nil =>
            have : seq P[j] c_empty = true := by rw [seq_empty, hb]; rfl
            simp only [this, cond_true, dg, Bool.false_and, cond_false]
            exact Ev.now fun _ => rfl
          | cons c r =>
            have hne : seq P[j] c_empty = false := by rw [seq_empty, hb]; rfl
            have hsl : slen P[j] = ((c :: r).length : Int) := by rw [slen_l, hb]
            simp only [hne, cond_false]
            by_cases hlen : 3 < r.length
            · rw [ilt_t (show (4 : Int) < slen P[j] by rw [hsl, List.length_cons]; omega)]
              have : dg (c :: r) = false := by simp only [dg, decide_eq_false (show ¬ r.length ≤ 3 by omega), Bool.and_false, Bool.false_and]
              rw [this]
              exact Ev.now fun _ => rfl
            · rw [ilt_f (show slen P[j] ≤ (4 : Int) by rw [hsl, List.length_cons]; omega)]
              simp only [cond_false]
              by_cases h45 : c = 45
              · obtain ⟨b, hbb⟩ := integer_any P[j] hzj
                have : dg (c :: r) = false := by
                  simp only [dg, List.all_cons, h45, show digB 45 = false from by decide, Bool.false_and]
                rw [this]
                refine Ev.bind hbb ?_
                cases b with
                | false => exact Ev.now fun _ => rfl
                | true =>
                  have hi : ieq (c.toNat : Int) 45 = true := by rw [h45]; rfl
                  simp only [Bool.not_true, cond_false, sat_0 hb, Option.bind_some, hi, cond_true]
                  exact Ev.now fun _ => rfl
              · refine Ev.bind (integer_ok P[j] hzj c r hb h45) ?_
                cases had : (c :: r).all digB with
                | false =>
                  have : dg (c :: r) = false := by simp only [dg, had, Bool.false_and]
                  rw [this]
                  exact Ev.now fun _ => rfl
                | true =>
                  have hi : ieq (c.toNat : Int) 45 = false := ieq_f fun e => h45 (UInt8.toNat_inj.1 (by rw [show (45 : UInt8).toNat = 45 from rfl]; omega))
                  simp only [Bool.not_true, cond_false, sat_0 hb, Option.bind_some, hi]
                  have hdg : dg (c :: r) = (!ieq (c.toNat : Int) 48 || (c :: r == [48])) := by simp only [dg, had, decide_eq_true (show r.length ≤ 3 by omega), Bool.true_and]
                  have hz0 : seq P[j] c_0 = (c :: r == [48]) := by rw [seq_zero, hb]
                  rw [hdg, hz0]
                  cases q : (!ieq (c.toNat : Int) 48 || (c :: r == [48])) with
                  | false =>
                    have : (bif ieq (c.toNat : Int) 48 then !(c :: r == [48]) else false) = true := by
                      revert q
                      cases ieq (c.toNat : Int) 48 <;> cases (c :: r == [48]) <;> simp
                    simp only [this, cond_true]
                    exact Ev.now fun _ => rfl
                  | true =>
                    have : (bif ieq (c.toNat : Int) 48 then !(c :: r == [48]) else false) = false := by
                      revert q
                      cases ieq (c.toNat : Int) 48 <;> cases (c :: r == [48]) <;> simp
                    obtain ⟨n, hn⟩ := atoi_dg (p := P[j]) (by rw [hb, hdg, q])
                    have hst : seq P[j] c__2a = false := by
                      rw [seq_star, hb]
                      have := (dig_not (List.all_eq_true.1 had c (List.mem_cons_self ..))).2.2
                      simp [this]
                    have e2 : stp P[j] = ⟨c_empty, n, false⟩ := by unfold stp; rw [hkey, hst, hn]; rfl
                    rw [e2] at push
                    simp only [this, cond_false, hn, Option.bind_some, push]
                    exact hr
    · exact last j hge
def rpS (st : Bool) (s : ByteArray) : Bool := bif ilt 400 (slen s) then false else bif seq s c_empty then true else (pcs 46 s.data.toList).all (pkS st)
def parts (s : ByteArray) : List ByteArray := Lib.splitB c__2e 0 (Lib.countB s c__2e) s
def stps (s : ByteArray) : List T_conf_step := bif seq s c_empty then [] else (parts s).map stp
theorem steps_ok (st : Bool) (s : ByteArray) (hs : s.size ≤ 1048576) : Ev (fun k => conf_steps.f k s st) (bif rpS st s then (stps s, true) else ([], false)) := by
  unfold rpS stps
  cases h4 : ilt 400 (slen s) with
  | true => exact Ev.now fun k => by simp only [conf_steps.f, h4, cond_true]; rfl
  | false =>
    cases he : seq s c_empty with
    | true => exact Ev.now fun k => by simp only [conf_steps.f, h4, he, cond_true, cond_false]
    | false =>
      simp only [cond_false]
      have hsp : strings_Split.f s c__2e = some (parts s) := by
        unfold strings_Split.f splitF
        rw [if_pos ⟨by omega, by decide⟩]; rfl
      have hsz : ∀ x ∈ parts s, x.size ≤ 2000000 := fun x hx => by have := split_sz _ _ _ _ hx; omega
      have hlen : (parts s).length ≤ 3000000 := by
        have h1 := Lib.splitB_length_le c__2e 0 (Lib.countB s c__2e) s
        have h2 := Lib.countB_le c__2e (by decide) s.size s (Nat.le_refl _)
        unfold parts; omega
      have q := step_loop st (parts s) hlen hsz (parts s).length 0 (by omega) (by omega)
      have e : ((parts s).drop 0).all (fun p => pkS st p.data.toList) = (pcs 46 s.data.toList).all (pkS st) := by
        rw [List.drop_zero, ← parts_pcs s, List.all_map]; rfl
      rw [e] at q
      exact Ev.congr (fun k => by simp only [conf_steps.f, h4, he, cond_false, hsp, Option.bind_some]; rfl) q
theorem routeR_ok (st : Bool) (s : ByteArray) (hs : s.size ≤ 2000000) : ∃ o, Ev (fun k => mastref2_RouteParts.f k s st) (o, rpS st s) := by
  unfold rpS
  cases h4 : ilt 400 (slen s) with
  | true => exact ⟨[], Ev.now fun k => by simp only [mastref2_RouteParts.f, h4, cond_true]⟩
  | false =>
    cases he : seq s c_empty with
    | true => exact ⟨[], Ev.now fun k => by simp only [mastref2_RouteParts.f, h4, he, cond_true, cond_false]⟩
    | false =>
      simp only [cond_false]
      have hsp : strings_Split.f s c__2e = some (Lib.splitB c__2e 0 (Lib.countB s c__2e) s) := by
        unfold strings_Split.f splitF
        rw [if_pos ⟨by omega, by decide⟩]
      generalize hP : Lib.splitB c__2e 0 (Lib.countB s c__2e) s = P at hsp
      have hpp : P.map (·.data.toList) = pcs 46 s.data.toList := by rw [← hP]; exact parts_pcs s
      have hsz : ∀ x ∈ P, x.size ≤ 2000000 := fun x hx => by rw [← hP] at hx; have := split_sz _ _ _ _ hx; omega
      have hlen : P.length ≤ 4611686018427387904 := by
        have h1 := Lib.splitB_length_le c__2e 0 (Lib.countB s c__2e) s
        have h2 := Lib.countB_le c__2e (by decide) s.size s (Nat.le_refl _)
        rw [hP] at h1; omega
      have q := find_loop2 P 0 (Nat.zero_le _) (fun k j => mastref2_RouteParts.l0 k st P P (llen P) (j : Int))
        (fun _ p => (mastref2_digitsAlone.f p).bind fun y3 => bif (bif y3 then (ile (slen p) 4) else false) then ((sat p 0).bind fun y4 => some (p, (bif (!ieq y4 48) then true else (seq p c_0)))) else some (p, false))
        (fun k j y => mastref2_RouteParts.l1 k st P y.1 y.2 P (llen P) (j : Int)) (fun _ => some (P, true)) (fun p => !pkS st p.data.toList) (fun _ => ([], false)) (P, true)
        (fun k j h => by
          simp only [mastref2_RouteParts.l0, llen_eq, Go.Proofs.YtmbjiadilfbooaaGreatDoor.Lift.ilen _ _ h, cond_true, lat_lt h, Option.bind_some]
          cases mastref2_digitsAlone.f P[j] with
          | none => rfl
          | some y =>
            simp only [Option.bind_some]
            cases (bif y then ile (slen P[j]) 4 else false) with
            | false => rfl
            | true =>
              simp only [cond_true]
              cases sat P[j] 0 <;> rfl)
        (fun k => by simp only [mastref2_RouteParts.l0, llen_eq, Go.Proofs.YtmbjiadilfbooaaGreatDoor.Lift.ilen', cond_false]) (Ev.now fun _ => rfl)
        (fun j h => by
          have hz := hsz _ (List.getElem_mem h)
          have hd := digits_ok P[j] hz
          have hk := keyR_ok P[j] hz
          have el : ile (slen P[j]) 4 = decide (P[j].data.toList.length ≤ 4) := by
            rw [slen_l, ile_d]
            by_cases c : P[j].data.toList.length ≤ 4
            · rw [decide_eq_true c, decide_eq_true (by omega)]
            · rw [decide_eq_false c, decide_eq_false (by omega)]
          refine ⟨(P[j], dg P[j].data.toList), Ev.now fun _ => ?_, fun hq => ?_, fun hq v hv => ?_⟩
          · rw [hd]
            simp only [Option.bind_some, el]
            cases hb : P[j].data.toList with
            | nil => rfl
            | cons c r =>
              rw [sat_0 hb, seq_zero, hb]
              simp only [List.isEmpty_cons, Bool.not_false, Bool.true_and, Option.bind_some, dg, List.length_cons]
              rw [show decide (r.length + 1 ≤ 4) = decide (r.length ≤ 3) by by_cases c : r.length ≤ 3 <;> simp [c] <;> omega]
              cases (c :: r).all digB <;> cases decide (r.length ≤ 3) <;> cases ieq (c.toNat : Int) 48 <;> rfl
          · have h1 : (dg P[j].data.toList = false ∧ key P[j] = false) ∧ (st && seq P[j] c__2a) = false := by
              have : pkS st P[j].data.toList = false := by simpa using hq
              unfold pkS at this
              obtain ⟨t1, t2⟩ := Bool.or_eq_false_iff.1 this
              obtain ⟨t3, t4⟩ := Bool.or_eq_false_iff.1 t1
              exact ⟨⟨t3, t4⟩, by rw [seq_star]; exact t2⟩
            have e0 : (bif st then seq P[j] c__2a else false) = false := by rw [← h1.2]; cases st <;> rfl
            refine Ev.step (g := fun _ => some ([], false)) (fun k => ?_) (Ev.now fun _ => rfl)
            simp only [mastref2_RouteParts.l1, h1.1.1, Bool.not_false, cond_true, hk, h1.1.2, Option.bind_some, cond_false, e0]
          · have h1 : pkS st P[j].data.toList = true := by simpa using hq
            unfold pkS at h1
            rw [← seq_star] at h1
            have hw : wadd .i64 (j : Int) 1 = ((j + 1 : Nat) : Int) := u0 (by omega)
            refine Ev.step (fun k => ?_) hv
            simp only [mastref2_RouteParts.l1, hw]
            cases hg : dg P[j].data.toList with
            | true => simp
            | false =>
              simp only [Bool.not_false, cond_true, hk, Option.bind_some]
              rw [hg, show keyL P[j].data.toList = key P[j] from rfl] at h1
              revert h1
              cases key P[j] <;> cases st <;> cases seq P[j] c__2a <;> simp)
      rw [fl_const, List.drop_zero] at q
      have e : (bif P.any (fun p => !pkS st p.data.toList) then (([] : List ByteArray), false) else (P, true)) = ((bif P.any (fun p => !pkS st p.data.toList) then ([] : List ByteArray) else P), (pcs 46 s.data.toList).all (pkS st)) := by
        have : (pcs 46 s.data.toList).all (pkS st) = !P.any fun p => !pkS st p.data.toList := by
          rw [← hpp, List.all_map, List.all_eq_not_any_not]; rfl
        rw [this]
        cases P.any fun p => !pkS st p.data.toList <;> rfl
      rw [e] at q
      exact ⟨_, Ev.congr (fun k => by simp only [mastref2_RouteParts.f, h4, he, cond_false, hsp, Option.bind_some]; rfl) q⟩

/-! Stars. -/
theorem key_star {p : List UInt8} (h : keyL p = true) : (42 : UInt8) ∉ p := by
  cases p with
  | nil => simp
  | cons c r =>
    simp only [keyL, Bool.and_eq_true] at h
    intro hm
    rcases List.mem_cons.1 hm with e | e
    · rw [← e] at h; exact absurd h.1.2 (by decide)
    · exact absurd (List.all_eq_true.1 h.2 42 e) (by decide)
theorem dg_star {p : List UInt8} (h : dg p = true) : (42 : UInt8) ∉ p := by
  cases p with
  | nil => simp
  | cons c r =>
    simp only [dg, Bool.and_eq_true] at h
    intro hm
    exact absurd (List.all_eq_true.1 h.1.1 42 hm) (by decide)
theorem mem_pcs (c x : UInt8) (hx : x ≠ c) : ∀ l : List UInt8, x ∈ l ↔ ∃ p ∈ pcs c l, x ∈ p
  | [] => by simp [pcs]
  | b :: l => by
    have ih := mem_pcs c x hx l
    by_cases h : b = c
    · simp only [pcs, if_pos h, List.mem_cons]
      constructor
      · rintro (e | e)
        · exact absurd (e.trans h) hx
        · obtain ⟨p, h1, h2⟩ := ih.1 e
          exact ⟨p, .inr h1, h2⟩
      · rintro ⟨p, h1 | h1, h2⟩
        · rw [h1] at h2; cases h2
        · exact .inr (ih.2 ⟨p, h1, h2⟩)
    · simp only [pcs, if_neg h]
      cases hp : pcs c l with
      | nil =>
        rw [hp] at ih
        simp only [List.mem_cons, List.not_mem_nil, or_false] at ih ⊢
        constructor
        · rintro (e | e)
          · exact ⟨[b], rfl, by simp [e]⟩
          · obtain ⟨p, h1, _⟩ := ih.1 e; cases h1
        · rintro ⟨p, h1, h2⟩
          rw [h1] at h2
          exact .inl (by simpa using h2)
      | cons p0 r =>
        rw [hp] at ih
        simp only [List.mem_cons] at ih ⊢
        constructor
        · rintro (e | e)
          · exact ⟨b :: p0, .inl rfl, by simp [e]⟩
          · obtain ⟨p, h1 | h1, h2⟩ := ih.1 e
            · exact ⟨b :: p0, .inl rfl, by rw [← h1]; exact List.mem_cons_of_mem _ h2⟩
            · exact ⟨p, .inr h1, h2⟩
        · rintro ⟨p, h1 | h1, h2⟩
          · rw [h1] at h2
            rcases List.mem_cons.1 h2 with e | e
            · exact .inl e
            · exact .inr (ih.2 ⟨p0, .inl rfl, e⟩)
          · exact .inr (ih.2 ⟨p, .inr h1, h2⟩)
theorem contains_mem (l : List UInt8) (c : UInt8) : Lib.contains l [c] = l.contains c := by
  unfold Lib.contains
  rw [Lib.index_one]
  have hg := Lib.indexByte_ge l c
  by_cases h : Lib.indexByte l c = -1
  · have h2 := Lib.indexByte_none h
    rw [decide_eq_false (by omega)]
    symm
    rw [Bool.eq_false_iff]
    intro hm
    have hm : c ∈ l := by simpa using hm
    obtain ⟨k, hk⟩ := List.mem_iff_getElem?.1 hm
    exact h2 k hk
  · obtain ⟨o, ho⟩ : ∃ o : Nat, Lib.indexByte l c = o := ⟨(Lib.indexByte l c).toNat, by omega⟩
    have h2 := (Lib.indexByte_some ho).1
    rw [decide_eq_true (by omega)]
    symm
    have : c ∈ l := List.mem_iff_getElem?.2 ⟨o, h2⟩
    simpa using this
theorem stp_star (p : ByteArray) : (stp p).fstar = (p.data.toList == [42]) := by
  unfold stp
  rw [seq_star]
  cases hk : key p with
  | true =>
    have := key_star (p := p.data.toList) hk
    simp only [cond_true]
    cases q : (p.data.toList == [42]) with
    | false => rfl
    | true => rw [beq_iff_eq.1 q] at this; simp at this
  | false =>
    cases (p.data.toList == [42]) <;> rfl
/-- Is there a star. -/
def star (s : ByteArray) : Bool := s.data.toList.contains 42
theorem star_ok {s : ByteArray} (h : rpS true s = true) (hne : seq s c_empty = false) : (stps s).any (fun x => x.fstar) = star s := by
  unfold rpS at h
  cases h4 : ilt 400 (slen s) with
  | true => rw [h4] at h; exact nomatch h
  | false =>
    rw [h4, hne] at h
    simp only [cond_false] at h
    unfold stps star
    rw [hne]
    simp only [cond_false]
    rw [List.any_map]
    have e1 : ((fun x : T_conf_step => x.fstar) ∘ stp) = fun p : ByteArray => (p.data.toList == [42]) := funext stp_star
    rw [e1]
    have e2 : (parts s).any (fun p => (p.data.toList == [42])) = (pcs 46 s.data.toList).any (· == [42]) := by
      rw [← parts_pcs s, List.any_map]; rfl
    rw [e2, Bool.eq_iff_iff, List.any_eq_true, List.contains_iff_mem, mem_pcs 46 42 (by decide) s.data.toList]
    constructor
    · rintro ⟨p, h1, h2⟩
      exact ⟨p, h1, by rw [beq_iff_eq.1 h2]; simp⟩
    · rintro ⟨p, h1, h2⟩
      refine ⟨p, h1, ?_⟩
      have := List.all_eq_true.1 h p h1
      unfold pkS at this
      rcases Bool.or_eq_true_iff.1 this with q | q
      · rcases Bool.or_eq_true_iff.1 q with q | q
        · exact absurd h2 (dg_star q)
        · exact absurd h2 (key_star q)
      · simpa using q
theorem parts_pos (s : ByteArray) : (parts s).length ≠ 0 := by
  unfold parts
  rw [Lib.splitB_all c__2e (by decide) 0 _ s rfl]; omega

/-! One field. -/
theorem feta (y : T_conf_Field) : T_conf_Field.mk y.fRoute y.fKind y.fNeed y.fBounded y.fMin y.fMax y.fOneOf y.fDefault = y := by cases y; rfl
def fz (f : T_conf_Field) : Nat := f.fRoute.size + kz f.fOneOf + wt f.fDefault + 1
def dflt (f : T_conf_Field) : Int := bif !ieq (chk f.fDefault) 0 then chk f.fDefault else bif ieq f.fDefault.fKind 0 then 0 else bif (!ieq f.fKind (-1) && !ieq f.fDefault.fKind f.fKind) then 10 else bif star f.fRoute then 1 else 0
def oneF (e : Int) : List ByteArray → Int
  | [] => e
  | s :: r => bif ilt 5000 (slen s) then 4 else bif bad s then 9 else oneF e r
def rest (f : T_conf_Field) : Int := bif (!ieq f.fKind (-1) && (ilt f.fKind 0 || ilt 6 f.fKind)) then 10 else bif (!f.fBounded && (!ieq f.fMin 0 || !ieq f.fMax 0)) then 1 else bif ilt f.fMax f.fMin then 5 else bif (ilt 0 (llen f.fOneOf) && !ieq f.fKind 3) then 1 else oneF (dflt f) f.fOneOf
def ff (f : T_conf_Field) (b : Bool) : Int := bif !(rpS true f.fRoute && !seq f.fRoute c_empty) then 3 else bif b then 6 else rest f

theorem oneL (f : T_conf_Field) (ks : List ByteArray) (vs : List Bool) (l : List ByteArray) (hl : l = f.fOneOf) (hf : fz f ≤ 1048576) (hr : rpS true f.fRoute = true) (hne : seq f.fRoute c_empty = false) : ∀ (d j : Nat), l.length - j ≤ d → j ≤ l.length →
    Ev (fun k => conf_fieldFault.l0 k ks vs f.fRoute f.fKind f.fNeed f.fBounded f.fMin f.fMax f.fOneOf f.fDefault.fKind f.fDefault.fBool f.fDefault.fInt f.fDefault.fText f.fDefault.fItems f.fDefault.fKeys (stps f.fRoute) l (llen l) (j : Int)) (oneF (dflt f) (l.drop j), ks, vs, ()) := by
  unfold fz at hf
  have hlen := klen_le f.fOneOf
  rw [← hl] at hlen hf
  have hst := star_ok hr hne
  have hsl : (stps f.fRoute).length ≤ 3000000 := by
    unfold stps
    rw [hne]
    simp only [cond_false, List.length_map]
    have h1 := Lib.splitB_length_le c__2e 0 (Lib.countB f.fRoute c__2e) f.fRoute
    have h2 := Lib.countB_le c__2e (by decide) f.fRoute.size f.fRoute (Nat.le_refl _)
    unfold parts; omega
  have hstar : Ev (fun k => conf_hasStar.f k (stps f.fRoute)) (star f.fRoute) := by
    have q := find_pure (stps f.fRoute) 0 (Nat.zero_le _) (fun k j => conf_hasStar.l0 k (stps f.fRoute) (llen (stps f.fRoute)) (j : Int)) (fun _ => some false) (fun x => x.fstar) (fun _ => true) false
      (fun k j h => by simp only [conf_hasStar.l0, llen_eq, Go.Proofs.YtmbjiadilfbooaaGreatDoor.Lift.ilen _ _ h, cond_true, lat_lt h, Option.bind_some, u0 (show j ≤ 4611686018427387904 by omega)])
      (fun k => by simp only [conf_hasStar.l0, llen_eq, Go.Proofs.YtmbjiadilfbooaaGreatDoor.Lift.ilen', cond_false]) (Ev.now fun _ => rfl)
    rw [fl_const, List.drop_zero, hst] at q
    have e : (bif star f.fRoute then true else false) = star f.fRoute := by cases star f.fRoute <;> rfl
    rw [e] at q
    exact Ev.congr (fun k => by simp only [conf_hasStar.f]; rfl) q
  intro d
  have last : ∀ j, l.length ≤ j → Ev (fun k => conf_fieldFault.l0 k ks vs f.fRoute f.fKind f.fNeed f.fBounded f.fMin f.fMax f.fOneOf f.fDefault.fKind f.fDefault.fBool f.fDefault.fInt f.fDefault.fText f.fDefault.fItems f.fDefault.fKeys (stps f.fRoute) l (llen l) (j : Int)) (oneF (dflt f) (l.drop j), ks, vs, ()) := fun j hj => by
    rw [List.drop_eq_nil_of_le hj]
    refine Ev.step (fun k => by simp only [conf_fieldFault.l0, llen_eq, ilt_f (show (l.length : Int) ≤ (j : Int) by omega), cond_false, eta]; rfl) (Ev.bind (chk_ok f.fDefault (by omega)) ?_)
    simp only [oneF, dflt]
    cases ieq (chk f.fDefault) 0 with
    | false => exact Ev.now fun _ => rfl
    | true =>
      simp only [Bool.not_true, cond_false]
      cases h0 : ieq f.fDefault.fKind 0 with
      | true => exact Ev.now fun _ => rfl
      | false =>
        simp only [Bool.not_false, cond_true, cond_false]
        cases h1 : (!ieq f.fKind (-1) && !ieq f.fDefault.fKind f.fKind) with
        | true =>
          simp only [show (bif !ieq f.fKind (-1) then !ieq f.fDefault.fKind f.fKind else false) = true by rw [← h1]; cases ieq f.fKind (-1) <;> rfl]
          exact Ev.now fun _ => rfl
        | false =>
          simp only [show (bif !ieq f.fKind (-1) then !ieq f.fDefault.fKind f.fKind else false) = false by rw [← h1]; cases ieq f.fKind (-1) <;> rfl, cond_false]
          refine Ev.bind hstar ?_
          cases star f.fRoute <;> exact Ev.now fun _ => rfl
  induction d with
  | zero => intro j hd hj; exact last j (by omega)
  | succ d ih =>
    intro j hd hj
    rcases Nat.lt_or_ge j l.length with hlt | hge
    · rw [List.drop_eq_getElem_cons hlt]
      have hz := kz_mem (List.getElem_mem hlt)
      have st : ∀ k, conf_fieldFault.l0 (k + 1) ks vs f.fRoute f.fKind f.fNeed f.fBounded f.fMin f.fMax f.fOneOf f.fDefault.fKind f.fDefault.fBool f.fDefault.fInt f.fDefault.fText f.fDefault.fItems f.fDefault.fKeys (stps f.fRoute) l (llen l) (j : Int) = bif ilt 5000 (slen l[j]) then some (4, ks, vs, ()) else (conf_badBytes.f k l[j]).bind fun y3 => bif y3 then some (9, ks, vs, ()) else conf_fieldFault.l0 k ks vs f.fRoute f.fKind f.fNeed f.fBounded f.fMin f.fMax f.fOneOf f.fDefault.fKind f.fDefault.fBool f.fDefault.fInt f.fDefault.fText f.fDefault.fItems f.fDefault.fKeys (stps f.fRoute) l (llen l) ((j + 1 : Nat) : Int) := fun k => by
        simp only [conf_fieldFault.l0, llen_eq, Go.Proofs.YtmbjiadilfbooaaGreatDoor.Lift.ilen _ _ hlt, cond_true, lat_lt hlt, Option.bind_some, u0 (show j ≤ 4611686018427387904 by omega)]
      simp only [oneF]
      cases h5 : ilt 5000 (slen l[j]) with
      | true => exact Ev.step (g := fun _ => some (4, ks, vs, ())) (fun k => by rw [st, h5]; rfl) (Ev.now fun _ => rfl)
      | false =>
        refine Ev.step (fun k => by rw [st, h5]; rfl) (Ev.bind (bad_conf l[j] (by omega)) ?_)
        cases bad l[j] with
        | true => exact Ev.now fun _ => rfl
        | false => exact ih (j + 1) (by omega) hlt
    · exact last j hge

theorem fieldL (f : T_conf_Field) (ks : List ByteArray) (vs : List Bool) (hf : fz f ≤ 1048576) : Ev (fun k => conf_fieldFault.f k f ks vs) (ff f ((mget seq ks vs f.fRoute).getD false), ks, vs, ()) := by
  have hf' := hf
  unfold fz at hf'
  have h1 := steps_ok true f.fRoute (by omega)
  refine Ev.congr (fun k => by simp only [conf_fieldFault.f]; rfl) (Ev.bind h1 ?_)
  unfold ff
  cases hr : rpS true f.fRoute with
  | false => exact Ev.now fun _ => rfl
  | true =>
    simp only [cond_true, Bool.not_true, cond_false, Bool.true_and]
    cases hne : seq f.fRoute c_empty with
    | true =>
      have : stps f.fRoute = [] := by unfold stps; rw [hne]; rfl
      rw [this]
      exact Ev.now fun _ => rfl
    | false =>
      have : ieq (llen (stps f.fRoute)) 0 = false := by
        unfold stps
        rw [hne]
        simp only [cond_false, llen_eq, List.length_map]
        have := parts_pos f.fRoute
        exact ieq_f (by omega)
      rw [this]
      simp only [cond_false, Bool.not_false, Bool.not_true]
      cases (mget seq ks vs f.fRoute).getD false with
      | true => exact Ev.now fun _ => rfl
      | false =>
        simp only [cond_false]
        unfold rest
        have e1 : (bif !ieq f.fKind (-1) then (bif ilt f.fKind 0 then true else ilt 6 f.fKind) else false) = (!ieq f.fKind (-1) && (ilt f.fKind 0 || ilt 6 f.fKind)) := by cases ieq f.fKind (-1) <;> cases ilt f.fKind 0 <;> rfl
        have e2 : (bif !f.fBounded then (bif !ieq f.fMin 0 then true else !ieq f.fMax 0) else false) = (!f.fBounded && (!ieq f.fMin 0 || !ieq f.fMax 0)) := by cases f.fBounded <;> cases ieq f.fMin 0 <;> rfl
        have e3 : (bif ilt 0 (llen f.fOneOf) then !ieq f.fKind 3 else false) = (ilt 0 (llen f.fOneOf) && !ieq f.fKind 3) := by cases ilt 0 (llen f.fOneOf) <;> rfl
        rw [e1, e2, e3]
        cases (!ieq f.fKind (-1) && (ilt f.fKind 0 || ilt 6 f.fKind)) with
        | true => exact Ev.now fun _ => rfl
        | false =>
          cases (!f.fBounded && (!ieq f.fMin 0 || !ieq f.fMax 0)) with
          | true => exact Ev.now fun _ => rfl
          | false =>
            cases ilt f.fMax f.fMin with
            | true => exact Ev.now fun _ => rfl
            | false =>
              cases (ilt 0 (llen f.fOneOf) && !ieq f.fKind 3) with
              | true => exact Ev.now fun _ => rfl
              | false => exact oneL f ks vs f.fOneOf rfl hf hr hne f.fOneOf.length 0 (by omega) (by omega)

theorem oneR (f : T_conf_Field) (l : List ByteArray) (hl : l = f.fOneOf) (hf : fz f ≤ 1048576) : ∀ (d j : Nat), l.length - j ≤ d → j ≤ l.length →
    Ev (fun k => mastref2_fieldFault.l1 k f.fRoute f.fKind f.fNeed f.fBounded f.fMin f.fMax f.fOneOf f.fDefault.fKind f.fDefault.fBool f.fDefault.fInt f.fDefault.fText f.fDefault.fItems f.fDefault.fKeys l (llen l) (j : Int)) (oneF (dflt f) (l.drop j)) := by
  unfold fz at hf
  have hlen := klen_le f.fOneOf
  rw [← hl] at hlen hf
  have hcon : strings_Contains.f f.fRoute c__2a = some (star f.fRoute) := by
    unfold strings_Contains.f
    rw [if_pos (by omega)]
    show some (Lib.contains f.fRoute.data.toList [42]) = _
    rw [contains_mem]; rfl
  intro d
  have last : ∀ j, l.length ≤ j → Ev (fun k => mastref2_fieldFault.l1 k f.fRoute f.fKind f.fNeed f.fBounded f.fMin f.fMax f.fOneOf f.fDefault.fKind f.fDefault.fBool f.fDefault.fInt f.fDefault.fText f.fDefault.fItems f.fDefault.fKeys l (llen l) (j : Int)) (oneF (dflt f) (l.drop j)) := fun j hj => by
    rw [List.drop_eq_nil_of_le hj]
    refine Ev.step (fun k => by simp only [mastref2_fieldFault.l1, llen_eq, ilt_f (show (l.length : Int) ≤ (j : Int) by omega), cond_false, eta]; rfl) (Ev.bind (chkR_ok f.fDefault (by omega)) ?_)
    simp only [oneF, dflt]
    cases h : ieq (chk f.fDefault) 0 with
    | false =>
      simp only [Bool.not_false, cond_true]
      exact Ev.now fun _ => rfl
    | true =>
      simp only [Bool.not_true, cond_false]
      cases h0 : ieq f.fDefault.fKind 0 with
      | true => exact Ev.now fun _ => rfl
      | false =>
        simp only [cond_false]
        cases h1 : (!ieq f.fKind (-1) && !ieq f.fDefault.fKind f.fKind) with
        | true =>
          simp only [show (bif !ieq f.fKind (-1) then !ieq f.fDefault.fKind f.fKind else false) = true by rw [← h1]; cases ieq f.fKind (-1) <;> rfl]
          exact Ev.now fun _ => rfl
        | false =>
          simp only [show (bif !ieq f.fKind (-1) then !ieq f.fDefault.fKind f.fKind else false) = false by rw [← h1]; cases ieq f.fKind (-1) <;> rfl, cond_false, hcon, Option.bind_some]
          cases star f.fRoute <;> exact Ev.now fun _ => rfl
  induction d with
  | zero => intro j hd hj; exact last j (by omega)
  | succ d ih =>
    intro j hd hj
    rcases Nat.lt_or_ge j l.length with hlt | hge
    · rw [List.drop_eq_getElem_cons hlt]
      have hz := kz_mem (List.getElem_mem hlt)
      have st : ∀ k, mastref2_fieldFault.l1 (k + 1) f.fRoute f.fKind f.fNeed f.fBounded f.fMin f.fMax f.fOneOf f.fDefault.fKind f.fDefault.fBool f.fDefault.fInt f.fDefault.fText f.fDefault.fItems f.fDefault.fKeys l (llen l) (j : Int) = bif ilt 5000 (slen l[j]) then some 4 else (mastref2_badByte.f k l[j]).bind fun y3 => bif y3 then some 9 else mastref2_fieldFault.l1 k f.fRoute f.fKind f.fNeed f.fBounded f.fMin f.fMax f.fOneOf f.fDefault.fKind f.fDefault.fBool f.fDefault.fInt f.fDefault.fText f.fDefault.fItems f.fDefault.fKeys l (llen l) ((j + 1 : Nat) : Int) := fun k => by
        simp only [mastref2_fieldFault.l1, llen_eq, Go.Proofs.YtmbjiadilfbooaaGreatDoor.Lift.ilen _ _ hlt, cond_true, lat_lt hlt, Option.bind_some, u0 (show j ≤ 4611686018427387904 by omega)]
      simp only [oneF]
      cases h5 : ilt 5000 (slen l[j]) with
      | true => exact Ev.step (g := fun _ => some 4) (fun k => by rw [st, h5]; rfl) (Ev.now fun _ => rfl)
      | false =>
        refine Ev.step (fun k => by rw [st, h5]; rfl) (Ev.bind (bad_ref l[j] (by omega)) ?_)
        cases bad l[j] with
        | true => exact Ev.now fun _ => rfl
        | false => exact ih (j + 1) (by omega) hlt
    · exact last j hge

theorem fieldR (l : List T_conf_Field) (j : Nat) (hj : j < l.length) (hl : l.length ≤ 100) (hf : fz l[j] ≤ 1048576) : Ev (fun k => mastref2_fieldFault.f k l (j : Int)) (ff l[j] ((l.take j).any fun x => seq x.fRoute l[j].fRoute)) := by
  have hf' := hf
  unfold fz at hf'
  obtain ⟨o, ho⟩ := routeR_ok true l[j].fRoute (by omega)
  refine Ev.congr (fun k => by simp only [mastref2_fieldFault.f, lat_lt hj, Option.bind_some]; rfl) (Ev.bind ho ?_)
  unfold ff
  cases hr : rpS true l[j].fRoute with
  | false => exact Ev.now fun _ => rfl
  | true =>
    simp only [cond_true, Bool.not_true, cond_false, Bool.true_and]
    cases hne : seq l[j].fRoute c_empty with
    | true => exact Ev.now fun _ => rfl
    | false =>
      have hs : lsub l 0 (j : Int) = some (l.take j) := by
        unfold lsub
        rw [if_pos ⟨by omega, by omega, by omega⟩]
        simp
      simp only [cond_false, Bool.not_false, Bool.not_true, hs, Option.bind_some]
      have htl : (l.take j).length ≤ 100 := by rw [List.length_take]; omega
      have q := find_pure (l.take j) 0 (Nat.zero_le _) (fun k i => mastref2_fieldFault.l0 k l[j].fRoute l[j].fKind l[j].fNeed l[j].fBounded l[j].fMin l[j].fMax l[j].fOneOf l[j].fDefault.fKind l[j].fDefault.fBool l[j].fDefault.fInt l[j].fDefault.fText l[j].fDefault.fItems l[j].fDefault.fKeys (l.take j) (llen (l.take j)) (i : Int))
        (fun k => bif (!ieq l[j].fKind (-1) && (ilt l[j].fKind 0 || ilt 6 l[j].fKind)) then some 10 else bif (!l[j].fBounded && (!ieq l[j].fMin 0 || !ieq l[j].fMax 0)) then some 1 else bif ilt l[j].fMax l[j].fMin then some 5 else bif (ilt 0 (llen l[j].fOneOf) && !ieq l[j].fKind 3) then some 1 else mastref2_fieldFault.l1 k l[j].fRoute l[j].fKind l[j].fNeed l[j].fBounded l[j].fMin l[j].fMax l[j].fOneOf l[j].fDefault.fKind l[j].fDefault.fBool l[j].fDefault.fInt l[j].fDefault.fText l[j].fDefault.fItems l[j].fDefault.fKeys l[j].fOneOf (llen l[j].fOneOf) 0)
        (fun x => seq x.fRoute l[j].fRoute) (fun _ => 6) (rest l[j])
        (fun k i h => by simp only [mastref2_fieldFault.l0, llen_eq, Go.Proofs.YtmbjiadilfbooaaGreatDoor.Lift.ilen _ _ h, cond_true, lat_lt h, Option.bind_some, u0 (show i ≤ 4611686018427387904 by omega)])
        (fun k => by
          have e1 : (bif (bif ilt l[j].fKind 0 then true else ilt 6 l[j].fKind) then !ieq l[j].fKind (-1) else false) = (!ieq l[j].fKind (-1) && (ilt l[j].fKind 0 || ilt 6 l[j].fKind)) := by cases ieq l[j].fKind (-1) <;> cases ilt l[j].fKind 0 <;> cases ilt 6 l[j].fKind <;> rfl
          have e2 : (bif !l[j].fBounded then (bif !ieq l[j].fMin 0 then true else !ieq l[j].fMax 0) else false) = (!l[j].fBounded && (!ieq l[j].fMin 0 || !ieq l[j].fMax 0)) := by cases l[j].fBounded <;> cases ieq l[j].fMin 0 <;> rfl
          have e3 : (bif ilt 0 (llen l[j].fOneOf) then !ieq l[j].fKind 3 else false) = (ilt 0 (llen l[j].fOneOf) && !ieq l[j].fKind 3) := by cases ilt 0 (llen l[j].fOneOf) <;> rfl
          have e0 : ilt ((l.take j).length : Int) (llen (l.take j)) = false := by rw [llen_eq]; exact ilt_f (by omega)
          simp only [mastref2_fieldFault.l0, e0, cond_false, e1, e2, e3])
        (by
          unfold rest
          cases (!ieq l[j].fKind (-1) && (ilt l[j].fKind 0 || ilt 6 l[j].fKind)) with
          | true => exact Ev.now fun _ => rfl
          | false =>
            cases (!l[j].fBounded && (!ieq l[j].fMin 0 || !ieq l[j].fMax 0)) with
            | true => exact Ev.now fun _ => rfl
            | false =>
              cases ilt l[j].fMax l[j].fMin with
              | true => exact Ev.now fun _ => rfl
              | false =>
                cases (ilt 0 (llen l[j].fOneOf) && !ieq l[j].fKind 3) with
                | true => exact Ev.now fun _ => rfl
                | false => exact oneR l[j] l[j].fOneOf rfl hf l[j].fOneOf.length 0 (by omega) (by omega))
      rw [fl_const, List.drop_zero] at q
      exact q

/-! The fields. -/
theorem mget_rep : ∀ (ks : List ByteArray) (r : ByteArray), (mget seq ks (List.replicate ks.length true) r).getD false = ks.any fun k => seq r k
  | [], r => rfl
  | k :: ks, r => by
    have ih := mget_rep ks r
    rw [List.length_cons, List.replicate_succ, List.any_cons]
    unfold mget
    cases h : seq r k with
    | true => rfl
    | false => rw [Bool.false_or, ← ih]; rfl
theorem mput_rep : ∀ (ks : List ByteArray) (x : ByteArray), mputV seq ks (List.replicate ks.length true) x true = List.replicate (mputK seq ks x).length true
  | [], x => rfl
  | k :: ks, x => by
    have ih := mput_rep ks x
    rw [List.length_cons, List.replicate_succ]
    unfold mputV mputK
    cases h : seq x k with
    | true => rfl
    | false =>
      show true :: mputV seq ks (List.replicate ks.length true) x true = List.replicate (k :: mputK seq ks x).length true
      rw [ih]; rfl
theorem mput_any : ∀ (ks : List ByteArray) (x r : ByteArray), (mputK seq ks x).any (fun k => seq r k) = (ks.any (fun k => seq r k) || seq r x)
  | [], x, r => by simp [mputK]
  | k :: ks, x, r => by
    have ih := mput_any ks x r
    unfold mputK
    cases h : seq x k with
    | true =>
      have : x = k := by rw [seq_d] at h; exact of_decide_eq_true h
      subst this
      show (x :: ks).any _ = _
      simp only [List.any_cons]
      cases seq r x <;> simp
    | false =>
      show (k :: mputK seq ks x).any _ = _
      simp only [List.any_cons, ih]
      cases seq r k <;> simp
def sf : List T_conf_Field → List T_conf_Field → Int
  | _, [] => 0
  | pre, f :: r => bif ieq (ff f (pre.any fun x => seq x.fRoute f.fRoute)) 0 then sf (pre ++ [f]) r else ff f (pre.any fun x => seq x.fRoute f.fRoute)
theorem seq_comm (a b : ByteArray) : seq a b = seq b a := by
  rw [seq_d, seq_d]; congr 1; exact propext ⟨Eq.symm, Eq.symm⟩

theorem schemaL (l : List T_conf_Field) (hl : l.length ≤ 100) (hf : ∀ f ∈ l, fz f ≤ 1048576) : ∀ (d j : Nat) (ks : List ByteArray), l.length - j ≤ d → j ≤ l.length → (∀ r, ks.any (fun k => seq r k) = (l.take j).any fun x => seq x.fRoute r) →
    Ev (fun k => conf_CheckSchema.l0 k ks (List.replicate ks.length true) l (llen l) (j : Int)) (sf (l.take j) (l.drop j)) := by
  intro d
  have last : ∀ (j : Nat) (ks : List ByteArray), l.length ≤ j → Ev (fun k => conf_CheckSchema.l0 k ks (List.replicate ks.length true) l (llen l) (j : Int)) (sf (l.take j) (l.drop j)) := fun j ks hj => by
    rw [List.drop_eq_nil_of_le hj]
    refine Ev.step (g := fun _ => some 0) (fun k => ?_) (Ev.now fun _ => rfl)
    simp only [conf_CheckSchema.l0, llen_eq, ilt_f (show (l.length : Int) ≤ (j : Int) by omega), cond_false]
  induction d with
  | zero => intro j ks hd hj hi; exact last j ks (by omega)
  | succ d ih =>
    intro j ks hd hj hi
    rcases Nat.lt_or_ge j l.length with hlt | hge
    · rw [List.drop_eq_getElem_cons hlt]
      have h1 := fieldL l[j] ks (List.replicate ks.length true) (hf _ (List.getElem_mem hlt))
      rw [mget_rep, hi] at h1
      refine Ev.step (fun k => by simp only [conf_CheckSchema.l0, llen_eq, Go.Proofs.YtmbjiadilfbooaaGreatDoor.Lift.ilen _ _ hlt, cond_true, lat_lt hlt, Option.bind_some, eta, feta]; rfl) (Ev.bind h1 ?_)
      simp only [sf]
      cases ieq (ff l[j] ((l.take j).any fun x => seq x.fRoute l[j].fRoute)) 0 with
      | false => exact Ev.now fun _ => rfl
      | true =>
        have hr := ih (j + 1) (mputK seq ks l[j].fRoute) (by omega) hlt (fun r => by
          rw [mput_any, hi, List.take_succ_eq_append_getElem hlt, List.any_append, List.any_cons, List.any_nil, Bool.or_false, seq_comm r])
        rw [List.take_succ_eq_append_getElem hlt, ← mput_rep] at hr
        simp only [Bool.not_true, cond_false, u0 (show j ≤ 4611686018427387904 by omega)]
        exact hr
    · exact last j ks hge
theorem schemaR (l : List T_conf_Field) (b : Bool) (hl : l.length ≤ 100) (hf : ∀ f ∈ l, fz f ≤ 1048576) : ∀ (d j : Nat), l.length - j ≤ d → j ≤ l.length →
    Ev (fun k => mastref2_SchemaFault.l0 k l b (llen l) (j : Int)) (sf (l.take j) (l.drop j)) := by
  intro d
  have last : ∀ (j : Nat), l.length ≤ j → Ev (fun k => mastref2_SchemaFault.l0 k l b (llen l) (j : Int)) (sf (l.take j) (l.drop j)) := fun j hj => by
    rw [List.drop_eq_nil_of_le hj]
    refine Ev.step (g := fun _ => some 0) (fun k => ?_) (Ev.now fun _ => rfl)
    simp only [mastref2_SchemaFault.l0, llen_eq, ilt_f (show (l.length : Int) ≤ (j : Int) by omega), cond_false]
  induction d with
  | zero => intro j hd hj; exact last j (by omega)
  | succ d ih =>
    intro j hd hj
    rcases Nat.lt_or_ge j l.length with hlt | hge
    · rw [List.drop_eq_getElem_cons hlt]
      have h1 := fieldR l j hlt hl (hf _ (List.getElem_mem hlt))
      refine Ev.step (fun k => by simp only [mastref2_SchemaFault.l0, llen_eq, Go.Proofs.YtmbjiadilfbooaaGreatDoor.Lift.ilen _ _ hlt, cond_true]; rfl) (Ev.bind h1 ?_)
      simp only [sf]
      cases ieq (ff l[j] ((l.take j).any fun x => seq x.fRoute l[j].fRoute)) 0 with
      | false => exact Ev.now fun _ => rfl
      | true =>
        have hr := ih (j + 1) (by omega) hlt
        rw [List.take_succ_eq_append_getElem hlt] at hr
        simp only [Bool.not_true, cond_false, u0 (show j ≤ 4611686018427387904 by omega)]
        exact hr
    · exact last j hge

/-! The order of strings. -/
theorem bl_irr : ∀ a : List UInt8, Op.bytesLess a a = false
  | [] => rfl
  | x :: a => by simp [Op.bytesLess, bl_irr a]
theorem bl_trans : ∀ a b c : List UInt8, Op.bytesLess a b = true → Op.bytesLess b c = true → Op.bytesLess a c = true
  | _, [], _, h, _ => by simp [Op.bytesLess] at h
  | _, _ :: _, [], _, h => by simp [Op.bytesLess] at h
  | [], _ :: _, _ :: _, _, _ => rfl
  | x :: a, y :: b, z :: c, h1, h2 => by
    simp only [Op.bytesLess, Bool.or_eq_true, Bool.and_eq_true, decide_eq_true_eq, beq_iff_eq] at h1 h2 ⊢
    rcases h1 with h1 | ⟨h1, h3⟩
    · rcases h2 with h2 | ⟨h2, _⟩
      · exact .inl (UInt8.lt_trans h1 h2)
      · exact .inl (h2 ▸ h1)
    · rcases h2 with h2 | ⟨h2, h4⟩
      · exact .inl (h1 ▸ h2)
      · exact .inr ⟨h1.trans h2, bl_trans a b c h3 h4⟩
theorem bl_total : ∀ a b : List UInt8, Op.bytesLess a b = false → a ≠ b → Op.bytesLess b a = true
  | [], [], _, h => absurd rfl h
  | [], _ :: _, h, _ => by simp [Op.bytesLess] at h
  | _ :: _, [], _, _ => rfl
  | x :: a, y :: b, h, hne => by
    simp only [Op.bytesLess, Bool.or_eq_false_iff, Bool.and_eq_false_iff, decide_eq_false_iff_not, beq_eq_false_iff_ne] at h
    simp only [Op.bytesLess, Bool.or_eq_true, Bool.and_eq_true, decide_eq_true_eq, beq_iff_eq]
    by_cases e : x = y
    · subst e
      right
      refine ⟨rfl, bl_total a b (h.2.resolve_left fun q => q rfl) fun q => hne (by rw [q])⟩
    · left
      rcases Nat.lt_trichotomy x.toNat y.toNat with q | q | q
      · exact absurd (UInt8.lt_iff_toNat_lt.2 q) h.1
      · exact absurd (UInt8.toNat_inj.1 q) e
      · exact UInt8.lt_iff_toNat_lt.2 q
theorem sl_irr (a : ByteArray) : slt a a = false := bl_irr _
theorem sl_trans {a b c : ByteArray} (h1 : slt a b = true) (h2 : slt b c = true) : slt a c = true := bl_trans _ _ _ h1 h2
theorem sl_total {a b : ByteArray} (h : sle a b = false) : slt b a = true := by
  unfold sle at h
  obtain ⟨h1, h2⟩ := Bool.or_eq_false_iff.1 h
  refine bl_total _ _ h1 fun e => ?_
  unfold seq at h2
  rw [e] at h2
  simp at h2
/-! The order of values. -/
/-! What a right value is. -/
def zro : T_api_Value := ⟨0, false, 0, c_empty, [], []⟩
theorem vfs_zero : ∀ {l : List T_api_Value}, vfs l = 0 → ∀ k ∈ l, vf k = 0
  | a :: l, h, k, hk => by
    simp only [vfs] at h
    by_cases e : vf a = 0
    · rw [ieq_t e, cond_true] at h
      rcases List.mem_cons.1 hk with q | q
      · rw [q]; exact e
      · exact vfs_zero h k q
    · rw [ieq_f e, cond_false] at h; exact absurd h e
theorem vf_zero {v : T_api_Value} (h : vf v = 0) : own v = 0 ∧ vfs v.fItems = 0 := by
  rw [vf_eq] at h
  by_cases e : own v = 0
  · rw [ieq_t e, cond_true] at h; exact ⟨e, h⟩
  · rw [ieq_f e, cond_false] at h; exact absurd h e
theorem own_zero {v : T_api_Value} (h : own v = 0) : un2 v = false ∧ ks none v.fKeys = 0 := by
  unfold own at h
  cases h1 : ilt v.fKind 0 || ilt 6 v.fKind with
  | true => rw [h1] at h; exact nomatch h
  | false =>
    rw [h1, cond_false] at h
    cases h2 : (un v || un2 v) with
    | true => rw [h2] at h; exact nomatch h
    | false =>
      rw [h2, cond_false] at h
      cases h3 : (ieq v.fKind 4 && (ilt v.fInt 0 || ilt 84005 v.fInt)) with
      | true => rw [h3] at h; exact nomatch h
      | false =>
        rw [h3, cond_false] at h
        cases h4 : ilt 5000 (slen v.fText) with
        | true => rw [h4] at h; exact nomatch h
        | false =>
          rw [h4, cond_false] at h
          cases h5 : bad v.fText with
          | true => rw [h5] at h; exact nomatch h
          | false =>
            rw [h5, cond_false] at h
            exact ⟨(Bool.or_eq_false_iff.1 h2).2, h⟩
theorem len_of {v : T_api_Value} (h : un2 v = false) (h6 : v.fKind = 6) : v.fKeys.length = v.fItems.length := by
  unfold un2 at h
  rw [ieq_t h6, Bool.true_and, llen_eq, llen_eq, ieq_d] at h
  have : (v.fKeys.length : Int) = (v.fItems.length : Int) := by simpa using h
  omega
abbrev Srt (l : List ByteArray) : Prop := l.Pairwise fun a b => slt a b = true
theorem ks_srt : ∀ (l : List ByteArray) (p : Option ByteArray), ks p l = 0 → (∀ y, p = some y → ∀ x ∈ l, slt y x = true) ∧ Srt l
  | [], p, _ => ⟨(fun _ _ _ h => nomatch h), List.Pairwise.nil⟩
  | x :: r, p, h => by
    simp only [ks] at h
    cases hk : key x with
    | false => rw [hk] at h; exact nomatch h
    | true =>
      rw [hk] at h
      simp only [Bool.not_true, cond_false] at h
      cases hp : (match p with | none => false | some y => sle x y) with
      | true => rw [hp] at h; exact nomatch h
      | false =>
        rw [hp, cond_false] at h
        obtain ⟨i1, i2⟩ := ks_srt r (some x) h
        have i1 := i1 x rfl
        refine ⟨fun y hy z hz => ?_, .cons i1 i2⟩
        subst hy
        have hyx : slt y x = true := sl_total hp
        rcases List.mem_cons.1 hz with e | e
        · rw [e]; exact hyx
        · exact sl_trans hyx (i1 z e)

/-! Looking up a key. -/
def cnt (p : ByteArray) : List ByteArray → Nat
  | [] => 0
  | x :: r => bif slt x p then cnt p r + 1 else 0
theorem cnt_le (p : ByteArray) : ∀ l, cnt p l ≤ l.length
  | [] => Nat.le_refl _
  | x :: r => by
    have := cnt_le p r
    simp only [cnt, List.length_cons]
    cases slt x p <;> simp <;> omega
theorem cnt_lt (p : ByteArray) : ∀ (l : List ByteArray) (i : Nat) (h : i < l.length), i < cnt p l → slt l[i] p = true
  | x :: r, i, h, hi => by
    simp only [cnt] at hi
    cases hx : slt x p with
    | false => rw [hx] at hi; simp at hi
    | true =>
      rw [hx, cond_true] at hi
      cases i with
      | zero => exact hx
      | succ i => exact cnt_lt p r i (by simpa using h) (by omega)
theorem cnt_ge (p : ByteArray) : ∀ (l : List ByteArray), Srt l → ∀ (i : Nat) (h : i < l.length), cnt p l ≤ i → slt l[i] p = false
  | x :: r, hs, i, h, hi => by
    obtain ⟨h1, h2⟩ := List.pairwise_cons.1 hs
    simp only [cnt] at hi
    cases hx : slt x p with
    | true =>
      rw [hx, cond_true] at hi
      cases i with
      | zero => omega
      | succ i => exact cnt_ge p r h2 i (by simpa using h) (by omega)
    | false =>
      cases i with
      | zero => exact hx
      | succ i =>
        cases q : slt (x :: r)[i + 1] p with
        | false => rfl
        | true =>
          have hi' : i < r.length := by simpa using h
          have : slt x r[i] = true := h1 _ (List.getElem_mem hi')
          rw [sl_trans this q] at hx; cases hx
theorem fl_at {β : Type} (q : ByteArray → Bool) (hit : Nat → β) (fin : β) : ∀ (l : List ByteArray) (j0 t : Nat) (h : t < l.length), q l[t] = true → (∀ i (hi : i < l.length), i < t → q l[i] = false) → fl q hit fin j0 l = hit (j0 + t)
  | x :: r, j0, 0, h, hq, _ => by
    have : q x = true := hq
    simp only [fl, this, cond_true, Nat.add_zero]
  | x :: r, j0, t + 1, h, hq, hn => by
    have h0 : q x = false := hn 0 (by simp) (by omega)
    simp only [fl, h0, cond_false]
    rw [fl_at q hit fin r (j0 + 1) t (by simpa using h) hq (fun i hi ht => hn (i + 1) (by simpa using hi) (by omega))]
    congr 1; omega
theorem fl_no {β : Type} (q : ByteArray → Bool) (hit : Nat → β) (fin : β) : ∀ (l : List ByteArray) (j0 : Nat), (∀ x ∈ l, q x = false) → fl q hit fin j0 l = fin
  | [], _, _ => rfl
  | x :: r, j0, h => by
    simp only [fl, h x (List.mem_cons_self ..), cond_false]
    exact fl_no q hit fin r (j0 + 1) fun y hy => h y (List.mem_cons_of_mem _ hy)
/-- The place of a key among sorted ones. -/
theorem place {β : Type} (p : ByteArray) (l : List ByteArray) (hs : Srt l) (hit : Nat → β) (fin : β) : fl (fun s => seq s p) hit fin 0 l = if h : cnt p l < l.length then (bif seq l[cnt p l] p then hit (cnt p l) else fin) else fin := by
  have low : ∀ i (hi : i < l.length), i < cnt p l → seq l[i] p = false := fun i hi ht => by
    have h1 := cnt_lt p l i hi ht
    rw [seq_d]
    refine decide_eq_false fun e => ?_
    rw [e, sl_irr] at h1; cases h1
  by_cases h : cnt p l < l.length
  · rw [dif_pos h]
    cases hq : seq l[cnt p l] p with
    | true =>
      rw [cond_true, fl_at (fun s => seq s p) hit fin l 0 (cnt p l) h hq low, Nat.zero_add]
    | false =>
      refine fl_no _ hit fin l 0 fun x hx => ?_
      obtain ⟨i, hi, rfl⟩ := List.getElem_of_mem hx
      rcases Nat.lt_trichotomy i (cnt p l) with q | q | q
      · exact low i hi q
      · subst q; exact hq
      · cases e : seq l[i] p with
        | false => rfl
        | true =>
          have e : l[i] = p := by rw [seq_d] at e; exact of_decide_eq_true e
          have h1 := List.pairwise_iff_getElem.1 hs (cnt p l) i h hi q
          have h2 := cnt_ge p l hs (cnt p l) h (Nat.le_refl _)
          rw [e, h2] at h1; cases h1
  · rw [dif_neg h]
    refine fl_no _ hit fin l 0 fun x hx => ?_
    obtain ⟨i, hi, rfl⟩ := List.getElem_of_mem hx
    exact low i hi (by omega)
theorem mid_ok {lo hi : Nat} (h : lo + hi ≤ 4611686018427387904) : wcv .i64 (ishr .u64 (wcv .u64 (wadd .i64 (lo : Int) (hi : Int))) 1) = (((lo + hi) / 2 : Nat) : Int) := by
  have h1 : wadd .i64 (lo : Int) (hi : Int) = ((lo + hi : Nat) : Int) := by rw [wadd64 (by omega) (by omega)]; omega
  have h2 : wcv .u64 ((lo + hi : Nat) : Int) = ((lo + hi : Nat) : Int) := wrap_u rfl (by omega) (by show ((lo + hi : Nat) : Int) < 2 ^ 64; omega)
  have h3 : ishr .u64 ((lo + hi : Nat) : Int) 1 = (((lo + hi) / 2 : Nat) : Int) := by
    unfold ishr
    rw [show min (1 : Int).toNat IntKind.u64.bits = 1 from rfl, Int.fdiv_eq_ediv_of_nonneg _ (by decide)]
    omega
  rw [h1, h2, h3]
  unfold wcv
  exact wrap64 (by omega) (by omega)
theorem search_ok (p : ByteArray) (l : List ByteArray) (hs : Srt l) (hl : l.length ≤ 2000000) : ∀ (d lo hi : Nat), hi - lo ≤ d → lo ≤ cnt p l → cnt p l ≤ hi → hi ≤ l.length → Ev (fun k => sort_Search_at_sort_SearchStrings_c1.l0 k (lo : Int) (hi : Int) l p) ((cnt p l : Int), l, p, ()) := by
  have no : ilt 1 0 = false := rfl
  intro d
  induction d with
  | zero =>
    intro lo hi hd h1 h2 h3
    obtain rfl : lo = cnt p l := by omega
    refine Ev.step (g := fun _ => some ((cnt p l : Int), l, p, ())) (fun k => ?_) (Ev.now fun _ => rfl)
    simp only [sort_Search_at_sort_SearchStrings_c1.l0, ilt_f (show (hi : Int) ≤ (cnt p l : Int) by omega), cond_false]
  | succ d ih =>
    intro lo hi hd h1 h2 h3
    by_cases hlt : lo < hi
    · have hm : (lo + hi) / 2 < l.length := by omega
      have st : ∀ k, sort_Search_at_sort_SearchStrings_c1.l0 (k + 1) (lo : Int) (hi : Int) l p = bif slt l[(lo + hi) / 2] p then sort_Search_at_sort_SearchStrings_c1.l0 k (((lo + hi) / 2 + 1 : Nat) : Int) (hi : Int) l p else sort_Search_at_sort_SearchStrings_c1.l0 k (lo : Int) (((lo + hi) / 2 : Nat) : Int) l p := fun k => by
        simp only [sort_Search_at_sort_SearchStrings_c1.l0, ilt_t (show (lo : Int) < (hi : Int) by omega), cond_true, no, cond_false, mid_ok (show lo + hi ≤ 4611686018427387904 by omega), sort_SearchStrings_c1.f, lat_lt hm, Option.bind_some, u0 (show (lo + hi) / 2 ≤ 4611686018427387904 by omega), Bool.not_not]
      cases hq : slt l[(lo + hi) / 2] p with
      | true =>
        have : (lo + hi) / 2 < cnt p l := by
          rcases Nat.lt_or_ge ((lo + hi) / 2) (cnt p l) with q | q
          · exact q
          · rw [cnt_ge p l hs _ hm q] at hq; cases hq
        exact Ev.step (fun k => by rw [st, hq]; rfl) (ih _ _ (by omega) (by omega) h2 h3)
      | false =>
        have : cnt p l ≤ (lo + hi) / 2 := by
          rcases Nat.lt_or_ge ((lo + hi) / 2) (cnt p l) with q | q
          · rw [cnt_lt p l _ hm q] at hq; cases hq
          · exact q
        exact Ev.step (fun k => by rw [st, hq]; rfl) (ih _ _ (by omega) h1 this (by omega))
    · obtain rfl : lo = cnt p l := by omega
      refine Ev.step (g := fun _ => some ((cnt p l : Int), l, p, ())) (fun k => ?_) (Ev.now fun _ => rfl)
      simp only [sort_Search_at_sort_SearchStrings_c1.l0, ilt_f (show (hi : Int) ≤ (cnt p l : Int) by omega), cond_false]
/-- The item of a key. -/
def lk (v : T_api_Value) (p : ByteArray) : Option T_api_Value := bif ieq v.fKind 6 then fl (fun s => seq s p) (fun j => v.fItems[j]?) none 0 v.fKeys else none
def num (p : ByteArray) : Nat := ((strconv_Atoi.f p).getD 0).toNat
def stepv (v : T_api_Value) (p : ByteArray) : Option T_api_Value := bif key p then lk v p else bif ieq v.fKind 5 then v.fItems[num p]? else none
def out (o : Option T_api_Value) : T_api_Value × Bool := match o with | some x => (x, true) | none => (zro, false)

theorem find_ok (v : T_api_Value) (p : ByteArray) (hs : Srt v.fKeys) (hl : v.fKeys.length ≤ 2000000) : Ev (fun k => conf_find.f k v p) ((cnt p v.fKeys : Int), if h : cnt p v.fKeys < v.fKeys.length then seq v.fKeys[cnt p v.fKeys] p else false) := by
  have hc := cnt_le p v.fKeys
  have q := search_ok p v.fKeys hs hl v.fKeys.length 0 v.fKeys.length (by omega) (by omega) hc (Nat.le_refl _)
  have q2 : Ev (fun k => sort_SearchStrings.f k v.fKeys p) (cnt p v.fKeys : Int) := by
    refine Ev.congr (g := fun k => (sort_Search_at_sort_SearchStrings_c1.l0 k ((0 : Nat) : Int) (v.fKeys.length : Int) v.fKeys p).bind fun y1 => some y1.1) (fun k => ?_) (Ev.bind q (Ev.now fun _ => rfl))
    simp only [sort_SearchStrings.f, sort_Search_at_sort_SearchStrings_c1.f]
    rfl
  refine Ev.congr (fun k => by simp only [conf_find.f]; rfl) (Ev.bind q2 ?_)
  by_cases h : cnt p v.fKeys < v.fKeys.length
  · rw [dif_pos h]
    simp only [llen_eq, ilt_t (show (cnt p v.fKeys : Int) < (v.fKeys.length : Int) by omega), cond_true, lat_lt h, Option.bind_some]
    exact Ev.now fun _ => rfl
  · rw [dif_neg h]
    simp only [llen_eq, ilt_f (show (v.fKeys.length : Int) ≤ (cnt p v.fKeys : Int) by omega), cond_false]
    exact Ev.now fun _ => rfl

theorem clone_loop (v : T_api_Value) (hv : wt v ≤ 2000000) (ih : ∀ x ∈ v.fItems, Ev (fun k => conf_clone.f k x) x) (z : T_api_Value) (ks : List ByteArray) : ∀ (d j : Nat), v.fItems.length - j ≤ d → j ≤ v.fItems.length →
    Ev (fun k => conf_clone.l0 k v.fKind v.fBool v.fInt v.fText v.fItems ks z.fKind z.fBool z.fInt z.fText z.fItems z.fKeys (v.fItems.take j) v.fItems (llen v.fItems) (j : Int)) ⟨v.fKind, v.fBool, v.fInt, v.fText, v.fItems, ks⟩ := by
  rw [wt_eq] at hv
  have hl := len_le v.fItems
  intro d
  have last : ∀ j : Nat, v.fItems.length ≤ j → Ev (fun k => conf_clone.l0 k v.fKind v.fBool v.fInt v.fText v.fItems ks z.fKind z.fBool z.fInt z.fText z.fItems z.fKeys (v.fItems.take j) v.fItems (llen v.fItems) (j : Int)) ⟨v.fKind, v.fBool, v.fInt, v.fText, v.fItems, ks⟩ := fun j hj => by
    rw [List.take_of_length_le hj]
    refine Ev.step (g := fun _ => some ⟨v.fKind, v.fBool, v.fInt, v.fText, v.fItems, ks⟩) (fun k => ?_) (Ev.now fun _ => rfl)
    simp only [conf_clone.l0, llen_eq, ilt_f (show (v.fItems.length : Int) ≤ (j : Int) by omega), cond_false]
  induction d with
  | zero => intro j hd hj; exact last j (by omega)
  | succ d hi =>
    intro j hd hj
    rcases Nat.lt_or_ge j v.fItems.length with hlt | hge
    · have ha : lapp 88 (v.fItems.take j) [v.fItems[j]] = some (v.fItems.take (j + 1)) := by
        rw [lapp_ok (by simp only [List.length_take, List.length_singleton]; omega) (by simp only [List.length_take, List.length_singleton]; omega), List.take_succ_eq_append_getElem hlt]
      refine Ev.step (fun k => by simp only [conf_clone.l0, llen_eq, Go.Proofs.YtmbjiadilfbooaaGreatDoor.Lift.ilen _ _ hlt, cond_true, lat_lt hlt, Option.bind_some, eta]; rfl) (Ev.bind (ih _ (List.getElem_mem hlt)) ?_)
      have := hi (j + 1) (by omega) hlt
      simp only [ha, Option.bind_some, u0 (show j ≤ 4611686018427387904 by omega)]
      exact this
    · exact last j hge
theorem clone_ok : ∀ v, wt v ≤ 2000000 → Ev (fun k => conf_clone.f k v) v := tree fun v ih hv => by
  have := clone_loop v hv (fun x hx => ih x hx (by have := wt_mem hx; rw [wt_eq] at hv; omega)) zro v.fKeys v.fItems.length 0 (by omega) (by omega)
  rw [wt_eq] at hv
  have hk := klen_le v.fKeys
  have ha : lapp 16 [] v.fKeys = some v.fKeys := by
    rw [lapp_ok (by simp only [List.length_nil]; omega) (by simp only [List.length_nil]; omega)]; rfl
  refine Ev.step (g := fun k => conf_clone.l0 k v.fKind v.fBool v.fInt v.fText v.fItems v.fKeys 0 false 0 c_empty [] [] [] v.fItems (llen v.fItems) 0) (fun k => by simp only [conf_clone.f, ha, Option.bind_some]) ?_
  rw [eta] at this
  exact this

theorem wt_zro : wt zro ≤ 2000000 := by decide
theorem chk_zero {v : T_api_Value} (h : chk v = 0) : vf v = 0 := by
  unfold chk at h
  cases h1 : decide (1000 < nT v) with
  | true => rw [h1] at h; exact nomatch h
  | false =>
    rw [h1, cond_false] at h
    cases h2 : decide (8 < lv v) with
    | true => rw [h2] at h; exact nomatch h
    | false => rw [h2] at h; exact h

/-! A loop that stops where something is found. -/
theorem any_loop {α β : Type} (l : List α) (L : Nat → Nat → Option β) (Q : α → Bool) (hit r : β) (hend : Ev (fun k => L k l.length) r)
    (hstep : ∀ (j : Nat) (h : j < l.length) (v : β), Ev (fun k => L k (j + 1)) v → Ev (fun k => L k j) (bif Q l[j] then hit else v)) : Ev (fun k => L k 0) (bif l.any Q then hit else r) := by
  have : ∀ (d j : Nat), l.length - j ≤ d → j ≤ l.length → Ev (fun k => L k j) (bif (l.drop j).any Q then hit else r) := by
    intro d
    induction d with
    | zero =>
      intro j hd hj
      obtain rfl : j = l.length := by omega
      rw [List.drop_eq_nil_of_le (Nat.le_refl _)]
      exact hend
    | succ d ih =>
      intro j hd hj
      rcases Nat.lt_or_ge j l.length with hlt | hge
      · have := hstep j hlt _ (ih (j + 1) (by omega) hlt)
        rw [List.drop_eq_getElem_cons hlt, List.any_cons]
        cases e : Q l[j] with
        | true => rw [e] at this; exact this
        | false => rw [e] at this; rw [Bool.false_or]; exact this
      · obtain rfl : j = l.length := by omega
        rw [List.drop_eq_nil_of_le (Nat.le_refl _)]
        exact hend
  have := this l.length 0 (by omega) (by omega)
  rwa [List.drop_zero] at this
theorem any_or {α : Type} (p q : α → Bool) : ∀ l : List α, (l.any fun x => p x || q x) = (l.any p || l.any q)
  | [] => rfl
  | a :: l => by
    rw [List.any_cons, List.any_cons, List.any_cons, any_or p q l]
    cases p a <;> cases q a <;> cases l.any p <;> rfl

/-! Tables as lists of pairs. -/
def prs (t : T_api_Value) : List (ByteArray × T_api_Value) := t.fKeys.zip t.fItems
def Uq (l : List (ByteArray × T_api_Value)) : Prop := l.Pairwise fun a b => seq a.1 b.1 = false
def lp (c : ByteArray) : List (ByteArray × T_api_Value) → Option T_api_Value
  | [] => none
  | p :: r => bif seq p.1 c then some p.2 else lp c r
theorem lp_none {c : ByteArray} : ∀ {l : List (ByteArray × T_api_Value)}, (∀ p ∈ l, seq p.1 c = false) → lp c l = none
  | [], _ => rfl
  | p :: r, h => by rw [lp, h p (List.mem_cons_self ..), cond_false, lp_none fun q hq => h q (List.mem_cons_of_mem _ hq)]
theorem lp_mem {c : ByteArray} {x : T_api_Value} : ∀ {l : List (ByteArray × T_api_Value)}, lp c l = some x → ∃ p ∈ l, seq p.1 c = true ∧ p.2 = x
  | p :: r, h => by
    rw [lp] at h
    cases e : seq p.1 c with
    | true => rw [e] at h; exact ⟨p, List.mem_cons_self .., e, Option.some.inj h⟩
    | false => rw [e] at h; obtain ⟨q, q1, q2⟩ := lp_mem h; exact ⟨q, List.mem_cons_of_mem _ q1, q2⟩
theorem uq_away {p : ByteArray × T_api_Value} {r : List (ByteArray × T_api_Value)} {c : ByteArray} (h : Uq (p :: r)) (e : seq p.1 c = true) : ∀ q ∈ r, seq q.1 c = false := fun q hq => by
  have := (List.pairwise_cons.1 h).1 q hq
  have e : p.1 = c := by rw [seq_d] at e; exact of_decide_eq_true e
  rw [e, seq_comm] at this
  exact this
theorem any_key (c : ByteArray) (g : T_api_Value → Bool) : ∀ {l : List (ByteArray × T_api_Value)}, Uq l → (l.any fun p => seq p.1 c && g p.2) = match lp c l with | some x => g x | none => false
  | [], _ => rfl
  | p :: r, h => by
    have h2 := (List.pairwise_cons.1 h).2
    rw [List.any_cons, lp, any_key c g h2]
    cases e : seq p.1 c with
    | true =>
      rw [lp_none (uq_away h e)]
      simp
    | false => simp

structure Tb (t : T_api_Value) : Prop where
  six : t.fKind = 6
  len : t.fKeys.length = t.fItems.length
  srt : Srt t.fKeys
  few : t.fKeys.length ≤ 2000000
theorem tb_of {t : T_api_Value} (h6 : t.fKind = 6) (hv : wt t ≤ 1048576) (hf : vf t = 0) : Tb t := by
  obtain ⟨h1, h2⟩ := own_zero (vf_zero hf).1
  have := klen_le t.fKeys
  rw [wt_eq] at hv
  exact ⟨h6, len_of h1 h6, (ks_srt t.fKeys none h2).2, by omega⟩
theorem plen {t : T_api_Value} (h : Tb t) : (prs t).length = t.fKeys.length := by
  unfold prs
  rw [List.length_zip, h.len, Nat.min_self]
theorem pat {t : T_api_Value} (h : Tb t) {j : Nat} (hj : j < (prs t).length) : (prs t)[j] = (t.fKeys[j]'(by rw [plen h] at hj; exact hj), t.fItems[j]'(by rw [plen h, h.len] at hj; exact hj)) := by
  exact List.getElem_zip
theorem uq_zip : ∀ (ks : List ByteArray) (xs : List T_api_Value), Srt ks → Uq (ks.zip xs)
  | [], xs, _ => by simp [Uq]
  | k :: ks, [], _ => by simp [Uq]
  | k :: ks, x :: xs, h => by
    obtain ⟨h1, h2⟩ := List.pairwise_cons.1 h
    rw [List.zip_cons_cons]
    refine List.pairwise_cons.2 ⟨fun p hp => ?_, uq_zip ks xs h2⟩
    have h3 := h1 p.1 (List.of_mem_zip hp).1
    show seq k p.1 = false
    rw [seq_d]
    refine decide_eq_false fun e => ?_
    rw [e, sl_irr] at h3; cases h3
theorem uq {t : T_api_Value} (h : Tb t) : Uq (prs t) := uq_zip _ _ h.srt
theorem fl_lp (c : ByteArray) (xs : List T_api_Value) : ∀ (ks : List ByteArray) (j0 : Nat), ks.length + j0 = xs.length → fl (fun s => seq s c) (fun j => xs[j]?) none j0 ks = lp c (ks.zip (xs.drop j0))
  | [], _, _ => by simp [fl, lp]
  | k :: ks, j0, h => by
    have hlt : j0 < xs.length := by simp only [List.length_cons] at h; omega
    rw [List.drop_eq_getElem_cons hlt, List.zip_cons_cons, lp, fl, fl_lp c xs ks (j0 + 1) (by simp only [List.length_cons] at h; omega), List.getElem?_eq_getElem hlt]
theorem lp_at {t : T_api_Value} (h : Tb t) (c : ByteArray) : lp c (prs t) = if h : cnt c t.fKeys < t.fKeys.length then (bif seq t.fKeys[cnt c t.fKeys] c then t.fItems[cnt c t.fKeys]? else none) else none := by
  have := fl_lp c t.fItems t.fKeys 0 (by rw [h.len]; try rfl)
  rw [List.drop_zero] at this
  show lp c (t.fKeys.zip t.fItems) = _
  rw [← this, place c t.fKeys h.srt]
theorem item_ok {t : T_api_Value} (h : Tb t) (c : ByteArray) : Ev (fun k => conf_item.f k t c) (out (lp c (prs t))) := by
  refine Ev.congr (fun k => by simp only [conf_item.f, eta]; try rfl) (Ev.bind (find_ok t c h.srt h.few) ?_)
  rw [lp_at h]
  by_cases hc : cnt c t.fKeys < t.fKeys.length
  · rw [dif_pos hc, dif_pos hc]
    cases seq t.fKeys[cnt c t.fKeys] c with
    | true =>
      simp only [Bool.not_true, cond_false, cond_true]
      have hc2 : cnt c t.fKeys < t.fItems.length := by rw [← h.len]; exact hc
      rw [lat_lt hc2, List.getElem?_eq_getElem hc2]
      exact Ev.now fun _ => rfl
    | false => exact Ev.now fun _ => rfl
  · rw [dif_neg hc, dif_neg hc]
    exact Ev.now fun _ => rfl
theorem index_ok (l : List ByteArray) (p : ByteArray) (hl : l.length ≤ 2000000) : Ev (fun k => slices_Index_string_string.f k l p) (fl (fun s => seq s p) (fun j => (j : Int)) (-1) 0 l) := by
  have q := find_pure l 0 (Nat.zero_le _) (fun k j => slices_Index_string_string.l0 k l p (llen l) (j : Int)) (fun _ => some (-1)) (fun s => seq s p) (fun j => (j : Int)) (-1)
    (fun k j h => by
      simp only [slices_Index_string_string.l0, llen_eq, Go.Proofs.YtmbjiadilfbooaaGreatDoor.Lift.ilen _ _ h, cond_true, lat_lt h, Option.bind_some, u0 (show j ≤ 4611686018427387904 by omega), seq_comm p])
    (fun k => by simp only [slices_Index_string_string.l0, llen_eq, Go.Proofs.YtmbjiadilfbooaaGreatDoor.Lift.ilen', cond_false]) (Ev.now fun _ => rfl)
  rw [List.drop_zero] at q
  exact Ev.congr (fun k => by simp only [slices_Index_string_string.f]; try rfl) q
theorem has_ok {t : T_api_Value} (h : Tb t) (c : ByteArray) : Ev (fun k => mastref2_has.f k t c) (out (lp c (prs t))) := by
  refine Ev.congr (fun k => by simp only [mastref2_has.f, eta]; try rfl) (Ev.bind (index_ok t.fKeys c h.few) ?_)
  rw [lp_at h, place c t.fKeys h.srt, h.six]
  by_cases hc : cnt c t.fKeys < t.fKeys.length
  · rw [dif_pos hc, dif_pos hc]
    cases seq t.fKeys[cnt c t.fKeys] c with
    | true =>
      have hc2 : cnt c t.fKeys < t.fItems.length := by rw [← h.len]; exact hc
      simp only [cond_true, llen_eq, ilt_f (show (0 : Int) ≤ (cnt c t.fKeys : Int) by omega), ile_f (show (cnt c t.fKeys : Int) < (t.fItems.length : Int) by omega), show ieq 6 6 = true from rfl, Bool.not_true, cond_false, lat_lt hc2, Option.bind_some, List.getElem?_eq_getElem hc2, eta]
      exact Ev.now fun _ => rfl
    | false => exact Ev.now fun _ => rfl
  · rw [dif_neg hc, dif_neg hc]
    exact Ev.now fun _ => rfl

/-! Kinds and names. -/
def fk (s : ByteArray) : Int := bif (seq s c_route || seq s c_kind) then 3 else bif seq s c_need then 1 else bif (seq s c_max || seq s c_min) then 2 else bif seq s c_oneof then 5 else -1
theorem fk1 (s : ByteArray) (b : Bool) : Ev (fun k => conf_fieldKind.l1 k s b) (bif b then 2 else bif seq s c_oneof then 5 else -1) := by
  refine Ev.step (g := fun _ => some (bif b then 2 else bif seq s c_oneof then 5 else -1)) (fun k => ?_) (Ev.now fun _ => rfl)
  simp only [conf_fieldKind.l1]
  cases b <;> cases seq s c_oneof <;> rfl
theorem fk0 (s : ByteArray) (b : Bool) : Ev (fun k => conf_fieldKind.l0 k s b) (bif b then 3 else bif seq s c_need then 1 else bif (seq s c_max || seq s c_min) then 2 else bif seq s c_oneof then 5 else -1) := by
  cases b with
  | true => exact Ev.step (g := fun _ => some 3) (fun k => by simp only [conf_fieldKind.l0, cond_true]) (Ev.now fun _ => rfl)
  | false =>
    cases e : seq s c_need with
    | true => exact Ev.step (g := fun _ => some 1) (fun k => by simp only [conf_fieldKind.l0, cond_true, cond_false, e]) (Ev.now fun _ => rfl)
    | false =>
      cases e2 : seq s c_max with
      | true => exact Ev.step (fun k => by simp only [conf_fieldKind.l0, cond_true, cond_false, e, e2]; try rfl) (fk1 s true)
      | false => exact Ev.step (fun k => by simp only [conf_fieldKind.l0, cond_true, cond_false, e, e2]; try rfl) (fk1 s (seq s c_min))
theorem fk_ok (s : ByteArray) : Ev (fun k => conf_fieldKind.f k s) (fk s) := by
  unfold fk
  cases e : seq s c_route with
  | true => exact Ev.congr (fun k => by simp only [conf_fieldKind.f, e, cond_true]; try rfl) (fk0 s true)
  | false => exact Ev.congr (fun k => by simp only [conf_fieldKind.f, e, cond_false]; try rfl) (fk0 s (seq s c_kind))
def kidx (s : ByteArray) : Int × Bool := bif seq s c_any then (-1, true) else fl (fun y => seq y s) (fun j => ((j : Int), true)) (0, false) 0 g_kindNames
theorem kindOf_ok (s : ByteArray) : Ev (fun k => conf_kindOf.f k s) (kidx s) := by
  have q := find_pure g_kindNames 0 (Nat.zero_le _) (fun k j => conf_kindOf.l0 k s g_kindNames (llen g_kindNames) (j : Int)) (fun _ => some (0, false)) (fun y => seq y s) (fun j => ((j : Int), true)) (0, false)
    (fun k j h => by
      have hj : j < 7 := h
      simp only [conf_kindOf.l0, llen_eq, Go.Proofs.YtmbjiadilfbooaaGreatDoor.Lift.ilen _ _ h, cond_true, lat_lt h, Option.bind_some, u0 (show j ≤ 4611686018427387904 by omega)])
    (fun k => by simp only [conf_kindOf.l0, llen_eq, Go.Proofs.YtmbjiadilfbooaaGreatDoor.Lift.ilen', cond_false]) (Ev.now fun _ => rfl)
  rw [List.drop_zero] at q
  unfold kidx
  cases e : seq s c_any with
  | true => exact Ev.now fun k => by simp only [conf_kindOf.f, e, cond_true]
  | false => exact Ev.congr (fun k => by simp only [conf_kindOf.f, e, cond_false]; try rfl) q
theorem kidx_snd (s : ByteArray) : (kidx s).2 = (seq s c_any || g_kindNames.any fun y => seq y s) := by
  unfold kidx
  cases seq s c_any with
  | true => rfl
  | false =>
    rw [cond_false, fl_map Prod.snd, fl_const, Bool.false_or]
    cases g_kindNames.any fun y => seq y s <;> rfl

def kb (p : ByteArray × T_api_Value) : Bool := !ieq (fk p.1) (-1) && !ieq p.2.fKind (fk p.1)
def ob (p : ByteArray × T_api_Value) : Bool := p.2.fItems.any fun y => bif seq p.1 c_oneof then !ieq y.fKind 3 else false
def Wt (t : T_api_Value) : Bool := !ieq t.fKind 6 || (prs t).any fun p => kb p || ob p
def nb (p : ByteArray × T_api_Value) : Bool := (bif ieq (fk p.1) (-1) then !seq p.1 c_default else false) || (seq p.1 c_kind && !(kidx p.2.fText).2)
def Nt (t : T_api_Value) : Bool := (prs t).any nb

theorem wk3 (t : T_api_Value) (c : ByteArray) (F : List T_api_Value) (n i : Int) (ks : List ByteArray) (m j : Int) (ys : List T_api_Value) (r : Bool) (hl : ys.length ≤ 2000000)
    (h : Ev (fun k => conf_wrongKinds.l1 k t.fKind t.fBool t.fInt t.fText t.fItems t.fKeys F n i ks m (wadd .i64 j 1)) r) : Ev (fun k => conf_wrongKinds.l3 k t.fKind t.fBool t.fInt t.fText t.fItems t.fKeys c F n i ks m j ys (llen ys) 0) (bif ys.any (fun y => bif seq c c_oneof then !ieq y.fKind 3 else false) then true else r) := by
  refine any_loop ys (fun k a => conf_wrongKinds.l3 k t.fKind t.fBool t.fInt t.fText t.fItems t.fKeys c F n i ks m j ys (llen ys) (a : Int)) (fun y => bif seq c c_oneof then !ieq y.fKind 3 else false) true r ?_ fun a ha v hv => ?_
  · exact Ev.step (fun k => by simp only [conf_wrongKinds.l3, llen_eq, Go.Proofs.YtmbjiadilfbooaaGreatDoor.Lift.ilen', cond_false]; try rfl) h
  · refine Ev.step (fun k => by simp only [conf_wrongKinds.l3, llen_eq, Go.Proofs.YtmbjiadilfbooaaGreatDoor.Lift.ilen _ _ ha, cond_true, lat_lt ha, Option.bind_some, u0 (show a ≤ 4611686018427387904 by omega)]; try rfl) ?_
    cases (bif seq c c_oneof then !ieq ys[a].fKind 3 else false) with
    | true => exact Ev.now fun _ => rfl
    | false => exact hv
theorem wk1 (t : T_api_Value) (h : Tb t) (F : List T_api_Value) (n i : Int) (r : Bool) (hi : ∀ y ∈ t.fItems, y.fItems.length ≤ 2000000)
    (h0 : Ev (fun k => conf_wrongKinds.l0 k F n (wadd .i64 i 1)) r) : Ev (fun k => conf_wrongKinds.l1 k t.fKind t.fBool t.fInt t.fText t.fItems t.fKeys F n i t.fKeys (llen t.fKeys) 0) (bif (prs t).any (fun p => kb p || ob p) then true else r) := by
  refine any_loop (prs t) (fun k j => conf_wrongKinds.l1 k t.fKind t.fBool t.fInt t.fText t.fItems t.fKeys F n i t.fKeys (llen t.fKeys) (j : Int)) (fun p => kb p || ob p) true r ?_ fun j hj v hv => ?_
  · rw [plen h]
    exact Ev.step (fun k => by simp only [conf_wrongKinds.l1, llen_eq, Go.Proofs.YtmbjiadilfbooaaGreatDoor.Lift.ilen', cond_false]; try rfl) h0
  · rw [pat h hj]
    have hk : j < t.fKeys.length := by rw [plen h] at hj; exact hj
    have hx : j < t.fItems.length := by rw [← h.len]; exact hk
    have hf := h.few
    have e2 : Ev (fun k => conf_wrongKinds.l2 k t.fKind t.fBool t.fInt t.fText t.fItems t.fKeys (j : Int) t.fKeys[j] F n i t.fKeys (llen t.fKeys) (j : Int)) (bif ob (t.fKeys[j], t.fItems[j]) then true else v) :=
      Ev.step (fun k => by simp only [conf_wrongKinds.l2, lat_lt hx, Option.bind_some]; try rfl) (wk3 t t.fKeys[j] F n i t.fKeys (llen t.fKeys) (j : Int) t.fItems[j].fItems v (hi _ (List.getElem_mem hx)) (by rw [u0 (show j ≤ 4611686018427387904 by omega)]; exact hv))
    refine Ev.step (fun k => by simp only [conf_wrongKinds.l1, llen_eq, Go.Proofs.YtmbjiadilfbooaaGreatDoor.Lift.ilen _ _ hk, cond_true, lat_lt hk, Option.bind_some, lat_lt hx]; try rfl) (Ev.bind (fk_ok t.fKeys[j]) ?_)
    show Ev _ (bif ((!ieq (fk t.fKeys[j]) (-1) && !ieq t.fItems[j].fKind (fk t.fKeys[j])) || ob (t.fKeys[j], t.fItems[j])) then true else v)
    cases ieq (fk t.fKeys[j]) (-1) with
    | true => exact e2
    | false =>
      simp only [Bool.not_false, cond_true, Bool.true_and]
      cases ieq t.fItems[j].fKind (fk t.fKeys[j]) with
      | true => exact e2
      | false => exact Ev.now fun _ => rfl
/-- A table's items, as they must be. -/
def Gd (F : List T_api_Value) : Prop := F.length ≤ 2000000 ∧ ∀ t ∈ F, wt t ≤ 1048576 ∧ vf t = 0
theorem gd_items {t : T_api_Value} (hv : wt t ≤ 1048576) (hf : vf t = 0) : Gd t.fItems := by
  have h1 := len_le t.fItems
  have h0 := hv
  rw [wt_eq] at hv
  exact ⟨by omega, fun x hx => ⟨by have := wt_mem hx; omega, vfs_zero (vf_zero hf).2 x hx⟩⟩
theorem wk0 (F : List T_api_Value) (hF : Gd F) : Ev (fun k => conf_wrongKinds.l0 k F (llen F) 0) (F.any Wt) := by
  have : Ev (fun k => conf_wrongKinds.l0 k F (llen F) 0) (bif F.any Wt then true else false) := by
    refine any_loop F (fun k j => conf_wrongKinds.l0 k F (llen F) (j : Int)) Wt true false ?_ fun j hj v hv => ?_
    · exact Ev.step (g := fun _ => some false) (fun k => by simp only [conf_wrongKinds.l0, llen_eq, Go.Proofs.YtmbjiadilfbooaaGreatDoor.Lift.ilen', cond_false]) (Ev.now fun _ => rfl)
    · obtain ⟨h1, h2⟩ := hF.2 _ (List.getElem_mem hj)
      have hlen := hF.1
      refine Ev.step (fun k => by simp only [conf_wrongKinds.l0, llen_eq, Go.Proofs.YtmbjiadilfbooaaGreatDoor.Lift.ilen _ _ hj, cond_true, lat_lt hj, Option.bind_some]; try rfl) ?_
      unfold Wt
      cases e : ieq F[j].fKind 6 with
      | false => exact Ev.now fun _ => rfl
      | true =>
        have h6 : F[j].fKind = 6 := by rw [ieq_d] at e; exact of_decide_eq_true e
        simp only [Bool.not_true, cond_false, Bool.false_or]
        refine wk1 F[j] (tb_of h6 h1 h2) F (llen F) (j : Int) v (fun y hy => ?_) (by rw [u0 (show j ≤ 4611686018427387904 by omega)]; exact hv)
        exact (gd_items ((gd_items h1 h2).2 y hy).1 ((gd_items h1 h2).2 y hy).2).1
  cases e : F.any Wt <;> rw [e] at this <;> exact this
def WK (t : T_api_Value) : Bool := (match lp c_strict (prs t) with | some x => !ieq x.fKind 1 | none => false) || ((match lp c_fields (prs t) with | some x => !ieq x.fKind 5 | none => false) || (out (lp c_fields (prs t))).1.fItems.any Wt)
theorem lp_in {t x : T_api_Value} {c : ByteArray} (h : lp c (prs t) = some x) : x ∈ t.fItems := by
  obtain ⟨p, p1, _, rfl⟩ := lp_mem h
  exact (List.of_mem_zip p1).2
theorem gd_of {t : T_api_Value} (hv : wt t ≤ 1048576) (hf : vf t = 0) (c : ByteArray) : Gd (out (lp c (prs t))).1.fItems := by
  cases e : lp c (prs t) with
  | none => exact ⟨by decide, fun _ h => nomatch h⟩
  | some x =>
    obtain ⟨h1, h2⟩ := (gd_items hv hf).2 x (lp_in e)
    exact gd_items h1 h2
theorem wrongKinds_ok (t : T_api_Value) (h : Tb t) (hv : wt t ≤ 1048576) (hf : vf t = 0) : Ev (fun k => conf_wrongKinds.f k t) (WK t) := by
  refine Ev.congr (fun k => by simp only [conf_wrongKinds.f, h.six, show ieq 6 6 = true from rfl, Bool.not_true, cond_false, eta]; try rfl) (Ev.bind (item_ok h c_strict) ?_)
  have rest := wk0 _ (gd_of hv hf c_fields)
  have e2 : Ev (fun k => (conf_item.f k t c_fields).bind fun y2 => (bif (bif y2.2 then (!ieq y2.1.fKind 5) else false) then (some true) else (conf_wrongKinds.l0 k y2.1.fItems (llen y2.1.fItems) 0))) ((match lp c_fields (prs t) with | some x => !ieq x.fKind 5 | none => false) || (out (lp c_fields (prs t))).1.fItems.any Wt) := by
    refine Ev.bind (item_ok h c_fields) ?_
    cases e : lp c_fields (prs t) with
    | none => rw [e] at rest; exact rest
    | some x =>
      rw [e] at rest
      show Ev (fun k => bif !ieq x.fKind 5 then some true else conf_wrongKinds.l0 k x.fItems (llen x.fItems) 0) (!ieq x.fKind 5 || x.fItems.any Wt)
      cases ieq x.fKind 5 with
      | true => exact rest
      | false => exact Ev.now fun _ => rfl
  unfold WK
  cases e : lp c_strict (prs t) with
  | none => exact e2
  | some x =>
    show Ev (fun k => bif !ieq x.fKind 1 then some true else _) (!ieq x.fKind 1 || _)
    cases ieq x.fKind 1 with
    | true => exact e2
    | false => exact Ev.now fun _ => rfl

/-! Names. -/
theorem wn2 (t : T_api_Value) (h : Tb t) (F : List T_api_Value) (n i : Int) (r : Bool)
    (h0 : Ev (fun k => conf_wrongNames.l1 k F n (wadd .i64 i 1)) r) : Ev (fun k => conf_wrongNames.l2 k t.fKind t.fBool t.fInt t.fText t.fItems t.fKeys F n i t.fKeys (llen t.fKeys) 0) (bif (prs t).any nb then true else r) := by
  refine any_loop (prs t) (fun k j => conf_wrongNames.l2 k t.fKind t.fBool t.fInt t.fText t.fItems t.fKeys F n i t.fKeys (llen t.fKeys) (j : Int)) nb true r ?_ fun j hj v hv => ?_
  · rw [plen h]
    exact Ev.step (fun k => by simp only [conf_wrongNames.l2, llen_eq, Go.Proofs.YtmbjiadilfbooaaGreatDoor.Lift.ilen', cond_false]; try rfl) h0
  · rw [pat h hj]
    have hk : j < t.fKeys.length := by rw [plen h] at hj; exact hj
    have hx : j < t.fItems.length := by rw [← h.len]; exact hk
    have hf := h.few
    refine Ev.step (fun k => by simp only [conf_wrongNames.l2, llen_eq, Go.Proofs.YtmbjiadilfbooaaGreatDoor.Lift.ilen _ _ hk, cond_true, lat_lt hk, Option.bind_some, lat_lt hx, u0 (show j ≤ 4611686018427387904 by omega)]; try rfl) (Ev.bind (fk_ok t.fKeys[j]) ?_)
    show Ev _ (bif ((bif ieq (fk t.fKeys[j]) (-1) then !seq t.fKeys[j] c_default else false) || (seq t.fKeys[j] c_kind && !(kidx t.fItems[j].fText).2)) then true else v)
    cases (bif ieq (fk t.fKeys[j]) (-1) then !seq t.fKeys[j] c_default else false) with
    | true => exact Ev.now fun _ => rfl
    | false =>
      simp only [cond_false, Bool.false_or]
      cases seq t.fKeys[j] c_kind with
      | false => exact hv
      | true =>
        simp only [cond_true, Bool.true_and]
        refine Ev.bind (kindOf_ok t.fItems[j].fText) ?_
        cases (kidx t.fItems[j].fText).2 with
        | true => exact hv
        | false => exact Ev.now fun _ => rfl
theorem wn1 (F : List T_api_Value) (hl : F.length ≤ 2000000) (hF : ∀ t ∈ F, Tb t) : Ev (fun k => conf_wrongNames.l1 k F (llen F) 0) (F.any Nt) := by
  have : Ev (fun k => conf_wrongNames.l1 k F (llen F) 0) (bif F.any Nt then true else false) := by
    refine any_loop F (fun k j => conf_wrongNames.l1 k F (llen F) (j : Int)) Nt true false ?_ fun j hj v hv => ?_
    · exact Ev.step (g := fun _ => some false) (fun k => by simp only [conf_wrongNames.l1, llen_eq, Go.Proofs.YtmbjiadilfbooaaGreatDoor.Lift.ilen', cond_false]) (Ev.now fun _ => rfl)
    · exact Ev.step (fun k => by simp only [conf_wrongNames.l1, llen_eq, Go.Proofs.YtmbjiadilfbooaaGreatDoor.Lift.ilen _ _ hj, cond_true, lat_lt hj, Option.bind_some]; try rfl) (wn2 F[j] (hF _ (List.getElem_mem hj)) F (llen F) (j : Int) v (by rw [u0 (show j ≤ 4611686018427387904 by omega)]; exact hv))
  cases e : F.any Nt <;> rw [e] at this <;> exact this
def un0 (k : ByteArray) : Bool := bif !seq k c_fields then !seq k c_strict else false
def NK (t : T_api_Value) : Bool := t.fKeys.any un0 || (out (lp c_fields (prs t))).1.fItems.any Nt
theorem wrongNames_ok (t : T_api_Value) (h : Tb t) (hl : (out (lp c_fields (prs t))).1.fItems.length ≤ 2000000) (hF : ∀ x ∈ (out (lp c_fields (prs t))).1.fItems, Tb x) : Ev (fun k => conf_wrongNames.f k t) (NK t) := by
  have : Ev (fun k => conf_wrongNames.l0 k t.fKind t.fBool t.fInt t.fText t.fItems t.fKeys t.fKeys (llen t.fKeys) 0) (bif t.fKeys.any un0 then true else (out (lp c_fields (prs t))).1.fItems.any Nt) := by
    refine any_loop t.fKeys (fun k j => conf_wrongNames.l0 k t.fKind t.fBool t.fInt t.fText t.fItems t.fKeys t.fKeys (llen t.fKeys) (j : Int)) un0 true _ ?_ fun j hj v hv => ?_
    · exact Ev.step (fun k => by simp only [conf_wrongNames.l0, llen_eq, Go.Proofs.YtmbjiadilfbooaaGreatDoor.Lift.ilen', cond_false, eta]; try rfl) (Ev.bind (item_ok h c_fields) (wn1 _ hl hF))
    · have hf := h.few
      refine Ev.step (fun k => by simp only [conf_wrongNames.l0, llen_eq, Go.Proofs.YtmbjiadilfbooaaGreatDoor.Lift.ilen _ _ hj, cond_true, lat_lt hj, Option.bind_some, u0 (show j ≤ 4611686018427387904 by omega)]; try rfl) ?_
      unfold un0
      cases (bif !seq t.fKeys[j] c_fields then !seq t.fKeys[j] c_strict else false) with
      | true => exact Ev.now fun _ => rfl
      | false => exact hv
  refine Ev.congr (fun k => by simp only [conf_wrongNames.f]; try rfl) ?_
  unfold NK
  cases e : t.fKeys.any un0 <;> rw [e] at this <;> exact this
theorem out_snd (o : Option T_api_Value) : (out o).2 = o.isSome := by cases o <;> rfl
def lack (t : T_api_Value) : Bool := bif (bif !(out (lp c_route (prs t))).2 then true else !(out (lp c_kind (prs t))).2) then true else !((out (lp c_min (prs t))).2 == (out (lp c_max (prs t))).2)
theorem lacking_ok (t : T_api_Value) (h : Tb t) : Ev (fun k => conf_lacking.f k t) (lack t) := by
  refine Ev.congr (fun k => by simp only [conf_lacking.f, eta]; try rfl) (Ev.bind (item_ok h c_route) (Ev.bind (item_ok h c_kind) (Ev.bind (item_ok h c_min) ?_)))
  refine Ev.bind (item_ok h c_max) ?_
  exact Ev.now fun _ => rfl

/-! A field is read. -/
def zf : T_conf_Field := ⟨c_empty, 0, false, false, 0, 0, [], zro⟩
def txs (l : List T_api_Value) : List ByteArray := l.map fun y => y.fText
def upd (f : T_conf_Field) (k : ByteArray) (x : T_api_Value) : T_conf_Field :=
  bif seq k c_route then { f with fRoute := x.fText } else bif seq k c_kind then { f with fKind := (kidx x.fText).1 } else bif seq k c_need then { f with fNeed := x.fBool } else bif seq k c_min then { f with fBounded := true, fMin := x.fInt } else bif seq k c_max then { f with fBounded := true, fMax := x.fInt } else bif seq k c_oneof then { f with fOneOf := f.fOneOf ++ txs x.fItems } else bif seq k c_default then { f with fDefault := x } else f
def Fd (t : T_api_Value) : T_conf_Field := (prs t).foldl (fun f p => upd f p.1 p.2) zf
theorem kz_app : ∀ a b : List ByteArray, kz (a ++ b) = kz a + kz b
  | [], b => by simp [kz]
  | x :: a, b => by simp only [List.cons_append, kz, kz_app a b]; omega
theorem kz_txs : ∀ l : List T_api_Value, kz (txs l) ≤ wts l
  | [] => by simp [txs, kz, wts]
  | x :: l => by
    have := kz_txs l
    have h2 := wt_eq x
    show x.fText.size + 1 + kz (txs l) ≤ wt x + wts l
    omega
theorem fz_upd (f : T_conf_Field) (k : ByteArray) (x : T_api_Value) : fz (upd f k x) ≤ fz f + wt x := by
  have h := wt_eq x
  have h2 := kz_txs x.fItems
  unfold upd
  cases seq k c_route with
  | true => simp only [cond_true, fz]; omega
  | false =>
  cases seq k c_kind with
  | true => simp only [cond_true, cond_false, fz]; omega
  | false =>
  cases seq k c_need with
  | true => simp only [cond_true, cond_false, fz]; omega
  | false =>
  cases seq k c_min with
  | true => simp only [cond_true, cond_false, fz]; omega
  | false =>
  cases seq k c_max with
  | true => simp only [cond_true, cond_false, fz]; omega
  | false =>
  cases seq k c_oneof with
  | true => simp only [cond_true, cond_false, fz, kz_app]; omega
  | false =>
  cases seq k c_default with
  | true => simp only [cond_true, cond_false, fz]; omega
  | false => simp only [cond_false]; omega
theorem fz_fold : ∀ (ks : List ByteArray) (xs : List T_api_Value) (f : T_conf_Field), fz ((ks.zip xs).foldl (fun f p => upd f p.1 p.2) f) ≤ fz f + wts xs
  | [], xs, f => by simp
  | k :: ks, [], f => by simp
  | k :: ks, x :: xs, f => by
    have h1 := fz_upd f k x
    have h2 := fz_fold ks xs (upd f k x)
    rw [List.zip_cons_cons, List.foldl_cons]
    show _ ≤ fz f + (wt x + wts xs)
    have h2 : fz ((ks.zip xs).foldl (fun f p => upd f p.1 p.2) (upd f k x)) ≤ fz (upd f k x) + wts xs := h2
    exact Nat.le_trans h2 (by omega)
theorem fz_Fd (t : T_api_Value) : fz (Fd t) ≤ wt t + 1 := by
  have h := fz_fold t.fKeys t.fItems zf
  have h2 : fz zf = 2 := by decide
  have h3 := wt_eq t
  show fz ((t.fKeys.zip t.fItems).foldl (fun f p => upd f p.1 p.2) zf) ≤ _
  omega
theorem rf1 (t : T_api_Value) (f : T_conf_Field) (ks : List ByteArray) (n i : Int) (ys : List T_api_Value) (r : T_conf_Field) (hl : f.fOneOf.length + ys.length ≤ 4000000)
    (h : Ev (fun k => conf_readField.l0 k t.fKind t.fBool t.fInt t.fText t.fItems t.fKeys c_empty 0 false false 0 0 [] 0 false 0 c_empty [] [] f.fRoute f.fKind f.fNeed f.fBounded f.fMin f.fMax (f.fOneOf ++ txs ys) f.fDefault.fKind f.fDefault.fBool f.fDefault.fInt f.fDefault.fText f.fDefault.fItems f.fDefault.fKeys ks n (wadd .i64 i 1)) r) : Ev (fun k => conf_readField.l1 k t.fKind t.fBool t.fInt t.fText t.fItems t.fKeys c_empty 0 false false 0 0 [] 0 false 0 c_empty [] [] f.fRoute f.fKind f.fNeed f.fBounded f.fMin f.fMax f.fOneOf f.fDefault.fKind f.fDefault.fBool f.fDefault.fInt f.fDefault.fText f.fDefault.fItems f.fDefault.fKeys ks n i ys (llen ys) 0) r := by
  have : ∀ (d j : Nat), ys.length - j ≤ d → j ≤ ys.length → Ev (fun k => conf_readField.l1 k t.fKind t.fBool t.fInt t.fText t.fItems t.fKeys c_empty 0 false false 0 0 [] 0 false 0 c_empty [] [] f.fRoute f.fKind f.fNeed f.fBounded f.fMin f.fMax (f.fOneOf ++ txs (ys.take j)) f.fDefault.fKind f.fDefault.fBool f.fDefault.fInt f.fDefault.fText f.fDefault.fItems f.fDefault.fKeys ks n i ys (llen ys) (j : Int)) r := by
    intro d
    have last : ∀ j : Nat, j = ys.length → Ev (fun k => conf_readField.l1 k t.fKind t.fBool t.fInt t.fText t.fItems t.fKeys c_empty 0 false false 0 0 [] 0 false 0 c_empty [] [] f.fRoute f.fKind f.fNeed f.fBounded f.fMin f.fMax (f.fOneOf ++ txs (ys.take j)) f.fDefault.fKind f.fDefault.fBool f.fDefault.fInt f.fDefault.fText f.fDefault.fItems f.fDefault.fKeys ks n i ys (llen ys) (j : Int)) r := fun j hj => by
      subst hj
      rw [List.take_length]
      exact Ev.step (fun k => by simp only [conf_readField.l1, llen_eq, Go.Proofs.YtmbjiadilfbooaaGreatDoor.Lift.ilen', cond_false]; try rfl) h
    induction d with
    | zero => intro j hd hj; exact last j (by omega)
    | succ d ih =>
      intro j hd hj
      rcases Nat.lt_or_ge j ys.length with hlt | hge
      · have ha : lapp 16 (f.fOneOf ++ txs (ys.take j)) [ys[j].fText] = some (f.fOneOf ++ txs (ys.take (j + 1))) := by
          have hlen : (f.fOneOf ++ txs (ys.take j)).length = f.fOneOf.length + j := by
            rw [List.length_append, txs, List.length_map, List.length_take, Nat.min_eq_left (by omega)]
          rw [lapp_ok (by rw [hlen, List.length_singleton]; omega) (by rw [hlen, List.length_singleton]; omega)]
          unfold txs
          rw [take_map hlt, List.append_assoc]
        refine Ev.step (fun k => ?_) (ih (j + 1) (by omega) hlt)
        simp only [conf_readField.l1, llen_eq, Go.Proofs.YtmbjiadilfbooaaGreatDoor.Lift.ilen _ _ hlt, cond_true, lat_lt hlt, Option.bind_some, ha, u0 (show j ≤ 4611686018427387904 by omega)]
      · exact last j (by omega)
  have := this ys.length 0 (by omega) (by omega)
  rw [List.take_zero, show txs [] = [] from rfl, List.append_nil] at this
  exact this
theorem wts_drop {l : List T_api_Value} {j : Nat} (h : j < l.length) : wts (l.drop j) = wt l[j] + wts (l.drop (j + 1)) := by
  rw [List.drop_eq_getElem_cons h]; rfl
theorem len_fz (f : T_conf_Field) : f.fOneOf.length ≤ fz f := by
  have := klen_le f.fOneOf
  unfold fz
  omega
theorem readField_ok (t : T_api_Value) (h : Tb t) (hv : wt t ≤ 1048576) : Ev (fun k => conf_readField.f k t) (Fd t) := by
  have loop : ∀ (d j : Nat) (f : T_conf_Field), t.fKeys.length - j ≤ d → j ≤ t.fKeys.length → fz f + wts (t.fItems.drop j) ≤ 2000000 → Ev (fun k => conf_readField.l0 k t.fKind t.fBool t.fInt t.fText t.fItems t.fKeys c_empty 0 false false 0 0 [] 0 false 0 c_empty [] [] f.fRoute f.fKind f.fNeed f.fBounded f.fMin f.fMax f.fOneOf f.fDefault.fKind f.fDefault.fBool f.fDefault.fInt f.fDefault.fText f.fDefault.fItems f.fDefault.fKeys t.fKeys (llen t.fKeys) (j : Int)) (((prs t).drop j).foldl (fun f p => upd f p.1 p.2) f) := by
    intro d
    have last : ∀ (j : Nat) (f : T_conf_Field), j = t.fKeys.length → Ev (fun k => conf_readField.l0 k t.fKind t.fBool t.fInt t.fText t.fItems t.fKeys c_empty 0 false false 0 0 [] 0 false 0 c_empty [] [] f.fRoute f.fKind f.fNeed f.fBounded f.fMin f.fMax f.fOneOf f.fDefault.fKind f.fDefault.fBool f.fDefault.fInt f.fDefault.fText f.fDefault.fItems f.fDefault.fKeys t.fKeys (llen t.fKeys) (j : Int)) (((prs t).drop j).foldl (fun f p => upd f p.1 p.2) f) := fun j f hj => by
      subst hj
      rw [List.drop_eq_nil_of_le (by rw [plen h]; exact Nat.le_refl _), List.foldl_nil]
      refine Ev.step (g := fun _ => some f) (fun k => ?_) (Ev.now fun _ => rfl)
      simp only [conf_readField.l0, llen_eq, Go.Proofs.YtmbjiadilfbooaaGreatDoor.Lift.ilen', cond_false, eta, feta]
    induction d with
    | zero => intro j f hd hj _; exact last j f (by omega)
    | succ d ih =>
      intro j f hd hj hz
      rcases Nat.lt_or_ge j t.fKeys.length with hk | hge
      · have hp : j < (prs t).length := by rw [plen h]; exact hk
        have hx : j < t.fItems.length := by rw [← h.len]; exact hk
        have hf := h.few
        have hw := wts_drop hx
        have hwt : wt t.fItems[j] ≤ wts t.fItems := wt_mem (List.getElem_mem hx)
        have hwe := wt_eq t
        have hxe := wt_eq t.fItems[j]
        have hxl := len_le t.fItems[j].fItems
        have hfl := len_fz f
        rw [List.drop_eq_getElem_cons hp, List.foldl_cons, pat h hp]
        have hu := fz_upd f t.fKeys[j] t.fItems[j]
        have hv := ih (j + 1) (upd f t.fKeys[j] t.fItems[j]) (by omega) hk (by omega)
        have hr : ((prs t).drop (j + 1)).foldl (fun f p => upd f p.1 p.2) (upd f t.fKeys[j] t.fItems[j]) = ((prs t).drop (j + 1)).foldl (fun f p => upd f p.1 p.2) ((fun f p => upd f p.1 p.2) f (t.fKeys[j], t.fItems[j])) := rfl
        rw [← hr]
        generalize ((prs t).drop (j + 1)).foldl (fun f p => upd f p.1 p.2) (upd f t.fKeys[j] t.fItems[j]) = R at hv
        have h1 := u0 (show j ≤ 4611686018427387904 by omega)
        have go : ∀ (g : Nat → Option T_conf_Field), (∀ k, conf_readField.l0 (k + 1) t.fKind t.fBool t.fInt t.fText t.fItems t.fKeys c_empty 0 false false 0 0 [] 0 false 0 c_empty [] [] f.fRoute f.fKind f.fNeed f.fBounded f.fMin f.fMax f.fOneOf f.fDefault.fKind f.fDefault.fBool f.fDefault.fInt f.fDefault.fText f.fDefault.fItems f.fDefault.fKeys t.fKeys (llen t.fKeys) (j : Int) = g k) → Ev g R → Ev (fun k => conf_readField.l0 k t.fKind t.fBool t.fInt t.fText t.fItems t.fKeys c_empty 0 false false 0 0 [] 0 false 0 c_empty [] [] f.fRoute f.fKind f.fNeed f.fBounded f.fMin f.fMax f.fOneOf f.fDefault.fKind f.fDefault.fBool f.fDefault.fInt f.fDefault.fText f.fDefault.fItems f.fDefault.fKeys t.fKeys (llen t.fKeys) (j : Int)) R := fun g e b => Ev.step e b
        unfold upd at hv
        cases e1 : seq t.fKeys[j] c_route with
        | true =>
          rw [e1, cond_true] at hv
          refine Ev.step (fun k => ?_) hv
          simp only [conf_readField.l0, llen_eq, Go.Proofs.YtmbjiadilfbooaaGreatDoor.Lift.ilen _ _ hk, cond_true, lat_lt hk, Option.bind_some, lat_lt hx, e1, h1]
        | false =>
        cases e2 : seq t.fKeys[j] c_kind with
        | true =>
          rw [e1, e2, cond_true, cond_false] at hv
          refine Ev.step (fun k => by simp only [conf_readField.l0, llen_eq, Go.Proofs.YtmbjiadilfbooaaGreatDoor.Lift.ilen _ _ hk, cond_true, cond_false, lat_lt hk, Option.bind_some, lat_lt hx, e1, e2, h1]; try rfl) (Ev.bind (kindOf_ok t.fItems[j].fText) ?_)
          exact hv
        | false =>
        cases e3 : seq t.fKeys[j] c_need with
        | true =>
          rw [e1, e2, e3, cond_true, cond_false, cond_false] at hv
          refine Ev.step (fun k => ?_) hv
          simp only [conf_readField.l0, llen_eq, Go.Proofs.YtmbjiadilfbooaaGreatDoor.Lift.ilen _ _ hk, cond_true, cond_false, lat_lt hk, Option.bind_some, lat_lt hx, e1, e2, e3, h1]
        | false =>
        cases e4 : seq t.fKeys[j] c_min with
        | true =>
          rw [e1, e2, e3, e4, cond_true, cond_false, cond_false, cond_false] at hv
          refine Ev.step (fun k => ?_) hv
          simp only [conf_readField.l0, llen_eq, Go.Proofs.YtmbjiadilfbooaaGreatDoor.Lift.ilen _ _ hk, cond_true, cond_false, lat_lt hk, Option.bind_some, lat_lt hx, e1, e2, e3, e4, h1]
        | false =>
        cases e5 : seq t.fKeys[j] c_max with
        | true =>
          rw [e1, e2, e3, e4, e5, cond_true, cond_false, cond_false, cond_false, cond_false] at hv
          refine Ev.step (fun k => ?_) hv
          simp only [conf_readField.l0, llen_eq, Go.Proofs.YtmbjiadilfbooaaGreatDoor.Lift.ilen _ _ hk, cond_true, cond_false, lat_lt hk, Option.bind_some, lat_lt hx, e1, e2, e3, e4, e5, h1]
        | false =>
        cases e6 : seq t.fKeys[j] c_oneof with
        | true =>
          rw [e1, e2, e3, e4, e5, e6, cond_true, cond_false, cond_false, cond_false, cond_false, cond_false] at hv
          refine Ev.step (fun k => by simp only [conf_readField.l0, llen_eq, Go.Proofs.YtmbjiadilfbooaaGreatDoor.Lift.ilen _ _ hk, cond_true, cond_false, lat_lt hk, Option.bind_some, lat_lt hx, e1, e2, e3, e4, e5, e6]; try rfl) (rf1 t f t.fKeys (llen t.fKeys) (j : Int) t.fItems[j].fItems R (by omega) ?_)
          rw [h1]
          exact hv
        | false =>
        cases e7 : seq t.fKeys[j] c_default with
        | true =>
          rw [e1, e2, e3, e4, e5, e6, e7, cond_true, cond_false, cond_false, cond_false, cond_false, cond_false, cond_false] at hv
          refine Ev.step (fun k => by simp only [conf_readField.l0, llen_eq, Go.Proofs.YtmbjiadilfbooaaGreatDoor.Lift.ilen _ _ hk, cond_true, cond_false, lat_lt hk, Option.bind_some, lat_lt hx, e1, e2, e3, e4, e5, e6, e7, eta, h1]; try rfl) (Ev.bind (clone_ok t.fItems[j] (by omega)) ?_)
          exact hv
        | false =>
          rw [e1, e2, e3, e4, e5, e6, e7, cond_false, cond_false, cond_false, cond_false, cond_false, cond_false, cond_false] at hv
          refine Ev.step (fun k => ?_) hv
          simp only [conf_readField.l0, llen_eq, Go.Proofs.YtmbjiadilfbooaaGreatDoor.Lift.ilen _ _ hk, cond_true, cond_false, lat_lt hk, Option.bind_some, lat_lt hx, e1, e2, e3, e4, e5, e6, e7, h1]
      · exact last j f (by omega)
  have h2 : fz zf = 2 := by decide
  have h3 := wt_eq t
  have := loop t.fKeys.length 0 zf (by omega) (by omega) (by rw [List.drop_zero]; omega)
  rw [List.drop_zero] at this
  exact Ev.congr (fun k => by simp only [conf_readField.f]; try rfl) this

/-! A field as the reference reads it. -/
def kI (s : ByteArray) : Int := fl (fun y => seq y s) (fun j => (j : Int)) (-1) 0 g_kindNames
def tv (t : T_api_Value) (c : ByteArray) : T_api_Value := (out (lp c (prs t))).1
def Fr (t : T_api_Value) : T_conf_Field := ⟨(tv t c_route).fText, kI (tv t c_kind).fText, (tv t c_need).fBool, (out (lp c_min (prs t))).2, (tv t c_min).fInt, (tv t c_max).fInt, txs (tv t c_oneof).fItems, tv t c_default⟩
theorem textsOf_ok (v : T_api_Value) (hl : v.fItems.length ≤ 2000000) : Ev (fun k => mastref2_textsOf.f k v) (txs v.fItems) := by
  refine Ev.congr (g := fun k => mastref2_textsOf.l0 k [] v.fItems (llen v.fItems) ((0 : Nat) : Int)) (fun k => by simp only [mastref2_textsOf.f]; try rfl) (map_loop v.fItems (fun y : T_api_Value => y.fText) (fun k acc j => mastref2_textsOf.l0 k acc v.fItems (llen v.fItems) (j : Int)) (fun _ y => some y) (fun k j y => (lapp 16 ((v.fItems.take j).map fun y : T_api_Value => y.fText) [y.fText]).bind fun z => mastref2_textsOf.l0 k z v.fItems (llen v.fItems) (wadd .i64 (j : Int) 1)) (fun _ => some (txs v.fItems)) (txs v.fItems) (fun k j hj => ?_) (fun k => ?_) (Ev.now fun _ => rfl) (fun j hj => ⟨_, Ev.now fun _ => rfl, fun w hw => ?_⟩))
  · simp only [mastref2_textsOf.l0, llen_eq, Go.Proofs.YtmbjiadilfbooaaGreatDoor.Lift.ilen _ _ hj, cond_true, lat_lt hj, Option.bind_some]
  · simp only [mastref2_textsOf.l0, llen_eq, Go.Proofs.YtmbjiadilfbooaaGreatDoor.Lift.ilen', cond_false]; rfl
  · have ha : lapp 16 ((v.fItems.take j).map fun y : T_api_Value => y.fText) [v.fItems[j].fText] = some ((v.fItems.take (j + 1)).map fun y : T_api_Value => y.fText) := by
      rw [lapp_ok (by simp only [List.length_map, List.length_take, List.length_singleton]; omega) (by simp only [List.length_map, List.length_take, List.length_singleton]; omega), take_map hj]
    simp only [ha, Option.bind_some, u0 (show j ≤ 4611686018427387904 by omega)]
    exact hw
theorem fieldOf_ok (t : T_api_Value) (h : Tb t) (hv : wt t ≤ 1048576) (hf : vf t = 0) : Ev (fun k => mastref2_fieldOf.f k t) (Fr t) := by
  have hq := index_ok g_mastref2_kindNames (tv t c_kind).fText (by decide)
  have hlen := (gd_of hv hf c_oneof).1
  refine Ev.congr (fun k => by simp only [mastref2_fieldOf.f, eta]; try rfl) (Ev.bind (has_ok h c_route) (Ev.bind (has_ok h c_kind) (Ev.bind hq (Ev.bind (has_ok h c_need) (Ev.bind (has_ok h c_min) ?_)))))
  have fin : ∀ (b : Bool) (n : Int), Ev (fun k => mastref2_fieldOf.l0 k t.fKind t.fBool t.fInt t.fText t.fItems t.fKeys c_empty 0 false false 0 0 [] 0 false 0 c_empty [] [] (tv t c_route).fText (kI (tv t c_kind).fText) (tv t c_need).fBool b n 0 [] 0 false 0 c_empty [] [] (tv t c_need).fKind (tv t c_need).fBool (tv t c_need).fInt (tv t c_need).fText (tv t c_need).fItems (tv t c_need).fKeys) ⟨(tv t c_route).fText, kI (tv t c_kind).fText, (tv t c_need).fBool, b, n, (tv t c_max).fInt, txs (tv t c_oneof).fItems, tv t c_default⟩ := fun b n => by
    refine Ev.step (fun k => by simp only [mastref2_fieldOf.l0, eta]; try rfl) (Ev.bind (has_ok h c_max) (Ev.bind (has_ok h c_oneof) (Ev.bind (textsOf_ok _ hlen) ?_)))
    refine Ev.bind (has_ok h c_default) ?_
    exact Ev.now fun _ => rfl
  unfold Fr
  cases e : lp c_min (prs t) with
  | none =>
    have e2 : (tv t c_min).fInt = 0 := by unfold tv; rw [e]; rfl
    rw [e2]
    exact fin false 0
  | some x =>
    have e2 : (tv t c_min).fInt = x.fInt := by unfold tv; rw [e]; rfl
    rw [e2]
    exact fin true x.fInt

/-! Both read a field alike. -/
theorem comp {β : Type} (π : T_conf_Field → β) (c : ByteArray) (g : β → T_api_Value → β) (h1 : ∀ f x, π (upd f c x) = g (π f) x) (h2 : ∀ f k x, seq k c = false → π (upd f k x) = π f) : ∀ (l : List (ByteArray × T_api_Value)) (f : T_conf_Field), Uq l → π (l.foldl (fun f p => upd f p.1 p.2) f) = match lp c l with | some x => g (π f) x | none => π f
  | [], _, _ => rfl
  | p :: r, f, h => by
    have hr := (List.pairwise_cons.1 h).2
    rw [List.foldl_cons, comp π c g h1 h2 r _ hr, lp]
    cases e : seq p.1 c with
    | true =>
      rw [lp_none (uq_away h e), cond_true]
      have e : p.1 = c := by rw [seq_d] at e; exact of_decide_eq_true e
      rw [e, h1]
    | false =>
      rw [cond_false, h2 _ _ _ e]
theorem fd_route (t : T_api_Value) (h : Tb t) : (Fd t).fRoute = (tv t c_route).fText := by
  have := comp (fun f => f.fRoute) c_route (fun _ x => x.fText) (fun _ _ => by kernel_rfl) (fun f k x e => by
    unfold upd; rw [e]
    cases seq k c_kind <;> cases seq k c_need <;> cases seq k c_min <;> cases seq k c_max <;> cases seq k c_oneof <;> cases seq k c_default <;> rfl) (prs t) zf (uq h)
  refine this.trans ?_
  unfold tv
  cases lp c_route (prs t) <;> rfl
theorem fd_kind (t : T_api_Value) (h : Tb t) : (Fd t).fKind = match lp c_kind (prs t) with | some x => (kidx x.fText).1 | none => 0 := by
  exact comp (fun f => f.fKind) c_kind (fun _ x => (kidx x.fText).1) (fun _ _ => by kernel_rfl) (fun f k x e => by
    unfold upd; rw [e]
    cases seq k c_route <;> cases seq k c_need <;> cases seq k c_min <;> cases seq k c_max <;> cases seq k c_oneof <;> cases seq k c_default <;> rfl) (prs t) zf (uq h)
theorem fd_need (t : T_api_Value) (h : Tb t) : (Fd t).fNeed = (tv t c_need).fBool := by
  have := comp (fun f => f.fNeed) c_need (fun _ x => x.fBool) (fun _ _ => by kernel_rfl) (fun f k x e => by
    unfold upd; rw [e]
    cases seq k c_route <;> cases seq k c_kind <;> cases seq k c_min <;> cases seq k c_max <;> cases seq k c_oneof <;> cases seq k c_default <;> rfl) (prs t) zf (uq h)
  refine this.trans ?_
  unfold tv
  cases lp c_need (prs t) <;> rfl
theorem fd_min (t : T_api_Value) (h : Tb t) : (Fd t).fMin = (tv t c_min).fInt := by
  have := comp (fun f => f.fMin) c_min (fun _ x => x.fInt) (fun _ _ => by kernel_rfl) (fun f k x e => by
    unfold upd; rw [e]
    cases seq k c_route <;> cases seq k c_kind <;> cases seq k c_need <;> cases seq k c_max <;> cases seq k c_oneof <;> cases seq k c_default <;> rfl) (prs t) zf (uq h)
  refine this.trans ?_
  unfold tv
  cases lp c_min (prs t) <;> rfl
theorem fd_max (t : T_api_Value) (h : Tb t) : (Fd t).fMax = (tv t c_max).fInt := by
  have := comp (fun f => f.fMax) c_max (fun _ x => x.fInt) (fun _ _ => by kernel_rfl) (fun f k x e => by
    unfold upd; rw [e]
    cases seq k c_route <;> cases seq k c_kind <;> cases seq k c_need <;> cases seq k c_min <;> cases seq k c_oneof <;> cases seq k c_default <;> rfl) (prs t) zf (uq h)
  refine this.trans ?_
  unfold tv
  cases lp c_max (prs t) <;> rfl
theorem fd_one (t : T_api_Value) (h : Tb t) : (Fd t).fOneOf = txs (tv t c_oneof).fItems := by
  have := comp (fun f => f.fOneOf) c_oneof (fun l x => l ++ txs x.fItems) (fun _ _ => by kernel_rfl) (fun f k x e => by
    unfold upd; rw [e]
    cases seq k c_route <;> cases seq k c_kind <;> cases seq k c_need <;> cases seq k c_min <;> cases seq k c_max <;> cases seq k c_default <;> rfl) (prs t) zf (uq h)
  refine this.trans ?_
  unfold tv
  cases lp c_oneof (prs t) <;> rfl
theorem fd_dflt (t : T_api_Value) (h : Tb t) : (Fd t).fDefault = tv t c_default := by
  have := comp (fun f => f.fDefault) c_default (fun _ x => x) (fun _ _ => by kernel_rfl) (fun f k x e => by
    unfold upd; rw [e]
    cases seq k c_route <;> cases seq k c_kind <;> cases seq k c_need <;> cases seq k c_min <;> cases seq k c_max <;> cases seq k c_oneof <;> rfl) (prs t) zf (uq h)
  refine this.trans ?_
  unfold tv
  cases lp c_default (prs t) <;> rfl
theorem upd_bnd (f : T_conf_Field) (k : ByteArray) (x : T_api_Value) : (upd f k x).fBounded = (f.fBounded || (seq k c_min || seq k c_max)) := by
  have e : ∀ c, seq k c = true → k = c := fun c e => by rw [seq_d] at e; exact of_decide_eq_true e
  unfold upd
  cases e1 : seq k c_route with
  | true =>
    rw [e _ e1]
    simp [show seq c_route c_min = false from by decide +kernel, show seq c_route c_max = false from by decide +kernel]
  | false =>
  cases e2 : seq k c_kind with
  | true =>
    rw [e _ e2]
    simp [show seq c_kind c_min = false from by decide +kernel, show seq c_kind c_max = false from by decide +kernel]
  | false =>
  cases e3 : seq k c_need with
  | true =>
    rw [e _ e3]
    simp [show seq c_need c_min = false from by decide +kernel, show seq c_need c_max = false from by decide +kernel]
  | false =>
  cases e4 : seq k c_min with
  | true => simp
  | false =>
  cases e5 : seq k c_max with
  | true => simp
  | false => cases seq k c_oneof <;> cases seq k c_default <;> simp
theorem fold_bnd : ∀ (l : List (ByteArray × T_api_Value)) (f : T_conf_Field), (l.foldl (fun f p => upd f p.1 p.2) f).fBounded = (f.fBounded || ((lp c_min l).isSome || (lp c_max l).isSome))
  | [], f => by simp [lp]
  | p :: r, f => by
    rw [List.foldl_cons, fold_bnd r, upd_bnd, lp, lp]
    cases f.fBounded <;> cases seq p.1 c_min <;> cases seq p.1 c_max <;> simp only [cond_true, cond_false, Option.isSome_some] <;> cases (lp c_min r).isSome <;> cases (lp c_max r).isSome <;> rfl
theorem fl_found {α β γ : Type} (q : α → Bool) (hit : Nat → β) (w : Nat → γ) (fin : β) (z : γ) (g : β → γ) (hg : ∀ j, g (hit j) = w j) : ∀ (l : List α) (j : Nat), l.any q = true → g (fl q hit fin j l) = fl q w z j l
  | [], _, h => nomatch h
  | a :: l, j, h => by
    rw [List.any_cons] at h
    rw [fl, fl]
    cases e : q a with
    | true => exact hg j
    | false => rw [e, Bool.false_or] at h; exact fl_found q hit w fin z g hg l (j + 1) h
theorem kidx_any : (kidx c_any).1 = kI c_any := by kernel_rfl
theorem kidx_kI (s : ByteArray) (h : (kidx s).2 = true) : (kidx s).1 = kI s := by
  rw [kidx_snd] at h
  cases e : seq s c_any with
  | true =>
    have e : s = c_any := by rw [seq_d] at e; exact of_decide_eq_true e
    rw [e]
    exact kidx_any
  | false =>
    rw [e, Bool.false_or] at h
    unfold kidx kI
    rw [e, cond_false]
    exact fl_found (fun y => seq y s) (fun j => ((j : Int), true)) (fun j => (j : Int)) (0, false) (-1) Prod.fst (fun _ => rfl) g_kindNames 0 h
theorem fd_fr (t : T_api_Value) (h : Tb t) (hl : lack t = false) (hk : (match lp c_kind (prs t) with | some x => !(kidx x.fText).2 | none => false) = false) : Fd t = Fr t := by
  have hb : (Fd t).fBounded = (out (lp c_min (prs t))).2 := by
    have h1 := fold_bnd (prs t) zf
    have h2 : (Fd t).fBounded = (false || ((lp c_min (prs t)).isSome || (lp c_max (prs t)).isSome)) := h1
    rw [h2, out_snd]
    unfold lack at hl
    rw [out_snd, out_snd, out_snd, out_snd] at hl
    revert hl
    cases (lp c_route (prs t)).isSome <;> cases (lp c_kind (prs t)).isSome <;> cases (lp c_min (prs t)).isSome <;> cases (lp c_max (prs t)).isSome <;> simp
  have hkd : (Fd t).fKind = kI (tv t c_kind).fText := by
    rw [fd_kind t h]
    unfold tv
    cases e : lp c_kind (prs t) with
    | none =>
      exfalso
      unfold lack at hl
      rw [e] at hl
      revert hl
      cases (out (lp c_route (prs t))).2 <;> exact fun q => nomatch q
    | some x =>
      rw [e] at hk
      have hk : (!(kidx x.fText).2) = false := hk
      exact kidx_kI x.fText (by simpa using hk)
  rw [← feta (Fd t), fd_route t h, hkd, fd_need t h, hb, fd_min t h, fd_max t h, fd_one t h, fd_dflt t h]
  rfl

/-! The reference's faults of keys. -/
theorem keyFault_ok (t : T_api_Value) (h : Tb t) (ks : List ByteArray) (vs : List Int) : Ev (fun k => mastref2_keyFault.f k t ks vs) (((prs t).any (fun p => !(mget seq ks vs p.1).isSome), (prs t).any (fun p => (mget seq ks vs p.1).isSome && (!ieq ((mget seq ks vs p.1).getD 0) (-1) && !ieq p.2.fKind ((mget seq ks vs p.1).getD 0)))), ks, vs, ()) := by
  have loop : ∀ (d j : Nat) (a b : Bool), t.fKeys.length - j ≤ d → j ≤ t.fKeys.length → Ev (fun k => mastref2_keyFault.l0 k ks vs t.fKind t.fBool t.fInt t.fText t.fItems t.fKeys a b t.fKeys (llen t.fKeys) (j : Int)) ((a || ((prs t).drop j).any (fun p => !(mget seq ks vs p.1).isSome), b || ((prs t).drop j).any (fun p => (mget seq ks vs p.1).isSome && (!ieq ((mget seq ks vs p.1).getD 0) (-1) && !ieq p.2.fKind ((mget seq ks vs p.1).getD 0)))), ks, vs, ()) := by
    intro d
    have last : ∀ (j : Nat) (a b : Bool), j = t.fKeys.length → Ev (fun k => mastref2_keyFault.l0 k ks vs t.fKind t.fBool t.fInt t.fText t.fItems t.fKeys a b t.fKeys (llen t.fKeys) (j : Int)) ((a || ((prs t).drop j).any (fun p => !(mget seq ks vs p.1).isSome), b || ((prs t).drop j).any (fun p => (mget seq ks vs p.1).isSome && (!ieq ((mget seq ks vs p.1).getD 0) (-1) && !ieq p.2.fKind ((mget seq ks vs p.1).getD 0)))), ks, vs, ()) := fun j a b hj => by
      subst hj
      rw [List.drop_eq_nil_of_le (by rw [plen h]; exact Nat.le_refl _), List.any_nil, List.any_nil, Bool.or_false, Bool.or_false]
      exact Ev.step (g := fun _ => some ((a, b), ks, vs, ())) (fun k => by simp only [mastref2_keyFault.l0, llen_eq, Go.Proofs.YtmbjiadilfbooaaGreatDoor.Lift.ilen', cond_false]) (Ev.now fun _ => rfl)
    induction d with
    | zero => intro j a b hd hj; exact last j a b (by omega)
    | succ d ih =>
      intro j a b hd hj
      rcases Nat.lt_or_ge j t.fKeys.length with hk | hge
      · have hp : j < (prs t).length := by rw [plen h]; exact hk
        have hx : j < t.fItems.length := by rw [← h.len]; exact hk
        have hf := h.few
        rw [List.drop_eq_getElem_cons hp, List.any_cons, List.any_cons, pat h hp]
        have hv := fun a b => ih (j + 1) a b (by omega) hk
        have h1 := u0 (show j ≤ 4611686018427387904 by omega)
        show Ev _ ((a || (!(mget seq ks vs t.fKeys[j]).isSome || _), b || (((mget seq ks vs t.fKeys[j]).isSome && (!ieq ((mget seq ks vs t.fKeys[j]).getD 0) (-1) && !ieq t.fItems[j].fKind ((mget seq ks vs t.fKeys[j]).getD 0))) || _)), ks, vs, ())
        cases e : mget seq ks vs t.fKeys[j] with
        | none =>
          have := hv true b
          simp only [Option.isSome_none, Bool.not_false, Bool.true_or, Bool.or_true, Bool.false_and, Bool.false_or] at this ⊢
          refine Ev.step (fun k => ?_) this
          simp only [mastref2_keyFault.l0, llen_eq, Go.Proofs.YtmbjiadilfbooaaGreatDoor.Lift.ilen _ _ hk, cond_true, lat_lt hk, Option.bind_some, e, Option.isSome_none, Bool.not_false, h1]
        | some n =>
          simp only [Option.isSome_some, Option.getD_some, Bool.not_true, Bool.false_or, Bool.true_and]
          cases e2 : ieq n (-1) with
          | true =>
            refine Ev.step (fun k => ?_) (hv a b)
            simp only [mastref2_keyFault.l0, llen_eq, Go.Proofs.YtmbjiadilfbooaaGreatDoor.Lift.ilen _ _ hk, cond_true, cond_false, lat_lt hk, Option.bind_some, e, Option.isSome_some, Option.getD_some, Bool.not_true, e2, h1]
          | false =>
            cases e3 : ieq t.fItems[j].fKind n with
            | true =>
              refine Ev.step (fun k => ?_) (hv a b)
              simp only [mastref2_keyFault.l0, llen_eq, Go.Proofs.YtmbjiadilfbooaaGreatDoor.Lift.ilen _ _ hk, cond_true, cond_false, lat_lt hk, lat_lt hx, Option.bind_some, e, Option.isSome_some, Option.getD_some, Bool.not_true, Bool.not_false, e2, e3, h1]
            | false =>
              have := hv a true
              simp only [Bool.true_or, Bool.or_true, Bool.not_false, Bool.and_true] at this ⊢
              refine Ev.step (fun k => ?_) this
              simp only [mastref2_keyFault.l0, llen_eq, Go.Proofs.YtmbjiadilfbooaaGreatDoor.Lift.ilen _ _ hk, cond_true, cond_false, lat_lt hk, lat_lt hx, Option.bind_some, e, Option.isSome_some, Option.getD_some, Bool.not_true, Bool.not_false, e2, e3, h1]
      · exact last j a b (by omega)
  have := loop t.fKeys.length 0 false false (by omega) (by omega)
  rw [List.drop_zero, Bool.false_or, Bool.false_or] at this
  exact Ev.congr (fun k => by simp only [mastref2_keyFault.f]; try rfl) this
def IK : List ByteArray := [c_route, c_kind, c_need, c_min, c_max, c_oneof, c_default]
def IV : List Int := [3, 3, 1, 2, 2, 5, -1]
def TK : List ByteArray := [c_strict, c_fields]
def TV : List Int := [1, 5]
theorem in_u (k : ByteArray) : (!(mget seq IK IV k).isSome) = (bif ieq (fk k) (-1) then !seq k c_default else false) := by
  simp only [IK, IV, mget, fk]
  cases seq k c_route <;> cases seq k c_kind <;> cases seq k c_need <;> cases seq k c_min <;> cases seq k c_max <;> cases seq k c_oneof <;> cases seq k c_default <;> rfl
theorem in_w (p : ByteArray × T_api_Value) : ((mget seq IK IV p.1).isSome && (!ieq ((mget seq IK IV p.1).getD 0) (-1) && !ieq p.2.fKind ((mget seq IK IV p.1).getD 0))) = kb p := by
  simp only [IK, IV, mget, fk, kb]
  cases seq p.1 c_route <;> cases seq p.1 c_kind <;> cases seq p.1 c_need <;> cases seq p.1 c_min <;> cases seq p.1 c_max <;> cases seq p.1 c_oneof <;> cases seq p.1 c_default <;> rfl
theorem top_u (k : ByteArray) : (!(mget seq TK TV k).isSome) = un0 k := by
  simp only [TK, TV, mget, un0]
  cases seq k c_strict <;> cases seq k c_fields <;> rfl
theorem top_w (p : ByteArray × T_api_Value) : ((mget seq TK TV p.1).isSome && (!ieq ((mget seq TK TV p.1).getD 0) (-1) && !ieq p.2.fKind ((mget seq TK TV p.1).getD 0))) = ((seq p.1 c_strict && !ieq p.2.fKind 1) || (seq p.1 c_fields && !ieq p.2.fKind 5)) := by
  have e : seq p.1 c_strict = true → seq p.1 c_fields = false := fun e => by
    have e : p.1 = c_strict := by rw [seq_d] at e; exact of_decide_eq_true e
    rw [e]; decide +kernel
  simp only [TK, TV, mget]
  cases e1 : seq p.1 c_strict with
  | true => rw [e e1]; simp [ieq]
  | false => cases seq p.1 c_fields <;> simp [ieq]
theorem innerK (t : T_api_Value) (h : Tb t) : Ev (fun k => mastref2_keyFault.f k t IK IV) (((prs t).any (fun p => bif ieq (fk p.1) (-1) then !seq p.1 c_default else false), (prs t).any kb), IK, IV, ()) := by
  have := keyFault_ok t h IK IV
  rw [show (fun p : ByteArray × T_api_Value => !(mget seq IK IV p.1).isSome) = fun p => bif ieq (fk p.1) (-1) then !seq p.1 c_default else false from funext fun p => in_u p.1, show (fun p : ByteArray × T_api_Value => (mget seq IK IV p.1).isSome && (!ieq ((mget seq IK IV p.1).getD 0) (-1) && !ieq p.2.fKind ((mget seq IK IV p.1).getD 0))) = kb from funext in_w] at this
  exact this
theorem any_fst (q : ByteArray → Bool) : ∀ (ks : List ByteArray) (xs : List T_api_Value), ks.length = xs.length → (ks.zip xs).any (fun p => q p.1) = ks.any q
  | [], _, _ => by simp
  | k :: ks, [], h => nomatch h
  | k :: ks, x :: xs, h => by
    rw [List.zip_cons_cons, List.any_cons, List.any_cons, any_fst q ks xs (by simpa using h)]
def w0 (t : T_api_Value) : Bool := (match lp c_strict (prs t) with | some x => !ieq x.fKind 1 | none => false) || (match lp c_fields (prs t) with | some x => !ieq x.fKind 5 | none => false)
theorem topK (t : T_api_Value) (h : Tb t) : Ev (fun k => mastref2_keyFault.f k t TK TV) ((t.fKeys.any un0, w0 t), TK, TV, ()) := by
  have := keyFault_ok t h TK TV
  rw [show (fun p : ByteArray × T_api_Value => !(mget seq TK TV p.1).isSome) = fun p => un0 p.1 from funext fun p => top_u p.1, show (fun p : ByteArray × T_api_Value => (mget seq TK TV p.1).isSome && (!ieq ((mget seq TK TV p.1).getD 0) (-1) && !ieq p.2.fKind ((mget seq TK TV p.1).getD 0))) = fun p => (seq p.1 c_strict && !ieq p.2.fKind 1) || (seq p.1 c_fields && !ieq p.2.fKind 5) from funext top_w, any_or, any_key c_strict (fun x => !ieq x.fKind 1) (uq h), any_key c_fields (fun x => !ieq x.fKind 5) (uq h), show (prs t).any (fun p => un0 p.1) = t.fKeys.any un0 from any_fst un0 _ _ h.len] at this
  exact this

/-! Both take a field's faults alike. -/
def uR (t : T_api_Value) : Bool := (prs t).any (fun p => bif ieq (fk p.1) (-1) then !seq p.1 c_default else false) || (match lp c_kind (prs t) with | some y => !seq y.fText c_any && !(g_mastref2_kindNames.any fun s => seq s y.fText) | none => false)
def wR (t : T_api_Value) : Bool := (prs t).any kb || (match lp c_oneof (prs t) with | some o => !(ieq o.fKind 5 && !(o.fItems.any fun y => !ieq y.fKind 3)) | none => false)
theorem nt_eq (t : T_api_Value) (h : Tb t) : Nt t = uR t := by
  unfold Nt uR
  rw [show nb = fun p => (bif ieq (fk p.1) (-1) then !seq p.1 c_default else false) || (seq p.1 c_kind && !(kidx p.2.fText).2) from rfl, any_or, any_key c_kind (fun x => !(kidx x.fText).2) (uq h)]
  congr 1
  cases lp c_kind (prs t) with
  | none => rfl
  | some y =>
    show (!(kidx y.fText).2) = (!seq y.fText c_any && !(g_kindNames.any fun s => seq s y.fText))
    rw [kidx_snd]
    cases seq y.fText c_any <;> cases (g_kindNames.any fun s => seq s y.fText) <;> rfl
theorem wt_eqR (t : T_api_Value) (h : Tb t) : Wt t = wR t := by
  unfold Wt wR
  rw [h.six, any_or]
  have ho : ob = fun p => seq p.1 c_oneof && p.2.fItems.any fun y => !ieq y.fKind 3 := funext fun p => by
    unfold ob
    cases seq p.1 c_oneof with
    | true => rfl
    | false =>
      simp only [cond_false, Bool.false_and]
      induction p.2.fItems with
      | nil => rfl
      | cons a l ih => rw [List.any_cons, ih]; rfl
  rw [ho, any_key c_oneof (fun x => x.fItems.any fun y => !ieq y.fKind 3) (uq h)]
  show (false || _) = _
  rw [Bool.false_or]
  cases e : (prs t).any kb with
  | true => rfl
  | false =>
    rw [Bool.false_or, Bool.false_or]
    cases eo : lp c_oneof (prs t) with
    | none => rfl
    | some o =>
      obtain ⟨p, p1, p2, rfl⟩ := lp_mem eo
      have h5 := any_f e p p1
      have p2 : p.1 = c_oneof := by rw [seq_d] at p2; exact of_decide_eq_true p2
      unfold kb at h5
      rw [p2, show fk c_oneof = 5 by decide +kernel] at h5
      have h5 : ieq p.2.fKind 5 = true := by
        revert h5
        cases ieq p.2.fKind 5 <;> decide
      show (p.2.fItems.any fun y => !ieq y.fKind 3) = !(ieq p.2.fKind 5 && !(p.2.fItems.any fun y => !ieq y.fKind 3))
      rw [h5]
      cases p.2.fItems.any fun y => !ieq y.fKind 3 <;> rfl

/-! The reference's loop over the fields. -/
def zs : T_conf_Schema := ⟨[], false⟩
theorem contains_ok (s : ByteArray) : Ev (fun k => slices_Contains_string_string.f k g_mastref2_kindNames s) (g_mastref2_kindNames.any fun y => seq y s) := by
  refine Ev.congr (fun k => by simp only [slices_Contains_string_string.f]; try rfl) (Ev.bind (index_ok g_mastref2_kindNames s (by decide)) ?_)
  rw [fl_any]
  exact Ev.now fun _ => rfl
theorem allStrings_ok (v : T_api_Value) (hl : v.fItems.length ≤ 2000000) : Ev (fun k => mastref2_allStrings.f k v) (ieq v.fKind 5 && !(v.fItems.any fun y => !ieq y.fKind 3)) := by
  cases e : ieq v.fKind 5 with
  | false => exact Ev.now fun k => by simp only [mastref2_allStrings.f, e, cond_false]; rfl
  | true =>
    have q := find_pure v.fItems 0 (Nat.zero_le _) (fun k j => slices_IndexFunc_api_Value_api_Value_at_mastref2_allStrings_c1.l0 k v.fItems (llen v.fItems) (j : Int)) (fun _ => some (-1)) (fun y => !ieq y.fKind 3) (fun j => (j : Int)) (-1)
      (fun k j h => by
        simp only [slices_IndexFunc_api_Value_api_Value_at_mastref2_allStrings_c1.l0, mastref2_allStrings_c1.f, llen_eq, Go.Proofs.YtmbjiadilfbooaaGreatDoor.Lift.ilen _ _ h, cond_true, lat_lt h, Option.bind_some, u0 (show j ≤ 4611686018427387904 by omega)])
      (fun k => by simp only [slices_IndexFunc_api_Value_api_Value_at_mastref2_allStrings_c1.l0, llen_eq, Go.Proofs.YtmbjiadilfbooaaGreatDoor.Lift.ilen', cond_false]) (Ev.now fun _ => rfl)
    rw [List.drop_zero] at q
    refine Ev.congr (g := fun k => (slices_IndexFunc_api_Value_api_Value_at_mastref2_allStrings_c1.l0 k v.fItems (llen v.fItems) 0).bind fun y => some (!ile 0 y)) (fun k => ?_) (Ev.bind q ?_)
    · simp only [mastref2_allStrings.f, slices_ContainsFunc_api_Value_api_Value_at_mastref2_allStrings_c1.f, slices_IndexFunc_api_Value_api_Value_at_mastref2_allStrings_c1.f, e, cond_true]
      cases slices_IndexFunc_api_Value_api_Value_at_mastref2_allStrings_c1.l0 k v.fItems (llen v.fItems) 0 <;> rfl
    · rw [fl_any]
      exact Ev.now fun _ => rfl
/-- A step of the loop at a table. -/
theorem ref_step (t f x : T_api_Value) (a b m : Bool) (F : List T_api_Value) (n : Int) (j : Nat) (hj : j < F.length) (hn : n = (F.length : Int)) (hl : F.length ≤ 2000000) (hx : F[j] = x) (h : Tb x) (hw : wt x ≤ 1048576) (hf : vf x = 0) (r : T_conf_Schema × Int)
    (hv : Ev (fun k => mastref2_ReadSchemaOf.l0 k t.fKind t.fBool t.fInt t.fText t.fItems t.fKeys [] false IK IV f.fKind f.fBool f.fInt f.fText f.fItems f.fKeys (a || uR x) (b || wR x) (m || lack x) F n ((j + 1 : Nat) : Int)) r) :
    Ev (fun k => mastref2_ReadSchemaOf.l0 k t.fKind t.fBool t.fInt t.fText t.fItems t.fKeys [] false IK IV f.fKind f.fBool f.fInt f.fText f.fItems f.fKeys a b m F n (j : Int)) r := by
  subst hn
  have h1 := u0 (show j ≤ 4611686018427387904 by omega)
  have s3 : ∀ (u w : Bool), Ev (fun k => mastref2_ReadSchemaOf.l0 k t.fKind t.fBool t.fInt t.fText t.fItems t.fKeys [] false IK IV f.fKind f.fBool f.fInt f.fText f.fItems f.fKeys (a || u) (b || w) (m || lack x) F (F.length : Int) ((j + 1 : Nat) : Int)) r →
      Ev (fun k => mastref2_ReadSchemaOf.l3 k t.fKind t.fBool t.fInt t.fText t.fItems t.fKeys [] false IK IV f.fKind f.fBool f.fInt f.fText f.fItems f.fKeys a b m x.fKind x.fBool x.fInt x.fText x.fItems x.fKeys u w (out (lp c_kind (prs x))).2 F (F.length : Int) (j : Int)) r := fun u w hv => by
    refine Ev.step (fun k => by simp only [mastref2_ReadSchemaOf.l3, eta, h1]; try rfl) (Ev.bind (has_ok h c_route) (Ev.bind (has_ok h c_min) ?_))
    refine Ev.bind (has_ok h c_max) ?_
    have e1 : (bif a then true else u) = (a || u) := by cases a <;> rfl
    have e2 : (bif b then true else w) = (b || w) := by cases b <;> rfl
    have e3 : (bif (bif (bif m then true else (!(out (lp c_route (prs x))).2)) then true else (!(out (lp c_kind (prs x))).2)) then true else (!((out (lp c_min (prs x))).2 == (out (lp c_max (prs x))).2))) = (m || lack x) := by
      unfold lack
      cases m <;> cases (out (lp c_route (prs x))).2 <;> cases (out (lp c_kind (prs x))).2 <;> rfl
    rw [e1, e2, e3]
    exact hv
  have s1 : ∀ (w : Bool), Ev (fun k => mastref2_ReadSchemaOf.l0 k t.fKind t.fBool t.fInt t.fText t.fItems t.fKeys [] false IK IV f.fKind f.fBool f.fInt f.fText f.fItems f.fKeys (a || uR x) (b || w) (m || lack x) F (F.length : Int) ((j + 1 : Nat) : Int)) r →
      Ev (fun k => mastref2_ReadSchemaOf.l1 k t.fKind t.fBool t.fInt t.fText t.fItems t.fKeys [] false IK IV f.fKind f.fBool f.fInt f.fText f.fItems f.fKeys a b m x.fKind x.fBool x.fInt x.fText x.fItems x.fKeys ((prs x).any (fun p => bif ieq (fk p.1) (-1) then !seq p.1 c_default else false)) w F (F.length : Int) (j : Int)) r := fun w hv => by
    refine Ev.step (fun k => by simp only [mastref2_ReadSchemaOf.l1, eta]; try rfl) (Ev.bind (has_ok h c_kind) ?_)
    have s3 := fun u => s3 u w
    unfold uR at hv
    cases e : lp c_kind (prs x) with
    | none =>
      rw [e] at hv s3
      simp only [Bool.or_false] at hv
      exact s3 _ hv
    | some y =>
      rw [e] at hv s3
      simp only [Bool.false_eq_true, if_false] at hv
      show Ev (fun k => bif (bif true then !seq y.fText c_any else false) then (slices_Contains_string_string.f k g_mastref2_kindNames y.fText).bind _ else _) r
      cases e2 : seq y.fText c_any with
      | true =>
        rw [e2] at hv
        simp only [Bool.not_true, Bool.false_and, Bool.or_false] at hv
        exact s3 _ hv
      | false =>
        rw [e2] at hv
        simp only [Bool.not_false, cond_true]
        refine Ev.bind (contains_ok y.fText) ?_
        simp only [Bool.not_false, Bool.true_and] at hv
        cases e3 : (g_mastref2_kindNames.any fun s => seq s y.fText) with
        | true =>
          rw [e3] at hv
          simp only [Bool.not_true, Bool.or_false] at hv
          exact s3 _ hv
        | false =>
          rw [e3] at hv
          simp only [Bool.not_false, Bool.or_true] at hv
          refine s3 true ?_
          simp only [Bool.or_true]
          exact hv
  refine Ev.step (fun k => by simp only [mastref2_ReadSchemaOf.l0, Go.Proofs.YtmbjiadilfbooaaGreatDoor.Lift.ilen _ _ hj, cond_true, lat_lt hj, Option.bind_some, hx, h.six, show ieq 6 6 = true from rfl, Bool.not_true, cond_false, eta]; try rfl) (Ev.bind (innerK x h) ?_)
  refine Ev.bind (has_ok h c_oneof) ?_
  have hlen := (gd_of hw hf c_oneof).1
  unfold wR at hv
  rw [h.six] at s1
  cases e : lp c_oneof (prs x) with
  | none =>
    rw [e] at hv
    simp only [Bool.or_false] at hv
    exact s1 _ hv
  | some o =>
    rw [e] at hv hlen
    show Ev (fun k => bif true then (mastref2_allStrings.f k (T_api_Value.mk o.fKind o.fBool o.fInt o.fText o.fItems o.fKeys)).bind _ else _) r
    simp only [cond_true, eta]
    refine Ev.bind (allStrings_ok o hlen) ?_
    have hv : Ev (fun k => mastref2_ReadSchemaOf.l0 k t.fKind t.fBool t.fInt t.fText t.fItems t.fKeys [] false IK IV f.fKind f.fBool f.fInt f.fText f.fItems f.fKeys (a || uR x) (b || ((prs x).any kb || !(ieq o.fKind 5 && !(o.fItems.any fun y => !ieq y.fKind 3)))) (m || lack x) F (F.length : Int) ((j + 1 : Nat) : Int)) r := hv
    cases e2 : (ieq o.fKind 5 && !(o.fItems.any fun y => !ieq y.fKind 3)) with
    | true =>
      rw [e2] at hv
      simp only [Bool.not_true, Bool.or_false] at hv
      exact s1 _ hv
    | false =>
      rw [e2] at hv
      simp only [Bool.not_false, Bool.or_true] at hv
      refine s1 true ?_
      simp only [Bool.or_true]
      exact hv
theorem is6 {t : T_api_Value} (h : (!ieq t.fKind 6) = false) : t.fKind = 6 := by
  have : ieq t.fKind 6 = true := by simpa using h
  rw [ieq_d] at this
  exact of_decide_eq_true this
/-- Where one of the fields is no table. -/
theorem ref_bad (t f : T_api_Value) (F : List T_api_Value) (hF : Gd F) : ∀ (d j : Nat) (a b m : Bool), F.length - j ≤ d → (F.drop j).any (fun x => !ieq x.fKind 6) = true →
    Ev (fun k => mastref2_ReadSchemaOf.l0 k t.fKind t.fBool t.fInt t.fText t.fItems t.fKeys [] false IK IV f.fKind f.fBool f.fInt f.fText f.fItems f.fKeys a b m F (llen F) (j : Int)) (zs, 10) := by
  intro d
  induction d with
  | zero =>
    intro j a b m hd h
    rw [List.drop_eq_nil_of_le (by omega)] at h
    exact nomatch h
  | succ d ih =>
    intro j a b m hd h
    rcases Nat.lt_or_ge j F.length with hlt | hge
    · rw [List.drop_eq_getElem_cons hlt, List.any_cons] at h
      cases e : !ieq F[j].fKind 6 with
      | true =>
        refine Ev.step (g := fun _ => some (zs, 10)) (fun k => ?_) (Ev.now fun _ => rfl)
        simp only [mastref2_ReadSchemaOf.l0, llen_eq, Go.Proofs.YtmbjiadilfbooaaGreatDoor.Lift.ilen _ _ hlt, cond_true, lat_lt hlt, Option.bind_some, e]
        rfl
      | false =>
        rw [e, Bool.false_or] at h
        obtain ⟨h1, h2⟩ := hF.2 _ (List.getElem_mem hlt)
        exact ref_step t f F[j] a b m F (llen F) j hlt rfl hF.1 rfl (tb_of (is6 e) h1 h2) h1 h2 _ (ih (j + 1) _ _ _ (by omega) h)
    · rw [List.drop_eq_nil_of_le hge] at h
      exact nomatch h
def fin3 (a b m : Bool) (R : T_conf_Schema × Int) : T_conf_Schema × Int := bif b then (zs, 10) else bif a then (zs, 12) else bif m then (zs, 7) else R
theorem ref_good (t f : T_api_Value) (ht : Tb t) (F : List T_api_Value) (hF : Gd F) (h6 : ∀ x ∈ F, x.fKind = 6) (R : T_conf_Schema × Int) : ∀ (d j : Nat) (a b m : Bool), F.length - j ≤ d → j ≤ F.length →
    ((bif (b || (F.drop j).any wR) then true else bif (a || (F.drop j).any uR) then true else (m || (F.drop j).any lack)) = false → Ev (fun k => mastref2_ReadSchemaOf.l2 k [] false [] (tv t c_strict).fBool f.fItems (llen f.fItems) 0) R) →
    Ev (fun k => mastref2_ReadSchemaOf.l0 k t.fKind t.fBool t.fInt t.fText t.fItems t.fKeys [] false IK IV f.fKind f.fBool f.fInt f.fText f.fItems f.fKeys a b m F (llen F) (j : Int)) (fin3 (a || (F.drop j).any uR) (b || (F.drop j).any wR) (m || (F.drop j).any lack) R) := by
  intro d
  have last : ∀ (j : Nat) (a b m : Bool), j = F.length → ((bif (b || (F.drop j).any wR) then true else bif (a || (F.drop j).any uR) then true else (m || (F.drop j).any lack)) = false → Ev (fun k => mastref2_ReadSchemaOf.l2 k [] false [] (tv t c_strict).fBool f.fItems (llen f.fItems) 0) R) → Ev (fun k => mastref2_ReadSchemaOf.l0 k t.fKind t.fBool t.fInt t.fText t.fItems t.fKeys [] false IK IV f.fKind f.fBool f.fInt f.fText f.fItems f.fKeys a b m F (llen F) (j : Int)) (fin3 (a || (F.drop j).any uR) (b || (F.drop j).any wR) (m || (F.drop j).any lack) R) := fun j a b m hj hR => by
    subst hj
    rw [List.drop_eq_nil_of_le (Nat.le_refl _)] at hR ⊢
    simp only [List.any_nil, Bool.or_false] at hR ⊢
    unfold fin3
    cases b with
    | true => exact Ev.step (g := fun _ => some (zs, 10)) (fun k => by simp only [mastref2_ReadSchemaOf.l0, llen_eq, Go.Proofs.YtmbjiadilfbooaaGreatDoor.Lift.ilen', cond_false, cond_true]; try rfl) (Ev.now fun _ => rfl)
    | false =>
      cases a with
      | true => exact Ev.step (g := fun _ => some (zs, 12)) (fun k => by simp only [mastref2_ReadSchemaOf.l0, llen_eq, Go.Proofs.YtmbjiadilfbooaaGreatDoor.Lift.ilen', cond_false, cond_true]; try rfl) (Ev.now fun _ => rfl)
      | false =>
        cases m with
        | true => exact Ev.step (g := fun _ => some (zs, 7)) (fun k => by simp only [mastref2_ReadSchemaOf.l0, llen_eq, Go.Proofs.YtmbjiadilfbooaaGreatDoor.Lift.ilen', cond_false, cond_true]; try rfl) (Ev.now fun _ => rfl)
        | false =>
          refine Ev.step (fun k => by simp only [mastref2_ReadSchemaOf.l0, llen_eq, Go.Proofs.YtmbjiadilfbooaaGreatDoor.Lift.ilen', cond_false, eta]; try rfl) (Ev.bind (has_ok ht c_strict) ?_)
          exact hR rfl
  induction d with
  | zero => intro j a b m hd hj hR; exact last j a b m (by omega) hR
  | succ d ih =>
    intro j a b m hd hj hR
    rcases Nat.lt_or_ge j F.length with hlt | hge
    · obtain ⟨h1, h2⟩ := hF.2 _ (List.getElem_mem hlt)
      rw [List.drop_eq_getElem_cons hlt, List.any_cons, List.any_cons, List.any_cons, ← Bool.or_assoc, ← Bool.or_assoc, ← Bool.or_assoc] at hR ⊢
      exact ref_step t f F[j] a b m F (llen F) j hlt rfl hF.1 rfl (tb_of (h6 _ (List.getElem_mem hlt)) h1 h2) h1 h2 _ (ih (j + 1) _ _ _ (by omega) hlt hR)
    · exact last j a b m (by omega) hR
def ansS (s : T_conf_Schema) (e : Int) : T_conf_Schema × Int := bif !ieq e 0 then (zs, e) else (s, 0)
theorem ref_read (st : Bool) (F : List T_api_Value) (hF : Gd F) (h6 : ∀ x ∈ F, Tb x) (e : Int) (he : Ev (fun k => mastref2_SchemaFault.f k ⟨F.map Fr, st⟩) e) : Ev (fun k => mastref2_ReadSchemaOf.l2 k [] false [] st F (llen F) 0) (ansS ⟨F.map Fr, st⟩ e) := by
  have hl := hF.1
  refine map_loop F Fr (fun k acc j => mastref2_ReadSchemaOf.l2 k [] false acc st F (llen F) (j : Int)) (fun k y => mastref2_fieldOf.f k y) (fun k j y => (lapp 160 ((F.take j).map Fr) [y]).bind fun z => mastref2_ReadSchemaOf.l2 k [] false z st F (llen F) (wadd .i64 (j : Int) 1)) (fun k => (mastref2_SchemaFault.f k ⟨F.map Fr, st⟩).bind fun y32 => (bif (!ieq y32 0) then (some ((T_conf_Schema.mk [] false), y32)) else (some ((T_conf_Schema.mk (F.map Fr) st), 0)))) _ (fun k j hj => ?_) (fun k => ?_) ?_ (fun j hj => ⟨_, fieldOf_ok F[j] (h6 _ (List.getElem_mem hj)) (hF.2 _ (List.getElem_mem hj)).1 (hF.2 _ (List.getElem_mem hj)).2, fun w hw => ?_⟩)
  · simp only [mastref2_ReadSchemaOf.l2, llen_eq, Go.Proofs.YtmbjiadilfbooaaGreatDoor.Lift.ilen _ _ hj, cond_true, lat_lt hj, Option.bind_some, eta]
  · simp only [mastref2_ReadSchemaOf.l2, llen_eq, Go.Proofs.YtmbjiadilfbooaaGreatDoor.Lift.ilen', cond_false]
  · refine Ev.bind he ?_
    unfold ansS
    cases ieq e 0 with
    | true => exact Ev.now fun _ => rfl
    | false => exact Ev.now fun _ => rfl
  · have ha : lapp 160 ((F.take j).map Fr) [Fr F[j]] = some ((F.take (j + 1)).map Fr) := by
      rw [lapp_ok (by simp only [List.length_map, List.length_take, List.length_singleton]; omega) (by simp only [List.length_map, List.length_take, List.length_singleton]; omega), take_map hj]
    simp only [ha, Option.bind_some, u0 (show j ≤ 4611686018427387904 by omega)]
    exact hw
/-- The program's loop. -/
theorem conf_read (st : Bool) (F : List T_api_Value) (hF : Gd F) (h6 : ∀ x ∈ F, Tb x) (e : Int) (he : F.any lack = false → Ev (fun k => conf_CheckSchema.f k ⟨F.map Fd, st⟩) e) : Ev (fun k => conf_ReadSchema.l0 k [] false [] st F (llen F) 0) (bif F.any lack then (zs, 7) else ansS ⟨F.map Fd, st⟩ e) := by
  have hl := hF.1
  have : ∀ (d j : Nat), F.length - j ≤ d → j ≤ F.length → ((F.drop j).any lack = false → Ev (fun k => conf_CheckSchema.f k ⟨F.map Fd, st⟩) e) → Ev (fun k => conf_ReadSchema.l0 k [] false ((F.take j).map Fd) st F (llen F) (j : Int)) (bif (F.drop j).any lack then (zs, 7) else ansS ⟨F.map Fd, st⟩ e) := by
    intro d
    have last : ∀ j, j = F.length → ((F.drop j).any lack = false → Ev (fun k => conf_CheckSchema.f k ⟨F.map Fd, st⟩) e) → Ev (fun k => conf_ReadSchema.l0 k [] false ((F.take j).map Fd) st F (llen F) (j : Int)) (bif (F.drop j).any lack then (zs, 7) else ansS ⟨F.map Fd, st⟩ e) := fun j hj he => by
      subst hj
      rw [List.drop_eq_nil_of_le (Nat.le_refl _)] at he ⊢
      rw [List.take_length]
      refine Ev.step (fun k => by simp only [conf_ReadSchema.l0, llen_eq, Go.Proofs.YtmbjiadilfbooaaGreatDoor.Lift.ilen', cond_false]; try rfl) (Ev.bind (he rfl) ?_)
      unfold ansS
      cases ieq e 0 with
      | true => exact Ev.now fun _ => rfl
      | false => exact Ev.now fun _ => rfl
    induction d with
    | zero => intro j hd hj he; exact last j (by omega) he
    | succ d ih =>
      intro j hd hj he
      rcases Nat.lt_or_ge j F.length with hlt | hge
      · obtain ⟨h1, h2⟩ := hF.2 _ (List.getElem_mem hlt)
        have ht := h6 _ (List.getElem_mem hlt)
        rw [List.drop_eq_getElem_cons hlt, List.any_cons] at he ⊢
        refine Ev.step (fun k => by simp only [conf_ReadSchema.l0, llen_eq, Go.Proofs.YtmbjiadilfbooaaGreatDoor.Lift.ilen _ _ hlt, cond_true, lat_lt hlt, Option.bind_some, eta]; try rfl) (Ev.bind (lacking_ok F[j] ht) ?_)
        cases el : lack F[j] with
        | true => exact Ev.now fun _ => rfl
        | false =>
          rw [el, Bool.false_or] at he
          rw [Bool.false_or]
          have ha : lapp 160 ((F.take j).map Fd) [Fd F[j]] = some ((F.take (j + 1)).map Fd) := by
            rw [lapp_ok (by simp only [List.length_map, List.length_take, List.length_singleton]; omega) (by simp only [List.length_map, List.length_take, List.length_singleton]; omega), take_map hlt]
          simp only [cond_false]
          refine Ev.bind (readField_ok F[j] ht h1) ?_
          simp only [ha, Option.bind_some, u0 (show j ≤ 4611686018427387904 by omega)]
          exact ih (j + 1) (by omega) hlt he
      · exact last j (by omega) he
  have := this F.length 0 (by omega) (by omega)
  rw [List.drop_zero, List.take_zero] at this
  exact this he
theorem check_both (x0 : T_conf_Schema) (hw : ∀ f ∈ x0.fFields, fz f ≤ 1048576) : ∃ r, Ev (fun k => conf_CheckSchema.f k x0) r ∧ Ev (fun k => mastref2_SchemaFault.f k x0) r := by
  by_cases hl : x0.fFields.length ≤ 100
  · refine ⟨sf [] x0.fFields, ?_, ?_⟩
    · refine Ev.congr (fun k => by simp only [conf_CheckSchema.f, llen_eq, ilt_f (show (x0.fFields.length : Int) ≤ 100 by omega), cond_false]; rfl) (schemaL x0.fFields hl hw x0.fFields.length 0 [] (by omega) (by omega) (fun _ => rfl))
    · refine Ev.congr (fun k => by simp only [mastref2_SchemaFault.f, llen_eq, ilt_f (show (x0.fFields.length : Int) ≤ 100 by omega), cond_false]; rfl) (schemaR x0.fFields x0.fStrict hl hw x0.fFields.length 0 (by omega) (by omega))
  · refine ⟨4, Ev.now fun k => ?_, Ev.now fun k => ?_⟩
    · simp only [conf_CheckSchema.f, llen_eq, ilt_t (show (100 : Int) < (x0.fFields.length : Int) by omega), cond_true]
    · simp only [mastref2_SchemaFault.f, llen_eq, ilt_t (show (100 : Int) < (x0.fFields.length : Int) by omega), cond_true]

/-! What is alike itself. -/
theorem equal_self (l : List ByteArray) (hl : l.length ≤ 2000000) : Ev (fun k => slices_Equal_string_string.f k l l) true := by
  refine Ev.congr (fun k => by simp only [slices_Equal_string_string.f, ieq_self, Bool.not_true, cond_false]; try rfl) ?_
  have := any_loop l (fun k j => slices_Equal_string_string.l0 k l l (llen l) (j : Int)) (fun _ => false) false true (Ev.step (g := fun _ => some true) (fun k => by simp only [slices_Equal_string_string.l0, llen_eq, Go.Proofs.YtmbjiadilfbooaaGreatDoor.Lift.ilen', cond_false]) (Ev.now fun _ => rfl)) fun j hj v hv => by
    refine Ev.step (fun k => ?_) hv
    simp only [slices_Equal_string_string.l0, llen_eq, Go.Proofs.YtmbjiadilfbooaaGreatDoor.Lift.ilen _ _ hj, cond_true, lat_lt hj, Option.bind_some, seq_self, Bool.not_true, cond_false, u0 (show j ≤ 4611686018427387904 by omega)]
  rw [show (l.any fun _ => false) = false by induction l <;> simp_all] at this
  exact this
theorem alike_self : ∀ v, wt v ≤ 2000000 → Ev (fun k => mastref2_alikeValue.f k v v) true := tree fun v ih hv => by
  rw [wt_eq] at hv
  have hk := klen_le v.fKeys
  have hl := len_le v.fItems
  have := any_loop v.fItems (fun k j => slices_EqualFunc_api_Value_api_Value_api_Value_api_Value_at_mastref2_alikeValue.l0 k v.fItems v.fItems (llen v.fItems) (j : Int)) (fun _ => false) false true (Ev.step (g := fun _ => some true) (fun k => by simp only [slices_EqualFunc_api_Value_api_Value_api_Value_api_Value_at_mastref2_alikeValue.l0, llen_eq, Go.Proofs.YtmbjiadilfbooaaGreatDoor.Lift.ilen', cond_false]) (Ev.now fun _ => rfl)) fun j hj w hw => by
    have hm := wt_mem (List.getElem_mem hj)
    refine Ev.step (fun k => by simp only [slices_EqualFunc_api_Value_api_Value_api_Value_api_Value_at_mastref2_alikeValue.l0, llen_eq, Go.Proofs.YtmbjiadilfbooaaGreatDoor.Lift.ilen _ _ hj, cond_true, lat_lt hj, Option.bind_some, eta, u0 (show j ≤ 4611686018427387904 by omega)]; try rfl) (Ev.bind (ih _ (List.getElem_mem hj) (by omega)) ?_)
    exact hw
  rw [show (v.fItems.any fun _ => false) = false by induction v.fItems <;> simp_all] at this
  have e2 : Ev (fun k => slices_EqualFunc_api_Value_api_Value_api_Value_api_Value_at_mastref2_alikeValue.f k v.fItems v.fItems) true := Ev.step (fun k => by simp only [slices_EqualFunc_api_Value_api_Value_api_Value_api_Value_at_mastref2_alikeValue.f, ieq_self, Bool.not_true, cond_false]; try rfl) this
  refine Ev.step (fun k => by simp only [mastref2_alikeValue.f, ieq_self, cond_true, seq_self, beq_self_eq_true]; try rfl) (Ev.bind e2 ?_)
  refine Ev.bind (equal_self v.fKeys (by omega)) ?_
  exact Ev.now fun _ => rfl
theorem alikeS_self (s : T_conf_Schema) (hl : s.fFields.length ≤ 2000000) (hf : ∀ f ∈ s.fFields, fz f ≤ 1048577) : Ev (fun k => mastref2_Alike_at_conf_Schema.f k s s) true := by
  have := any_loop s.fFields (fun k j => slices_EqualFunc_conf_Field_conf_Field_conf_Field_conf_Field_at_mastref2_Alike_c3.l0 k s.fFields s.fFields (llen s.fFields) (j : Int)) (fun _ => false) false true (Ev.step (g := fun _ => some true) (fun k => by simp only [slices_EqualFunc_conf_Field_conf_Field_conf_Field_conf_Field_at_mastref2_Alike_c3.l0, llen_eq, Go.Proofs.YtmbjiadilfbooaaGreatDoor.Lift.ilen', cond_false]) (Ev.now fun _ => rfl)) fun j hj w hw => by
    have h1 := hf _ (List.getElem_mem hj)
    have h2 := len_fz s.fFields[j]
    unfold fz at h1
    have e : Ev (fun k => mastref2_Alike_c3.f k s.fFields[j] s.fFields[j]) true := by
      refine Ev.congr (fun k => by simp only [mastref2_Alike_c3.f, ieq_self, cond_true, seq_self, beq_self_eq_true, eta]; try rfl) (Ev.bind (equal_self s.fFields[j].fOneOf (by have := klen_le s.fFields[j].fOneOf; omega)) ?_)
      refine Ev.bind (alike_self s.fFields[j].fDefault (by omega)) ?_
      exact Ev.now fun _ => rfl
    refine Ev.step (fun k => by simp only [slices_EqualFunc_conf_Field_conf_Field_conf_Field_conf_Field_at_mastref2_Alike_c3.l0, llen_eq, Go.Proofs.YtmbjiadilfbooaaGreatDoor.Lift.ilen _ _ hj, cond_true, lat_lt hj, Option.bind_some, eta, feta, u0 (show j ≤ 4611686018427387904 by omega)]; try rfl) (Ev.bind e ?_)
    exact hw
  rw [show (s.fFields.any fun _ => false) = false by induction s.fFields <;> simp_all] at this
  refine Ev.congr (fun k => by simp only [mastref2_Alike_at_conf_Schema.f, beq_self_eq_true, cond_true, slices_EqualFunc_conf_Field_conf_Field_conf_Field_conf_Field_at_mastref2_Alike_c3.f, ieq_self, Bool.not_true, cond_false]; try rfl) (Ev.bind this ?_)
  exact Ev.now fun _ => rfl

theorem refTop (v : T_api_Value) (h0 : Ev (fun k => mastref2_ConfCheck.f k v) 0) (h : Tb v) (r : T_conf_Schema × Int)
    (hv : Ev (fun k => mastref2_ReadSchemaOf.l0 k v.fKind v.fBool v.fInt v.fText v.fItems v.fKeys [] false IK IV (tv v c_fields).fKind (tv v c_fields).fBool (tv v c_fields).fInt (tv v c_fields).fText (tv v c_fields).fItems (tv v c_fields).fKeys (v.fKeys.any un0) (w0 v) false (tv v c_fields).fItems (llen (tv v c_fields).fItems) 0) r) : Ev (fun k => mastref2_ReadSchemaOf.f k v) r := by
  have e1 : (bif !ieq v.fKind 6 then true else false) = false := by rw [h.six]; rfl
  refine Ev.congr (g := fun k => (mastref2_ConfCheck.f k v).bind fun y1 => (bif (!ieq y1 0) then (some ((T_conf_Schema.mk [] false), y1)) else (bif (!ieq v.fKind 6) then (some ((T_conf_Schema.mk [] false), 10)) else ((mastref2_has.f k v c_fields).bind fun y20 => ((mastref2_keyFault.f k v TK TV).bind fun y21 => (mastref2_ReadSchemaOf.l0 k v.fKind v.fBool v.fInt v.fText v.fItems v.fKeys [] false IK IV y20.1.fKind y20.1.fBool y20.1.fInt y20.1.fText y20.1.fItems y20.1.fKeys y21.1.1 y21.1.2 false y20.1.fItems (llen y20.1.fItems) 0)))))) (fun k => ?_) (Ev.bind h0 ?_)
  · simp only [mastref2_ReadSchemaOf.f, eta]
    kernel_rfl
  · rw [h.six]
    show Ev (fun k => (mastref2_has.f k v c_fields).bind _) r
    refine Ev.bind (has_ok h c_fields) (Ev.bind (topK v h) ?_)
    rw [h.six] at hv
    exact hv

theorem pure_holds : Pure := fun v h0 => by
  obtain ⟨D, d1, d2⟩ := h0
  have hv : wt v ≤ 1048576 := Nat.le_trans (wt_bulk D v d1) d2
  suffices h : ∃ r : T_conf_Schema × Int, Ev (fun k => conf_ReadSchema.f k v) r ∧ Ev (fun k => mastref2_ReadSchemaOf.f k v) r ∧ Ev (fun k => mastref2_Alike_at_conf_Schema.f k r.1 r.1) true by
    obtain ⟨r, h1, h2, h3⟩ := h
    refine (Ev.congr (fun k => by simp only [mastlaw2_SchemaReads.f, eta]; rfl) (Ev.bind h1 (Ev.bind h2 ?_)) : Ev (fun k => mastlaw2_SchemaReads.f k v) true).get
    simp only [ieq_self, cond_true]
    exact Ev.bind h3 (Ev.now fun _ => rfl)
  have az : Ev (fun k => mastref2_Alike_at_conf_Schema.f k zs zs) true := alikeS_self zs (by decide) (fun _ h => nomatch h)
  have hc := chk_ok v hv
  have hr := chkR_ok v hv
  by_cases hz : chk v = 0
  · rw [hz] at hc hr
    have hf := chk_zero hz
    by_cases h6 : v.fKind = 6
    · have h := tb_of h6 hv hf
      have gF := gd_of hv hf c_fields
      have head : ∀ (r : T_conf_Schema × Int), Ev (fun k => bif WK v then some (zs, 10) else (conf_wrongNames.f k v).bind fun y3 => (bif y3 then (some (zs, 12)) else ((conf_item.f k v c_strict).bind fun y4 => ((conf_item.f k v c_fields).bind fun y5 => (conf_ReadSchema.l0 k [] false [] y4.1.fBool y5.1.fItems (llen y5.1.fItems) 0))))) r → Ev (fun k => conf_ReadSchema.f k v) r := fun r q => by
        refine Ev.congr (fun k => by simp only [conf_ReadSchema.f, eta]; try rfl) (Ev.bind hc ?_)
        show Ev (fun k => (conf_wrongKinds.f k v).bind _) r
        exact Ev.bind (wrongKinds_ok v h hv hf) q
      show ∃ r, _
      have eF : (out (lp c_fields (prs v))).1 = tv v c_fields := rfl
      rw [eF] at gF
      cases hb : (tv v c_fields).fItems.any (fun x => !ieq x.fKind 6) with
      | true =>
        refine ⟨(zs, 10), head _ ?_, refTop v hr h _ (ref_bad v (tv v c_fields) _ gF _ 0 _ _ _ (Nat.le_refl _) hb), az⟩
        have : WK v = true := by
          have : (tv v c_fields).fItems.any Wt = true := by
            obtain ⟨x, x1, x2⟩ := List.any_eq_true.1 hb
            refine List.any_eq_true.2 ⟨x, x1, ?_⟩
            unfold Wt
            rw [x2, Bool.true_or]
          unfold WK
          rw [eF, this, Bool.or_true, Bool.or_true]
        rw [this]
        exact Ev.now fun _ => rfl
      | false =>
        have k6 : ∀ x ∈ (tv v c_fields).fItems, x.fKind = 6 := fun x hx => is6 (any_f hb x hx)
        have tF : ∀ x ∈ (tv v c_fields).fItems, Tb x := fun x hx => tb_of (k6 x hx) (gF.2 x hx).1 (gF.2 x hx).2
        have eW : WK v = (w0 v || (tv v c_fields).fItems.any wR) := by
          have : (tv v c_fields).fItems.any Wt = (tv v c_fields).fItems.any wR := any_congr fun x hx => wt_eqR x (tF x hx)
          unfold WK w0
          rw [eF, this, Bool.or_assoc]
        have eN : NK v = (v.fKeys.any un0 || (tv v c_fields).fItems.any uR) := by
          have : (tv v c_fields).fItems.any Nt = (tv v c_fields).fItems.any uR := any_congr fun x hx => nt_eq x (tF x hx)
          unfold NK
          rw [eF, this]
        have hz : ∀ x ∈ (tv v c_fields).fItems, fz (Fd x) ≤ 1048576 := fun x hx => by
          have h1 := fz_Fd x
          have h2 := wt_mem hx
          have h3 := wt_eq (tv v c_fields)
          have h4 : wt (tv v c_fields) ≤ wts v.fItems + 1 := by
            unfold tv
            cases e : lp c_fields (prs v) with
            | none => exact Nat.le_add_left 1 _
            | some y => exact Nat.le_trans (wt_mem (lp_in e)) (Nat.le_add_right _ _)
          have h5 := wt_eq v
          omega
        obtain ⟨e, e1, e2⟩ := check_both ⟨(tv v c_fields).fItems.map Fd, (tv v c_strict).fBool⟩ (fun f hf => by
          obtain ⟨x, x1, rfl⟩ := List.mem_map.1 hf
          exact hz x x1)
        have hFF : (WK v = false ∧ NK v = false ∧ (tv v c_fields).fItems.any lack = false) → (tv v c_fields).fItems.map Fd = (tv v c_fields).fItems.map Fr := fun ⟨_, q2, q3⟩ => by
          refine List.map_congr_left fun x hx => fd_fr x (tF x hx) (any_f q3 x hx) ?_
          unfold NK at q2
          rw [eF] at q2
          have := any_f (Bool.or_eq_false_iff.1 q2).2 x hx
          unfold Nt at this
          rw [show nb = fun p => (bif ieq (fk p.1) (-1) then !seq p.1 c_default else false) || (seq p.1 c_kind && !(kidx p.2.fText).2) from rfl, any_or, any_key c_kind (fun x => !(kidx x.fText).2) (uq (tF x hx))] at this
          exact (Bool.or_eq_false_iff.1 this).2
        refine ⟨fin3 (NK v) (WK v) ((tv v c_fields).fItems.any lack) (ansS ⟨(tv v c_fields).fItems.map Fd, (tv v c_strict).fBool⟩ e), head _ ?_, refTop v hr h _ ?_, ?_⟩
        · unfold fin3
          cases eWv : WK v with
          | true => exact Ev.now fun _ => rfl
          | false =>
            simp only [cond_false]
            refine Ev.bind (wrongNames_ok v h gF.1 tF) ?_
            cases eNv : NK v with
            | true => exact Ev.now fun _ => rfl
            | false =>
              simp only [cond_false]
              refine Ev.bind (item_ok h c_strict) (Ev.bind (item_ok h c_fields) ?_)
              exact conf_read (tv v c_strict).fBool (tv v c_fields).fItems gF tF e fun _ => e1
        · have := ref_good v (tv v c_fields) h (tv v c_fields).fItems gF k6 (ansS ⟨(tv v c_fields).fItems.map Fd, (tv v c_strict).fBool⟩ e) _ 0 (v.fKeys.any un0) (w0 v) false (Nat.le_refl _) (Nat.zero_le _) fun q => by
            rw [List.drop_zero, ← eW, ← eN, Bool.false_or] at q
            have q1 : WK v = false ∧ NK v = false ∧ (tv v c_fields).fItems.any lack = false := by
              revert q
              cases WK v <;> cases NK v <;> cases (tv v c_fields).fItems.any lack <;> simp
            have := ref_read (tv v c_strict).fBool (tv v c_fields).fItems gF tF e (by rw [← hFF q1]; exact e2)
            rw [← hFF q1] at this
            exact this
          rw [List.drop_zero, ← eW, ← eN, Bool.false_or] at this
          exact this
        · unfold fin3 ansS
          cases WK v with
          | true => exact az
          | false =>
            cases NK v with
            | true => exact az
            | false =>
              cases (tv v c_fields).fItems.any lack with
              | true => exact az
              | false =>
                cases ieq e 0 with
                | false => exact az
                | true =>
                  refine alikeS_self _ ?_ fun f hf => ?_
                  · show ((tv v c_fields).fItems.map Fd).length ≤ _
                    rw [List.length_map]; exact gF.1
                  · obtain ⟨x, x1, rfl⟩ := List.mem_map.1 hf
                    exact Nat.le_succ_of_le (hz x x1)
    · refine ⟨(zs, 10), ?_, ?_, az⟩
      · refine Ev.congr (fun k => by simp only [conf_ReadSchema.f, eta]; try rfl) (Ev.bind hc ?_)
        refine Ev.now fun k => ?_
        simp only [conf_wrongKinds.f, ieq_f h6]
        rfl
      · refine Ev.congr (fun k => by simp only [mastref2_ReadSchemaOf.f, eta]; try rfl) (Ev.bind hr ?_)
        refine Ev.now fun k => ?_
        rw [ieq_f h6]
        rfl
  · refine ⟨(zs, chk v), ?_, ?_, az⟩
    · refine Ev.congr (fun k => by simp only [conf_ReadSchema.f, eta]; try rfl) (Ev.bind hc ?_)
      refine Ev.now fun k => ?_
      rw [ieq_f hz]
      rfl
    · refine Ev.congr (fun k => by simp only [mastref2_ReadSchemaOf.f, eta]; try rfl) (Ev.bind hr ?_)
      refine Ev.now fun k => ?_
      rw [ieq_f hz]
      rfl

end Go.Proofs.YtmbjiadilfbooaaGreatDoor.LSchemaReads
