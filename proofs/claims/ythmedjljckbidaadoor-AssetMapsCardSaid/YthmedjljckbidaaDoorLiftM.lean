/- Structs and slices out of parts. Conditions: as each theorem states them. -/
import Derived.Test.YthmedjljckbidaaDoorLiftL
set_option linter.unusedVariables false
namespace Go.Proofs.YthmedjljckbidaaDoor.Lift
section
variable {P : Program} {C : Ctx} {c : Call} {st : St C.S.U} {a : Act} {w : World} {g : Gh} {ρ : Type}

theorem fold_set : ∀ (l : List Value) (k off : Nat) (cells : Array Value), off + k + l.length ≤ cells.size →
    (l.zipIdx k).foldl (fun cs (x : Value × Nat) => cs.setIfInBounds (off + x.2) x.1) cells = (cells.toList.take (off + k) ++ l ++ cells.toList.drop (off + k + l.length)).toArray
  | [], k, off, cells, _ => by simp
  | v :: l, k, off, cells, h => by
    simp only [List.length_cons] at h
    rw [List.zipIdx_cons, List.foldl_cons, fold_set l (k + 1) off _ (by simp; omega)]
    have hk : off + k < cells.toList.length := by rw [Array.length_toList]; omega
    congr 1
    simp only [Array.toList_setIfInBounds, List.length_cons, ← Nat.add_assoc]
    rw [List.take_succ_eq_append_getElem (by simpa using hk), List.getElem_set_self, List.take_set_of_le (by omega), List.drop_set_of_lt (by omega)]
    simp [Nat.add_right_comm]

/-- The cells with the parts in them. -/
def over : Nat → List (List Value) → List (Nat × Value) → List (List Value)
  | _, [], _ => []
  | i, s :: segs, [] => s :: over (i + 1) segs []
  | i, s :: segs, (j, v) :: ps => if j = i then v.cells.toList :: over (i + 1) segs ps else s :: over (i + 1) segs ((j, v) :: ps)

theorem incrB_cons {n a : Nat} {r : List Nat} (h : incrB n (a :: r) = true) : n ≤ a ∧ incrB (a + 1) r = true := by
  simp only [incrB, Bool.and_eq_true] at h
  exact ⟨Nat.le_of_ble_eq_true h.1, h.2⟩
theorem incrB_mono : ∀ {l : List Nat} {n m : Nat}, m ≤ n → incrB n l = true → incrB m l = true
  | [], _, _, _, _ => rfl
  | a :: r, n, m, hm, h => by
    obtain ⟨h1, h2⟩ := incrB_cons h
    simp only [incrB, Bool.and_eq_true]
    exact ⟨Nat.ble_eq_true_of_le (Nat.le_trans hm h1), h2⟩

theorem fill_sound (place : Nat → Option (Nat × Nat)) : ∀ (segs : List (List Value)) (i : Nat) (pre : List Value) (ps : List (Nat × Value)),
    (∀ (k : Nat) (s : List Value), segs[k]? = some s → place (i + k) = some (pre.length + (segs.take k).flatten.length, s.length)) → incrB i (ps.map (·.1)) = true →
    (∀ p ∈ ps, ∃ s, p.1 < i + segs.length ∧ segs[p.1 - i]? = some s ∧ p.2.cells.size = s.length) → Instr.fill place (pre ++ segs.flatten).toArray ps = some (pre ++ (over i segs ps).flatten).toArray
  | [], i, pre, ps, _, hi, hp => by
    cases ps with
    | nil => simp [Instr.fill, over]
    | cons p ps =>
      obtain ⟨s, h1, _⟩ := hp p (List.mem_cons_self ..)
      have : i ≤ p.1 := (incrB_cons hi).1
      simp at h1
      omega
  | s :: segs, i, pre, ps, hpl, hi, hp => by
    have hpl' : ∀ (q : List Value), q.length = s.length → ∀ (k : Nat) (u : List Value), segs[k]? = some u → place (i + 1 + k) = some ((pre ++ q).length + (segs.take k).flatten.length, u.length) := fun q hq k u hk => by
      have := hpl (k + 1) u (by simpa using hk)
      rw [show i + 1 + k = i + (k + 1) by omega, this]
      simp [hq, Nat.add_assoc]
    have keep : ∀ ps : List (Nat × Value), incrB (i + 1) (ps.map (·.1)) = true → (∀ p ∈ ps, ∃ s', p.1 < i + (s :: segs).length ∧ (s :: segs)[p.1 - i]? = some s' ∧ p.2.cells.size = s'.length) → ∀ p ∈ ps, ∃ s', p.1 < i + 1 + segs.length ∧ segs[p.1 - (i + 1)]? = some s' ∧ p.2.cells.size = s'.length := fun ps hi hp p hm => by
      obtain ⟨s', h1, h2, h3⟩ := hp p hm
      have hge : i + 1 ≤ p.1 := by
        have : ∀ (l : List Nat) (n : Nat), incrB n l = true → ∀ x ∈ l, n ≤ x := by
          intro l
          induction l with
          | nil => intro n _ x hx; cases hx
          | cons y l ih =>
            intro n h x hx
            obtain ⟨a1, a2⟩ := incrB_cons h
            rcases List.mem_cons.1 hx with rfl | hx
            · exact a1
            · exact Nat.le_trans (Nat.le_trans a1 (Nat.le_succ _)) (ih _ a2 x hx)
        exact this _ _ hi p.1 (List.mem_map_of_mem hm)
      refine ⟨s', by simp at h1; omega, ?_, h3⟩
      rw [show p.1 - i = (p.1 - (i + 1)) + 1 by omega] at h2
      simpa using h2
    cases ps with
    | nil =>
      have ih := fill_sound place segs (i + 1) (pre ++ s) [] (hpl' s rfl) rfl (fun p hp => by cases hp)
      simp only [over, List.flatten_cons]
      rw [← List.append_assoc, ← List.append_assoc]
      exact ih
    | cons p ps =>
      obtain ⟨j, v⟩ := p
      obtain ⟨h1, h2⟩ := incrB_cons hi
      have h1 : i ≤ j := h1
      have h2 : incrB (j + 1) (ps.map (·.1)) = true := h2
      by_cases hj : j = i
      · subst hj
        obtain ⟨s', _, h3, h4⟩ := hp (j, v) (List.mem_cons_self ..)
        simp at h3
        subst h3
        have hplace := hpl 0 s rfl
        simp only [Nat.add_zero, List.take_zero, List.flatten_nil, List.length_nil] at hplace
        have ih := fill_sound place segs (j + 1) (pre ++ v.cells.toList) ps (hpl' v.cells.toList (by rw [Array.length_toList]; exact h4)) h2 (keep ps h2 (fun p hm => hp p (List.mem_cons_of_mem _ hm)))
        simp only [over, if_true, List.flatten_cons]
        rw [show pre ++ (v.cells.toList ++ (over (j + 1) segs ps).flatten) = pre ++ v.cells.toList ++ (over (j + 1) segs ps).flatten from (List.append_assoc ..).symm, ← ih]
        simp only [Instr.fill, hplace]
        have h4' : v.cells.size = s.length := h4
        have hf := fold_set v.cells.toList 0 pre.length (pre ++ (s ++ segs.flatten)).toArray (by simp [h4'])
        rw [if_neg (by simp [h4'])]
        congr 1
        have hz : v.cells.zipIdx.foldl (fun cs (x : Value × Nat) => cs.setIfInBounds (pre.length + x.2) x.1) (pre ++ (s ++ segs.flatten)).toArray = (v.cells.toList.zipIdx 0).foldl (fun cs (x : Value × Nat) => cs.setIfInBounds (pre.length + x.2) x.1) (pre ++ (s ++ segs.flatten)).toArray := by
          rw [← Array.foldl_toList, Array.toList_zipIdx]
        refine Eq.trans hz (hf.trans ?_)
        simp [h4', List.append_assoc]
      · have h5 : incrB (i + 1) (((j, v) :: ps).map (·.1)) = true := by
          simp only [List.map_cons, incrB, Bool.and_eq_true]
          exact ⟨Nat.ble_eq_true_of_le (by omega), h2⟩
        have ih := fill_sound place segs (i + 1) (pre ++ s) ((j, v) :: ps) (hpl' s rfl) h5 (keep _ h5 hp)
        simp only [over, if_neg hj, List.flatten_cons]
        rw [← List.append_assoc, ← List.append_assoc]
        exact ih

theorem lkp_skip {α : Type} {i j : Nat} {x : α} {l : List (Nat × α)} (h : j ≠ i) : lkp i ((j, x) :: l) = lkp i l := by
  have : Nat.beq j i = false := by simpa [← Nat.beq_eq] using h
  simp [lkp, this]
theorem lkp_hit {α : Type} {i : Nat} {x : α} {l : List (Nat × α)} : lkp i ((i, x) :: l) = some x := by simp [lkp]
theorem lkp_none {α : Type} : ∀ {l : List (Nat × α)} {i n : Nat}, i < n → incrB n (l.map (·.1)) = true → lkp i l = none
  | [], _, _, _, _ => rfl
  | (j, x) :: l, i, n, hi, h => by
    obtain ⟨h1, h2⟩ := incrB_cons h
    have h1 : n ≤ j := h1
    have h2 : incrB (j + 1) (l.map (·.1)) = true := h2
    rw [lkp_skip (by omega)]
    exact lkp_none (n := j + 1) (by omega) h2

/-- A struct's cells, as the machine and as the evaluator put them together. -/
theorem buildC_sound (hS : SgOk C.S) : ∀ (ts : List Ty) (i : Nat) (vs : List (Nat × Value)) (all xs : List (Nat × AV C.S.U)) (h : List (LV C.S.U)), All2 (fun p q => p.1 = q.1 ∧ RepA g st.mem st.cnt p.2 q.2) vs xs →
    incrB i (xs.map (·.1)) = true → (∀ k, i ≤ k → lkp k all = lkp k xs) → buildC C ts i all = some h →
    All2 (RepL g st.mem st.cnt) (over i (ts.map (zvals C.S dep)) vs).flatten h ∧ (∀ u ∈ (over i (ts.map (zvals C.S dep)) vs).flatten, u.oneCell' = true) ∧
      (∀ p ∈ vs, p.1 < i + ts.length → ∃ t, ts[p.1 - i]? = some t ∧ p.2.cells.size = sz C.S dep t) ∧ h.length = szL (sz C.S dep) ts
  | [], i, vs, all, xs, h, hv, hi, hl, e => by
    cases e
    refine ⟨by simp [over]; exact .nil, by simp [over], fun p hp hlt => ?_, rfl⟩
    have : ∀ (vs : List (Nat × Value)) (xs : List (Nat × AV C.S.U)), All2 (fun p q => p.1 = q.1 ∧ RepA g st.mem st.cnt p.2 q.2) vs xs → ∀ n, incrB n (xs.map (·.1)) = true → ∀ p ∈ vs, n ≤ p.1 := by
      intro vs xs hv
      induction hv with
      | nil => intro n _ p hp; cases hp
      | cons h _ ih =>
        intro n hn p hp
        obtain ⟨a1, a2⟩ := incrB_cons hn
        rcases List.mem_cons.1 hp with rfl | hp
        · rw [h.1]; exact a1
        · exact Nat.le_trans (Nat.le_trans a1 (Nat.le_succ _)) (ih _ a2 p hp)
    have := this vs xs hv i hi p hp
    simp at hlt; omega
  | t :: ts, i, vs, all, xs, h, hv, hi, hl, e => by
    simp only [buildC] at e
    have zc := zvals_zcells (S := C.S) (g := g) (m := st.mem) (cnt := st.cnt) dep t
    have noPart : lkp i xs = none → incrB (i + 1) (xs.map (·.1)) = true → over i ((t :: ts).map (zvals C.S dep)) vs = zvals C.S dep t :: over (i + 1) (ts.map (zvals C.S dep)) vs → (∀ p ∈ vs, i + 1 ≤ p.1) →
        All2 (RepL g st.mem st.cnt) (over i ((t :: ts).map (zvals C.S dep)) vs).flatten h ∧ (∀ u ∈ (over i ((t :: ts).map (zvals C.S dep)) vs).flatten, u.oneCell' = true) ∧ (∀ p ∈ vs, p.1 < i + (t :: ts).length → ∃ t', (t :: ts)[p.1 - i]? = some t' ∧ p.2.cells.size = sz C.S dep t') ∧ h.length = szL (sz C.S dep) (t :: ts) := by
      intro hn hi2 ho hge
      rw [hl i (Nat.le_refl _), hn] at e
      dsimp only at e
      cases e2 : buildC C ts (i + 1) all with
      | none => rw [e2] at e; cases e
      | some h' =>
        rw [e2] at e
        cases e
        obtain ⟨k1, k2, k3, k4⟩ := buildC_sound hS ts (i + 1) vs all xs h' hv hi2 (fun k hk => hl k (by omega)) e2
        rw [ho]
        refine ⟨by simpa using zc.append k1, fun u hu => ?_, fun p hp hlt => ?_, by simp [szL, zcells_len, k4]⟩
        · simp only [List.flatten_cons] at hu
          rcases List.mem_append.1 hu with q | q
          · exact zvals_one dep t u q
          · exact k2 u q
        · have := hge p hp
          obtain ⟨t', q1, q2⟩ := k3 p hp (by simp at hlt; omega)
          exact ⟨t', by rw [show p.1 - i = (p.1 - (i + 1)) + 1 by omega]; simpa using q1, q2⟩
    cases hv with
    | nil => exact noPart rfl rfl rfl (fun p hp => by cases hp)
    | @cons p q vs xs hpq hrest =>
      obtain ⟨j, v⟩ := p
      obtain ⟨j', x⟩ := q
      obtain ⟨hj, hx⟩ := hpq
      have hj : j = j' := hj
      subst hj
      obtain ⟨h1, h2⟩ := incrB_cons hi
      have h1 : i ≤ j := h1
      have h2 : incrB (j + 1) (xs.map (·.1)) = true := h2
      have hge : ∀ p ∈ vs, j + 1 ≤ p.1 := by
        have : ∀ (vs : List (Nat × Value)) (xs : List (Nat × AV C.S.U)), All2 (fun p q => p.1 = q.1 ∧ RepA g st.mem st.cnt p.2 q.2) vs xs → ∀ n, incrB n (xs.map (·.1)) = true → ∀ p ∈ vs, n ≤ p.1 := by
          intro vs xs hv
          induction hv with
          | nil => intro n _ p hp; cases hp
          | cons h _ ih =>
            intro n hn p hp
            obtain ⟨a1, a2⟩ := incrB_cons hn
            rcases List.mem_cons.1 hp with rfl | hp
            · rw [h.1]; exact a1
            · exact Nat.le_trans (Nat.le_trans a1 (Nat.le_succ _)) (ih _ a2 p hp)
        exact this vs xs hrest (j + 1) h2
      by_cases hji : j = i
      · subst hji
        rw [hl j (Nat.le_refl _), lkp_hit] at e
        dsimp only at e
        cases e1 : cellsA C.S t x with
        | none => rw [e1] at e; cases e
        | some ys =>
          rw [e1] at e
          dsimp only at e
          cases e2 : buildC C ts (j + 1) all with
          | none => rw [e2] at e; cases e
          | some h' =>
            rw [e2] at e
            cases e
            obtain ⟨c1, c2, c3⟩ := cellsA_sound hS hx e1
            obtain ⟨k1, k2, k3, k4⟩ := buildC_sound hS ts (j + 1) vs all xs h' hrest h2 (fun k hk => by rw [hl k (by omega), lkp_skip (by omega)]) e2
            have ho : over j ((t :: ts).map (zvals C.S dep)) ((j, v) :: vs) = v.cells.toList :: over (j + 1) (ts.map (zvals C.S dep)) vs := by simp [over]
            rw [ho]
            refine ⟨by simpa using c1.append k1, fun u hu => ?_, fun p hp hlt => ?_, by simp [szL, c3, k4]⟩
            · simp only [List.flatten_cons] at hu
              rcases List.mem_append.1 hu with q | q
              · exact c2 u q
              · exact k2 u q
            · rcases List.mem_cons.1 hp with rfl | hp
              · exact ⟨t, by simp, by rw [← Array.length_toList, c1.length, c3]⟩
              · have := hge p hp
                obtain ⟨t', q1, q2⟩ := k3 p hp (by simp at hlt; omega)
                exact ⟨t', by rw [show p.1 - j = (p.1 - (j + 1)) + 1 by omega]; simpa using q1, q2⟩
      · have h3 : incrB (i + 1) (((j, x) :: xs).map (·.1)) = true := by
          simp only [List.map_cons, incrB, Bool.and_eq_true]
          exact ⟨Nat.ble_eq_true_of_le (by omega), h2⟩
        refine noPart (lkp_none (n := i + 1) (by omega) h3) h3 (by simp [over, hji]) (fun p hp => ?_)
        rcases List.mem_cons.1 hp with rfl | hp
        · show i + 1 ≤ j; omega
        · have := hge p hp; omega
end
end Go.Proofs.YthmedjljckbidaaDoor.Lift
