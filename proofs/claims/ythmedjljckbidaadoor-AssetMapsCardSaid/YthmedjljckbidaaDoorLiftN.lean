/- Slices out of parts. Conditions: as each theorem states them. -/
import Derived.Test.YthmedjljckbidaaDoorLiftM
set_option linter.unusedVariables false
namespace Go.Proofs.YthmedjljckbidaaDoor.Lift
section
variable {P : Program} {C : Ctx} {c : Call} {st : St C.S.U} {a : Act} {w : World} {g : Gh} {ρ : Type}

theorem made_flat (z : Array Value) (m : Nat) (hz : z.size = m) (hm : 0 < m) : ∀ n : Nat, (madeCells z (n * m)).toList = (List.replicate n z.toList).flatten := by
  intro n
  apply List.ext_getElem?
  intro j
  have hl : ∀ n : Nat, (List.replicate n z.toList).flatten.length = n * m := fun n => by simp [hz]
  by_cases hj : j < n * m
  · have h2 : j % m < m := Nat.mod_lt _ hm
    simp only [madeCells, Array.getElem?_toList, Array.getElem?_map, Array.getElem?_range, if_pos hj, Option.map_some, hz]
    have : ∀ (n j : Nat), j < n * m → (List.replicate n z.toList).flatten[j]? = z.toList[j % m]? := by
      intro n
      induction n with
      | zero => intro j h; omega
      | succ n ih =>
        intro j h
        rw [List.replicate_succ, List.flatten_cons]
        by_cases h3 : j < m
        · rw [List.getElem?_append_left (by rw [Array.length_toList]; omega), Nat.mod_eq_of_lt h3]
        · rw [Nat.add_mul, Nat.one_mul] at h
          rw [List.getElem?_append_right (by rw [Array.length_toList]; omega), Array.length_toList, hz, ih (j - m) (by omega), ← Nat.mod_eq_sub_mod (by omega)]
    rw [this n j hj]
    have h3 : j % m < z.size := by omega
    rw [getElem!_pos z (j % m) h3]
    simp [h3]
  · have h1 : (madeCells z (n * m)).toList.length = n * m := by rw [Array.length_toList, size_madeCells]
    rw [List.getElem?_eq_none (by rw [h1]; omega), List.getElem?_eq_none (by rw [hl]; omega)]

theorem ge_of_incr {R : Nat × Value → Nat × AV C.S.U → Prop} (hR : ∀ p q, R p q → p.1 = q.1) {vs : List (Nat × Value)} {xs : List (Nat × AV C.S.U)} (hv : All2 R vs xs) : ∀ n, incrB n (xs.map (·.1)) = true → incrB n (vs.map (·.1)) = true ∧ ∀ p ∈ vs, n ≤ p.1 := by
  induction hv with
  | nil => intro n _; exact ⟨rfl, fun p hp => by cases hp⟩
  | @cons p q vs xs h _ ih =>
    intro n hn
    obtain ⟨a1, a2⟩ := incrB_cons hn
    have e := hR p q h
    obtain ⟨i1, i2⟩ := ih _ a2
    refine ⟨?_, fun p' hp => ?_⟩
    · simp only [List.map_cons, incrB, Bool.and_eq_true]
      rw [e]
      exact ⟨Nat.ble_eq_true_of_le a1, i1⟩
    · rcases List.mem_cons.1 hp with rfl | hp
      · rw [e]; exact a1
      · exact Nat.le_trans (Nat.le_trans a1 (Nat.le_succ _)) (i2 p' hp)

theorem buildL_sound (hS : SgOk C.S) {t : Ty} : ∀ (n i : Nat) (vs : List (Nat × Value)) (all xs : List (Nat × AV C.S.U)) (l : List (El C.S.U t)), All2 (fun p q => p.1 = q.1 ∧ RdA C.S g st p.2 q.2) vs xs →
    incrB i (xs.map (·.1)) = true → (∀ k, i ≤ k → lkp k all = lkp k xs) → buildL C st t n i all = some l →
    All2 (fun s x => RepC C.S g.M t s x) (over i (List.replicate n (zvals C.S dep t)) vs) l ∧ (∀ p ∈ vs, p.1 < i + n → p.2.cells.size = sz C.S dep t)
  | 0, i, vs, all, xs, l, hv, hi, hl, e => by
    cases e
    refine ⟨by simp [over]; exact .nil, fun p hp hlt => ?_⟩
    have := (ge_of_incr (fun _ _ h => h.1) hv i hi).2 p hp
    omega
  | n + 1, i, vs, all, xs, l, hv, hi, hl, e => by
    simp only [buildL] at e
    have noPart : lkp i xs = none → incrB (i + 1) (xs.map (·.1)) = true → over i (List.replicate (n + 1) (zvals C.S dep t)) vs = zvals C.S dep t :: over (i + 1) (List.replicate n (zvals C.S dep t)) vs → (∀ p ∈ vs, i + 1 ≤ p.1) →
        All2 (fun s x => RepC C.S g.M t s x) (over i (List.replicate (n + 1) (zvals C.S dep t)) vs) l ∧ (∀ p ∈ vs, p.1 < i + (n + 1) → p.2.cells.size = sz C.S dep t) := by
      intro hn hi2 ho hge
      rw [hl i (Nat.le_refl _), hn] at e
      dsimp only at e
      cases ez : zero C.S dep t with
      | none => rw [ez] at e; cases e
      | some z =>
        rw [ez] at e
        dsimp only at e
        cases e2 : buildL C st t n (i + 1) all with
        | none => rw [e2] at e; cases e
        | some l' =>
          rw [e2] at e
          cases e
          obtain ⟨k1, k2⟩ := buildL_sound hS n (i + 1) vs all xs l' hv hi2 (fun k hk => hl k (by omega)) e2
          rw [ho]
          exact ⟨.cons (zvals_zero hS dep t z ez) k1, fun p hp hlt => k2 p hp (by have := hge p hp; omega)⟩
    cases hv with
    | nil => exact noPart rfl rfl rfl (fun p hp => by cases hp)
    | @cons p q vs xs hpq hrest =>
      obtain ⟨j, v⟩ := p
      obtain ⟨j', x⟩ := q
      obtain ⟨hj, hx⟩ := hpq
      have hj : j = j' := hj
      subst hj
      obtain ⟨h1, h2⟩ := incrB_cons hi
      have h1 : i ≤ j := h1
      have h2 : incrB (j + 1) (xs.map (·.1)) = true := h2
      have hge := (ge_of_incr (fun _ _ h => h.1) hrest (j + 1) h2).2
      by_cases hji : j = i
      · subst hji
        rw [hl j (Nat.le_refl _), lkp_hit] at e
        dsimp only at e
        cases e1 : toA C.S st t x with
        | none => rw [e1] at e; cases e
        | some y =>
          rw [e1] at e
          dsimp only at e
          cases e2 : buildL C st t n (j + 1) all with
          | none => rw [e2] at e; cases e
          | some l' =>
            rw [e2] at e
            cases e
            have hrep := (hx t y e1).cells
            obtain ⟨k1, k2⟩ := buildL_sound hS n (j + 1) vs all xs l' hrest h2 (fun k hk => by rw [hl k (by omega), lkp_skip (by omega)]) e2
            have ho : over j (List.replicate (n + 1) (zvals C.S dep t)) ((j, v) :: vs) = v.cells.toList :: over (j + 1) (List.replicate n (zvals C.S dep t)) vs := by simp [List.replicate_succ, over]
            rw [ho]
            refine ⟨.cons hrep k1, fun p hp hlt => ?_⟩
            rcases List.mem_cons.1 hp with rfl | hp
            · have := hrep.len hS; rw [Array.length_toList] at this; exact this
            · exact k2 p hp (by have := hge p hp; omega)
      · have h3 : incrB (i + 1) (((j, x) :: xs).map (·.1)) = true := by
          simp only [List.map_cons, incrB, Bool.and_eq_true]
          exact ⟨Nat.ble_eq_true_of_le (by omega), h2⟩
        refine noPart (lkp_none (n := i + 1) (by omega) h3) h3 (by simp [List.replicate_succ, over, hji]) (fun p hp => ?_)
        rcases List.mem_cons.1 hp with rfl | hp
        · show i + 1 ≤ j; omega
        · have := hge p hp; omega

theorem flat_seg {M : Mm} (hS : SgOk C.S) {t : Ty} : ∀ (ss : List (List Value)) (l : List (El C.S.U t)), All2 (fun s x => RepC C.S M t s x) ss l → ss.flatten.length = l.length * sz C.S dep t ∧ ∀ i (hi : i < l.length), RepC C.S M t ((ss.flatten.drop (i * sz C.S dep t)).take (sz C.S dep t)) l[i] := by
  intro ss l h
  induction h with
  | nil => exact ⟨by simp, fun i hi => by simp at hi⟩
  | @cons s x ss l hx _ ih =>
    have hl := hx.len hS
    refine ⟨by simp [ih.1, hl, Nat.add_mul, Nat.add_comm], fun i hi => ?_⟩
    cases i with
    | zero => simpa [← hl] using hx
    | succ i =>
      simp only [List.flatten_cons, List.getElem_cons_succ]
      rw [Nat.add_mul, Nat.one_mul, Nat.add_comm, ← List.drop_drop, ← hl, List.drop_left, hl]
      exact ih.2 i (by simpa using hi)

theorem map_snd {R : Value → AV C.S.U → Prop} {vs : List (Nat × Value)} {xs : List (Nat × AV C.S.U)} (hv : All2 (fun p q => p.1 = q.1 ∧ R p.2 q.2) vs xs) : All2 R (vs.map (·.2)) (xs.map (·.2)) := by
  induction hv with
  | nil => exact .nil
  | cons h _ ih => exact .cons h.2 ih
theorem zip_snd {R R' : Value → AV C.S.U → Prop} {vs : List (Nat × Value)} {xs : List (Nat × AV C.S.U)} (hv : All2 (fun p q => p.1 = q.1 ∧ R p.2 q.2) vs xs) (h : All2 R' (vs.map (·.2)) (xs.map (·.2))) : All2 (fun p q => p.1 = q.1 ∧ R' p.2 q.2) vs xs := by
  induction hv with
  | nil => exact .nil
  | cons h1 _ ih =>
    simp only [List.map_cons] at h
    cases h with
    | cons a b => exact .cons ⟨h1.1, a⟩ (ih b)

theorem buildSlice_sound (hS : SgOk C.S) (hT : TyOk P C) (hr : Rel c st a w g) {T n eb E : Nat} {t : Ty} (eT : lkp T C.ty = some (.d (.sl t) eb E)) {vs : Array (Nat × Value)} {xs : List (Nat × AV C.S.U)} (hv : All2 (fun p q => p.1 = q.1 ∧ RepA g st.mem st.cnt p.2 q.2) vs.toList xs)
    (hi : incrB 0 (xs.map (·.1)) = true) (hb : ∀ p ∈ vs.toList, p.1 < n) (hn : n * sz C.S dep t ≤ 16777216) {l : List (El C.S.U t)} (hl : buildL C st t n 0 xs = some l) {dst : Option Nat} {R : AV C.S.U → St C.S.U → Option ρ} {r : ρ}
    (h : newK dst (.row E t l) .row (frzAs (xs.map (·.2)) st) R = some r) :
    ∃ q y st' g' w', (Instr.buildSlice T n vs).run P w = .ok q w' ∧ R y st' = some r ∧ Rel c st' a w' g' ∧ RepA g' st'.mem st'.cnt q y ∧ Ext g g' st.cnt ∧ ∀ d, st.cnt d ≤ st'.cnt d := by
  obtain ⟨hd, ⟨Eo⟩⟩ := hT.sl eT
  have D := Eo.data
  have hv2 := map_snd (R := RepA g st.mem st.cnt) hv
  obtain ⟨g1, f1, f2, f3, f4⟩ := hr.frzAs hS hv2
  have hcnt := (frzAs_cnt (xs.map (·.2)) st).1
  have hv3 := zip_snd hv f4
  obtain ⟨k1, k2⟩ := buildL_sound hS n 0 vs.toList xs xs l hv3 hi (fun _ _ => rfl) hl
  have hzc : D.zv.cells.size = sz C.S dep t := by
    have := congrArg List.length D.hzc
    rw [Array.length_toList] at this
    rw [this, (zvals_zcells (S := C.S) (g := g) (m := st.mem) (cnt := st.cnt) dep t).length, zcells_len]
  have hvl : (zvals C.S dep t).length = sz C.S dep t := by rw [← D.hzc, Array.length_toList, hzc]
  obtain ⟨s1, s2⟩ := flat_seg hS _ _ k1
  have hll : l.length = n := by
    rw [← k1.length]
    have : ∀ (segs : List (List Value)) (i : Nat) (ps : List (Nat × Value)), (over i segs ps).length = segs.length := by
      intro segs
      induction segs with
      | nil => intro i ps; rfl
      | cons s segs ih =>
        intro i ps
        cases ps with
        | nil => simp [over, ih]
        | cons p ps =>
          obtain ⟨j, v⟩ := p
          by_cases e : j = i <;> simp [over, e, ih]
    rw [this, List.length_replicate]
  have hfill := fill_sound (fun i => some (i * sz C.S dep t, sz C.S dep t)) (List.replicate n (zvals C.S dep t)) 0 [] vs.toList (fun k s hs => by
    have hk : k < n := by
      rcases Nat.lt_or_ge k n with q | q
      · exact q
      · rw [List.getElem?_eq_none (by simpa using q)] at hs; cases hs
    have hs' : s = zvals C.S dep t := by
      rw [List.getElem?_replicate, if_pos hk] at hs
      exact (Option.some.inj hs).symm
    subst hs'
    rw [Nat.zero_add, List.take_replicate, Nat.min_eq_left (by omega)]
    simp [hvl]) (ge_of_incr (fun _ _ h => h.1) hv 0 hi).1 (fun p hp => ⟨zvals C.S dep t, by simpa using hb p hp, by
      rw [List.getElem?_replicate, if_pos (by simpa using hb p hp)], by rw [k2 p hp (by simpa using hb p hp), hvl]⟩)
  simp only [List.nil_append] at hfill
  have hmf := made_flat D.zv.cells (sz C.S dep t) hzc Eo.szp n
  rw [D.hzc] at hmf
  have hfill2 : Instr.fill (fun i => some (i * sz C.S dep t, sz C.S dep t)) (madeCells D.zv.cells (n * sz C.S dep t)) vs.toList = some (over 0 (List.replicate n (zvals C.S dep t)) vs.toList).flatten.toArray := by
    rw [← hfill, ← hmf]
  have hrun : (Instr.buildSlice T n vs).run P w = .ok (.slice (some ⟨w.heap.size, 0, none⟩) n n) (w.alloc (.cells (over 0 (List.replicate n (zvals C.S dep t)) vs.toList).flatten.toArray E)) := by
    simp only [Instr.buildSlice, Sem.run_bind, run_underlying hd, Result.andThen_ok, run_size D.hi, D.hs, Sem.run_ite]
    rw [if_neg (by omega)]
    by_cases h0 : n * sz C.S dep t = 0
    · rw [if_pos h0]
      have hn0 : n = 0 := by
        rcases Nat.mul_eq_zero.1 h0 with q | q
        · exact q
        · have := Eo.szp; omega
      subst hn0
      have hvs : vs.toList = [] := by
        cases hvt : vs.toList with
        | nil => rfl
        | cons p ps => have := hb p (by rw [hvt]; exact List.mem_cons_self ..); omega
      rw [hvs]
      simp [Instr.fill, newRow, over, Array.range_zero']
    · rw [if_neg h0]
      simp only [run_zero D.hi D.hz, Result.andThen_ok, Sem.run_pure]
      have hm : Array.map (fun x => D.zv.cells[x % D.zv.cells.size]!) (Array.range (n * sz C.S dep t)) = madeCells D.zv.cells (n * sz C.S dep t) := rfl
      rw [hm, hfill2]
      simp [newRow]
  rw [← hll] at hrun
  have hcells : ∀ i, i < l.length → seg (over 0 (List.replicate n (zvals C.S dep t)) vs.toList).flatten.toArray (i * sz C.S dep t) (sz C.S dep t) = ((over 0 (List.replicate n (zvals C.S dep t)) vs.toList).flatten.drop (i * sz C.S dep t)).take (sz C.S dep t) := fun i hi => rfl
  obtain ⟨y, st', g', j1, j2, j3, j4, j5⟩ := newRow' (E := E) (cap := l.length) (cs := (over 0 (List.replicate n (zvals C.S dep t)) vs.toList).flatten.toArray) f1
    ⟨by rw [List.size_toArray, s1]; exact Nat.le_refl _, fun i hi => by rw [hcells i hi]; exact s2 i hi⟩
    (by
      rw [← seg_zero]
      exact seg_all l.length (fun i hi u hu => by
        rw [Nat.zero_add, hcells i hi] at hu
        exact (s2 i hi).one u hu))
    (Nat.le_refl _) (by
      have := Nat.le_mul_of_pos_right n Eo.szp
      simp only [maxLen]; omega) (by rw [List.size_toArray, s1]) h
  rw [hcnt] at j4
  exact ⟨_, y, st', g', _, hll ▸ hrun, j1, j2, by rw [hll] at j3; exact j3, f2.trans j4 (fun _ => Nat.le_refl _), fun d => by rw [← hcnt]; exact j5 d⟩
end
end Go.Proofs.YthmedjljckbidaaDoor.Lift
