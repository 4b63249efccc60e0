/- Stores, new variables, structs and slices out of parts. Conditions: as each theorem states them. -/
import Derived.Test.YthmedjljckbidaaDoorLiftG
set_option linter.unusedVariables false
namespace Go.Proofs.YthmedjljckbidaaDoor.Lift
section
variable {P : Program} {C : Ctx} {c : Call} {st : St C.S.U} {a : Act} {w : World} {g : Gh} {ρ : Type}

theorem frzA_cnt (st : St C.S.U) (x : AV C.S.U) : (frzA st x).cnt = st.cnt ∧ (frzA st x).sl = st.sl := by
  cases x with
  | l x => exact frz_cnt st x
  | tup xs => exact ⟨rfl, rfl⟩
  | ifv T x => exact frz_cnt st x
  | ag n cs => exact frzL_cnt cs st
theorem frzA_memle (st : St C.S.U) (x : AV C.S.U) (cnt : Nat → Nat) : Memle st.mem (frzA st x).mem cnt := by
  cases x with
  | l x => exact frz_memle st x cnt
  | tup xs => exact Memle.refl _ _
  | ifv T x => exact frz_memle st x cnt
  | ag n cs => exact frzL_memle cs st cnt
theorem toData_frzA (st : St C.S.U) (y : AV C.S.U) (t : Ty) (x : LV C.S.U) : toData (frzA st y) t x = toData st t x := by
  cases y with
  | l y => exact toData_frz st y t x
  | tup xs => rfl
  | ifv T y => exact toData_frz st y t x
  | ag n cs => exact toData_frzL cs st t x

/-- Read as data, it is this value. -/
def RdA (S : Sg) (g : Gh) (st : St S.U) (v : Value) (x : AV S.U) : Prop := ∀ t y, toA S st t x = some y → RepV S g.M t v y

theorem Rel.frzA (hS : SgOk C.S) (h : Rel c st a w g) {v : Value} {x : AV C.S.U} (hv : RepA g st.mem st.cnt v x) : ∃ g', Rel c (frzA st x) a w g' ∧ Ext g g' st.cnt ∧ g'.τ = g.τ ∧ RdA C.S g' st v x := by
  cases x with
  | l x =>
    obtain ⟨g', h1, h2, h3, h4⟩ := h.frz (x := x) hv
    exact ⟨g', h1, h2, h3, fun t y e => h4 t y e⟩
  | tup xs => exact ⟨g, h, Ext.refl _ _, rfl, fun t y e => by cases e⟩
  | ifv T x =>
    obtain ⟨u, _, hu⟩ := hv
    obtain ⟨g', h1, h2, h3, _⟩ := h.frz (x := x) hu
    exact ⟨g', h1, h2, h3, fun t y e => by cases e⟩
  | ag n cs =>
    obtain ⟨vs, rfl, h1, h2, h3⟩ := hv
    obtain ⟨g', k1, k2, k3, k4⟩ := h.frzL h1
    refine ⟨g', k1, k2, k3, fun t y e => ?_⟩
    simp only [toA] at e
    split at e
    · rename_i z ez
      obtain ⟨e1, e2⟩ := castEl_some e
      subst e1
      have e2 : y = z := e2
      subst e2
      obtain ⟨v1, v2, rfl, q1, q2⟩ := gather_sound hS dep (.st n) vs cs _ [] k4 ez
      cases q2
      exact .inl ⟨rfl, _, rfl, by simpa using q1⟩
    · cases e

theorem frzAs_cnt : ∀ (xs : List (AV C.S.U)) (st : St C.S.U), (frzAs xs st).cnt = st.cnt ∧ (frzAs xs st).sl = st.sl
  | [], _ => ⟨rfl, rfl⟩
  | x :: l, st => ⟨((frzAs_cnt l _).1).trans (frzA_cnt st x).1, ((frzAs_cnt l _).2).trans (frzA_cnt st x).2⟩
theorem frzAs_memle : ∀ (xs : List (AV C.S.U)) (st : St C.S.U) (cnt : Nat → Nat), Memle st.mem (frzAs xs st).mem cnt
  | [], _, _ => Memle.refl _ _
  | x :: l, st, cnt => (frzA_memle st x cnt).trans (frzAs_memle l _ cnt) (fun _ => Nat.le_refl _)
theorem gather_frzA (st : St C.S.U) (y : AV C.S.U) : ∀ (d : Nat) (t : Ty) (cs : List (LV C.S.U)), gather C.S (frzA st y) d t cs = gather C.S st d t cs := by
  intro d
  induction d with
  | zero => intro t cs; rfl
  | succ d ih =>
    intro t cs
    cases t with
    | st n => simp only [gather, show gather C.S (Lift.frzA st y) d = gather C.S st d from funext fun t => funext fun cs => ih t cs]
    | _ => cases cs <;> simp only [gather, toData_frzA]
theorem toA_frzA (st : St C.S.U) (y : AV C.S.U) (t : Ty) (x : AV C.S.U) : toA C.S (frzA st y) t x = toA C.S st t x := by
  cases x with
  | l x => exact toData_frzA st y t x
  | ag n cs => simp only [toA, gather_frzA]
  | _ => rfl
theorem toA_frzAs : ∀ (xs : List (AV C.S.U)) (st : St C.S.U) (t : Ty) (x : AV C.S.U), toA C.S (frzAs xs st) t x = toA C.S st t x
  | [], _, _, _ => rfl
  | y :: l, st, t, x => (toA_frzAs l _ t x).trans (toA_frzA st y t x)

theorem RdA.mono {g g' : Gh} (hg : Mle g.M g'.M) {st st' : St C.S.U} (hd : ∀ t x, toA C.S st' t x = toA C.S st t x) {v : Value} {x : AV C.S.U} (h : RdA C.S g st v x) : RdA C.S g' st' v x :=
  fun t y e => (h t y ((hd t x).symm.trans e)).mono hg

theorem Rel.frzAs (hS : SgOk C.S) : ∀ {xs : List (AV C.S.U)} {vs : List Value} {st : St C.S.U} {g : Gh}, Rel c st a w g → All2 (RepA g st.mem st.cnt) vs xs → ∃ g', Rel c (frzAs xs st) a w g' ∧ Ext g g' st.cnt ∧ g'.τ = g.τ ∧ All2 (RdA C.S g' st) vs xs := by
  intro xs
  induction xs with
  | nil => intro vs st g h hv; cases hv; exact ⟨g, h, Ext.refl _ _, rfl, .nil⟩
  | cons x xs ih =>
    intro vs st g h hv
    cases hv with
    | cons hx hxs =>
    obtain ⟨g1, h1, h2, h3, h4⟩ := h.frzA hS hx
    have hc := (frzA_cnt st x).1
    have hxs' := All2.imp (fun u y q => by rw [hc]; exact RepA.mono h2 (frzA_memle st x _) (fun _ => Nat.le_refl _) q) hxs (R' := RepA g1 (Lift.frzA st x).mem (Lift.frzA st x).cnt)
    obtain ⟨g2, k1, k2, k3, k4⟩ := ih h1 hxs'
    rw [hc] at k2
    exact ⟨g2, k1, h2.trans k2 (fun _ => Nat.le_refl _), k3.trans h3, .cons (h4.mono k2.M (fun _ _ => rfl)) (All2.imp (fun u y q => q.mono (Mle.refl _) (fun t z => (toA_frzA st x t z).symm)) k4)⟩

theorem cellsA_sound (hS : SgOk C.S) {v : Value} {t : Ty} {x : AV C.S.U} (hv : RepA g st.mem st.cnt v x) {ys : List (LV C.S.U)} (h : cellsA C.S t x = some ys) :
    All2 (RepL g st.mem st.cnt) v.cells.toList ys ∧ (∀ u ∈ v.cells.toList, u.oneCell' = true) ∧ ys.length = sz C.S dep t := by
  have leaf : t.isSt = false → (∃ x0 y, x = .l x0 ∧ cellV x0 = some y ∧ ys = [y]) → All2 (RepL g st.mem st.cnt) v.cells.toList ys ∧ (∀ u ∈ v.cells.toList, u.oneCell' = true) ∧ ys.length = sz C.S dep t := by
    rintro ht ⟨x0, y, rfl, e, rfl⟩
    obtain ⟨h1, h2, h3⟩ := cellV_sound (v := v) hv e
    rw [h2]
    exact ⟨.cons h1 .nil, fun u hu => by simp at hu; subst hu; exact h3, by cases t <;> first | rfl | (simp [Ty.isSt] at ht)⟩
  have lf : ∀ x0, t.isSt = false → x = .l x0 → ∃ x0 y, x = .l x0 ∧ cellV x0 = some y ∧ ys = [y] := by
    intro x0 ht hx
    subst hx
    have e : cellsA C.S t (.l x0) = (match cellV x0 with | some y => some [y] | none => none) := by
      cases t <;> first | (simp [Ty.isSt] at ht; done) | (cases x0 with
        | v u y => cases u <;> rfl
        | _ => rfl)
    rw [e] at h
    cases q : cellV x0 with
    | none => rw [q] at h; cases h
    | some y => rw [q] at h; exact ⟨x0, y, rfl, q, (Option.some.inj h).symm⟩
  cases t with
  | st n =>
    cases x with
    | ag m cs =>
      simp only [cellsA] at h
      cases e : Nat.beq n m with
      | false => rw [e] at h; cases h
      | true =>
        rw [e] at h; cases h
        have := Nat.eq_of_beq_eq_true e
        subst this
        obtain ⟨vs, rfl, h1, h2, h3⟩ := hv
        exact ⟨by simpa [Value.cells] using h1, by simpa [Value.cells] using h3, by rw [← h1.length]; exact h2⟩
    | l x =>
      cases x with
      | v t x =>
        simp only [cellsA] at h
        split at h
        · rename_i y ey
          cases h
          obtain ⟨rfl, rfl⟩ := castEl_some ey
          have hc := RepV.cells hv
          have hs := scatter_sound hS (g := g) (m := st.mem) (cnt := st.cnt) hc
          exact ⟨hs, hc.one, by rw [← hs.length]; exact hc.len hS⟩
        · cases h
      | _ => cases h
    | _ => cases h
  | int k => cases x with
    | l x0 => exact leaf rfl (lf x0 rfl rfl)
    | _ => cases h
  | bool => cases x with
    | l x0 => exact leaf rfl (lf x0 rfl rfl)
    | _ => cases h
  | str => cases x with
    | l x0 => exact leaf rfl (lf x0 rfl rfl)
    | _ => cases h
  | sl u => cases x with
    | l x0 => exact leaf rfl (lf x0 rfl rfl)
    | _ => cases h

theorem cellsOf_sound (hS : SgOk C.S) (hT : TyOk P C) {T : Nat} {v : Value} {x : AV C.S.U} (hv : RepA g st.mem st.cnt v x) {R : List (LV C.S.U) → Option ρ} {r : ρ} (h : cellsOf C T x R = some r) :
    ∃ ys, R ys = some r ∧ All2 (RepL g st.mem st.cnt) v.cells.toList ys ∧ (∀ u ∈ v.cells.toList, u.oneCell' = true) ∧ ∃ i, P.info? T = some i ∧ i.size = v.cells.size := by
  unfold cellsOf at h
  split at h
  · rename_i t _ _ eT
    split at h
    · rename_i ys ey
      obtain ⟨h1, h2, h3⟩ := cellsA_sound hS hv ey
      obtain ⟨D⟩ := hT.data eT
      exact ⟨ys, h, h1, h2, D.info, D.hi, by rw [D.hs, ← h3, ← h1.length, Array.length_toList]⟩
    · cases h
  · rename_i eT
    split at h
    · rename_i y ey
      obtain ⟨h1, h2, h3⟩ := cellV_sound (avL_sound hv) ey
      obtain ⟨i, d, hi, _, hs, _⟩ := hT.o eT
      refine ⟨[y], h, by rw [h2]; exact .cons h1 .nil, fun u hu => ?_, i, hi, by rw [hs, h2]; rfl⟩
      rw [h2] at hu; simp at hu; subst hu; exact h3
    · cases h
  · rename_i k e eT
    split at h
    · rename_i y ey
      obtain ⟨h1, h2, h3⟩ := cellV_sound (avL_sound hv) ey
      obtain ⟨i, ⟨hi, hs⟩, _⟩ := hT.m eT
      refine ⟨[y], h, by rw [h2]; exact .cons h1 .nil, fun u hu => ?_, i, hi, by rw [hs, h2]; rfl⟩
      rw [h2] at hu; simp at hu; subst hu; exact h3
    · cases h
  · cases h

theorem setAt_eq {α : Type} : ∀ (l : List α) (n : Nat) (ys : List α), n + ys.length ≤ l.length → setAt l n ys = l.take n ++ ys ++ l.drop (n + ys.length)
  | l, 0, [], _ => by simp [setAt]
  | [], n, y :: ys, h => by simp at h
  | [], n + 1, [], h => by simp at h
  | x :: l, 0, y :: ys, h => by
    simp only [setAt, setAt_eq l 0 ys (by simp at h ⊢; omega)]
    simp [Nat.add_comm]
  | x :: l, n + 1, ys, h => by
    simp only [setAt, setAt_eq l n ys (by simp at h ⊢; omega)]
    simp [Nat.add_right_comm n 1]

theorem All2.setAt {α β : Type} {R : α → β → Prop} {l : List α} {k : List β} {xs : List α} {ys : List β} (h : All2 R l k) (h' : All2 R xs ys) (n : Nat) (hn : n + ys.length ≤ k.length) : All2 R (l.take n ++ xs ++ l.drop (n + xs.length)) (setAt k n ys) := by
  rw [setAt_eq k n ys hn, h'.length]
  exact ((h.take n).append h').append (h.drop _)

/-- What a store into a block does. -/
theorem store_at {T : Nat} {i : TypeInfo} (hi : P.info? T = some i) {b off : Nat} {cs : Array Value} {E : TypeId} (hb : w.heap[b]? = some (.cells cs E (0, 0))) {v : Value} (hs : i.size = v.cells.size) (hl : off + v.cells.size ≤ cs.size)
    (h1 : ∀ u ∈ v.cells.toList, u.oneCell' = true) : (Instr.storeAt T (ptr b off) v).run P w = .ok () (w.setRow b (cs.toList.take off ++ v.cells.toList ++ cs.toList.drop (off + v.cells.toList.length)).toArray) := by
  have hst := run_storeCells_at P b off E v.cells.toList 0 cs w hb (by simpa using hl) h1
  simp only [Nat.add_zero] at hst
  simp only [Instr.storeAt, ptr, Instr.sureAddr, storeVar, Sem.run_bind, Sem.run_pure, Result.andThen_ok, run_size hi, hs]
  simp only [ne_eq, not_true_eq_false, if_false]
  exact hst

theorem setRow_turn (w : World) (b : Nat) (cs : Array Value) : (w.setRow b cs).os = w.os ∧ (w.setRow b cs).tape = w.tape ∧ (w.setRow b cs).output = w.output ∧ (w.setRow b cs).heap.size = w.heap.size ∧ ∀ k, k ≠ b → (w.setRow b cs).heap[k]? = w.heap[k]? :=
  ⟨rfl, rfl, rfl, by simp, fun k hk => setRow_other w b k cs hk⟩

theorem mem_set3 {α : Type} {P : α → Prop} {l x : List α} {n m : Nat} (h : ∀ u ∈ l, P u) (h' : ∀ u ∈ x, P u) : ∀ u ∈ l.take n ++ x ++ l.drop m, P u := by
  intro u hu
  rcases List.mem_append.1 hu with q | q
  · rcases List.mem_append.1 q with q | q
    · exact h u (List.mem_of_mem_take q)
    · exact h' u q
  · exact h u (List.mem_of_mem_drop q)

theorem lset_some {α : Type} {l zs : List α} {i : Int} {x : α} (h : lset l i x = some zs) : 0 ≤ i ∧ i < l.length ∧ zs = l.set i.toNat x := by
  unfold lset at h
  split at h
  · rename_i q; cases h; exact ⟨q.1, q.2, rfl⟩
  · cases h

theorem RowC.set (hS : SgOk C.S) {M : Mm} {t : Ty} {cs : Array Value} {xs : List (El C.S.U t)} (h : RowC C.S M t cs xs) {i : Nat} (hi : i < xs.length) {x : El C.S.U t} {us : List Value} (hx : RepC C.S M t us x) :
    RowC C.S M t (cs.toList.take (i * sz C.S dep t) ++ us ++ cs.toList.drop (i * sz C.S dep t + us.length)).toArray (xs.set i x) := by
  have hl := hx.len hS
  have hsz : (i + 1) * sz C.S dep t ≤ cs.size := Nat.le_trans (Nat.mul_le_mul_right _ hi) h.1
  rw [Nat.add_mul, Nat.one_mul] at hsz
  refine ⟨?_, fun j hj => ?_⟩
  · simp only [List.length_set, List.size_toArray, List.length_append, List.length_take, List.length_drop, Array.length_toList]
    have := h.1
    omega
  · simp only [List.length_set] at hj
    by_cases e : j = i
    · subst e
      simp only [List.getElem_set_self]
      have : seg (cs.toList.take (j * sz C.S dep t) ++ us ++ cs.toList.drop (j * sz C.S dep t + us.length)).toArray (j * sz C.S dep t) (sz C.S dep t) = us := by
        unfold seg
        simp only [List.append_assoc]
        rw [List.drop_append_of_le_length (by rw [List.length_take, Array.length_toList]; omega), List.drop_take_self, List.nil_append, List.take_append_of_le_length (by omega), ← hl, List.take_length]
      rw [this]; exact hx
    · rw [List.getElem_set_ne (fun q => e q.symm)]
      have : seg (cs.toList.take (i * sz C.S dep t) ++ us ++ cs.toList.drop (i * sz C.S dep t + us.length)).toArray (j * sz C.S dep t) (sz C.S dep t) = seg cs (j * sz C.S dep t) (sz C.S dep t) := by
        unfold seg
        simp only
        rcases Nat.lt_or_gt_of_ne e with q | q
        · have : (j + 1) * sz C.S dep t ≤ i * sz C.S dep t := Nat.mul_le_mul_right _ q
          rw [Nat.add_mul, Nat.one_mul] at this
          rw [List.append_assoc, List.drop_append_of_le_length (by rw [List.length_take, Array.length_toList]; omega), List.take_append_of_le_length (by rw [List.length_drop, List.length_take, Array.length_toList]; omega), List.drop_take, List.take_take]
          congr 1
          omega
        · have : (i + 1) * sz C.S dep t ≤ j * sz C.S dep t := Nat.mul_le_mul_right _ q
          rw [Nat.add_mul, Nat.one_mul] at this
          have hlen : (cs.toList.take (i * sz C.S dep t) ++ us).length = i * sz C.S dep t + sz C.S dep t := by rw [List.length_append, List.length_take, Array.length_toList, hl]; omega
          rw [List.drop_append, List.drop_eq_nil_of_le (by rw [hlen]; omega), List.nil_append, List.drop_drop, hlen, hl, Nat.add_sub_cancel' (by omega)]
      rw [this]; exact h.2 j hj

theorem storeK_sound (hS : SgOk C.S) (hT : TyOk P C) (hr : Rel c st a w g) {T : Nat} {p v : Value} {x : LV C.S.U} {y : AV C.S.U} (hp : RepL g st.mem st.cnt p x) (hv : RepA g st.mem st.cnt v y) {R : St C.S.U → Option ρ} {r : ρ} (h : storeK C T x y st R = some r) :
    ∃ st' g' w', (Instr.storeAt T p v).run P w = .ok () w' ∧ R st' = some r ∧ Rel c st' a w' g' ∧ Ext g g' st.cnt ∧ st'.cnt = st.cnt := by
  unfold storeK at h
  split at h
  · rename_i d j off
    obtain ⟨_, b, hb, rfl⟩ := hp
    split at h
    · rename_i cs e
      obtain ⟨ys, h, k1, k2, i, hi, hs⟩ := cellsOf_sound hS hT hv h
      cases el : Nat.ble (off + ys.length) cs.length with
      | false => rw [el] at h; cases h
      | true =>
      rw [el] at h
      have el := Nat.le_of_ble_eq_true el
      obtain ⟨b', E, vs, q1, q2, q3, q4⟩ := hr.objs d j _ e
      rw [hb] at q1; cases q1
      have hlen := q3.length
      have hlen2 := k1.length
      rw [Array.length_toList] at hlen hlen2
      refine ⟨_, g, _, store_at hi q2 hs (by omega) k2, h, ?_, Ext.refl _ _, rfl⟩
      refine hr.turn e rfl hb (.box (setAt cs off ys)) (setRow_turn w b _) (Memle.box _ _ _ _ _) ⟨b, E, _, hb, setRow_heap w b vs _ E _ q2, ?_, ?_⟩
      · have := All2.setAt q3 k1 off el
        exact All2.imp (fun u z => RepL.mono (Ext.refl _ _) (Memle.box _ _ _ _ _) (fun _ => Nat.le_refl _) u z) this
      · exact mem_set3 q4 k2
    · cases h
  · rename_i d j i
    split at h
    · rename_i E t xs e
      split at h
      · rename_i z ez
        obtain ⟨h, ⟨D⟩⟩ := asT_sound hT h
        obtain ⟨zs, hz, h⟩ := Option.bind_eq_some_iff.1 h
        obtain ⟨h0, h1, rfl⟩ := lset_some hz
        obtain ⟨g', f1, f2, _, f4⟩ := hr.frzA hS hv
        have hx := f4 t z ez
        have hc := (frzA_cnt st y).1
        have hp' := RepL.mono f2 (frzA_memle st y _) (fun d => Nat.le_of_eq (congrFun hc.symm d)) p _ hp
        obtain ⟨_, _, b, hb, rfl⟩ := hp'.2.2 xs.length t (.inl ⟨E, t, xs, e, rfl⟩) (.inl ⟨E, xs, e⟩)
        simp only [offs, Nat.add_zero]
        have ho := f1.objs d j _ e
        rcases ho with ⟨q, _⟩ | ⟨b', vs, q1, q2, q3, q4, q5, q6, q7⟩
        · rw [hb] at q; cases q
        rw [hb] at q1; cases q1
        have hlen := hx.cells.len hS
        have hi : i.toNat < xs.length := by omega
        have hsz : (i.toNat + 1) * sz C.S dep t ≤ vs.size := Nat.le_trans (Nat.mul_le_mul_right _ hi) q6.1
        rw [Nat.add_mul, Nat.one_mul] at hsz
        rw [Array.length_toList] at hlen
        refine ⟨_, g', _, store_at D.hi q2 (by rw [D.hs, hlen]) (by omega) hx.cells.one, h, ?_, f2, hc⟩
        refine f1.turn e rfl hb (.row E t (xs.set i.toNat z)) (setRow_turn w b _) (Memle.row _ e _ (by simp)) (.inr ⟨b, _, hb, setRow_heap w b vs _ E _ q2, by simpa using q3, q4, ?_, q6.set hS hi hx.cells, ?_⟩)
        · simp only [List.size_toArray, List.length_append, List.length_take, List.length_drop, Array.length_toList, hlen]
          omega
        · intro u hu
          simp only [List.length_set] at hu
          have hT2 : (vs.toList.take (i.toNat * sz C.S dep t) ++ v.cells.toList ++ vs.toList.drop (i.toNat * sz C.S dep t + v.cells.toList.length)).take (xs.length * sz C.S dep t) =
              (vs.toList.take (xs.length * sz C.S dep t)).take (i.toNat * sz C.S dep t) ++ v.cells.toList ++ (vs.toList.take (xs.length * sz C.S dep t)).drop (i.toNat * sz C.S dep t + v.cells.toList.length) := by
            have hle : (i.toNat + 1) * sz C.S dep t ≤ xs.length * sz C.S dep t := Nat.mul_le_mul_right _ hi
            rw [Nat.add_mul, Nat.one_mul] at hle
            have hv2 : v.cells.toList.length = sz C.S dep t := by rw [Array.length_toList]; exact hlen
            have hvs : vs.toList.length = vs.size := Array.length_toList
            have hq6 := q6.1
            have hlen3 : (vs.toList.take (i.toNat * sz C.S dep t) ++ v.cells.toList).length = i.toNat * sz C.S dep t + sz C.S dep t := by rw [List.length_append, List.length_take, hv2, hvs]; omega
            rw [List.take_append, List.take_of_length_le (by rw [hlen3]; omega), List.take_take, Nat.min_eq_left (by omega), hlen3, List.drop_take, hv2]
          rw [hT2] at hu
          exact mem_set3 q7 hx.cells.one u hu
      · cases h
    · cases h
  · cases h
end
end Go.Proofs.YthmedjljckbidaaDoor.Lift
