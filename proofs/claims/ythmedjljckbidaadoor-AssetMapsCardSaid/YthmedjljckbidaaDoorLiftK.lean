/- Rows that grow, slices that are made, conversions. Conditions: as each theorem states them. -/
import Derived.Test.YthmedjljckbidaaDoorLiftJ2
set_option linter.unusedVariables false
namespace Go.Proofs.YthmedjljckbidaaDoor.Lift
section
variable {P : Program} {C : Ctx} {c : Call} {st : St C.S.U} {a : Act} {w : World} {g : Gh} {ρ : Type}

theorem zcells_sz (S : Sg) : ∀ (d : Nat) (t : Ty), (zcells S d t).length = sz S d t
  | 0, _ => rfl
  | d + 1, .st n => by
    simp only [zcells, sz]
    generalize S.fl n = ts
    induction ts with
    | nil => rfl
    | cons t ts ih => simp only [List.map_cons, List.flatten_cons, List.length_append, szL, zcells_sz S d t, ih]
  | _ + 1, .int _ => rfl
  | _ + 1, .bool => rfl
  | _ + 1, .str => rfl
  | _ + 1, .sl _ => rfl
theorem zcells_len (t : Ty) : (zcells C.S dep t).length = sz C.S dep t := zcells_sz C.S dep t

/-- But for one block of the call's own, only new blocks have come. -/
structure GrowBut (b : Option Nat) (w w' : World) : Prop where
  os : w'.os = w.os
  tape : w'.tape = w.tape
  output : w'.output = w.output
  size : w.heap.size ≤ w'.heap.size
  block : ∀ k, k < w.heap.size → b ≠ some k → w'.heap[k]? = w.heap[k]?

/-- A new object, in new memory or in memory of the call's own that no object has. -/
theorem Rel.newO' (h : Rel c st a w g) (d : Nat) (o : Obj' C.S.U) (b : Option Nat) (cap : Nat) {w' : World} (k : GrowBut b w w')
    (hb : ∀ b', b = some b' → (g.M b' = none ∧ (c.base ≤ b' ∨ c.X b')) ∧ ∀ d' j' o', st.mem d' j' = some o' → o'.mut = true → g.β d' j' ≠ some b')
    (ho : RepO (g.new d (st.cnt d + 1) b cap) (newObj' d o st).mem (newObj' d o st).cnt w' d (st.cnt d + 1) o) : Rel c (newObj' d o st) a w' (g.new d (st.cnt d + 1) b cap) := by
  have hg := Ext.new g st.cnt d b cap
  have hm := Memle.new st.mem st.cnt d o
  have hc := cnt_le st.cnt d
  have hβ : (g.new d (st.cnt d + 1) b cap).β d (st.cnt d + 1) = b := upd2_same _ _ _ _
  have hlt : ∀ d' j' o' b', st.mem d' j' = some o' → o'.mut = true → g.β d' j' = some b' → b' < w.heap.size ∧ b ≠ some b' := fun d' j' o' b' e m q => ⟨(h.objs d' j' o' e).lt m q, fun e' => (hb b' e').2 d' j' o' e m q⟩
  refine { agree := fun b' cs q => ?_, slots := fun i => (h.slots i).mono hg hm hc, objs := fun d' j' o' q => ?_, own := fun d' j' o' b' q m hb' => ?_, apart := fun d1 j1 o1 b1 d2 j2 o2 q1 m1 e1 q2 m2 e2 => ?_, fresh := fun d' j' q => ?_, size := h.size, defers := h.defers, pin := h.pin, gpin := h.gpin.mono hg hc, glob := h.glob, keep := h.keep.trans ⟨k.os, k.tape, k.output, k.size, fun i hi hx => k.block i (Nat.lt_of_lt_of_le hi h.ge) (fun e => by rcases (hb i e).1.2 with q | q; omega; exact hx q)⟩, ge := Nat.le_trans h.ge k.size, m0 := h.m0, mb := h.mb }
  · obtain ⟨E, f, r⟩ := h.agree b' cs q
    exact ⟨E, f, (k.block b' (lt_of_heap r) (fun e => by have := (hb b' e).1.1; rw [show g.M b' = some cs from q] at this; cases this)).trans r⟩
  · rcases upd2_cases st.mem d (st.cnt d + 1) (some o) d' j' with ⟨p, p', r⟩ | ⟨p, r⟩
    · subst p; subst p'
      have q' : some o = some o' := r.symm.trans q
      cases q'
      exact ho
    · have q' : st.mem d' j' = some o' := r.symm.trans q
      exact RepO.mono hg hm hc (h.live q') (fun m b' e => k.block b' (hlt _ _ _ _ q' m e).1 (hlt _ _ _ _ q' m e).2) (h.objs d' j' o' q')
  · rcases upd2_cases st.mem d (st.cnt d + 1) (some o) d' j' with ⟨p, p', r⟩ | ⟨p, r⟩
    · subst p; subst p'
      exact (hb b' (hβ.symm.trans hb')).1
    · have q' : st.mem d' j' = some o' := r.symm.trans q
      exact h.own d' j' o' b' q' m ((hg.β d' j' (h.live q')).symm.trans hb')
  · rcases upd2_cases st.mem d (st.cnt d + 1) (some o) d1 j1 with ⟨p1, p1', r1⟩ | ⟨p1, r1⟩
    · subst p1; subst p1'
      have hb1 := hb b1 (hβ.symm.trans e1)
      rcases upd2_cases st.mem d1 (st.cnt d1 + 1) (some o) d2 j2 with ⟨p2, p2', r2⟩ | ⟨p2, r2⟩
      · exact ⟨p2.symm, p2'.symm⟩
      · have q' : st.mem d2 j2 = some o2 := r2.symm.trans q2
        exact absurd ((hg.β d2 j2 (h.live q')).symm.trans e2) (hb1.2 d2 j2 o2 q' m2)
    · have q' : st.mem d1 j1 = some o1 := r1.symm.trans q1
      have l1 := (hg.β d1 j1 (h.live q')).symm.trans e1
      rcases upd2_cases st.mem d (st.cnt d + 1) (some o) d2 j2 with ⟨p2, p2', r2⟩ | ⟨p2, r2⟩
      · subst p2; subst p2'
        exact absurd l1 ((hb b1 (hβ.symm.trans e2)).2 d1 j1 o1 q' m1)
      · have q2' : st.mem d2 j2 = some o2 := r2.symm.trans q2
        exact h.apart d1 j1 o1 b1 d2 j2 o2 q' m1 l1 q2' m2 ((hg.β d2 j2 (h.live q2')).symm.trans e2)
  · have q1 : upd st.cnt d (st.cnt d + 1) d' < j' := q
    have hne : ¬ (d' = d ∧ j' = st.cnt d + 1) := by rintro ⟨rfl, rfl⟩; rw [upd_same] at q1; omega
    show upd2 st.mem d (st.cnt d + 1) (some o) d' j' = none
    rw [upd2_other _ _ _ _ hne]
    exact h.fresh d' j' (Nat.lt_of_le_of_lt (hc d') q1)

/-- New blocks are of the call's own. -/
theorem Rel.newB (h : Rel c st a w g) {b' : Nat} (hb : w.heap.size ≤ b') : (g.M b' = none ∧ (c.base ≤ b' ∨ c.X b')) ∧ ∀ d' j' o', st.mem d' j' = some o' → o'.mut = true → g.β d' j' ≠ some b' := by
  refine ⟨⟨?_, .inl (Nat.le_trans h.ge hb)⟩, fun d' j' o' e m q => ?_⟩
  · cases e : g.M b' with
    | none => rfl
    | some cs => obtain ⟨E, f, q⟩ := h.agree b' cs e; have := lt_of_heap q; omega
  · have := (h.objs d' j' o' e).lt m q; omega

/-- A slice's cells, where they lie. -/
theorem Rel.readRow (hr : Rel c st a w g) {v : Value} {x : LV C.S.U} {t : Ty} {ys : List (El C.S.U t)} (hv : RepL g st.mem st.cnt v x) (h : toData st (.sl t) x = some ys) :
    (ys = [] ∧ ∃ q k, v = .slice q 0 k) ∨ ∃ b off k cs E f, v = .slice (some ⟨b, off, none⟩) ys.length k ∧ w.heap[b]? = some (.cells cs E f) ∧ off + ys.length * sz C.S dep t ≤ cs.size ∧ ∀ i (hi : i < ys.length), RepC C.S g.M t (seg cs (off + i * sz C.S dep t) (sz C.S dep t)) ys[i] := by
  by_cases hn : ∃ d j E u xs, x = .row d j ∧ st.mem d j = some (.row E u xs)
  · obtain ⟨d, j, E, u, xs, rfl, e⟩ := hn
    simp only [toData, e] at h
    obtain ⟨e1, e2⟩ := castEl_some (U := C.S.U) (a := .sl u) h
    cases e1
    have e2 : ys = xs := e2
    subst e2
    have hlen := hv.2.2 _ (.inl ⟨E, _, _, e, rfl⟩)
    rcases hr.objs d j _ e with ⟨hb, hx⟩ | ⟨b, vs, hb, hh, hl, _, hs, hrow, _⟩
    · subst hx
      rcases hlen with ⟨_, _, rfl⟩ | ⟨b, hb', rfl⟩
      · exact .inl ⟨rfl, none, 0, rfl⟩
      · rw [hb] at hb'; cases hb'
    · rcases hlen with ⟨hb', _, _⟩ | ⟨b', hb', rfl⟩
      · rw [hb] at hb'; cases hb'
      · rw [hb] at hb'; cases hb'
        exact .inr ⟨b, 0, _, vs, E, _, rfl, hh, by simpa using hrow.1, fun i hi => by simpa using hrow.2 i hi⟩
  · have hrd := Rd.of_rel hr hv (fun d j E u xs hx e => hn ⟨d, j, E, u, xs, hx, e⟩) _ _ h
    rcases hrd.list with ⟨hl, q, k, rfl⟩ | ⟨b, off, k, cs, rfl, k1, k2, k3, k4⟩
    · exact .inl ⟨hl, q, k, rfl⟩
    · obtain ⟨E, f, hh⟩ := hr.agree b cs k1
      exact .inr ⟨b, off, k, cs, E, f, rfl, hh, k3, k4⟩

theorem seg_add (cs : Array Value) (off n m : Nat) : seg cs off (n + m) = seg cs off n ++ seg cs (off + n) m := by
  unfold seg
  rw [List.take_add, List.drop_drop]
theorem seg_all {cs : Array Value} {off s : Nat} {Q : Value → Prop} : ∀ (n : Nat), (∀ i, i < n → ∀ u ∈ seg cs (off + i * s) s, Q u) → ∀ u ∈ seg cs off (n * s), Q u
  | 0, _, u, hu => by simp [seg] at hu
  | n + 1, h, u, hu => by
    rw [Nat.add_mul, Nat.one_mul, seg_add] at hu
    rcases List.mem_append.1 hu with q | q
    · exact seg_all n (fun i hi => h i (by omega)) u q
    · exact h n (by omega) u q

theorem RowC.append {M : Mm} {t : Ty} {cs cs' ds : Array Value} {xs ys : List (El C.S.U t)} {off : Nat} (h : RowC C.S M t cs xs) (hy : ∀ i (hi : i < ys.length), RepC C.S M t (seg ds (off + i * sz C.S dep t) (sz C.S dep t)) ys[i])
    (h1 : seg cs' 0 (xs.length * sz C.S dep t) = seg cs 0 (xs.length * sz C.S dep t)) (h2 : seg cs' (xs.length * sz C.S dep t) (ys.length * sz C.S dep t) = seg ds off (ys.length * sz C.S dep t)) (h3 : (xs.length + ys.length) * sz C.S dep t ≤ cs'.size) :
    RowC C.S M t cs' (xs ++ ys) := by
  have sub : ∀ (A B : Array Value) (o o' n i : Nat), seg A o (n * sz C.S dep t) = seg B o' (n * sz C.S dep t) → i < n → seg A (o + i * sz C.S dep t) (sz C.S dep t) = seg B (o' + i * sz C.S dep t) (sz C.S dep t) := by
    intro A B o o' n i e hi
    have hle : (i + 1) * sz C.S dep t ≤ n * sz C.S dep t := Nat.mul_le_mul_right _ hi
    rw [Nat.add_mul, Nat.one_mul] at hle
    rw [← seg_seg A o (n * sz C.S dep t) (i * sz C.S dep t) _ hle, ← seg_seg B o' (n * sz C.S dep t) (i * sz C.S dep t) _ hle, e]
  refine ⟨by simpa using h3, fun i hi => ?_⟩
  simp only [List.length_append] at hi
  by_cases hlt : i < xs.length
  · rw [List.getElem_append_left hlt]
    have := sub cs' cs 0 0 xs.length i h1 hlt
    simp only [Nat.zero_add] at this
    rw [this]; exact h.2 i hlt
  · rw [List.getElem_append_right (by omega)]
    have := sub cs' ds (xs.length * sz C.S dep t) off ys.length (i - xs.length) h2 (by omega)
    rw [← Nat.add_mul, Nat.add_sub_cancel' (by omega)] at this
    rw [this]; exact hy _ _

theorem lapp_some {α : Type} {eb : Nat} {l m r : List α} (h : lapp eb l m = some r) : (l.length + m.length) * eb ≤ 140737488355328 ∧ l.length + m.length ≤ 140737488355328 ∧ r = l ++ m := by
  unfold lapp at h
  split at h
  · rename_i q; cases h; exact ⟨q.1, q.2, rfl⟩
  · cases h

theorem seg_zero (cs : Array Value) (n : Nat) : seg cs 0 n = cs.toList.take n := by simp [seg]

theorem seg3a {X : Array Value} {A B Z : List Value} {n : Nat} (hX : X.toList = A ++ B ++ Z) (hA : A.length = n) : seg X 0 n = A := by
  rw [seg_zero, hX, List.append_assoc, ← hA, List.take_left]
theorem seg3b {X : Array Value} {A B Z : List Value} {n m : Nat} (hX : X.toList = A ++ B ++ Z) (hA : A.length = n) (hB : B.length = m) : seg X n m = B := by
  unfold seg
  rw [hX, List.append_assoc, ← hA, List.drop_left, ← hB, List.take_left]
theorem take3 {X : Array Value} {A B Z : List Value} {n m : Nat} (hX : X.toList = A ++ B ++ Z) (hA : A.length = n) (hB : B.length = m) : X.toList.take (n + m) = A ++ B := by
  rw [hX, ← hA, ← hB, ← List.length_append, List.take_left]

theorem nothing_appended {T E ty : Nat} (hd : P.underlying T = some (.slice E)) {i : TypeInfo} (hi : P.info? E = some i) (q q' : Option Addr) (n k k' : Nat) (hk : n ≤ k) :
    (Builtin.append_ #[T, T] ty #[.slice q n k, .slice q' 0 k']).run P w = .ok (.slice q n k) w := by
  cases q <;> cases q' <;> simp [Builtin.append_, run_underlying hd, sizeOf, typeInfo, hi, Builtin.lenOf, Builtin.firstCells, loadCells, loadCellsFrom, storeCells, hk]

theorem GrowBut.same (b : Option Nat) (w : World) : GrowBut b w w := ⟨rfl, rfl, rfl, Nat.le_refl _, fun _ _ _ => rfl⟩

theorem appendK_sound (hT : TyOk P C) (hr : Rel c st a w g) {T T' ty : Nat} {dst : Option Nat} {u v : Value} {s x : LV C.S.U} (hu : RepL g st.mem st.cnt u s) (hv : RepL g st.mem st.cnt v x) {R : AV C.S.U → St C.S.U → Option ρ} {r : ρ} (h : appendK C T T' dst s x st R = some r) :
    T' = T ∧ ∃ q z st' g' w', (Builtin.append_ #[T, T] ty #[u, v]).run P w = .ok q w' ∧ R z st' = some r ∧ Rel c st' a w' g' ∧ RepA g' st'.mem st'.cnt q z ∧ Ext g g' st.cnt ∧ ∀ d, st.cnt d ≤ st'.cnt d := by
  unfold appendK at h
  split at h
  · rename_i t eb E eT
    obtain ⟨hd, ⟨Eo⟩⟩ := hT.sl eT
    cases eTT : Nat.beq T T' with
    | false => rw [eTT] at h; cases h
    | true =>
    rw [eTT] at h
    refine ⟨(Nat.eq_of_beq_eq_true eTT).symm, ?_⟩
    simp only [cond_true] at h
    split at h
    · rename_i ys ey
      have hread := hr.readRow hv ey
      have D := Eo.data
      have hby : D.info.bytes ≤ eb := by have := Eo.bytes; simp only [Program.bytesOf, D.hi, Option.map_some, Option.getD_some] at this; exact this
      have hzs : D.zv.cells.size = sz C.S dep t := by
        have := congrArg List.length D.hzc
        rw [Array.length_toList] at this
        rw [this]
        have hz2 := D.hs
        have := (zvals_zcells (S := C.S) (g := g) (m := st.mem) (cnt := st.cnt) dep t).length
        rw [this]
        exact zcells_len t
      -- the whole, once the old row is known
      have main : ∀ (d : Nat) (st1 : St C.S.U) (xs zs : List (El C.S.U t)) (b0 : Option Nat) (cap0 : Nat), dst = some d → Rel c st1 a w g → st1.cnt = st.cnt → (∀ z, b0 = some z → (g.M z = none ∧ (c.base ≤ z ∨ c.X z)) ∧ ∀ d' j' o', st1.mem d' j' = some o' → o'.mut = true → g.β d' j' ≠ some z) →
          ((b0 = none ∧ xs = [] ∧ u = .slice none 0 0) ∨ ∃ z vs, b0 = some z ∧ u = .slice (some ⟨z, 0, none⟩) xs.length cap0 ∧ w.heap[z]? = some (.cells vs E (0, 0)) ∧ xs.length ≤ cap0 ∧ cap0 ≤ maxLen ∧ vs.size = cap0 * sz C.S dep t ∧ RowC C.S g.M t vs xs ∧ (∀ p ∈ vs.toList.take (xs.length * sz C.S dep t), p.oneCell' = true)) →
          lapp eb xs ys = some zs → R (.l (.row d (st1.cnt d + 1))) (newObj' d (.row E t zs) st1) = some r →
          ∃ q z st' g' w', (Builtin.append_ #[T, T] ty #[u, v]).run P w = .ok q w' ∧ R z st' = some r ∧ Rel c st' a w' g' ∧ RepA g' st'.mem st'.cnt q z ∧ Ext g g' st.cnt ∧ ∀ d, st.cnt d ≤ st'.cnt d := by
        intro d st1 xs zs b0 cap0 hdst h1 hcnt hb0 hold hz hR
        obtain ⟨l1, l2, rfl⟩ := lapp_some hz
        have hmx : xs.length + ys.length ≤ maxLen := by simp only [maxLen]; omega
        have fin : ∀ (b : Option Nat) (cap : Nat) (q : Value) (w' : World), (Builtin.append_ #[T, T] ty #[u, v]).run P w = .ok q w' → GrowBut b w w' → (∀ z, b = some z → (g.M z = none ∧ (c.base ≤ z ∨ c.X z)) ∧ ∀ d' j' o', st1.mem d' j' = some o' → o'.mut = true → g.β d' j' ≠ some z) →
            ((b = none ∧ xs ++ ys = [] ∧ q = .slice none 0 0) ∨ ∃ z vs, b = some z ∧ q = .slice (some ⟨z, 0, none⟩) (xs ++ ys).length cap ∧ w'.heap[z]? = some (.cells vs E (0, 0)) ∧ (xs ++ ys).length ≤ cap ∧ cap ≤ maxLen ∧ vs.size = cap * sz C.S dep t ∧ RowC C.S g.M t vs (xs ++ ys) ∧ (∀ p ∈ vs.toList.take ((xs ++ ys).length * sz C.S dep t), p.oneCell' = true)) →
            ∃ q z st' g' w', (Builtin.append_ #[T, T] ty #[u, v]).run P w = .ok q w' ∧ R z st' = some r ∧ Rel c st' a w' g' ∧ RepA g' st'.mem st'.cnt q z ∧ Ext g g' st.cnt ∧ ∀ d, st.cnt d ≤ st'.cnt d := by
          intro b cap q w' hrun hgrow hb hobj
          have hβ : (g.new d (st1.cnt d + 1) b cap).β d (st1.cnt d + 1) = b := upd2_same _ _ _ _
          have hγ : (g.new d (st1.cnt d + 1) b cap).γ d (st1.cnt d + 1) = cap := upd2_same _ _ _ _
          have hrel := h1.newO' d (.row E t (xs ++ ys)) b cap hgrow hb (by
            rcases hobj with ⟨rfl, e, _⟩ | ⟨z, vs, rfl, _, q2, q3, q4, q5, q6, q7⟩
            · exact .inl ⟨hβ, e⟩
            · exact .inr ⟨z, vs, hβ, q2, by rw [hγ]; exact q3, by rw [hγ]; exact q4, by rw [hγ]; exact q5, q6, q7⟩)
          refine ⟨q, _, _, _, w', hrun, hR, hrel, ⟨by show _ ≤ upd st1.cnt d (st1.cnt d + 1) d; rw [upd_same]; exact Nat.le_refl _, ?_, fun n hn => ?_⟩, by rw [← hcnt]; exact Ext.new g st1.cnt d b cap, fun e => by rw [← hcnt]; exact cnt_le st1.cnt d e⟩
          · rcases hobj with ⟨_, _, rfl⟩ | ⟨z, vs, _, rfl, _⟩ <;> exact ⟨_, _, _, rfl⟩
          · have hn' : n = (xs ++ ys).length := by
              have hm : (newObj' d (.row E t (xs ++ ys)) st1).mem d (st1.cnt d + 1) = some (.row E t (xs ++ ys)) := upd2_same _ _ _ _
              rcases hn with ⟨_, _, ls, q, l⟩ | ⟨_, ls, q, l⟩
              · rw [hm] at q; cases q; exact l.symm
              · rw [hm] at q; cases q
            subst hn'
            rcases hobj with ⟨rfl, e, rfl⟩ | ⟨z, vs, rfl, rfl, _⟩
            · exact .inl ⟨hβ, by rw [e]; rfl, rfl⟩
            · exact .inr ⟨z, hβ, by rw [hγ]⟩
        rcases hread with ⟨hys, q', k', rfl⟩ | ⟨yb, off, k', ds, E', f', rfl, hh, hsz, hrep⟩
        · -- nothing is appended
          subst hys
          rcases hold with ⟨rfl, rfl, rfl⟩ | ⟨z, vs, rfl, rfl, e2, e3, e4, e5, e6, e7⟩
          · exact fin none 0 _ w (nothing_appended hd D.hi _ _ _ _ _ (Nat.le_refl _)) (GrowBut.same _ _) (fun _ q => by cases q) (.inl ⟨rfl, rfl, rfl⟩)
          · exact fin (some z) cap0 _ w (nothing_appended hd D.hi _ _ _ _ _ e3) (GrowBut.same _ _) (fun b q => hb0 b q) (.inr ⟨z, vs, rfl, by simp, e2, by simpa using e3, e4, e5, by simpa using e6, by simpa using e7⟩)
        · have hlnews : (seg ds off (ys.length * sz C.S dep t)).length = ys.length * D.info.size := by rw [seg_len hsz, D.hs]
          have hcells : ∀ j p, (seg ds off (ys.length * sz C.S dep t))[j]? = some p → w.cell? (Addr.add ⟨yb, off, none⟩ j) = some p := fun j p hp => by rw [add_mk, cell_of hh]; exact seg_get hp
          have hone : ∀ p ∈ seg ds off (ys.length * sz C.S dep t), p.oneCell' = true := seg_all ys.length (fun i hi p hp => (hrep i hi).one p hp)
          by_cases hy0 : ys.length = 0
          · have hys : ys = [] := List.eq_nil_of_length_eq_zero hy0
            subst hys
            rcases hold with ⟨rfl, rfl, rfl⟩ | ⟨z, vs, rfl, rfl, e2, e3, e4, e5, e6, e7⟩
            · exact fin none 0 _ w (nothing_appended hd D.hi _ _ _ _ _ (Nat.le_refl _)) (GrowBut.same _ _) (fun _ q => by cases q) (.inl ⟨rfl, rfl, rfl⟩)
            · exact fin (some z) cap0 _ w (nothing_appended hd D.hi _ _ _ _ _ e3) (GrowBut.same _ _) (fun b q => hb0 b q) (.inr ⟨z, vs, rfl, by simp, e2, by simpa using e3, e4, e5, by simpa using e6, by simpa using e7⟩)
          · have grown : ∀ (olds : List Value) (cap : Nat) (W : World) (vs0 : Array Value), W = w.drew.alloc (.cells (olds.toArray ++ (seg ds off (ys.length * sz C.S dep t)).toArray ++ Builtin.zeroCells D.zv.cells (cap - (xs.length + ys.length))) E) → xs.length + ys.length ≤ cap → cap ≤ maxLen →
                olds = vs0.toList.take (xs.length * sz C.S dep t) → xs.length * sz C.S dep t ≤ vs0.size → RowC C.S g.M t vs0 xs → (∀ p ∈ olds, p.oneCell' = true) → (Builtin.append_ #[T, T] ty #[u, .slice (some ⟨yb, off, none⟩) ys.length k']).run P w = .ok (.slice (some ⟨w.heap.size, 0, none⟩) (xs.length + ys.length) cap) W →
                ∃ q z st' g' w', (Builtin.append_ #[T, T] ty #[u, .slice (some ⟨yb, off, none⟩) ys.length k']).run P w = .ok q w' ∧ R z st' = some r ∧ Rel c st' a w' g' ∧ RepA g' st'.mem st'.cnt q z ∧ Ext g g' st.cnt ∧ ∀ d, st.cnt d ≤ st'.cnt d := by
              rintro olds cap W vs0 rfl hcap hcap2 rfl hvs0 hrow0 hone0 hrun
              have hgr : Grow w (w.drew.alloc (.cells ((vs0.toList.take (xs.length * sz C.S dep t)).toArray ++ (seg ds off (ys.length * sz C.S dep t)).toArray ++ Builtin.zeroCells D.zv.cells (cap - (xs.length + ys.length))) E)) := (Grow.drew w).trans (Grow.alloc _ _)
              have hv0l : vs0.toList.length = vs0.size := Array.length_toList
              have hol : (vs0.toList.take (xs.length * sz C.S dep t)).length = xs.length * sz C.S dep t := by rw [List.length_take, hv0l]; omega
              have hnl : (seg ds off (ys.length * sz C.S dep t)).length = ys.length * sz C.S dep t := seg_len hsz
              refine fin (some w.heap.size) cap _ _ hrun ⟨hgr.os, hgr.tape, hgr.output, hgr.size, fun k hk _ => hgr.block k hk⟩ (fun z hz => by cases hz; exact h1.newB (Nat.le_refl _)) (.inr ⟨w.heap.size, _, rfl, by rw [List.length_append], heap_alloc_new w.drew _, by rw [List.length_append]; exact hcap, hcap2, ?_, hrow0.append hrep ?_ ?_ ?_, ?_⟩)
              · simp only [Array.size_append, List.size_toArray, hol, hnl, size_zeroCells, hzs]
                rw [← Nat.add_mul, ← Nat.add_mul]; congr 1; omega
              · rw [seg3a (B := seg ds off (ys.length * sz C.S dep t)) (Z := (Builtin.zeroCells D.zv.cells (cap - (xs.length + ys.length))).toList) (by simp) hol, seg_zero]
              · exact seg3b (A := vs0.toList.take (xs.length * sz C.S dep t)) (Z := (Builtin.zeroCells D.zv.cells (cap - (xs.length + ys.length))).toList) (by simp) hol hnl
              · simp only [Array.size_append, List.size_toArray, hol, hnl, size_zeroCells, hzs]
                rw [← Nat.add_mul]; omega
              · intro p hp
                rw [List.length_append, Nat.add_mul, take3 (A := vs0.toList.take (xs.length * sz C.S dep t)) (B := seg ds off (ys.length * sz C.S dep t)) (Z := (Builtin.zeroCells D.zv.cells (cap - (xs.length + ys.length))).toList) (by simp) hol hnl] at hp
                rcases List.mem_append.1 hp with q | q
                · exact hone0 p q
                · exact hone p q
            rcases hold with ⟨rfl, rfl, rfl⟩ | ⟨z, vs, rfl, rfl, e2, e3, e4, e5, e6, e7⟩
            · have l1' : (0 + ys.length) * eb ≤ 140737488355328 := l1
              have l2' : 0 + ys.length ≤ 140737488355328 := l2
              have hmx' : 0 + ys.length ≤ maxLen := hmx
              rw [Nat.zero_add] at l1' l2' hmx'
              have hb2 := Nat.mul_le_mul_left ys.length hby
              have hrun := run_append_nil (P := P) w T ty E D.info D.zv hd D.hi D.hz ⟨yb, off, none⟩ ys.length k' _ hlnews hcells (by omega) (by omega) (by omega)
              have hz0 : ([] : List (El C.S.U t)).length = 0 := rfl
              refine grown [] (grownCap w ys.length 0 E) _ #[] ?_ (by rw [hz0, Nat.zero_add]; exact grownCap_ge w ys.length 0 E) (grownCap_le_maxLen w ys.length 0 E hmx') (by simp) (by simp) ⟨by simp, fun i hi => by simp at hi⟩ (by simp) (by rw [hz0, Nat.zero_add]; exact hrun)
              rw [hz0, Nat.zero_add]; simp
            · by_cases hroom : xs.length + ys.length ≤ cap0
              · have hfit : xs.length * D.info.size + (seg ds off (ys.length * sz C.S dep t)).length ≤ vs.size := by rw [hlnews, e5, D.hs, ← Nat.add_mul]; exact Nat.mul_le_mul_right _ hroom
                have hrun := run_append_room (P := P) w T ty E D.info hd D.hi z xs.length cap0 vs e2 ⟨yb, off, none⟩ ys.length k' _ hlnews hcells hone hroom hfit
                have hnl : (seg ds off (ys.length * sz C.S dep t)).length = ys.length * sz C.S dep t := seg_len hsz
                rw [D.hs] at hrun hfit
                have hvl : vs.toList.length = vs.size := Array.length_toList
                have htl : (vs.toList.take (xs.length * sz C.S dep t)).length = xs.length * sz C.S dep t := by rw [List.length_take]; omega
                refine fin (some z) cap0 _ _ hrun ⟨rfl, rfl, rfl, by simp, fun k _ hk => setRow_other w z k _ (fun e => hk (by rw [e]))⟩ (fun b q => hb0 b q) (.inr ⟨z, _, rfl, by rw [List.length_append], setRow_heap w z vs _ E _ e2, by rw [List.length_append]; exact hroom, e4, ?_, e6.append hrep ?_ ?_ ?_, ?_⟩)
                · simp only [List.size_toArray, List.length_append, htl, hnl, List.length_drop]; omega
                · rw [seg3a (B := seg ds off (ys.length * sz C.S dep t)) (by rfl) htl, seg_zero]
                · exact seg3b (A := vs.toList.take (xs.length * sz C.S dep t)) (by rfl) htl hnl
                · simp only [List.size_toArray, List.length_append, htl, hnl, List.length_drop]; rw [Nat.add_mul]; omega
                · intro p hp
                  rw [List.length_append, Nat.add_mul, take3 (A := vs.toList.take (xs.length * sz C.S dep t)) (B := seg ds off (ys.length * sz C.S dep t)) (by rfl) htl hnl] at hp
                  rcases List.mem_append.1 hp with q | q
                  · exact e7 p q
                  · exact hone p q
              · have holds : ∀ j p, (vs.toList.take (xs.length * sz C.S dep t))[j]? = some p → w.cell? (Addr.add ⟨z, 0, none⟩ j) = some p := fun j p hp => by
                  rw [add_mk, cell_of e2]
                  rw [List.getElem?_take] at hp
                  split at hp
                  · simpa using hp
                  · cases hp
                have hol : (vs.toList.take (xs.length * sz C.S dep t)).length = xs.length * D.info.size := by rw [List.length_take, (Array.length_toList : vs.toList.length = vs.size), D.hs]; have := e6.1; omega
                have hb2 := Nat.mul_le_mul_left (xs.length + ys.length) hby
                have hfit := growslice_fits (show cap0 < xs.length + ys.length by omega) (show (xs.length + ys.length) * D.info.bytes ≤ 140737488355328 by omega)
                have hrun := run_append_grow (P := P) w T ty E D.info D.zv hd D.hi D.hz ⟨z, 0, none⟩ xs.length cap0 _ hol holds ⟨yb, off, none⟩ ys.length k' _ hlnews hcells (by omega) (by omega) hfit
                exact grown _ (grownCap w (xs.length + ys.length) cap0 E) _ vs rfl (grownCap_ge w _ _ _) (grownCap_le_maxLen w _ _ _ hmx) rfl e6.1 e6 e7 hrun
      split at h
      · obtain ⟨zs, hz, h⟩ := Option.bind_eq_some_iff.1 h
        cases dst with
        | none => cases h
        | some d => exact main d st [] zs none 0 rfl hr rfl (fun _ q => by cases q) (.inl ⟨rfl, rfl, hu⟩) hz h
      · rename_i d0 j0
        split at h
        · rename_i E' t' xs e
          cases eE : Nat.beq E E' with
          | false => rw [eE] at h; cases h
          | true =>
          rw [eE] at h
          have := Nat.eq_of_beq_eq_true eE
          subst this
          simp only [cond_true] at h
          split at h
          · rename_i xs' ex
            obtain ⟨e1, e2⟩ := castEl_some (U := C.S.U) (a := .sl t') ex
            cases e1
            have e2 : xs' = xs := e2
            subst e2
            obtain ⟨zs, hz, hR⟩ := Option.bind_eq_some_iff.1 h
            cases dst with
            | none => cases hR
            | some d =>
              have hk := hr.kill d0 j0
              have hlen := hu.2.2 _ (.inl ⟨E, _, _, e, rfl⟩)
              have hkey : ∀ d' j' o, upd2 st.mem d0 j0 none d' j' = some o → st.mem d' j' = some o ∧ ¬ (d' = d0 ∧ j' = j0) := fun d' j' o q => by
                rcases upd2_cases st.mem d0 j0 none d' j' with ⟨p, p', r⟩ | ⟨p, r⟩
                · rw [r] at q; cases q
                · exact ⟨r.symm.trans q, p⟩
              rcases hr.objs d0 j0 _ e with ⟨hb, hx⟩ | ⟨b, vs, hb, hh, hl, hmax, hs, hrow, h1⟩
              · subst hx
                have hu' : u = .slice none 0 0 := by
                  rcases hlen with ⟨_, _, rfl⟩ | ⟨b, hb', rfl⟩
                  · rfl
                  · rw [hb] at hb'; cases hb'
                exact main d _ [] zs none 0 rfl hk rfl (fun _ q => by cases q) (.inl ⟨rfl, rfl, hu'⟩) hz hR
              · have hu' : u = .slice (some ⟨b, 0, none⟩) xs'.length (g.γ d0 j0) := by
                  rcases hlen with ⟨hb', _, _⟩ | ⟨b', hb', rfl⟩
                  · rw [hb] at hb'; cases hb'
                  · rw [hb] at hb'; cases hb'; rfl
                refine main d _ xs' zs (some b) (g.γ d0 j0) rfl hk rfl (fun z q => ?_) (.inr ⟨b, vs, rfl, hu', hh, hl, hmax, hs, hrow, h1⟩) hz hR
                cases q
                refine ⟨hr.own d0 j0 _ b e rfl hb, fun d' j' o' q m hb' => ?_⟩
                obtain ⟨q1, q2⟩ := hkey d' j' o' q
                exact q2 (hr.apart d' j' o' b d0 j0 _ q1 m hb' e rfl hb)
          · cases h
        · cases h
      · cases h
    · cases h
  · cases h
end
end Go.Proofs.YthmedjljckbidaaDoor.Lift
