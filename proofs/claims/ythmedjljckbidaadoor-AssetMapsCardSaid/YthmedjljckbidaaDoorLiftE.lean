/- Reading what is known as data, and data as cells. Conditions: as each theorem states them. -/
import Derived.Test.YthmedjljckbidaaDoorLiftD
set_option linter.unusedVariables false
namespace Go.Proofs.YthmedjljckbidaaDoor.Lift
section
variable {S : Sg}

def zvals (S : Sg) : Nat → Ty → List Value
  | 0, _ => []
  | d + 1, .st n => ((S.fl n).map (zvals S d)).flatten
  | _ + 1, .int k => [.int k 0]
  | _ + 1, .bool => [.bool false]
  | _ + 1, .str => [.string ⟨#[]⟩]
  | _ + 1, .sl _ => [.slice none 0 0]

/-- The structs are laid as the evaluator takes them. -/
structure SgOk (S : Sg) : Prop where
  ob : ∀ n h, S.out n (S.bld n h) = h
  sz : ∀ n, sz S dep (.st n) = szL (sz S dep) (S.fl n)
  sc : ∀ n x, scatter S dep (.st n) x = scatterL (scatter S dep) (S.fl n) (S.out n x)
  zv : ∀ n, zvals S dep (.st n) = ((S.fl n).map (zvals S dep)).flatten

theorem castEl_some {U : Nat → Type} {a b : Ty} {x : El U a} {y : El U b} (h : castEl b x = some y) : ∃ e : a = b, y = e ▸ x := by
  unfold castEl at h
  split at h
  · rename_i e; cases h; exact ⟨e, rfl⟩
  · cases h

theorem RepC.len (hS : SgOk S) {M : Mm} {t : Ty} {cs : List Value} {x : El S.U t} (h : RepC S M t cs x) : cs.length = sz S dep t :=
  RepC.rec (motive_1 := fun t cs _ _ => cs.length = Go.Proofs.YthmedjljckbidaaDoor.Lift.sz S dep t) (motive_2 := fun ts cs _ _ => cs.length = szL (Go.Proofs.YthmedjljckbidaaDoor.Lift.sz S dep) ts)
    (fun _ _ => rfl) (fun _ => rfl) (fun _ => rfl) (fun _ _ _ => rfl) (fun _ _ _ _ _ _ _ _ _ _ _ => rfl)
    (fun n cs x _ ih => by rw [hS.sz]; exact ih) rfl (fun t ts cs ds x h _ _ i1 i2 => by simp [szL, i1, i2]) h
theorem RepH.len (hS : SgOk S) {M : Mm} : ∀ {ts : List Ty} {cs : List Value} {x : HL S.U ts}, RepH S M ts cs x → cs.length = szL (Go.Proofs.YthmedjljckbidaaDoor.Lift.sz S dep) ts
  | _, _, _, .nil => rfl
  | _, _, _, .cons t ts cs ds x h hx hh => by simp [szL, hx.len hS, RepH.len hS hh]

theorem RepC.one {M : Mm} {t : Ty} {cs : List Value} {x : El S.U t} (h : RepC S M t cs x) : ∀ u ∈ cs, u.oneCell' = true :=
  RepC.rec (motive_1 := fun _ cs _ _ => ∀ u ∈ cs, u.oneCell' = true) (motive_2 := fun _ cs _ _ => ∀ u ∈ cs, u.oneCell' = true)
    (fun _ _ u hu => by simp at hu; subst hu; rfl) (fun _ u hu => by simp at hu; subst hu; rfl) (fun _ u hu => by simp at hu; subst hu; rfl) (fun _ _ _ u hu => by simp at hu; subst hu; rfl)
    (fun _ _ _ _ _ _ _ _ _ _ _ u hu => by simp at hu; subst hu; rfl) (fun _ _ _ _ ih => ih) (fun u hu => by simp at hu)
    (fun _ _ _ _ _ _ _ _ i1 i2 u hu => by rcases List.mem_append.1 hu with q | q; exact i1 u q; exact i2 u q) h

/-- A value of one cell. -/
theorem RepV.leaf {M : Mm} {t : Ty} {v : Value} {x : El S.U t} (ht : t.isSt = false) (h : RepV S M t v x) : RepC S M t [v] x := by
  rcases h with ⟨a, _⟩ | ⟨_, r⟩
  · rw [ht] at a; cases a
  · exact r
theorem RepV.cells {M : Mm} {t : Ty} {v : Value} {x : El S.U t} (h : RepV S M t v x) : RepC S M t v.cells.toList x := by
  rcases h with ⟨_, cs, rfl, r⟩ | ⟨ht, r⟩
  · exact r
  · have : v.cells = #[v] := by
      have := r.one v (by simp)
      cases v <;> first | rfl | (simp [Value.oneCell'] at this)
    rw [this]; exact r
theorem RepV.of_cells {M : Mm} {t : Ty} {v : Value} {x : El S.U t} (h : RepC S M t v.cells.toList x) (hv : (∃ cs, v = .agg cs) ↔ t.isSt = true) : RepV S M t v x := by
  cases ht : t.isSt with
  | true => obtain ⟨cs, rfl⟩ := hv.2 ht; exact .inl ⟨ht, cs, rfl, h⟩
  | false =>
    have hn : ∀ cs, v ≠ .agg cs := fun cs e => by have := hv.1 ⟨cs, e⟩; rw [ht] at this; cases this
    have : v.cells = #[v] := by cases v <;> first | rfl | exact absurd rfl (hn _)
    rw [this] at h; exact .inr ⟨ht, h⟩

section
variable {c : Call} {st : St S.U} {a : Act} {w : World} {g : Gh}

/-- Read as data, it is this value. -/
def Rd (g : Gh) (st : St S.U) (v : Value) (x : LV S.U) : Prop := ∀ t y, toData st t x = some y → RepV S g.M t v y

theorem toData_share (st : St S.U) {d j E : Nat} {u : Ty} {xs : List (El S.U u)} (e : st.mem d j = some (.row E u xs)) (t : Ty) (x : LV S.U) : toData { st with mem := upd2 st.mem d j (some (.srow u xs)) } t x = toData st t x := by
  cases x with
  | row d' j' =>
    rcases upd2_cases st.mem d j (some (.srow u xs)) d' j' with ⟨p, q, r⟩ | ⟨p, r⟩
    · subst p; subst q; simp only [toData, r, e]
    · simp only [toData, r]
  | _ => rfl

theorem frz_cnt (st : St S.U) (x : LV S.U) : (frz st x).cnt = st.cnt ∧ (frz st x).sl = st.sl := by
  unfold frz
  split
  · split <;> exact ⟨rfl, rfl⟩
  · exact ⟨rfl, rfl⟩

theorem toData_frz (st : St S.U) (y : LV S.U) (t : Ty) (x : LV S.U) : toData (frz st y) t x = toData st t x := by
  unfold frz
  split
  · split
    · rename_i e; exact toData_share st e t x
    · rfl
  · rfl

theorem Memle.shr {m : Nat → Nat → Option (Obj' S.U)} (cnt : Nat → Nat) {d j E : Nat} {u : Ty} {xs : List (El S.U u)} (e : m d j = some (.row E u xs)) : Memle m (upd2 m d j (some (.srow u xs))) cnt := fun d' j' hj' => by
  rcases upd2_cases m d j (some (.srow u xs)) d' j' with ⟨p, q, r⟩ | ⟨p, r⟩
  · subst p; subst q
    refine ⟨fun n hn => ?_, fun t hu => ?_⟩
    · unfold rowOf at hn; rw [r] at hn
      rcases hn with ⟨_, _, _, q, _⟩ | ⟨_, ys, q, l⟩
      · cases q
      · cases q; exact .inl ⟨E, u, xs, e, l⟩
    · unfold rowSz at hu; rw [r] at hu
      rcases hu with ⟨_, _, q⟩ | ⟨ys, q⟩
      · cases q
      · cases q; exact .inl ⟨E, xs, e⟩
  · exact ⟨fun n hn => by unfold rowOf at hn ⊢; rw [r] at hn; exact hn, fun t hu => by unfold rowSz at hu ⊢; rw [r] at hu; exact hu⟩

theorem frz_memle (st : St S.U) (x : LV S.U) (cnt : Nat → Nat) : Memle st.mem (frz st x).mem cnt := by
  unfold frz
  split
  · split
    · rename_i e; exact Memle.shr cnt e
    · exact Memle.refl _ _
  · exact Memle.refl _ _

theorem RepC.row {M : Mm} {t : Ty} {vs : Array Value} {xs : List (El S.U t)} {b cap : Nat} (hM : M b = some vs) (hc : xs.length ≤ cap) (h : RowC S M t vs xs) : RepC S M (.sl t) [.slice (some ⟨b, 0, none⟩) xs.length cap] xs :=
  .sl t b 0 cap vs xs hM hc (by simpa using h.1) (fun i hi => by simpa using h.2 i hi)

/-- A row that is shared reads as its values. -/
theorem Rel.rd_srow (h : Rel c st a w g) {d j : Nat} {t : Ty} {xs : List (El S.U t)} (e : st.mem d j = some (.srow t xs)) {v : Value} (hv : RepL g st.mem st.cnt v (.row d j)) : RepV S g.M (.sl t) v xs := by
  refine .inr ⟨rfl, ?_⟩
  have h1 := hv.2.2 xs.length (.inr ⟨t, xs, e, rfl⟩)
  rcases h.objs d j _ e with ⟨hb, hx⟩ | ⟨b, vs, hb, hM, hl, hr⟩
  · subst hx
    rcases h1 with ⟨_, _, rfl⟩ | ⟨b, hb', rfl⟩
    · exact .nil t none 0
    · rw [hb] at hb'; cases hb'
  · rcases h1 with ⟨hb', _, _⟩ | ⟨b', hb', rfl⟩
    · rw [hb] at hb'; cases hb'
    · rw [hb] at hb'; cases hb'
      exact RepC.row hM hl hr

theorem Rd.of_rel (h : Rel c st a w g) {v : Value} {x : LV S.U} (hv : RepL g st.mem st.cnt v x) (hn : ∀ d j E t xs, x = .row d j → st.mem d j ≠ some (.row E t xs)) : Rd g st v x := by
  intro t y hy
  cases x with
  | v t' x' => obtain ⟨rfl, rfl⟩ := castEl_some hy; exact hv
  | tb d j b =>
    obtain ⟨e, e'⟩ := castEl_some (U := S.U) (a := .bool) hy
    subst e
    have e' : y = b := e'
    exact .inr ⟨rfl, by rw [e', hv.1]; exact .bool b⟩
  | bl b =>
    obtain ⟨e, e'⟩ := castEl_some (U := S.U) (a := .bool) hy
    subst e
    have e' : y = b := e'
    have hv : v = .bool b := hv
    exact .inr ⟨rfl, by rw [e', hv]; exact .bool b⟩
  | nils =>
    have hv : v = .slice none 0 0 := hv
    cases t with
    | sl t => cases hy; exact .inr ⟨rfl, hv ▸ .nil t none 0⟩
    | _ => cases hy
  | row d j =>
    simp only [toData] at hy
    split at hy
    · rename_i e; exact absurd e (hn _ _ _ _ _ rfl)
    · rename_i u xs e
      obtain ⟨e1, e2⟩ := castEl_some (U := S.U) (a := .sl u) hy
      subst e1
      have e2 : y = xs := e2
      rw [e2]
      exact h.rd_srow e hv
    · cases hy
  | _ => cases hy

/-- Made ready to be read: a row of the call's own is shared from here on. -/
theorem Rel.frz (h : Rel c st a w g) {v : Value} {x : LV S.U} (hv : RepL g st.mem st.cnt v x) : ∃ g', Rel c (frz st x) a w g' ∧ Ext g g' st.cnt ∧ g'.τ = g.τ ∧ Rd g' st v x := by
  have other : (∀ d j E t xs, x = .row d j → st.mem d j ≠ some (.row E t xs)) → ∃ g', Rel c (Lift.frz st x) a w g' ∧ Ext g g' st.cnt ∧ g'.τ = g.τ ∧ Rd g' st v x := fun hn => by
    have : Lift.frz st x = st := by
      unfold Lift.frz
      split
      · split
        · rename_i e; exact absurd e (hn _ _ _ _ _ rfl)
        · rfl
      · rfl
    exact ⟨g, by rw [this]; exact h, Ext.refl _ _, rfl, Rd.of_rel h hv hn⟩
  cases x with
  | row d j =>
    cases e : st.mem d j with
    | none => exact other fun d' j' E t xs p => by cases p; rw [e]; simp
    | some o =>
      cases o with
      | row E t xs =>
        obtain ⟨g', h1, h2, h3, h4, h5⟩ := h.share e
        have hf : Lift.frz st (.row d j) = { st with mem := upd2 st.mem d j (some (.srow t xs)) } := by simp only [Lift.frz, e]
        have hv' : RepL g' (Lift.frz st (.row d j)).mem (Lift.frz st (.row d j)).cnt v (.row d j) := by
          rw [(frz_cnt st _).1]
          exact RepL.mono h2 (frz_memle st _ _) (fun _ => Nat.le_refl _) v _ hv
        rw [hf] at hv' ⊢
        refine ⟨g', h1, h2, h5, fun t' y hy => ?_⟩
        rw [← toData_share st e] at hy
        exact Rd.of_rel h1 hv' (fun d' j' E' u ys p => by cases p; show upd2 _ _ _ _ _ _ ≠ _; rw [upd2_same]; simp) t' y hy
      | box cs => exact other fun d' j' E t xs p => by cases p; rw [e]; simp
      | srow t xs => exact other fun d' j' E t xs p => by cases p; rw [e]; simp
      | it s q => exact other fun d' j' E t xs p => by cases p; rw [e]; simp
      | map kt vt ks vs => exact other fun d' j' E t xs p => by cases p; rw [e]; simp
      | bld T y => exact other fun d' j' E t xs p => by cases p; rw [e]; simp
  | _ => exact other fun d j E t xs p => by cases p

theorem frzL_cnt : ∀ (xs : List (LV S.U)) (st : St S.U), (frzL xs st).cnt = st.cnt ∧ (frzL xs st).sl = st.sl
  | [], _ => ⟨rfl, rfl⟩
  | x :: l, st => ⟨((frzL_cnt l _).1).trans (frz_cnt st x).1, ((frzL_cnt l _).2).trans (frz_cnt st x).2⟩
theorem frzL_memle : ∀ (xs : List (LV S.U)) (st : St S.U) (cnt : Nat → Nat), Memle st.mem (frzL xs st).mem cnt
  | [], _, _ => Memle.refl _ _
  | x :: l, st, cnt => (frz_memle st x cnt).trans (frzL_memle l _ cnt) (fun _ => Nat.le_refl _)
theorem toData_frzL : ∀ (xs : List (LV S.U)) (st : St S.U) (t : Ty) (x : LV S.U), toData (frzL xs st) t x = toData st t x
  | [], _, _, _ => rfl
  | y :: l, st, t, x => (toData_frzL l _ t x).trans (toData_frz st y t x)

theorem Rd.mono {g g' : Gh} (hg : Mle g.M g'.M) {st st' : St S.U} (hd : ∀ t x, toData st' t x = toData st t x) {v : Value} {x : LV S.U} (h : Rd g st v x) : Rd g' st' v x :=
  fun t y e => (h t y ((hd t x).symm.trans e)).mono hg

theorem Rel.frzL : ∀ {xs : List (LV S.U)} {vs : List Value} {st : St S.U} {g : Gh}, Rel c st a w g → All2 (RepL g st.mem st.cnt) vs xs → ∃ g', Rel c (frzL xs st) a w g' ∧ Ext g g' st.cnt ∧ g'.τ = g.τ ∧ All2 (Rd g' st) vs xs := by
  intro xs
  induction xs with
  | nil => intro vs st g h hv; cases hv; exact ⟨g, h, Ext.refl _ _, rfl, .nil⟩
  | cons x xs ih =>
    intro vs st g h hv
    cases hv with
    | cons hx hxs =>
    rename_i v vs
    obtain ⟨g1, h1, h2, h3, h4⟩ := h.frz hx
    have hc := (frz_cnt st x).1
    have hxs' : All2 (RepL g1 (Lift.frz st x).mem (Lift.frz st x).cnt) vs xs := All2.imp (fun u y q => by rw [hc]; exact RepL.mono h2 (frz_memle st x _) (fun _ => Nat.le_refl _) u y q) hxs
    obtain ⟨g2, k1, k2, k3, k4⟩ := ih h1 hxs'
    rw [hc] at k2
    exact ⟨g2, k1, h2.trans k2 (fun _ => Nat.le_refl _), k3.trans h3, .cons (h4.mono k2.M (fun _ _ => rfl)) (All2.imp (fun u y q => q.mono (Mle.refl _) (fun t z => (toData_frz st x t z).symm)) k4)⟩
end

/-- A value put together out of cells. -/
theorem gather_sound (hS : SgOk S) {g : Gh} {st : St S.U} : ∀ (d : Nat) (t : Ty) (vs : List Value) (cs : List (LV S.U)) (x : El S.U t) (r : List (LV S.U)), All2 (Rd g st) vs cs → gather S st d t cs = some (x, r) →
    ∃ v1 v2, vs = v1 ++ v2 ∧ RepC S g.M t v1 x ∧ All2 (Rd g st) v2 r := by
  intro d
  induction d with
  | zero => intro t vs cs x r _ h; simp [gather] at h
  | succ d ih =>
    intro t vs cs x r hv h
    have leaf : t.isSt = false → (∃ c0 cs', cs = c0 :: cs' ∧ toData st t c0 = some x ∧ r = cs') → ∃ v1 v2, vs = v1 ++ v2 ∧ RepC S g.M t v1 x ∧ All2 (Rd g st) v2 r := by
      rintro ht ⟨c0, cs', rfl, e, e2⟩
      subst e2
      cases hv with
      | cons h0 h1 => exact ⟨[_], _, rfl, (h0 t x e).leaf ht, h1⟩
    have fin : ∀ (cs : List (LV S.U)), (match (cs : List (LV S.U)) with | c :: r' => (match toData st t c with | some y => some (y, r') | none => none) | [] => none) = some (x, r) → ∃ c0 cs', cs = c0 :: cs' ∧ toData st t c0 = some x ∧ r = cs' := by
      intro cs h
      cases cs with
      | nil => cases h
      | cons c0 cs' =>
        dsimp only at h
        cases e : toData st t c0 with
        | none => rw [e] at h; cases h
        | some y =>
          rw [e] at h
          have h := Option.some.inj h
          have h1 := (Prod.mk.inj h).1
          have h2 := (Prod.mk.inj h).2
          exact ⟨c0, cs', rfl, by rw [h1] at e; exact e, h2.symm⟩
    cases t with
    | st n =>
      simp only [gather] at h
      have hl : ∀ (ts : List Ty) (vs : List Value) (cs : List (LV S.U)) (x : HL S.U ts) (r : List (LV S.U)), All2 (Rd g st) vs cs → gatherL (gather S st d) ts cs = some (x, r) → ∃ v1 v2, vs = v1 ++ v2 ∧ RepH S g.M ts v1 x ∧ All2 (Rd g st) v2 r := by
        intro ts
        induction ts with
        | nil => intro vs cs x r hv h; simp only [gatherL, Option.some.injEq, Prod.mk.injEq] at h; obtain ⟨_, rfl⟩ := h; exact ⟨[], vs, rfl, .nil, hv⟩
        | cons t ts iht =>
          intro vs cs x r hv h
          simp only [gatherL] at h
          cases e : gather S st d t cs with
          | none => rw [e] at h; cases h
          | some p =>
            obtain ⟨y, cs'⟩ := p
            rw [e] at h
            dsimp only at h
            cases e2 : gatherL (gather S st d) ts cs' with
            | none => rw [e2] at h; cases h
            | some q =>
              obtain ⟨z, r'⟩ := q
              rw [e2] at h
              cases h
              obtain ⟨v1, v2, rfl, a1, a2⟩ := ih t vs cs y cs' hv e
              obtain ⟨v3, v4, rfl, b1, b2⟩ := iht v2 cs' z r a2 e2
              exact ⟨v1 ++ v3, v4, by simp, .cons t ts v1 v3 y z a1 b1, b2⟩
      cases e : gatherL (gather S st d) (S.fl n) cs with
      | none => rw [e] at h; cases h
      | some p =>
        obtain ⟨y, cs'⟩ := p
        rw [e] at h
        cases h
        obtain ⟨v1, v2, e1, e2, e3⟩ := hl _ vs cs y r hv e
        exact ⟨v1, v2, e1, .st n v1 _ (by rw [hS.ob]; exact e2), e3⟩
    | int k => exact leaf rfl (fin cs (by cases cs <;> exact h))
    | bool => exact leaf rfl (fin cs (by cases cs <;> exact h))
    | str => exact leaf rfl (fin cs (by cases cs <;> exact h))
    | sl u => exact leaf rfl (fin cs (by cases cs <;> exact h))

/-- The cells of a value are known as the evaluator knows them. -/
theorem scatter_sound (hS : SgOk S) {g : Gh} {m : Nat → Nat → Option (Obj' S.U)} {cnt : Nat → Nat} {t : Ty} {cs : List Value} {x : El S.U t} (h : RepC S g.M t cs x) : All2 (RepL g m cnt) cs (scatter S dep t x) :=
  RepC.rec (motive_1 := fun t cs x _ => All2 (RepL g m cnt) cs (scatter S dep t x)) (motive_2 := fun ts cs h _ => All2 (RepL g m cnt) cs (scatterL (scatter S dep) ts h))
    (fun k n => .cons (.inr ⟨rfl, .int k n⟩) .nil) (fun b => .cons (.inr ⟨rfl, .bool b⟩) .nil) (fun s => .cons (.inr ⟨rfl, .str s⟩) .nil) (fun t a c => .cons (.inr ⟨rfl, .nil t a c⟩) .nil)
    (fun t b off c cs xs h1 hc hs hh _ => .cons (.inr ⟨rfl, .sl t b off c cs xs h1 hc hs hh⟩) .nil)
    (fun n cs x _ ih => by rw [hS.sc]; exact ih) .nil (fun t ts cs ds x h _ _ i1 i2 => i1.append i2) h

theorem zvals_zcells {g : Gh} {m : Nat → Nat → Option (Obj' S.U)} {cnt : Nat → Nat} : ∀ (d : Nat) (t : Ty), All2 (RepL g m cnt) (zvals S d t) (zcells S d t)
  | 0, _ => .nil
  | d + 1, .st n => by
    simp only [zvals, zcells]
    generalize S.fl n = ts
    induction ts with
    | nil => exact .nil
    | cons t ts ih => simpa using (zvals_zcells d t).append ih
  | _ + 1, .int k => .cons (.inr ⟨rfl, .int k 0⟩) .nil
  | _ + 1, .bool => .cons rfl .nil
  | _ + 1, .str => .cons (.inr ⟨rfl, .str _⟩) .nil
  | _ + 1, .sl _ => .cons rfl .nil

theorem zvals_one : ∀ (d : Nat) (t : Ty), ∀ u ∈ zvals S d t, u.oneCell' = true
  | 0, _, u, h => by simp [zvals] at h
  | d + 1, .st n, u, h => by
    simp only [zvals, List.mem_flatten, List.mem_map] at h
    obtain ⟨l, ⟨t, _, rfl⟩, hu⟩ := h
    exact zvals_one d t u hu
  | _ + 1, .int k, u, h => by simp [zvals] at h; subst h; rfl
  | _ + 1, .bool, u, h => by simp [zvals] at h; subst h; rfl
  | _ + 1, .str, u, h => by simp [zvals] at h; subst h; rfl
  | _ + 1, .sl _, u, h => by simp [zvals] at h; subst h; rfl

theorem zvals_zero (hS : SgOk S) {M : Mm} : ∀ (d : Nat) (t : Ty) (z : El S.U t), zero S d t = some z → RepC S M t (zvals S d t) z
  | 0, _, _, h => by simp [zero] at h
  | d + 1, .st n, z, h => by
    simp only [zero] at h
    have hl : ∀ (ts : List Ty) (z : HL S.U ts), zeroL (zero S d) ts = some z → RepH S M ts ((ts.map (zvals S d)).flatten) z := by
      intro ts
      induction ts with
      | nil => intro z h; exact .nil
      | cons t ts ih =>
        intro z h
        simp only [zeroL] at h
        cases e : zero S d t with
        | none => rw [e] at h; cases h
        | some x =>
          rw [e] at h
          dsimp only at h
          cases e2 : zeroL (zero S d) ts with
          | none => rw [e2] at h; cases h
          | some y => rw [e2] at h; cases h; simp only [List.map_cons, List.flatten_cons]; exact .cons t ts _ _ x y (zvals_zero hS d t x e) (ih y e2)
    cases e : zeroL (zero S d) (S.fl n) with
    | none => rw [e] at h; cases h
    | some y => rw [e] at h; cases h; exact .st n _ _ (by rw [hS.ob]; exact hl _ y e)
  | _ + 1, .int k, z, h => by cases h; exact .int k 0
  | _ + 1, .bool, z, h => by cases h; exact .bool false
  | _ + 1, .str, z, h => by cases h; exact .str _
  | _ + 1, .sl t, z, h => by cases h; exact .nil t none 0

/-- A field of a struct. -/
theorem fieldOf_sound (hS : SgOk S) {ρ : Type} {M : Mm} : ∀ (ts : List Ty) (cs : List Value) (h : HL S.U ts) (i : Nat) (R : (t : Ty) → El S.U t → Option ρ) (r : ρ), RepH S M ts cs h → fieldOf ts h i R = some r →
    ∃ t x, R t x = some r ∧ ts[i]? = some t ∧ RepC S M t ((cs.drop (szL (Go.Proofs.YthmedjljckbidaaDoor.Lift.sz S dep) (ts.take i))).take (Go.Proofs.YthmedjljckbidaaDoor.Lift.sz S dep t)) x ∧ szL (Go.Proofs.YthmedjljckbidaaDoor.Lift.sz S dep) (ts.take i) + Go.Proofs.YthmedjljckbidaaDoor.Lift.sz S dep t ≤ cs.length := by
  intro ts
  induction ts with
  | nil => intro cs h i R r _ e; simp [fieldOf] at e
  | cons t ts ih =>
    intro cs h i R r hr e
    cases hr with
    | cons _ _ c1 c2 x h hx hh =>
      have hl := hx.len hS
      cases i with
      | zero => exact ⟨t, x, e, rfl, by simpa [szL, ← hl] using hx, by simp [szL, hl]⟩
      | succ i =>
        obtain ⟨u, y, e1, e2, e3, e4⟩ := ih c2 h i R r hh e
        refine ⟨u, y, e1, by simpa using e2, ?_, ?_⟩
        · simp only [List.take_succ_cons, szL, ← hl]
          rw [← List.drop_drop, List.drop_left]
          simpa using e3
        · simp only [List.take_succ_cons, szL, List.length_append, hl]; omega
end
end Go.Proofs.YthmedjljckbidaaDoor.Lift
