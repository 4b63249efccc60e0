/- Addresses of fields and elements, slices, lengths, conversions: the machine's and the evaluator's. Conditions: as each theorem states them. -/
import Derived.Test.YthmedjljckbidaaDoorLiftH
set_option linter.unusedVariables false
namespace Go.Proofs.YthmedjljckbidaaDoor.Lift
section
variable {P : Program} {C : Ctx} {c : Call} {st : St C.S.U} {a : Act} {w : World} {g : Gh} {ρ : Type}

theorem offs_snoc (S : Sg) (f n : Nat) : ∀ (fs : List Nat) (t : Ty), pathTy S fs t = some (.st n) → offs S (fs ++ [f]) t = offs S fs t + szL (sz S dep) ((S.fl n).take f)
  | [], t, h => by
    simp only [pathTy, Option.some.injEq] at h
    subst h
    simp [offs]
  | e :: fs, .st m, h => by
    simp only [pathTy] at h
    split at h
    · rename_i t ht
      have := offs_snoc S f n fs t h
      simp only [List.cons_append, offs, ht, Option.getD_some, this]
      omega
    · cases h
  | _ :: _, .int _, h => by simp [pathTy] at h
  | _ :: _, .bool, h => by simp [pathTy] at h
  | _ :: _, .str, h => by simp [pathTy] at h
  | _ :: _, .sl _, h => by simp [pathTy] at h

/-- The place of a field. -/
theorem run_fieldAt (hT : TyOk P C) {T n f eb E : Nat} (e : lkp T C.ty = some (.d (.st n) eb E)) (hf : f < (C.S.fl n).length) (b off : Nat) :
    (Instr.fieldAt T (ptr b off) f).run P w = .ok (ptr b (off + szL (sz C.S dep) ((C.S.fl n).take f))) w := by
  obtain ⟨fs, h1, h2, h3⟩ := hT.st e
  obtain ⟨fd, h4, ⟨F⟩⟩ := h3 f _ (List.getElem?_eq_getElem hf)
  have hp : (fieldPlace ⟨b, off, none⟩ fd).run P w = .ok ⟨b, off + szL (sz C.S dep) ((C.S.fl n).take f), none⟩ w := by
    simp only [fieldPlace, Sem.run_bind, run_size F.data.hi, Result.andThen_ok]
    rw [if_neg (by rw [F.data.hs]; have := F.szp; omega), F.off, add_mk]
    rfl
  simp only [Instr.fieldAt, Sem.run_bind, run_underlying h1, Result.andThen_ok, h4, ptr, Instr.sureAddr, Sem.run_pure, hp]

theorem rowOf_of {m : Nat → Nat → Option (Obj' C.S.U)} {d j : Nat} {t : Ty} {xs : List (El C.S.U t)} (e : (∃ E, m d j = some (.row E t xs)) ∨ m d j = some (.srow t xs)) : rowOf m d j xs.length ∧ rowSz C.S m d j t := by
  rcases e with ⟨E, e⟩ | e
  · exact ⟨.inl ⟨E, t, xs, e, rfl⟩, .inl ⟨E, xs, e⟩⟩
  · exact ⟨.inr ⟨t, xs, e, rfl⟩, .inr ⟨xs, e⟩⟩

theorem rowOf_ty {m : Nat → Nat → Option (Obj' C.S.U)} {d j n : Nat} {t : Ty} (h : rowSz C.S m d j t) (hn : rowOf m d j n) : ∃ xs : List (El C.S.U t), ((∃ E, m d j = some (.row E t xs)) ∨ m d j = some (.srow t xs)) ∧ xs.length = n := by
  rcases h with ⟨E, xs, e⟩ | ⟨xs, e⟩
  · refine ⟨xs, .inl ⟨E, e⟩, ?_⟩
    rcases hn with ⟨_, _, ys, q, l⟩ | ⟨_, ys, q, l⟩
    · rw [e] at q; cases q; exact l
    · rw [e] at q; cases q
  · refine ⟨xs, .inr e, ?_⟩
    rcases hn with ⟨_, _, ys, q, l⟩ | ⟨_, ys, q, l⟩
    · rw [e] at q; cases q
    · rw [e] at q; cases q; exact l

theorem fieldAddrK_sound (hS : SgOk C.S) (hT : TyOk P C) {T f : Nat} {v : Value} {x : LV C.S.U} (hv : RepL g st.mem st.cnt v x) {R : LV C.S.U → Option ρ} {r : ρ} (h : fieldAddrK C T f x st R = some r) :
    ∃ u y, (Instr.fieldAt T v f).run P w = .ok u w ∧ R y = some r ∧ RepL g st.mem st.cnt u y := by
  unfold fieldAddrK at h
  split at h
  · rename_i n eb E eT
    cases eb' : Nat.blt f (C.S.fl n).length with
    | false => rw [eb'] at h; cases h
    | true =>
    rw [eb'] at h
    have hf : f < (C.S.fl n).length := by simpa using eb'
    simp only [cond_true] at h
    split at h
    · rename_i d j off
      obtain ⟨h1, b, hb, rfl⟩ := hv
      exact ⟨_, _, run_fieldAt hT eT hf b off, h, h1, b, hb, rfl⟩
    · rename_i m x
      cases q : Nat.beq n m with
      | false => rw [q] at h; cases h
      | true =>
        rw [q] at h
        have := Nat.eq_of_beq_eq_true q
        subst this
        obtain ⟨b, off, cs, rfl, h1, h2, h3⟩ := hv
        cases h3 with
        | st _ _ _ hh =>
        obtain ⟨t, y, k1, k2, k3, k4⟩ := fieldOf_sound hS _ _ _ f _ r hh h
        rw [seg_len h2] at k4
        refine ⟨_, _, run_fieldAt hT eT hf b off, k1, b, _, cs, rfl, h1, by omega, ?_⟩
        rw [seg_seg _ _ _ _ _ k4] at k3
        exact k3
    · rename_i d j i fs
      split at h
      · rename_i m hp
        cases q : Nat.beq n m with
        | false => rw [q] at h; cases h
        | true =>
          rw [q] at h
          have := Nat.eq_of_beq_eq_true q
          subst this
          obtain ⟨h1, h0, h2⟩ := hv
          have hty : ∃ t, rowSz C.S st.mem d j t ∧ pathTy C.S fs t = some (.st n) ∧ ∃ k, rowOf st.mem d j k := by
            split at hp
            · rename_i E' t xs e; exact ⟨t, .inl ⟨_, xs, e⟩, hp, _, .inl ⟨_, t, xs, e, rfl⟩⟩
            · rename_i t xs e; exact ⟨t, .inr ⟨xs, e⟩, hp, _, .inr ⟨t, xs, e, rfl⟩⟩
            · cases hp
          obtain ⟨t, ht, hpt, k, hk⟩ := hty
          obtain ⟨a1, a2, b, hb, rfl⟩ := h2 k t hk ht
          refine ⟨_, _, run_fieldAt hT eT hf b _, h, h1, ⟨_, _, rfl⟩, fun k' t' hk' ht' => ?_⟩
          obtain ⟨xs, e, l⟩ := rowOf_ty ht hk
          obtain ⟨xs', e', l'⟩ := rowOf_ty ht' hk'
          have htt : t' = t := by
            rcases e with ⟨_, e⟩ | e <;> rcases e' with ⟨_, e'⟩ | e' <;> rw [e] at e' <;> cases e' <;> rfl
          subst htt
          obtain ⟨c1, c2, b', hb', _⟩ := h2 k' t' hk' ht'
          refine ⟨c1, c2, b, hb, ?_⟩
          rw [offs_snoc C.S f n fs t' hpt, Nat.add_assoc]
      · cases h
    · cases h
  · cases h

/-- What a list reads as, in memory. -/
theorem RepV.list {M : Mm} {t : Ty} {v : Value} {l : List (El C.S.U t)} (h : RepV C.S M (.sl t) v l) : (l = [] ∧ ∃ q k, v = .slice q 0 k) ∨
    ∃ b off k cs, v = .slice (some ⟨b, off, none⟩) l.length k ∧ M b = some cs ∧ l.length ≤ k ∧ off + l.length * sz C.S dep t ≤ cs.size ∧ ∀ i (hi : i < l.length), RepC C.S M t (seg cs (off + i * sz C.S dep t) (sz C.S dep t)) l[i] := by
  have h := RepV.leaf rfl h
  cases h with
  | nil _ a c => exact .inl ⟨rfl, a, c, rfl⟩
  | sl _ b off c cs xs h1 h2 h3 h4 => exact .inr ⟨b, off, c, cs, rfl, h1, h2, h3, h4⟩

theorem run_indexAt {T E : Nat} (hd : P.underlying T = some (.slice E)) {i : TypeInfo} (hi : P.info? E = some i) (b off n k : Nat) (kk : IntKind) (ix : Int) (h0 : 0 ≤ ix) (h1 : ix < n) :
    (Instr.indexAt T (.slice (some ⟨b, off, none⟩) n k) (.int kk ix)).run P w = .ok (ptr b (off + ix.toNat * i.size)) w := by
  have he : P.elem T = E := by simp [Program.elem, hd]
  rw [run_indexAt_slice w T _ n k kk ix (by rw [he]; exact hd), if_pos ⟨h0, h1⟩, he, run_size hi]
  simp only [Result.andThen_ok, add_mk, ptr]

theorem arrK_at {U : Nat → Type} {s : Nat} {i : Int} {d j : Nat} {R : LV U → Option ρ} {r : ρ} : ∀ (n m off : Nat), arrK s i d j R n m off = some r → ∃ k : Nat, k < n ∧ i = ((m + k : Nat) : Int) ∧ R (.ref d j (off + k * s)) = some r
  | 0, _, _, h => by cases h
  | n + 1, m, off, h => by
    simp only [arrK] at h
    cases q : ieq i m with
    | true =>
      rw [q] at h
      refine ⟨0, Nat.succ_pos _, ?_, by simpa using h⟩
      unfold ieq at q
      simpa using q
    | false =>
      rw [q] at h
      obtain ⟨k, k1, k2, k3⟩ := arrK_at n (m + 1) (off + s) h
      refine ⟨k + 1, Nat.succ_lt_succ k1, by omega, ?_⟩
      rw [Nat.add_mul, Nat.one_mul, Nat.add_comm (k * s), ← Nat.add_assoc]
      exact k3

theorem run_indexArr {T E N : Nat} (hd : P.underlying T = some (.array N E)) {i : TypeInfo} (hi : P.info? E = some i) (b off : Nat) (kk : IntKind) (k : Nat) (h1 : k < N) :
    (Instr.indexAt T (ptr b off) (.int kk (k : Int))).run P w = .ok (ptr b (off + k * i.size)) w := by
  have he : P.elem T = E := by simp [Program.elem, hd]
  have hn : P.arrayLen T = N := by simp [Program.arrayLen, hd]
  unfold ptr
  rw [run_indexAt_array w T _ kk _ (by rw [he, hn]; exact hd), hn, if_pos ⟨by omega, by omega⟩, he, run_size hi]
  simp only [Result.andThen_ok, add_mk, Int.toNat_natCast]

theorem indexAddrK_sound (hT : TyOk P C) (hr : Rel c st a w g) {T : Nat} {v : Value} {x : LV C.S.U} (hv : RepL g st.mem st.cnt v x) {kk : IntKind} {ix : Int} {R : LV C.S.U → Option ρ} {r : ρ} (h : indexAddrK C T ix x st R = some r) :
    ∃ u y, (Instr.indexAt T v (.int kk ix)).run P w = .ok u w ∧ R y = some r ∧ RepL g st.mem st.cnt u y := by
  unfold indexAddrK at h
  split at h
  · rename_i t n E eT
    obtain ⟨⟨Eo⟩, hd, _⟩ := hT.arr eT
    split at h
    · rename_i d j off
      obtain ⟨h1, b, hb, rfl⟩ := hv
      obtain ⟨k, k1, rfl, k3⟩ := arrK_at _ _ _ h
      rw [Nat.zero_add]
      refine ⟨_, _, run_indexArr hd Eo.hi b off kk k k1, k3, h1, b, hb, ?_⟩
      rw [Eo.hs]
    · cases h
  · rename_i t eb E eT
    obtain ⟨hd, ⟨Eo⟩⟩ := hT.sl eT
    split at h
    · rename_i l hl
      split at h
      · rename_i d j hm
        split at hm
        · rename_i d' j'
          split at hm
          · rename_i E' u xs e
            cases hm
            obtain ⟨y, hy, h⟩ := Option.bind_eq_some_iff.1 h
            obtain ⟨h0, h1, hi, _⟩ := lat_some hy
            simp only [toData, e] at hl
            obtain ⟨e1, e2⟩ := castEl_some (U := C.S.U) (a := .sl u) hl
            cases e1
            have e2 : l = xs := e2
            subst e2
            obtain ⟨q1, q2⟩ := rowOf_of (C := C) (.inl ⟨E', e⟩)
            rcases hv.2.2 _ q1 with ⟨_, hn, _⟩ | ⟨b, hb, rfl⟩
            · omega
            · refine ⟨_, _, run_indexAt hd Eo.data.hi b 0 _ _ kk ix h0 h1, h, hv.1, ⟨_, _, rfl⟩, fun n t' hn ht' => ?_⟩
              obtain ⟨xs', e', l'⟩ := rowOf_ty ht' hn
              rcases e' with ⟨_, e'⟩ | e'
              · rw [e] at e'; cases e'
                exact ⟨h0, by omega, b, hb, by simp [offs, Eo.data.hs]⟩
              · rw [e] at e'; cases e'
          · cases hm
        · cases hm
      · rename_i hm
        obtain ⟨y, hy, h⟩ := Option.bind_eq_some_iff.1 h
        obtain ⟨h0, h1, hi, rfl⟩ := lat_some hy
        have hrd := Rd.of_rel hr hv (fun d j E' t' xs hx e => by subst hx; simp only [e] at hm; cases hm) _ _ hl
        rcases hrd.list with ⟨rfl, _⟩ | ⟨b, off, k, cs, rfl, k1, k2, k3, k4⟩
        · simp at h1; omega
        · have hsz : (ix.toNat + 1) * sz C.S dep t ≤ l.length * sz C.S dep t := Nat.mul_le_mul_right _ hi
          rw [Nat.add_mul, Nat.one_mul] at hsz
          exact ⟨_, _, run_indexAt hd Eo.data.hi b off _ _ kk ix h0 h1, h, b, _, cs, rfl, k1, by rw [Eo.data.hs]; omega, by rw [Eo.data.hs]; exact k4 _ hi⟩
    · cases h
  · cases h

theorem run_sliceBounds {S : Bool} (n cap : Nat) (lo hi : Option (IntKind × Int)) (hcap : n ≤ cap) {l h : Int} (hl : l = (lo.map (fun x => x.2)).getD 0) (hh : h = (hi.map (fun x => x.2)).getD (n : Int)) (h0 : 0 ≤ l) (h1 : l ≤ h) (h2 : h ≤ n) :
    (Instr.sliceBounds S n cap (lo.map fun x => .int x.1 x.2) (hi.map fun x => .int x.1 x.2) none).run P w = .ok (l.toNat, h.toNat, cap) w := by
  have hb : ∀ (k : IntKind) (i : Int) (y : Nat) (code : BoundsCode), 0 ≤ i → i ≤ y → (Instr.sliceBound (.int k i) y code).run P w = .ok i.toNat w := fun k i y code a b => by
    simp [Instr.sliceBound, asIntOf, a, b]
  cases lo with
  | none =>
    simp only [Option.map_none, Option.getD_none] at hl
    subst hl
    cases hi with
    | none =>
      simp only [Option.map_none, Option.getD_none] at hh
      subst hh
      simp [Instr.sliceBounds]
    | some x =>
      simp only [Option.map_some, Option.getD_some] at hh
      subst hh
      simp [Instr.sliceBounds, hb x.1 x.2 cap _ (by omega) (by omega)]
  | some y =>
    simp only [Option.map_some, Option.getD_some] at hl
    subst hl
    cases hi with
    | none =>
      simp only [Option.map_none, Option.getD_none] at hh
      subst hh
      simp [Instr.sliceBounds, hb y.1 y.2 n _ h0 h1]
    | some x =>
      simp only [Option.map_some, Option.getD_some] at hh
      subst hh
      simp [Instr.sliceBounds, hb x.1 x.2 cap _ (by omega) (by omega), hb y.1 y.2 x.2.toNat _ h0 (by omega)]

/-- The bounds that are given, as numbers. -/
theorem boundV_sound {x : Option (LV C.S.U)} {v : Option Value} (hv : match v, x with | some v, some x => RepL g st.mem st.cnt v x | none, none => True | _, _ => False) {n i : Int} (h : boundV C x n = some i) :
    ∃ o : Option (IntKind × Int), v = o.map (fun x => .int x.1 x.2) ∧ i = (o.map (fun x => x.2)).getD n := by
  unfold boundV at h
  split at h
  · cases h
    cases v with
    | none => exact ⟨none, rfl, rfl⟩
    | some v => exact hv.elim
  · rename_i k q
    have hq : i = q := (Option.some.inj h).symm
    cases v with
    | none => exact hv.elim
    | some v =>
      have := RepV.leaf (S := C.S) rfl (show RepV C.S g.M (.int k) v q from hv)
      have e : v = .int k q := by cases this; rfl
      exact ⟨some (k, q), by rw [e]; rfl, hq⟩
  · cases h

theorem ssub_some {s r : ByteArray} {l h : Int} (e : ssub s l h = some r) : 0 ≤ l ∧ l ≤ h ∧ h ≤ s.size ∧ r = s.extract l.toNat h.toNat := by
  unfold ssub at e
  split at e
  · rename_i q; cases e; exact ⟨q.1, q.2.1, q.2.2, rfl⟩
  · cases e
theorem lsub_some {α : Type} {l r : List α} {a b : Int} (e : lsub l a b = some r) : 0 ≤ a ∧ a ≤ b ∧ b ≤ l.length ∧ r = (l.take b.toNat).drop a.toNat := by
  unfold lsub at e
  split at e
  · rename_i q; cases e; exact ⟨q.1, q.2.1, q.2.2, rfl⟩
  · cases e

theorem sliceK_sound (hT : TyOk P C) (hr : Rel c st a w g) {T : Nat} {v : Value} {x : LV C.S.U} (hv : RepL g st.mem st.cnt v x) {lo hi : Option (LV C.S.U)} {vl vh : Option Value}
    (hl : match vl, lo with | some v, some x => RepL g st.mem st.cnt v x | none, none => True | _, _ => False) (hh : match vh, hi with | some v, some x => RepL g st.mem st.cnt v x | none, none => True | _, _ => False)
    {R : AV C.S.U → St C.S.U → Option ρ} {r : ρ} (h : sliceK C T x lo hi st R = some r) :
    ∃ u y st' g', (Instr.sliceAt T v vl vh none).run P w = .ok u w ∧ R y st' = some r ∧ Rel c st' a w g' ∧ RepA g' st'.mem st'.cnt u y ∧ Ext g g' st.cnt ∧ st'.cnt = st.cnt := by
  unfold sliceK at h
  split at h
  · rename_i eT
    have hd := hT.str eT
    split at h
    · rename_i s
      have hv := RepV.leaf (S := C.S) rfl (show RepV C.S g.M .str v s from hv)
      have ev : v = .string s := by cases hv; rfl
      subst ev
      split at h
      · rename_i i j ei ej
        obtain ⟨q, hq, h⟩ := Option.bind_eq_some_iff.1 h
        obtain ⟨h0, h1, h2, rfl⟩ := ssub_some hq
        obtain ⟨ol, rfl, e1⟩ := boundV_sound hl ei
        obtain ⟨oh, rfl, e2⟩ := boundV_sound hh ej
        have hb := run_sliceBounds (P := P) (w := w) (S := false) s.size s.size ol oh (Nat.le_refl _) e1 e2 h0 h1 h2
        refine ⟨_, _, st, g, ?_, h, hr, .inr ⟨rfl, .str _⟩, Ext.refl _ _, rfl⟩
        simp only [Instr.sliceAt, Sem.run_bind, run_underlying hd, Result.andThen_ok, Instr.slice, hb, Option.isSome_none, Bool.false_eq_true, if_false, Sem.run_pure]
      · cases h
    · cases h
  · rename_i t eb E eT
    obtain ⟨hd, ⟨Eo⟩⟩ := hT.sl eT
    split at h
    · rename_i l el
      split at h
      · rename_i i j ei ej
        obtain ⟨q, hq, h⟩ := Option.bind_eq_some_iff.1 h
        obtain ⟨h0, h1, h2, rfl⟩ := lsub_some hq
        obtain ⟨ol, rfl, e1⟩ := boundV_sound hl ei
        obtain ⟨oh, rfl, e2⟩ := boundV_sound hh ej
        obtain ⟨g', f1, f2, f3, f4⟩ := hr.frz hv
        have hrd := f4 _ _ el
        have hcnt := (frz_cnt st x).1
        have fin : ∀ (q : Option Addr) (k : Nat), v = .slice q l.length k → l.length ≤ k → RepC C.S g'.M (.sl t) [.slice (if k = i.toNat then q else q.map (·.add (i.toNat * sz C.S dep t))) (j.toNat - i.toNat) (k - i.toNat)] ((l.take j.toNat).drop i.toNat) →
            ∃ u y st' g', (Instr.sliceAt T v (ol.map fun x => .int x.1 x.2) (oh.map fun x => .int x.1 x.2) none).run P w = .ok u w ∧ R y st' = some r ∧ Rel c st' a w g' ∧ RepA g' st'.mem st'.cnt u y ∧ Ext g g' st.cnt ∧ st'.cnt = st.cnt := by
          rintro q k rfl hk hrep
          have hb := run_sliceBounds (P := P) (w := w) (S := true) l.length k ol oh hk e1 e2 h0 h1 h2
          refine ⟨_, _, _, g', ?_, h, f1, .inr ⟨rfl, hrep⟩, f2, hcnt⟩
          simp only [Instr.sliceAt, Sem.run_bind, run_underlying hd, Result.andThen_ok, Instr.slice, hb, run_size Eo.data.hi, Eo.data.hs, Sem.run_pure]
        rcases hrd.list with ⟨hnil, q, k, rfl⟩ | ⟨b, off, k, cs, rfl, k1, k2, k3, k4⟩
        · subst hnil
          refine fin q k rfl (by simp) ?_
          have h2 : j ≤ 0 := by simpa using h2
          have hj : j.toNat = 0 := by omega
          have hi : i.toNat = 0 := by omega
          rw [hj, hi]
          simp
          exact .nil t _ _
        · refine fin _ k rfl k2 ?_
          have hjn : j.toNat ≤ l.length := by omega
          have hlen : ((l.take j.toNat).drop i.toNat).length = j.toNat - i.toNat := by rw [List.length_drop, List.length_take]; omega
          by_cases hz : j.toNat - i.toNat = 0
          · have : (l.take j.toNat).drop i.toNat = [] := List.eq_nil_of_length_eq_zero (by omega)
            rw [this, hz]
            exact .nil t _ _
          · rw [if_neg (by omega), Option.map_some, add_mk]
            have hm : (i.toNat + (j.toNat - i.toNat)) * sz C.S dep t ≤ l.length * sz C.S dep t := Nat.mul_le_mul_right _ (by omega)
            rw [Nat.add_mul] at hm
            have key := RepC.sl (S := C.S) t b (off + i.toNat * sz C.S dep t) (k - i.toNat) cs ((l.take j.toNat).drop i.toNat) k1 (by rw [hlen]; omega) (by rw [hlen]; omega) (fun p hp => by
              rw [hlen] at hp
              have := k4 (i.toNat + p) (by omega)
              rw [Nat.add_mul, ← Nat.add_assoc] at this
              simpa [List.getElem_take, List.getElem_drop] using this)
            rw [hlen] at key
            exact key
      · cases h
    · cases h
  · cases h

theorem lenK_sound (hT : TyOk P C) (hr : Rel c st a w g) {T ty : Nat} {v : Value} {x : LV C.S.U} (hv : RepL g st.mem st.cnt v x) {R : LV C.S.U → Option ρ} {r : ρ} (h : lenK C T x st R = some r) :
    ∃ n, (Builtin.len_ #[T] ty #[v]).run P w = .ok (.int .i64 n) w ∧ R (.v (.int .i64) n) = some r := by
  unfold lenK at h
  split at h
  · rename_i s eT
    have hd := hT.str eT
    have hv := RepV.leaf (S := C.S) rfl (show RepV C.S g.M .str v s from hv)
    cases hv
    exact ⟨_, by simp [Builtin.len_, run_underlying hd, goInt, slen], h⟩
  · rename_i u _ _ t l eT
    obtain ⟨hd, _⟩ := hT.sl eT
    have hv : RepV C.S g.M (.sl t) v l := hv
    rcases hv.list with ⟨hl, q, k, rfl⟩ | ⟨b, off, k, cs, rfl, _⟩
    · subst hl; exact ⟨0, by simp [Builtin.len_, run_underlying hd, goInt], by simpa [llen] using h⟩
    · exact ⟨_, by simp [Builtin.len_, run_underlying hd, goInt, llen], h⟩
  · rename_i u _ _ eT
    obtain ⟨hd, _⟩ := hT.sl eT
    have hv : v = .slice none 0 0 := hv
    subst hv
    exact ⟨0, by simp [Builtin.len_, run_underlying hd, goInt], h⟩
  · rename_i u _ _ d j eT
    obtain ⟨hd, _⟩ := hT.sl eT
    have key : ∀ n, rowOf st.mem d j n → R (.v (.int .i64) (n : Int)) = some r → ∃ n, (Builtin.len_ #[T] ty #[v]).run P w = .ok (.int .i64 n) w ∧ R (.v (.int .i64) n) = some r := fun n hn h => by
      rcases hv.2.2 n hn with ⟨_, rfl, rfl⟩ | ⟨b, _, rfl⟩
      · exact ⟨0, by simp [Builtin.len_, run_underlying hd, goInt], by simpa using h⟩
      · exact ⟨n, by simp [Builtin.len_, run_underlying hd, goInt], h⟩
    split at h
    · rename_i E t l e; exact key _ (.inl ⟨E, t, l, e, rfl⟩) h
    · rename_i t l e; exact key _ (.inr ⟨t, l, e, rfl⟩) h
    · cases h
  · rename_i k e d j eT
    obtain ⟨i, _, hd⟩ := hT.m eT
    obtain ⟨_, b, hb, rfl⟩ := hv
    split at h
    · rename_i kt vt ks vs em
      obtain ⟨b', es, clock, h1, h2, h3, _⟩ := hr.objs d j _ em
      rw [hb] at h1; cases h1
      refine ⟨(ks.length : Int), ?_, h⟩
      have hl : es.size = ks.length := by rw [← Array.length_toList, h3.length]
      simp [Builtin.len_, run_underlying hd, getObj, Sem.run, h2, goInt, hl]
    · cases h
  · cases h
end
end Go.Proofs.YthmedjljckbidaaDoor.Lift
