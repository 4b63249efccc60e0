/- Loads, stores, new variables: the machine's and the evaluator's. Conditions: as each theorem states them. -/
import Derived.Test.YthmedjljckbidaaDoorLiftF
set_option linter.unusedVariables false
namespace Go.Proofs.YthmedjljckbidaaDoor.Lift
section
variable {P : Program} {C : Ctx} {c : Call} {st : St C.S.U} {a : Act} {w : World} {g : Gh} {ρ : Type}

theorem seg_get {cs : Array Value} {off n j : Nat} {v : Value} (h : (seg cs off n)[j]? = some v) : cs[off + j]? = some v := by
  unfold seg at h
  rw [List.getElem?_take] at h
  split at h
  · simpa using h
  · cases h
theorem seg_len {cs : Array Value} {off n : Nat} (h : off + n ≤ cs.size) : (seg cs off n).length = n := by
  unfold seg
  rw [List.length_take, List.length_drop, Array.length_toList]
  omega
theorem seg_seg (cs : Array Value) (off n o m : Nat) (h : o + m ≤ n) : ((seg cs off n).drop o).take m = seg cs (off + o) m := by
  unfold seg
  rw [List.drop_take, List.take_take, List.drop_drop]
  congr 1
  omega

/-- A load of a value that lies in a block. -/
theorem load_at {T : Nat} {t : Ty} (D : DataOk P C.S T t) {M : Mm} {b off : Nat} {cs : Array Value} {E : TypeId} {f : Nat × Nat} (hb : w.heap[b]? = some (.cells cs E f)) {x : El C.S.U t}
    (hl : off + sz C.S dep t ≤ cs.size) (hx : RepC C.S M t (seg cs off (sz C.S dep t)) x) : ∃ v, (loadVar T ⟨b, off, none⟩).run P w = .ok v w ∧ RepV C.S M t v x := by
  have hlen := seg_len hl
  cases ht : t.isSt with
  | true =>
    refine ⟨_, run_loadVar_agg D.hi D.hd (by rw [D.hagg, ht]) ⟨b, off, none⟩ (seg cs off (sz C.S dep t)) (by rw [hlen, D.hs]) (fun j v hv => ?_), .inl ⟨ht, _, rfl, by simpa using hx⟩⟩
    rw [add_mk, cell_of hb]; exact seg_get hv
  | false =>
    have h1 : ∃ v, seg cs off (sz C.S dep t) = [v] := by
      have : sz C.S dep t = 1 := by cases t <;> first | rfl | (simp [Ty.isSt] at ht)
      rw [this] at hlen ⊢
      exact List.length_eq_one_iff.1 hlen
    obtain ⟨v, hv⟩ := h1
    refine ⟨v, run_loadVar_one D.hd (by rw [D.hagg, ht]) _ v ?_, .inr ⟨ht, by rw [← hv]; exact hx⟩⟩
    rw [cell_of hb]
    have : (seg cs off (sz C.S dep t))[0]? = some v := by rw [hv]; rfl
    simpa using seg_get this

theorem followK_sound (hS : SgOk C.S) {M : Mm} : ∀ (fs : List Nat) (t : Ty) (cs : List Value) (y : El C.S.U t) (R : (t : Ty) → El C.S.U t → Option ρ) (r : ρ), RepC C.S M t cs y → followK C.S fs t y R = some r →
    ∃ u z, R u z = some r ∧ RepC C.S M u ((cs.drop (offs C.S fs t)).take (sz C.S dep u)) z ∧ offs C.S fs t + sz C.S dep u ≤ cs.length
  | [], t, cs, y, R, r, h, e => ⟨t, y, by simpa [followK] using e, by simpa [offs, ← h.len hS] using h, by simp [offs, h.len hS]⟩
  | f :: fs, .st n, cs, y, R, r, h, e => by
    simp only [followK] at e
    cases h with
    | st _ _ _ hh =>
    obtain ⟨t, x, e1, e2, e3, e4⟩ := fieldOf_sound hS _ cs _ f _ r hh e
    obtain ⟨u, z, k1, k2, k3⟩ := followK_sound hS fs t _ x R r e3 e1
    refine ⟨u, z, k1, ?_, ?_⟩
    · simp only [offs, e2, Option.getD_some]
      rw [List.length_take, List.length_drop] at k3
      rw [List.drop_take, List.drop_drop, List.take_take, Nat.min_eq_left (by omega)] at k2
      exact k2
    · simp only [offs, e2, Option.getD_some]
      rw [List.length_take, List.length_drop] at k3
      omega
  | _ :: _, .int _, _, _, _, _, _, e => by simp [followK] at e
  | _ :: _, .bool, _, _, _, _, _, e => by simp [followK] at e
  | _ :: _, .str, _, _, _, _, _, e => by simp [followK] at e
  | _ :: _, .sl _, _, _, _, _, _, e => by simp [followK] at e

theorem asT_sound (hT : TyOk P C) {T : Nat} {t : Ty} {y : El C.S.U t} {R : (t : Ty) → El C.S.U t → Option ρ} {r : ρ} (h : asT C T t y R = some r) : R t y = some r ∧ Nonempty (DataOk P C.S T t) := by
  unfold asT at h
  split at h
  · rename_i u _ _ e
    split at h
    · rename_i z hz
      obtain ⟨rfl, rfl⟩ := castEl_some hz
      exact ⟨h, hT.data e⟩
    · cases h
  · cases h

theorem lat_some {α : Type} {l : List α} {i : Int} {x : α} (h : lat l i = some x) : 0 ≤ i ∧ i < l.length ∧ ∃ hi : i.toNat < l.length, l[i.toNat] = x := by
  unfold lat at h
  split at h
  · rename_i h0
    obtain ⟨hi, e⟩ := List.getElem?_eq_some_iff.1 h
    exact ⟨h0, by omega, hi, e⟩
  · cases h

/-- An object that lies in memory, whether shared or not. -/
theorem Rel.rowAt (h : Rel c st a w g) {d j : Nat} {t : Ty} {xs : List (El C.S.U t)} (e : (∃ E, st.mem d j = some (.row E t xs)) ∨ st.mem d j = some (.srow t xs)) {b : Nat} (hb : g.β d j = some b) :
    ∃ vs E f, w.heap[b]? = some (.cells vs E f) ∧ RowC C.S g.M t vs xs := by
  rcases e with ⟨E, e⟩ | e
  · rcases h.objs d j _ e with ⟨q, _⟩ | ⟨b', vs, q, h1, _, _, _, h2, _⟩
    · rw [hb] at q; cases q
    · rw [hb] at q; cases q; exact ⟨vs, E, _, h1, h2⟩
  · rcases h.objs d j _ e with ⟨q, _⟩ | ⟨b', vs, q, h1, _, h2⟩
    · rw [hb] at q; cases q
    · rw [hb] at q; cases q
      obtain ⟨E, f, h3⟩ := h.agree b vs h1
      exact ⟨vs, E, f, h3, h2⟩

theorem ptr_inj {b o b' o' : Nat} (h : ptr b o = ptr b' o') : b = b' ∧ o = o' := by
  unfold ptr at h
  injection h with h
  injection h with h
  injection h with h1 h2
  exact ⟨h1, h2⟩

theorem loadK_sound (hS : SgOk C.S) (hT : TyOk P C) (hr : Rel c st a w g) {T : Nat} {v : Value} {x : LV C.S.U} (hv : RepL g st.mem st.cnt v x) {R : AV C.S.U → St C.S.U → Option ρ} {r : ρ} (h : loadK C T x st R = some r) :
    ∃ u y, (Instr.loadAt T v).run P w = .ok u w ∧ R y st = some r ∧ RepA g st.mem st.cnt u y := by
  have row : ∀ (d j : Nat) (i : Int) (fs : List Nat) (t : Ty) (xs : List (El C.S.U t)), RepL g st.mem st.cnt v (.rpt d j i fs) → ((∃ E, st.mem d j = some (.row E t xs)) ∨ st.mem d j = some (.srow t xs)) →
      ((lat xs i).bind fun y => followK C.S fs t y fun u z => asT C T u z fun u z => R (.l (.v u z)) st) = some r → ∃ u y, (Instr.loadAt T v).run P w = .ok u w ∧ R y st = some r ∧ RepA g st.mem st.cnt u y := by
    intro d j i fs t xs hv e h
    obtain ⟨y, hy, h⟩ := Option.bind_eq_some_iff.1 h
    obtain ⟨h0, h1, hi, rfl⟩ := lat_some hy
    have e1 : rowOf st.mem d j xs.length := by rcases e with ⟨E, e⟩ | e; exact .inl ⟨E, t, xs, e, rfl⟩; exact .inr ⟨t, xs, e, rfl⟩
    have e2 : rowSz C.S st.mem d j t := by rcases e with ⟨E, e⟩ | e; exact .inl ⟨E, xs, e⟩; exact .inr ⟨xs, e⟩
    obtain ⟨_, _, b, hb, rfl⟩ := hv.2.2 _ t e1 e2
    obtain ⟨vs, E, f, hh, hrow⟩ := hr.rowAt e hb
    have hx := hrow.2 i.toNat hi
    obtain ⟨u, z, k1, k2, k3⟩ := followK_sound hS fs t _ _ _ r hx h
    obtain ⟨k4, ⟨D⟩⟩ := asT_sound hT k1
    have hsz : (i.toNat + 1) * sz C.S dep t ≤ vs.size := Nat.le_trans (Nat.mul_le_mul_right _ hi) hrow.1
    have hsz2 : i.toNat * sz C.S dep t + sz C.S dep t ≤ vs.size := by rw [Nat.add_mul, Nat.one_mul] at hsz; exact hsz
    rw [seg_len hsz2] at k3
    rw [seg_seg _ _ _ _ _ k3] at k2
    obtain ⟨q, q1, q2⟩ := load_at D hh (by omega) k2
    exact ⟨q, .l (.v u z), by simp only [Instr.loadAt, ptr, Instr.sureAddr, Sem.run_bind, Sem.run_pure, Result.andThen_ok, q1], k4, q2⟩
  unfold loadK at h
  split at h
  · rename_i d j off
    obtain ⟨_, b, hb, rfl⟩ := hv
    split at h
    · rename_i cs e
      obtain ⟨b', E, vs, q1, q2, q3, q4⟩ := hr.objs d j _ e
      rw [hb] at q1; cases q1
      split at h
      · rename_i n _ _ eT
        obtain ⟨D⟩ := hT.data eT
        cases el : Nat.ble (off + sz C.S dep (.st n)) cs.length with
        | false => rw [el] at h; cases h
        | true =>
        rw [el] at h
        have el := Nat.le_of_ble_eq_true el
        have hlen := q3.length
        rw [Array.length_toList] at hlen
        have hL : ((vs.toList.drop off).take (sz C.S dep (.st n))).length = sz C.S dep (.st n) := by rw [List.length_take, List.length_drop, Array.length_toList]; omega
        refine ⟨.agg ((vs.toList.drop off).take (sz C.S dep (.st n))).toArray, _, ?_, h, _, rfl, (q3.drop off).take _, hL, fun u hu => q4 u (List.mem_of_mem_drop (List.mem_of_mem_take hu))⟩
        have := run_loadVar_agg (w := w) D.hi D.hd (by rw [D.hagg]; rfl) ⟨b, off, none⟩ ((vs.toList.drop off).take (sz C.S dep (.st n))) (by rw [hL, D.hs]) (fun i u hu => by rw [add_mk, cell_of q2]; exact seg_get (cs := vs) hu)
        simp only [Instr.loadAt, ptr, Instr.sureAddr, Sem.run_bind, Sem.run_pure, Result.andThen_ok, this]
      · cases h
      · cases h
      · cases h
      · rename_i ti hne hnn hnb hna eT
        split at h
        · rename_i y ey
          obtain ⟨u, u1, u2⟩ := q3.get off y ey
          have hag : ∃ dd, P.underlying T = some dd ∧ aggD dd = false := by
            cases ti with
            | d t eb E' =>
              obtain ⟨D⟩ := hT.data eT
              refine ⟨D.desc, D.hd, ?_⟩
              rw [D.hagg]
              cases t <;> first | rfl | exact absurd rfl (hne _ _ _)
            | o => obtain ⟨_, dd, _, h2, _, h3⟩ := hT.o eT; exact ⟨dd, h2, h3⟩
            | m k e => obtain ⟨_, _, h2⟩ := hT.m eT; exact ⟨_, h2, rfl⟩
            | n => exact absurd rfl hnn
            | b => exact absurd rfl hnb
            | a t n E => exact absurd rfl (hna _ _ _)
          obtain ⟨dd, hdd, hda⟩ := hag
          refine ⟨u, .l y, ?_, h, u2⟩
          have := run_loadVar_one (w := w) hdd hda ⟨b, off, none⟩ u (by rw [cell_of q2]; simpa using u1)
          simp only [Instr.loadAt, ptr, Instr.sureAddr, Sem.run_bind, Sem.run_pure, Result.andThen_ok, this]
        · cases h
      · cases h
    · cases h
  · rename_i t y
    obtain ⟨b, off, cs, rfl, h1, h2, h3⟩ := hv
    obtain ⟨k1, ⟨D⟩⟩ := asT_sound hT h
    obtain ⟨E, f, h4⟩ := hr.agree b cs h1
    obtain ⟨q, q1, q2⟩ := load_at D h4 h2 h3
    exact ⟨q, .l (.v t y), by simp only [Instr.loadAt, ptr, Instr.sureAddr, Sem.run_bind, Sem.run_pure, Result.andThen_ok, q1], k1, q2⟩
  · rename_i d j i fs
    split at h
    · rename_i E t xs e; exact row d j i fs t xs hv (.inl ⟨E, e⟩) h
    · rename_i t xs e; exact row d j i fs t xs hv (.inr e) h
    · cases h
  · cases h

/-! ### Cells to be stored -/
theorem cellV_sound {v : Value} {x y : LV C.S.U} (hv : RepL g st.mem st.cnt v x) (h : cellV x = some y) : RepL g st.mem st.cnt v y ∧ v.cells = #[v] ∧ v.oneCell' = true := by
  have one : v.oneCell' = true → v.cells = #[v] ∧ v.oneCell' = true := fun h1 => ⟨by cases v <;> first | rfl | (simp [Value.oneCell'] at h1), h1⟩
  cases x with
  | v t x =>
    have key : t.isSt = false → RepL g st.mem st.cnt v (.v t x) ∧ v.cells = #[v] ∧ v.oneCell' = true := fun ht => ⟨hv, one ((RepV.leaf ht hv).one v (by simp))⟩
    cases t with
    | st n => cases h
    | _ => cases h; exact key rfl
  | tb d j b => cases h; obtain ⟨rfl, _⟩ := hv; exact ⟨.inr ⟨rfl, .bool b⟩, one rfl⟩
  | bl b => cases h; have hv : v = .bool b := hv; subst hv; exact ⟨rfl, one rfl⟩
  | nils => cases h; have hv : v = .slice none 0 0 := hv; subst hv; exact ⟨rfl, one rfl⟩
  | row d j => cases h; obtain ⟨h1, ⟨q, k, l, rfl⟩, h2⟩ := hv; exact ⟨⟨h1, ⟨q, k, l, rfl⟩, h2⟩, one rfl⟩
  | ref d j o => cases h; obtain ⟨h1, b, h2, rfl⟩ := hv; exact ⟨⟨h1, b, h2, rfl⟩, one rfl⟩
  | clo f cs => cases h; obtain ⟨us, rfl, h2⟩ := hv; exact ⟨⟨us, rfl, h2⟩, one rfl⟩
  | pt t x => cases h; obtain ⟨b, off, cs, rfl, h2⟩ := hv; exact ⟨⟨b, off, cs, rfl, h2⟩, one rfl⟩
  | mp d j => cases h; obtain ⟨h1, b, h2, rfl⟩ := hv; exact ⟨⟨h1, b, h2, rfl⟩, one rfl⟩
  | _ => cases h
end
end Go.Proofs.YthmedjljckbidaaDoor.Lift
