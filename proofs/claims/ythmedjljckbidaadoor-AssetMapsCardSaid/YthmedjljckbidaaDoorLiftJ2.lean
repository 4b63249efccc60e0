/- Maps of the call's own: the machine's and the evaluator's. Conditions: as each theorem states them. -/
import Derived.Test.YthmedjljckbidaaDoorLiftJ
import Derived.MapKept
set_option linter.unusedVariables false
namespace Go.Proofs.YthmedjljckbidaaDoor.Lift
open Go.MapKept (IsKey heap_set)
section
variable {P : Program} {C : Ctx} {c : Call} {st : St C.S.U} {a : Act} {w : World} {g : Gh} {ρ : Type}

theorem ba_toList (a : ByteArray) : a.toList = a.data.toList := by
  have go : ∀ (n i : Nat) (l : List UInt8), a.size - i = n → ByteArray.toList.loop a i l = l.reverse ++ a.data.toList.drop i := by
    intro n
    induction n with
    | zero =>
      intro i l h
      rw [ByteArray.toList.loop]
      have h1 : ¬ i < a.size := by omega
      have h2 : a.data.toList.length ≤ i := by rw [Array.length_toList]; exact Nat.not_lt.1 h1
      rw [if_neg h1, List.drop_eq_nil_of_le h2, List.append_nil]
    | succ n ih =>
      intro i l h
      rw [ByteArray.toList.loop]
      have h1 : i < a.size := by omega
      have h2 : i < a.data.toList.length := by rw [Array.length_toList]; exact h1
      rw [if_pos h1, ih (i + 1) _ (by omega), List.drop_eq_getElem_cons h2]
      have : a.get! i = a.data.toList[i] := by
        show a.data[i]! = _
        rw [getElem!_pos a.data i h1]
        simp
      rw [this]
      simp
  exact go _ 0 [] rfl
theorem seq_iff (a b : ByteArray) : seq a b = true ↔ a = b := by
  unfold seq
  constructor
  · intro h
    have h : a.toList = b.toList := by simpa using h
    rw [ba_toList, ba_toList] at h
    obtain ⟨x⟩ := a
    obtain ⟨y⟩ := b
    have : x = y := Array.ext' h
    rw [this]
  · rintro rfl; simp

theorem key_is {M : Mm} {kt : Ty} {d : TypeDesc} {E : Nat} (hd : descIs d kt E = true) {eq : El C.S.U kt → El C.S.U kt → Bool} (he : keyEq C.S.U kt = some eq) {v : Value} {x : El C.S.U kt} (h : RepV C.S M kt v x) : IsKey d v := by
  cases kt with
  | int k =>
    have h := RepV.leaf (S := C.S) rfl h
    cases h
    cases d <;> simp [descIs] at hd
    subst hd
    simp [IsKey]
  | bool =>
    have h := RepV.leaf (S := C.S) rfl h
    cases h
    cases d <;> simp [descIs] at hd
    simp [IsKey]
  | str =>
    have h := RepV.leaf (S := C.S) rfl h
    cases h
    cases d <;> simp [descIs] at hd
    simp [IsKey]
  | sl t => cases he
  | st n => cases he

theorem key_same {M : Mm} {kt : Ty} {eq : El C.S.U kt → El C.S.U kt → Bool} (he : keyEq C.S.U kt = some eq) {u v : Value} {x y : El C.S.U kt} (h : RepV C.S M kt u x) (h' : RepV C.S M kt v y) : eq x y = true ↔ u = v := by
  cases kt with
  | int k =>
    have h := RepV.leaf (S := C.S) rfl h
    have h' := RepV.leaf (S := C.S) rfl h'
    cases he
    cases h; cases h'
    simp [ieq]
  | bool =>
    have h := RepV.leaf (S := C.S) rfl h
    have h' := RepV.leaf (S := C.S) rfl h'
    cases he
    cases h; cases h'
    simp
  | str =>
    have h := RepV.leaf (S := C.S) rfl h
    have h' := RepV.leaf (S := C.S) rfl h'
    cases he
    cases h; cases h'
    rw [seq_iff]; simp
  | sl t => cases he
  | st n => cases he

/-- What a search among the entries finds. -/
theorem find_rep {M : Mm} {kt vt : Ty} {dk : TypeDesc} {E : Nat} (hd : descIs dk kt E = true) {eq : El C.S.U kt → El C.S.U kt → Bool} (he : keyEq C.S.U kt = some eq) {vk : Value} {y : El C.S.U kt} (hk : RepV C.S M kt vk y) :
    ∀ (es : List MapEntry) (ks : List (El C.S.U kt)) (vs : List (El C.S.U vt)) (i : Nat), All2 (fun (e : MapEntry) (x : El C.S.U kt) => RepV C.S M kt e.key x) es ks → All2 (fun (e : MapEntry) (x : El C.S.U vt) => RepV C.S M vt e.val x) es vs →
    (Instr.findNow dk vk es i = some none ∧ mget eq ks vs y = none ∧ mputK eq ks y = ks ++ [y] ∧ (∀ z, mputV eq ks vs y z = vs ++ [z]) ∧ mdelK eq ks y = ks ∧ mdelV eq ks vs y = vs) ∨
    ∃ j e, Instr.findNow dk vk es i = some (some (i + j, e.val)) ∧ es[j]? = some e ∧ e.key = vk ∧ (∃ v, mget eq ks vs y = some v ∧ RepV C.S M vt e.val v) ∧ mputK eq ks y = ks ∧ (∀ z, mputV eq ks vs y z = vs.set j z) ∧ mdelK eq ks y = ks.eraseIdx j ∧ mdelV eq ks vs y = vs.eraseIdx j
  | [], _, _, i, .nil, .nil => .inl ⟨rfl, rfl, rfl, fun _ => rfl, rfl, rfl⟩
  | e :: es, k :: ks, v :: vs, i, .cons h1 t1, .cons h2 t2 => by
    obtain ⟨b, hb, hiff⟩ := MapKept.sameNow_of_keys (key_is hd he hk) (key_is hd he h1)
    have hs : eq y k = b := by
      have := key_same he hk h1
      cases hq : eq y k <;> cases b <;> simp_all
    cases b with
    | true => exact .inr ⟨0, e, by simp [Instr.findNow, hb], rfl, (hiff.1 rfl).symm, ⟨v, by simp [mget, hs], h2⟩, by simp [mputK, hs], fun z => by simp [mputV, hs], by simp [mdelK, hs], by simp [mdelV, hs]⟩
    | false =>
      rcases find_rep hd he hk es ks vs (i + 1) t1 t2 with ⟨q1, q2, q3, q4, q5, q6⟩ | ⟨j, e', q1, q2, q3, ⟨v', q4, q5⟩, q6, q7, q8, q9⟩
      · exact .inl ⟨by simp [Instr.findNow, hb, q1], by simp [mget, hs, q2], by simp [mputK, hs, q3], fun z => by simp [mputV, hs, q4], by simp [mdelK, hs, q5], by simp [mdelV, hs, q6]⟩
      · exact .inr ⟨j + 1, e', by simp [Instr.findNow, hb, q1]; omega, by simpa using q2, q3, ⟨v', by simp [mget, hs, q4], q5⟩, by simp [mputK, hs, q6], fun z => by simp [mputV, hs, q7], by simp [mdelK, hs, q8], by simp [mdelV, hs, q9]⟩

/-- A key, the map's types. -/
structure MapAt (P : Program) (C : Ctx) (g : Gh) (T : Nat) (key : Value) (kt vt : Ty) (eq : El C.S.U kt → El C.S.U kt → Bool) (y : El C.S.U kt) where
  k : Nat
  e : Nat
  dk : TypeDesc
  E : Nat
  eb2 : Nat
  E2 : Nat
  eT : lkp T C.ty = some (.m k e)
  ee : lkp e C.ty = some (.d vt eb2 E2)
  und : P.underlying T = some (.map k e)
  undk : P.underlying k = some dk
  desc : descIs dk kt E = true
  he : keyEq C.S.U kt = some eq
  rep : RepV C.S g.M kt key y

theorem data_flat (hr : Rel c st a w g) {kt : Ty} {eq : El C.S.U kt → El C.S.U kt → Bool} (he : keyEq C.S.U kt = some eq) {v : Value} {x : LV C.S.U} (hv : RepL g st.mem st.cnt v x) {y : El C.S.U kt} (h : toData st kt x = some y) : RepV C.S g.M kt v y := by
  refine Rd.of_rel hr hv (fun d j E t xs e => ?_) kt y h
  subst e
  intro em
  simp only [toData, em] at h
  obtain ⟨q, _⟩ := castEl_some h
  subst q
  cases he

theorem withMap_inv (hT : TyOk P C) (hr : Rel c st a w g) {T : Nat} {vx vk : Value} {x key : LV C.S.U} (hx : RepL g st.mem st.cnt vx x) (hk : RepL g st.mem st.cnt vk key)
    {R : (d j : Nat) → (kt vt : Ty) → (El C.S.U kt → El C.S.U kt → Bool) → List (El C.S.U kt) → List (El C.S.U vt) → El C.S.U kt → Option ρ} {r : ρ} (h : withMap C T x key st R = some r) :
    ∃ d j b kt vt eq ks vs y, x = .mp d j ∧ j ≤ st.cnt d ∧ vx = .map (some b) ∧ g.β d j = some b ∧ st.mem d j = some (.map kt vt ks vs) ∧ Nonempty (MapAt P C g T vk kt vt eq y) ∧ R d j kt vt eq ks vs y = some r := by
  unfold withMap at h
  split at h
  · rename_i k e eT
    split at h
    · rename_i kt eb1 E1 vt eb2 E2 ek ee
      split at h
      · rename_i d j
        obtain ⟨hj, b, hb, rfl⟩ := hx
        split at h
        · rename_i kt' vt' ks vs em
          cases q1 : decide (kt' = kt) with
          | false => rw [q1] at h; simp at h
          | true =>
          cases q2 : decide (vt' = vt) with
          | false => rw [q2] at h; simp at h
          | true =>
          rw [q1, q2] at h
          simp only [Bool.and_self, cond_true] at h
          have q1 := of_decide_eq_true q1
          have q2 := of_decide_eq_true q2
          subst q1; subst q2
          split at h
          · rename_i eq y he hy
            obtain ⟨dk, hdk, hdi⟩ := hT.desc ek
            obtain ⟨_, _, hu⟩ := hT.m eT
            exact ⟨d, j, b, _, _, eq, ks, vs, y, rfl, hj, rfl, hb, em, ⟨{ k := k, e := e, dk := dk, E := _, eb2 := _, E2 := _, eT := eT, ee := ee, und := hu, undk := hdk, desc := hdi, he := he, rep := data_flat hr he hk hy }⟩, h⟩
          · cases h
        · cases h
      · cases h
    · cases h
  · cases h

theorem makeMapK_sound (hT : TyOk P C) (hr : Rel c st a w g) {T : Nat} {dst : Option Nat} {vn : Option Value} {n : Option (LV C.S.U)} (hn : ∀ x, n = some x → ∃ v, vn = some v ∧ RepL g st.mem st.cnt v x) (hn0 : n = none → vn = none) {R : AV C.S.U → St C.S.U → Option ρ} {r : ρ} (h : makeMapK C T dst n st R = some r) :
    ∃ z st' g' w', (Instr.makeMap T vn).run P w = .ok (.map (some w.heap.size)) w' ∧ R z st' = some r ∧ Rel c st' a w' g' ∧ RepA g' st'.mem st'.cnt (.map (some w.heap.size)) z ∧ Ext g g' st.cnt ∧ ∀ d, st.cnt d ≤ st'.cnt d := by
  unfold makeMapK at h
  split at h
  · rename_i k e eT
    obtain ⟨_, _, hu⟩ := hT.m eT
    split at h
    · rename_i kt _ _ vt _ _ ek ee
      cases hi : isIntO n with
      | false => rw [hi] at h; cases h
      | true =>
      rw [hi] at h
      simp only [cond_true] at h
      unfold newK at h
      split at h
      · cases h
      · rename_i d
        have hg := Ext.new g st.cnt d (some w.heap.size) 0
        have hc := cnt_le st.cnt d
        have hβ : (g.new d (st.cnt d + 1) (some w.heap.size) 0).β d (st.cnt d + 1) = some w.heap.size := upd2_same _ _ _ _
        refine ⟨_, _, _, w.alloc (.map #[] 0), ?_, h, hr.newO d (.map kt vt [] []) (some w.heap.size) 0 (Grow.alloc w _) (fun b e => by cases e; exact Nat.le_refl _) ⟨w.heap.size, #[], 0, hβ, heap_alloc_new w _, .nil, .nil⟩, ⟨?_, _, hβ, rfl⟩, hg, hc⟩
        · cases n with
          | none =>
            rw [hn0 rfl]
            rfl
          | some x =>
            obtain ⟨v, rfl, hv⟩ := hn x rfl
            unfold isIntO at hi
            split at hi
            · rename_i q; cases q
            · rename_i k' m q
              cases q
              have hv := RepL.int hv
              subst hv
              simp [Instr.makeMap, run_underlying hu, asInt, asIntOf, newObj, Sem.run]
            · cases hi
        · show _ ≤ upd st.cnt d (st.cnt d + 1) d
          rw [upd_same]; exact Nat.le_refl _
    · cases h
  · cases h

theorem lookupK_sound (hS : SgOk C.S) (hT : TyOk P C) (hr : Rel c st a w g) {T : Nat} {ok : Bool} {vx vk : Value} {x key : LV C.S.U} (hx : RepL g st.mem st.cnt vx x) (hk : RepL g st.mem st.cnt vk key) {R : AV C.S.U → St C.S.U → Option ρ} {r : ρ} (h : lookupK C T ok x key st R = some r) :
    ∃ u z, (Instr.lookup T vx vk ok).run P w = .ok u w ∧ R z st = some r ∧ RepA g st.mem st.cnt u z := by
  unfold lookupK at h
  obtain ⟨d, j, b, kt, vt, eq, ks, vs, y, rfl, hj, rfl, hb, em, ⟨A⟩, h⟩ := withMap_inv hT hr hx hk h
  obtain ⟨b', es, clock, q1, q2, q3, q4⟩ := hr.objs d j _ em
  rw [hb] at q1; cases q1
  have hik := key_is A.desc A.he A.rep
  split at h
  · rename_i z ez
    obtain ⟨D⟩ := hT.data A.ee
    have hz : RepV C.S g.M vt D.zv z := RepV.of_cells (by rw [D.hzc]; exact zvals_zero hS _ _ _ ez) ⟨fun ⟨cs, e⟩ => by rw [← D.hza, e]; rfl, fun e => by rw [← D.hza] at e; cases hq : D.zv <;> rw [hq] at e <;> first | exact ⟨_, rfl⟩ | cases e⟩
    have fin : ∀ (u : Value) (v : El C.S.U vt) (o : Bool), RepV C.S g.M vt u v → (Instr.lookup T (.map (some b)) vk ok).run P w = .ok (if ok then .tuple #[u, .bool o] else u) w → (mget eq ks vs y).getD z = v → (mget eq ks vs y).isSome = o →
        ∃ u z, (Instr.lookup T (.map (some b)) vk ok).run P w = .ok u w ∧ R z st = some r ∧ RepA g st.mem st.cnt u z := fun u v o hu hrun e1 e2 => by
      rw [e1, e2] at h
      cases ok with
      | true => exact ⟨_, _, hrun, h, ⟨[u, .bool o], rfl, .cons hu (.cons (rep_bool (st := st) o) .nil)⟩⟩
      | false => exact ⟨_, _, hrun, h, hu⟩
    rcases find_rep A.desc A.he A.rep es.toList ks vs 0 q3 q4 with ⟨f1, f2, _⟩ | ⟨i, e, f1, f2, f3, ⟨v, f4, f5⟩, _⟩
    · refine fin D.zv z false hz ?_ (by rw [f2]; rfl) (by rw [f2]; rfl)
      simp [Instr.lookup, run_underlying A.und, MapKept.run_getObj_map q2, MapKept.run_checkKey A.undk hik, MapKept.run_findKey A.undk f1, run_zero D.hi D.hz]
    · refine fin e.val v true f5 ?_ (by rw [f4]; rfl) (by rw [f4]; rfl)
      simp [Instr.lookup, run_underlying A.und, MapKept.run_getObj_map q2, MapKept.run_checkKey A.undk hik, MapKept.run_findKey A.undk f1]
  · cases h

theorem Rel.turnMap (hr : Rel c st a w g) {d j b : Nat} {kt vt : Ty} {ks : List (El C.S.U kt)} {vs : List (El C.S.U vt)} {es : Array MapEntry} {clock : Nat} (em : st.mem d j = some (.map kt vt ks vs)) (hb : g.β d j = some b) (q2 : w.heap[b]? = some (.map es clock))
    {ks' : List (El C.S.U kt)} {vs' : List (El C.S.U vt)} {es' : Array MapEntry} {clock' : Nat} (h1 : All2 (fun (e : MapEntry) (x : El C.S.U kt) => RepV C.S g.M kt e.key x) es'.toList ks') (h2 : All2 (fun (e : MapEntry) (x : El C.S.U vt) => RepV C.S g.M vt e.val x) es'.toList vs') :
    Rel c { st with mem := upd2 st.mem d j (some (.map kt vt ks' vs')) } a { w with heap := w.heap.setIfInBounds b (.map es' clock') } g :=
  hr.turn em rfl hb (.map kt vt ks' vs') (w' := { w with heap := w.heap.setIfInBounds b (.map es' clock') }) ⟨rfl, rfl, rfl, by simp, fun k hk => (heap_set q2).2 k hk⟩ (Memle.map _ _ _ _ _ _ _ _) ⟨b, es', clock', hb, (heap_set q2).1, h1, h2⟩

theorem All2.modify {α β : Type} {R : α → β → Prop} {f : α → α} : ∀ {l : List α} {k : List β}, All2 R l k → ∀ (j : Nat), (∀ e x, l[j]? = some e → k[j]? = some x → R (f e) x) → All2 R (l.modify j f) k
  | [], _, .nil, _, _ => by simp; exact .nil
  | e :: l, x :: k, .cons h t, 0, q => by simp; exact .cons (q e x rfl rfl) t
  | e :: l, x :: k, .cons h t, j + 1, q => by simp; exact .cons h (All2.modify t j (fun e x p p' => q e x (by simpa using p) (by simpa using p')))
theorem All2.modify_set {α β : Type} {R : α → β → Prop} {f : α → α} {z : β} : ∀ {l : List α} {k : List β}, All2 R l k → ∀ (j : Nat), (∀ e, l[j]? = some e → R (f e) z) → All2 R (l.modify j f) (k.set j z)
  | [], _, .nil, _, _ => by simp; exact .nil
  | e :: l, x :: k, .cons h t, 0, q => by simp; exact .cons (q e rfl) t
  | e :: l, x :: k, .cons h t, j + 1, q => by simp; exact .cons h (All2.modify_set t j (fun e p => q e (by simpa using p)))
theorem All2.eraseIdx {α β : Type} {R : α → β → Prop} : ∀ {l : List α} {k : List β}, All2 R l k → ∀ (j : Nat), All2 R (l.eraseIdx j) (k.eraseIdx j)
  | [], _, .nil, _ => by simp; exact .nil
  | e :: l, x :: k, .cons h t, 0 => by simp; exact t
  | e :: l, x :: k, .cons h t, j + 1 => by simp; exact .cons h (All2.eraseIdx t j)

theorem frz_mapO (st : St C.S.U) (x : LV C.S.U) {d j : Nat} {kt vt : Ty} {ks : List (El C.S.U kt)} {vs : List (El C.S.U vt)} (em : st.mem d j = some (.map kt vt ks vs)) : (frz st x).mem d j = some (.map kt vt ks vs) := by
  unfold frz
  split
  · rename_i d' j'
    split
    · rename_i E u xs e
      show upd2 st.mem d' j' (some (.srow u xs)) d j = _
      rw [upd2_other _ _ _ _ (fun q => by rw [q.1, q.2, e] at em; cases em)]
      exact em
    · exact em
  · exact em
theorem frzL_mapO : ∀ (xs : List (LV C.S.U)) (st : St C.S.U) {d j : Nat} {kt vt : Ty} {ks : List (El C.S.U kt)} {vs : List (El C.S.U vt)}, st.mem d j = some (.map kt vt ks vs) → (frzL xs st).mem d j = some (.map kt vt ks vs)
  | [], _, _, _, _, _, _, _, em => em
  | x :: xs, st, _, _, _, _, _, _, em => frzL_mapO xs _ (frz_mapO st x em)
theorem frzA_mapO (st : St C.S.U) (x : AV C.S.U) {d j : Nat} {kt vt : Ty} {ks : List (El C.S.U kt)} {vs : List (El C.S.U vt)} (em : st.mem d j = some (.map kt vt ks vs)) : (frzA st x).mem d j = some (.map kt vt ks vs) := by
  cases x with
  | l x => exact frz_mapO st x em
  | tup xs => exact em
  | ifv T x => exact frz_mapO st x em
  | ag n cs => exact frzL_mapO cs st em

theorem insertK_sound (hS : SgOk C.S) (hT : TyOk P C) (hr : Rel c st a w g) {T : Nat} {vx vk vv : Value} {x key : LV C.S.U} {v : AV C.S.U} (hx : RepL g st.mem st.cnt vx x) (hk : RepL g st.mem st.cnt vk key) (hv : RepA g st.mem st.cnt vv v) {R : AV C.S.U → St C.S.U → Option ρ} {r : ρ} (h : insertK C T x key v st R = some r) :
    ∃ st' g' w', (Instr.mapUpdate T vx vk vv).run P w = .ok () w' ∧ R (.l .und) st' = some r ∧ Rel c st' a w' g' ∧ Ext g g' st.cnt ∧ st'.cnt = st.cnt := by
  unfold insertK at h
  obtain ⟨d, j, b, kt, vt, eq, ks, vs, y, rfl, hj, rfl, hb, em, ⟨A⟩, h⟩ := withMap_inv hT hr hx hk h
  split at h
  · rename_i z ez
    obtain ⟨g', f1, f2, _, f4⟩ := hr.frzA hS hv
    have hz : RepV C.S g'.M vt vv z := f4 vt z ez
    have em' := frzA_mapO st v em
    have hb' : g'.β d j = some b := (f2.β d j hj).trans hb
    obtain ⟨b', es, clock, q1, q2, q3, q4⟩ := f1.objs d j _ em'
    rw [hb'] at q1; cases q1
    have hik := key_is A.desc A.he A.rep
    have hc := (frzA_cnt st v).1
    rcases find_rep A.desc A.he (A.rep.mono f2.M) es.toList ks vs 0 q3 q4 with ⟨k1, k2, k3, k4, _⟩ | ⟨i, e, k1, k2, k3, _, k5, k6, _⟩
    · rw [k3, k4 z] at h
      refine ⟨_, g', _, ?_, h, f1.turnMap em' hb' q2 (es' := es.push { key := vk, val := vv, born := clock }) (clock' := clock + 1) ?_ ?_, f2, hc⟩
      · simp [Instr.mapUpdate, run_underlying A.und, MapKept.run_getObj_map q2, MapKept.run_checkKey A.undk hik, MapKept.run_findKey A.undk k1, MapKept.run_setObj_map _ q2]
      · rw [Array.toList_push]; exact q3.append (.cons (A.rep.mono f2.M) .nil)
      · rw [Array.toList_push]; exact q4.append (.cons hz .nil)
    · rw [k5, k6 z] at h
      have hi : es[i]? = some e := by simpa using k2
      refine ⟨_, g', _, ?_, h, f1.turnMap em' hb' q2 (es' := es.modify i fun e => { e with key := vk, val := vv }) (clock' := clock) ?_ ?_, f2, hc⟩
      · simp [Instr.mapUpdate, run_underlying A.und, MapKept.run_getObj_map q2, MapKept.run_checkKey A.undk hik, MapKept.run_findKey A.undk k1, hi, k3, MapKept.run_keyThatStays hik, MapKept.run_setObj_map _ q2]
      · rw [Array.toList_modify]
        refine q3.modify i fun e' x p p' => ?_
        obtain ⟨e'', r1, r2⟩ := q3.get i x p'
        rw [p] at r1; cases r1
        rw [k2] at p; cases p
        show RepV C.S g'.M kt vk x
        rw [← k3]; exact r2
      · rw [Array.toList_modify]
        exact q4.modify_set i fun e' p => hz
  · cases h

theorem deleteK_sound (hT : TyOk P C) (hr : Rel c st a w g) {T ty : Nat} {ts : Array TypeId} {vx vk : Value} {x key : LV C.S.U} (ht : ts[0]? = some T) (hx : RepL g st.mem st.cnt vx x) (hk : RepL g st.mem st.cnt vk key) {R : AV C.S.U → St C.S.U → Option ρ} {r : ρ} (h : deleteK C T x key st R = some r) :
    ∃ st' w', (Builtin.delete_ ts ty #[vx, vk]).run P w = .ok (.tuple #[]) w' ∧ R (.l .junk) st' = some r ∧ Rel c st' a w' g ∧ st'.cnt = st.cnt := by
  unfold deleteK at h
  obtain ⟨d, j, b, kt, vt, eq, ks, vs, y, rfl, hj, rfl, hb, em, ⟨A⟩, h⟩ := withMap_inv hT hr hx hk h
  obtain ⟨b', es, clock, q1, q2, q3, q4⟩ := hr.objs d j _ em
  rw [hb] at q1; cases q1
  have hik := key_is A.desc A.he A.rep
  rcases find_rep A.desc A.he A.rep es.toList ks vs 0 q3 q4 with ⟨k1, k2, k3, k4, k5, k6⟩ | ⟨i, e, k1, k2, k3, _, k5, k6, k7, k8⟩
  · rw [k5, k6] at h
    refine ⟨_, _, ?_, h, hr.turnMap em hb q2 (es' := es) (clock' := clock) q3 q4, rfl⟩
    simp [Builtin.delete_, ht, run_underlying A.und, MapKept.run_getObj_map q2, MapKept.run_checkKey A.undk hik, MapKept.run_findKey A.undk k1, MapKept.run_setObj_map _ q2]
  · rw [k7, k8] at h
    have hi : es[i]? = some e := by simpa using k2
    have hlt : i < es.size := (Array.getElem?_eq_some_iff.1 hi).1
    have he : (es.eraseIdxIfInBounds i).toList = es.toList.eraseIdx i := by
      unfold Array.eraseIdxIfInBounds
      rw [dif_pos hlt, Array.toList_eraseIdx]
    refine ⟨_, _, ?_, h, hr.turnMap em hb q2 (es' := es.eraseIdxIfInBounds i) (clock' := clock) ?_ ?_, rfl⟩
    · simp [Builtin.delete_, ht, run_underlying A.und, MapKept.run_getObj_map q2, MapKept.run_checkKey A.undk hik, MapKept.run_findKey A.undk k1, MapKept.run_setObj_map _ q2]
    · rw [he]; exact q3.eraseIdx i
    · rw [he]; exact q4.eraseIdx i
end
end Go.Proofs.YthmedjljckbidaaDoor.Lift
