/- New variables, slices that are made, conversions. Conditions: as each theorem states them. -/
import Derived.Test.YthmedjljckbidaaDoorLiftK
import Derived.Laws.MakeOwn
set_option linter.unusedVariables false
namespace Go.Proofs.YthmedjljckbidaaDoor.Lift
section
variable {P : Program} {C : Ctx} {c : Call} {st : St C.S.U} {a : Act} {w : World} {g : Gh} {ρ : Type}

/-- A new variable. -/
theorem newBox (hr : Rel c st a w g) {E : Nat} {cs : Array Value} {ys : List (LV C.S.U)} (h1 : All2 (RepL g st.mem st.cnt) cs.toList ys) (h2 : ∀ u ∈ cs.toList, u.oneCell' = true) {dst : Option Nat} {R : AV C.S.U → St C.S.U → Option ρ} {r : ρ}
    (h : newK dst (.box ys) (fun d j => .ref d j 0) st R = some r) :
    ∃ z st' g', R z st' = some r ∧ Rel c st' a (w.alloc (.cells cs E)) g' ∧ RepA g' st'.mem st'.cnt (ptr w.heap.size 0) z ∧ Ext g g' st.cnt ∧ ∀ d, st.cnt d ≤ st'.cnt d := by
  unfold newK at h
  split at h
  · cases h
  · rename_i d
    have hg := Ext.new g st.cnt d (some w.heap.size) 0
    have hm := Memle.new st.mem st.cnt d (.box ys)
    have hc := cnt_le st.cnt d
    have hβ : (g.new d (st.cnt d + 1) (some w.heap.size) 0).β d (st.cnt d + 1) = some w.heap.size := upd2_same _ _ _ _
    refine ⟨_, _, _, h, hr.newO d (.box ys) (some w.heap.size) 0 (Grow.alloc w _) (fun b e => by cases e; exact Nat.le_refl _) ⟨w.heap.size, E, cs, hβ, heap_alloc_new w _, ?_, h2⟩, ⟨?_, _, hβ, rfl⟩, hg, hc⟩
    · exact All2.imp (fun u z => RepL.mono hg hm hc u z) h1
    · show _ ≤ upd st.cnt d (st.cnt d + 1) d
      rw [upd_same]; exact Nat.le_refl _

/-- A new walk of a string. -/
theorem newIt (hr : Rel c st a w g) {s : ByteArray} {dst : Option Nat} {R : AV C.S.U → St C.S.U → Option ρ} {r : ρ}
    (h : newK dst (.it s 0) (fun d j => .ref d j 0) st R = some r) :
    ∃ z st' g', R z st' = some r ∧ Rel c st' a (w.alloc (.stringIter s 0)) g' ∧ RepA g' st'.mem st'.cnt (ptr w.heap.size 0) z ∧ Ext g g' st.cnt ∧ ∀ d, st.cnt d ≤ st'.cnt d := by
  unfold newK at h
  split at h
  · cases h
  · rename_i d
    have hg := Ext.new g st.cnt d (some w.heap.size) 0
    have hc := cnt_le st.cnt d
    have hβ : (g.new d (st.cnt d + 1) (some w.heap.size) 0).β d (st.cnt d + 1) = some w.heap.size := upd2_same _ _ _ _
    refine ⟨_, _, _, h, hr.newO d (.it s 0) (some w.heap.size) 0 (Grow.alloc w _) (fun b e => by cases e; exact Nat.le_refl _) ⟨Int.le_refl _, w.heap.size, hβ, heap_alloc_new w _⟩, ⟨?_, _, hβ, rfl⟩, hg, hc⟩
    show _ ≤ upd st.cnt d (st.cnt d + 1) d
    rw [upd_same]; exact Nat.le_refl _

/-- A new strings.Builder. -/
theorem newBld (hr : Rel c st a w g) {T : Nat} {dst : Option Nat} {R : AV C.S.U → St C.S.U → Option ρ} {r : ρ}
    (h : newK dst (.bld T .nils) (fun d j => .ref d j 0) st R = some r) :
    ∃ z st' g', R z st' = some r ∧ Rel c st' a (w.alloc (.cells #[.pointer none, .slice none 0 0] T)) g' ∧ RepA g' st'.mem st'.cnt (ptr w.heap.size 0) z ∧ Ext g g' st.cnt ∧ ∀ d, st.cnt d ≤ st'.cnt d := by
  unfold newK at h
  split at h
  · cases h
  · rename_i d
    have hg := Ext.new g st.cnt d (some w.heap.size) 0
    have hc := cnt_le st.cnt d
    have hβ : (g.new d (st.cnt d + 1) (some w.heap.size) 0).β d (st.cnt d + 1) = some w.heap.size := upd2_same _ _ _ _
    refine ⟨_, _, _, h, hr.newO d (.bld T .nils) (some w.heap.size) 0 (Grow.alloc w _) (fun b e => by cases e; exact Nat.le_refl _) ⟨w.heap.size, _, _, hβ, heap_alloc_new w _, .inl rfl, rfl⟩, ⟨?_, _, hβ, rfl⟩, hg, hc⟩
    show _ ≤ upd st.cnt d (st.cnt d + 1) d
    rw [upd_same]; exact Nat.le_refl _

/-- A new row. -/
theorem newRow' (hr : Rel c st a w g) {E cap : Nat} {t : Ty} {cs : Array Value} {zs : List (El C.S.U t)} (h1 : RowC C.S g.M t cs zs) (h2 : ∀ u ∈ cs.toList.take (zs.length * sz C.S dep t), u.oneCell' = true) (h3 : zs.length ≤ cap) (h4 : cap ≤ maxLen) (h5 : cs.size = cap * sz C.S dep t)
    {dst : Option Nat} {R : AV C.S.U → St C.S.U → Option ρ} {r : ρ} (h : newK dst (.row E t zs) .row st R = some r) :
    ∃ z st' g', R z st' = some r ∧ Rel c st' a (w.alloc (.cells cs E)) g' ∧ RepA g' st'.mem st'.cnt (.slice (some ⟨w.heap.size, 0, none⟩) zs.length cap) z ∧ Ext g g' st.cnt ∧ ∀ d, st.cnt d ≤ st'.cnt d := by
  unfold newK at h
  split at h
  · cases h
  · rename_i d
    have hg := Ext.new g st.cnt d (some w.heap.size) cap
    have hc := cnt_le st.cnt d
    have hβ : (g.new d (st.cnt d + 1) (some w.heap.size) cap).β d (st.cnt d + 1) = some w.heap.size := upd2_same _ _ _ _
    have hγ : (g.new d (st.cnt d + 1) (some w.heap.size) cap).γ d (st.cnt d + 1) = cap := upd2_same _ _ _ _
    refine ⟨_, _, _, h, hr.newO d (.row E t zs) (some w.heap.size) cap (Grow.alloc w _) (fun b e => by cases e; exact Nat.le_refl _) (.inr ⟨w.heap.size, cs, hβ, heap_alloc_new w _, by rw [hγ]; exact h3, by rw [hγ]; exact h4, by rw [hγ]; exact h5, h1, h2⟩), ⟨?_, ⟨_, _, _, rfl⟩, fun n hn => ?_⟩, hg, hc⟩
    · show _ ≤ upd st.cnt d (st.cnt d + 1) d
      rw [upd_same]; exact Nat.le_refl _
    · have hm : (newObj' d (.row E t zs) st).mem d (st.cnt d + 1) = some (.row E t zs) := upd2_same _ _ _ _
      have hn' : n = zs.length := by
        rcases hn with ⟨_, _, ls, q, l⟩ | ⟨_, ls, q, l⟩
        · rw [hm] at q; cases q; exact l.symm
        · rw [hm] at q; cases q
      subst hn'
      exact .inr ⟨w.heap.size, hβ, by rw [hγ]⟩

theorem lmake_some {α : Type} {eb : Nat} {n k : Int} {z : α} {r : List α} (h : lmake eb n k z = some r) : 0 ≤ n ∧ n ≤ k ∧ k * eb ≤ 140737488355328 ∧ k ≤ 140737488355328 ∧ r = List.replicate n.toNat z := by
  unfold lmake at h
  split at h
  · rename_i q; cases h; exact ⟨q.1, q.2.1, q.2.2.1, q.2.2.2, rfl⟩
  · cases h

theorem seg_made (z : Array Value) (n m i : Nat) (hz : z.size = m) (hi : (i + 1) * m ≤ n * m) (hm : 0 < m) : seg (madeCells z (n * m)) (i * m) m = z.toList := by
  rw [Nat.add_mul, Nat.one_mul] at hi
  apply List.ext_getElem?
  intro j
  unfold seg
  rw [List.getElem?_take, List.getElem?_drop]
  by_cases hj : j < m
  · rw [if_pos hj]
    have h1 : i * m + j < n * m := by omega
    have h2 : (i * m + j) % m = j := by rw [Nat.add_comm, Nat.add_mul_mod_self_right]; exact Nat.mod_eq_of_lt hj
    simp only [madeCells, Array.getElem?_toList]
    rw [Array.getElem?_map, Array.getElem?_range, if_pos h1, Option.map_some, hz, h2]
    have hjz : j < z.size := by omega
    rw [Array.getElem?_eq_getElem hjz, getElem!_pos z j hjz]
  · rw [if_neg hj]
    symm
    exact List.getElem?_eq_none (by rw [Array.length_toList]; omega)

theorem makeSlice_sound (hS : SgOk C.S) (hT : TyOk P C) (hr : Rel c st a w g) {T eb E : Nat} {t : Ty} (eT : lkp T C.ty = some (.d (.sl t) eb E)) {z : El C.S.U t} (ez : zero C.S dep t = some z) {kn kc : IntKind} {n k : Int} {l : List (El C.S.U t)} (hl : lmake eb n k z = some l)
    {dst : Option Nat} {R : AV C.S.U → St C.S.U → Option ρ} {r : ρ} (h : newK dst (.row E t l) .row st R = some r) :
    ∃ q y st' g' w', (Instr.makeSlice T (.int kn n) (.int kc k)).run P w = .ok q w' ∧ R y st' = some r ∧ Rel c st' a w' g' ∧ RepA g' st'.mem st'.cnt q y ∧ Ext g g' st.cnt ∧ ∀ d, st.cnt d ≤ st'.cnt d := by
  obtain ⟨hd, ⟨Eo⟩⟩ := hT.sl eT
  have D := Eo.data
  obtain ⟨h0, h1, h2, h3, rfl⟩ := lmake_some hl
  have hby : D.info.bytes ≤ eb := by have := Eo.bytes; simp only [Program.bytesOf, D.hi, Option.map_some, Option.getD_some] at this; exact this
  have hb2 : (D.info.bytes : Int) * k ≤ 281474976710656 := by
    have : (D.info.bytes : Int) * k ≤ (eb : Int) * k := Int.mul_le_mul_of_nonneg_right (by omega) (by omega)
    rw [Int.mul_comm (eb : Int)] at this
    omega
  have hrun := run_make (P := P) w T E D.info D.zv hd D.hi D.hz kn kc n k h0 h1 hb2 (by omega)
  have hzc : D.zv.cells.size = sz C.S dep t := by
    have := congrArg List.length D.hzc
    rw [Array.length_toList] at this
    rw [this, (zvals_zcells (S := C.S) (g := g) (m := st.mem) (cnt := st.cnt) dep t).length, zcells_len]
  have hrep := zvals_zero hS (M := g.M) dep t z ez
  have hn : n.toNat ≤ k.toNat := by omega
  have hle : n.toNat * sz C.S dep t ≤ k.toNat * sz C.S dep t := Nat.mul_le_mul_right _ hn
  have hseg : ∀ i, i < n.toNat → seg (madeCells D.zv.cells (k.toNat * sz C.S dep t)) (i * sz C.S dep t) (sz C.S dep t) = zvals C.S dep t := fun i hi => by
    rw [seg_made D.zv.cells k.toNat (sz C.S dep t) i hzc (Nat.mul_le_mul_right _ (by omega)) Eo.szp]; exact D.hzc
  have hlen : (List.replicate n.toNat z).length = n.toNat := List.length_replicate
  obtain ⟨y, st', g', k1, k2, k3, k4, k5⟩ := newRow' (E := E) (cap := k.toNat) (cs := madeCells D.zv.cells (k.toNat * sz C.S dep t)) hr
    ⟨by rw [hlen, size_madeCells]; exact hle, fun i hi => by
      rw [hlen] at hi
      rw [hseg i hi, List.getElem_replicate]; exact hrep⟩
    (by
      rw [hlen, ← seg_zero]
      exact seg_all n.toNat (fun i hi u hu => by
        rw [Nat.zero_add, hseg i hi] at hu
        exact zvals_one dep t u hu))
    (by rw [hlen]; exact hn) (by simp only [maxLen]; omega) (size_madeCells _ _) h
  rw [hlen] at k3
  rw [D.hs] at hrun
  exact ⟨_, y, st', g', _, hrun, k1, k2, k3, k4, k5⟩

theorem sbytes_len (s : ByteArray) : (sbytes s).length = s.size := by unfold sbytes; rw [List.length_map, Array.length_toList]; rfl

/-- Bytes of a string, in new memory. -/
theorem bytes_new (hr : Rel c st a w g) (E : Nat) (s : ByteArray) : ∃ g', Rel c st a (Lib.bytesWorld w E s) g' ∧ Ext g g' st.cnt ∧ RepV C.S g'.M (.sl (.int .u8)) (.slice (some ⟨w.heap.size, 0, none⟩) s.size (grownCap w s.size 0 E)) (sbytes s) := by
  have hgr : Grow w (Lib.bytesWorld w E s) := ⟨rfl, rfl, rfl, by rw [Lib.bytesWorld_size]; omega, fun k hk => Lib.bytesWorld_at_old w E s k hk⟩
  have h1 := hr.world hgr
  have hnew := Lib.bytesWorld_at_new w E s
  let M' : Mm := fun b => if b = w.heap.size then some (Lib.bytesCells w E s) else g.M b
  have hM : Mle g.M M' := fun b cs e => by
    show (if b = w.heap.size then some (Lib.bytesCells w E s) else g.M b) = some cs
    rw [if_neg]; · exact e
    · rintro rfl
      obtain ⟨E', f, q⟩ := hr.agree _ cs e
      have := lt_of_heap q; omega
  have hMn : M' w.heap.size = some (Lib.bytesCells w E s) := if_pos rfl
  have h2 := h1.learn hM (fun b cs e => by
    have e : (if b = w.heap.size then some (Lib.bytesCells w E s) else g.M b) = some cs := e
    split at e
    · rename_i hb; cases e; subst hb; exact ⟨_, _, hnew⟩
    · exact h1.agree b cs e) (fun d j o b e m hb => by
    show (if b = w.heap.size then some (Lib.bytesCells w E s) else g.M b) = none
    rw [if_neg]
    · exact (hr.own d j o b e m hb).1
    · have := (hr.objs d j o e).lt m hb; omega) (fun b cs e => by
    have e : (if b = w.heap.size then some (Lib.bytesCells w E s) else g.M b) = some cs := e
    split at e
    · rename_i hb; subst hb; exact .inr (.inl hr.ge)
    · exact .inl e)
  refine ⟨_, h2, ⟨hM, fun _ _ _ => rfl, fun _ _ _ => rfl, fun _ _ _ => rfl⟩, .inr ⟨rfl, ?_⟩⟩
  have hl := sbytes_len s
  have hcl : (Lib.bytesCells w E s).toList = (sbytes s).map (Value.int .u8) ++ List.replicate (grownCap w s.size 0 E - s.size) (.int .u8 0) := by
    simp [Lib.bytesCells, sbytes, Function.comp_def]
  have hs1 : sz C.S dep (.int .u8) = 1 := rfl
  have key := RepC.sl (S := C.S) (M := M') (.int .u8) w.heap.size 0 (grownCap w s.size 0 E) (Lib.bytesCells w E s) (sbytes s) hMn (by rw [hl]; exact grownCap_ge w s.size 0 E) (by
    rw [hs1, ← Array.length_toList, hcl, List.length_append, List.length_map]; omega) (fun i hi => by
    rw [hs1, Nat.zero_add, Nat.mul_one]
    have : seg (Lib.bytesCells w E s) i 1 = [.int .u8 (sbytes s)[i]] := by
      unfold seg
      rw [hcl, List.drop_append_of_le_length (by rw [List.length_map]; omega), ← List.map_drop, List.drop_eq_getElem_cons hi]
      rfl
    rw [this]
    exact .int .u8 _)
  rw [hl] at key
  exact key

theorem convertK_sound (hT : TyOk P C) (hr : Rel c st a w g) {src dst : Nat} {v : Value} {x : LV C.S.U} (hv : RepL g st.mem st.cnt v x) {R : AV C.S.U → St C.S.U → Option ρ} {r : ρ} (h : convertK C src dst x st R = some r) :
    ∃ q y st' g' w', (convert src dst v).run P w = .ok q w' ∧ R y st' = some r ∧ Rel c st' a w' g' ∧ RepA g' st'.mem st'.cnt q y ∧ Ext g g' st.cnt ∧ ∀ d, st.cnt d ≤ st'.cnt d := by
  unfold convertK at h
  split at h
  · rename_i ts _ _ e1
    obtain ⟨d, hd, hdi⟩ := hT.desc e1
    split at h
    · rename_i k _ _ e2
      have hd2 := hT.int e2
      split at h
      · have hv := RepL.int hv
        subst hv
        exact ⟨_, _, st, g, w, by simp [convert, run_underlying hd, run_underlying hd2, Conv.intToInt, wcv], h, hr, rep_int (st := st) _ _, Ext.refl _ _, fun _ => Nat.le_refl _⟩
      · cases h
    · rename_i _ _ e2
      have hd2 := hT.str e2
      split at h
      · obtain ⟨hd1, ⟨Eo⟩⟩ := hT.sl e1
        split at h
        · rename_i l el
          have h8 := Eo.u8 rfl
          have key : ∃ q, (convert src dst v).run P w = .ok q w ∧ q = .string (bstr l) := by
            rcases hr.readRow hv el with ⟨hl, q, k, rfl⟩ | ⟨b, off, k, cs, E, f, rfl, hh, hsz, hrep⟩
            · subst hl
              cases q with
              | none => exact ⟨_, run_convert_bytes_nil w src _ hd1 h8 _ _ dst hd2, rfl⟩
              | some ad =>
                refine ⟨.string (strOfNums []), ?_, rfl⟩
                rw [run_convert_bytes_string w src dst _ (some ad) 0 k hd1 h8 hd2]
                simp [Conv.bytesToString, loadCells, loadCellsFrom]
                rfl
            · refine ⟨_, run_convert_bytes_arg w src _ hd1 h8 b off _ k l rfl (fun i hi => ?_) dst hd2, rfl⟩
              have h1 := hrep i hi
              have hs1 : sz C.S dep (.int .u8) = 1 := rfl
              rw [hs1, Nat.mul_one] at h1
              have hlen : (seg cs (off + i) 1).length = 1 := seg_len (by rw [hs1] at hsz; omega)
              obtain ⟨p, hp⟩ := List.length_eq_one_iff.1 hlen
              rw [hp] at h1
              have hp2 : p = .int .u8 l[i] := by cases h1; rfl
              have := seg_get (cs := cs) (off := off + i) (n := 1) (j := 0) (v := p) (by rw [hp]; rfl)
              rw [cell_of hh]
              simp only [Nat.add_zero] at this
              rw [this, hp2]
              congr 2
              have hi' : i < List.length l := hi
              rw [List.getD, List.getElem?_eq_getElem hi']
              rfl
          obtain ⟨q, k1, k2⟩ := key
          exact ⟨q, _, st, g, w, k1, h, hr, k2 ▸ rep_str (st := st) _, Ext.refl _ _, fun _ => Nat.le_refl _⟩
        · cases h
      · split at h
        · have hv := RepL.str hv
          subst hv
          refine ⟨_, _, st, g, w, ?_, h, hr, rep_str (st := st) _, Ext.refl _ _, fun _ => Nat.le_refl _⟩
          simp only [convert, Sem.run_bind, run_underlying hd, run_underlying hd2, Result.andThen_ok]
          cases d <;> rfl
        · cases h
    · rename_i _ E e2
      obtain ⟨hd2, ⟨Eo⟩⟩ := hT.sl e2
      have h8 := Eo.u8 rfl
      split at h
      · rename_i s
        have hv := RepL.str hv
        subst hv
        have hrun := Lib.run_convert_string_bytes (P := P) w src dst E s hd hd2 h8
        obtain ⟨g', k1, k2, k3⟩ := bytes_new hr E s
        exact ⟨_, _, st, g', _, hrun, h, k1, k3, k2, fun _ => Nat.le_refl _⟩
      · cases h
    · cases h
  · cases h
end
end Go.Proofs.YthmedjljckbidaaDoor.Lift
