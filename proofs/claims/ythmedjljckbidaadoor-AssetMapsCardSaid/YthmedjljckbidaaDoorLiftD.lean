/- New objects, stores into objects, rows that grow. Conditions: as each theorem states them. -/
import Derived.Test.YthmedjljckbidaaDoorLiftC
set_option linter.unusedVariables false
namespace Go.Proofs.YthmedjljckbidaaDoor.Lift
section
variable {S : Sg} {c : Call} {st : St S.U} {a : Act} {w : World} {g : Gh}

/-- The ghost with a new object at (d, j). -/
def Gh.new (g : Gh) (d j : Nat) (b : Option Nat) (cap : Nat) : Gh := { g with β := upd2 g.β d j b, γ := upd2 g.γ d j cap }

theorem Ext.new (g : Gh) (cnt : Nat → Nat) (d : Nat) (b : Option Nat) (cap : Nat) : Ext g (g.new d (cnt d + 1) b cap) cnt :=
  ⟨Mle.refl _, fun e j hj => upd2_other _ _ _ _ (by rintro ⟨rfl, rfl⟩; omega), fun e j hj => upd2_other _ _ _ _ (by rintro ⟨rfl, rfl⟩; omega), fun _ _ _ => rfl⟩

theorem cnt_le (cnt : Nat → Nat) (d : Nat) : ∀ e, cnt e ≤ upd cnt d (cnt d + 1) e := fun e => by
  rcases upd_cases cnt d (cnt d + 1) e with ⟨p, r⟩ | ⟨p, r⟩ <;> rw [r]
  · rw [p]; omega
  · exact Nat.le_refl _

theorem Memle.new (m : Nat → Nat → Option (Obj' S.U)) (cnt : Nat → Nat) (d : Nat) (o : Obj' S.U) : Memle m (upd2 m d (cnt d + 1) (some o)) cnt := fun e j hj => by
  have r : upd2 m d (cnt d + 1) (some o) e j = m e j := upd2_other _ _ _ _ (by rintro ⟨rfl, rfl⟩; omega)
  exact ⟨fun n h => by unfold rowOf at h ⊢; rw [r] at h; exact h, fun t h => by unfold rowSz at h ⊢; rw [r] at h; exact h⟩

theorem Memle.kill (m : Nat → Nat → Option (Obj' S.U)) (cnt : Nat → Nat) (d j : Nat) : Memle m (upd2 m d j none) cnt := fun e k hk => by
  rcases upd2_cases m d j none e k with ⟨p, q, r⟩ | ⟨p, r⟩
  · exact ⟨fun n h => (by unfold rowOf at h; rw [r] at h; rcases h with ⟨_, _, _, h, _⟩ | ⟨_, _, h, _⟩ <;> exact (nomatch h)), fun t h => by unfold rowSz at h; rw [r] at h; rcases h with ⟨_, _, h⟩ | ⟨_, h⟩ <;> exact (nomatch h)⟩
  · exact ⟨fun n h => by unfold rowOf at h ⊢; rw [r] at h; exact h, fun t h => by unfold rowSz at h ⊢; rw [r] at h; exact h⟩

/-- A new object in new memory. -/
theorem Rel.newO (h : Rel c st a w g) (d : Nat) (o : Obj' S.U) (b : Option Nat) (cap : Nat) {w' : World} (k : Grow w w') (hb : ∀ b', b = some b' → w.heap.size ≤ b')
    (ho : RepO (g.new d (st.cnt d + 1) b cap) (newObj' d o st).mem (newObj' d o st).cnt w' d (st.cnt d + 1) o) : Rel c (newObj' d o st) a w' (g.new d (st.cnt d + 1) b cap) := by
  have hg := Ext.new g st.cnt d b cap
  have hm := Memle.new st.mem st.cnt d o
  have hc := cnt_le st.cnt d
  have hβ : (g.new d (st.cnt d + 1) b cap).β d (st.cnt d + 1) = b := upd2_same _ _ _ _
  have hlt : ∀ d' j' o' b', st.mem d' j' = some o' → o'.mut = true → g.β d' j' = some b' → b' < w.heap.size := fun d' j' o' b' e m q => (h.objs d' j' o' e).lt m q
  refine { agree := fun b' cs q => ?_, slots := fun i => (h.slots i).mono hg hm hc, objs := fun d' j' o' q => ?_, own := fun d' j' o' b' q m hb' => ?_, apart := fun d1 j1 o1 b1 d2 j2 o2 q1 m1 e1 q2 m2 e2 => ?_, fresh := fun d' j' q => ?_, size := h.size, defers := h.defers, pin := h.pin, gpin := h.gpin.mono hg hc, glob := h.glob, keep := h.keep.grow h.ge k, ge := Nat.le_trans h.ge k.size, m0 := h.m0, mb := h.mb }
  · obtain ⟨E, f, r⟩ := h.agree b' cs q
    exact ⟨E, f, (k.block b' (lt_of_heap r)).trans r⟩
  · rcases upd2_cases st.mem d (st.cnt d + 1) (some o) d' j' with ⟨p, p', r⟩ | ⟨p, r⟩
    · subst p; subst p'
      have q' : some o = some o' := r.symm.trans q
      cases q'
      exact ho
    · have q' : st.mem d' j' = some o' := r.symm.trans q
      exact RepO.mono hg hm hc (h.live q') (fun m b' e => k.block b' (hlt _ _ _ _ q' m e)) (h.objs d' j' o' q')
  · rcases upd2_cases st.mem d (st.cnt d + 1) (some o) d' j' with ⟨p, p', r⟩ | ⟨p, r⟩
    · subst p; subst p'
      have hb2 := hb b' (hβ.symm.trans hb')
      refine ⟨?_, .inl (Nat.le_trans h.ge hb2)⟩
      cases e : g.M b' with
      | none => exact e
      | some cs => obtain ⟨E, f, q⟩ := h.agree b' cs e; have := lt_of_heap q; omega
    · have q' : st.mem d' j' = some o' := r.symm.trans q
      exact h.own d' j' o' b' q' m ((hg.β d' j' (h.live q')).symm.trans hb')
  · rcases upd2_cases st.mem d (st.cnt d + 1) (some o) d1 j1 with ⟨p1, p1', r1⟩ | ⟨p1, r1⟩
    · subst p1; subst p1'
      have hb1 := hb b1 (hβ.symm.trans e1)
      rcases upd2_cases st.mem d1 (st.cnt d1 + 1) (some o) d2 j2 with ⟨p2, p2', r2⟩ | ⟨p2, r2⟩
      · exact ⟨p2.symm, p2'.symm⟩
      · have q' : st.mem d2 j2 = some o2 := r2.symm.trans q2
        have := hlt d2 j2 o2 b1 q' m2 ((hg.β d2 j2 (h.live q')).symm.trans e2)
        omega
    · have q' : st.mem d1 j1 = some o1 := r1.symm.trans q1
      have l1 := hlt d1 j1 o1 b1 q' m1 ((hg.β d1 j1 (h.live q')).symm.trans e1)
      rcases upd2_cases st.mem d (st.cnt d + 1) (some o) d2 j2 with ⟨p2, p2', r2⟩ | ⟨p2, r2⟩
      · subst p2; subst p2'
        have := hb b1 (hβ.symm.trans e2)
        omega
      · have q2' : st.mem d2 j2 = some o2 := r2.symm.trans q2
        exact h.apart d1 j1 o1 b1 d2 j2 o2 q' m1 ((hg.β d1 j1 (h.live q')).symm.trans e1) q2' m2 ((hg.β d2 j2 (h.live q2')).symm.trans e2)
  · have q1 : upd st.cnt d (st.cnt d + 1) d' < j' := q
    have hne : ¬ (d' = d ∧ j' = st.cnt d + 1) := by rintro ⟨rfl, rfl⟩; rw [upd_same] at q1; omega
    show upd2 st.mem d (st.cnt d + 1) (some o) d' j' = none
    rw [upd2_other _ _ _ _ hne]
    exact h.fresh d' j' (Nat.lt_of_le_of_lt (hc d') q1)

/-- An object that is there no more. -/
theorem Rel.kill (h : Rel c st a w g) (d j : Nat) : Rel c { st with mem := upd2 st.mem d j none } a w g := by
  have hm := Memle.kill st.mem st.cnt d j
  have key : ∀ d' j' o, upd2 st.mem d j none d' j' = some o → st.mem d' j' = some o := fun d' j' o q => by
    rcases upd2_cases st.mem d j none d' j' with ⟨p, p', r⟩ | ⟨p, r⟩
    · rw [r] at q; cases q
    · exact r.symm.trans q
  exact { agree := h.agree, slots := fun i => (h.slots i).mono (Ext.refl _ _) hm (fun _ => Nat.le_refl _), objs := fun d' j' o q => RepO.mono (Ext.refl _ _) hm (fun _ => Nat.le_refl _) (h.live (key _ _ _ q)) (fun _ _ _ => rfl) (h.objs d' j' o (key _ _ _ q)), own := fun d' j' o b q => h.own d' j' o b (key _ _ _ q), apart := fun d1 j1 o1 b d2 j2 o2 q1 m1 e1 q2 => h.apart d1 j1 o1 b d2 j2 o2 (key _ _ _ q1) m1 e1 (key _ _ _ q2), fresh := fun d' j' q => (by
      rcases upd2_cases st.mem d j none d' j' with ⟨p, p', r⟩ | ⟨p, r⟩
      · exact r
      · exact r.trans (h.fresh d' j' q)), size := h.size, defers := h.defers, pin := h.pin, gpin := h.gpin, glob := h.glob, keep := h.keep, ge := h.ge, m0 := h.m0, mb := h.mb }

/-- The block of an object turns, and the object with it. -/
theorem Rel.turn (h : Rel c st a w g) {d j b : Nat} {o : Obj' S.U} (e : st.mem d j = some o) (hm : o.mut = true) (hb : g.β d j = some b) (o' : Obj' S.U) {w' : World}
    (hw : w'.os = w.os ∧ w'.tape = w.tape ∧ w'.output = w.output ∧ w'.heap.size = w.heap.size ∧ ∀ k, k ≠ b → w'.heap[k]? = w.heap[k]?)
    (hl : Memle st.mem (upd2 st.mem d j (some o')) st.cnt)
    (ho : RepO g (upd2 st.mem d j (some o')) st.cnt w' d j o') : Rel c { st with mem := upd2 st.mem d j (some o') } a w' g := by
  obtain ⟨w1, w2, w3, w4, w5⟩ := hw
  obtain ⟨hMb, hbase⟩ := h.own d j o b e hm hb
  have hlt := (h.objs d j o e).lt hm hb
  refine { agree := fun k cs q => ?_, slots := fun i => (h.slots i).mono (Ext.refl _ _) hl (fun _ => Nat.le_refl _), objs := fun d' j' o2 q => ?_, own := fun d' j' o2 b' q m hb' => ?_, apart := fun d1 j1 o1 b1 d2 j2 o2 q1 m1 e1 q2 m2 e2 => ?_, fresh := fun d' j' q => ?_, size := h.size, defers := h.defers, pin := h.pin, gpin := h.gpin, glob := h.glob, keep := ⟨w1.trans h.keep.os, w2.trans h.keep.tape, w3.trans h.keep.output, by rw [w4]; exact h.keep.size, fun k hk hx => ?_⟩, ge := by rw [w4]; exact h.ge, m0 := h.m0, mb := h.mb }
  · obtain ⟨E, f, r⟩ := h.agree k cs q
    exact ⟨E, f, (w5 k (by rintro rfl; rw [hMb] at q; cases q)).trans r⟩
  · rcases upd2_cases st.mem d j (some o') d' j' with ⟨p, p', r⟩ | ⟨p, r⟩
    · subst p; subst p'
      have q' : some o' = some o2 := r.symm.trans q
      cases q'
      exact ho
    · have q' : st.mem d' j' = some o2 := r.symm.trans q
      exact RepO.mono (Ext.refl _ _) hl (fun _ => Nat.le_refl _) (h.live q') (fun m b' eb => w5 b' (by rintro rfl; exact p (h.apart d' j' o2 b' d j o q' m eb e hm hb))) (h.objs d' j' o2 q')
  · rcases upd2_cases st.mem d j (some o') d' j' with ⟨p, p', r⟩ | ⟨p, r⟩
    · subst p; subst p'; exact h.own d' j' o b' e hm hb'
    · exact h.own d' j' o2 b' (r.symm.trans q) m hb'
  · have key : ∀ d' j' o2, upd2 st.mem d j (some o') d' j' = some o2 → o2.mut = true → ∃ o3, st.mem d' j' = some o3 ∧ o3.mut = true := fun d' j' o2 q m => by
      rcases upd2_cases st.mem d j (some o') d' j' with ⟨p, p', r⟩ | ⟨p, r⟩
      · subst p; subst p'; exact ⟨o, e, hm⟩
      · exact ⟨o2, r.symm.trans q, m⟩
    obtain ⟨o3, s1, t1⟩ := key d1 j1 o1 q1 m1
    obtain ⟨o4, s2, t2⟩ := key d2 j2 o2 q2 m2
    exact h.apart d1 j1 o3 b1 d2 j2 o4 s1 t1 e1 s2 t2 e2
  · rcases upd2_cases st.mem d j (some o') d' j' with ⟨p, p', r⟩ | ⟨p, r⟩
    · subst p; subst p'; have := h.live e; have q : st.cnt d' < j' := q; omega
    · exact r.trans (h.fresh d' j' q)
  · rcases hbase with hB | hX
    · exact (w5 k (by omega)).trans (h.keep.block k hk hx)
    · exact (w5 k (by rintro rfl; exact hx hX)).trans (h.keep.block k hk hx)

theorem Memle.box (m : Nat → Nat → Option (Obj' S.U)) (cnt : Nat → Nat) (d j : Nat) (cs : List (LV S.U)) : Memle m (upd2 m d j (some (.box cs))) cnt := fun e k hk => by
  rcases upd2_cases m d j (some (.box cs)) e k with ⟨p, q, r⟩ | ⟨p, r⟩
  · exact ⟨fun n h => (by unfold rowOf at h; rw [r] at h; rcases h with ⟨_, _, _, h, _⟩ | ⟨_, _, h, _⟩ <;> exact (nomatch h)), fun t h => by unfold rowSz at h; rw [r] at h; rcases h with ⟨_, _, h⟩ | ⟨_, h⟩ <;> exact (nomatch h)⟩
  · exact ⟨fun n h => by unfold rowOf at h ⊢; rw [r] at h; exact h, fun t h => by unfold rowSz at h ⊢; rw [r] at h; exact h⟩

theorem Memle.it (m : Nat → Nat → Option (Obj' S.U)) (cnt : Nat → Nat) (d j : Nat) (s : ByteArray) (p' : Int) : Memle m (upd2 m d j (some (.it s p'))) cnt := fun e k hk => by
  rcases upd2_cases m d j (some (.it s p')) e k with ⟨p, q, r⟩ | ⟨p, r⟩
  · exact ⟨fun n h => (by unfold rowOf at h; rw [r] at h; rcases h with ⟨_, _, _, h, _⟩ | ⟨_, _, h, _⟩ <;> exact (nomatch h)), fun t h => by unfold rowSz at h; rw [r] at h; rcases h with ⟨_, _, h⟩ | ⟨_, h⟩ <;> exact (nomatch h)⟩
  · exact ⟨fun n h => by unfold rowOf at h ⊢; rw [r] at h; exact h, fun t h => by unfold rowSz at h ⊢; rw [r] at h; exact h⟩

theorem Memle.map (m : Nat → Nat → Option (Obj' S.U)) (cnt : Nat → Nat) (d j : Nat) (kt vt : Ty) (ks : List (El S.U kt)) (vs : List (El S.U vt)) : Memle m (upd2 m d j (some (.map kt vt ks vs))) cnt := fun e k hk => by
  rcases upd2_cases m d j (some (.map kt vt ks vs)) e k with ⟨p, q, r⟩ | ⟨p, r⟩
  · exact ⟨fun n h => (by unfold rowOf at h; rw [r] at h; rcases h with ⟨_, _, _, h, _⟩ | ⟨_, _, h, _⟩ <;> exact (nomatch h)), fun t h => by unfold rowSz at h; rw [r] at h; rcases h with ⟨_, _, h⟩ | ⟨_, h⟩ <;> exact (nomatch h)⟩
  · exact ⟨fun n h => by unfold rowOf at h ⊢; rw [r] at h; exact h, fun t h => by unfold rowSz at h ⊢; rw [r] at h; exact h⟩

theorem Memle.bld (m : Nat → Nat → Option (Obj' S.U)) (cnt : Nat → Nat) (d j : Nat) (T : Nat) (y : LV S.U) : Memle m (upd2 m d j (some (.bld T y))) cnt := fun e k hk => by
  rcases upd2_cases m d j (some (.bld T y)) e k with ⟨p, q, r⟩ | ⟨p, r⟩
  · exact ⟨fun n h => (by unfold rowOf at h; rw [r] at h; rcases h with ⟨_, _, _, h, _⟩ | ⟨_, _, h, _⟩ <;> exact (nomatch h)), fun t h => by unfold rowSz at h; rw [r] at h; rcases h with ⟨_, _, h⟩ | ⟨_, h⟩ <;> exact (nomatch h)⟩
  · exact ⟨fun n h => by unfold rowOf at h ⊢; rw [r] at h; exact h, fun t h => by unfold rowSz at h ⊢; rw [r] at h; exact h⟩

theorem Memle.row {m : Nat → Nat → Option (Obj' S.U)} (cnt : Nat → Nat) {d j E : Nat} {t : Ty} {xs : List (El S.U t)} (e : m d j = some (.row E t xs)) (zs : List (El S.U t)) (hl : zs.length = xs.length) : Memle m (upd2 m d j (some (.row E t zs))) cnt := fun e' k hk => by
  rcases upd2_cases m d j (some (.row E t zs)) e' k with ⟨p, q, r⟩ | ⟨p, r⟩
  · subst p; subst q
    refine ⟨fun n h => ?_, fun u h => ?_⟩
    · unfold rowOf at h; rw [r] at h
      rcases h with ⟨_, _, _, h, l⟩ | ⟨_, _, h, _⟩
      · cases h; exact .inl ⟨E, t, xs, e, hl.symm.trans l⟩
      · cases h
    · unfold rowSz at h; rw [r] at h
      rcases h with ⟨_, _, h⟩ | ⟨_, h⟩
      · cases h; exact .inl ⟨E, xs, e⟩
      · cases h
  · exact ⟨fun n h => by unfold rowOf at h ⊢; rw [r] at h; exact h, fun t h => by unfold rowSz at h ⊢; rw [r] at h; exact h⟩
end
end Go.Proofs.YthmedjljckbidaaDoor.Lift
