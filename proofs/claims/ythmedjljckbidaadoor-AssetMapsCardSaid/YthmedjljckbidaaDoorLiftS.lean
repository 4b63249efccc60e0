/- What is known at a label, told anew for its function. Conditions: as each theorem states them. -/
import Derived.Test.YthmedjljckbidaaDoorLiftR
set_option linter.unusedVariables false
namespace Go.Proofs.YthmedjljckbidaaDoor.Lift
section
variable {C : Ctx} {c : Call} {st st0 : St C.S.U} {a : Act} {w : World} {g g0 : Gh}

theorem Rel.say (h : Rel c st a w g) (k : Nat) {x : AV C.S.U} (hx : RepA g st.mem st.cnt (a.tmps.getD k undef) x) : Rel c { st with sl := upd st.sl k x } a w g :=
  { h with
    slots := fun i => by
      rcases upd_cases st.sl k x i with ⟨e, r⟩ | ⟨e, r⟩
      · subst e; show RepA g st.mem st.cnt _ (upd st.sl i x i); rw [r]; exact hx
      · show RepA g st.mem st.cnt _ (upd st.sl k x i); rw [r]; exact h.slots i }

def Gh.key (g : Gh) (d j : Nat) (b : Option Nat) (t : Bool) : Gh := { g with β := upd2 g.β d j b, τ := upd2 g.τ d j t }

theorem Ext.key (g : Gh) (cnt : Nat → Nat) (d : Nat) (b : Option Nat) (t : Bool) : Ext g (g.key d (cnt d + 1) b t) cnt :=
  ⟨Mle.refl _, fun e j hj => upd2_other _ _ _ _ (by rintro ⟨rfl, rfl⟩; omega), fun _ _ _ => rfl, fun e j hj => upd2_other _ _ _ _ (by rintro ⟨rfl, rfl⟩; omega)⟩

theorem Rel.key (h : Rel c st a w g) (d : Nat) (b : Option Nat) (t : Bool) : Rel c { st with cnt := upd st.cnt d (st.cnt d + 1) } a w (g.key d (st.cnt d + 1) b t) := by
  have hg := Ext.key g st.cnt d b t
  have hc := cnt_le st.cnt d
  exact { agree := h.agree, slots := fun k => (h.slots k).mono hg (Memle.refl _ _) hc, objs := fun d' j' o e => RepO.mono hg (Memle.refl _ _) hc (h.live e) (fun _ _ _ => rfl) (h.objs d' j' o e), own := fun d' j' o b' e m q => h.own d' j' o b' e m ((hg.β d' j' (h.live e)).symm.trans q), apart := fun d1 j1 o1 b1 d2 j2 o2 e1 m1 q1 e2 m2 q2 => h.apart d1 j1 o1 b1 d2 j2 o2 e1 m1 ((hg.β d1 j1 (h.live e1)).symm.trans q1) e2 m2 ((hg.β d2 j2 (h.live e2)).symm.trans q2), fresh := fun e j hj => h.fresh e j (Nat.lt_of_le_of_lt (hc e) hj), size := h.size, defers := h.defers, pin := h.pin, gpin := h.gpin.mono hg hc, glob := h.glob, keep := h.keep, ge := h.ge, m0 := h.m0, mb := h.mb }

/-- An object that was there already is told of. -/
theorem Rel.place (h : Rel c st a w g) {d j : Nat} {o : Obj' C.S.U} (hj : j ≤ st.cnt d) (hl : Memle st.mem (upd2 st.mem d j (some o)) st.cnt) (ho : RepO g (upd2 st.mem d j (some o)) st.cnt w d j o)
    (hb : ∀ b, g.β d j = some b → g.M b = none ∧ (c.base ≤ b ∨ c.X b) ∧ ∀ d' j' o', st.mem d' j' = some o' → o'.mut = true → g.β d' j' ≠ some b) : Rel c { st with mem := upd2 st.mem d j (some o) } a w g := by
  refine { agree := h.agree, slots := fun i => (h.slots i).mono (Ext.refl _ _) hl (fun _ => Nat.le_refl _), objs := fun d' j' o' q => ?_, own := fun d' j' o' b' q m hb' => ?_, apart := fun d1 j1 o1 b1 d2 j2 o2 q1 m1 e1 q2 m2 e2 => ?_, fresh := fun d' j' q => ?_, size := h.size, defers := h.defers, pin := h.pin, gpin := h.gpin, glob := h.glob, keep := h.keep, ge := h.ge, m0 := h.m0, mb := h.mb }
  · rcases upd2_cases st.mem d j (some o) d' j' with ⟨p, p', r⟩ | ⟨p, r⟩
    · subst p; subst p'
      have q' : some o = some o' := r.symm.trans q
      cases q'
      exact ho
    · have q' : st.mem d' j' = some o' := r.symm.trans q
      exact RepO.mono (Ext.refl _ _) hl (fun _ => Nat.le_refl _) (h.live q') (fun _ _ _ => rfl) (h.objs d' j' o' q')
  · rcases upd2_cases st.mem d j (some o) d' j' with ⟨p, p', r⟩ | ⟨p, r⟩
    · subst p; subst p'; exact ⟨(hb b' hb').1, (hb b' hb').2.1⟩
    · exact h.own d' j' o' b' (r.symm.trans q) m hb'
  · rcases upd2_cases st.mem d j (some o) d1 j1 with ⟨p1, p1', r1⟩ | ⟨p1, r1⟩
    · subst p1; subst p1'
      rcases upd2_cases st.mem d1 j1 (some o) d2 j2 with ⟨p2, p2', r2⟩ | ⟨p2, r2⟩
      · exact ⟨p2.symm, p2'.symm⟩
      · exact absurd e2 ((hb b1 e1).2.2 d2 j2 o2 (r2.symm.trans q2) m2)
    · rcases upd2_cases st.mem d j (some o) d2 j2 with ⟨p2, p2', r2⟩ | ⟨p2, r2⟩
      · subst p2; subst p2'
        exact absurd e1 ((hb b1 e2).2.2 d1 j1 o1 (r1.symm.trans q1) m1)
      · exact h.apart d1 j1 o1 b1 d2 j2 o2 (r1.symm.trans q1) m1 e1 (r2.symm.trans q2) m2 e2
  · rcases upd2_cases st.mem d j (some o) d' j' with ⟨p, p', r⟩ | ⟨p, r⟩
    · subst p; subst p'; have q : st.cnt d' < j' := q; omega
    · exact r.trans (h.fresh d' j' q)

/-- A row that was there already is told of by a new name. -/
theorem Rel.newG (h : Rel c st a w g) (d : Nat) (o : Obj' C.S.U) (b : Option Nat) (cap : Nat) (hb : ∀ b', b = some b' → g.M b' = none ∧ (c.base ≤ b' ∨ c.X b') ∧ ∀ d' j' o', st.mem d' j' = some o' → o'.mut = true → g.β d' j' ≠ some b')
    (ho : RepO (g.new d (st.cnt d + 1) b cap) (newObj' d o st).mem (newObj' d o st).cnt w d (st.cnt d + 1) o) : Rel c (newObj' d o st) a w (g.new d (st.cnt d + 1) b cap) := by
  have hg := Ext.new g st.cnt d b cap
  have hm := Memle.new st.mem st.cnt d o
  have hc := cnt_le st.cnt d
  have hβ : (g.new d (st.cnt d + 1) b cap).β d (st.cnt d + 1) = b := upd2_same _ _ _ _
  refine { agree := h.agree, slots := fun i => (h.slots i).mono hg hm hc, objs := fun d' j' o' q => ?_, own := fun d' j' o' b' q m hb' => ?_, apart := fun d1 j1 o1 b1 d2 j2 o2 q1 m1 e1 q2 m2 e2 => ?_, fresh := fun d' j' q => ?_, size := h.size, defers := h.defers, pin := h.pin, gpin := h.gpin.mono hg hc, glob := h.glob, keep := h.keep, ge := h.ge, m0 := h.m0, mb := h.mb }
  · rcases upd2_cases st.mem d (st.cnt d + 1) (some o) d' j' with ⟨p, p', r⟩ | ⟨p, r⟩
    · subst p; subst p'
      have q' : some o = some o' := r.symm.trans q
      cases q'
      exact ho
    · have q' : st.mem d' j' = some o' := r.symm.trans q
      exact RepO.mono hg hm hc (h.live q') (fun _ _ _ => rfl) (h.objs d' j' o' q')
  · rcases upd2_cases st.mem d (st.cnt d + 1) (some o) d' j' with ⟨p, p', r⟩ | ⟨p, r⟩
    · subst p; subst p'
      have := hb b' (hβ.symm.trans hb')
      exact ⟨this.1, this.2.1⟩
    · have q' : st.mem d' j' = some o' := r.symm.trans q
      exact h.own d' j' o' b' q' m ((hg.β d' j' (h.live q')).symm.trans hb')
  · rcases upd2_cases st.mem d (st.cnt d + 1) (some o) d1 j1 with ⟨p1, p1', r1⟩ | ⟨p1, r1⟩
    · subst p1; subst p1'
      rcases upd2_cases st.mem d1 (st.cnt d1 + 1) (some o) d2 j2 with ⟨p2, p2', r2⟩ | ⟨p2, r2⟩
      · exact ⟨p2.symm, p2'.symm⟩
      · have q' : st.mem d2 j2 = some o2 := r2.symm.trans q2
        exact absurd ((hg.β d2 j2 (h.live q')).symm.trans e2) ((hb b1 (hβ.symm.trans e1)).2.2 d2 j2 o2 q' m2)
    · have q' : st.mem d1 j1 = some o1 := r1.symm.trans q1
      rcases upd2_cases st.mem d (st.cnt d + 1) (some o) d2 j2 with ⟨p2, p2', r2⟩ | ⟨p2, r2⟩
      · subst p2; subst p2'
        exact absurd ((hg.β d1 j1 (h.live q')).symm.trans e1) ((hb b1 (hβ.symm.trans e2)).2.2 d1 j1 o1 q' m1)
      · have q2' : st.mem d2 j2 = some o2 := r2.symm.trans q2
        exact h.apart d1 j1 o1 b1 d2 j2 o2 q' m1 ((hg.β d1 j1 (h.live q')).symm.trans e1) q2' m2 ((hg.β d2 j2 (h.live q2')).symm.trans e2)
  · have q1 : upd st.cnt d (st.cnt d + 1) d' < j' := q
    have hne : ¬ (d' = d ∧ j' = st.cnt d + 1) := by rintro ⟨rfl, rfl⟩; rw [upd_same] at q1; omega
    show upd2 st.mem d (st.cnt d + 1) (some o) d' j' = none
    rw [upd2_other _ _ _ _ hne]
    exact h.fresh d' j' (Nat.lt_of_le_of_lt (hc d') q1)

theorem still_rd (h : Rel c st a w g) {v : Value} {x : LV C.S.U} (hv : RepL g st.mem st.cnt v x) (hs : stillL st x = true) : Rd g st v x :=
  Rd.of_rel h hv fun d j E t xs e q => by subst e; simp only [stillL, q] at hs; cases hs

theorem toF_sound (hS : SgOk C.S) (h : Rel c st a w g) {v : Value} {x : AV C.S.U} (hv : RepA g st.mem st.cnt v x) {t : Ty} {y : El C.S.U t} (e : toF C.S st t x = some y) : RepV C.S g.M t v y := by
  unfold toF at e
  cases x with
  | l x =>
    cases q : stillL st x with
    | false => simp only [q] at e; cases e
    | true =>
      simp only [q] at e
      exact still_rd h hv q t y e
  | tup xs => cases e
  | ifv T x => cases e
  | ag n cs =>
    cases q : cs.all (stillL st) with
    | false => simp only [q] at e; cases e
    | true =>
      simp only [q, cond_true] at e
      obtain ⟨vs, rfl, h1, h2, h3⟩ := hv
      have h4 : All2 (Rd g st) vs cs := by
        clear e h2 h3
        simp only [List.all_eq_true] at q
        induction h1 with
        | nil => exact .nil
        | cons r _ ih => exact .cons (still_rd h r (q _ (List.mem_cons_self ..))) (ih fun z hz => q z (List.mem_cons_of_mem _ hz))
      simp only [toA] at e
      split at e
      · rename_i z ez
        obtain ⟨e1, e2⟩ := castEl_some e
        subst e1
        have e2 : y = z := e2
        subst e2
        obtain ⟨v1, v2, rfl, q1, q2⟩ := gather_sound hS dep (.st n) vs cs _ [] h4 ez
        cases q2
        exact .inl ⟨rfl, _, rfl, by simpa using q1⟩
      · cases e

/-- The old telling and the new one, of the same memory. -/
structure Two (c c0 : Call) (a a0 : Act) (w : World) (st : St C.S.U) (g : Gh) (st0 : St C.S.U) (g0 : Gh) : Prop where
  old : Rel c st a w g
  new : Rel c0 st0 a0 w g0
  M : g0.M = g.M
  dis : ∀ d j o b d' j' o', st.mem d j = some o → o.mut = true → g.β d j = some b → st0.mem d' j' = some o' → o'.mut = true → g0.β d' j' ≠ some b
  sub : ∀ b, (c.base ≤ b ∨ c.X b) → (c0.base ≤ b ∨ c0.X b)

theorem kill_sub {d j d' j' : Nat} {o : Obj' C.S.U} (e : (kill st d j).mem d' j' = some o) : st.mem d' j' = some o ∧ ¬ (d' = d ∧ j' = j) := by
  have e : upd2 st.mem d j none d' j' = some o := e
  rcases upd2_cases st.mem d j none d' j' with ⟨_, _, r⟩ | ⟨p, r⟩
  · rw [r] at e; cases e
  · exact ⟨r.symm.trans e, p⟩

theorem asRow_sound {c0 : Call} {a0 : Act} (h : Two c c0 a a0 w st g st0 g0) {v : Value} {x : LV C.S.U} (hv : RepL g st.mem st.cnt v x) {E : Nat} {t : Ty} {y : List (El C.S.U t)} {st' : St C.S.U} (e : asRow st E t x = some (y, st')) (d : Nat) :
    ∃ b cap, Two c c0 a a0 w st' g (newObj' d (.row E t y) st0) (g0.new d (st0.cnt d + 1) b cap) ∧ RepL (g0.new d (st0.cnt d + 1) b cap) (newObj' d (.row E t y) st0).mem (newObj' d (.row E t y) st0).cnt v (.row d (st0.cnt d + 1)) ∧ st'.sl = st.sl ∧ st'.cnt = st.cnt ∧ Memle st.mem st'.mem st.cnt := by
  have hc : (newObj' d (.row E t y) st0).cnt d = st0.cnt d + 1 := upd_same _ _ _
  have hm : (newObj' d (.row E t y) st0).mem d (st0.cnt d + 1) = some (.row E t y) := upd2_same _ _ _ _
  have hβ : ∀ b cap, (g0.new d (st0.cnt d + 1) b cap).β d (st0.cnt d + 1) = b := fun b cap => upd2_same _ _ _ _
  have hγ : ∀ b cap, (g0.new d (st0.cnt d + 1) b cap).γ d (st0.cnt d + 1) = cap := fun b cap => upd2_same _ _ _ _
  have hrow : ∀ n, rowOf (newObj' d (.row E t y) st0).mem d (st0.cnt d + 1) n → n = y.length := fun n hn => by
    rcases hn with ⟨E', u, xs, q, l⟩ | ⟨u, xs, q, l⟩
    · rw [hm] at q; cases q; exact l.symm
    · rw [hm] at q; cases q
  have dis : ∀ (st2 : St C.S.U) (b : Option Nat) (cap : Nat), (∀ d j o, st2.mem d j = some o → st.mem d j = some o) → (∀ b', b = some b' → ∀ d j o, st2.mem d j = some o → o.mut = true → g.β d j ≠ some b') → ∀ d1 j1 o b1 d' j' o', st2.mem d1 j1 = some o → o.mut = true → g.β d1 j1 = some b1 → (newObj' d (.row E t y) st0).mem d' j' = some o' → o'.mut = true → (g0.new d (st0.cnt d + 1) b cap).β d' j' ≠ some b1 := by
    intro st2 b cap hs hbb d1 j1 o b1 d' j' o' q1 m1 e1 q2 m2
    rcases upd2_cases st0.mem d (st0.cnt d + 1) (some (.row E t y)) d' j' with ⟨p, p', r⟩ | ⟨p, r⟩
    · subst p; subst p'
      rw [hβ]
      exact fun z => hbb b1 z d1 j1 o q1 m1 e1
    · have q' : st0.mem d' j' = some o' := r.symm.trans q2
      rw [(Ext.new g0 st0.cnt d b cap).β d' j' (h.new.live q')]
      exact h.dis d1 j1 o b1 d' j' o' (hs _ _ _ q1) m1 e1 q' m2
  cases x with
  | nils =>
    cases e
    have hv : v = .slice none 0 0 := hv
    refine ⟨none, 0, ⟨h.old, h.new.newG d _ none 0 (fun _ q => nomatch q) (.inl ⟨hβ _ _, rfl⟩), h.M, dis st none 0 (fun _ _ _ q => q) (fun _ q => nomatch q), h.sub⟩, ⟨by rw [hc]; exact Nat.le_refl _, ⟨_, _, _, hv⟩, fun n hn => .inl ⟨hβ _ _, by rw [hrow n hn]; rfl, hv⟩⟩, rfl, rfl, Memle.refl _ _⟩
  | row d' j' =>
    simp only [asRow] at e
    split at e
    · rename_i E' u xs em
      cases q : Nat.beq E E' with
      | false => rw [q] at e; cases e
      | true =>
        rw [q] at e
        have := Nat.eq_of_beq_eq_true q
        subst this
        simp only [cond_true] at e
        split at e
        · rename_i ys ec
          cases e
          obtain ⟨e1, e2⟩ := castEl_some (U := C.S.U) (a := .sl u) ec
          cases e1
          have e2 : y = xs := e2
          subst e2
          obtain ⟨h1, h2, h3⟩ := hv
          have h3 := h3 y.length (.inl ⟨E, t, y, em, rfl⟩)
          have ho := h.old.objs d' j' _ em
          rcases ho with ⟨o1, o2⟩ | ⟨b, vs, o1, o2, o3, o4, o5, o6, o7⟩
          · rcases h3 with ⟨k1, k2, k3⟩ | ⟨b, k1, k2⟩
            · refine ⟨none, 0, ⟨h.old.kill d' j', h.new.newG d _ none 0 (fun _ q => nomatch q) (.inl ⟨hβ _ _, o2⟩), h.M, dis (kill st d' j') none 0 (fun _ _ _ q => (kill_sub q).1) (fun _ q => nomatch q), h.sub⟩, ⟨by rw [hc]; exact Nat.le_refl _, h2, fun n hn => .inl ⟨hβ _ _, by rw [hrow n hn, k2], k3⟩⟩, rfl, rfl, Memle.kill _ _ _ _⟩
            · rw [o1] at k1; cases k1
          · rcases h3 with ⟨k1, k2, k3⟩ | ⟨b', k1, k2⟩
            · rw [o1] at k1; cases k1
            · rw [o1] at k1
              cases k1
              have hown := h.old.own d' j' _ b em rfl o1
              refine ⟨some b, g.γ d' j', ⟨h.old.kill d' j', h.new.newG d _ (some b) (g.γ d' j') (fun b' q => ?_) (.inr ⟨b, vs, hβ _ _, o2, ?_, ?_, ?_, ?_, o7⟩), h.M, dis (kill st d' j') (some b) _ (fun _ _ _ q => (kill_sub q).1) (fun b' q d1 j1 o1' q1 m1 z => ?_), h.sub⟩, ⟨by rw [hc]; exact Nat.le_refl _, h2, fun n hn => .inr ⟨b, hβ _ _, by rw [hrow n hn, hγ]; exact k2⟩⟩, rfl, rfl, Memle.kill _ _ _ _⟩
              · cases q
                refine ⟨by rw [h.M]; exact hown.1, h.sub _ hown.2, fun d1 j1 o1' q1 m1 => h.dis d' j' _ b d1 j1 o1' em rfl o1 q1 m1⟩
              · rw [hγ]; exact o3
              · rw [hγ]; exact o4
              · rw [hγ]; exact o5
              · show RowC C.S g0.M t vs y
                rw [h.M]; exact o6
              · cases q
                have := kill_sub q1
                exact this.2 (h.old.apart d1 j1 o1' b d' j' _ this.1 m1 z em rfl o1)
        · cases e
    · cases e
  | _ => cases e

theorem asMap_mp {S : Sg} {st : St S.U} {kt vt : Ty} {x : LV S.U} {r : List (El S.U kt) × List (El S.U vt) × St S.U} (e : asMap st kt vt x = some r) : ∃ d j, x = .mp d j ∧ st.mem d j = some (.map kt vt r.1 r.2.1) ∧ r.2.2 = kill st d j := by
  cases x with
  | mp d j =>
    simp only [asMap] at e
    split at e
    · rename_i kt' vt' ks vs em
      split at e
      · rename_i ks' vs' e1 e2
        cases e
        obtain ⟨q1, q2⟩ := castEl_some (U := S.U) (a := .sl kt') e1
        obtain ⟨q3, q4⟩ := castEl_some (U := S.U) (a := .sl vt') e2
        cases q1
        cases q3
        have q2 : ks' = ks := q2
        have q4 : vs' = vs := q4
        subst q2; subst q4
        exact ⟨d, j, rfl, em, rfl⟩
      · cases e
    · cases e
  | _ => cases e

/-- A map is told of again, at a name that is there. -/
theorem map_back {c0 : Call} {a0 : Act} (H : Two c c0 a a0 w st g st0 g0) {d2 j2 d j b : Nat} {kt vt : Ty} {ks : List (El C.S.U kt)} {vs : List (El C.S.U vt)} (em : st.mem d2 j2 = some (.map kt vt ks vs)) (hb : g.β d2 j2 = some b) (hk : j ≤ st0.cnt d) (hb0 : g0.β d j = some b) :
    Two c c0 a a0 w (kill st d2 j2) g { st0 with mem := upd2 st0.mem d j (some (.map kt vt ks vs)) } g0 := by
  obtain ⟨b', es, clock, o1, o2, o3, o4⟩ := H.old.objs d2 j2 _ em
  rw [hb] at o1
  cases o1
  have hown := H.old.own d2 j2 _ b em rfl hb
  have N := H.new.place (d := d) (j := j) (o := .map kt vt ks vs) hk (Memle.map _ _ _ _ _ _ _ _) ⟨b, es, clock, hb0, o2, by rw [H.M]; exact o3, by rw [H.M]; exact o4⟩ (fun b' q => by
    rw [hb0] at q
    cases q
    exact ⟨by rw [H.M]; exact hown.1, H.sub _ hown.2, fun d1 j1 o1' q1 m1 => H.dis d2 j2 _ b d1 j1 o1' em rfl hb q1 m1⟩)
  refine ⟨H.old.kill d2 j2, N, H.M, fun d1 j1 o b1 d' j' o' q m z q' m' => ?_, H.sub⟩
  have ks' := kill_sub q
  rcases upd2_cases st0.mem d j (some (.map kt vt ks vs)) d' j' with ⟨p, p', r⟩ | ⟨p, r⟩
  · subst p; subst p'
    rw [hb0]
    intro e3
    cases e3
    exact ks'.2 (H.old.apart d1 j1 o _ d2 j2 _ ks'.1 m z em rfl hb)
  · exact H.dis d1 j1 o b1 d' j' o' ks'.1 m z (r.symm.trans q') m'

theorem asMap_sound {c0 : Call} {a0 : Act} (H : Two c c0 a a0 w st g st0 g0) {v : Value} {x : LV C.S.U} (hv : RepL g st.mem st.cnt v x) {kt vt : Ty} {ks : List (El C.S.U kt)} {vs : List (El C.S.U vt)} {st' : St C.S.U} (e : asMap st kt vt x = some (ks, vs, st')) (s : Nat) :
    ∃ b cap, Two c c0 a a0 w st' g (newObj' s (.map kt vt ks vs) st0) (g0.new s (st0.cnt s + 1) b cap) ∧ RepL (g0.new s (st0.cnt s + 1) b cap) (newObj' s (.map kt vt ks vs) st0).mem (newObj' s (.map kt vt ks vs) st0).cnt v (.mp s (st0.cnt s + 1)) ∧ st'.sl = st.sl ∧ st'.cnt = st.cnt ∧ Memle st.mem st'.mem st.cnt := by
  obtain ⟨d, j, rfl, em, ek⟩ := asMap_mp e
  have ek : st' = kill st d j := ek
  have em : st.mem d j = some (.map kt vt ks vs) := em
  subst ek
  obtain ⟨hj, b, hb, hv⟩ := hv
  obtain ⟨b', es, clock, o1, o2, o3, o4⟩ := H.old.objs d j _ em
  rw [hb] at o1
  cases o1
  have hown := H.old.own d j _ b em rfl hb
  have hg := Ext.new g0 st0.cnt s (some b) 0
  have N := H.new.newG s (.map kt vt ks vs) (some b) 0 (fun b' q => by
    cases q
    exact ⟨by rw [H.M]; exact hown.1, H.sub _ hown.2, fun d1 j1 o1' q1 m1 => H.dis d j _ b d1 j1 o1' em rfl hb q1 m1⟩) ⟨b, es, clock, upd2_same _ _ _ _, o2, by show All2 (fun (e : MapEntry) (x : El C.S.U kt) => RepV C.S g0.M kt e.key x) _ _; rw [H.M]; exact o3, by show All2 (fun (e : MapEntry) (x : El C.S.U vt) => RepV C.S g0.M vt e.val x) _ _; rw [H.M]; exact o4⟩
  have hgb : (g0.new s (st0.cnt s + 1) (some b) 0).β s (st0.cnt s + 1) = some b := upd2_same _ _ _ _
  refine ⟨some b, 0, ⟨H.old.kill d j, N, H.M, fun d1 j1 o b1 d' j' o' q m z q' m' => ?_, H.sub⟩, ⟨by show _ ≤ upd st0.cnt s (st0.cnt s + 1) s; rw [upd_same]; exact Nat.le_refl _, b, hgb, hv⟩, rfl, rfl, Memle.kill _ _ _ _⟩
  have ks' := kill_sub q
  rcases upd2_cases st0.mem s (st0.cnt s + 1) (some (.map kt vt ks vs)) d' j' with ⟨p1, p', r⟩ | ⟨p1, r⟩
  · subst p1; subst p'
    rw [show (g0.new d' (st0.cnt d' + 1) (some b) 0).β d' (st0.cnt d' + 1) = some b from upd2_same _ _ _ _]
    intro e3
    cases e3
    exact ks'.2 (H.old.apart d1 j1 o b d j _ ks'.1 m z em rfl hb)
  · have q2 : st0.mem d' j' = some o' := r.symm.trans q'
    rw [hg.β d' j' (H.new.live q2)]
    exact H.dis d1 j1 o b1 d' j' o' ks'.1 m z q2 m'

theorem asRow_bld {S : Sg} {st st' : St S.U} {E : Nat} {t : Ty} {x : LV S.U} {y : List (El S.U t)} (e : asRow st E t x = some (y, st')) {d j T : Nat} {z : LV S.U} (em : st.mem d j = some (.bld T z)) : st'.mem d j = some (.bld T z) := by
  cases x with
  | nils => cases e; exact em
  | row d' j' =>
    simp only [asRow] at e
    split at e
    · rename_i E' u xs em'
      cases q : Nat.beq E E' with
      | false => rw [q] at e; cases e
      | true =>
        rw [q] at e
        simp only [cond_true] at e
        split at e
        · cases e
          show upd2 st.mem d' j' none d j = _
          rw [upd2_other _ _ _ _ (fun q => by rw [q.1, q.2, em'] at em; cases em)]
          exact em
        · cases e
    · cases e
  | _ => cases e
end
end Go.Proofs.YthmedjljckbidaaDoor.Lift
