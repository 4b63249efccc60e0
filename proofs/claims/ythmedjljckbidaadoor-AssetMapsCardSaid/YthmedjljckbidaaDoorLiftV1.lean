/- Boxes handed over to a call, and handed back. Conditions: as each theorem states them. -/
import Derived.Test.YthmedjljckbidaaDoorLiftV
set_option linter.unusedVariables false
namespace Go.Proofs.YthmedjljckbidaaDoor.Lift
section
variable {P : Program} {C : Ctx} {c c0 : Call} {st st0 : St C.S.U} {a a0 : Act} {w : World} {g g0 : Gh}

/-- A call that turned only blocks that nothing here speaks of. -/
theorem Rel.after (h : Rel c st a w g) {X : Nat → Prop} {w' : World} (k : Keep w.heap.size X w w') (hX : ∀ b, X b → (c.base ≤ b ∨ c.X b) ∧ g.M b = none ∧ ∀ d j o, st.mem d j = some o → o.mut = true → g.β d j ≠ some b) : Rel c st a w' g :=
  { agree := fun b cs e => by
      obtain ⟨E, f, q⟩ := h.agree b cs e
      exact ⟨E, f, (k.block b (lt_of_heap q) fun z => by rw [(hX b z).2.1] at e; cases e).trans q⟩
    slots := h.slots
    objs := fun d j o e => RepO.mono (Ext.refl g st.cnt) (Memle.refl _ _) (fun _ => Nat.le_refl _) (h.live e) (fun hm b hb => k.block b ((h.objs d j o e).lt hm hb) fun z => (hX b z).2.2 d j o e hm hb) (h.objs d j o e)
    own := h.own
    apart := h.apart
    fresh := h.fresh
    size := h.size
    defers := h.defers
    pin := h.pin
    gpin := h.gpin
    glob := h.glob
    keep := h.keep.trans ⟨k.os, k.tape, k.output, k.size, fun i hi hx => k.block i (Nat.lt_of_lt_of_le hi h.ge) fun z => (hX i z).1.elim (fun q => by omega) hx⟩
    ge := Nat.le_trans h.ge k.size
    m0 := h.m0
    mb := h.mb }

theorem fzC_all : ∀ (cs : List DC) (l : List (LV C.S.U)) (vs : List Value) (st : St C.S.U) (g : Gh), Rel c st a w g → All2 (RepL g st.mem st.cnt) vs l → ∃ g', Rel c (fzC cs l st) a w g' ∧ Ext g g' st.cnt ∧ (fzC cs l st).cnt = st.cnt ∧ Memle st.mem (fzC cs l st).mem st.cnt
  | [], [], _, st, g, h, _ => ⟨g, h, Ext.refl _ _, rfl, Memle.refl _ _⟩
  | [], _ :: _, _, st, g, h, _ => ⟨g, h, Ext.refl _ _, rfl, Memle.refl _ _⟩
  | .d _ :: _, [], _, st, g, h, _ => ⟨g, h, Ext.refl _ _, rfl, Memle.refl _ _⟩
  | .row _ _ :: _, [], _, st, g, h, _ => ⟨g, h, Ext.refl _ _, rfl, Memle.refl _ _⟩
  | .mp _ _ :: _, [], _, st, g, h, _ => ⟨g, h, Ext.refl _ _, rfl, Memle.refl _ _⟩
  | .clo _ _ :: _, [], _, st, g, h, _ => ⟨g, h, Ext.refl _ _, rfl, Memle.refl _ _⟩
  | .clo _ _ :: cs, _ :: l, _, st, g, h, .cons hx hl => fzC_all cs l _ st g h hl
  | .d _ :: cs, x :: l, _, st, g, h, .cons hx hl => by
    obtain ⟨g1, h1, h2, h3, h4⟩ := h.frz hx
    have e := (frz_cnt st x).1
    obtain ⟨g2, k1, k2, k3, k4⟩ := fzC_all cs l _ _ g1 h1 (All2.imp (fun u y q => by rw [e]; exact RepL.mono h2 (frz_memle st x _) (fun _ => Nat.le_refl _) u y q) hl)
    rw [e] at k2 k4
    exact ⟨g2, k1, h2.trans k2 (fun _ => Nat.le_refl _), k3.trans e, (frz_memle st x st.cnt).trans k4 (fun _ => Nat.le_refl _)⟩
  | .row _ _ :: cs, _ :: l, _, st, g, h, .cons hx hl => fzC_all cs l _ st g h hl
  | .mp _ _ :: cs, _ :: l, _, st, g, h, .cons hx hl => fzC_all cs l _ st g h hl

theorem fzR_sound (hS : SgOk C.S) (m : Nm) : ∀ (pm : List PM) (args : List (AV C.S.U)) (vals : List Value) (st : St C.S.U) (g : Gh), Rel c st a w g → All2 (RepA g st.mem st.cnt) vals args → ∃ g', Rel c (fzR m pm args st) a w g' ∧ Ext g g' st.cnt ∧ (fzR m pm args st).cnt = st.cnt ∧ Memle st.mem (fzR m pm args st).mem st.cnt := by
  intro pm
  induction pm with
  | nil => intro args vals st g h hv; exact ⟨g, by cases args <;> exact h, Ext.refl _ _, by cases args <;> rfl, by cases args <;> exact Memle.refl _ _⟩
  | cons p pm ih =>
    intro args vals st g h hv
    cases p with
    | gh s cs =>
      have one : ∀ (st' : St C.S.U) (g1 : Gh), Rel c st' a w g1 → Ext g g1 st.cnt → st'.cnt = st.cnt → Memle st.mem st'.mem st.cnt → ∃ g', Rel c (fzR m pm args st') a w g' ∧ Ext g g' st.cnt ∧ (fzR m pm args st').cnt = st.cnt ∧ Memle st.mem (fzR m pm args st').mem st.cnt := fun st' g1 h1 h2 e h4 => by
        obtain ⟨g2, k1, k2, k3, k4⟩ := ih args vals st' g1 h1 (All2.imp (fun u y q => by rw [e]; exact RepA.mono h2 h4 (fun _ => Nat.le_refl _) q) hv)
        rw [e] at k2 k4
        exact ⟨g2, k1, h2.trans k2 (fun _ => Nat.le_refl _), k3.trans e, h4.trans k4 (fun _ => Nat.le_refl _)⟩
      have same := one st g h (Ext.refl _ _) rfl (Memle.refl _ _)
      simp only [fzR]
      split
      · rename_i d j _
        split
        · rename_i l em
          obtain ⟨b, E, vs, _, _, q3, _⟩ := h.objs d j _ em
          obtain ⟨g1, h1, h2, h3, h4⟩ := fzC_all cs l _ st g h q3
          exact one _ g1 h1 h2 h3 h4
        · exact same
      · exact same
    | _ =>
    cases hv with
    | nil => exact ⟨g, h, Ext.refl _ _, rfl, Memle.refl _ _⟩
    | cons hx hv =>
    rename_i v x vals args
    have one : ∀ (st' : St C.S.U) (g1 : Gh), Rel c st' a w g1 → Ext g g1 st.cnt → st'.cnt = st.cnt → Memle st.mem st'.mem st.cnt → ∃ g', Rel c (fzR m pm args st') a w g' ∧ Ext g g' st.cnt ∧ (fzR m pm args st').cnt = st.cnt ∧ Memle st.mem (fzR m pm args st').mem st.cnt := fun st' g1 h1 h2 e h4 => by
      obtain ⟨g2, k1, k2, k3, k4⟩ := ih args vals st' g1 h1 (All2.imp (fun u y q => by rw [e]; exact RepA.mono h2 h4 (fun _ => Nat.le_refl _) q) hv)
      rw [e] at k2 k4
      exact ⟨g2, k1, h2.trans k2 (fun _ => Nat.le_refl _), k3.trans e, h4.trans k4 (fun _ => Nat.le_refl _)⟩
    have same := one st g h (Ext.refl _ _) rfl (Memle.refl _ _)
    first
      | exact same
      | (obtain ⟨g1, h1, h2, h3, h4⟩ := h.frzA hS hx
         exact one _ g1 h1 h2 (frzA_cnt st x).1 (frzA_memle st x _))
      | (cases x with
         | l x =>
           cases x with
           | ref d j o =>
             simp only [fzR]
             split
             · rename_i l em
               obtain ⟨b, E, vs, _, _, q3, _⟩ := h.objs d j _ em
               obtain ⟨g1, h1, h2, h3, h4⟩ := fzC_all _ l _ st g h q3
               exact one _ g1 h1 h2 h3 h4
             · exact same
           | _ => exact same
         | _ => exact same)

/-- The boxes among the arguments are whole variables. -/
def RefsOk {U : Nat → Type} (m : Nm) (cnt : Nat → Nat) : List PM → List (AV U) → Prop
  | [], [] => True
  | .gh s _ :: r, as => (∃ d j, lkp s m = some (d, j) ∧ 0 < cnt d ∧ j ≤ cnt d) ∧ RefsOk m cnt r as
  | .ref _ :: r, x :: as => (∃ d j, x = .l (.ref d j 0) ∧ 0 < cnt d) ∧ RefsOk m cnt r as
  | .mp _ _ :: r, x :: as => (∃ d j, x = .l (.mp d j)) ∧ RefsOk m cnt r as
  | .d _ :: r, _ :: as => RefsOk m cnt r as
  | .iv _ _ :: r, _ :: as => RefsOk m cnt r as
  | .fn _ :: r, _ :: as => RefsOk m cnt r as
  | .clo _ _ :: r, _ :: as => RefsOk m cnt r as
  | .rw _ _ :: r, _ :: as => RefsOk m cnt r as
  | .nl :: r, _ :: as => RefsOk m cnt r as
  | _, _ => False

theorem RefsOk.mono {U : Nat → Type} {m : Nm} {cnt cnt' : Nat → Nat} (h : ∀ d, cnt d ≤ cnt' d) : ∀ {pm : List PM} {as : List (AV U)}, RefsOk m cnt pm as → RefsOk m cnt' pm as
  | [], [], _ => trivial
  | .gh _ _ :: r, as, ⟨⟨d, j, e, k, k2⟩, q⟩ => ⟨⟨d, j, e, Nat.lt_of_lt_of_le k (h d), Nat.le_trans k2 (h d)⟩, RefsOk.mono h q⟩
  | .ref _ :: r, x :: as, ⟨⟨d, j, e, k⟩, q⟩ => ⟨⟨d, j, e, Nat.lt_of_lt_of_le k (h d)⟩, RefsOk.mono h q⟩
  | .mp _ _ :: r, x :: as, ⟨e, q⟩ => ⟨e, RefsOk.mono h q⟩
  | .d _ :: r, _ :: as, q => RefsOk.mono (pm := r) h q
  | .iv _ _ :: r, _ :: as, q => RefsOk.mono (pm := r) h q
  | .fn _ :: r, _ :: as, q => RefsOk.mono (pm := r) h q
  | .clo _ _ :: r, _ :: as, q => RefsOk.mono (pm := r) h q
  | .rw _ _ :: r, _ :: as, q => RefsOk.mono (pm := r) h q
  | .nl :: r, _ :: as, q => RefsOk.mono (pm := r) h q
  | .rw _ _ :: _, [], q => q.elim
  | .nl :: _, [], q => q.elim
  | [], _ :: _, q => q.elim
  | .ref _ :: _, [], q => q.elim
  | .d _ :: _, [], q => q.elim
  | .iv _ _ :: _, [], q => q.elim
  | .fn _ :: _, [], q => q.elim
  | .clo _ _ :: _, [], q => q.elim
  | .mp _ _ :: _, [], q => q.elim

theorem RefsOk.gs {U : Nat → Type} {m : Nm} {cnt : Nat → Nat} : ∀ {pm : List PM} {as : List (AV U)}, RefsOk m cnt pm as → ∀ s ∈ PM.gs pm, ∃ d j, lkp s m = some (d, j) ∧ j ≤ cnt d
  | [], [], _, _, h => nomatch h
  | .gh _ _ :: r, as, ⟨⟨d, j, e, k, k2⟩, q⟩, s, h => by
    rcases List.mem_cons.1 h with rfl | h
    · exact ⟨d, j, e, k2⟩
    · exact RefsOk.gs q s h
  | .ref _ :: r, x :: as, ⟨_, q⟩, s, h => RefsOk.gs q s h
  | .mp _ _ :: r, x :: as, ⟨_, q⟩, s, h => RefsOk.gs q s h
  | .d _ :: r, _ :: as, q, s, h => RefsOk.gs (pm := r) q s h
  | .iv _ _ :: r, _ :: as, q, s, h => RefsOk.gs (pm := r) q s h
  | .fn _ :: r, _ :: as, q, s, h => RefsOk.gs (pm := r) q s h
  | .clo _ _ :: r, _ :: as, q, s, h => RefsOk.gs (pm := r) q s h
  | .rw _ _ :: r, _ :: as, q, s, h => RefsOk.gs (pm := r) q s h
  | .nl :: r, _ :: as, q, s, h => RefsOk.gs (pm := r) q s h
  | .rw _ _ :: _, [], q, _, _ => q.elim
  | .nl :: _, [], q, _, _ => q.elim
  | [], _ :: _, q, _, _ => q.elim
  | .ref _ :: _, [], q, _, _ => q.elim
  | .d _ :: _, [], q, _, _ => q.elim
  | .iv _ _ :: _, [], q, _, _ => q.elim
  | .fn _ :: _, [], q, _, _ => q.elim
  | .clo _ _ :: _, [], q, _, _ => q.elim
  | .mp _ _ :: _, [], q, _, _ => q.elim

theorem asRowA_eq {U : Nat → Type} {st : St U} {E : Nat} {t : Ty} {x : AV U} {y : List (El U t) × St U} (h : asRowA st E t x = some y) : ∃ d j, x = .l (.row d j) ∧ asRow st E t (.row d j) = some y := by
  cases x with
  | l x =>
    cases x with
    | row d j => exact ⟨d, j, rfl, h⟩
    | _ => cases h
  | _ => cases h

theorem slotsR_sound (hS : SgOk C.S) (m : Nm) (lim : Nat) : ∀ (pm : List PM) (i : Nat) (vals : List Value) (args : List (AV C.S.U)) (st : St C.S.U) (st0 : St C.S.U) (g0 : Gh) (h : HL C.S.U (PM.tys pm)) (st1 : St C.S.U), Two c c0 a a0 w st g st0 g0 → Nms m [] g g0 st0.cnt → (∀ j, i ≤ j → j < lim → st0.cnt j = 0) → i + PM.np pm ≤ lim → (∃ n, lim ≤ n ∧ incrB n (PM.gs pm) = true) → (∀ s ∈ PM.gs pm, st0.cnt s = 1) →
    (∀ k v, vals[k]? = some v → a0.tmps.getD (i + k) undef = v) → All2 (RepA g st.mem st.cnt) vals args → argsR C.S m pm args st = some (h, st1) →
    ∃ g0', Two c c0 a a0 w st1 g (slotsOf C.S.U i pm h st0) g0' ∧ st1.cnt = st.cnt ∧ RefsOk m st.cnt pm args ∧ Memle st.mem st1.mem st.cnt := by
  intro pm
  induction pm with
  | nil =>
    intro i vals args st st0 g0 h st1 H _ _ _ _ _ hs hv e
    cases args with
    | nil => cases e; exact ⟨g0, H, rfl, trivial, Memle.refl _ _⟩
    | cons _ _ => cases e
  | cons p pm ih =>
    intro i vals args st st0 g0 h st1 H hN hz hlim hG hG1 hs hv e
    cases p with
    | gh s cs =>
      obtain ⟨n, hn1, hn2⟩ := hG
      simp only [PM.gs, incrB, Bool.and_eq_true] at hn2
      have hns : n ≤ s := Nat.le_of_ble_eq_true hn2.1
      simp only [argsR] at e
      split at e
      · rename_i d j el
        split at e
        · rename_i l em
          cases hpos : Nat.blt 0 (st.cnt d) with
          | false => rw [hpos] at e; cases e
          | true =>
          rw [hpos] at e
          simp only [cond_true] at e
          split at e
          · rename_i y st2 ey
            split at e
            · rename_i h2 st3 e2
              cases e
              obtain ⟨b, E, vs, o1, _⟩ := H.old.objs d j _ em
              obtain ⟨n1, n2⟩ := hN s d j el
              obtain ⟨g0', k1, k2, k3, k4, k5, k6, k7⟩ := box_sound hS H hN em o1 n2 (n1.trans o1) (i := 0) (hG1 s (List.mem_cons_self ..)) (Nat.le_refl 1) ey
              obtain ⟨g3, l1, l2, l3, l4⟩ := ih i vals args st2 _ g0' h2 st1 k1 (hN.mono k2 k4) (fun j' a1 a2 => by
                show upd st0.cnt s _ j' = 0
                rw [upd_other _ _ _ (by omega)]
                exact hz j' a1 a2) hlim ⟨s + 1, by omega, hn2.2⟩ (fun s' hs' => by
                have := incr_ge hn2.2 s' hs'
                show upd st0.cnt s _ s' = 1
                rw [upd_other _ _ _ (by omega)]
                exact hG1 s' (List.mem_cons_of_mem _ hs')) hs (All2.imp (fun u z q => by rw [k6]; exact RepA.mono (Ext.refl _ _) k7 (fun _ => Nat.le_refl _) q) hv) e2
              rw [k6] at l2 l3 l4
              refine ⟨g3, ?_, l2, ⟨⟨d, j, el, by rw [Nat.blt_eq] at hpos; exact hpos, H.old.live em⟩, l3⟩, k7.trans l4 (fun _ => Nat.le_refl _)⟩
              simp only [slotsOf, spl_app]
              simp only [Nat.zero_add] at l1
              exact l1
            · cases e
          · cases e
        · cases e
      · cases e
    | _ =>
    cases hv with
    | nil => cases e
    | cons hx hv =>
    rename_i v x vals args
    have hv0 : a0.tmps.getD i undef = v := hs 0 v rfl
    have hs' : ∀ k u, vals[k]? = some u → a0.tmps.getD (i + 1 + k) undef = u := fun k u hk => by
      have := hs (k + 1) u (by simpa using hk)
      rw [← this]; congr 1; omega
    have hlim' : i + 1 + PM.np pm ≤ lim := by simp only [PM.np] at hlim; omega
    have hilim : i < lim := by omega
    have hc0 := hz i (Nat.le_refl _) hilim
    have hz0 : ∀ j, i + 1 ≤ j → j < lim → st0.cnt j = 0 := fun j hj hl => hz j (by omega) hl
    have hz1 : ∀ x, ∀ j, i + 1 ≤ j → j < lim → upd st0.cnt i x j = 0 := fun x j hj hl => by
      rw [upd_other _ _ _ (by omega)]
      exact hz j (by omega) hl
    have hG' : ∃ n, lim ≤ n ∧ incrB n (PM.gs pm) = true := hG
    have hG0 : ∀ s ∈ PM.gs pm, st0.cnt s = 1 := hG1
    have hG2 : ∀ x, ∀ s ∈ PM.gs pm, upd st0.cnt i x s = 1 := fun x s hs => by
      obtain ⟨n, n1, n2⟩ := hG'
      have := incr_ge n2 s hs
      rw [upd_other _ _ _ (by omega)]
      exact hG0 s hs
    first
    | (simp only [argsR] at e
       cases q : isNilA x with
       | false => rw [q] at e; cases e
       | true =>
         rw [q] at e
         obtain rfl := isNilA_eq q
         have e : argsR C.S m pm args st = some (h, st1) := e
         have K := H.new.say i (x := .l .nils) (by rw [hv0]; exact hx)
         exact ih (i + 1) vals args st _ g0 h st1 ⟨H.old, K, H.M, H.dis, H.sub⟩ hN hz0 hlim' hG' hG0 hs' hv e)
    | (rename_i E t
       simp only [argsR] at e
       split at e
       · rename_i y st2 ey
         split at e
         · rename_i h2 st3 e2
           cases e
           obtain ⟨dr, jr, rfl, ey⟩ := asRowA_eq ey
           obtain ⟨b, cap, H', q1, q2, q3, q4⟩ := asRow_sound H hx ey i
           have K2 := H'.new.say i (x := .l (.row i (st0.cnt i + 1))) (by rw [hv0]; exact q1)
           have H2 : Two c c0 a a0 w st2 g { newObj' i (.row E t y) st0 with sl := upd st0.sl i (.l (.row i (st0.cnt i + 1))) } (g0.new i (st0.cnt i + 1) b cap) := ⟨H'.old, K2, H'.M, H'.dis, H'.sub⟩
           have hNk := hN.mono (Ext.new g0 st0.cnt i b cap) (cnt_le st0.cnt i)
           simp only [newObj', hc0] at H2 hNk
           obtain ⟨g3, l1, l2, l3, l4⟩ := ih (i + 1) vals args st2 _ _ h2 st1 H2 hNk (hz1 1) hlim' hG' (hG2 1) hs' (All2.imp (fun u z q => by rw [q3]; exact RepA.mono (Ext.refl _ _) q4 (fun _ => Nat.le_refl _) q) hv) e2
           rw [q3] at l2 l3 l4
           exact ⟨g3, l1, l2, l3, q4.trans l4 (fun _ => Nat.le_refl _)⟩
         · cases e
       · cases e)
    | (rename_i kt vt
       cases x with
       | l x =>
         simp only [argsR] at e
         split at e
         · rename_i ks ms st2 ey
           split at e
           · rename_i h2 st3 e2
             cases e
             obtain ⟨b, cap, H', q1, q2, q3, q4⟩ := asMap_sound H hx ey i
             obtain ⟨dm, jm, hxm, _⟩ := asMap_mp ey
             have K2 := H'.new.say i (x := .l (.mp i (st0.cnt i + 1))) (by rw [hv0]; exact q1)
             have H2 : Two c c0 a a0 w st2 g { newObj' i (.map kt vt ks ms) st0 with sl := upd st0.sl i (.l (.mp i (st0.cnt i + 1))) } (g0.new i (st0.cnt i + 1) b cap) := ⟨H'.old, K2, H'.M, H'.dis, H'.sub⟩
             have hNk := hN.mono (Ext.new g0 st0.cnt i b cap) (cnt_le st0.cnt i)
             simp only [newObj', hc0] at H2 hNk
             obtain ⟨g3, l1, l2, l3, l4⟩ := ih (i + 1) vals args st2 _ _ h2 st1 H2 hNk (hz1 1) hlim' hG' (hG2 1) hs' (All2.imp (fun u z q => by rw [q3]; exact RepA.mono (Ext.refl _ _) q4 (fun _ => Nat.le_refl _) q) hv) e2
             rw [q3] at l2 l3 l4
             exact ⟨g3, l1, l2, ⟨⟨dm, jm, by rw [hxm]⟩, l3⟩, q4.trans l4 (fun _ => Nat.le_refl _)⟩
           · cases e
         · cases e
       | _ => cases e)
    | (rename_i t
       simp only [argsR] at e
       split at e
       · rename_i y ey
         split at e
         · rename_i h2 st2 e2
           cases e
           have hr := toF_sound hS H.old hx ey
           let bb : Bool := match t, y with | .bool, b => b | _, _ => false
           have K := H.new.key i none bb
           have hNk := hN.mono (Ext.key g0 st0.cnt i none bb) (cnt_le st0.cnt i)
           rw [hc0] at K hNk
           have hM : (g0.key i (0 + 1) none bb).M = g.M := H.M
           have hsay : RepA (g0.key i (0 + 1) none bb) st0.mem (upd st0.cnt i (0 + 1)) (a0.tmps.getD i undef) (.l (tagV i t y)) := by
             rw [hv0]
             have hr' : RepV C.S (g0.key i (0 + 1) none bb).M t v y := by rw [hM]; exact hr
             cases t with
             | bool =>
               have hb : v = .bool y := by have := RepV.leaf (S := C.S) rfl hr'; cases this; rfl
               exact ⟨hb, upd2_same _ _ _ _, by rw [upd_same]; exact Nat.le_refl _⟩
             | _ => exact hr'
           have K2 := K.say i hsay
           have H' : Two c c0 a a0 w st g { st0 with sl := upd st0.sl i (.l (tagV i t y)), cnt := upd st0.cnt i 1 } (g0.key i (0 + 1) none bb) := ⟨H.old, K2, hM, fun d j o b d' j' o' q m z q' m' => by
             have := (Ext.key g0 st0.cnt i none bb).β d' j' (H.new.live q')
             rw [hc0] at this
             rw [this]
             exact H.dis d j o b d' j' o' q m z q' m', H.sub⟩
           obtain ⟨g0', k1, k2, k3, k4⟩ := ih (i + 1) vals args st _ _ h2 st1 H' hNk (hz1 1) hlim' hG' (hG2 1) hs' hv e2
           exact ⟨g0', k1, k2, k3, k4⟩
         · cases e
       · cases e)
    | (rename_i T t
       cases x with
       | ifv T' x =>
         simp only [argsR] at e
         cases q : Nat.beq T T' with
         | false => rw [q] at e; cases e
         | true =>
           rw [q] at e
           have := Nat.eq_of_beq_eq_true q
           subst this
           simp only [cond_true] at e
           split at e
           · rename_i y ey
             split at e
             · rename_i h2 st2 e2
               cases e
               obtain ⟨u, hu, hx⟩ := hx
               have hr := toF_sound hS H.old (x := .l x) hx ey
               have K := H.new.say i (x := .ifv T (.v t y)) ⟨u, hv0.trans hu, by show RepV C.S g0.M t u y; rw [H.M]; exact hr⟩
               exact ih (i + 1) vals args st _ g0 h2 st1 ⟨H.old, K, H.M, H.dis, H.sub⟩ hN hz0 hlim' hG' hG0 hs' hv e2
             · cases e
           · cases e
       | _ => cases e)
    | (rename_i f caps
       cases x with
       | l x =>
         cases x with
         | clo f' ks =>
           simp only [argsR] at e
           cases q : (Nat.beq f f' && capsOk m caps ks) with
           | false =>
             have q' : (and (Nat.beq f f') (capsOk m caps ks)) = false := q
             rw [q'] at e; cases e
           | true =>
             have q' : (and (Nat.beq f f') (capsOk m caps ks)) = true := q
             rw [q'] at e
             have e : argsR C.S m pm args st = some (h, st1) := e
             have K := H.new.say i (x := .l (.clo f (capsOf [] caps))) (by
               rw [hv0]
               exact clo_sound (C := C) (mm := st.mem) (cnt := st.cnt) (mm0 := st0.mem) hN q hx)
             exact ih (i + 1) vals args st _ g0 h st1 ⟨H.old, K, H.M, H.dis, H.sub⟩ hN hz0 hlim' hG' hG0 hs' hv e
         | _ => cases e
       | _ => cases e)
    | (rename_i f
       cases x with
       | l x =>
         cases x with
         | clo f' caps =>
           cases caps with
           | nil =>
             simp only [argsR] at e
             cases q : Nat.beq f f' with
             | false => rw [q] at e; cases e
             | true =>
               rw [q] at e
               have := Nat.eq_of_beq_eq_true q
               subst this
               obtain ⟨us, hu, hus⟩ := hx
               cases hus
               have K := H.new.say i (x := .l (.clo f [])) ⟨[], hv0.trans hu, .nil⟩
               exact ih (i + 1) vals args st _ g0 h st1 ⟨H.old, K, H.M, H.dis, H.sub⟩ hN hz0 hlim' hG' hG0 hs' hv e
           | cons _ _ => cases e
         | _ => cases e
       | _ => cases e)
    | (rename_i cs
       cases x with
       | l x =>
         cases x with
         | ref d j o =>
           cases o with
           | succ o => cases e
           | zero =>
           simp only [argsR] at e
           split at e
           · rename_i l em
             cases hpos : Nat.blt 0 (st.cnt d) with
             | false => rw [hpos] at e; cases e
             | true =>
             rw [hpos] at e
             simp only [cond_true] at e
             split at e
             · rename_i y st2 ey
               split at e
               · rename_i h2 st3 e2
                 cases e
                 obtain ⟨hj, b, hb, hv1⟩ := hx
                 have K := H.new.key i (some b) false
                 have hNk := hN.mono (Ext.key g0 st0.cnt i (some b) false) (cnt_le st0.cnt i)
                 have hβ1 : (g0.key i (st0.cnt i + 1) (some b) false).β i (st0.cnt i + 1) = some b := upd2_same _ _ _ _
                 have hdis : ∀ d j o b1 d' j' o', st.mem d j = some o → o.mut = true → g.β d j = some b1 → st0.mem d' j' = some o' → o'.mut = true → (g0.key i (st0.cnt i + 1) (some b) false).β d' j' ≠ some b1 := fun d j o b1 d' j' o' q m z q' m' => by
                   have := (Ext.key g0 st0.cnt i (some b) false).β d' j' (H.new.live q')
                   rw [this]
                   exact H.dis d j o b1 d' j' o' q m z q' m'
                 have H1 : Two c c0 a a0 w st g { st0 with cnt := upd st0.cnt i (st0.cnt i + 1) } (g0.key i (st0.cnt i + 1) (some b) false) := ⟨H.old, K, H.M, hdis, H.sub⟩
                 obtain ⟨g0', k1, k2, k3, k4, k5, k6, k7⟩ := box_sound hS H1 hNk em hb (s := i) (k := 1) (by show 1 ≤ upd st0.cnt i (st0.cnt i + 1) i; rw [upd_same]; omega) (by rw [hc0] at hβ1; rw [hc0]; exact hβ1) (i := 0) (by show upd st0.cnt i (st0.cnt i + 1) i = _; rw [upd_same, hc0]) (Nat.le_refl 1) ey
                 have h1c : 1 ≤ upd (upd st0.cnt i (st0.cnt i + 1)) i (0 + 1 + cs.length) i := by rw [upd_same]; omega
                 have K3 := k1.new.say i (x := .l (.ref i 1 0)) ⟨h1c, b, (k2.β i 1 (by show 1 ≤ upd st0.cnt i (st0.cnt i + 1) i; rw [upd_same]; omega)).trans (by rw [hc0] at hβ1; rw [hc0]; exact hβ1), hv0.trans hv1⟩
                 have hNn := hNk.mono k2 k4
                 obtain ⟨g3, l1, l2, l3, l4⟩ := ih (i + 1) vals args st2 _ g0' h2 st1 ⟨k1.old, K3, k1.M, k1.dis, k1.sub⟩ hNn (fun j' a1 a2 => by
                   show upd (upd st0.cnt i (st0.cnt i + 1)) i _ j' = 0
                   rw [upd_upd]
                   exact hz1 _ j' a1 a2) hlim' hG' (fun s' hs' => by
                   show upd (upd st0.cnt i (st0.cnt i + 1)) i _ s' = 1
                   rw [upd_upd]
                   exact hG2 _ s' hs') hs' (All2.imp (fun u z q => by rw [k6]; exact RepA.mono (Ext.refl _ _) k7 (fun _ => Nat.le_refl _) q) hv) e2
                 rw [k6] at l2 l3 l4
                 refine ⟨g3, ?_, l2, ⟨⟨d, j, rfl, by rw [Nat.blt_eq] at hpos; exact hpos⟩, l3⟩, k7.trans l4 (fun _ => Nat.le_refl _)⟩
                 simp only [slotsOf, spl_app]
                 simp only [upd_upd, Nat.zero_add] at l1
                 exact l1
               · cases e
             · cases e
           · cases e
         | _ => cases e
       | _ => cases e)
where
  incr_ge {n : Nat} : ∀ {l : List Nat}, incrB n l = true → ∀ s ∈ l, n ≤ s
    | [], _, s, h => nomatch h
    | a :: l, q, s, h => by
      simp only [incrB, Bool.and_eq_true] at q
      have := Nat.le_of_ble_eq_true q.1
      rcases List.mem_cons.1 h with rfl | h
      · exact this
      · have := incr_ge q.2 s h; omega

theorem pins_ge : ∀ (pm : List PM) (i : Nat), ∀ k ∈ PM.pins i pm, i ≤ k ∧ k < i + PM.np pm
  | [], _, _, h => nomatch h
  | .ref _ :: r, i, k, h => by
    rcases List.mem_cons.1 h with rfl | h
    · simp only [PM.np]; omega
    · have := pins_ge r (i + 1) k h; simp only [PM.np]; omega
  | .d _ :: r, i, k, h => by have := pins_ge r (i + 1) k h; simp only [PM.np]; omega
  | .iv _ _ :: r, i, k, h => by have := pins_ge r (i + 1) k h; simp only [PM.np]; omega
  | .fn _ :: r, i, k, h => by have := pins_ge r (i + 1) k h; simp only [PM.np]; omega
  | .clo _ _ :: r, i, k, h => by have := pins_ge r (i + 1) k h; simp only [PM.np]; omega
  | .rw _ _ :: r, i, k, h => by have := pins_ge r (i + 1) k h; simp only [PM.np]; omega
  | .nl :: r, i, k, h => by have := pins_ge r (i + 1) k h; simp only [PM.np]; omega
  | .mp _ _ :: r, i, k, h => by
    rcases List.mem_cons.1 h with rfl | h
    · simp only [PM.np]; omega
    · have := pins_ge r (i + 1) k h; simp only [PM.np]; omega
  | .gh _ _ :: r, i, k, h => by have := pins_ge r i k h; simp only [PM.np]; omega

/-- What the call has left in the boxes is told of again by the caller's names. -/
theorem back_sound (hS : SgOk C.S) (ms μ : Nm) : ∀ (pm : List PM) (i : Nat) (vals : List Value) (args : List (AV C.S.U)) (st : St C.S.U) (st0 : St C.S.U) (g0 : Gh) (h : HL C.S.U (PM.outs pm)), Two c c0 a a0 w st g st0 g0 → Nms ms μ g g0 st0.cnt → (∀ s ∈ PM.gs pm, lkp s ms = some (s, 1)) →
    (∀ k ∈ PM.pins i pm, ∀ v, vals[k - i]? = some v → a.tmps.getD k undef = v) → All2 (RepA g0 st0.mem st0.cnt) vals args → RefsOk μ st0.cnt pm args → outsR C.S ms i pm st = some h →
    ∃ g0', Rel c0 (backR μ pm args h st0) a0 w g0' ∧ Ext g0 g0' st0.cnt ∧ (∀ d, st0.cnt d ≤ (backR μ pm args h st0).cnt d) ∧ Mle g.M g0'.M ∧ Memle st0.mem (backR μ pm args h st0).mem st0.cnt := by
  intro pm
  induction pm with
  | nil =>
    intro i vals args st st0 g0 h H _ _ _ _ hq _
    cases args with
    | nil => exact ⟨g0, H.new, Ext.refl _ _, fun _ => Nat.le_refl _, by rw [H.M]; exact Mle.refl _, Memle.refl _ _⟩
    | cons _ _ => exact hq.elim
  | cons p pm ih =>
    intro i vals args st st0 g0 h H hN hms hp hv hq e
    cases p with
    | gh s cs =>
      obtain ⟨⟨d, j, el, hpos, hj⟩, hq⟩ := hq
      simp only [outsR] at e
      split at e
      · rename_i l em
        split at e
        · rename_i y st2 ey
          split at e
          · rename_i h2 e2
            cases e
            obtain ⟨b, E, vs, o1, _⟩ := H.old.objs s 1 _ em
            obtain ⟨n1, n2⟩ := hN s s 1 (hms s (List.mem_cons_self ..))
            have ht : tgt μ s = (d, j) := by unfold tgt; rw [el]
            rw [ht] at n1 n2
            obtain ⟨g0', k1, k2, k3, k4, k5, k6, k7⟩ := box_sound hS H hN em o1 (s := d) (k := j) hj (n1.trans o1) (i := st0.cnt d - 1) (by omega) (by omega) ey
            obtain ⟨g3, l1, l2, l3, l4, l5⟩ := ih i vals args st2 _ g0' h2 k1 (hN.mono k2 k4) (fun s' hs' => hms s' (List.mem_cons_of_mem _ hs')) hp (All2.imp (fun u z q => RepA.mono k2 k3 k4 q) hv) (hq.mono k4) e2
            refine ⟨g3, ?_, k2.trans l2 k4, ?_, l4, ?_⟩
            · simp only [backR, el, spl_app]
              exact l1
            · intro d1
              refine Nat.le_trans (k4 d1) ?_
              simp only [backR, el, spl_app]
              exact l3 d1
            · simp only [backR, el, spl_app]
              exact k3.trans l5 k4
          · cases e
        · cases e
      · cases e
    | _ =>
    cases hv with
    | nil => exact hq.elim
    | cons hx hv =>
    rename_i v x vals args
    first
    | (have hp' : ∀ k ∈ PM.pins (i + 1) pm, ∀ u, vals[k - (i + 1)]? = some u → a.tmps.getD k undef = u := fun k hk u hu => by
         refine hp k hk u ?_
         have := (pins_ge pm (i + 1) k hk).1
         rw [show k - i = (k - (i + 1)) + 1 by omega]
         simpa using hu
       exact ih (i + 1) vals args st st0 g0 h H hN hms hp' hv hq e)
    | (rename_i kt vt
       have hp' : ∀ k ∈ PM.pins (i + 1) pm, ∀ u, vals[k - (i + 1)]? = some u → a.tmps.getD k undef = u := fun k hk u hu => by
         refine hp k (List.mem_cons_of_mem _ hk) u ?_
         have := (pins_ge pm (i + 1) k hk).1
         rw [show k - i = (k - (i + 1)) + 1 by omega]
         simpa using hu
       obtain ⟨⟨d, j, rfl⟩, hq⟩ := hq
       obtain ⟨hj, b, hb, hv1⟩ := hx
       simp only [outsR] at e
       split at e
       · rename_i x' es
         split at e
         · rename_i ks ms st2 ey
           split at e
           · rename_i h2 e2
             cases e
             obtain ⟨d2, j2, rfl, em, ek⟩ := asMap_mp ey
             have ek : st2 = kill st d2 j2 := ek
             have em : st.mem d2 j2 = some (.map kt vt ks ms) := em
             subst ek
             have hs := H.old.slots i
             rw [es] at hs
             obtain ⟨_, b2, hb2, hv2⟩ := hs
             have hpin := hp i (List.mem_cons_self ..) v (by simp)
             have : b2 = b := by
               rw [hv2, hv1] at hpin
               cases hpin
               rfl
             subst this
             have k1 := map_back H em hb2 hj hb
             have hml := Memle.map st0.mem st0.cnt d j kt vt ks ms
             obtain ⟨g3, l1, l2, l3, l4, l5⟩ := ih (i + 1) vals args _ _ g0 h2 k1 hN hms hp' (All2.imp (fun u z q => RepA.mono (Ext.refl _ _) hml (fun _ => Nat.le_refl _) q) hv) hq e2
             exact ⟨g3, l1, l2, l3, l4, hml.trans l5 (fun _ => Nat.le_refl _)⟩
           · cases e
         · cases e
       · cases e)
    | (rename_i cs
       have hp' : ∀ k ∈ PM.pins (i + 1) pm, ∀ u, vals[k - (i + 1)]? = some u → a.tmps.getD k undef = u := fun k hk u hu => by
         refine hp k (List.mem_cons_of_mem _ hk) u ?_
         have := (pins_ge pm (i + 1) k hk).1
         rw [show k - i = (k - (i + 1)) + 1 by omega]
         simpa using hu
       obtain ⟨⟨d, j, rfl, hpos⟩, hq⟩ := hq
       obtain ⟨hj, b, hb, hv1⟩ := hx
       simp only [outsR] at e
       split at e
       · rename_i d2 j2 es
         split at e
         · rename_i l em
           split at e
           · rename_i y st2 ey
             split at e
             · rename_i h2 e2
               cases e
               have hs := H.old.slots i
               rw [es] at hs
               obtain ⟨_, b2, hb2, hv2⟩ := hs
               have hpin := hp i (List.mem_cons_self ..) v (by simp)
               have : b2 = b := by
                 rw [hv2, hv1] at hpin
                 cases hpin
                 rfl
               subst this
               obtain ⟨g0', k1, k2, k3, k4, k5, k6, k7⟩ := box_sound hS H hN em hb2 (s := d) (k := j) hj hb (i := st0.cnt d - 1) (by omega) (by omega) ey
               obtain ⟨g3, l1, l2, l3, l4, l5⟩ := ih (i + 1) vals args st2 _ g0' h2 k1 (hN.mono k2 k4) hms hp' (All2.imp (fun u z q => RepA.mono k2 k3 k4 q) hv) (hq.mono k4) e2
               refine ⟨g3, ?_, k2.trans l2 k4, ?_, l4, ?_⟩
               · simp only [backR, spl_app]
                 exact l1
               · intro d1
                 refine Nat.le_trans (k4 d1) ?_
                 simp only [backR, spl_app]
                 exact l3 d1
               · simp only [backR, spl_app]
                 exact k3.trans l5 k4
             · cases e
           · cases e
         · cases e
       · cases e)

theorem outs_frz (hS : SgOk C.S) : ∀ (pm : List PM) (i : Nat) (st : St C.S.U) (g : Gh), Rel c st a w g → ∃ g', Rel c (fzOut i pm st) a w g'
  | [], _, st, g, h => ⟨g, h⟩
  | .d _ :: r, i, st, g, h => outs_frz hS r (i + 1) st g h
  | .iv _ _ :: r, i, st, g, h => outs_frz hS r (i + 1) st g h
  | .fn _ :: r, i, st, g, h => outs_frz hS r (i + 1) st g h
  | .clo _ _ :: r, i, st, g, h => outs_frz hS r (i + 1) st g h
  | .mp _ _ :: r, i, st, g, h => outs_frz hS r (i + 1) st g h
  | .rw _ _ :: r, i, st, g, h => outs_frz hS r (i + 1) st g h
  | .nl :: r, i, st, g, h => outs_frz hS r (i + 1) st g h
  | .gh s cs :: r, i, st, g, h => by
    simp only [fzOut]
    split
    · rename_i l em
      obtain ⟨b, E, vs, _, _, q3, _⟩ := h.objs _ _ _ em
      obtain ⟨g1, h1⟩ := fzC_sound cs _ _ st g h q3
      exact outs_frz hS r i _ g1 h1
    · exact outs_frz hS r i st g h
  | .ref cs :: r, i, st, g, h => by
    simp only [fzOut]
    split
    · split
      · rename_i l em
        obtain ⟨b, E, vs, _, _, q3, _⟩ := h.objs _ _ _ em
        obtain ⟨g1, h1⟩ := fzC_sound cs _ _ st g h q3
        exact outs_frz hS r (i + 1) _ g1 h1
      · exact outs_frz hS r (i + 1) st g h
    · exact outs_frz hS r (i + 1) st g h

theorem vars_frz (B : Base P C) : ∀ (vars : List ResultVar) (st : St C.S.U) (g : Gh), Rel c st a w g → ∃ g', Rel c (fzV C vars st) a w g'
  | [], st, g, h => ⟨g, h⟩
  | .tmp d :: r, st, g, h => by
    obtain ⟨g1, h1, _⟩ := h.frzA B.S (h.slots d)
    exact vars_frz B r _ g1 h1
  | .cell d T :: r, st, g, h => by
    simp only [fzV]
    split
    · rename_i d' j o e
      split
      · rename_i z ez
        have hv := h.slots d
        rw [e] at hv
        obtain ⟨u, y, k1, k2, k3⟩ := loadK_sound B.S B.T h (v := a.tmps.getD d undef) hv ez
        cases k2
        obtain ⟨g1, h1, _⟩ := h.frzA B.S k3
        exact vars_frz B r _ g1 h1
      · exact vars_frz B r st g h
    · exact vars_frz B r st g h

theorem resG_sound (B : Base P C) (hr : Rel c st a w g) {t : Ty} {v : ResultVar} {x : El C.S.U t} (h : resG C st t v = some x) : ∃ u, (readRes v a.tmps).run P w = .ok u w ∧ RepV C.S g.M t u x := by
  cases v with
  | tmp d => exact ⟨_, by simp [readRes], toF_sound B.S hr (hr.slots d) h⟩
  | cell d T =>
    simp only [resG] at h
    split at h
    · rename_i d' j o e
      have hv := hr.slots d
      rw [e] at hv
      obtain ⟨u, y, k1, k2, k3⟩ := loadK_sound B.S B.T hr (v := a.tmps.getD d undef) hv h
      obtain ⟨_, b, _, hv⟩ := hv
      refine ⟨u, ?_, toF_sound B.S hr k3 k2⟩
      rw [hv] at k1
      rw [readRes, hv]
      simpa [Instr.loadAt, Instr.sureAddr, asAddr, ptr] using k1
    · cases h

theorem resF_sound (B : Base P C) (hr : Rel c st a w g) : ∀ (rs : List Ty) (vars : List ResultVar) (x : RT C.S.U rs), resF C st rs vars = some x →
    ∃ us : List Value, (vars.mapM fun v => readRes v a.tmps).run P w = .ok us w ∧ RepR C.S g.M rs us x
  | [], [], x, _ => ⟨[], by simp, trivial⟩
  | [], _ :: _, _, h => nomatch h
  | [t], [v], x, h => by
    obtain ⟨u, h1, h2⟩ := resG_sound B hr h
    exact ⟨[u], by simp [h1], h2⟩
  | [_], [], _, h => nomatch h
  | [_], _ :: _ :: _, _, h => nomatch h
  | t :: u :: ts, v :: l, x, h => by
    simp only [resF] at h
    split at h
    · rename_i x1 e1
      split at h
      · rename_i x2 e2
        cases h
        obtain ⟨u1, h1, h2⟩ := resG_sound B hr e1
        obtain ⟨us, k1, k2⟩ := resF_sound B hr (u :: ts) l x2 e2
        exact ⟨u1 :: us, by simp only [List.mapM_cons, Sem.run_bind, h1, Sem.run_pure, Result.andThen_ok, k1], h2, k2⟩
      · cases h
    · cases h
  | _ :: _ :: _, [], _, h => nomatch h

theorem argsR_keyless (m : Nm) : ∀ (pm : List PM) (args : List (AV C.S.U)) (st : St C.S.U), hasRef pm = true → (∀ x ∈ args, keyless x = true) → argsR C.S m pm args st = none
  | [], _, _, h, _ => nomatch h
  | .gh s cs :: r, as, st, h, hk => by
    have h : hasRef r = true := h
    simp only [argsR]
    split
    · split
      · cases Nat.blt 0 _
        · rfl
        · simp only [cond_true]
          split
          · rw [argsR_keyless m r as _ h hk]
          · rfl
      · rfl
    · rfl
  | .d t :: r, [], _, _, _ => rfl
  | .iv T t :: r, [], _, _, _ => rfl
  | .fn f :: r, [], _, _, _ => rfl
  | .ref cs :: r, [], _, _, _ => rfl
  | .clo f cs :: r, [], _, _, _ => rfl
  | .mp _ _ :: r, [], _, _, _ => rfl
  | .rw _ _ :: r, [], _, _, _ => rfl
  | .nl :: r, [], _, _, _ => rfl
  | .rw E t :: r, x :: as, st, _, hk => by
    have := hk x (List.mem_cons_self ..)
    simp only [argsR]
    cases q : asRowA st E t x with
    | none => rfl
    | some y =>
      obtain ⟨d, j, rfl, _⟩ := asRowA_eq q
      cases this
  | .nl :: r, x :: as, st, h, hk => by
    simp only [argsR, argsR_keyless m r as st h fun y hy => hk y (List.mem_cons_of_mem _ hy)]
    cases isNilA x <;> rfl
  | .mp kt vt :: r, x :: as, st, _, hk => by
    have := hk x (List.mem_cons_self ..)
    cases x with
    | l x =>
      cases x with
      | mp d j => cases this
      | _ => rfl
    | _ => rfl
  | .d t :: r, x :: as, st, h, hk => by
    simp only [argsR, argsR_keyless m r as st h fun y hy => hk y (List.mem_cons_of_mem _ hy)]
    split <;> rfl
  | .iv T t :: r, x :: as, st, h, hk => by
    cases x with
    | ifv T' x =>
      simp only [argsR, argsR_keyless m r as st h fun y hy => hk y (List.mem_cons_of_mem _ hy)]
      cases (Nat.beq T T')
      · rfl
      · simp only [cond_true]; split <;> rfl
    | _ => rfl
  | .fn f :: r, x :: as, st, h, hk => by
    have ih := argsR_keyless m r as st h fun y hy => hk y (List.mem_cons_of_mem _ hy)
    cases x with
    | l x =>
      cases x with
      | clo f' caps =>
        cases caps with
        | nil => simp only [argsR, ih]; cases (Nat.beq f f') <;> rfl
        | cons _ _ => rfl
      | _ => rfl
    | _ => rfl
  | .clo f caps :: r, x :: as, st, h, hk => by
    have hx := hk x (List.mem_cons_self ..)
    cases x with
    | l x =>
      cases x with
      | clo f' ks =>
        cases ks with
        | cons k ks => cases hx
        | nil =>
          cases caps with
          | cons s caps =>
            simp only [argsR, capsOk]
            cases (Nat.beq f f') <;> rfl
          | nil =>
            have ih := argsR_keyless m r as st h fun y hy => hk y (List.mem_cons_of_mem _ hy)
            simp only [argsR, ih]
            cases (and (Nat.beq f f') (capsOk m [] [])) <;> rfl
      | _ => rfl
    | _ => rfl
  | .ref cs :: r, x :: as, st, _, hk => by
    have := hk x (List.mem_cons_self ..)
    cases x with
    | l x =>
      cases x with
      | ref d j o => cases this
      | _ => rfl
    | _ => rfl

theorem filter_in {q : List Nat} {s : Nat} {x : Nat × Nat} : ∀ {l : Nm}, lkp s (l.filter fun p => memB p.1 q) = some x → memB s q = true
  | [], h => nomatch h
  | (a, y) :: l, h => by
    rw [List.filter_cons] at h
    split at h
    · rename_i hq
      have h : cond (Nat.beq a s) (some y) (lkp s (l.filter fun p => memB p.1 q)) = some x := h
      cases e : Nat.beq a s with
      | true => rw [← Nat.eq_of_beq_eq_true e]; exact hq
      | false => rw [e] at h; exact filter_in h
    · exact filter_in h
theorem bindR_in {st : St C.S.U} {pm : List PM} {args : List (AV C.S.U)} {s : Nat} {x : Nat × Nat} (h : lkp s (bindR st pm args) = some x) : s ∈ PM.gs pm := in_of_memB (filter_in h)

theorem entryR_sound (B : Base P C) (mo : P.follows .mixedOrders = true) {f : Nat} {fn : Func} {b : Code} {pm : List PM} {rs : List Ty} {an : Ann} (hfn : FnOk P C f fn b pm rs an) (href : hasRef pm = true) (hgs : incrB fn.ntmps (PM.gs pm) = true) {O : Nat → Oracle C.S} {k : Nat} (hO : ∀ j, j ≤ k → OracleOk P C (O j)) {T : List (Lb C.S (RT C.S.U rs × HL C.S.U (PM.outs pm)))}
    (hT : ∀ x ∈ T, LbOk C O ⟨fn.ntmps, PM.pins 0 pm, PM.gs pm⟩ T b an (endR C rs fn.results.toList pm) x) {F : HL C.S.U (PM.tys pm) → Option (RT C.S.U rs × HL C.S.U (PM.outs pm))}
    (hF : ∀ h, F h = codeK (C := C) (O k) ⟨fn.ntmps, PM.pins 0 pm, PM.gs pm⟩ (Lb.tab T k) b an (endR C rs fn.results.toList pm) (slotsOf C.S.U 0 pm h (emptyG C.S.U (PM.gs pm)))) : (entryR C.S pm rs F).Sound P C f := by
  refine ⟨fun ρ args st R r h c a w g vals hr hv => ?_, fun args st st' hf _ ρ R => ?_⟩
  · simp only [entryR] at h
    generalize hm : bindR st pm args = m at h
    split at h
    · rename_i hh st1 eh
      obtain ⟨x, hx, h⟩ := Option.bind_eq_some_iff.1 h
      obtain ⟨g1, f1, f2, f3, f4⟩ := fzR_sound B.S m pm args vals st g hr hv
      have hv1 : All2 (RepA g1 (fzR m pm args st).mem (fzR m pm args st).cnt) vals args := All2.imp (fun u y q => by rw [f3]; exact RepA.mono f2 f4 (fun _ => Nat.le_refl _) q) hv
      let cb : Call := { N := ⟨fn.ntmps, PM.pins 0 pm, PM.gs pm⟩, pv := fun i => vals.getD i undef, gv := fun s => match lkp s m with | some p => g1.β p.1 p.2 | none => none, base := w.heap.size, X := fun b => c.base ≤ b ∨ c.X b, w0 := w, M0 := g1.M }
      let a0 : Act := { tmps := vals.toArray ++ Array.replicate (fn.ntmps - vals.toArray.size) undef, defers := [] }
      have hslot : ∀ k v, vals[k]? = some v → a0.tmps.getD k undef = v := fun k v hk => by
        show (vals.toArray ++ Array.replicate (fn.ntmps - vals.toArray.size) undef).getD k undef = v
        have hlt : k < vals.length := (List.getElem?_eq_some_iff.1 hk).1
        rw [Array.getD_eq_getD_getElem?, Array.getElem?_append_left (by simpa using hlt)]
        simp [hk]
      have hlen : vals.length = PM.np pm := by
        rw [hv.length]
        exact argsR_len m pm args _ eh
      have hsz : a0.tmps.size = fn.ntmps := by
        show (vals.toArray ++ Array.replicate (fn.ntmps - vals.toArray.size) undef).size = fn.ntmps
        simp only [Array.size_append, List.size_toArray, Array.size_replicate]
        have := hfn.hp
        omega
      have hpin : ∀ i ∈ PM.pins 0 pm, a0.tmps.getD i undef = vals.getD i undef := fun i hi => by
        have hlt : i < vals.length := by have := (pins_ge pm 0 i hi).2; omega
        rw [hslot i vals[i] (List.getElem?_eq_getElem hlt), List.getD_eq_getElem?_getD, List.getElem?_eq_getElem hlt]
        rfl
      let gE : Gh := { M := g1.M, β := fun s k => cond (Nat.beq k 1) (match lkp s m with | some p => g1.β p.1 p.2 | none => none) none, γ := fun _ _ => 0, τ := fun _ _ => false }
      have hEc : ∀ s ∈ PM.gs pm, (emptyG C.S.U (PM.gs pm)).cnt s = 1 := fun s hs => by
        show cond (memB s (PM.gs pm)) 1 0 = 1
        rw [mem_memB hs]; rfl
      have hE : Rel cb (emptyG C.S.U (PM.gs pm)) a0 w gE :=
        { agree := f1.agree, slots := fun _ => trivial, objs := fun _ _ _ q => (nomatch q), own := fun _ _ _ _ q => (nomatch q), apart := fun _ _ _ _ _ _ _ q => (nomatch q), fresh := fun _ _ _ => rfl, size := hsz, defers := rfl, pin := hpin, gpin := fun s hs => ⟨Nat.le_of_eq (hEc s hs).symm, rfl⟩, glob := ⟨fun k hk => ⟨(hr.globW k hk).1, fun q => q.elim (fun z => by have := (hr.glob.1 k hk).1; omega) (hr.glob.1 k hk).2.1, (hr.globW k hk).2⟩, fun k t x e => by obtain ⟨cs, h1, h2, h3⟩ := hr.glob.2 k t x e; exact ⟨cs, f2.M _ _ (hr.m0 _ _ h1), h2, h3.mono (hr.m0.trans f2.M)⟩⟩, keep := Keep.refl w.heap.size _ w, ge := Nat.le_refl _, m0 := Mle.refl g1.M, mb := fun _ _ q => .inl q }
      have hz0 : ∀ j, j < fn.ntmps → (emptyG C.S.U (PM.gs pm)).cnt j = 0 := fun j hj => by
        show cond (memB j (PM.gs pm)) 1 0 = 0
        cases q : memB j (PM.gs pm) with
        | false => rfl
        | true => have := slotsR_sound.incr_ge hgs j (in_of_memB q); omega
      have hNE : Nms m [] g1 gE (emptyG C.S.U (PM.gs pm)).cnt := fun s d j q => by
        refine ⟨?_, ?_⟩
        · show cond (Nat.beq 1 1) (match lkp s m with | some p => g1.β p.1 p.2 | none => none) none = g1.β d j
          rw [q]; rfl
        · exact Nat.le_of_eq (hEc s (bindR_in (by rw [hm]; exact q))).symm
      obtain ⟨g0, H, hc1, hq, hm1⟩ := slotsR_sound (c := c) (c0 := cb) (a := a) (a0 := a0) B.S m fn.ntmps pm 0 vals args _ (emptyG C.S.U (PM.gs pm)) gE hh st1 ⟨f1, hE, rfl, fun _ _ _ _ _ _ _ _ _ _ q => (nomatch q), fun b q => .inr q⟩ hNE (fun j _ hj => hz0 j hj) (by rw [Nat.zero_add]; exact hfn.hp) ⟨fn.ntmps, Nat.le_refl _, hgs⟩ hEc (fun k v hk => by rw [Nat.zero_add]; exact hslot k v hk) hv1 eh
      let X' : Nat → Prop := fun b => (c.base ≤ b ∨ c.X b) ∧ g1.M b = none ∧ ∀ d j o, st1.mem d j = some o → o.mut = true → g1.β d j ≠ some b
      let c' : Call := { cb with X := X' }
      have hr0 : Rel c' (slotsOf C.S.U 0 pm hh (emptyG C.S.U (PM.gs pm))) a0 w g0 :=
        { agree := H.new.agree, slots := H.new.slots, objs := H.new.objs
          own := fun d j o b e m hb => ⟨(H.new.own d j o b e m hb).1, by
            rcases (H.new.own d j o b e m hb).2 with z | z
            · exact .inl z
            · exact .inr ⟨z, by rw [← H.M]; exact (H.new.own d j o b e m hb).1, fun d1 j1 o1 e1 m1 hb1 => H.dis d1 j1 o1 b d j o e1 m1 hb1 e m hb⟩⟩
          apart := H.new.apart, fresh := H.new.fresh, size := H.new.size, defers := H.new.defers, pin := H.new.pin, gpin := H.new.gpin, glob := ⟨fun k hk => ⟨(H.new.glob.1 k hk).1, fun q => (H.new.glob.1 k hk).2.1 q.1, (H.new.glob.1 k hk).2.2⟩, H.new.glob.2⟩, keep := Keep.refl w.heap.size _ w, ge := Nat.le_refl _, m0 := by show Mle g1.M g0.M; rw [H.M]; exact Mle.refl _, mb := fun b cs q => .inl (by show g1.M b = some cs; rw [← H.M]; exact q) }
      rw [hF] at hx
      refine callOk_of_calls hfn.hf hfn.hn (by rw [hfn.hb]; rfl) (calls_of_wp hfn.hf hfn.hb ?_)
      let Q : Post := bodyPost P fn fun e w' => ∃ v, e = .returned v ∧ (∃ z st' g', R z st' = some r ∧ Rel c st' a w' g' ∧ RepA g' st'.mem st'.cnt v z ∧ Ext g g' st.cnt ∧ ∀ d, st.cnt d ≤ st'.cnt d)
      have hQ : ∀ st' a' w' g', Rel c' st' a' w' g' → endR C rs fn.results.toList pm .ret st' = some x → a'.defers = [] ∧ ∃ v, (results fn a'.tmps).run P w' = .ok v w' ∧ ∃ v', Ending.returned v = .returned v' ∧ (∃ z st' g', R z st' = some r ∧ Rel c st' a w' g' ∧ RepA g' st'.mem st'.cnt v' z ∧ Ext g g' st.cnt ∧ ∀ d, st.cnt d ≤ st'.cnt d) := by
        intro st' a' w' g' hr' e
        obtain ⟨g2, hr2⟩ := vars_frz B fn.results.toList st' g' hr'
        obtain ⟨g3, hr3⟩ := outs_frz B.S pm 0 _ g2 hr2
        simp only [endR] at e
        split at e
        · rename_i x1 e1
          split at e
          · rename_i x2 e2
            cases e
            obtain ⟨us, k1, k2⟩ := resF_sound B hr3 rs fn.results.toList x1 e1
            have hsub : ∀ b, (w.heap.size ≤ b ∨ X' b) → (c.base ≤ b ∨ c.X b) := fun b q => q.elim (fun z => .inl (Nat.le_trans hr.ge z)) (fun z => z.1)
            have ha := H.old.after (X := X') (w' := w') hr'.keep (fun b z => z)
            have h3 := ha.learn (M' := g3.M) hr3.m0 hr3.agree (fun d j o b e m hb => by
              have hown := H.old.own d j o b e m hb
              have hlt := (H.old.objs d j o e).lt m hb
              cases q : g3.M b with
              | none => rfl
              | some cs =>
                rcases hr3.mb b cs q with z | z | z
                · have z : g1.M b = some cs := z
                  rw [hown.1] at z; cases z
                · have z : w.heap.size ≤ b := z
                  omega
                · exact absurd hb (z.2.2 d j o e m)) (fun b cs q => by
                rcases hr3.mb b cs q with z | z | z
                · exact .inl z
                · exact .inr (hsub b (.inl z))
                · exact .inr (hsub b (.inr z)))
            have hdis : ∀ d j o b d' j' o', (fzOut 0 pm (fzV C fn.results.toList st')).mem d j = some o → o.mut = true → g3.β d j = some b → st1.mem d' j' = some o' → o'.mut = true → g1.β d' j' ≠ some b := fun d j o b d' j' o' q m z q' m' z' => by
              rcases (hr3.own d j o b q m z).2 with y | y
              · have y : w.heap.size ≤ b := y
                have := (H.old.objs d' j' o' q').lt m' z'
                omega
              · exact y.2.2 d' j' o' q' m' z'
            have hv2 : All2 (RepA { g1 with M := g3.M } st1.mem st1.cnt) vals args := All2.imp (fun u y q => by
              rw [hc1]
              have hx : Ext g1 { g1 with M := g3.M } (fzR m pm args st).cnt := ⟨hr3.m0, fun _ _ _ => rfl, fun _ _ _ => rfl, fun _ _ _ => rfl⟩
              exact RepA.mono hx hm1 (fun _ => Nat.le_refl _) q) hv1
            have hNB : Nms (selfNm (PM.gs pm)) m g3 { g1 with M := g3.M } st1.cnt := fun s d j q => by
              obtain ⟨hs, rfl, rfl⟩ := self_mem q
              obtain ⟨d2, j2, e2, e3⟩ := hq.gs s hs
              have ht : tgt m s = (d2, j2) := by unfold tgt; rw [e2]
              rw [ht]
              have h5 : g3.β s 1 = (match lkp s m with | some p => g1.β p.1 p.2 | none => none) := (hr3.gpin s hs).2
              rw [e2] at h5
              exact ⟨h5.symm, by rw [hc1]; exact e3⟩
            obtain ⟨g4, l1, l2, l3, l4, _⟩ := back_sound (c := c') (c0 := c) (a := a') (a0 := a) B.S (selfNm (PM.gs pm)) m pm 0 vals args _ st1 { g1 with M := g3.M } x2 ⟨hr3, h3, rfl, hdis, hsub⟩ hNB (fun s hs => self_lkp hs) (fun k hk v hv => by
              have := hr3.pin k hk
              rw [this]
              show vals.getD k undef = v
              rw [List.getD_eq_getElem?_getD, show vals[k]? = some v from by simpa using hv]
              rfl) hv2 (by rw [hc1]; exact hq) e2
            have hc : st1.cnt = st.cnt := hc1.trans f3
            refine ⟨hr3.defers, ansOf us, results_run k1, ansOf us, rfl, retAV rs x1, _, g4, h, l1, repR_ans (g := g4) rs us x1 (repR_mono l4 rs us x1 k2), ?_, fun d => by rw [← hc]; exact l3 d⟩
            have hx : Ext g1 { g1 with M := g3.M } st.cnt := ⟨hr3.m0, fun _ _ _ => rfl, fun _ _ _ => rfl, fun _ _ _ => rfl⟩
            have h13 : Ext g { g1 with M := g3.M } st.cnt := f2.trans hx (fun _ => Nat.le_refl _)
            rw [hc] at l2
            exact h13.trans l2 (fun _ => Nat.le_refl _)
          · cases e
        · cases e
      have hK : KOk c' (endR C rs fn.results.toList pm) x Q := fun e st' a' w' g' hr' q => by
        cases e with
        | norm => exact hQ st' a' w' g' hr' q
        | ret => exact hQ st' a' w' g' hr' q
        | exit id => cases q
      have hL := labels_sound (c := c') B mo hT hfn.nodup hK k fun j hj => hO j (Nat.le_of_lt hj)
      exact codeK_sound ⟨B, mo, hO k (Nat.le_refl k), hL⟩ b an _ Q _ a0 w g0 (fun q hq a w hw => hw q hq rfl) hK hr0 hx
    · cases h
  · rcases hf with hf | hf
    · cases hf
    · simp only [entryR, argsR_keyless _ pm args _ href hf]
      rfl
where
  self_mem {s d j : Nat} : ∀ {l : List Nat}, lkp s (selfNm l) = some (d, j) → d ∈ l ∧ s = d ∧ j = 1
    | [], h => nomatch h
    | a :: l, h => by
      have h : cond (Nat.beq a s) (some (a, 1)) (lkp s (selfNm l)) = some (d, j) := h
      cases q : Nat.beq a s with
      | true => rw [q] at h; cases h; exact ⟨List.mem_cons_self .., (Nat.eq_of_beq_eq_true q).symm, rfl⟩
      | false =>
        rw [q] at h
        obtain ⟨h1, h2⟩ := self_mem (l := l) h
        exact ⟨List.mem_cons_of_mem _ h1, h2⟩
  self_lkp {s : Nat} : ∀ {l : List Nat}, s ∈ l → lkp s (selfNm l) = some (s, 1)
    | a :: l, h => by
      show cond (Nat.beq a s) (some (a, 1)) (lkp s (selfNm l)) = some (s, 1)
      cases q : Nat.beq a s with
      | true => rw [Nat.eq_of_beq_eq_true q]; rfl
      | false =>
        rcases List.mem_cons.1 h with e | h
        · subst e; rw [Nat.beq_refl] at q; cases q
        · exact self_lkp h
  argsR_len (m : Nm) : ∀ (pm : List PM) (args : List (AV C.S.U)) (st : St C.S.U) {h : HL C.S.U (PM.tys pm)} {st' : St C.S.U}, argsR C.S m pm args st = some (h, st') → args.length = PM.np pm
    | [], [], _, _, _, _ => rfl
    | [], _ :: _, _, _, _, e => nomatch e
    | .gh s cs :: pm, args, st, _, _, e => by
      show args.length = PM.np pm
      simp only [argsR] at e
      split at e
      · split at e
        · rename_i d j _ _ _ _
          revert e
          cases Nat.blt 0 (st.cnt d) <;> intro e
          · cases e
          · simp only [cond_true] at e
            split at e
            · split at e
              · rename_i eh; exact argsR_len m pm args _ eh
              · cases e
            · cases e
        · cases e
      · cases e
    | .d t :: pm, [], _, _, _, e => nomatch e
    | .iv _ _ :: pm, [], _, _, _, e => nomatch e
    | .fn _ :: pm, [], _, _, _, e => nomatch e
    | .ref _ :: pm, [], _, _, _, e => nomatch e
    | .clo _ _ :: pm, [], _, _, _, e => nomatch e
    | .mp _ _ :: pm, [], _, _, _, e => nomatch e
    | .rw _ _ :: pm, [], _, _, _, e => nomatch e
    | .nl :: pm, [], _, _, _, e => nomatch e
    | .rw E t :: pm, x :: args, st, _, _, e => by
      show args.length + 1 = PM.np pm + 1
      simp only [argsR] at e
      split at e
      · split at e
        · rename_i eh; rw [argsR_len m pm args _ eh]
        · cases e
      · cases e
    | .nl :: pm, x :: args, st, h, st', e => by
      show args.length + 1 = PM.np pm + 1
      simp only [argsR] at e
      cases q : isNilA x with
      | false => rw [q] at e; cases e
      | true => rw [q] at e; rw [argsR_len m pm args _ e]
    | .mp kt vt :: pm, x :: args, st, _, _, e => by
      show args.length + 1 = PM.np pm + 1
      cases x with
      | l x =>
        simp only [argsR] at e
        split at e
        · split at e
          · rename_i eh; rw [argsR_len m pm args _ eh]
          · cases e
        · cases e
      | _ => cases e
    | .d t :: pm, x :: args, st, _, _, e => by
      show args.length + 1 = PM.np pm + 1
      simp only [argsR] at e
      split at e
      · split at e
        · rename_i eh; rw [argsR_len m pm args _ eh]
        · cases e
      · cases e
    | .iv T t :: pm, x :: args, st, _, _, e => by
      show args.length + 1 = PM.np pm + 1
      cases x with
      | ifv T' x =>
        simp only [argsR] at e
        cases q : Nat.beq T T' with
        | false => rw [q] at e; cases e
        | true =>
          rw [q] at e
          simp only [cond_true] at e
          split at e
          · split at e
            · rename_i eh; rw [argsR_len m pm args _ eh]
            · cases e
          · cases e
      | _ => cases e
    | .fn f :: pm, x :: args, st, _, _, e => by
      show args.length + 1 = PM.np pm + 1
      cases x with
      | l x =>
        cases x with
        | clo f' caps =>
          cases caps with
          | nil =>
            simp only [argsR] at e
            cases q : Nat.beq f f' with
            | false => rw [q] at e; cases e
            | true => rw [q] at e; rw [argsR_len m pm args _ e]
          | cons _ _ => cases e
        | _ => cases e
      | _ => cases e
    | .clo f caps :: pm, x :: args, st, h, st', e => by
      show args.length + 1 = PM.np pm + 1
      cases x with
      | l x =>
        cases x with
        | clo f' ks =>
          simp only [argsR] at e
          cases q : (and (Nat.beq f f') (capsOk m caps ks)) with
          | false => rw [q] at e; cases e
          | true =>
            rw [q] at e
            have e : argsR C.S m pm args st = some (h, st') := e
            rw [argsR_len m pm args _ e]
        | _ => cases e
      | _ => cases e
    | .ref cs :: pm, x :: args, st, _, _, e => by
      show args.length + 1 = PM.np pm + 1
      cases x with
      | l x =>
        cases x with
        | ref d j o =>
          cases o with
          | succ o => cases e
          | zero =>
            simp only [argsR] at e
            split at e
            · cases q : Nat.blt 0 (st.cnt d) with
              | false => rw [q] at e; cases e
              | true =>
                rw [q] at e
                simp only [cond_true] at e
                split at e
                · split at e
                  · rename_i eh; rw [argsR_len m pm args _ eh]
                  · cases e
                · cases e
            · cases e
        | _ => cases e
      | _ => cases e
  repR_mono {M M' : Mm} (hM : Mle M M') : ∀ (rs : List Ty) (us : List Value) (x : RT C.S.U rs), RepR C.S M rs us x → RepR C.S M' rs us x
    | [], [], _, _ => trivial
    | [], _ :: _, _, h => h.elim
    | [_], [], _, h => h.elim
    | [t], [v], x, h => RepV.mono hM h
    | [_], _ :: _ :: _, _, h => h.elim
    | t :: u :: ts, [], _, h => h.elim
    | t :: u :: ts, v :: vs, x, h => ⟨RepV.mono hM h.1, repR_mono hM (u :: ts) vs x.2 h.2⟩
end
end Go.Proofs.YthmedjljckbidaaDoor.Lift
