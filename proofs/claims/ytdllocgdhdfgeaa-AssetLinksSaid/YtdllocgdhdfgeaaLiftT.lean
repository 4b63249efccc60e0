/- A label's function is asked of what is known: boxes, and all of it. Conditions: as each theorem states them. -/
import Derived.Test.YtdllocgdhdfgeaaLiftS
set_option linter.unusedVariables false
namespace Go.Proofs.Ytdllocgdhdfgeaa.Lift
section
variable {C : Ctx} {c : Call} {st st0 : St C.S.U} {a : Act} {w : World} {g g0 : Gh}

theorem upd_upd {α : Type} (f : Nat → α) (k : Nat) (x y : α) : upd (upd f k x) k y = upd f k y := funext fun n => by
  unfold upd
  cases Nat.beq n k <;> rfl
theorem upd_self {α : Type} (f : Nat → α) (k : Nat) : upd f k (f k) = f := funext fun n => by
  rcases upd_cases f k (f k) n with ⟨p, r⟩ | ⟨p, r⟩
  · rw [r, p]
  · exact r

/-- What a box's cells become. -/
theorem decC_sound {c0 : Call} {a0 : Act} (hS : SgOk C.S) (s : Nat) : ∀ (cs : List DC) (i : Nat) (l : List (LV C.S.U)) (vs : List Value) (st : St C.S.U) (st0 : St C.S.U) (g0 : Gh) (h : HL C.S.U (cs.map DC.ty)) (st' : St C.S.U), Two c c0 a a0 w st g st0 g0 → st0.cnt s = i + 1 → All2 (RepL g st.mem st.cnt) vs l → decC C.S cs l st = some (h, st') →
    ∃ g0', Two c c0 a a0 w st' g { st0 with mem := encM s i cs h st0.mem, cnt := upd st0.cnt s (i + 1 + cs.length) } g0' ∧ All2 (RepL g0' (encM s i cs h st0.mem) (upd st0.cnt s (i + 1 + cs.length))) vs (encC s i cs h) ∧ st'.sl = st.sl ∧ Ext g0 g0' st0.cnt ∧ Memle st0.mem (encM s i cs h st0.mem) st0.cnt ∧ (∀ d, st0.cnt d ≤ upd st0.cnt s (i + 1 + cs.length) d) ∧ (∀ k, encM s i cs h st0.mem s k ≠ st0.mem s k → i + 2 ≤ k) := by
  intro cs
  induction cs with
  | nil =>
    intro i l vs st st0 g0 h st' H hc hv e
    cases l with
    | nil =>
      cases e
      cases hv
      have : upd st0.cnt s (i + 1 + ([] : List DC).length) = st0.cnt := by rw [List.length_nil, Nat.add_zero, ← hc]; exact upd_self _ _
      rw [this]
      exact ⟨g0, H, .nil, rfl, Ext.refl _ _, Memle.refl _ _, fun _ => Nat.le_refl _, fun k q => absurd rfl q⟩
    | cons x l => cases e
  | cons dc cs ih =>
    intro i l vs st st0 g0 h st' H hc hv e
    cases l with
    | nil => cases dc <;> cases e
    | cons x l =>
    cases hv with
    | cons hx hxs =>
    rename_i v vs
    have hlen : i + 1 + (cs.length + 1) = i + 1 + 1 + cs.length := by omega
    cases dc with
    | d t =>
      simp only [decC] at e
      split at e
      · rename_i y ey
        split at e
        · rename_i h2 st2 e2
          cases e
          have hr := toF_sound hS H.old (x := .l x) hx ey
          have H' : Two c c0 a a0 w st g { st0 with cnt := upd st0.cnt s (st0.cnt s + 1) } (g0.key s (st0.cnt s + 1) none false) := ⟨H.old, H.new.key s none false, H.M, fun d j o b d' j' o' q m z q' m' => by
            rw [(Ext.key g0 st0.cnt s none false).β d' j' (H.new.live q')]
            exact H.dis d j o b d' j' o' q m z q' m', H.sub⟩
          obtain ⟨g0', k1, k2, k3, k4, k5, k6, k7⟩ := ih (i + 1) l vs st _ _ h2 _ H' (by show upd st0.cnt s (st0.cnt s + 1) s = _; rw [upd_same, hc]) hxs e2
          simp only [upd_upd] at k1 k2 k6
          rw [List.length_cons, hlen]
          have hcl := cnt_le st0.cnt s
          refine ⟨g0', k1, .cons ?_ k2, k3, (Ext.key g0 st0.cnt s none false).trans k4 hcl, fun d j hj => k5 d j (Nat.le_trans hj (hcl d)), fun d => Nat.le_trans (hcl d) (k6 d), fun k q => Nat.le_trans (by omega) (k7 k q)⟩
          have : RepV C.S g0'.M t v y := hr.mono (by rw [← H.M]; exact k4.M)
          exact this
        · cases e
      · cases e
    | row E t =>
      simp only [decC] at e
      split at e
      · rename_i y st1 ey
        split at e
        · rename_i h2 st2 e2
          cases e
          obtain ⟨b, cap, H', q1, q2, q3, q4⟩ := asRow_sound H hx ey s
          have hxs' : All2 (RepL g st1.mem st1.cnt) vs l := All2.imp (fun u z r => RepL.mono (Ext.refl _ _) q4 (fun d => Nat.le_of_eq (congrFun q3.symm d)) u z r) hxs
          obtain ⟨g0', k1, k2, k3, k4, k5, k6, k7⟩ := ih (i + 1) l vs st1 _ _ h2 _ H' (by show upd st0.cnt s (st0.cnt s + 1) s = _; rw [upd_same, hc]) hxs' e2
          simp only [newObj', upd_upd, hc] at k1 k2 k4 k5 k6 k7 q1
          rw [List.length_cons, hlen]
          have hcl := cnt_le st0.cnt s
          have hn : Ext g0 (g0.new s (i + 1 + 1) b cap) st0.cnt := by have := Ext.new g0 st0.cnt s b cap; rw [hc] at this; exact this
          have hm : Memle st0.mem (upd2 st0.mem s (i + 1 + 1) (some (.row E t y))) st0.cnt := by have := Memle.new st0.mem st0.cnt s (.row E t y); rw [hc] at this; exact this
          rw [hc] at hcl
          refine ⟨g0', k1, .cons ?_ k2, k3.trans q2, hn.trans k4 hcl, hm.trans k5 hcl, fun d => Nat.le_trans (hcl d) (k6 d), fun k q => ?_⟩
          · exact RepL.mono k4 k5 k6 _ _ q1
          · by_cases z : encM s (i + 1) cs h2 (upd2 st0.mem s (i + 1 + 1) (some (.row E t y))) s k = upd2 st0.mem s (i + 1 + 1) (some (.row E t y)) s k
            · rcases upd2_cases st0.mem s (i + 1 + 1) (some (.row E t y)) s k with ⟨_, p, r⟩ | ⟨p, r⟩
              · omega
              · exact absurd (z.trans r) q
            · have := k7 k z
              omega
        · cases e
      · cases e

theorem encM_agree (s : Nat) : ∀ (cs : List DC) (i : Nat) (h : HL C.S.U (cs.map DC.ty)) (m m' : Nat → Nat → Option (Obj' C.S.U)), (∀ d j, ¬ (d = s ∧ j = 1) → m d j = m' d j) → ∀ d j, ¬ (d = s ∧ j = 1) → encM s i cs h m d j = encM s i cs h m' d j
  | [], _, _, _, _, h => h
  | .d _ :: cs, i, h, m, m', e => encM_agree s cs (i + 1) h.2 m m' e
  | .row E t :: cs, i, h, m, m', e => encM_agree s cs (i + 1) h.2 _ _ fun d j hn => by
    unfold upd2
    rw [e d j hn]

theorem encM_upd (s : Nat) (cs : List DC) (h : HL C.S.U (cs.map DC.ty)) (m : Nat → Nat → Option (Obj' C.S.U)) (x y : Option (Obj' C.S.U)) : upd2 (encM s 0 cs h (upd2 m s 1 x)) s 1 y = upd2 (encM s 0 cs h m) s 1 y := funext fun d => funext fun j => by
  rcases upd2_cases (encM s 0 cs h (upd2 m s 1 x)) s 1 y d j with ⟨p, q, r⟩ | ⟨p, r⟩
  · subst p; subst q; rw [r, upd2_same]
  · rw [r, upd2_other _ _ _ _ p]
    exact encM_agree s cs 0 h _ _ (fun d j hn => upd2_other _ _ _ _ hn) d j p

theorem all2_junk {g : Gh} {m : Nat → Nat → Option (Obj' C.S.U)} {cnt : Nat → Nat} : ∀ vs : List Value, All2 (RepL g m cnt) vs (vs.map fun _ => (.junk : LV C.S.U))
  | [] => .nil
  | _ :: vs => .cons trivial (all2_junk vs)

theorem spl_app {U : Nat → Type} : ∀ (ts : List Ty) {us : List Ty} (h : HL U ts) (k : HL U us), HL.spl ts (HL.app ts h k) = (h, k)
  | [], _, _, _ => rfl
  | t :: ts, us, h, k => by
    simp only [HL.app, HL.spl, spl_app ts h.2 k]

theorem decP_sound (hS : SgOk C.S) : ∀ (D : List (Nat × DM)) (n : Nat) (st st0 : St C.S.U) (g0 : Gh) (h : HL C.S.U (DM.tys D)), Two c c a a w st g st0 g0 → incrB n (D.map (·.1)) = true → (∀ s, n ≤ s → st0.cnt s = 0) → decP C.S D st = some h →
    ∃ g0', Rel c (encD D h st0) a w g0' := by
  intro D
  induction D with
  | nil => intro n st st0 g0 h H _ _ e; exact ⟨g0, H.new⟩
  | cons p D ih =>
    intro n st st0 g0 h H hi hz e
    obtain ⟨s, dm⟩ := p
    simp only [List.map_cons, incrB, Bool.and_eq_true] at hi
    obtain ⟨hi1, hi2⟩ := hi
    have hn : n ≤ s := Nat.le_of_ble_eq_true hi1
    have hc0 := hz s hn
    have hz1 : ∀ x, ∀ s', s + 1 ≤ s' → upd st0.cnt s x s' = 0 := fun x s' hs' => by
      rw [upd_other _ _ _ (by omega)]
      exact hz s' (by omega)
    have hv := H.old.slots s
    cases dm with
    | d t =>
      simp only [decP] at e
      split at e
      · rename_i y ey
        split at e
        · rename_i h2 e2
          cases e
          have hr := toF_sound hS H.old hv ey
          let bb : Bool := match t, y with | .bool, b => b | _, _ => false
          have K := H.new.key s none bb
          rw [hc0] at K
          have hM : (g0.key s (0 + 1) none bb).M = g.M := H.M
          have hsay : RepA (g0.key s (0 + 1) none bb) st0.mem (upd st0.cnt s (0 + 1)) (a.tmps.getD s undef) (.l (tagV s t y)) := by
            have hr' : RepV C.S (g0.key s (0 + 1) none bb).M t (a.tmps.getD s undef) y := by rw [hM]; exact hr
            cases t with
            | bool =>
              have hb : a.tmps.getD s undef = .bool y := by have := RepV.leaf (S := C.S) rfl hr'; generalize a.tmps.getD s undef = u at this; cases this; rfl
              exact ⟨hb, upd2_same _ _ _ _, by rw [upd_same]; exact Nat.le_refl _⟩
            | _ => exact hr'
          have K2 := K.say s hsay
          have H' : Two c c a a w st g { st0 with sl := upd st0.sl s (.l (tagV s t y)), cnt := upd st0.cnt s 1 } (g0.key s (0 + 1) none bb) := ⟨H.old, K2, hM, fun d j o b d' j' o' q m z q' m' => by
            have := (Ext.key g0 st0.cnt s none bb).β d' j' (H.new.live q')
            rw [hc0] at this
            rw [this]
            exact H.dis d j o b d' j' o' q m z q' m', H.sub⟩
          exact ih (s + 1) st _ _ h2 H' hi2 (hz1 1) e2
        · cases e
      · cases e
    | row E t =>
      simp only [decP] at e
      split at e
      · rename_i x ex
        split at e
        · rename_i y st1 ey
          split at e
          · rename_i h2 e2
            cases e
            rw [ex] at hv
            obtain ⟨b, cap, H', q1, q2, q3, q4⟩ := asRow_sound H (v := a.tmps.getD s undef) hv ey s
            have K2 := H'.new.say s (x := .l (.row s (st0.cnt s + 1))) q1
            have H2 : Two c c a a w st1 g { newObj' s (.row E t y) st0 with sl := upd st0.sl s (.l (.row s (st0.cnt s + 1))) } (g0.new s (st0.cnt s + 1) b cap) := ⟨H'.old, K2, H'.M, H'.dis, H'.sub⟩
            simp only [newObj', hc0] at H2
            exact ih (s + 1) st1 _ _ h2 H2 hi2 (hz1 1) e2
          · cases e
        · cases e
      · cases e
    | box cs =>
      simp only [decP] at e
      split at e
      · rename_i d j ex
        split at e
        · rename_i l em
          split at e
          · rename_i y st1 ey
            split at e
            · rename_i h2 e2
              cases e
              rw [ex] at hv
              obtain ⟨hj, b, hb, hv⟩ := hv
              obtain ⟨b', E, vs, o1, o2, o3, o4⟩ := H.old.objs d j _ em
              rw [hb] at o1
              cases o1
              have hown := H.old.own d j _ b em rfl hb
              have N := H.new.newG s (.box (vs.toList.map fun _ => .junk)) (some b) 0 (fun b' q => by
                cases q
                exact ⟨by rw [H.M]; exact hown.1, hown.2, fun d1 j1 o1' q1 m1 => H.dis d j _ b d1 j1 o1' em rfl hb q1 m1⟩) ⟨b, E, vs, upd2_same _ _ _ _, o2, all2_junk _, o4⟩
              have H1 : Two c c a a w (kill st d j) g (newObj' s (.box (vs.toList.map fun _ => .junk)) st0) (g0.new s (st0.cnt s + 1) (some b) 0) := ⟨H.old.kill d j, N, H.M, fun d1 j1 o b1 d' j' o' q m z q' m' => by
                have ks := kill_sub q
                rcases upd2_cases st0.mem s (st0.cnt s + 1) (some (.box (vs.toList.map fun _ => .junk))) d' j' with ⟨p, p', r⟩ | ⟨p, r⟩
                · subst p; subst p'
                  rw [show (g0.new d' (st0.cnt d' + 1) (some b) 0).β d' (st0.cnt d' + 1) = some b from upd2_same _ _ _ _]
                  intro e3
                  cases e3
                  exact ks.2 (H.old.apart d1 j1 o b d j _ ks.1 m z em rfl hb)
                · have q2 : st0.mem d' j' = some o' := r.symm.trans q'
                  rw [(Ext.new g0 st0.cnt s (some b) 0).β d' j' (H.new.live q2)]
                  exact H.dis d1 j1 o b1 d' j' o' ks.1 m z q2 m', H.sub⟩
              have o3' : All2 (RepL g (kill st d j).mem (kill st d j).cnt) vs.toList l := All2.imp (fun u z r => RepL.mono (Ext.refl _ _) (Memle.kill _ _ _ _) (fun _ => Nat.le_refl _) u z r) o3
              obtain ⟨g0', k1, k2, k3, k4, k5, k6, k7⟩ := decC_sound hS s cs 0 l vs.toList (kill st d j) _ _ y st1 H1 (by show upd st0.cnt s (st0.cnt s + 1) s = _; rw [upd_same, hc0]) o3' ey
              simp only [newObj', upd_upd, hc0, Nat.zero_add] at k1 k2 k4 k6 k7
              have h1c : 1 ≤ upd st0.cnt s (1 + cs.length) s := by rw [upd_same]; omega
              have hgb : g0'.β s 1 = some b := (k4.β s 1 (by rw [upd_same]; exact Nat.le_refl _)).trans (upd2_same _ _ _ _)
              have hthere : encM s 0 cs y (upd2 st0.mem s 1 (some (.box (vs.toList.map fun _ => .junk)))) s 1 = some (.box (vs.toList.map fun _ => .junk)) := by
                by_cases z : encM s 0 cs y (upd2 st0.mem s 1 (some (.box (vs.toList.map fun _ => .junk)))) s 1 = upd2 st0.mem s 1 (some (.box (vs.toList.map fun _ => .junk))) s 1
                · rw [z, upd2_same]
                · have := k7 1 z; omega
              have hml := Memle.box (encM s 0 cs y (upd2 st0.mem s 1 (some (.box (vs.toList.map fun _ => .junk))))) (upd st0.cnt s (1 + cs.length)) s 1 (encC s 0 cs y)
              have K2 := k1.new.turn (d := s) (j := 1) hthere rfl hgb (.box (encC s 0 cs y)) (w' := w) ⟨rfl, rfl, rfl, rfl, fun _ _ => rfl⟩ hml
                ⟨b, E, vs, hgb, o2, All2.imp (fun u z r => RepL.mono (Ext.refl _ _) hml (fun _ => Nat.le_refl _) u z r) k2, o4⟩
              have K3 := K2.say s (x := .l (.ref s 1 0)) ⟨h1c, b, hgb, hv⟩
              have H2 : Two c c a a w st1 g { sl := upd st0.sl s (.l (.ref s 1 0)), mem := upd2 (encM s 0 cs y st0.mem) s 1 (some (.box (encC s 0 cs y))), cnt := upd st0.cnt s (cs.length + 1) } g0' := by
                have : 1 + cs.length = cs.length + 1 := by omega
                rw [this] at K3
                simp only [encM_upd] at K3
                refine ⟨k1.old, K3, k1.M, fun d1 j1 o1 b1 d' j' o' q1 m1 z1 q2 m2 => ?_, k1.sub⟩
                rw [← encM_upd s cs y st0.mem (some (.box (vs.toList.map fun _ => .junk)))] at q2
                rcases upd2_cases (encM s 0 cs y (upd2 st0.mem s 1 (some (.box (vs.toList.map fun _ => .junk))))) s 1 (some (.box (encC s 0 cs y))) d' j' with ⟨p, p', r⟩ | ⟨p, r⟩
                · subst p; subst p'
                  exact k1.dis d1 j1 o1 b1 d' 1 _ q1 m1 z1 hthere rfl
                · exact k1.dis d1 j1 o1 b1 d' j' o' q1 m1 z1 (r.symm.trans q2) m2
              have := ih (s + 1) st1 _ _ h2 H2 hi2 (hz1 _) e2
              simp only [encD, spl_app]
              exact this
            · cases e
          · cases e
        · cases e
      · cases e
    | iv T t =>
      simp only [decP] at e
      split at e
      · rename_i T' x ex
        cases q : Nat.beq T T' with
        | false => rw [q] at e; cases e
        | true =>
          rw [q] at e
          have := Nat.eq_of_beq_eq_true q
          subst this
          simp only [cond_true] at e
          split at e
          · rename_i y ey
            split at e
            · rename_i h2 e2
              cases e
              rw [ex] at hv
              obtain ⟨u, hu, hx⟩ := hv
              have hr := toF_sound hS H.old (x := .l x) hx ey
              have K := H.new.say s (x := .ifv T (.v t y)) ⟨u, hu, by show RepV C.S g0.M t u y; rw [H.M]; exact hr⟩
              exact ih (s + 1) st _ _ h2 ⟨H.old, K, H.M, H.dis, H.sub⟩ hi2 (fun s' hs' => hz s' (by omega)) e2
            · cases e
          · cases e
      · cases e
    | clo f caps =>
      simp only [decP] at e
      split at e
      · rename_i f' ex
        cases q : Nat.beq f f' with
        | false => rw [q] at e; cases e
        | true =>
          rw [q] at e
          have := Nat.eq_of_beq_eq_true q
          subst this
          rw [ex] at hv
          obtain ⟨us, hu, hx⟩ := hv
          cases hx
          have K := H.new.say s (x := .l (.clo f [])) ⟨[], hu, .nil⟩
          exact ih (s + 1) st _ _ h ⟨H.old, K, H.M, H.dis, H.sub⟩ hi2 (fun s' hs' => hz s' (by omega)) e
      · cases e
    | it =>
      simp only [decP] at e
      split at e
      · rename_i d j ex
        split at e
        · rename_i x p em
          split at e
          · rename_i h2 e2
            cases e
            rw [ex] at hv
            obtain ⟨hj, b, hb, hv⟩ := hv
            obtain ⟨h0, b', o1, o2⟩ := H.old.objs d j _ em
            rw [hb] at o1
            cases o1
            have hown := H.old.own d j _ b em rfl hb
            have N := H.new.newG s (.it x p) (some b) 0 (fun b' q => by
              cases q
              exact ⟨by rw [H.M]; exact hown.1, H.sub _ hown.2, fun d1 j1 o1' q1 m1 => H.dis d j _ b d1 j1 o1' em rfl hb q1 m1⟩) ⟨h0, b, upd2_same _ _ _ _, o2⟩
            have hgb : (g0.new s (st0.cnt s + 1) (some b) 0).β s (st0.cnt s + 1) = some b := upd2_same _ _ _ _
            have hle : st0.cnt s + 1 ≤ (newObj' s (.it x p) st0).cnt s := by show _ ≤ upd st0.cnt s (st0.cnt s + 1) s; rw [upd_same]; exact Nat.le_refl _
            have K := N.say s (x := .l (.ref s (st0.cnt s + 1) 0)) ⟨hle, b, hgb, hv⟩
            have H1 : Two c c a a w (kill st d j) g { newObj' s (.it x p) st0 with sl := upd st0.sl s (.l (.ref s (st0.cnt s + 1) 0)) } (g0.new s (st0.cnt s + 1) (some b) 0) := ⟨H.old.kill d j, K, H.M, fun d1 j1 o b1 d' j' o' q m z q' m' => by
              have ks := kill_sub q
              rcases upd2_cases st0.mem s (st0.cnt s + 1) (some (.it x p)) d' j' with ⟨p1, p', r⟩ | ⟨p1, r⟩
              · subst p1; subst p'
                rw [show (g0.new d' (st0.cnt d' + 1) (some b) 0).β d' (st0.cnt d' + 1) = some b from upd2_same _ _ _ _]
                intro e3
                cases e3
                exact ks.2 (H.old.apart d1 j1 o b d j _ ks.1 m z em rfl hb)
              · have q2 : st0.mem d' j' = some o' := r.symm.trans q'
                rw [(Ext.new g0 st0.cnt s (some b) 0).β d' j' (H.new.live q2)]
                exact H.dis d1 j1 o b1 d' j' o' ks.1 m z q2 m', H.sub⟩
            simp only [newObj', hc0] at H1
            exact ih (s + 1) (kill st d j) _ _ h2 H1 hi2 (hz1 1) e2
          · cases e
        · cases e
      · cases e

theorem fzC_sl : ∀ (cs : List DC) (l : List (LV C.S.U)) (st : St C.S.U), (fzC cs l st).sl = st.sl
  | [], [], _ => rfl
  | [], _ :: _, _ => rfl
  | .d _ :: _, [], _ => rfl
  | .row _ _ :: _, [], _ => rfl
  | .d _ :: cs, x :: l, st => (fzC_sl cs l _).trans (frz_cnt st x).2
  | .row _ _ :: cs, _ :: l, st => fzC_sl cs l st

theorem fzC_sound : ∀ (cs : List DC) (l : List (LV C.S.U)) (vs : List Value) (st : St C.S.U) (g : Gh), Rel c st a w g → All2 (RepL g st.mem st.cnt) vs l → ∃ g', Rel c (fzC cs l st) a w g'
  | [], [], _, st, g, h, _ => ⟨g, h⟩
  | [], _ :: _, _, st, g, h, _ => ⟨g, h⟩
  | .d _ :: _, [], _, st, g, h, _ => ⟨g, h⟩
  | .row _ _ :: _, [], _, st, g, h, _ => ⟨g, h⟩
  | .d _ :: cs, x :: l, _, st, g, h, .cons hx hl => by
    obtain ⟨g1, h1, h2, h3, h4⟩ := h.frz hx
    exact fzC_sound cs l _ _ g1 h1 (All2.imp (fun u y q => by rw [(frz_cnt st x).1]; exact RepL.mono h2 (frz_memle st x _) (fun _ => Nat.le_refl _) u y q) hl)
  | .row _ _ :: cs, _ :: l, _, st, g, h, .cons hx hl => fzC_sound cs l _ st g h hl

theorem fzD_sound (hS : SgOk C.S) : ∀ (D : List (Nat × DM)) (st : St C.S.U) (g : Gh), Rel c st a w g → ∃ g', Rel c (fzD D st) a w g'
  | [], st, g, h => ⟨g, h⟩
  | (s, .d t) :: D, st, g, h => by
    obtain ⟨g1, h1, _⟩ := h.frzA hS (h.slots s)
    exact fzD_sound hS D _ g1 h1
  | (s, .iv T t) :: D, st, g, h => by
    obtain ⟨g1, h1, _⟩ := h.frzA hS (h.slots s)
    exact fzD_sound hS D _ g1 h1
  | (s, .row E t) :: D, st, g, h => fzD_sound hS D st g h
  | (s, .clo f cs) :: D, st, g, h => fzD_sound hS D st g h
  | (s, .it) :: D, st, g, h => fzD_sound hS D st g h
  | (s, .box cs) :: D, st, g, h => by
    simp only [fzD]
    split
    · split
      · rename_i em
        obtain ⟨b, E, vs, _, _, h3, _⟩ := h.objs _ _ _ em
        obtain ⟨g1, h1⟩ := fzC_sound cs _ _ st g h h3
        exact fzD_sound hS D _ g1 h1
      · exact fzD_sound hS D st g h
    · exact fzD_sound hS D st g h

/-- Where nothing is known. -/
theorem Rel.blank (h : Rel c st a w g) : Rel c (empty C.S.U) a w g :=
  { agree := h.agree, slots := fun _ => trivial, objs := fun _ _ _ q => (nomatch q), own := fun _ _ _ _ q => (nomatch q), apart := fun _ _ _ _ _ _ _ q => (nomatch q), fresh := fun _ _ _ => rfl, size := h.size, defers := h.defers, pin := h.pin, glob := h.glob, keep := h.keep, ge := h.ge, m0 := h.m0, mb := h.mb }

/-- A label's function is asked of what is known. -/
theorem decD_sound (hS : SgOk C.S) (hr : Rel c st a w g) {D : List (Nat × DM)} (hi : incrB 0 (D.map (·.1)) = true) {h : HL C.S.U (DM.tys D)} (e : decD C.S st D = some h) : ∃ g', Rel c (encD D h (empty C.S.U)) a w g' := by
  obtain ⟨g1, h1⟩ := fzD_sound hS D st g hr
  exact decP_sound (g := g1) hS D 0 (fzD D st) (empty C.S.U) g1 h ⟨h1, h1.blank, rfl, fun _ _ _ _ _ _ _ _ _ _ q => (nomatch q), fun _ q => q⟩ hi (fun _ _ => rfl) e
end
end Go.Proofs.Ytdllocgdhdfgeaa.Lift
