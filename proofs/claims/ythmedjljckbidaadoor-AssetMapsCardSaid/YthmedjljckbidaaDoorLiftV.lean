/- A function's summary holds of the machine. Conditions: as each theorem states them. -/
import Derived.Test.YthmedjljckbidaaDoorLiftU
set_option linter.unusedVariables false
namespace Go.Proofs.YthmedjljckbidaaDoor.Lift
section
variable {P : Program} {C : Ctx} {c : Call} {st : St C.S.U} {a : Act} {w : World} {g : Gh}

/-- A parameter in its slot. -/
theorem Rel.param (h : Rel c st a w g) {i : Nat} (hz : st.cnt i = 0) {t : Ty} {y : El C.S.U t} (hr : RepV C.S g.M t (a.tmps.getD i undef) y) :
    ∃ g', Rel c { st with sl := upd st.sl i (.l (tagV i t y)), cnt := upd st.cnt i 1 } a w g' ∧ g'.M = g.M := by
  let bb : Bool := match t, y with | .bool, b => b | _, _ => false
  have K := h.key i none bb
  rw [hz] at K
  refine ⟨g.key i (0 + 1) none bb, K.say i (x := .l (tagV i t y)) ?_, rfl⟩
  cases t with
  | bool =>
    have hb : a.tmps.getD i undef = .bool y := by have := RepV.leaf (S := C.S) rfl hr; generalize a.tmps.getD i undef = u at this; cases this; rfl
    exact ⟨hb, upd2_same _ _ _ _, by show 1 ≤ upd st.cnt i (0 + 1) i; rw [upd_same]; exact Nat.le_refl _⟩
  | _ => exact hr

theorem isNilA_eq {U : Nat → Type} {x : AV U} (h : isNilA x = true) : x = .l .nils := by
  cases x with
  | l x => cases x <;> first | rfl | cases h
  | _ => cases h

theorem slots_sound (hS : SgOk C.S) {stc : St C.S.U} {ac : Act} {gc : Gh} {cc : Call} (hc : Rel cc stc ac w gc) {gd : Gh} (hM : Mle gc.M gd.M) : ∀ (pm : List PM) (i : Nat) (vals : List Value) (args : List (AV C.S.U)) (h : HL C.S.U (PM.tys pm)) (st : St C.S.U) (g : Gh),
    Rel c st a w g → g.M = gd.M → (∀ j, i ≤ j → st.cnt j = 0) → (∀ k v, vals[k]? = some v → a.tmps.getD (i + k) undef = v) → All2 (RepA gc stc.mem stc.cnt) vals args → All2 (RdA C.S gd stc) vals args → argsOf C.S stc pm args = some h →
    ∃ g', Rel c (slotsOf C.S.U i pm h st) a w g' := by
  intro pm
  induction pm with
  | nil => intro i vals args h st g hr _ _ _ _ _ e; exact ⟨g, hr⟩
  | cons p pm ih =>
    intro i vals args h st g hr hg hz hv h1 h2 e
    cases args with
    | nil => cases p <;> cases e
    | cons x args =>
    cases h1 with
    | cons hx h1 =>
    cases h2 with
    | cons hy h2 =>
    rename_i v vals
    have hv0 : a.tmps.getD i undef = v := hv 0 v rfl
    have hv' : ∀ k u, vals[k]? = some u → a.tmps.getD (i + 1 + k) undef = u := fun k u hk => by
      have := hv (k + 1) u (by simpa using hk)
      rw [← this]; congr 1; omega
    have hz1 : ∀ x, ∀ j, i + 1 ≤ j → upd st.cnt i x j = 0 := fun x j hj => by
      rw [upd_other _ _ _ (by omega)]
      exact hz j (by omega)
    cases p with
    | d t =>
      simp only [argsOf] at e
      split at e
      · rename_i y ey
        split at e
        · rename_i h' eh
          cases e
          obtain ⟨g', k1, k2⟩ := hr.param (hz i (Nat.le_refl _)) (t := t) (y := y) (by rw [hv0, hg]; exact hy t y ey)
          exact ih (i + 1) vals args h' _ g' k1 (k2.trans hg) (hz1 1) hv' h1 h2 eh
        · cases e
      · cases e
    | iv T t =>
      cases x with
      | ifv T' x =>
        simp only [argsOf] at e
        cases q : Nat.beq T T' with
        | false => rw [q] at e; cases e
        | true =>
          rw [q] at e
          have := Nat.eq_of_beq_eq_true q
          subst this
          simp only [cond_true] at e
          split at e
          · rename_i y ey
            split at e
            · rename_i h' eh
              cases e
              obtain ⟨u, hu, hx⟩ := hx
              have hrep := toF_sound hS hc (x := .l x) hx ey
              exact ih (i + 1) vals args h' _ g (hr.say i (x := .ifv T (.v t y)) ⟨u, hv0.trans hu, by show RepV C.S g.M t u y; rw [hg]; exact hrep.mono hM⟩) hg (fun j hj => hz j (by omega)) hv' h1 h2 eh
            · cases e
          · cases e
      | _ => cases e
    | ref cs => cases e
    | clo f cs => cases e
    | gh s cs => cases e
    | mp kt vt => cases e
    | rw E t => cases e
    | nl =>
      simp only [argsOf] at e
      cases q : isNilA x with
      | false => rw [q] at e; cases e
      | true =>
        rw [q] at e
        obtain rfl := isNilA_eq q
        exact ih (i + 1) vals args h _ g (hr.say i (x := .l .nils) (by show a.tmps.getD i undef = .slice none 0 0; exact hv0.trans hx)) hg (fun j hj => hz j (by omega)) hv' h1 h2 e
    | fn f =>
      cases x with
      | l x =>
        cases x with
        | clo f' caps =>
          cases caps with
          | nil =>
            simp only [argsOf] at e
            cases q : Nat.beq f f' with
            | false => rw [q] at e; cases e
            | true =>
              rw [q] at e
              have := Nat.eq_of_beq_eq_true q
              subst this
              obtain ⟨us, hu, hus⟩ := hx
              cases hus
              exact ih (i + 1) vals args h _ g (hr.say i (x := .l (.clo f [])) ⟨[], hv0.trans hu, .nil⟩) hg (fun j hj => hz j (by omega)) hv' h1 h2 e
          | cons _ _ => cases e
        | _ => cases e
      | _ => cases e

theorem argsOf_len : ∀ (pm : List PM) (args : List (AV C.S.U)) {h : HL C.S.U (PM.tys pm)}, argsOf C.S st pm args = some h → args.length = PM.np pm
  | [], [], _, _ => rfl
  | [], _ :: _, _, e => nomatch e
  | .d t :: pm, [], _, e => nomatch e
  | .iv _ _ :: pm, [], _, e => nomatch e
  | .fn _ :: pm, [], _, e => nomatch e
  | .ref _ :: pm, [], _, e => nomatch e
  | .ref _ :: pm, _ :: _, _, e => nomatch e
  | .clo _ _ :: pm, [], _, e => nomatch e
  | .clo _ _ :: pm, _ :: _, _, e => nomatch e
  | .gh _ _ :: pm, [], _, e => nomatch e
  | .gh _ _ :: pm, _ :: _, _, e => nomatch e
  | .mp _ _ :: pm, [], _, e => nomatch e
  | .mp _ _ :: pm, _ :: _, _, e => nomatch e
  | .rw _ _ :: pm, [], _, e => nomatch e
  | .rw _ _ :: pm, _ :: _, _, e => nomatch e
  | .nl :: pm, [], _, e => nomatch e
  | .nl :: pm, x :: args, h, e => by
    simp only [argsOf] at e
    cases q : isNilA x with
    | false => rw [q] at e; cases e
    | true => rw [q] at e; show args.length + 1 = PM.np pm + 1; rw [argsOf_len pm args e]
  | .d t :: pm, x :: args, h, e => by
    simp only [argsOf] at e
    split at e
    · split at e
      · rename_i eh; show args.length + 1 = PM.np pm + 1; rw [argsOf_len pm args eh]
      · cases e
    · cases e
  | .iv T t :: pm, x :: args, h, e => by
    cases x with
    | ifv T' x =>
      simp only [argsOf] at e
      cases q : Nat.beq T T' with
      | false => rw [q] at e; cases e
      | true =>
        rw [q] at e
        simp only [cond_true] at e
        split at e
        · split at e
          · rename_i eh; show args.length + 1 = PM.np pm + 1; rw [argsOf_len pm args eh]
          · cases e
        · cases e
    | _ => cases e
  | .fn f :: pm, x :: args, h, e => by
    cases x with
    | l x =>
      cases x with
      | clo f' caps =>
        cases caps with
        | nil =>
          simp only [argsOf] at e
          cases q : Nat.beq f f' with
          | false => rw [q] at e; cases e
          | true => rw [q] at e; show args.length + 1 = PM.np pm + 1; rw [argsOf_len pm args e]
        | cons _ _ => cases e
      | _ => cases e
    | _ => cases e

/-- What the checker has made of a function. -/
structure FnOk (P : Program) (C : Ctx) (f : Nat) (fn : Func) (b : Code) (pm : List PM) (rs : List Ty) (an : Ann) : Prop where
  hf : P.funcs[f]? = some fn
  hn : (fn.name == "runtime.NumGoroutine") = false
  hb : fn.body = some b
  hp : PM.np pm ≤ fn.ntmps
  nodup : nodupB (idsOf b an) = true

theorem entry_sound (B : Base P C) (mo : P.follows .mixedOrders = true) {f : Nat} {fn : Func} {b : Code} {pm : List PM} {rs : List Ty} {an : Ann} (hfn : FnOk P C f fn b pm rs an) {O : Nat → Oracle C.S} {k : Nat} (hO : ∀ j, j ≤ k → OracleOk P C (O j)) {T : List (Lb C.S (RT C.S.U rs))}
    (hT : ∀ x ∈ T, LbOk C O ⟨fn.ntmps, [], []⟩ T b an (endK C rs fn.results.toList) x) {F : HL C.S.U (PM.tys pm) → Option (RT C.S.U rs)}
    (hF : ∀ h, F h = codeK (C := C) (O k) ⟨fn.ntmps, [], []⟩ (Lb.tab T k) b an (endK C rs fn.results.toList) (slotsOf C.S.U 0 pm h (empty C.S.U))) : (entryOf C.S pm rs F).Sound P C f := by
  refine ⟨fun ρ args st R r h c a w g vals hr hv => ?_, entry_par⟩
  simp only [entryOf] at h
  split at h
  · rename_i hh eh
    obtain ⟨x, hx, h⟩ := Option.bind_eq_some_iff.1 h
    obtain ⟨g1, f1, f2, f3, f4⟩ := hr.frzAs B.S hv
    have hlen : vals.length = PM.np pm := by rw [hv.length, argsOf_len pm args eh]
    let c' : Call := { N := ⟨fn.ntmps, [], []⟩, pv := fun _ => undef, gv := fun _ => none, base := w.heap.size, X := fun _ => False, w0 := w, M0 := g1.M }
    let a0 : Act := { tmps := vals.toArray ++ Array.replicate (fn.ntmps - vals.toArray.size) undef, defers := [] }
    have hsz : a0.tmps.size = fn.ntmps := by
      show (vals.toArray ++ Array.replicate (fn.ntmps - vals.toArray.size) undef).size = fn.ntmps
      simp only [Array.size_append, List.size_toArray, Array.size_replicate]
      have := hfn.hp
      omega
    let gE : Gh := { M := g1.M, β := fun _ _ => none, γ := fun _ _ => 0, τ := fun _ _ => false }
    have hE : Rel c' (empty C.S.U) a0 w gE :=
      { agree := f1.agree, slots := fun _ => trivial, objs := fun _ _ _ q => (nomatch q), own := fun _ _ _ _ q => (nomatch q), apart := fun _ _ _ _ _ _ _ q => (nomatch q), fresh := fun _ _ _ => rfl, size := hsz, defers := rfl, pin := fun _ q => (nomatch q), gpin := fun _ q => (nomatch q), glob := ⟨fun k hk => ⟨(hr.globW k hk).1, fun q => q, (hr.globW k hk).2⟩, fun k t x e => by obtain ⟨cs, h1, h2, h3⟩ := hr.glob.2 k t x e; exact ⟨cs, f2.M _ _ (hr.m0 _ _ h1), h2, h3.mono (hr.m0.trans f2.M)⟩⟩, keep := Keep.refl w.heap.size (fun _ => False) w, ge := Nat.le_refl _, m0 := Mle.refl g1.M, mb := fun _ _ q => .inl q }
    obtain ⟨g0, hr0⟩ := slots_sound (c := c') (a := a0) B.S hr f2.M pm 0 vals args hh (empty C.S.U) gE hE rfl (fun _ _ => rfl) (fun k v hk => by
      show (vals.toArray ++ Array.replicate (fn.ntmps - vals.toArray.size) undef).getD (0 + k) undef = v
      have hlt : k < vals.length := (List.getElem?_eq_some_iff.1 hk).1
      rw [Nat.zero_add, Array.getD_eq_getD_getElem?, Array.getElem?_append_left (by simpa using hlt)]
      simp [hk]) hv f4 eh
    rw [hF] at hx
    refine callOk_of_calls hfn.hf hfn.hn (by rw [hfn.hb]; rfl) (calls_of_wp hfn.hf hfn.hb ?_)
    let Q : Post := bodyPost P fn fun e w' => ∃ v, e = .returned v ∧ ∃ z st' g', R z st' = some r ∧ Rel c st' a w' g' ∧ RepA g' st'.mem st'.cnt v z ∧ Ext g g' st.cnt ∧ ∀ d, st.cnt d ≤ st'.cnt d
    have hQ : ∀ st' a' w' g', Rel c' st' a' w' g' → resOf C st' rs fn.results.toList = some x → a'.defers = [] ∧ ∃ v, (results fn a'.tmps).run P w' = .ok v w' ∧ ∃ v', Ending.returned v = .returned v' ∧ ∃ z st' g', R z st' = some r ∧ Rel c st' a w' g' ∧ RepA g' st'.mem st'.cnt v' z ∧ Ext g g' st.cnt ∧ ∀ d, st.cnt d ≤ st'.cnt d := by
      intro st' a' w' g' hr' e
      obtain ⟨us, zs, k1, k2, k3⟩ := resOf_sound B hr' rs fn.results.toList x e
      obtain ⟨g2, j1, j2, j3, j4⟩ := hr'.frzAs B.S k2
      have hrep := k3 g2 j4
      have hgrow : Grow w w' := ⟨hr'.keep.os, hr'.keep.tape, hr'.keep.output, hr'.keep.size, fun k hk => hr'.keep.block k hk (fun q => q)⟩
      refine ⟨hr'.defers, ansOf us, results_run k1, ansOf us, rfl, retAV rs x, cond (rs.all Ty.flat) st (frzAs args st), ?_⟩
      cases hfl : rs.all Ty.flat with
      | true =>
        rw [hfl] at h
        exact ⟨g, h, hr.world hgrow, repR_ans rs us x (flat_repR rs us x hfl hrep), Ext.refl _ _, fun _ => Nat.le_refl _⟩
      | false =>
        rw [hfl] at h
        have hcnt := (frzAs_cnt args st).1
        have h3 := (f1.world hgrow).learn (M' := g2.M) j1.m0 j1.agree (fun d j o b e m hb => by
          have hown := f1.own d j o b e m hb
          have hlt := (f1.objs d j o e).lt m hb
          cases q : g2.M b with
          | none => rfl
          | some cs =>
            rcases j1.mb b cs q with z | z | z
            · have z : g1.M b = some cs := z
              rw [hown.1] at z; cases z
            · have z : w.heap.size ≤ b := z
              omega
            · exact z.elim) (fun b cs q => by
            rcases j1.mb b cs q with z | z | z
            · exact .inl z
            · exact .inr (.inl (Nat.le_trans hr.ge z))
            · exact z.elim)
        exact ⟨_, h, h3, repR_ans (g := { g1 with M := g2.M }) rs us x hrep, f2.trans (c' := st.cnt) ⟨j1.m0, fun _ _ _ => rfl, fun _ _ _ => rfl, fun _ _ _ => rfl⟩ (fun _ => Nat.le_refl _), fun d => Nat.le_of_eq (congrFun hcnt.symm d)⟩
    have hK : KOk c' (endK C rs fn.results.toList) x Q := fun e st' a' w' g' hr' q => by
      cases e with
      | norm => exact hQ st' a' w' g' hr' q
      | ret => exact hQ st' a' w' g' hr' q
      | exit id => cases q
    have hL := labels_sound (c := c') B mo hT hfn.nodup hK k fun j hj => hO j (Nat.le_of_lt hj)
    exact codeK_sound ⟨B, mo, hO k (Nat.le_refl k), hL⟩ b an _ Q _ a0 w g0 (fun q hq a w hw => hw q hq rfl) hK hr0 hx
  · cases h
end
end Go.Proofs.YthmedjljckbidaaDoor.Lift
