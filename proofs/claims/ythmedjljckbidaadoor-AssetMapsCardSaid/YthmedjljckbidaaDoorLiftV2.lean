/- A row that is handed over to a call and comes back as its first result. Conditions: as each theorem states them. -/
import Derived.Test.YthmedjljckbidaaDoorLiftV1
set_option linter.unusedVariables false
namespace Go.Proofs.YthmedjljckbidaaDoor.Lift
section
variable {P : Program} {C : Ctx} {c c0 : Call} {st st0 : St C.S.U} {a a0 : Act} {w : World} {g g0 : Gh}

theorem RT.hd_cons {U : Nat → Type} {t : Ty} (x : El U t) : ∀ (rs : List Ty) (y : RT U rs), RT.hd rs (RT.cons x rs y) = x
  | [], _ => rfl
  | _ :: _, _ => rfl
theorem RT.tl_cons {U : Nat → Type} {t : Ty} (x : El U t) : ∀ (rs : List Ty) (y : RT U rs), RT.tl rs (RT.cons x rs y) = y
  | [], _ => rfl
  | _ :: _, _ => rfl

theorem resL_sound (B : Base P C) (hr : Rel c st a w g) {v : ResultVar} {x : LV C.S.U} (h : resL C st v = some x) : ∃ u, (readRes v a.tmps).run P w = .ok u w ∧ RepL g st.mem st.cnt u x := by
  cases v with
  | tmp d =>
    simp only [resL] at h
    split at h
    · rename_i y e
      cases h
      have := hr.slots d
      rw [e] at this
      exact ⟨_, by simp [readRes], this⟩
    · cases h
  | cell d T =>
    simp only [resL] at h
    split at h
    · rename_i d' j o e
      have hv := hr.slots d
      rw [e] at hv
      obtain ⟨u, y, k1, k2, k3⟩ := loadK_sound B.S B.T hr (v := a.tmps.getD d undef) hv h
      obtain ⟨_, b, _, hv⟩ := hv
      refine ⟨u, ?_, ?_⟩
      · rw [hv] at k1
        rw [readRes, hv]
        simpa [Instr.loadAt, Instr.sureAddr, asAddr, ptr] using k1
      · cases y with
        | l y => cases k2; exact k3
        | _ => cases k2
    · cases h

theorem retW_rep {m : Nat → Nat → Option (Obj' C.S.U)} {cnt : Nat → Nat} {d j : Nat} {u : Value} {rs : List Ty} {us : List Value} {x : RT C.S.U rs} (h0 : RepL g m cnt u (.row d j)) (h : RepR C.S g.M rs us x) : RepA g m cnt (ansOf (u :: us)) (retW d j rs x) := by
  have ha := repR_all (g := g) (m := m) (cnt := cnt) rs us x h
  unfold retW
  generalize retL rs x = l at ha
  cases ha with
  | nil => exact h0
  | cons h1 h2 => exact ⟨_, rfl, .cons h0 (.cons h1 h2)⟩

theorem entryW_sound (B : Base P C) (mo : P.follows .mixedOrders = true) {f : Nat} {fn : Func} {b : Code} {E : Nat} {t : Ty} {pm : List PM} {rs : List Ty} {an : Ann} (hfn : FnOk P C f fn b pm rs an) (href : hasRef pm = true) (hgs : incrB fn.ntmps (PM.gs pm) = true) {O : Nat → Oracle C.S} {k : Nat} (hO : ∀ j, j ≤ k → OracleOk P C (O j)) {T : List (Lb C.S (RT C.S.U (.sl t :: rs) × HL C.S.U (PM.outs pm)))}
    (hT : ∀ x ∈ T, LbOk C O ⟨fn.ntmps, PM.pins 0 pm, PM.gs pm⟩ T b an (endW C E t rs fn.results.toList pm) x) {F : HL C.S.U (PM.tys pm) → Option (RT C.S.U (.sl t :: rs) × HL C.S.U (PM.outs pm))}
    (hF : ∀ h, F h = codeK (C := C) (O k) ⟨fn.ntmps, PM.pins 0 pm, PM.gs pm⟩ (Lb.tab T k) b an (endW C E t rs fn.results.toList pm) (slotsOf C.S.U 0 pm h (emptyG C.S.U (PM.gs pm)))) : (entryW C.S E t pm rs F).Sound P C f := by
  refine ⟨fun ρ args st R r h c a w g vals hr hv => ?_, fun args st st' hf _ ρ R => ?_⟩
  · simp only [entryW] at h
    generalize hm : bindR st pm args = m at h
    split at h
    case h_2 => cases h
    rename_i d ed
    split at h
    · rename_i hh st1 eh
      obtain ⟨x, hx, h⟩ := Option.bind_eq_some_iff.1 h
      obtain ⟨g1, f1, f2, f3, f4⟩ := fzR_sound B.S m pm args vals st g hr hv
      have hv1 : All2 (RepA g1 (fzR m pm args st).mem (fzR m pm args st).cnt) vals args := All2.imp (fun u y q => by rw [f3]; exact RepA.mono f2 f4 (fun _ => Nat.le_refl _) q) hv
      let cb : Call := { N := ⟨fn.ntmps, PM.pins 0 pm, PM.gs pm⟩, pv := fun i => vals.getD i undef, gv := fun s => match lkp s m with | some p => g1.β p.1 p.2 | none => none, base := w.heap.size, X := fun b => c.base ≤ b ∨ c.X b, w0 := w, M0 := g1.M }
      let a0 : Act := { tmps := vals.toArray ++ Array.replicate (fn.ntmps - vals.toArray.size) undef, defers := [] }
      have hslot : ∀ k v, vals[k]? = some v → a0.tmps.getD k undef = v := fun k v hk => by
        show (vals.toArray ++ Array.replicate (fn.ntmps - vals.toArray.size) undef).getD k undef = v
        have hlt : k < vals.length := (List.getElem?_eq_some_iff.1 hk).1
        rw [Array.getD_eq_getD_getElem?, Array.getElem?_append_left (by simpa using hlt)]
        simp [hk]
      have hlen : vals.length = PM.np pm := by
        rw [hv.length]
        exact entryR_sound.argsR_len m pm args _ eh
      have hsz : a0.tmps.size = fn.ntmps := by
        show (vals.toArray ++ Array.replicate (fn.ntmps - vals.toArray.size) undef).size = fn.ntmps
        simp only [Array.size_append, List.size_toArray, Array.size_replicate]
        have := hfn.hp
        omega
      have hpin : ∀ i ∈ PM.pins 0 pm, a0.tmps.getD i undef = vals.getD i undef := fun i hi => by
        have hlt : i < vals.length := by have := (pins_ge pm 0 i hi).2; omega
        rw [hslot i vals[i] (List.getElem?_eq_getElem hlt), List.getD_eq_getElem?_getD, List.getElem?_eq_getElem hlt]
        rfl
      let gE : Gh := { M := g1.M, β := fun s k => cond (Nat.beq k 1) (match lkp s m with | some p => g1.β p.1 p.2 | none => none) none, γ := fun _ _ => 0, τ := fun _ _ => false }
      have hEc : ∀ s ∈ PM.gs pm, (emptyG C.S.U (PM.gs pm)).cnt s = 1 := fun s hs => by
        show cond (memB s (PM.gs pm)) 1 0 = 1
        rw [mem_memB hs]; rfl
      have hE : Rel cb (emptyG C.S.U (PM.gs pm)) a0 w gE :=
        { agree := f1.agree, slots := fun _ => trivial, objs := fun _ _ _ q => (nomatch q), own := fun _ _ _ _ q => (nomatch q), apart := fun _ _ _ _ _ _ _ q => (nomatch q), fresh := fun _ _ _ => rfl, size := hsz, defers := rfl, pin := hpin, gpin := fun s hs => ⟨Nat.le_of_eq (hEc s hs).symm, rfl⟩, glob := ⟨fun k hk => ⟨(hr.globW k hk).1, fun q => q.elim (fun z => by have := (hr.glob.1 k hk).1; omega) (hr.glob.1 k hk).2.1, (hr.globW k hk).2⟩, fun k t x e => by obtain ⟨cs, h1, h2, h3⟩ := hr.glob.2 k t x e; exact ⟨cs, f2.M _ _ (hr.m0 _ _ h1), h2, h3.mono (hr.m0.trans f2.M)⟩⟩, keep := Keep.refl w.heap.size _ w, ge := Nat.le_refl _, m0 := Mle.refl g1.M, mb := fun _ _ q => .inl q }
      have hz0 : ∀ j, j < fn.ntmps → (emptyG C.S.U (PM.gs pm)).cnt j = 0 := fun j hj => by
        show cond (memB j (PM.gs pm)) 1 0 = 0
        cases q : memB j (PM.gs pm) with
        | false => rfl
        | true => have := slotsR_sound.incr_ge hgs j (in_of_memB q); omega
      have hNE : Nms m [] g1 gE (emptyG C.S.U (PM.gs pm)).cnt := fun s d j q => by
        refine ⟨?_, ?_⟩
        · show cond (Nat.beq 1 1) (match lkp s m with | some p => g1.β p.1 p.2 | none => none) none = g1.β d j
          rw [q]; rfl
        · exact Nat.le_of_eq (hEc s (bindR_in (by rw [hm]; exact q))).symm
      obtain ⟨g0, H, hc1, hq, hm1⟩ := slotsR_sound (c := c) (c0 := cb) (a := a) (a0 := a0) B.S m fn.ntmps pm 0 vals args _ (emptyG C.S.U (PM.gs pm)) gE hh st1 ⟨f1, hE, rfl, fun _ _ _ _ _ _ _ _ _ _ q => (nomatch q), fun b q => .inr q⟩ hNE (fun j _ hj => hz0 j hj) (by rw [Nat.zero_add]; exact hfn.hp) ⟨fn.ntmps, Nat.le_refl _, hgs⟩ hEc (fun k v hk => by rw [Nat.zero_add]; exact hslot k v hk) hv1 eh
      let X' : Nat → Prop := fun b => (c.base ≤ b ∨ c.X b) ∧ g1.M b = none ∧ ∀ d j o, st1.mem d j = some o → o.mut = true → g1.β d j ≠ some b
      let c' : Call := { cb with X := X' }
      have hr0 : Rel c' (slotsOf C.S.U 0 pm hh (emptyG C.S.U (PM.gs pm))) a0 w g0 :=
        { agree := H.new.agree, slots := H.new.slots, objs := H.new.objs
          own := fun d j o b e m hb => ⟨(H.new.own d j o b e m hb).1, by
            rcases (H.new.own d j o b e m hb).2 with z | z
            · exact .inl z
            · exact .inr ⟨z, by rw [← H.M]; exact (H.new.own d j o b e m hb).1, fun d1 j1 o1 e1 m1 hb1 => H.dis d1 j1 o1 b d j o e1 m1 hb1 e m hb⟩⟩
          apart := H.new.apart, fresh := H.new.fresh, size := H.new.size, defers := H.new.defers, pin := H.new.pin, gpin := H.new.gpin, glob := ⟨fun k hk => ⟨(H.new.glob.1 k hk).1, fun q => (H.new.glob.1 k hk).2.1 q.1, (H.new.glob.1 k hk).2.2⟩, H.new.glob.2⟩, keep := Keep.refl w.heap.size _ w, ge := Nat.le_refl _, m0 := by show Mle g1.M g0.M; rw [H.M]; exact Mle.refl _, mb := fun b cs q => .inl (by show g1.M b = some cs; rw [← H.M]; exact q) }
      rw [hF] at hx
      refine callOk_of_calls hfn.hf hfn.hn (by rw [hfn.hb]; rfl) (calls_of_wp hfn.hf hfn.hb ?_)
      let Q : Post := bodyPost P fn fun e w' => ∃ v, e = .returned v ∧ (∃ z st' g', R z st' = some r ∧ Rel c st' a w' g' ∧ RepA g' st'.mem st'.cnt v z ∧ Ext g g' st.cnt ∧ ∀ d, st.cnt d ≤ st'.cnt d)
      have hQ : ∀ st' a' w' g', Rel c' st' a' w' g' → endW C E t rs fn.results.toList pm .ret st' = some x → a'.defers = [] ∧ ∃ v, (results fn a'.tmps).run P w' = .ok v w' ∧ ∃ v', Ending.returned v = .returned v' ∧ (∃ z st' g', R z st' = some r ∧ Rel c st' a w' g' ∧ RepA g' st'.mem st'.cnt v' z ∧ Ext g g' st.cnt ∧ ∀ d, st.cnt d ≤ st'.cnt d) := by
        intro st' a' w' g' hr' e
        cases hvs : fn.results.toList with
        | nil => rw [hvs] at e; simp only [endW] at e; cases e
        | cons v0 vs =>
        rw [hvs] at e
        obtain ⟨g2, hr2⟩ := vars_frz B vs st' g' hr'
        obtain ⟨g3, hr3⟩ := outs_frz B.S pm 0 _ g2 hr2
        simp only [endW] at e
        split at e
        case h_2 => cases e
        rename_i xl exl
        split at e
        case h_2 => cases e
        rename_i xs st2 exs
        split at e
        case h_2 => cases e
        rename_i x1 e1
        split at e
        case h_2 => cases e
        rename_i x2 e2
        cases e
        obtain ⟨u0, hu0, hu1⟩ := resL_sound B hr3 exl
        have hsub : ∀ b, (w.heap.size ≤ b ∨ X' b) → (c.base ≤ b ∨ c.X b) := fun b q => q.elim (fun z => .inl (Nat.le_trans hr.ge z)) (fun z => z.1)
        have ha := H.old.after (X := X') (w' := w') hr'.keep (fun b z => z)
        have h3 := ha.learn (M' := g3.M) hr3.m0 hr3.agree (fun d j o b e m hb => by
          have hown := H.old.own d j o b e m hb
          have hlt := (H.old.objs d j o e).lt m hb
          cases q : g3.M b with
          | none => rfl
          | some cs =>
            rcases hr3.mb b cs q with z | z | z
            · have z : g1.M b = some cs := z
              rw [hown.1] at z; cases z
            · have z : w.heap.size ≤ b := z
              omega
            · exact absurd hb (z.2.2 d j o e m)) (fun b cs q => by
            rcases hr3.mb b cs q with z | z | z
            · exact .inl z
            · exact .inr (hsub b (.inl z))
            · exact .inr (hsub b (.inr z)))
        have hdis : ∀ d j o b d' j' o', (fzOut 0 pm (fzV C vs st')).mem d j = some o → o.mut = true → g3.β d j = some b → st1.mem d' j' = some o' → o'.mut = true → g1.β d' j' ≠ some b := fun d j o b d' j' o' q m z q' m' z' => by
          rcases (hr3.own d j o b q m z).2 with y | y
          · have y : w.heap.size ≤ b := y
            have := (H.old.objs d' j' o' q').lt m' z'
            omega
          · exact y.2.2 d' j' o' q' m' z'
        have hv2 : All2 (RepA { g1 with M := g3.M } st1.mem st1.cnt) vals args := All2.imp (fun u y q => by
          rw [hc1]
          have hx : Ext g1 { g1 with M := g3.M } (fzR m pm args st).cnt := ⟨hr3.m0, fun _ _ _ => rfl, fun _ _ _ => rfl, fun _ _ _ => rfl⟩
          exact RepA.mono hx hm1 (fun _ => Nat.le_refl _) q) hv1
        have hNB : Nms (selfNm (PM.gs pm)) m g3 { g1 with M := g3.M } st1.cnt := fun s d j q => by
          obtain ⟨hs, rfl, rfl⟩ := entryR_sound.self_mem q
          obtain ⟨d2, j2, e2, e3⟩ := hq.gs s hs
          have ht : tgt m s = (d2, j2) := by unfold tgt; rw [e2]
          rw [ht]
          have h5 : g3.β s 1 = (match lkp s m with | some p => g1.β p.1 p.2 | none => none) := (hr3.gpin s hs).2
          rw [e2] at h5
          exact ⟨h5.symm, by rw [hc1]; exact e3⟩
        have H0 : Two c' c a' a w' (fzOut 0 pm (fzV C vs st')) g3 st1 { g1 with M := g3.M } := ⟨hr3, h3, rfl, hdis, hsub⟩
        obtain ⟨bk, cap, H1, q1, q2, q3, q4⟩ := asRow_sound H0 hu1 exs d
        obtain ⟨us, k1, k2⟩ := resF_sound B H1.old rs vs x1 e1
        have hnx := Ext.new { g1 with M := g3.M } st1.cnt d bk cap
        have hcl := cnt_le st1.cnt d
        have hml : Memle st1.mem (newObj' d (.row E t xs) st1).mem st1.cnt := Memle.new st1.mem st1.cnt d (.row E t xs)
        obtain ⟨g4, l1, l2, l3, l4, l5⟩ := back_sound (c := c') (c0 := c) (a := a') (a0 := a) B.S (selfNm (PM.gs pm)) m pm 0 vals args st2 (newObj' d (.row E t xs) st1) _ x2 H1 (hNB.mono hnx hcl) (fun s hs => entryR_sound.self_lkp hs) (fun k hk v hv => by
          have := hr3.pin k hk
          rw [this]
          show vals.getD k undef = v
          rw [List.getD_eq_getElem?_getD, show vals[k]? = some v from by simpa using hv]
          rfl) (All2.imp (fun u y q => RepA.mono hnx hml hcl q) hv2) (RefsOk.mono hcl (by rw [hc1]; exact hq)) e2
        have hc : st1.cnt = st.cnt := hc1.trans f3
        simp only [RT.hd_cons, RT.tl_cons] at h
        refine ⟨hr3.defers, ansOf (u0 :: us), results_run (by rw [hvs]; simp only [List.mapM_cons, Sem.run_bind, hu0, Sem.run_pure, Result.andThen_ok, k1]), ansOf (u0 :: us), rfl, _, _, g4, h, l1, retW_rep (RepL.mono l2 l5 l3 u0 _ q1) (entryR_sound.repR_mono l4 rs us x1 k2), ?_, fun e => ?_⟩
        · have hx : Ext g1 { g1 with M := g3.M } st.cnt := ⟨hr3.m0, fun _ _ _ => rfl, fun _ _ _ => rfl, fun _ _ _ => rfl⟩
          have h13 : Ext g { g1 with M := g3.M } st.cnt := f2.trans hx (fun _ => Nat.le_refl _)
          rw [← hc] at h13 ⊢
          exact (h13.trans hnx (fun _ => Nat.le_refl _)).trans l2 hcl
        · rw [← hc]
          exact Nat.le_trans (hcl e) (l3 e)
      have hK : KOk c' (endW C E t rs fn.results.toList pm) x Q := fun e st' a' w' g' hr' q => by
        cases e with
        | norm => exact hQ st' a' w' g' hr' q
        | ret => exact hQ st' a' w' g' hr' q
        | exit id => cases q
      have hL := labels_sound (c := c') B mo hT hfn.nodup hK k fun j hj => hO j (Nat.le_of_lt hj)
      exact codeK_sound ⟨B, mo, hO k (Nat.le_refl k), hL⟩ b an _ Q _ a0 w g0 (fun q hq a w hw => hw q hq rfl) hK hr0 hx
    · cases h
  · rcases hf with hf | hf
    · cases hf
    · simp only [entryW]
      split
      · simp only [argsR_keyless _ pm args _ href hf]
        rfl
      · rfl
end
end Go.Proofs.YthmedjljckbidaaDoor.Lift
