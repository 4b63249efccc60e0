/- A region: the machine does what the evaluator says of its operations, one after another. Conditions: as each theorem states them. -/
import Derived.Test.YthmedjljckbidaaDoorLiftP3
set_option linter.unusedVariables false
namespace Go.Proofs.YthmedjljckbidaaDoor.Lift
section
variable {P : Program} {C : Ctx} {c : Call} {st : St C.S.U} {a : Act} {w : World} {g : Gh} {ρ : Type}

theorem rsvL_sound {g : Gh} {m : Nat → Nat → Option (Obj' C.S.U)} {cnt : Nat → Nat} {v : Value} {d j : Nat} {b : Bool} (ht : g.τ d j = b) : ∀ x : LV C.S.U, RepL g m cnt v x → RepL g m cnt v (rsvL d j b x)
  | .tb d' j' x, h => by
    unfold rsvL
    cases e : Nat.beq d d' && Nat.beq j j' with
    | false => exact h
    | true =>
      simp at e
      obtain ⟨rfl, rfl⟩ := e
      obtain ⟨h1, h2, _⟩ := h
      exact h1.trans (by rw [← h2, ht])
  | .gv d' j' w x, h => by
    unfold rsvL
    have ih := fun e => rsvL_sound ht x (h.2.1 e)
    cases e : Nat.beq d d' && Nat.beq j j' with
    | false => exact ⟨h.1, ih, h.2.2⟩
    | true =>
      simp at e
      obtain ⟨rfl, rfl⟩ := e
      cases e2 : (w == b) with
      | true =>
        have : w = b := by simpa using e2
        subst this
        exact ih ht
      | false =>
        have : w ≠ b := by simpa using e2
        exact h.2.2 fun e3 => this (by rw [← ht, e3])
  | .v _ _, h => h
  | .bl _, h => h
  | .nils, h => h
  | .nilp, h => h
  | .ref _ _ _, h => h
  | .row _ _, h => h
  | .mp _ _, h => h
  | .pt _ _, h => h
  | .rpt _ _ _ _, h => h
  | .clo _ _, h => h
  | .und, h => h
  | .junk, h => h

theorem Rel.rsv (hr : Rel c st a w g) {d j : Nat} {b : Bool} (ht : g.τ d j = b) : Rel c (st.rsv d j b) a w g :=
  { hr with
    slots := fun k => by
      have := hr.slots k
      simp only [St.rsv]
      cases e : st.sl k with
      | l x => rw [e] at this; exact rsvL_sound ht x this
      | _ => rw [e] at this; exact this }

/-- What an operation's step must bring. -/
def StepOk (P : Program) (ops : Array Oper) (o : Oper) (a : Act) (w : World) (next : Act → World → Prop) (Q : Exit → Act → World → Prop) : Prop :=
  if Region.wanted o (yielded ops a.tmps) then o.wp P a w next Q else next (a.put o.dst undef) w

theorem doK_sound (B : Base P C) {O : Oracle C.S} (hO : OracleOk P C O) {o : Oper} (hr : Rel c st a w g) {cx : List (Nat × Nat × Bool)} (hc : Holds g cx) (hk : Keys g st.cnt cx) {K : St C.S.U → Option ρ} {r : ρ} (h : doK C O c.N cx o K st = some r)
    {next : Act → World → Prop} {Q : Exit → Act → World → Prop} (hn : ∀ st' a' w' g', (stillOp o.op = true → w' = w) → Rel c st' a' w' g' → K st' = some r → next a' w') : o.wp P a w next Q := by
  refine opK_sound B hO hr hc h fun v w' hv => ?_
  obtain ⟨h0, z, st', g', h1, h2, h3, h4, h5⟩ := hv
  obtain ⟨st2, g2, k1, k2⟩ := put_sound h2 (Keys.mono h4.τ h5 hk).1 (fun _ => h3) (fun q => absurd ((Keys.mono h4.τ h5 hk).2.2 hc) q) h1
  exact hn _ _ _ _ h0 k2 k1

theorem skipK_sound {o : Oper} (hr : Rel c st a w g) {K : St C.S.U → Option ρ} {r : ρ} (h : skipK C c.N o K st = some r)
    {next : Act → World → Prop} (hn : ∀ st' a' w' g', (stillOp o.op = true → w' = w) → Rel c st' a' w' g' → K st' = some r → next a' w') : next (a.put o.dst undef) w := by
  obtain ⟨st2, g2, k1, k2⟩ := put_sound hr (cx := []) trivial (v := undef) (x := .l .und) (fun _ => rfl) (fun _ => rfl) h
  exact hn _ _ _ _ (fun _ => rfl) k2 k1

theorem yielded_at {ops : Array Oper} {i s : Nat} (h : (ops[i]?).bind (·.dst) = some s) (tmps : Array Value) : yielded ops tmps i = match tmps.getD s undef with | .bool b => some b | _ => none := by
  unfold yielded
  rw [h]
  simp only [Option.bind_some, Array.getD_eq_getD_getElem?]
  cases e : tmps[s]? with
  | none => rfl
  | some v => cases v <;> rfl

theorem splitK_sound (B : Base P C) {O : Oracle C.S} (hO : OracleOk P C O) {ops : Array Oper} {o : Oper} {i s : Nat} {want : Bool} (hg : o.guard = some (i, want)) (hs : (ops[i]?).bind (·.dst) = some s) {K : St C.S.U → Option ρ} {r : ρ}
    {next : Act → World → Prop} {Q : Exit → Act → World → Prop} (hn : ∀ st' a' w' g', (stillOp o.op = true → w' = w) → Rel c st' a' w' g' → K st' = some r → next a' w') : ∀ (n : Nat) (st : St C.S.U), Rel c st a w g → splitK C O c.N o want s K n st = some r → StepOk P ops o a w next Q
  | 0, _, _, h => nomatch h
  | n + 1, st, hr, h => by
    have hy := yielded_at hs a.tmps
    have hw : Region.wanted o (yielded ops a.tmps) = (yielded ops a.tmps i == some want) := by simp [Region.wanted, hg]
    have hv := hr.slots s
    unfold splitK at h
    split at h
    · rename_i b eb
      rw [eb] at hv
      have hv : a.tmps.getD s undef = .bool b := hv
      unfold StepOk
      rw [hw, hy, hv]
      cases e : (b == want) with
      | true =>
        rw [e] at h
        have : b = want := by simpa using e
        subst this
        simp only [beq_self_eq_true, if_true]
        exact doK_sound B hO hr (Holds.nil _) trivial h hn
      | false =>
        rw [e] at h
        have : b ≠ want := by simpa using e
        have e3 : (some b == some want) = false := by simpa using this
        simp only [e3]
        exact skipK_sound hr h hn
    · rename_i eb
      rw [eb] at hv
      have hv : a.tmps.getD s undef = undef := hv
      unfold StepOk
      rw [hw, hy, hv]
      exact skipK_sound hr h hn
    · rename_i d j b eb
      rw [eb] at hv
      obtain ⟨_, ht, _⟩ := hv
      cases b with
      | true => exact splitK_sound B hO hg hs hn n _ (hr.rsv ht) h
      | false => exact splitK_sound B hO hg hs hn n _ (hr.rsv ht) h
    · rename_i d j _ _ eb
      have hd := hr.slots d
      split at h
      · rename_i d' j' b ed
        rw [ed] at hd
        obtain ⟨_, ht, _⟩ := hd
        cases q : Nat.beq d d' && Nat.beq j j' with
        | false => rw [q] at h; cases h
        | true =>
          rw [q] at h
          simp at q
          obtain ⟨rfl, rfl⟩ := q
          cases b with
          | true => exact splitK_sound B hO hg hs hn n _ (hr.rsv ht) h
          | false => exact splitK_sound B hO hg hs hn n _ (hr.rsv ht) h
      · cases h
    · cases h

/-- A guard's value, by its marks. -/
theorem marksOf_sound {g : Gh} {m : Nat → Nat → Option (Obj' C.S.U)} {cnt : Nat → Nat} {v : Value} : ∀ (x : LV C.S.U) {cx : List (Nat × Nat × Bool)} {d j : Nat} {b : Bool} (want : Bool), marksOf x = some (cx, d, j, b) → RepL g m cnt v x →
    Keys g cnt (cx ++ [(d, j, want)]) ∧ ((Holds g (cx ++ [(d, j, want)]) ∧ v = .bool want) ∨ (¬ Holds g (cx ++ [(d, j, want)]) ∧ v ≠ .bool want))
  | .tb d' j' b', cx, d, j, b, want, e, h => by
    cases e
    obtain ⟨h1, h2, h3⟩ := h
    refine ⟨⟨h3, fun _ => trivial⟩, ?_⟩
    rw [List.nil_append, Holds.cons, h1, h2]
    by_cases q : b' = want
    · subst q; exact .inl ⟨⟨rfl, Holds.nil _⟩, rfl⟩
    · exact .inr ⟨fun k => q k.1, fun k => q (by cases k; rfl)⟩
  | .gv d' j' w' x, cx, d, j, b, want, e, h => by
    simp only [marksOf] at e
    cases e1 : marksOf x with
    | none => rw [e1] at e; cases e
    | some q =>
      obtain ⟨cx', d2, j2, b2⟩ := q
      rw [e1] at e
      cases e
      obtain ⟨h1, h2, h3⟩ := h
      by_cases q : g.τ d' j' = w'
      · obtain ⟨k1, k2⟩ := marksOf_sound x want e1 (h2 q)
        refine ⟨⟨h1, fun _ => k1⟩, ?_⟩
        rw [List.cons_append, Holds.cons]
        exact k2.imp (fun k => ⟨⟨q, k.1⟩, k.2⟩) (fun k => ⟨fun z => k.1 z.2, k.2⟩)
      · refine ⟨⟨h1, fun z => absurd z q⟩, .inr ⟨?_, ?_⟩⟩
        · rw [List.cons_append, Holds.cons]; exact fun z => q z.1
        · rw [h3 q]; intro z; cases z
  | .v _ _, _, _, _, _, _, e, _ => nomatch e
  | .bl _, _, _, _, _, _, e, _ => nomatch e
  | .nils, _, _, _, _, _, e, _ => nomatch e
  | .nilp, _, _, _, _, _, e, _ => nomatch e
  | .ref _ _ _, _, _, _, _, _, e, _ => nomatch e
  | .row _ _, _, _, _, _, _, e, _ => nomatch e
  | .mp _ _, _, _, _, _, _, e, _ => nomatch e
  | .pt _ _, _, _, _, _, _, e, _ => nomatch e
  | .rpt _ _ _ _, _, _, _, _, _, e, _ => nomatch e
  | .clo _ _, _, _, _, _, _, e, _ => nomatch e
  | .und, _, _, _, _, _, e, _ => nomatch e
  | .junk, _, _, _, _, _, e, _ => nomatch e

theorem pickV_pure {x : Bool} {a b : LV C.S.U} {R : LV C.S.U → Option ρ} {r : ρ} (h : pickV C x a b R = some r) : ∃ z, R z = some r := by
  unfold pickV at h
  split at h
  · split at h
    · split at h <;> first | exact ⟨_, h⟩ | cases h
    · cases h
  · split at h
    · exact ⟨_, h⟩
    · cases h

theorem fieldOf_pure {ρ : Type} {U : Nat → Type} : ∀ (ts : List Ty) (h : HL U ts) (i : Nat) (R : (t : Ty) → El U t → Option ρ) (r : ρ), fieldOf ts h i R = some r → ∃ t z, R t z = some r
  | [], _, _, _, _, e => nomatch e
  | _ :: _, _, 0, _, _, e => ⟨_, _, e⟩
  | _ :: ts, h, i + 1, R, r, e => fieldOf_pure ts h.2 i R r e

theorem followK_pure {ρ : Type} {S : Sg} : ∀ (fs : List Nat) (t : Ty) (x : El S.U t) (R : (t : Ty) → El S.U t → Option ρ) (r : ρ), followK S fs t x R = some r → ∃ t z, R t z = some r
  | [], _, _, _, _, e => ⟨_, _, e⟩
  | f :: fs, .st n, x, R, r, e => by
    obtain ⟨t, z, q⟩ := fieldOf_pure _ _ _ _ _ e
    exact followK_pure fs t z R r q
  | _ :: _, .int _, _, _, _, e => nomatch e
  | _ :: _, .bool, _, _, _, e => nomatch e
  | _ :: _, .str, _, _, _, e => nomatch e
  | _ :: _, .sl _, _, _, _, e => nomatch e

theorem asT_pure {T : Nat} {t : Ty} {y : El C.S.U t} {R : (t : Ty) → El C.S.U t → Option ρ} {r : ρ} (h : asT C T t y R = some r) : ∃ u z, R u z = some r := by
  unfold asT at h
  split at h
  · split at h
    · exact ⟨_, _, h⟩
    · cases h
  · cases h

theorem loadK_pure {T : Nat} {x : LV C.S.U} {R : AV C.S.U → St C.S.U → Option ρ} {r : ρ} (h : loadK C T x st R = some r) : ∃ z, R z st = some r := by
  unfold loadK at h
  split at h
  · split at h
    · split at h
      · revert h
        cases (Nat.ble _ _) <;> intro h
        · cases h
        · exact ⟨_, h⟩
      · cases h
      · cases h
      · cases h
      · split at h
        · exact ⟨_, h⟩
        · cases h
      · cases h
    · cases h
  · obtain ⟨_, _, q⟩ := asT_pure h
    exact ⟨_, q⟩
  · split at h
    · obtain ⟨y, _, h⟩ := Option.bind_eq_some_iff.1 h
      obtain ⟨_, _, q⟩ := followK_pure _ _ _ _ _ h
      obtain ⟨_, _, q⟩ := asT_pure q
      exact ⟨_, q⟩
    · obtain ⟨y, _, h⟩ := Option.bind_eq_some_iff.1 h
      obtain ⟨_, _, q⟩ := followK_pure _ _ _ _ _ h
      obtain ⟨_, _, q⟩ := asT_pure q
      exact ⟨_, q⟩
    · cases h
  · cases h

theorem fieldAddrK_pure {T f : Nat} {x : LV C.S.U} {R : LV C.S.U → Option ρ} {r : ρ} (h : fieldAddrK C T f x st R = some r) : ∃ z, R z = some r := by
  unfold fieldAddrK at h
  split at h
  · revert h
    cases (Nat.blt f _) <;> intro h
    · cases h
    · simp only [cond_true] at h
      split at h
      · exact ⟨_, h⟩
      · revert h
        cases (Nat.beq _ _) <;> intro h
        · cases h
        · obtain ⟨_, _, q⟩ := fieldOf_pure _ _ _ _ _ h
          exact ⟨_, q⟩
      · split at h
        · revert h
          cases (Nat.beq _ _) <;> intro h
          · cases h
          · exact ⟨_, h⟩
        · cases h
      · cases h
  · cases h

theorem intOp_pure {op : BinOp} {k : IntKind} {m n : Int} {y : Operand} {R : LV C.S.U → Option ρ} {r : ρ} (ho : op ≠ .quo ∧ op ≠ .rem ∧ op ≠ .shl ∧ op ≠ .shr) (h : intOp C op k m n y R = some r) : ∃ z, R z = some r := by
  cases op <;> first | exact ⟨_, h⟩ | exact absurd rfl ho.1 | exact absurd rfl ho.2.1 | exact absurd rfl ho.2.2.1 | exact absurd rfl ho.2.2.2

theorem binOpK_pure {op : BinOp} {x y : LV C.S.U} {yo : Operand} {R : LV C.S.U → Option ρ} {r : ρ} (ho : op ≠ .quo ∧ op ≠ .rem ∧ op ≠ .shl ∧ op ≠ .shr) (h : binOpK C op x y yo R = some r) : ∃ z, R z = some r := by
  unfold binOpK at h
  split at h
  · exact intOp_pure ho h
  · unfold strOp at h
    split at h <;> first
      | exact ⟨_, h⟩
      | (obtain ⟨_, _, h⟩ := Option.bind_eq_some_iff.1 h; exact ⟨_, h⟩)
      | cases h
  · split at h
    · split at h <;> first | exact ⟨_, h⟩ | cases h
    · cases h

theorem lenK_pure {T : Nat} {x : LV C.S.U} {R : LV C.S.U → Option ρ} {r : ρ} (h : lenK C T x st R = some r) : ∃ z, R z = some r := by
  unfold lenK at h
  split at h
  · exact ⟨_, h⟩
  · exact ⟨_, h⟩
  · exact ⟨_, h⟩
  · split at h <;> first | exact ⟨_, h⟩ | cases h
  · split at h <;> first | exact ⟨_, h⟩ | cases h
  · cases h

theorem minR_pure {op : Bool} {k : IntKind} {R : LV C.S.U → Option ρ} {r : ρ} : ∀ (l : List (LV C.S.U)) (a : Int), minR C op k R a l = some r → ∃ z, R z = some r
  | [], _, h => ⟨_, h⟩
  | .v (.int _) b :: l, a, h => minR_pure l _ h
  | .v .bool _ :: _, _, h => nomatch h
  | .v .str _ :: _, _, h => nomatch h
  | .v (.sl _) _ :: _, _, h => nomatch h
  | .v (.st _) _ :: _, _, h => nomatch h
  | .tb _ _ _ :: _, _, h => nomatch h
  | .bl _ :: _, _, h => nomatch h
  | .nils :: _, _, h => nomatch h
  | .nilp :: _, _, h => nomatch h
  | .ref _ _ _ :: _, _, h => nomatch h
  | .row _ _ :: _, _, h => nomatch h
  | .mp _ _ :: _, _, h => nomatch h
  | .pt _ _ :: _, _, h => nomatch h
  | .rpt _ _ _ _ :: _, _, h => nomatch h
  | .clo _ _ :: _, _, h => nomatch h
  | .gv _ _ _ _ :: _, _, h => nomatch h
  | .und :: _, _, h => nomatch h
  | .junk :: _, _, h => nomatch h

theorem minK_pure {op : Bool} {l : List (LV C.S.U)} {R : LV C.S.U → Option ρ} {r : ρ} (h : minK C op l R = some r) : ∃ z, R z = some r := by
  unfold minK at h
  split at h
  · exact minR_pure _ _ h
  · cases h

theorem ahead_pure {O : Oracle C.S} {cx : List (Nat × Nat × Bool)} {o : Oper} (ho : ahead' o.op = true) {R : AV C.S.U → St C.S.U → Option ρ} {r : ρ} (h : opK C O cx o st R = some r) : ∃ z, R z st = some r := by
  cases e : o.op
  all_goals rw [e] at ho
  all_goals first | (exfalso; revert ho; simp [ahead']; done) | skip
  all_goals simp only [opK, e] at h
  case move x => exact ⟨_, h⟩
  case pick x y z =>
    unfold pickK at h
    split at h
    · exact ⟨_, h⟩
    · exact ⟨_, h⟩
    · split at h
      · obtain ⟨z, q⟩ := pickV_pure h; exact ⟨_, q⟩
      · cases h
  case load T x => exact loadK_pure h
  case binOp op T x y yT =>
    split at h
    · revert h
      cases (memB T C.eqs) <;> intro h
      · cases h
      · simp only [cond_true] at h
        split at h
        · split at h <;> first | exact ⟨_, h⟩ | cases h
        · cases h
    · revert h
      cases (binT C T op _ _) <;> intro h
      · cases h
      · obtain ⟨z, q⟩ := binOpK_pure (by refine ⟨?_, ?_, ?_, ?_⟩ <;> (rintro rfl; revert ho; simp [ahead'])) h
        exact ⟨_, q⟩
  case unOp op T x =>
    unfold unOpK at h
    split at h <;> first
      | exact ⟨_, h⟩
      | cases h
      | (split at h <;> first | exact ⟨_, h⟩ | cases h)
  case fieldAddr T x f =>
    obtain ⟨z, q⟩ := fieldAddrK_pure h
    exact ⟨_, q⟩
  case extract x i =>
    split at h
    · split at h
      · exact ⟨_, h⟩
      · cases h
    · cases h
  case call cl =>
    obtain ⟨ca, as, ts⟩ := cl
    unfold callOpK at h
    split at h
    · rename_i q; cases q; revert ho; simp [ahead']
    · rename_i b q
      cases q
      unfold builtinK at h
      split at h
      · split at h
        · obtain ⟨z, q⟩ := lenK_pure h; exact ⟨_, q⟩
        · cases h
      · revert ho; simp [ahead']
      · revert ho; simp [ahead']
      · obtain ⟨z, q⟩ := minK_pure h; exact ⟨_, q⟩
      · obtain ⟨z, q⟩ := minK_pure h; exact ⟨_, q⟩
      · cases h
    · cases h

theorem operK_sound (B : Base P C) {O : Oracle C.S} (hO : OracleOk P C O) {ops : Array Oper} {o : Oper} (hr : Rel c st a w g) {K : St C.S.U → Option ρ} {r : ρ} (h : operK C O c.N ops.toList o K st = some r)
    {next : Act → World → Prop} {Q : Exit → Act → World → Prop} (hn : ∀ st' a' w' g', (stillOp o.op = true → w' = w) → Rel c st' a' w' g' → K st' = some r → next a' w') : StepOk P ops o a w next Q := by
  unfold operK at h
  split at h
  · rename_i hg
    unfold StepOk
    rw [show Region.wanted o (yielded ops a.tmps) = true by simp [Region.wanted, hg], if_pos rfl]
    exact doK_sound B hO hr (Holds.nil _) trivial h hn
  · rename_i i want hg
    split at h
    · cases h
    · rename_i s hs
      rw [Array.getElem?_toList] at hs
      revert h
      cases hah' : aheadB C o <;> intro h
      · exact splitK_sound B hO hg hs hn 6 st hr h
      · have hah : ahead' o.op = true := by unfold aheadB at hah'; exact (Bool.and_eq_true_iff.1 hah').1
        simp only [cond_true] at h
        split at h
        · rename_i x ex
          split at h
          · rename_i cx d j b em
            have hv := hr.slots s
            rw [ex] at hv
            obtain ⟨k1, k2⟩ := marksOf_sound x want em hv
            have hy := yielded_at hs a.tmps
            have hw : Region.wanted o (yielded ops a.tmps) = (yielded ops a.tmps i == some want) := by simp [Region.wanted, hg]
            unfold StepOk
            rw [hw, hy]
            rcases k2 with ⟨k2, k3⟩ | ⟨k2, k3⟩
            · rw [k3]
              simp only [beq_self_eq_true, if_true]
              exact doK_sound B hO hr k2 k1 h hn
            · obtain ⟨z, q⟩ := ahead_pure hah h
              obtain ⟨st2, g2, q1, q2⟩ := put_sound hr k1 (v := undef) (x := z) (fun e => absurd e k2) (fun _ => rfl) q
              have hne : ((match a.tmps.getD s undef with | .bool b => some b | _ => none) == some want) = false := by
                cases hq : a.tmps.getD s undef <;> first | rfl | skip
                rename_i b2
                have : b2 ≠ want := by rintro rfl; exact k3 hq
                simpa using this
              simp only [hne]
              exact hn _ _ _ _ (fun _ => rfl) q2 q1
          · exact splitK_sound B hO hg hs hn 6 st hr h
        · cases h

/-- A region's operations. -/
theorem opsK_sound (B : Base P C) {O : Oracle C.S} (hO : OracleOk P C O) {ops : Array Oper} {K : St C.S.U → Option ρ} {r : ρ} {Q : Exit → Act → World → Prop} (hn : ∀ st' a' w' g', Rel c st' a' w' g' → K st' = some r → Q .normal a' w') :
    ∀ (l : List Oper) (st : St C.S.U) (a : Act) (w : World) (g : Gh), Rel c st a w g → opsK C O c.N ops.toList l K st = some r → wpList P ops Q l a w
  | [], st, a, w, g, hr, h => hn st a w g hr h
  | o :: l, st, a, w, g, hr, h => wpList_step fun K' hK => operK_sound B hO hr h fun st' a' w' g' _ hr' h' => hK a' w' (opsK_sound B hO hn l st' a' w' g' hr' h')

theorem andThen_of_ok {α β : Type} {x : Result α} {f : α → World → Result β} {n : β} {w' : World} (h : x.andThen f = .ok n w') : ∃ a w1, x = .ok a w1 ∧ f a w1 = .ok n w' := by
  cases x with
  | ok a w1 => exact ⟨a, w1, rfl, h⟩
  | halt _ _ => cases h

theorem still_value {o : Oper} {ev : Operand → Value} (hs : stillOp o.op = true) {n : Next} {w' : World} (h : (execOp ev o).run P w = .ok n w') : ∃ v, n = .value v := by
  cases e : o.op
  case call cl =>
    rw [e] at hs
    have ec : cl.callee = .builtin .len := by
      simp only [stillOp] at hs
      unfold lenCall at hs
      split at hs
      · assumption
      · cases hs
    simp only [execOp, e, resolve, ec, Sem.run_bind, Sem.run_pure, Result.andThen_ok, invoke, builtin] at h
    obtain ⟨_, _, _, h⟩ := andThen_of_ok h
    cases h; exact ⟨_, rfl⟩
  all_goals (rw [e] at hs; simp [stillOp] at hs; try simp only [execOp, e, Sem.run_bind, Sem.run_pure] at h)
  all_goals first
    | (cases h; exact ⟨_, rfl⟩)
    | (obtain ⟨_, _, _, h⟩ := andThen_of_ok h; cases h; exact ⟨_, rfl⟩)
    | (obtain ⟨_, _, _, h⟩ := andThen_of_ok h; obtain ⟨_, _, _, h⟩ := andThen_of_ok h; cases h; exact ⟨_, rfl⟩)
    | (split at h <;> first | (cases h; exact ⟨_, rfl⟩) | (exfalso; simp [go_sem] at h; done))

theorem still_of_step {ops : Array Oper} {o : Oper} (hs : stillOp o.op = true) {next : Act → Prop} (h : StepOk P ops o a w (fun a' w' => w' = w ∧ next a') (fun _ _ _ => False)) :
    if Region.wanted o (yielded ops a.tmps) then o.still P a w next else next (a.put o.dst undef) := by
  unfold StepOk at h
  split
  · rename_i hw
    rw [if_pos hw] at h
    unfold Oper.wp Oper.upon at h
    unfold Oper.still
    cases e : (execOp a.eval o).run P w with
    | ok n w' =>
      obtain ⟨v, rfl⟩ := still_value hs e
      rw [e] at h
      exact h
    | halt x w' =>
      rw [e] at h
      cases x <;> exact h.elim
  · rename_i hw
    rw [if_neg hw] at h
    exact h.2

/-- Operations that turn no memory, one after another. -/
theorem stillK_sound (B : Base P C) {O : Oracle C.S} (hO : OracleOk P C O) {ops : Array Oper} {K : St C.S.U → Option ρ} {r : ρ} {Q : Act → Prop} (hn : ∀ st' a' g', Rel c st' a' w g' → K st' = some r → Q a') :
    ∀ (l : List Oper) (st : St C.S.U) (a : Act) (g : Gh), (∀ o ∈ l, stillOp o.op = true) → Rel c st a w g → opsK C O c.N ops.toList l K st = some r → wpStill P ops w Q l a
  | [], st, a, g, _, hr, h => hn st a g hr h
  | o :: l, st, a, g, hl, hr, h => by
    have hs := hl o (List.mem_cons_self ..)
    refine still_of_step hs (next := wpStill P ops w Q l) (operK_sound B hO hr h fun st' a' w' g' e hr' h' => ?_)
    have e := e hs
    exact ⟨e, stillK_sound B hO hn l st' a' g' (fun o ho => hl o (List.mem_cons_of_mem _ ho)) (e ▸ hr') h'⟩

/-! A drawn region, in any order. -/
theorem item_mem {ops : Array Oper} {it : DI} : it ∈ drawItems ops ↔ ops[it.i]? = some it.o ∧ it.us = (ops.toList.zipIdx.filterMap fun q => cond (unordB (ancs ops.toList []) it.i q.2) (some q.1) none) ∧ it.late = ops.toList.zipIdx.all fun q => !(unordB (ancs ops.toList []) it.i q.2) || Nat.blt q.2 it.i := by
  unfold drawItems
  rw [List.mem_map]
  constructor
  · rintro ⟨p, hp, rfl⟩
    rw [List.mem_zipIdx_iff_getElem?, Array.getElem?_toList] at hp
    exact ⟨hp, rfl, rfl⟩
  · rintro ⟨h1, h2, h3⟩
    refine ⟨(it.o, it.i), ?_, ?_⟩
    · rw [List.mem_zipIdx_iff_getElem?, Array.getElem?_toList]
      exact h1
    · simp only [← h2, ← h3]

theorem items_sorted (ops : Array Oper) : (drawItems ops).Pairwise fun x y => x.i < y.i := by
  unfold drawItems
  rw [List.pairwise_map]
  have : ∀ (l : List Oper) (k : Nat), (l.zipIdx k).Pairwise fun x y => x.2 < y.2 := by
    intro l
    induction l with
    | nil => exact fun k => .nil
    | cons o l ih =>
      intro k
      rw [List.zipIdx_cons]
      refine List.pairwise_cons.2 ⟨fun p hp => ?_, ih (k + 1)⟩
      have := List.le_snd_of_mem_zipIdx hp
      show k < p.2
      omega
  exact this _ _

theorem ok_all {f : DI → Bool} {ops : Array Oper} (hok : okItemsF f ops = true) {it : DI} (h : it ∈ drawItems ops) :
    (((f it = true ∧ ∀ e ∈ it.o.after.toList, (!(Region.binds .any e) || Nat.blt e.on it.i) = true) ∧ ∀ p ∈ it.us, it.o.apart ops p = true) ∧ ∀ q ∈ ops.toList.zipIdx, (Nat.blt q.2 it.i || Nat.ble (lastLate (drawItems ops)) q.2 || offDst q.1 (it.o.looksAt ops)) = true) ∧ (!(idleB it.o) || ops.toList.zipIdx.all fun q => Nat.ble q.2 it.i || waitsB q.1 it.i || it.o.apart ops q.1) = true := by
  have := List.all_eq_true.1 (Bool.and_eq_true_iff.1 hok).2 it h
  simpa only [Bool.and_eq_true, List.all_eq_true] using this

theorem un_of {f : DI → Bool} {ops : Array Oper} {x y : DI} (hx : x ∈ drawItems ops) (hy : y ∈ drawItems ops) (hok : okItemsF f ops = true) (hlt : x.i < y.i) (hb : (((ancs ops.toList [])[y.i]?).getD 0).testBit x.i = false) : Un ops x y := by
  obtain ⟨hx1, hx2, hx3⟩ := item_mem.1 hx
  obtain ⟨hy1, hy2, _⟩ := item_mem.1 hy
  have b1 : Nat.blt x.i y.i = true := by rw [Nat.blt_eq]; exact hlt
  have b2 : Nat.blt y.i x.i = false := by
    cases e : Nat.blt y.i x.i with
    | false => rfl
    | true => rw [Nat.blt_eq] at e; omega
  have mx : y.o ∈ x.us := by
    rw [hx2]
    refine List.mem_filterMap.2 ⟨(y.o, y.i), ?_, ?_⟩
    · rw [List.mem_zipIdx_iff_getElem?, Array.getElem?_toList]; exact hy1
    · simp only [unordB, b1, cond_true, hb, Bool.not_false]
  have my : x.o ∈ y.us := by
    rw [hy2]
    refine List.mem_filterMap.2 ⟨(x.o, x.i), ?_, ?_⟩
    · rw [List.mem_zipIdx_iff_getElem?, Array.getElem?_toList]; exact hx1
    · simp only [unordB, b1, b2, cond_true, cond_false, hb, Bool.not_false]
  refine ⟨?_, mx, my, ?_⟩
  · have := ok_all hok hx
    exact this.1.1.2 y.o mx
  · rw [hx3, Bool.eq_false_iff]
    intro hall
    have := List.all_eq_true.1 hall (y.o, y.i) (by rw [List.mem_zipIdx_iff_getElem?, Array.getElem?_toList]; exact hy1)
    simp [unordB, b1, b2, hb] at this

theorem memB_mem {d : Nat} : ∀ {l : List Nat}, d ∈ l → memB d l = true
  | a :: l, h => by
    rcases List.mem_cons.1 h with rfl | h
    · simp [memB]
    · simp [memB, memB_mem h]

theorem lastLate_ge : ∀ (l : List DI) (n : Nat) {it : DI}, (it ∈ l ∧ it.us ≠ [] ∧ isStoreB it.o = true → it.i + 1 ≤ l.foldl (fun n y => cond (!y.us.isEmpty && isStoreB y.o) (max n (y.i + 1)) n) n) ∧ n ≤ l.foldl (fun n y => cond (!y.us.isEmpty && isStoreB y.o) (max n (y.i + 1)) n) n
  | [], n, it => ⟨fun h => (nomatch h.1), Nat.le_refl _⟩
  | y :: l, n, it => by
    have ih := fun n => lastLate_ge l n (it := it)
    have hn : n ≤ cond (!y.us.isEmpty && isStoreB y.o) (max n (y.i + 1)) n := by
      cases (!y.us.isEmpty && isStoreB y.o)
      · exact Nat.le_refl _
      · exact Nat.le_max_left ..
    refine ⟨fun ⟨h1, h2, h3⟩ => ?_, Nat.le_trans hn (ih _).2⟩
    rcases List.mem_cons.1 h1 with rfl | h1
    · refine Nat.le_trans ?_ (ih _).2
      have : (!it.us.isEmpty && isStoreB it.o) = true := by
        rw [h3, Bool.and_true]
        cases e : it.us with
        | nil => exact absurd e h2
        | cons _ _ => rfl
      show it.i + 1 ≤ cond (!it.us.isEmpty && isStoreB it.o) (max n (it.i + 1)) n
      rw [this]
      exact Nat.le_max_right ..
    · exact (ih _).1 ⟨h1, h2, h3⟩

theorem war_of {f : DI → Bool} {ops : Array Oper} {x z y : DI} (hx : x ∈ drawItems ops) (hz : z ∈ drawItems ops) (hy : y ∈ drawItems ops) (hus : y.us ≠ []) (hst : isStoreB y.o = true) (hzy : z.i < y.i) (hok : okItemsF f ops = true) (h : x.i ≤ z.i) {d : Nat} (hd : z.o.dst = some d) : d ∉ x.o.looksAt ops := by
  have := (ok_all hok hx).1.2 (z.o, z.i) (by rw [List.mem_zipIdx_iff_getElem?, Array.getElem?_toList]; exact (item_mem.1 hz).1)
  simp only [offDst, hd, Bool.or_eq_true, Bool.not_eq_true'] at this
  intro hm
  rw [memB_mem hm] at this
  have hl := (lastLate_ge (drawItems ops) 0).1 ⟨hy, hus, hst⟩
  rcases this with (q | q) | q
  · rw [Nat.blt_eq] at q; omega
  · have q := Nat.le_of_ble_eq_true q
    unfold lastLate at q
    omega
  · cases q

theorem filter_split {l : List DI} {p q : DI → Bool} {it : DI} (hs : l.Pairwise fun x y => x.i < y.i) (hit : it ∈ l) (hp : p it = true) (hq : ∀ x ∈ l, q x = (p x && decide (x.i ≠ it.i))) :
    ∃ l1 l2, l.filter p = l1 ++ it :: l2 ∧ l.filter q = l1 ++ l2 ∧ ∀ x ∈ l1, x ∈ l ∧ p x = true ∧ x.i < it.i := by
  induction l with
  | nil => cases hit
  | cons x l ih =>
    obtain ⟨h1, h2⟩ := List.pairwise_cons.1 hs
    by_cases hx : x.i = it.i
    · have hxe : x = it := by
        rcases List.mem_cons.1 hit with h | h
        · exact h.symm
        · have := h1 it h; omega
      subst hxe
      refine ⟨[], l.filter p, ?_, ?_, fun y hy => nomatch hy⟩
      · rw [List.filter_cons_of_pos hp]; rfl
      · have hqx : q x = false := by rw [hq x (List.mem_cons_self ..)]; simp
        rw [List.filter_cons_of_neg (by rw [hqx]; exact fun h => nomatch h)]
        refine List.filter_congr fun y hy => ?_
        rw [hq y (List.mem_cons_of_mem _ hy)]
        have := h1 y hy
        have : y.i ≠ x.i := by omega
        simp [this]
    · have hit' : it ∈ l := by
        rcases List.mem_cons.1 hit with h | h
        · exact absurd (by rw [h]) hx
        · exact h
      obtain ⟨l1, l2, e1, e2, e3⟩ := ih h2 hit' fun y hy => hq y (List.mem_cons_of_mem _ hy)
      have hqx : q x = p x := by rw [hq x (List.mem_cons_self ..)]; simp [hx]
      cases e : p x with
      | true =>
        refine ⟨x :: l1, l2, ?_, ?_, fun y hy => ?_⟩
        · rw [List.filter_cons_of_pos e, e1]; rfl
        · rw [List.filter_cons_of_pos (by rw [hqx, e]), e2]; rfl
        · rcases List.mem_cons.1 hy with rfl | hy
          · exact ⟨List.mem_cons_self .., e, h1 it hit'⟩
          · obtain ⟨k1, k2, k3⟩ := e3 y hy
            exact ⟨List.mem_cons_of_mem _ k1, k2, k3⟩
      | false =>
        refine ⟨l1, l2, ?_, ?_, fun y hy => ?_⟩
        · rw [List.filter_cons_of_neg (by rw [e]; exact fun h => nomatch h), e1]
        · rw [List.filter_cons_of_neg (by rw [hqx, e]; exact fun h => nomatch h), e2]
        · obtain ⟨k1, k2, k3⟩ := e3 y hy
          exact ⟨List.mem_cons_of_mem _ k1, k2, k3⟩

theorem ok_item {f : DI → Bool} {ops : Array Oper} (hok : okItemsF f ops = true) {it : DI} (h : it ∈ drawItems ops) : f it = true ∧ ∀ e ∈ it.o.after, Region.binds .any e = true → e.on < it.i := by
  have := (ok_all hok h).1.1.1
  refine ⟨this.1, fun e he hb => ?_⟩
  have := this.2 e (by simpa using he)
  simp only [Bool.or_eq_true, Bool.not_eq_true'] at this
  rcases this with h | h
  · rw [hb] at h; cases h
  · rw [Nat.blt_eq] at h; exact h

theorem item_at (ops : Array Oper) {j : Nat} {o : Oper} (h : ops[j]? = some o) : ∃ it ∈ drawItems ops, it.i = j ∧ it.o = o :=
  ⟨{ i := j, o := o, us := ops.toList.zipIdx.filterMap fun q => cond (unordB (ancs ops.toList []) j q.2) (some q.1) none, late := ops.toList.zipIdx.all fun q => !(unordB (ancs ops.toList []) j q.2) || Nat.blt q.2 j }, item_mem.2 ⟨h, rfl, rfl⟩, rfl, rfl⟩

theorem set_closed {ops : Array Oper} {listed : Array Bool} (hc : Closed ops listed) {j : Nat} (hj : j ∈ Region.ready .any ops listed) : Closed ops (listed.setIfInBounds j true) := by
  obtain ⟨_, oi, hoi, hall⟩ := mem_ready.1 hj
  intro k ok hk hl e he hb
  by_cases hjk : j = k
  · subst hjk
    have : ok = oi := Option.some.inj (hk.symm.trans hoi)
    subst this
    exact getD_set_true (hall e he hb)
  · rw [getD_set_ne false hjk] at hl
    exact getD_set_true (hc k ok hk hl e he hb)

/-- What it hands on is a state with its answer laid down. -/
theorem wp_put {o : Oper} {K : Act → World → Prop} {Q : Exit → Act → World → Prop} (h : o.wp P a w K Q) : o.wp P a w (fun a' w' => K a' w' ∧ ∃ v, a'.tmps = (a.put o.dst v).tmps) Q := by
  have hd : ∀ (d : Deferred) (v : Value), ({ a with defers := d :: a.defers }.put o.dst v).tmps = (a.put o.dst v).tmps := fun d v => by unfold Act.put; cases o.dst <;> rfl
  unfold Oper.wp at *
  generalize (execOp a.eval o).run P w = r at *
  cases r with
  | ok n w' =>
    cases n <;> simp only [Oper.upon] at h ⊢ <;>
      first
        | exact ⟨h, _, rfl⟩
        | exact ⟨h, _, hd _ _⟩
        | exact Calls.mono h (fun e w'' he => by cases e <;> first | exact ⟨he, _, rfl⟩ | exact he)
        | exact Rows.mono h (fun _ _ he => ⟨he, _, rfl⟩)
        | exact h
  | halt x w' => cases x <;> simp only [Oper.upon] at h ⊢ <;> exact h

theorem still_put {o : Oper} {K : Act → Prop} (h : o.still P a w K) : o.still P a w (fun a' => K a' ∧ ∃ v, a'.tmps = (a.put o.dst v).tmps) := by
  unfold Oper.still at *
  generalize (execOp a.eval o).run P w = r at *
  cases r with
  | ok n w' =>
    cases n <;> simp only [Oper.stillUpon] at h ⊢
    case enter f args => obtain ⟨h1, v, hc, hn⟩ := h; exact ⟨h1, v, hc, hn, _, rfl⟩
    all_goals exact ⟨h.1, h.2, _, rfl⟩
  | halt x w' => simp only [Oper.stillUpon] at h

theorem open_split {ops : Array Oper} {listed : Array Bool} (hsz : listed.size = ops.size) {it : DI} (hit : it ∈ drawItems ops) (hun : listed.getD it.i true = false) :
    ∃ l1 l2, openL ops listed = l1 ++ it :: l2 ∧ openL ops (listed.setIfInBounds it.i true) = l1 ++ l2 ∧ ∀ x ∈ l1, x ∈ drawItems ops ∧ (!(listed.getD x.i true)) = true ∧ x.i < it.i := by
  have hjs : it.i < listed.size := by
    have : it.i < ops.size := (Array.getElem?_eq_some_iff.1 (item_mem.1 hit).1).1
    omega
  exact filter_split (p := fun it => !(listed.getD it.i true)) (q := fun x => !((listed.setIfInBounds it.i true).getD x.i true)) (items_sorted ops) hit (by simp only [hun]; rfl) (fun x _ => by
    by_cases q : x.i = it.i
    · have : (listed.setIfInBounds it.i true).getD x.i true = true := by rw [q]; simp
      rw [this, q]; simp
    · rw [getD_set_ne true (fun e => q e.symm)]
      simp [q])

theorem any_sound (B : Base P C) {O : Oracle C.S} (hO : OracleOk P C O) {f : DI → Bool} {ops : Array Oper} (hok : okItemsF f ops = true) {n : Nat} {Pre : Act → Prop} (H1 : ∀ it ∈ drawItems ops, f it = true → n ≤ it.i → ∀ a, Pre a → Region.wanted it.o (yielded ops a.tmps) = true) (H2 : ∀ it ∈ drawItems ops, f it = true → n ≤ it.i → ∀ a a' v, Pre a → a'.tmps = (a.put it.o.dst v).tmps → Pre a') {K : St C.S.U → Option ρ} {r : ρ} {Q : Exit → Act → World → Prop} (hQ : ∀ p a a' w, Q (.panic p) a w → Q (.panic p) a' w) (hn : ∀ st' a' w' g', Rel c st' a' w' g' → K st' = some r → Q .normal a' w') :
    ∀ (fuel : Nat) (listed : Array Bool) (st : St C.S.U) (a : Act) (w : World) (g : Gh), listed.size = ops.size → Closed ops listed → (openL ops listed).length ≤ fuel → (∀ it ∈ openL ops listed, n ≤ it.i) → Pre a → Rel c st a w g → drawL C O c.N ops (openL ops listed) K st = some r → wpAny P .any ops Q fuel listed a w := by
  have hP : ParO O := fun f e h => (hO f e h).par
  have hd : ∀ j oj, ops[j]? = some oj → ∀ e ∈ oj.after, Region.binds .any e = true → e.on < j := fun j oj h => by
    obtain ⟨it, h1, rfl, rfl⟩ := item_at ops h
    exact (ok_item hok h1).2
  have step : ∀ (listed : Array Bool) (st : St C.S.U) (a : Act) (w : World) (g : Gh), listed.size = ops.size → Closed ops listed → (∀ it ∈ openL ops listed, n ≤ it.i) → Pre a → Rel c st a w g → drawL C O c.N ops (openL ops listed) K st = some r → (∀ x l, openL ops listed = x :: l → idleB x.o = false) → ∀ j ∈ Region.ready .any ops listed, ∀ next : Act → World → Prop,
      (∀ st' a' w' g', Rel c st' a' w' g' → drawL C O c.N ops (openL ops (listed.setIfInBounds j true)) K st' = some r → (openL ops (listed.setIfInBounds j true)).length < (openL ops listed).length → (∀ it ∈ openL ops (listed.setIfInBounds j true), n ≤ it.i) → Pre a' → next a' w') → wpOp P ops Q j next a w := by
    intro listed st a w g hsz hc hopn hpre hr h hhd j hj next hnx
    obtain ⟨hun, o, ho, hall⟩ := mem_ready.1 hj
    obtain ⟨it, hit, rfl, rfl⟩ := item_at ops ho
    obtain ⟨l1, l2, e1, e2, e3⟩ := open_split hsz hit hun
    have hu : ∀ x ∈ l1, Un ops x it := fun x hx => by
      obtain ⟨k1, k2, k3⟩ := e3 x hx
      refine un_of k1 hit hok k3 ?_
      cases hb : (((ancs ops.toList [])[it.i]?).getD 0).testBit x.i with
      | false => rfl
      | true =>
        have h1 := anc_listed hc hd it.i it.o ho hall x.i hb
        simp only [Bool.not_eq_true'] at k2
        have h2 : x.i < listed.size := by
          have := (Array.getElem?_eq_some_iff.1 (item_mem.1 k1).1).1
          omega
        simp [h2] at h1 k2
        rw [h1] at k2
        cases k2
    rw [e1] at h
    have hsl : l1.Pairwise (fun x z => x.i < z.i) := by
      have : (openL ops listed).Pairwise fun x z => x.i < z.i := (items_sorted ops).sublist List.filter_sublist
      rw [e1] at this
      exact (List.pairwise_append.1 this).1
    have h := front hP hu hsl (fun hst x hx z hz hxz d hd => war_of (e3 x hx).1 (e3 z hz).1 hit (fun q => by have := (hu x hx).yx; rw [q] at this; cases this) hst (e3 z hz).2.2 hok hxz hd) (fun x l hxl => hhd x (l ++ it :: l2) (by rw [e1, hxl]; rfl)) h
    have hfi := (ok_item hok hit).1
    have hin : n ≤ it.i := hopn it (by rw [e1]; simp)
    unfold wpOp
    rw [ho]
    simp only [H1 it hit hfi hin a hpre, if_true]
    refine .inl (Oper.wp_mono (fun a' w' hh => ?_) (wp_put (doK_sound B hO hr (Holds.nil _) trivial h (next := fun a' w' => ∃ st' g', Rel c st' a' w' g' ∧ drawL C O c.N ops (l1 ++ l2) K st' = some r) fun st' a' w' g' _ hr' h' => ⟨st', g', hr', h'⟩)))
    obtain ⟨⟨st', g', hr', h'⟩, v, hv⟩ := hh
    refine hnx st' a' w' g' hr' (by rw [e2]; exact h') ?_ ?_ (H2 it hit hfi hin a a' v hpre hv)
    · rw [e1, e2]
      simp
    · intro x hx
      rw [e2] at hx
      exact hopn x (by rw [e1]; rcases List.mem_append.1 hx with q | q <;> simp [q])
  have first : ∀ (listed : Array Bool) (x : DI) (l : List DI), listed.size = ops.size → openL ops listed = x :: l → x.i ∈ Region.ready .any ops listed := by
    intro listed x l hsz e
    have hx : x ∈ openL ops listed := by rw [e]; exact List.mem_cons_self ..
    obtain ⟨hx1, hx2⟩ := List.mem_filter.1 hx
    simp only [Bool.not_eq_true'] at hx2
    have hs : (openL ops listed).Pairwise fun x y => x.i < y.i := (items_sorted ops).sublist List.filter_sublist
    rw [e] at hs
    have hmin := (List.pairwise_cons.1 hs).1
    exact mem_ready.2 ⟨hx2, x.o, (item_mem.1 hx1).1, fun q hq hb => by
      have hlt := hd x.i x.o (item_mem.1 hx1).1 q hq hb
      have hsx := (Array.getElem?_eq_some_iff.1 (item_mem.1 hx1).1).1
      obtain ⟨y, hy, hyi, _⟩ := item_at ops (Array.getElem?_eq_getElem (show q.on < ops.size by omega))
      cases hl : listed.getD q.on true with
      | true =>
        have : q.on < listed.size := by omega
        simp [this] at hl ⊢
        exact hl
      | false =>
        have hyo : y ∈ openL ops listed := List.mem_filter.2 ⟨hy, by rw [hyi, hl]; rfl⟩
        rw [e] at hyo
        rcases List.mem_cons.1 hyo with rfl | hyo
        · omega
        · have := hmin y hyo; omega⟩
  have fin : ∀ (listed : Array Bool) (st : St C.S.U) (a : Act) (w : World) (g : Gh), listed.size = ops.size → Closed ops listed → Rel c st a w g → drawL C O c.N ops (openL ops listed) K st = some r → Region.ready .any ops listed = [] → Q .normal a w := by
    intro listed st a w g hsz hc hr h h0
    have : openL ops listed = [] := by
      cases e : openL ops listed with
      | nil => rfl
      | cons x l =>
        have := first listed x l hsz e
        rw [h0] at this
        cases this
    rw [this] at h
    exact hn st a w g hr h
  intro fuel
  induction fuel with
  | zero =>
    intro listed st a w g hsz hc hf hopn hpre hr h
    have h0 : openL ops listed = [] := List.eq_nil_of_length_eq_zero (by omega)
    have hrd : Region.ready .any ops listed = [] := by
      cases e : Region.ready .any ops listed with
      | nil => rfl
      | cons j l =>
        exfalso
        have hj : j ∈ Region.ready .any ops listed := by rw [e]; exact List.mem_cons_self ..
        obtain ⟨hun, o, ho, _⟩ := mem_ready.1 hj
        obtain ⟨it, hit, hi, _⟩ := item_at ops ho
        have : it ∈ openL ops listed := List.mem_filter.2 ⟨hit, by rw [hi, hun]; rfl⟩
        rw [h0] at this
        cases this
    exact ⟨hrd, fin listed st a w g hsz hc hr h hrd⟩
  | succ fuel ih =>
    intro listed st a w g hsz hc hf hopn hpre hr h
    by_cases hhd : ∀ x l, openL ops listed = x :: l → idleB x.o = false
    · refine ⟨fin listed st a w g hsz hc hr h, fun j hj => ?_⟩
      refine step listed st a w g hsz hc hopn hpre hr h hhd j hj _ fun st' a' w' g' hr' h' hlt ho' hp' => ?_
      exact ih _ st' a' w' g' (by simpa using hsz) (set_closed hc hj) (by omega) ho' hp' hr' h'
    · obtain ⟨x, l, e, hidle⟩ : ∃ x l, openL ops listed = x :: l ∧ idleB x.o = true := by
        cases e : openL ops listed with
        | nil => exact absurd (fun x l q => by rw [e] at q; cases q) hhd
        | cons x l =>
          cases q : idleB x.o with
          | true => exact ⟨x, l, rfl, q⟩
          | false =>
            refine absurd (fun x' l' q' => ?_) hhd
            rw [e] at q'
            cases q'
            exact q
      have hrd := first listed x l hsz e
      have hx : x ∈ openL ops listed := by rw [e]; exact List.mem_cons_self ..
      obtain ⟨hx1, hx2⟩ := List.mem_filter.1 hx
      have ho := (item_mem.1 hx1).1
      have hjs : x.i < listed.size := by
        have : x.i < ops.size := (Array.getElem?_eq_some_iff.1 ho).1
        omega
      have hfi := (ok_item hok hx1).1
      have hin : n ≤ x.i := hopn x hx
      obtain ⟨y, hmv⟩ : ∃ y, x.o.op = .move y := by
        unfold idleB at hidle
        split at hidle
        · rename_i y q; exact ⟨y, q⟩
        · cases hidle
      have hex : ∀ w, (execOp a.eval x.o).run P w = .ok (.value (a.eval y)) w := fun w => by simp [execOp, hmv]
      have hset : openL ops (listed.setIfInBounds x.i true) = l := by
        obtain ⟨l1, l2, e1, e2, e3⟩ := open_split hsz hx1 (by simpa using hx2)
        have e1' : openL ops listed = l1 ++ x :: l2 := e1
        rw [e] at e1'
        cases l1 with
        | nil => cases e1'; exact e2
        | cons z l1 =>
          have := (e3 z (List.mem_cons_self ..)).2.2
          cases e1'
          omega
      rw [e] at h
      rw [drawL_cons] at h
      unfold stepD at h
      cases hdy : dynOk C O ops x st with
      | false => rw [hdy] at h; cases h
      | true =>
        rw [hdy] at h
        have hstep := doK_sound B hO hr (Holds.nil _) trivial h (next := fun a' w' => ∃ st' g', Rel c st' a' w' g' ∧ drawL C O c.N ops l K st' = some r) (Q := fun _ _ _ => False) fun st' a' w' g' _ hr' h' => ⟨st', g', hr', h'⟩
        unfold Oper.wp at hstep
        rw [hex w] at hstep
        obtain ⟨st', g', hr', h'⟩ := hstep
        refine wpAny_first ho (Region.noSelect_spec (Bool.and_eq_true_iff.1 hok).1) (fun p a' w' q => hQ p _ _ w' q) fuel listed a w (fun j oj hj hne hun hnot => ?_) hrd (.inl ⟨H1 x hx1 hfi hin a hpre, hex⟩) (ih _ st' _ w g' (by simpa using hsz) (set_closed hc hrd) (by rw [hset]; rw [e] at hf; simp at hf; exact hf) (fun z hz => hopn z (by rw [hset] at hz; rw [e]; exact List.mem_cons_of_mem _ hz)) (H2 x hx1 hfi hin a _ _ hpre rfl) hr' (by rw [hset]; exact h'))
        have := (ok_all hok hx1).2
        rw [hidle] at this
        simp only [Bool.not_true, Bool.false_or, List.all_eq_true] at this
        have := this (oj, j) (by rw [List.mem_zipIdx_iff_getElem?, Array.getElem?_toList]; exact hj)
        simp only [Bool.or_eq_true] at this
        rcases this with (q | q) | q
        · exfalso
          have q := Nat.le_of_ble_eq_true q
          obtain ⟨y, hy, rfl, rfl⟩ := item_at ops hj
          have hyo : y ∈ openL ops listed := List.mem_filter.2 ⟨hy, by simp only [hun]; rfl⟩
          have hs2 : (openL ops listed).Pairwise fun x y => x.i < y.i := (items_sorted ops).sublist List.filter_sublist
          rw [e] at hs2 hyo
          rcases List.mem_cons.1 hyo with rfl | hyo
          · exact hne rfl
          · have := (List.pairwise_cons.1 hs2).1 y hyo
            omega
        · unfold waitsB at q
          obtain ⟨e', he', hb'⟩ := List.any_eq_true.1 q
          simp only [Bool.and_eq_true] at hb'
          exact absurd (Nat.eq_of_beq_eq_true hb'.2) (hnot e' (by simpa using he') hb'.1)
        · exact q

theorem stillHead_all : ∀ l : List Oper, ∀ o ∈ l.take (stillHead l), stillOp o.op = true
  | [], o, h => by simp at h
  | x :: l, o, h => by
    simp only [stillHead] at h
    cases e : stillOp x.op with
    | false => rw [e] at h; simp at h
    | true =>
      rw [e] at h
      simp only [cond_true, List.take_succ_cons] at h
      rcases List.mem_cons.1 h with rfl | h
      · exact e
      · exact stillHead_all l o h

/-! A region whose first operations come in one order, and those behind them under one guard. -/
theorem preL_size : ∀ (n k : Nat) (l : Array Bool), (preL n k l).size = l.size
  | 0, _, _ => rfl
  | n + 1, k, l => by rw [preL, preL_size n]; simp

def preP (P : Program) (ops : Array Oper) (Q : Exit → Act → World → Prop) (M : Act → World → Prop) : List Oper → Act → World → Prop
  | [] => M
  | o :: l => fun a w => StepOk P ops o a w (preP P ops Q M l) Q

theorem wpAny_pre {ops : Array Oper} {Q : Exit → Act → World → Prop} {d : Nat} {T : Array Bool} : ∀ (l : List Oper) (k : Nat) (listed : Array Bool) (a : Act) (w : World), (∀ j, j < l.length → l[j]? = ops[k + j]?) → preB ops l.length k listed = true → preL l.length k listed = T →
    preP P ops Q (fun a w => wpAny P .any ops Q d T a w) l a w → wpAny P .any ops Q (l.length + d) listed a w
  | [], k, listed, a, w, _, _, hT, h => by
    rw [List.length_nil, Nat.zero_add, show listed = T from hT]
    exact h
  | o :: l, k, listed, a, w, hl, hB, hT, h => by
    have h0 : ops[k]? = some o := by simpa using (hl 0 (by simp)).symm
    simp only [List.length_cons, preB, Bool.and_eq_true, decide_eq_true_eq] at hB
    rw [show (o :: l).length + d = (l.length + d) + 1 by simp; omega]
    refine ⟨fun h1 => (by rw [hB.1] at h1; cases h1), fun i hi => ?_⟩
    rw [hB.1] at hi
    have hik : i = k := by simpa using hi
    subst hik
    have hw : wpOp P ops Q i (preP P ops Q (fun a w => wpAny P .any ops Q d T a w) l) a w := by
      unfold wpOp
      simp only [h0]
      have h : StepOk P ops o a w (preP P ops Q (fun a w => wpAny P .any ops Q d T a w) l) Q := h
      unfold StepOk at h
      split
      · rename_i q; rw [if_pos q] at h; exact .inl h
      · rename_i q; rw [if_neg q] at h; exact h
    exact wpOp_mono (fun a' w' h' => wpAny_pre l (i + 1) _ a' w' (fun j hj => by have := hl (j + 1) (by simp; omega); simpa [Nat.add_assoc, Nat.add_comm 1 j] using this) hB.2 hT h') hw

theorem pre_closed {ops : Array Oper} : ∀ (n k : Nat) (listed : Array Bool), listed.size = ops.size → Closed ops listed → preB ops n k listed = true → Closed ops (preL n k listed) ∧ (openL ops (preL n k listed)).length + n ≤ (openL ops listed).length ∧ (∀ i, (preL n k listed).getD i true = false → listed.getD i true = false ∧ (k ≤ i → k + n ≤ i))
  | 0, k, listed, _, hc, _ => ⟨hc, Nat.le_refl _, fun i hi => ⟨hi, fun q => q⟩⟩
  | n + 1, k, listed, hsz, hc, hB => by
    simp only [preB, Bool.and_eq_true, decide_eq_true_eq] at hB
    have hk : k ∈ Region.ready .any ops listed := by rw [hB.1]; simp
    obtain ⟨hun, o, ho, _⟩ := mem_ready.1 hk
    obtain ⟨it, hit, rfl, rfl⟩ := item_at ops ho
    obtain ⟨h1, h2, h3⟩ := pre_closed n (it.i + 1) (listed.setIfInBounds it.i true) (by simpa using hsz) (set_closed hc hk) hB.2
    refine ⟨h1, ?_, fun i hi => ?_⟩
    · obtain ⟨l1, l2, e1, e2, _⟩ := open_split hsz hit hun
      rw [e2] at h2
      rw [e1]
      show (openL ops (preL n (it.i + 1) (listed.setIfInBounds it.i true))).length + (n + 1) ≤ _
      simp at h2 ⊢
      omega
    · obtain ⟨q1, q2⟩ := h3 i hi
      by_cases e : it.i = i
      · subst e
        have hlt : it.i < listed.size := by
          have : it.i < ops.size := (Array.getElem?_eq_some_iff.1 ho).1
          omega
        simp [hlt] at q1
      · rw [getD_set_ne true e] at q1
        exact ⟨q1, fun q => by have := q2 (by omega); omega⟩

theorem preK_sound (B : Base P C) {O : Oracle C.S} (hO : OracleOk P C O) {ops : Array Oper} {K : St C.S.U → Option ρ} {r : ρ} {Q : Exit → Act → World → Prop} {M : Act → World → Prop} (hn : ∀ st' a' w' g', Rel c st' a' w' g' → K st' = some r → M a' w') :
    ∀ (l : List Oper) (st : St C.S.U) (a : Act) (w : World) (g : Gh), Rel c st a w g → opsK C O c.N ops.toList l K st = some r → preP P ops Q M l a w
  | [], st, a, w, g, hr, h => hn st a w g hr h
  | o :: l, st, a, w, g, hr, h => operK_sound B hO hr h fun st' a' w' g' _ hr' h' => preK_sound B hO hn l st' a' w' g' hr' h'

theorem put_keeps {o : Oper} {s : Nat} {v x : Value} {a a' : Act} (ho : o.dst ≠ some s) (h : a.tmps.getD s undef = x) (e : a'.tmps = (a.put o.dst v).tmps) : a'.tmps.getD s undef = x := by
  rw [e]
  unfold Act.put
  cases hd : o.dst with
  | none => exact h
  | some d =>
    have : d ≠ s := fun q => ho (by rw [hd, q])
    show (a.tmps.setIfInBounds d v).getD s undef = x
    rw [Array.getD_eq_getD_getElem?, Array.getElem?_setIfInBounds_ne this, ← Array.getD_eq_getD_getElem?]
    exact h

theorem offDst_ne {o : Oper} {s : Nat} (h : offDst o [s] = true) : o.dst ≠ some s := by
  intro e
  unfold offDst at h
  rw [e] at h
  simp [memB] at h

theorem guardB_spec {i : Nat} {want : Bool} {o : Oper} (h : guardB i want o = true) : o.guard = some (i, want) := by
  unfold guardB at h
  split at h
  · cases h
  · rename_i i' w' e
    simp only [Bool.and_eq_true, beq_iff_eq] at h
    rw [e, Nat.eq_of_beq_eq_true h.1, h.2]

/-- Operations that turn no memory where they are wanted. -/
theorem restK_sound (B : Base P C) {O : Oracle C.S} (hO : OracleOk P C O) {ops : Array Oper} {K : St C.S.U → Option ρ} {r : ρ} {Q : Act → Prop} (hn : ∀ st' a' g', Rel c st' a' w g' → K st' = some r → Q a') {i s : Nat} {want b : Bool} (hs : (ops[i]?).bind (·.dst) = some s) (hb : (b == want) = false) :
    ∀ (l : List Oper) (st : St C.S.U) (a : Act) (g : Gh), (∀ o ∈ l, (guardB i want o || stillOp o.op) = true ∧ o.dst ≠ some s) → a.tmps.getD s undef = .bool b → Rel c st a w g → opsK C O c.N ops.toList l K st = some r → wpStill P ops w Q l a
  | [], st, a, g, _, _, hr, h => hn st a g hr h
  | o :: l, st, a, g, hl, hv, hr, h => by
    obtain ⟨hs1, hd⟩ := hl o (List.mem_cons_self ..)
    have hstep : StepOk P ops o a w (fun a' w' => (stillOp o.op = true → w' = w) ∧ (w' = w → ∀ v, a'.tmps = (a.put o.dst v).tmps → wpStill P ops w Q l a')) (fun _ _ _ => False) := operK_sound B hO hr h fun st' a' w' g' e hr' h' => ⟨e, fun e2 v hv' => restK_sound B hO hn hs hb l st' a' g' (fun o ho => hl o (List.mem_cons_of_mem _ ho)) (put_keeps hd hv hv') (e2 ▸ hr') h'⟩
    show if Region.wanted o (yielded ops a.tmps) then o.still P a w (wpStill P ops w Q l) else wpStill P ops w Q l (a.put o.dst undef)
    by_cases hw : Region.wanted o (yielded ops a.tmps) = true
    · have hst : stillOp o.op = true := by
        rcases Bool.or_eq_true_iff.1 hs1 with q | q
        · exfalso
          have hg := guardB_spec q
          rw [show Region.wanted o (yielded ops a.tmps) = (yielded ops a.tmps i == some want) by simp [Region.wanted, hg], yielded_at hs a.tmps, hv] at hw
          have : b = want := by simpa using hw
          rw [this] at hb
          simp at hb
        · exact q
      have := still_of_step (next := fun a' => ∀ v, a'.tmps = (a.put o.dst v).tmps → wpStill P ops w Q l a') hst (by
        unfold StepOk at hstep ⊢
        rw [if_pos hw] at hstep ⊢
        exact Oper.wp_mono (fun a' w' q => ⟨q.1 hst, q.2 (q.1 hst)⟩) hstep)
      rw [if_pos hw] at this
      rw [if_pos hw]
      exact Oper.still_mono (fun a' q => q.1 q.2.choose q.2.choose_spec) (still_put this)
    · unfold StepOk at hstep
      rw [if_neg hw] at hstep
      rw [if_neg hw]
      exact hstep.2 rfl undef rfl

theorem guard_sound (B : Base P C) {O : Oracle C.S} (hO : OracleOk P C O) {ops : Array Oper} {K : St C.S.U → Option ρ} {r : ρ} {Q : Exit → Act → World → Prop} (hQ : ∀ p a a' w, Q (.panic p) a w → Q (.panic p) a' w) (hn : ∀ st' a' w' g', Rel c st' a' w' g' → K st' = some r → Q .normal a' w') (hr : Rel c st a w g) (h : guardK C O c.N ops K st = some r) :
    wpAny P .any ops Q ops.size (Array.replicate ops.size false) a w := by
  unfold guardK at h
  split at h
  · cases h
  rename_i n i want _
  split at h
  · cases h
  rename_i s hs
  cases e : okG ops n i s want with
  | false => rw [e] at h; cases h
  | true =>
  rw [e] at h
  have h : opsK C O c.N ops.toList (ops.toList.take n) (decK C O c.N ops n s want K) st = some r := h
  simp only [okG, Bool.and_eq_true] at e
  obtain ⟨e1, e2, e3, e4, e5⟩ := e
  have e1 : n ≤ ops.size := Nat.le_of_ble_eq_true e1
  have ht : (ops.toList.take n).length = n := by simp; omega
  have hcl : Closed ops (Array.replicate ops.size false) := by
    intro j oj hj hl
    rw [getD_replicate_false] at hl
    cases hl
  obtain ⟨c1, c2, c3⟩ := pre_closed n 0 _ (by simp) hcl e2
  have hsz : (preOf n ops).size = ops.size := by rw [preOf, preL_size]; simp
  have hlen : (openL ops (Array.replicate ops.size false)).length ≤ ops.size := by
    refine Nat.le_trans (List.length_filter_le ..) ?_
    simp [drawItems]
  have hoff : ∀ it ∈ drawItems ops, n ≤ it.i → (it.o.guard.isNone || guardB i want it.o) = true ∧ it.o.dst ≠ some s := fun it hit hi => by
    have := (ok_item e3 hit).1
    unfold wantB at this
    rw [show Nat.blt it.i n = false by cases q : Nat.blt it.i n with | false => rfl | true => rw [Nat.blt_eq] at q; omega] at this
    simp only [Bool.false_or, Bool.and_eq_true] at this
    exact ⟨this.1, offDst_ne this.2⟩
  have hop : ∀ it ∈ openL ops (preOf n ops), n ≤ it.i := fun it hit => by
    have h2 := (List.mem_filter.1 hit).2
    simp only [Bool.not_eq_true'] at h2
    have := (c3 it.i h2).2 (Nat.zero_le _)
    omega
  have arm : ∀ (b : Bool) (st' : St C.S.U) (a' : Act) (w' : World) (g' : Gh), Rel c st' a' w' g' → a'.tmps.getD s undef = .bool b → armK C O c.N ops n want b K st' = some r → wpAny P .any ops Q (ops.size - n) (preOf n ops) a' w' := by
    intro b st' a' w' g' hr' hv h'
    unfold armK at h'
    cases eb : (b == want) with
    | true =>
      rw [eb] at h'
      have : b = want := by simpa using eb
      subst this
      refine any_sound (n := n) (Pre := fun a => a.tmps.getD s undef = .bool b) B hO e3 (fun it hit _ hi a hp => ?_) (fun it hit _ hi a a' v hp hq => put_keeps (hoff it hit hi).2 hp hq) hQ hn _ _ st' a' w' g' hsz c1 (by have c2 : (openL ops (preOf n ops)).length + n ≤ _ := c2; omega) hop hv hr' h'
      rcases Bool.or_eq_true_iff.1 (hoff it hit hi).1 with q | q
      · simp at q; simp [Region.wanted, q]
      · have hg := guardB_spec q
        rw [show Region.wanted it.o (yielded ops a.tmps) = (yielded ops a.tmps i == some b) by simp [Region.wanted, hg], yielded_at hs a.tmps, hp]
        simp
    | false =>
      rw [eb] at h'
      refine wpAny_of_still (Q := fun a => Q .normal a w') (fun _ q => q) _ _ _ ?_
      have hdl : (ops.toList.drop n).length = ops.size - n := by simp
      have := wpAnyS_lex (md := .any) (P := P) (w := w') (Q := fun a => Q .normal a w') (Bool.and_eq_true_iff.1 e3).1 (ops.toList.drop n) n (preOf n ops) a' (fun j => by simp [List.getElem?_drop]) (by rw [hdl]; exact e5) (restK_sound B hO (fun st2 a2 g2 q1 q2 => hn st2 a2 w' g2 q1 q2) hs eb _ st' a' g' (fun o ho => ?_) hv hr' h')
      · rw [hdl] at this
        exact this
      · refine ⟨List.all_eq_true.1 e4 o ho, ?_⟩
        obtain ⟨k, hk⟩ := List.mem_iff_getElem?.1 ho
        rw [List.getElem?_drop, Array.getElem?_toList] at hk
        obtain ⟨it, hit, hi, rfl⟩ := item_at ops hk
        exact (hoff it hit (by omega)).2
  have := wpAny_pre (d := ops.size - n) (T := preOf n ops) (Q := Q) (ops.toList.take n) 0 (Array.replicate ops.size false) a w (fun j hj => by
    rw [ht] at hj
    simp [hj]) (by rw [ht]; exact e2) (by rw [ht]; rfl) (preK_sound B hO (fun st' a' w' g' hr' h' => ?_) _ st a w g hr h)
  · rw [ht, show n + (ops.size - n) = ops.size by omega] at this
    exact this
  · unfold decK at h'
    have hv := hr'.slots s
    split at h'
    · rename_i b eb
      rw [eb] at hv
      exact arm b st' a' w' g' hr' hv h'
    · rename_i d j b eb
      rw [eb] at hv
      obtain ⟨hv, htau, _⟩ := hv
      cases b with
      | true => exact arm true _ a' w' g' (hr'.rsv htau) hv h'
      | false => exact arm false _ a' w' g' (hr'.rsv htau) hv h'
    · cases h'

/-- A region. -/
theorem region_sound (B : Base P C) (hm : P.follows .mixedOrders = true) {O : Oracle C.S} (hO : OracleOk P C O) {id : Nat} {ops : Array Oper} {draw : Bool} {K : St C.S.U → Option ρ} {r : ρ} {Q : Exit → Act → World → Prop} (hn : ∀ st' a' w' g', Rel c st' a' w' g' → K st' = some r → Q .normal a' w')
    (hr : Rel c st a w g) (h : cond (or (!draw) (or (okDraw ops) (okTail ops))) (opsK C O c.N ops.toList ops.toList K st) (cond (okItems ops) (drawL C O c.N ops (drawItems ops) K st) (guardK C O c.N ops K st)) = some r) : (Code.region id ops draw).wp P Q a w := by
  cases draw with
  | false => exact wp_region_list (opsK_sound B hO hn _ st a w g hr h)
  | true =>
    cases e : okDraw ops with
    | false =>
      rw [e] at h
      cases e3 : okTail ops with
      | true =>
        rw [e3] at h
        have h : opsK C O c.N ops.toList ops.toList K st = some r := h
        obtain ⟨l, rfl⟩ : ∃ l : List Oper, ops = l.toArray := ⟨ops.toList, by simp⟩
        have h : opsK C O c.N l.toArray.toList (l.take (stillHead l) ++ l.drop (stillHead l)) K st = some r := by rw [List.take_append_drop]; exact h
        have h : opsK C O c.N l.toArray.toList (l.take (stillHead l)) (opsK C O c.N l.toArray.toList (l.drop (stillHead l)) K) st = some r := by
          unfold opsK at h ⊢
          rw [List.foldr_append] at h
          exact h
        refine wp_region_still_tail (stillHead l) hm (by unfold okTail at e3; exact e3) ?_
        exact stillK_sound B hO (fun st' a' g' hr' h' => opsK_sound B hO hn _ st' a' _ g' hr' h') _ st a g (stillHead_all l) (hr.world (Grow.drew w)) h
      | false =>
      rw [e3] at h
      cases e2 : okItems ops with
      | false =>
        rw [e2] at h
        have h : guardK C O c.N ops K st = some r := h
        refine Code.wp_mono (Q := fun e a w => match e with | .normal => Q .normal a w | _ => False) (fun e a w q => by cases e <;> first | exact q | exact q.elim) ?_
        exact wp_region_any hm (guard_sound (Q := fun e a w => match e with | .normal => Q .normal a w | _ => False) B hO (fun _ _ _ _ q => q) hn (hr.world (Grow.drew w)) h)
      | true =>
        rw [e2] at h
        have h : drawL C O c.N ops (drawItems ops) K st = some r := h
        have hall : openL ops (Array.replicate ops.size false) = drawItems ops := by
          refine List.filter_eq_self.2 fun it hit => ?_
          have := (Array.getElem?_eq_some_iff.1 (item_mem.1 hit).1).1
          simp [this]
        have hlen : (drawItems ops).length = ops.size := by simp [drawItems]
        refine Code.wp_mono (Q := fun e a w => match e with | .normal => Q .normal a w | _ => False) (fun e a w q => by cases e <;> first | exact q | exact q.elim) ?_
        refine wp_region_any hm (any_sound (Q := fun e a w => match e with | .normal => Q .normal a w | _ => False) B hO (f := freeB) e2 (n := 0) (Pre := fun _ => True) (fun it _ hf _ a _ => by unfold freeB at hf; simp at hf; simp [Region.wanted, hf]) (fun _ _ _ _ _ _ _ _ _ => trivial) (fun _ _ _ _ q => q) hn ops.size _ st a _ g (by simp) ?_ (by rw [hall, hlen]; exact Nat.le_refl _) (fun _ _ => Nat.zero_le _) trivial (hr.world (Grow.drew w)) (by rw [hall]; exact h))
        intro j oj hj hl
        rw [getD_replicate_false] at hl
        cases hl
    | true =>
      rw [e] at h
      unfold okDraw at e
      simp only [Bool.and_eq_true, List.all_eq_true] at e
      exact wp_region_still hm e.2 (stillK_sound B hO (fun st' a' g' hr' h' => hn st' a' _ g' hr' h') _ st a g e.1 (hr.world (Grow.drew w)) h)
where
  getD_replicate_false (m j : Nat) : (Array.replicate m false).getD j false = false := by
    rcases Nat.lt_or_ge j m with h | h
    · simp [h]
    · simp [h]
end
end Go.Proofs.YthmedjljckbidaaDoor.Lift
