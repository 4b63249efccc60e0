/- Numbers, strings, conversions, choices: the machine's and the evaluator's. Conditions: as each theorem states them. -/
import Derived.Test.YthmedjljckbidaaDoorLiftI
import Derived.Laws.Strings
import Derived.Laws.Strings2
set_option linter.unusedVariables false
namespace Go.Proofs.YthmedjljckbidaaDoor.Lift
section
variable {P : Program} {C : Ctx} {c : Call} {st : St C.S.U} {a : Act} {w : World} {g : Gh} {ρ : Type}

theorem RepL.int {v : Value} {k : IntKind} {n : Int} (h : RepL (S := C.S) g st.mem st.cnt v (.v (.int k) n)) : v = .int k n := by
  have h := RepV.leaf (S := C.S) rfl (show RepV C.S g.M (.int k) v n from h)
  cases h; rfl
theorem RepL.str {v : Value} {s : ByteArray} (h : RepL (S := C.S) g st.mem st.cnt v (.v .str s)) : v = .string s := by
  have h := RepV.leaf (S := C.S) rfl (show RepV C.S g.M .str v s from h)
  cases h; rfl
theorem RepL.vbool {v : Value} {b : Bool} (h : RepL (S := C.S) g st.mem st.cnt v (.v .bool b)) : v = .bool b := by
  have h := RepV.leaf (S := C.S) rfl (show RepV C.S g.M .bool v b from h)
  cases h; rfl
theorem rep_int (k : IntKind) (n : Int) : RepL (S := C.S) g st.mem st.cnt (.int k n) (.v (.int k) n) := .inr ⟨rfl, .int k n⟩
theorem rep_str (s : ByteArray) : RepL (S := C.S) g st.mem st.cnt (.string s) (.v .str s) := .inr ⟨rfl, .str s⟩
theorem rep_bool (b : Bool) : RepL (S := C.S) g st.mem st.cnt (.bool b) (.v .bool b) := .inr ⟨rfl, .bool b⟩

theorem asB_sound {v : Value} {x : LV C.S.U} {b : Bool} (hv : RepL g st.mem st.cnt v x) (h : asB x = some b) : v = .bool b := by
  unfold asB at h
  split at h
  · cases h; exact RepL.vbool hv
  · cases h; exact hv.1
  · cases h; exact hv
  · cases h

theorem asI_sound {v : Value} {x : LV C.S.U} {n : Int} (hv : RepL g st.mem st.cnt v x) (h : asI x = some n) : ∃ k, v = .int k n := by
  unfold asI at h
  split at h
  · cases h; exact ⟨_, RepL.int hv⟩
  · cases h

/-- What a binary operation answers. -/
def BinOk (P : Program) (w : World) (op : BinOp) (T : Nat) (X Y : Operand) (u v r : Value) : Prop :=
  (do eqGuard op T X Y u v; binOp op T u v : Sem Value).run P w = .ok r w

theorem intOp_sound {op : BinOp} {k k' : IntKind} {m n : Int} {X Y : Operand} {T : Nat} {R : LV C.S.U → Option ρ} {r : ρ} (hk : op = .shl ∨ op = .shr ∨ k' = k) (hY : ∀ k' n', Y = .const (.int k' n') → n' = n) (h : intOp C op k m n Y R = some r) :
    ∃ u y, BinOk P w op T X Y (.int k m) (.int k' n) u ∧ R y = some r ∧ RepL g st.mem st.cnt u y := by
  have ob : ∀ b : Bool, RepL (S := C.S) g st.mem st.cnt (.bool b) (.v .bool b) := fun b => rep_bool b
  cases op
  case add => obtain rfl : k' = k := by simpa using hk
              exact ⟨_, _, by simp [BinOk, go_sem, wadd], h, rep_int _ _⟩
  case sub => obtain rfl : k' = k := by simpa using hk
              exact ⟨_, _, by simp [BinOk, go_sem, wsub], h, rep_int _ _⟩
  case mul => obtain rfl : k' = k := by simpa using hk
              exact ⟨_, _, by simp [BinOk, go_sem, wmul], h, rep_int _ _⟩
  case quo =>
    obtain rfl : k' = k := by simpa using hk
    have key : n ≠ 0 → R (.v (.int k') (wquo k' m n)) = some r → ∃ u y, BinOk P w .quo T X Y (.int k' m) (.int k' n) u ∧ R y = some r ∧ RepL g st.mem st.cnt u y := fun h0 h => ⟨_, _, by simp [BinOk, go_sem, h0, wquo], h, rep_int _ _⟩
    simp only [intOp] at h
    cases e : isZero Y with
    | true =>
      rw [e] at h
      cases e2 : ieq n 0 with
      | true => rw [e2] at h; cases h
      | false => rw [e2] at h; exact key (by simpa [ieq] using e2) h
    | false =>
      rw [e] at h
      refine key ?_ h
      unfold isZero at e
      split at e
      · rename_i k2 n2; have := hY k2 n2 rfl; subst this; simpa using e
      · cases e
  case rem =>
    obtain rfl : k' = k := by simpa using hk
    have key : n ≠ 0 → R (.v (.int k') (irem m n)) = some r → ∃ u y, BinOk P w .rem T X Y (.int k' m) (.int k' n) u ∧ R y = some r ∧ RepL g st.mem st.cnt u y := fun h0 h => ⟨_, _, by simp [BinOk, go_sem, h0, irem], h, rep_int _ _⟩
    simp only [intOp] at h
    cases e : isZero Y with
    | true =>
      rw [e] at h
      cases e2 : ieq n 0 with
      | true => rw [e2] at h; cases h
      | false => rw [e2] at h; exact key (by simpa [ieq] using e2) h
    | false =>
      rw [e] at h
      refine key ?_ h
      unfold isZero at e
      split at e
      · rename_i k2 n2; have := hY k2 n2 rfl; subst this; simpa using e
      · cases e
  case and => obtain rfl : k' = k := by simpa using hk
              exact ⟨_, _, by simp only [BinOk, eqGuard_and, binOp_and, Op.intBits, Sem.run_bind, Sem.run_pure, Result.andThen_ok]; rfl, h, rep_int _ _⟩
  case or => obtain rfl : k' = k := by simpa using hk
             exact ⟨_, _, by simp only [BinOk, eqGuard_or, binOp_or, Op.intBits, Sem.run_bind, Sem.run_pure, Result.andThen_ok]; rfl, h, rep_int _ _⟩
  case xor => obtain rfl : k' = k := by simpa using hk
              exact ⟨_, _, by simp only [BinOk, eqGuard_xor, binOp_xor, Op.intBits, Sem.run_bind, Sem.run_pure, Result.andThen_ok]; rfl, h, rep_int _ _⟩
  case andNot => obtain rfl : k' = k := by simpa using hk
                 exact ⟨_, _, by simp only [BinOk, eqGuard_andNot, binOp_andNot, Op.intBits, Sem.run_bind, Sem.run_pure, Result.andThen_ok]; rfl, h, rep_int _ _⟩
  case shl =>
    have key : 0 ≤ n → R (.v (.int k) (ishl k m n)) = some r → ∃ u y, BinOk P w .shl T X Y (.int k m) (.int k' n) u ∧ R y = some r ∧ RepL g st.mem st.cnt u y := fun h0 h => ⟨_, _, by simp only [BinOk, eqGuard_shl, binOp_shl, Op.shift, Sem.run_bind, Sem.run_pure, Result.andThen_ok]; rw [if_neg (by omega)]; rfl, h, rep_int _ _⟩
    simp only [intOp] at h
    split at h
    · rename_i k2 n2; have := hY k2 n2 rfl; subst this
      cases e : ilt n2 0 with
      | true => rw [e] at h; cases h
      | false => rw [e] at h; exact key (by simpa [ilt] using e) h
    · cases e : ilt n 0 with
      | true => rw [e] at h; cases h
      | false => rw [e] at h; exact key (by simpa [ilt] using e) h
  case shr =>
    have key : 0 ≤ n → R (.v (.int k) (ishr k m n)) = some r → ∃ u y, BinOk P w .shr T X Y (.int k m) (.int k' n) u ∧ R y = some r ∧ RepL g st.mem st.cnt u y := fun h0 h => ⟨_, _, by simp only [BinOk, eqGuard_shr, binOp_shr, Op.shift, Sem.run_bind, Sem.run_pure, Result.andThen_ok]; rw [if_neg (by omega)]; rfl, h, rep_int _ _⟩
    simp only [intOp] at h
    split at h
    · rename_i k2 n2; have := hY k2 n2 rfl; subst this
      cases e : ilt n2 0 with
      | true => rw [e] at h; cases h
      | false => rw [e] at h; exact key (by simpa [ilt] using e) h
    · cases e : ilt n 0 with
      | true => rw [e] at h; cases h
      | false => rw [e] at h; exact key (by simpa [ilt] using e) h
  case eql => obtain rfl : k' = k := by simpa using hk
              exact ⟨_, _, by simp [BinOk, go_sem, ieq], h, ob _⟩
  case neq => obtain rfl : k' = k := by simpa using hk
              exact ⟨_, _, by simp [BinOk, go_sem, ieq, bne], h, ob _⟩
  case lss => obtain rfl : k' = k := by simpa using hk
              exact ⟨_, _, by simp [BinOk, go_sem, ilt], h, ob _⟩
  case leq => obtain rfl : k' = k := by simpa using hk
              exact ⟨_, _, by simp [BinOk, go_sem, ile], h, ob _⟩
  case gtr => obtain rfl : k' = k := by simpa using hk
              exact ⟨_, _, by simp [BinOk, go_sem, ilt], h, ob _⟩
  case geq => obtain rfl : k' = k := by simpa using hk
              exact ⟨_, _, by simp [BinOk, go_sem, ile], h, ob _⟩

theorem strOp_sound {op : BinOp} {s t : ByteArray} {X Y : Operand} {T : Nat} {R : LV C.S.U → Option ρ} {r : ρ} (h : strOp C op s t R = some r) :
    ∃ u y, BinOk P w op T X Y (.string s) (.string t) u ∧ R y = some r ∧ RepL g st.mem st.cnt u y := by
  have ob : ∀ b : Bool, RepL (S := C.S) g st.mem st.cnt (.bool b) (.v .bool b) := fun b => rep_bool b
  have hb : ∀ op, binOp op T (.string s) (.string t) = Op.stringOp op s t ∨ op = .shl ∨ op = .shr := fun op => by cases op <;> first | exact .inl rfl | exact .inr (.inl rfl) | exact .inr (.inr rfl)
  cases op
  case add =>
    obtain ⟨q, hq, h⟩ := Option.bind_eq_some_iff.1 h
    unfold scat at hq
    split at hq
    · rename_i hl
      cases hq
      refine ⟨_, _, ?_, h, rep_str _⟩
      have : ¬ (((s.size + t.size : Nat) : Int) > IntKind.i64.max) := by rw [IntKind.max_i64]; omega
      simp only [BinOk, eqGuard_at_string, Sem.run_bind, Sem.run_pure, Result.andThen_ok]
      show (Op.stringOp .add s t).run P w = _
      simp only [Op.stringOp]
      rw [if_neg this]
      rfl
    · cases hq
  case eql => exact ⟨_, _, by simp only [BinOk, eqGuard_at_string, Sem.run_bind, Sem.run_pure, Result.andThen_ok]; rfl, h, ob _⟩
  case neq => exact ⟨_, _, by simp only [BinOk, eqGuard_at_string, Sem.run_bind, Sem.run_pure, Result.andThen_ok]; rfl, h, ob _⟩
  case lss => exact ⟨_, _, by simp only [BinOk, eqGuard_at_string, Sem.run_bind, Sem.run_pure, Result.andThen_ok]; rfl, h, ob _⟩
  case leq => exact ⟨_, _, by simp only [BinOk, eqGuard_at_string, Sem.run_bind, Sem.run_pure, Result.andThen_ok]; rfl, h, ob _⟩
  case gtr => exact ⟨_, _, by simp only [BinOk, eqGuard_at_string, Sem.run_bind, Sem.run_pure, Result.andThen_ok]; rfl, h, ob _⟩
  case geq => exact ⟨_, _, by simp only [BinOk, eqGuard_at_string, Sem.run_bind, Sem.run_pure, Result.andThen_ok]; rfl, h, ob _⟩
  all_goals cases h

theorem binOpK_sound {op : BinOp} {u v : Value} {x y : LV C.S.U} {X Y : Operand} {T : Nat} (hu : RepL g st.mem st.cnt u x) (hv : RepL g st.mem st.cnt v y) (hY : ∀ k n, Y = .const (.int k n) → v = .int k n)
    (hb : (asB x).isSome = true → P.underlying T = some .bool) (hkk : ∀ k m k' n, x = .v (.int k) m → y = .v (.int k') n → op = .shl ∨ op = .shr ∨ k' = k) {R : LV C.S.U → Option ρ} {r : ρ} (h : binOpK C op x y Y R = some r) :
    ∃ q z, BinOk P w op T X Y u v q ∧ R z = some r ∧ RepL g st.mem st.cnt q z := by
  unfold binOpK at h
  split at h
  · rename_i k m k' n
    have hu := RepL.int hu
    have hv := RepL.int hv
    subst hu; subst hv
    exact intOp_sound (hkk _ _ _ _ rfl rfl) (fun k2 n2 e => by have := hY k2 n2 e; cases this; rfl) h
  · have hu := RepL.str hu
    have hv := RepL.str hv
    subst hu; subst hv
    exact strOp_sound h
  · split at h
    · rename_i p q ep eq
      have hu := asB_sound hu ep
      have hv := asB_sound hv eq
      subst hu; subst hv
      have ht := hb (by rw [ep]; rfl)
      split at h
      · exact ⟨_, _, by simp only [BinOk, eqGuard_at_bool, Sem.run_bind, Sem.run_pure, Result.andThen_ok]; show (do pure (.bool (← Op.equal T (.bool p) (.bool q))) : Sem Value).run P w = _; simp only [Op.equal, Op.maxDepth, Sem.run_bind, run_equalIn_bool' w 9999 T p q ht, Result.andThen_ok, Sem.run_pure], h, rep_bool _⟩
      · exact ⟨_, _, by simp only [BinOk, eqGuard_at_bool, Sem.run_bind, Sem.run_pure, Result.andThen_ok]; show (do pure (.bool (!(← Op.equal T (.bool p) (.bool q)))) : Sem Value).run P w = _; simp only [Op.equal, Op.maxDepth, Sem.run_bind, run_equalIn_bool' w 9999 T p q ht, Result.andThen_ok, Sem.run_pure], h, rep_bool _⟩
      · cases h
    · cases h

theorem unOpK_sound {op : UnOp} {u : Value} {x : LV C.S.U} (hu : RepL g st.mem st.cnt u x) {R : LV C.S.U → Option ρ} {r : ρ} (h : unOpK C op x R = some r) : ∃ q z, (Op.unary op u).run P w = .ok q w ∧ R z = some r ∧ RepL g st.mem st.cnt q z := by
  unfold unOpK at h
  split at h
  · rename_i b
    have hu : u = .bool b := hu
    subst hu
    exact ⟨_, _, rfl, h, rfl⟩
  · split at h
    · rename_i b eb
      have hu := asB_sound hu eb
      subst hu
      exact ⟨_, _, rfl, h, rep_bool _⟩
    · cases h
  · have hu := RepL.int hu
    subst hu
    exact ⟨_, _, rfl, h, rep_int _ _⟩
  · have hu := RepL.int hu
    subst hu
    exact ⟨_, _, rfl, h, rep_int _ _⟩
  · cases h

theorem under_sound {v : Value} {c' : LV C.S.U} {b : Bool} {x : LV C.S.U} (hc : RepL g st.mem st.cnt (.bool b) c') (hv : RepL g st.mem st.cnt v x) : RepL g st.mem st.cnt v (under b c' x) := by
  cases c' with
  | tb d j q =>
    obtain ⟨h1, h2, _⟩ := hc
    cases h1
    exact RepL.strip h2 x hv
  | _ => exact hv

theorem pickV_sound {u v : Value} {x y : LV C.S.U} {q : Bool} (hu : q = true → RepL g st.mem st.cnt u x) (hv : q = false → RepL g st.mem st.cnt v y) {R : LV C.S.U → Option ρ} {r : ρ} (h : pickV C q x y R = some r) :
    ∃ z, R z = some r ∧ RepL g st.mem st.cnt (if q then u else v) z := by
  unfold pickV at h
  split at h
  · rename_i t x0 t' y0
    split at h
    · rename_i y1 ey
      obtain ⟨e1, e2⟩ := castEl_some ey
      subst e1
      have e2 : y1 = y0 := e2
      subst e2
      split at h
      · refine ⟨_, h, ?_⟩
        cases q
        · exact hv rfl
        · exact hu rfl
      · refine ⟨_, h, ?_⟩
        cases q
        · exact hv rfl
        · exact hu rfl
      · refine ⟨_, h, ?_⟩
        cases q
        · exact hv rfl
        · exact hu rfl
      · cases h
    · cases h
  · split at h
    · rename_i p1 p2 e1 e2
      refine ⟨_, h, ?_⟩
      cases q
      · have := asB_sound (hv rfl) e2
        subst this; exact rep_bool _
      · have := asB_sound (hu rfl) e1
        subst this; exact rep_bool _
    · cases h

theorem pickK_sound {cv u v : Value} {x0 x y : LV C.S.U} (hc : RepL g st.mem st.cnt cv x0) (hu : RepL g st.mem st.cnt u x) (hv : RepL g st.mem st.cnt v y) {R : LV C.S.U → Option ρ} {r : ρ} (h : pickK C x0 x y R = some r) :
    ∃ q z, (do pure (if ← asBool cv then u else v) : Sem Value).run P w = .ok q w ∧ R z = some r ∧ RepL g st.mem st.cnt q z := by
  unfold pickK at h
  split at h
  · have hc : cv = .bool true := hc
    subst hc
    exact ⟨_, _, rfl, h, hu⟩
  · have hc : cv = .bool false := hc
    subst hc
    exact ⟨_, _, rfl, h, hv⟩
  · split at h
    · rename_i b eb
      have e := asB_sound hc eb
      subst e
      obtain ⟨z, k1, k2⟩ := pickV_sound (u := u) (v := v) (q := b) (fun e => by subst e; exact under_sound hc hu) (fun e => by subst e; exact under_sound hc hv) h
      exact ⟨_, z, rfl, k1, k2⟩
    · cases h

theorem minR_sound {op : Bool} {k : IntKind} {R : LV C.S.U → Option ρ} {r : ρ} : ∀ (n : Int) (us : List Value) (xs : List (LV C.S.U)), All2 (RepL g st.mem st.cnt) us xs → minR C op k R n xs = some r →
    ∃ m, (us.foldlM (if op then Builtin.min2 else Builtin.max2) (.int k n)).run P w = .ok (.int k m) w ∧ R (.v (.int k) m) = some r := by
  intro n us xs hx
  revert n
  induction hx with
  | nil => intro n h; exact ⟨n, rfl, h⟩
  | @cons u x us xs hu _ ih =>
    intro n h
    unfold minR at h
    split at h
    · rename_i e; cases e
    · rename_i k' b rest e
      cases e
      have hu := RepL.int hu
      subst hu
      obtain ⟨m, h1, h2⟩ := ih _ h
      refine ⟨m, ?_, h2⟩
      cases op
      · simp only [Bool.false_eq_true, if_false, List.foldlM_cons, Sem.run_bind] at h1 ⊢
        show ((Builtin.max2 (.int k _) (.int k' b)).run P w).andThen _ = _
        simp only [Builtin.max2, Sem.run_pure, Result.andThen_ok]
        exact h1
      · simp only [if_true, List.foldlM_cons, Sem.run_bind] at h1 ⊢
        show ((Builtin.min2 (.int k _) (.int k' b)).run P w).andThen _ = _
        simp only [Builtin.min2, Sem.run_pure, Result.andThen_ok]
        exact h1
    · cases h

theorem minK_sound {op : Bool} {us : List Value} {xs : List (LV C.S.U)} (hx : All2 (RepL g st.mem st.cnt) us xs) {ts : Array TypeId} {ty : Nat} {R : LV C.S.U → Option ρ} {r : ρ} (h : minK C op xs R = some r) :
    ∃ q z, ((if op then Builtin.min_ else Builtin.max_) ts ty us.toArray).run P w = .ok q w ∧ R z = some r ∧ RepL g st.mem st.cnt q z := by
  unfold minK at h
  split at h
  · cases hx with
    | cons hu hxs =>
      have hu := RepL.int hu
      subst hu
      obtain ⟨m, h1, h2⟩ := minR_sound (P := P) (w := w) _ _ _ hxs h
      refine ⟨_, _, ?_, h2, rep_int _ _⟩
      cases op
      · exact h1
      · exact h1
  · cases h

theorem bstr_eq (l : List Int) : bstr l = strOfNums l := rfl
end
end Go.Proofs.YthmedjljckbidaaDoor.Lift
