/- A function's summary, put together from what the checker has made. Conditions: as each theorem states them. -/
import Derived.Test.YthmedjljckbidaaDoorLiftW
import Derived.Test.YthmedjljckbidaaDoorLiftV2
set_option linter.unusedVariables false
namespace Go.Proofs.YthmedjljckbidaaDoor.Lift
section
variable {P : Program} {C : Ctx}

/-- All summaries of a list hold. -/
def AllSound (P : Program) (C : Ctx) : List (Nat × Entry C.S) → Prop
  | [] => True
  | x :: l => x.2.Sound P C x.1 ∧ AllSound P C l

theorem oracle_of : ∀ {l : List (Nat × Entry C.S)}, AllSound P C l → OracleOk P C (fun n => lkp n l)
  | [], _, _, _, h => nomatch h
  | (n, e) :: l, hl, f, e', h => by
    have h : (cond (Nat.beq n f) (some e) (lkp f l)) = some e' := h
    cases q : Nat.beq n f with
    | true =>
      rw [q] at h
      cases h
      rw [← Nat.eq_of_beq_eq_true q]
      exact hl.1
    | false =>
      rw [q] at h
      exact oracle_of hl.2 f e' h

def LbsOk (C : Ctx) {ρ : Type} (O : Nat → Oracle C.S) (N : Fr) (T : List (Lb C.S ρ)) (b : Code) (an : Ann) (K : Kt ρ C.S.U) : List (Lb C.S ρ) → Prop
  | [] => True
  | x :: l => LbOk C O N T b an K x ∧ LbsOk C O N T b an K l

theorem lbsOk_mem {ρ : Type} {O : Nat → Oracle C.S} {N : Fr} {T : List (Lb C.S ρ)} {b : Code} {an : Ann} {K : Kt ρ C.S.U} : ∀ {l : List (Lb C.S ρ)}, LbsOk C O N T b an K l → ∀ x ∈ l, LbOk C O N T b an K x
  | y :: l, h, x, hx => by
    rcases List.mem_cons.1 hx with rfl | hx
    · exact h.1
    · exact lbsOk_mem h.2 x hx

/-- A function's summary holds. -/
theorem entry_ok (B : Base P C) (mo : P.follows .mixedOrders = true) {f : Nat} {fn : Func} {b : Code} {pm : List PM} {rs : List Ty} {an : Ann} {N : Nat} {vars : List ResultVar} (hf : P.funcs[f]? = some fn) (hn : (fn.name == "runtime.NumGoroutine") = false) (hb : fn.body = some b) (hp : Nat.ble (PM.np pm) N = true) (hd : nodupB (idsOf b an) = true)
    (hN : fn.ntmps = N) (hv : fn.results.toList = vars) {O : Nat → Oracle C.S} (hO : ∀ k, OracleOk P C (O k)) (T : List (Lb C.S (RT C.S.U rs)))
    (hT : LbsOk C O ⟨N, [], []⟩ T b an (endK C rs vars) T) (k : Nat) {F : HL C.S.U (PM.tys pm) → Option (RT C.S.U rs)}
    (hF : ∀ h, F h = codeK (C := C) (O k) ⟨N, [], []⟩ (Lb.tab T k) b an (endK C rs vars) (slotsOf C.S.U 0 pm h (empty C.S.U))) : (entryOf C.S pm rs F).Sound P C f := by
  subst hN
  subst hv
  exact entry_sound B mo ⟨hf, hn, hb, Nat.le_of_ble_eq_true hp, hd⟩ (fun j _ => hO j) (lbsOk_mem hT) hF

theorem entry_none {f : Nat} {pm : List PM} {rs : List Ty} {F : HL C.S.U (PM.tys pm) → Option (RT C.S.U rs)} (h0 : ∀ h, F h = none) : (entryOf C.S pm rs F).Sound P C f := by
  refine ⟨fun ρ args st R r h => ?_, entry_par⟩
  simp only [entryOf] at h
  split at h
  · rw [h0] at h; cases h
  · cases h

/-- A summary of a function that calls itself holds. -/
theorem entry_rec (B : Base P C) (mo : P.follows .mixedOrders = true) {f : Nat} {fn : Func} {b : Code} {pm : List PM} {rs : List Ty} {an : Ann} {N : Nat} {vars : List ResultVar} (hf : P.funcs[f]? = some fn) (hn : (fn.name == "runtime.NumGoroutine") = false) (hb : fn.body = some b) (hp : Nat.ble (PM.np pm) N = true) (hd : nodupB (idsOf b an) = true)
    (hN : fn.ntmps = N) (hv : fn.results.toList = vars) {O : Nat → Oracle C.S} (T : List (Lb C.S (RT C.S.U rs))) (hT : LbsOk C O ⟨N, [], []⟩ T b an (endK C rs vars) T) {F : Nat → HL C.S.U (PM.tys pm) → Option (RT C.S.U rs)} (h0 : ∀ h, F 0 h = none)
    (hF : ∀ k h, F (k + 1) h = codeK (C := C) (O k) ⟨N, [], []⟩ (Lb.tab T k) b an (endK C rs vars) (slotsOf C.S.U 0 pm h (empty C.S.U))) (hO : ∀ k, (entryOf C.S pm rs (F k)).Sound P C f → OracleOk P C (O k)) : ∀ k, (entryOf C.S pm rs (F k)).Sound P C f := by
  subst hN
  subst hv
  intro k
  induction k using Nat.strongRecOn with
  | _ k ih =>
    cases k with
    | zero => exact entry_none h0
    | succ k => exact entry_sound B mo ⟨hf, hn, hb, Nat.le_of_ble_eq_true hp, hd⟩ (fun j hj => hO j (ih j (by omega))) (lbsOk_mem hT) (hF k)

/-- The summary of a function that is handed boxes holds. -/
theorem entryR_ok (B : Base P C) (mo : P.follows .mixedOrders = true) {f : Nat} {fn : Func} {b : Code} {pm : List PM} {rs : List Ty} {an : Ann} {N : Nat} {vars : List ResultVar} (hf : P.funcs[f]? = some fn) (hn : (fn.name == "runtime.NumGoroutine") = false) (hb : fn.body = some b) (hp : Nat.ble (PM.np pm) N = true) (hd : nodupB (idsOf b an) = true)
    (hN : fn.ntmps = N) (hv : fn.results.toList = vars) (hr : hasRef pm = true) (hg : incrB N (PM.gs pm) = true) {O : Nat → Oracle C.S} (hO : ∀ k, OracleOk P C (O k)) (T : List (Lb C.S (RT C.S.U rs × HL C.S.U (PM.outs pm))))
    (hT : LbsOk C O ⟨N, PM.pins 0 pm, PM.gs pm⟩ T b an (endR C rs vars pm) T) (k : Nat) {F : HL C.S.U (PM.tys pm) → Option (RT C.S.U rs × HL C.S.U (PM.outs pm))}
    (hF : ∀ h, F h = codeK (C := C) (O k) ⟨N, PM.pins 0 pm, PM.gs pm⟩ (Lb.tab T k) b an (endR C rs vars pm) (slotsOf C.S.U 0 pm h (emptyG C.S.U (PM.gs pm)))) : (entryR C.S pm rs F).Sound P C f := by
  subst hN
  subst hv
  exact entryR_sound B mo ⟨hf, hn, hb, Nat.le_of_ble_eq_true hp, hd⟩ hr hg (fun j _ => hO j) (lbsOk_mem hT) hF

theorem entryR_none {f : Nat} {pm : List PM} {rs : List Ty} (hr : hasRef pm = true) {F : HL C.S.U (PM.tys pm) → Option (RT C.S.U rs × HL C.S.U (PM.outs pm))} (h0 : ∀ h, F h = none) : (entryR C.S pm rs F).Sound P C f := by
  refine ⟨fun ρ args st R r h => ?_, fun args st st' hf _ ρ R => ?_⟩
  · simp only [entryR] at h
    split at h
    · rw [h0] at h; cases h
    · cases h
  · rcases hf with hf | hf
    · cases hf
    · simp only [entryR, argsR_keyless _ pm args _ hr hf]
      rfl

/-- The same of a function that calls itself. -/
theorem entryR_rec (B : Base P C) (mo : P.follows .mixedOrders = true) {f : Nat} {fn : Func} {b : Code} {pm : List PM} {rs : List Ty} {an : Ann} {N : Nat} {vars : List ResultVar} (hf : P.funcs[f]? = some fn) (hn : (fn.name == "runtime.NumGoroutine") = false) (hb : fn.body = some b) (hp : Nat.ble (PM.np pm) N = true) (hd : nodupB (idsOf b an) = true)
    (hN : fn.ntmps = N) (hv : fn.results.toList = vars) (hr : hasRef pm = true) (hg : incrB N (PM.gs pm) = true) {O : Nat → Oracle C.S} (T : List (Lb C.S (RT C.S.U rs × HL C.S.U (PM.outs pm)))) (hT : LbsOk C O ⟨N, PM.pins 0 pm, PM.gs pm⟩ T b an (endR C rs vars pm) T) {F : Nat → HL C.S.U (PM.tys pm) → Option (RT C.S.U rs × HL C.S.U (PM.outs pm))} (h0 : ∀ h, F 0 h = none)
    (hF : ∀ k h, F (k + 1) h = codeK (C := C) (O k) ⟨N, PM.pins 0 pm, PM.gs pm⟩ (Lb.tab T k) b an (endR C rs vars pm) (slotsOf C.S.U 0 pm h (emptyG C.S.U (PM.gs pm)))) (hO : ∀ k, (entryR C.S pm rs (F k)).Sound P C f → OracleOk P C (O k)) : ∀ k, (entryR C.S pm rs (F k)).Sound P C f := by
  subst hN
  subst hv
  intro k
  induction k using Nat.strongRecOn with
  | _ k ih =>
    cases k with
    | zero => exact entryR_none hr h0
    | succ k => exact entryR_sound B mo ⟨hf, hn, hb, Nat.le_of_ble_eq_true hp, hd⟩ hr hg (fun j hj => hO j (ih j (by omega))) (lbsOk_mem hT) (hF k)

/-- One step of functions that call one another: those of all lesser fuels hold. -/
theorem entry_step (B : Base P C) (mo : P.follows .mixedOrders = true) {f : Nat} {fn : Func} {b : Code} {pm : List PM} {rs : List Ty} {an : Ann} {N : Nat} {vars : List ResultVar} (hf : P.funcs[f]? = some fn) (hn : (fn.name == "runtime.NumGoroutine") = false) (hb : fn.body = some b) (hp : Nat.ble (PM.np pm) N = true) (hd : nodupB (idsOf b an) = true)
    (hN : fn.ntmps = N) (hv : fn.results.toList = vars) {O : Nat → Oracle C.S} (T : List (Lb C.S (RT C.S.U rs))) (hT : LbsOk C O ⟨N, [], []⟩ T b an (endK C rs vars) T) (k : Nat) {F : HL C.S.U (PM.tys pm) → Option (RT C.S.U rs)}
    (hF : ∀ h, F h = codeK (C := C) (O k) ⟨N, [], []⟩ (Lb.tab T k) b an (endK C rs vars) (slotsOf C.S.U 0 pm h (empty C.S.U))) (hO : ∀ j, j ≤ k → OracleOk P C (O j)) : (entryOf C.S pm rs F).Sound P C f := by
  subst hN
  subst hv
  exact entry_sound B mo ⟨hf, hn, hb, Nat.le_of_ble_eq_true hp, hd⟩ hO (lbsOk_mem hT) hF

theorem entryR_step (B : Base P C) (mo : P.follows .mixedOrders = true) {f : Nat} {fn : Func} {b : Code} {pm : List PM} {rs : List Ty} {an : Ann} {N : Nat} {vars : List ResultVar} (hf : P.funcs[f]? = some fn) (hn : (fn.name == "runtime.NumGoroutine") = false) (hb : fn.body = some b) (hp : Nat.ble (PM.np pm) N = true) (hd : nodupB (idsOf b an) = true)
    (hN : fn.ntmps = N) (hv : fn.results.toList = vars) (hr : hasRef pm = true) (hg : incrB N (PM.gs pm) = true) {O : Nat → Oracle C.S} (T : List (Lb C.S (RT C.S.U rs × HL C.S.U (PM.outs pm)))) (hT : LbsOk C O ⟨N, PM.pins 0 pm, PM.gs pm⟩ T b an (endR C rs vars pm) T) (k : Nat) {F : HL C.S.U (PM.tys pm) → Option (RT C.S.U rs × HL C.S.U (PM.outs pm))}
    (hF : ∀ h, F h = codeK (C := C) (O k) ⟨N, PM.pins 0 pm, PM.gs pm⟩ (Lb.tab T k) b an (endR C rs vars pm) (slotsOf C.S.U 0 pm h (emptyG C.S.U (PM.gs pm)))) (hO : ∀ j, j ≤ k → OracleOk P C (O j)) : (entryR C.S pm rs F).Sound P C f := by
  subst hN
  subst hv
  exact entryR_sound B mo ⟨hf, hn, hb, Nat.le_of_ble_eq_true hp, hd⟩ hr hg hO (lbsOk_mem hT) hF

/-- The argument in this place is that function. -/
def argIs {U : Nat → Type} (i f : Nat) (args : List (AV U)) : Bool :=
  match args[i]? with
  | some (.l (.clo f' _)) => Nat.beq f' f
  | _ => false
/-- One function, with two summaries: which of them goes is told by an argument. -/
def altE {S : Sg} (i f : Nat) (a b : Entry S) : Entry S where
  run args st R := cond (argIs i f args) (a.run args st R) (b.run args st R)
  flat := a.flat && b.flat
theorem altE_sound {i f n : Nat} {a b : Entry C.S} (ha : a.Sound P C n) (hb : b.Sound P C n) : (altE i f a b).Sound P C n := by
  refine ⟨fun ρ args st R r h => ?_, fun args st st' hf hs ρ R => ?_⟩
  · have h : cond (argIs i f args) (a.run args st R) (b.run args st R) = some r := h
    cases q : argIs i f args with
    | true => rw [q] at h; exact ha.call ρ args st R r h
    | false => rw [q] at h; exact hb.call ρ args st R r h
  · show cond (argIs i f args) (a.run args st' R) (b.run args st' R) = (cond (argIs i f args) (a.run args st fun z _ => some z) (b.run args st fun z _ => some z)).bind fun z => R z st'
    have hf' : (a.flat = true ∧ b.flat = true) ∨ ∀ x ∈ args, keyless x = true := hf.imp (fun h => Bool.and_eq_true_iff.1 h) id
    cases argIs i f args with
    | true => exact ha.par args st st' (hf'.imp (fun h => h.1) id) hs ρ R
    | false => exact hb.par args st st' (hf'.imp (fun h => h.2) id) hs ρ R

theorem entryW_ok (B : Base P C) (mo : P.follows .mixedOrders = true) {f : Nat} {fn : Func} {b : Code} {E : Nat} {t : Ty} {pm : List PM} {rs : List Ty} {an : Ann} {N : Nat} {vars : List ResultVar} (hf : P.funcs[f]? = some fn) (hn : (fn.name == "runtime.NumGoroutine") = false) (hb : fn.body = some b) (hp : Nat.ble (PM.np pm) N = true) (hd : nodupB (idsOf b an) = true)
    (hN : fn.ntmps = N) (hv : fn.results.toList = vars) (hr : hasRef pm = true) (hg : incrB N (PM.gs pm) = true) {O : Nat → Oracle C.S} (hO : ∀ k, OracleOk P C (O k)) (T : List (Lb C.S (RT C.S.U (.sl t :: rs) × HL C.S.U (PM.outs pm))))
    (hT : LbsOk C O ⟨N, PM.pins 0 pm, PM.gs pm⟩ T b an (endW C E t rs vars pm) T) (k : Nat) {F : HL C.S.U (PM.tys pm) → Option (RT C.S.U (.sl t :: rs) × HL C.S.U (PM.outs pm))}
    (hF : ∀ h, F h = codeK (C := C) (O k) ⟨N, PM.pins 0 pm, PM.gs pm⟩ (Lb.tab T k) b an (endW C E t rs vars pm) (slotsOf C.S.U 0 pm h (emptyG C.S.U (PM.gs pm)))) : (entryW C.S E t pm rs F).Sound P C f := by
  subst hN
  subst hv
  exact entryW_sound B mo ⟨hf, hn, hb, Nat.le_of_ble_eq_true hp, hd⟩ hr hg (fun j _ => hO j) (lbsOk_mem hT) hF

theorem entryW_none {f : Nat} {E : Nat} {t : Ty} {pm : List PM} {rs : List Ty} (hr : hasRef pm = true) {F : HL C.S.U (PM.tys pm) → Option (RT C.S.U (.sl t :: rs) × HL C.S.U (PM.outs pm))} (h0 : ∀ h, F h = none) : (entryW C.S E t pm rs F).Sound P C f := by
  refine ⟨fun ρ args st R r h => ?_, fun args st st' hf _ ρ R => ?_⟩
  · simp only [entryW] at h
    split at h
    · split at h
      · rw [h0] at h; cases h
      · cases h
    · cases h
  · rcases hf with hf | hf
    · cases hf
    · simp only [entryW]
      split
      · simp only [argsR_keyless _ pm args _ hr hf]
        rfl
      · rfl

theorem entryW_rec (B : Base P C) (mo : P.follows .mixedOrders = true) {f : Nat} {fn : Func} {b : Code} {E : Nat} {t : Ty} {pm : List PM} {rs : List Ty} {an : Ann} {N : Nat} {vars : List ResultVar} (hf : P.funcs[f]? = some fn) (hn : (fn.name == "runtime.NumGoroutine") = false) (hb : fn.body = some b) (hp : Nat.ble (PM.np pm) N = true) (hd : nodupB (idsOf b an) = true)
    (hN : fn.ntmps = N) (hv : fn.results.toList = vars) (hr : hasRef pm = true) (hg : incrB N (PM.gs pm) = true) {O : Nat → Oracle C.S} (T : List (Lb C.S (RT C.S.U (.sl t :: rs) × HL C.S.U (PM.outs pm)))) (hT : LbsOk C O ⟨N, PM.pins 0 pm, PM.gs pm⟩ T b an (endW C E t rs vars pm) T) {F : Nat → HL C.S.U (PM.tys pm) → Option (RT C.S.U (.sl t :: rs) × HL C.S.U (PM.outs pm))} (h0 : ∀ h, F 0 h = none)
    (hF : ∀ k h, F (k + 1) h = codeK (C := C) (O k) ⟨N, PM.pins 0 pm, PM.gs pm⟩ (Lb.tab T k) b an (endW C E t rs vars pm) (slotsOf C.S.U 0 pm h (emptyG C.S.U (PM.gs pm)))) (hO : ∀ k, (entryW C.S E t pm rs (F k)).Sound P C f → OracleOk P C (O k)) : ∀ k, (entryW C.S E t pm rs (F k)).Sound P C f := by
  subst hN
  subst hv
  intro k
  induction k using Nat.strongRecOn with
  | _ k ih =>
    cases k with
    | zero => exact entryW_none hr h0
    | succ k => exact entryW_sound B mo ⟨hf, hn, hb, Nat.le_of_ble_eq_true hp, hd⟩ hr hg (fun j hj => hO j (ih j (by omega))) (lbsOk_mem hT) (hF k)

theorem entryW_step (B : Base P C) (mo : P.follows .mixedOrders = true) {f : Nat} {fn : Func} {b : Code} {E : Nat} {t : Ty} {pm : List PM} {rs : List Ty} {an : Ann} {N : Nat} {vars : List ResultVar} (hf : P.funcs[f]? = some fn) (hn : (fn.name == "runtime.NumGoroutine") = false) (hb : fn.body = some b) (hp : Nat.ble (PM.np pm) N = true) (hd : nodupB (idsOf b an) = true)
    (hN : fn.ntmps = N) (hv : fn.results.toList = vars) (hr : hasRef pm = true) (hg : incrB N (PM.gs pm) = true) {O : Nat → Oracle C.S} (T : List (Lb C.S (RT C.S.U (.sl t :: rs) × HL C.S.U (PM.outs pm)))) (hT : LbsOk C O ⟨N, PM.pins 0 pm, PM.gs pm⟩ T b an (endW C E t rs vars pm) T) (k : Nat) {F : HL C.S.U (PM.tys pm) → Option (RT C.S.U (.sl t :: rs) × HL C.S.U (PM.outs pm))}
    (hF : ∀ h, F h = codeK (C := C) (O k) ⟨N, PM.pins 0 pm, PM.gs pm⟩ (Lb.tab T k) b an (endW C E t rs vars pm) (slotsOf C.S.U 0 pm h (emptyG C.S.U (PM.gs pm)))) (hO : ∀ j, j ≤ k → OracleOk P C (O j)) : (entryW C.S E t pm rs F).Sound P C f := by
  subst hN
  subst hv
  exact entryW_sound B mo ⟨hf, hn, hb, Nat.le_of_ble_eq_true hp, hd⟩ hr hg hO (lbsOk_mem hT) hF

/-- The argument in this place is the nil slice. -/
def argNil {U : Nat → Type} (i : Nat) (args : List (AV U)) : Bool :=
  match args[i]? with
  | some (.l .nils) => true
  | _ => false
/-- One function, with two summaries: which of them goes is told by whether an argument is nil. -/
def altN {S : Sg} (i : Nat) (a b : Entry S) : Entry S where
  run args st R := cond (argNil i args) (a.run args st R) (b.run args st R)
  flat := a.flat && b.flat
theorem altN_sound {i n : Nat} {a b : Entry C.S} (ha : a.Sound P C n) (hb : b.Sound P C n) : (altN i a b).Sound P C n := by
  refine ⟨fun ρ args st R r h => ?_, fun args st st' hf hs ρ R => ?_⟩
  · have h : cond (argNil i args) (a.run args st R) (b.run args st R) = some r := h
    cases q : argNil i args with
    | true => rw [q] at h; exact ha.call ρ args st R r h
    | false => rw [q] at h; exact hb.call ρ args st R r h
  · show cond (argNil i args) (a.run args st' R) (b.run args st' R) = (cond (argNil i args) (a.run args st fun z _ => some z) (b.run args st fun z _ => some z)).bind fun z => R z st'
    have hf' : (a.flat = true ∧ b.flat = true) ∨ ∀ x ∈ args, keyless x = true := hf.imp (fun h => Bool.and_eq_true_iff.1 h) id
    cases argNil i args with
    | true => exact ha.par args st st' (hf'.imp (fun h => h.1) id) hs ρ R
    | false => exact hb.par args st st' (hf'.imp (fun h => h.2) id) hs ρ R

theorem base_of (h1 : SgOk C.S) (h2 : C.ty.all (tyB P C.S) = true) (h3 : EqOk P C) : Base P C := ⟨h1, tyOk_of h2, h3⟩
end
end Go.Proofs.YthmedjljckbidaaDoor.Lift
