/- Summaries of functions that the library gives a contract for: numbers, bools and strings in and out. Conditions: as each theorem states them. -/
import Derived.Test.YtdffbjbpolhliaaDoorLiftX
set_option linter.unusedVariables false
namespace Go.Proofs.YtdffbjbpolhliaaDoor.Lift
section
variable {P : Program} {C : Ctx}

def valOf {U : Nat → Type} : (t : Ty) → El U t → Value
  | .int k, n => .int k n
  | .bool, b => .bool b
  | .str, s => .string s
  | .sl _, _ => undef
  | .st _, _ => undef

def valsOf {U : Nat → Type} : (pm : List PM) → HL U (PM.tys pm) → List Value
  | [], _ => []
  | .d t :: r, h => valOf t h.1 :: valsOf r h.2
  | .iv _ _ :: r, h => undef :: valsOf r h.2
  | .fn _ :: r, h => undef :: valsOf r h
  | .ref _ :: r, h => undef :: valsOf r (HL.spl _ h).2
  | .clo _ _ :: r, h => undef :: valsOf r h
  | .gh _ _ :: r, h => valsOf r (HL.spl _ h).2
  | .mp _ _ :: r, h => undef :: valsOf r h.2.2

def flatPM : List PM → Bool
  | [] => true
  | .d t :: r => t.flat && flatPM r
  | _ => false

def retVals {U : Nat → Type} : (rs : List Ty) → RT U rs → List Value
  | [], _ => []
  | [t], x => [valOf t x]
  | t :: u :: ts, x => valOf t x.1 :: retVals (u :: ts) x.2

theorem valOf_rep {S : Sg} {M : Mm} {t : Ty} (ht : t.flat = true) (x : El S.U t) : RepV S M t (valOf t x) x := by
  cases t with
  | int k => exact .inr ⟨rfl, .int _ _⟩
  | bool => exact .inr ⟨rfl, .bool _⟩
  | str => exact .inr ⟨rfl, .str _⟩
  | sl t => cases ht
  | st n => cases ht

theorem rep_valOf {S : Sg} {M : Mm} {t : Ty} (ht : t.flat = true) {v : Value} {x : El S.U t} (h : RepV S M t v x) : v = valOf t x := by
  cases t with
  | int k =>
    rcases h with ⟨q, _⟩ | ⟨_, q⟩
    · cases q
    · cases q; rfl
  | bool =>
    rcases h with ⟨q, _⟩ | ⟨_, q⟩
    · cases q
    · cases q; rfl
  | str =>
    rcases h with ⟨q, _⟩ | ⟨_, q⟩
    · cases q
    · cases q; rfl
  | sl t => cases ht
  | st n => cases ht

theorem retVals_rep {S : Sg} {M : Mm} : ∀ (rs : List Ty) (x : RT S.U rs), rs.all Ty.flat = true → RepR S M rs (retVals rs x) x
  | [], _, _ => trivial
  | [t], x, h => valOf_rep (by simpa using h) x
  | t :: u :: ts, x, h => by
    simp only [List.all_cons, Bool.and_eq_true] at h
    exact ⟨valOf_rep h.1 x.1, retVals_rep (u :: ts) x.2 (by simpa using h.2)⟩

theorem args_vals {st : St C.S.U} {g : Gh} : ∀ (pm : List PM) (vals : List Value) (args : List (AV C.S.U)) (h : HL C.S.U (PM.tys pm)), flatPM pm = true → All2 (RdA C.S g st) vals args → argsOf C.S st pm args = some h → vals = valsOf pm h
  | [], _, [], _, _, hv, _ => by cases hv; rfl
  | [], _, _ :: _, _, _, _, e => nomatch e
  | .d t :: pm, _, [], _, _, _, e => nomatch e
  | .d t :: pm, _, x :: args, h, hf, .cons hx hv, e => by
    simp only [flatPM, Bool.and_eq_true] at hf
    simp only [argsOf] at e
    split at e
    · rename_i y ey
      split at e
      · rename_i h' eh
        cases e
        rw [rep_valOf hf.1 (hx t y ey), args_vals pm _ args h' hf.2 hv eh]
        rfl
      · cases e
    · cases e
  | .iv _ _ :: _, _, _, _, hf, _, _ => nomatch hf
  | .fn _ :: _, _, _, _, hf, _, _ => nomatch hf
  | .ref _ :: _, _, _, _, hf, _, _ => nomatch hf
  | .clo _ _ :: _, _, _, _, hf, _, _ => nomatch hf
  | .gh _ _ :: _, _, _, _, hf, _, _ => nomatch hf
  | .mp _ _ :: _, _, _, _, hf, _, _ => nomatch hf

/-- A contract of the library as a summary. -/
theorem entry_extern (hS : SgOk C.S) {f : Nat} {fn : Func} (hf : P.funcs[f]? = some fn) (hn : (fn.name == "runtime.NumGoroutine") = false) (hb : fn.body.isSome = true) {pm : List PM} {rs : List Ty} (hp : flatPM pm = true) (hr : rs.all Ty.flat = true) {F : HL C.S.U (PM.tys pm) → Option (RT C.S.U rs)}
    (h : ∀ hh x w, F hh = some x → (∀ k ∈ C.S.gl, C.S.gp k fun i => w.cell? ⟨k, i, none⟩) → Calls P f (valsOf pm hh).toArray w fun e w' => e = .returned (ansOf (retVals rs x)) ∧ Grow w w') : (entryOf C.S pm rs F).Sound P C f := by
  refine ⟨fun ρ args st R r hrun c a w g vals hrel hv => ?_, entry_par⟩
  simp only [entryOf] at hrun
  split at hrun
  · rename_i hh eh
    obtain ⟨x, hx, hrun⟩ := Option.bind_eq_some_iff.1 hrun
    obtain ⟨g1, f1, f2, f3, f4⟩ := hrel.frzAs hS hv
    rw [hr] at hrun
    have hvals := args_vals pm vals args hh hp f4 eh
    subst hvals
    refine callOk_of_calls hf hn hb ((h hh x w hx fun k hk => (hrel.globW k hk).2).mono fun e w' he => ?_)
    obtain ⟨rfl, hg⟩ := he
    exact ⟨_, rfl, retAV rs x, st, g, hrun, hrel.world hg, repR_ans rs _ x (retVals_rep rs x hr), Ext.refl _ _, fun _ => Nat.le_refl _⟩
  · cases hrun

theorem RepR.mono {S : Sg} {M M' : Mm} (hM : Mle M M') : ∀ (rs : List Ty) (vs : List Value) (x : RT S.U rs), RepR S M rs vs x → RepR S M' rs vs x
  | [], [], _, _ => trivial
  | [t], [v], x, h => RepV.mono hM h
  | t :: u :: ts, v :: vs, x, h => ⟨RepV.mono hM h.1, RepR.mono hM (u :: ts) vs x.2 h.2⟩
  | [], _ :: _, _, h => h.elim
  | [_], [], _, h => h.elim
  | [_], _ :: _ :: _, _, h => h.elim
  | _ :: _ :: _, [], _, h => h.elim

/-- A contract whose results lie in part in new memory. -/
theorem entry_extern2 (hS : SgOk C.S) {f : Nat} {fn : Func} (hf : P.funcs[f]? = some fn) (hn : (fn.name == "runtime.NumGoroutine") = false) (hb : fn.body.isSome = true) {pm : List PM} {rs : List Ty} (hp : flatPM pm = true) (hr : rs.all Ty.flat = false) {F : HL C.S.U (PM.tys pm) → Option (RT C.S.U rs)}
    (h : ∀ hh x w, F hh = some x → (∀ k ∈ C.S.gl, C.S.gp k fun i => w.cell? ⟨k, i, none⟩) → Calls P f (valsOf pm hh).toArray w fun e w' => Grow w w' ∧ ∃ (N : Mm) (vs : List Value), e = .returned (ansOf vs) ∧ (∀ b cs, N b = some cs → w.heap.size ≤ b ∧ ∃ E fz, w'.heap[b]? = some (.cells cs E fz)) ∧ RepR C.S N rs vs x) : (entryOf C.S pm rs F).Sound P C f := by
  refine ⟨fun ρ args st R r hrun c a w g vals hrel hv => ?_, entry_par⟩
  simp only [entryOf] at hrun
  split at hrun
  · rename_i hh eh
    obtain ⟨x, hx, hrun⟩ := Option.bind_eq_some_iff.1 hrun
    obtain ⟨g1, f1, f2, f3, f4⟩ := hrel.frzAs hS hv
    rw [hr] at hrun
    have hvals := args_vals pm vals args hh hp f4 eh
    subst hvals
    refine callOk_of_calls hf hn hb ((h hh x w hx fun k hk => (hrel.globW k hk).2).mono fun e w' he => ?_)
    obtain ⟨hg, N, vs, rfl, hN, hR⟩ := he
    have r1 := f1.world hg
    have hnew : ∀ b cs, N b = some cs → g1.M b = none := fun b cs e => by
      cases q : g1.M b with
      | none => rfl
      | some z =>
        obtain ⟨E, fz, u⟩ := f1.agree b z q
        have := lt_of_heap u
        have := (hN b cs e).1
        omega
    have hM : Mle g1.M (fun b => (g1.M b).or (N b)) := fun b cs e => by show (g1.M b).or (N b) = some cs; rw [e]; rfl
    have hM2 : Mle N (fun b => (g1.M b).or (N b)) := fun b cs e => by show (g1.M b).or (N b) = some cs; rw [hnew b cs e, e]; rfl
    have hor : ∀ b cs, (g1.M b).or (N b) = some cs → g1.M b = some cs ∨ (g1.M b = none ∧ N b = some cs) := fun b cs e => by
      cases q : g1.M b with
      | none => rw [q] at e; exact .inr ⟨rfl, e⟩
      | some z => rw [q] at e; exact .inl e
    have r2 := r1.learn hM (fun b cs e => (hor b cs e).elim (fun q => r1.agree b cs q) fun q => (hN b cs q.2).2)
      (fun d j o b e m q => by
        show (g1.M b).or (N b) = none
        rw [(r1.own d j o b e m q).1]
        cases z : N b with
        | none => rfl
        | some cs =>
          have := (hN b cs z).1
          have := (f1.objs d j o e).lt m q
          omega)
      (fun b cs e => (hor b cs e).imp id fun q => .inl (Nat.le_trans hrel.ge (hN b cs q.2).1))
    refine ⟨_, rfl, retAV rs x, _, _, hrun, r2, repR_ans rs _ x (RepR.mono hM2 rs _ _ hR), ⟨f2.M.trans hM, f2.β, f2.γ, f2.τ⟩, fun d => ?_⟩
    show st.cnt d ≤ (frzAs args st).cnt d
    rw [(frzAs_cnt args st).1]; exact Nat.le_refl _
  · cases hrun
end
end Go.Proofs.YtdffbjbpolhliaaDoor.Lift
