/- Summaries of functions that the library gives a contract for: numbers, bools and strings in and out. Conditions: as each theorem states them. -/
import Derived.Test.YtmjfjjnmdljkeaaLiftX
set_option linter.unusedVariables false
namespace Go.Proofs.Ytmjfjjnmdljkeaa.Lift
section
variable {P : Program} {C : Ctx}

def valOf {U : Nat → Type} : (t : Ty) → El U t → Value
  | .int k, n => .int k n
  | .bool, b => .bool b
  | .str, s => .string s
  | .sl _, _ => undef
  | .st _, _ => undef

def valsOf {U : Nat → Type} : (pm : List PM) → HL U (PM.tys pm) → List Value
  | [], _ => []
  | .d t :: r, h => valOf t h.1 :: valsOf r h.2
  | .iv _ _ :: r, h => undef :: valsOf r h.2
  | .fn _ :: r, h => undef :: valsOf r h
  | .ref _ :: r, h => undef :: valsOf r (HL.spl _ h).2
  | .clo _ _ :: r, h => undef :: valsOf r h
  | .gh _ _ :: r, h => valsOf r (HL.spl _ h).2
  | .mp _ _ :: r, h => undef :: valsOf r h.2.2

def flatPM : List PM → Bool
  | [] => true
  | .d t :: r => t.flat && flatPM r
  | _ => false

def retVals {U : Nat → Type} : (rs : List Ty) → RT U rs → List Value
  | [], _ => []
  | [t], x => [valOf t x]
  | t :: u :: ts, x => valOf t x.1 :: retVals (u :: ts) x.2

theorem valOf_rep {S : Sg} {M : Mm} {t : Ty} (ht : t.flat = true) (x : El S.U t) : RepV S M t (valOf t x) x := by
  cases t with
  | int k => exact .inr ⟨rfl, .int _ _⟩
  | bool => exact .inr ⟨rfl, .bool _⟩
  | str => exact .inr ⟨rfl, .str _⟩
  | sl t => cases ht
  | st n => cases ht

theorem rep_valOf {S : Sg} {M : Mm} {t : Ty} (ht : t.flat = true) {v : Value} {x : El S.U t} (h : RepV S M t v x) : v = valOf t x := by
  cases t with
  | int k =>
    rcases h with ⟨q, _⟩ | ⟨_, q⟩
    · cases q
    · cases q; rfl
  | bool =>
    rcases h with ⟨q, _⟩ | ⟨_, q⟩
    · cases q
    · cases q; rfl
  | str =>
    rcases h with ⟨q, _⟩ | ⟨_, q⟩
    · cases q
    · cases q; rfl
  | sl t => cases ht
  | st n => cases ht

theorem retVals_rep {S : Sg} {M : Mm} : ∀ (rs : List Ty) (x : RT S.U rs), rs.all Ty.flat = true → RepR S M rs (retVals rs x) x
  | [], _, _ => trivial
  | [t], x, h => valOf_rep (by simpa using h) x
  | t :: u :: ts, x, h => by
    simp only [List.all_cons, Bool.and_eq_true] at h
    exact ⟨valOf_rep h.1 x.1, retVals_rep (u :: ts) x.2 (by simpa using h.2)⟩

theorem args_vals {st : St C.S.U} {g : Gh} : ∀ (pm : List PM) (vals : List Value) (args : List (AV C.S.U)) (h : HL C.S.U (PM.tys pm)), flatPM pm = true → All2 (RdA C.S g st) vals args → argsOf C.S st pm args = some h → vals = valsOf pm h
  | [], _, [], _, _, hv, _ => by cases hv; rfl
  | [], _, _ :: _, _, _, _, e => nomatch e
  | .d t :: pm, _, [], _, _, _, e => nomatch e
  | .d t :: pm, _, x :: args, h, hf, .cons hx hv, e => by
    simp only [flatPM, Bool.and_eq_true] at hf
    simp only [argsOf] at e
    split at e
    · rename_i y ey
      split at e
      · rename_i h' eh
        cases e
        rw [rep_valOf hf.1 (hx t y ey), args_vals pm _ args h' hf.2 hv eh]
        rfl
      · cases e
    · cases e
  | .iv _ _ :: _, _, _, _, hf, _, _ => nomatch hf
  | .fn _ :: _, _, _, _, hf, _, _ => nomatch hf
  | .ref _ :: _, _, _, _, hf, _, _ => nomatch hf
  | .clo _ _ :: _, _, _, _, hf, _, _ => nomatch hf
  | .gh _ _ :: _, _, _, _, hf, _, _ => nomatch hf
  | .mp _ _ :: _, _, _, _, hf, _, _ => nomatch hf

/-- A contract of the library as a summary. -/
theorem entry_extern (hS : SgOk C.S) {f : Nat} {fn : Func} (hf : P.funcs[f]? = some fn) (hn : (fn.name == "runtime.NumGoroutine") = false) (hb : fn.body.isSome = true) {pm : List PM} {rs : List Ty} (hp : flatPM pm = true) (hr : rs.all Ty.flat = true) {F : HL C.S.U (PM.tys pm) → Option (RT C.S.U rs)}
    (h : ∀ hh x w, F hh = some x → (∀ k ∈ C.S.gl, ∃ m, w.cell? ⟨k, 0, none⟩ = some (.int .i64 m)) → Calls P f (valsOf pm hh).toArray w fun e w' => e = .returned (ansOf (retVals rs x)) ∧ Grow w w') : (entryOf C.S pm rs F).Sound P C f := by
  refine ⟨fun ρ args st R r hrun c a w g vals hrel hv => ?_, entry_par⟩
  simp only [entryOf] at hrun
  split at hrun
  · rename_i hh eh
    obtain ⟨x, hx, hrun⟩ := Option.bind_eq_some_iff.1 hrun
    obtain ⟨g1, f1, f2, f3, f4⟩ := hrel.frzAs hS hv
    rw [hr] at hrun
    have hvals := args_vals pm vals args hh hp f4 eh
    subst hvals
    refine callOk_of_calls hf hn hb ((h hh x w hx fun k hk => (hrel.globW k hk).2).mono fun e w' he => ?_)
    obtain ⟨rfl, hg⟩ := he
    exact ⟨_, rfl, retAV rs x, st, g, hrun, hrel.world hg, repR_ans rs _ x (retVals_rep rs x hr), Ext.refl _ _, fun _ => Nat.le_refl _⟩
  · cases hrun
end
end Go.Proofs.Ytmjfjjnmdljkeaa.Lift
