/- Summaries of functions that the library gives a contract for: numbers, bools and strings in and out. Conditions: as each theorem states them. -/
import Derived.Test.YthmedjljckbidaaDoorLiftX
import Derived.Lib.Split
import Derived.Lib.SplitLaws
import Derived.Lib.Join
import Derived.Lib.AppendIntMem
import Derived.Lib.Atoi
import Derived.Laws.Externs
set_option linter.unusedVariables false
namespace Go.Proofs.YthmedjljckbidaaDoor.Lift
section
variable {P : Program} {C : Ctx}

def valOf {U : Nat → Type} : (t : Ty) → El U t → Value
  | .int k, n => .int k n
  | .bool, b => .bool b
  | .str, s => .string s
  | .sl _, _ => undef
  | .st _, _ => undef

def valsOf {U : Nat → Type} : (pm : List PM) → HL U (PM.tys pm) → List Value
  | [], _ => []
  | .d t :: r, h => valOf t h.1 :: valsOf r h.2
  | .iv _ _ :: r, h => undef :: valsOf r h.2
  | .fn _ :: r, h => undef :: valsOf r h
  | .ref _ :: r, h => undef :: valsOf r (HL.spl _ h).2
  | .clo _ _ :: r, h => undef :: valsOf r h
  | .gh _ _ :: r, h => valsOf r (HL.spl _ h).2
  | .mp _ _ :: r, h => undef :: valsOf r h.2.2
  | .rw _ _ :: r, h => undef :: valsOf r h.2
  | .nl :: r, h => undef :: valsOf r h

def flatPM : List PM → Bool
  | [] => true
  | .d t :: r => t.flat && flatPM r
  | _ => false

def retVals {U : Nat → Type} : (rs : List Ty) → RT U rs → List Value
  | [], _ => []
  | [t], x => [valOf t x]
  | t :: u :: ts, x => valOf t x.1 :: retVals (u :: ts) x.2

theorem valOf_rep {S : Sg} {M : Mm} {t : Ty} (ht : t.flat = true) (x : El S.U t) : RepV S M t (valOf t x) x := by
  cases t with
  | int k => exact .inr ⟨rfl, .int _ _⟩
  | bool => exact .inr ⟨rfl, .bool _⟩
  | str => exact .inr ⟨rfl, .str _⟩
  | sl t => cases ht
  | st n => cases ht

theorem rep_valOf {S : Sg} {M : Mm} {t : Ty} (ht : t.flat = true) {v : Value} {x : El S.U t} (h : RepV S M t v x) : v = valOf t x := by
  cases t with
  | int k =>
    rcases h with ⟨q, _⟩ | ⟨_, q⟩
    · cases q
    · cases q; rfl
  | bool =>
    rcases h with ⟨q, _⟩ | ⟨_, q⟩
    · cases q
    · cases q; rfl
  | str =>
    rcases h with ⟨q, _⟩ | ⟨_, q⟩
    · cases q
    · cases q; rfl
  | sl t => cases ht
  | st n => cases ht

theorem retVals_rep {S : Sg} {M : Mm} : ∀ (rs : List Ty) (x : RT S.U rs), rs.all Ty.flat = true → RepR S M rs (retVals rs x) x
  | [], _, _ => trivial
  | [t], x, h => valOf_rep (by simpa using h) x
  | t :: u :: ts, x, h => by
    simp only [List.all_cons, Bool.and_eq_true] at h
    exact ⟨valOf_rep h.1 x.1, retVals_rep (u :: ts) x.2 (by simpa using h.2)⟩

theorem args_vals {st : St C.S.U} {g : Gh} : ∀ (pm : List PM) (vals : List Value) (args : List (AV C.S.U)) (h : HL C.S.U (PM.tys pm)), flatPM pm = true → All2 (RdA C.S g st) vals args → argsOf C.S st pm args = some h → vals = valsOf pm h
  | [], _, [], _, _, hv, _ => by cases hv; rfl
  | [], _, _ :: _, _, _, _, e => nomatch e
  | .d t :: pm, _, [], _, _, _, e => nomatch e
  | .d t :: pm, _, x :: args, h, hf, .cons hx hv, e => by
    simp only [flatPM, Bool.and_eq_true] at hf
    simp only [argsOf] at e
    split at e
    · rename_i y ey
      split at e
      · rename_i h' eh
        cases e
        rw [rep_valOf hf.1 (hx t y ey), args_vals pm _ args h' hf.2 hv eh]
        rfl
      · cases e
    · cases e
  | .iv _ _ :: _, _, _, _, hf, _, _ => nomatch hf
  | .fn _ :: _, _, _, _, hf, _, _ => nomatch hf
  | .ref _ :: _, _, _, _, hf, _, _ => nomatch hf
  | .clo _ _ :: _, _, _, _, hf, _, _ => nomatch hf
  | .gh _ _ :: _, _, _, _, hf, _, _ => nomatch hf
  | .mp _ _ :: _, _, _, _, hf, _, _ => nomatch hf
  | .rw _ _ :: _, _, _, _, hf, _, _ => nomatch hf
  | .nl :: _, _, _, _, hf, _, _ => nomatch hf

/-- A contract of the library as a summary. -/
theorem entry_extern (hS : SgOk C.S) {f : Nat} {fn : Func} (hf : P.funcs[f]? = some fn) (hn : (fn.name == "runtime.NumGoroutine") = false) (hb : fn.body.isSome = true) {pm : List PM} {rs : List Ty} (hp : flatPM pm = true) (hr : rs.all Ty.flat = true) {F : HL C.S.U (PM.tys pm) → Option (RT C.S.U rs)}
    (h : ∀ hh x w, F hh = some x → (∀ k ∈ C.S.gl, C.S.gp k (cellsIn w.heap[k]?)) → Calls P f (valsOf pm hh).toArray w fun e w' => e = .returned (ansOf (retVals rs x)) ∧ Grow w w') : (entryOf C.S pm rs F).Sound P C f := by
  refine ⟨fun ρ args st R r hrun c a w g vals hrel hv => ?_, entry_par⟩
  simp only [entryOf] at hrun
  split at hrun
  · rename_i hh eh
    obtain ⟨x, hx, hrun⟩ := Option.bind_eq_some_iff.1 hrun
    obtain ⟨g1, f1, f2, f3, f4⟩ := hrel.frzAs hS hv
    rw [hr] at hrun
    have hvals := args_vals pm vals args hh hp f4 eh
    subst hvals
    refine callOk_of_calls hf hn hb ((h hh x w hx fun k hk => (hrel.globW k hk).2).mono fun e w' he => ?_)
    obtain ⟨rfl, hg⟩ := he
    exact ⟨_, rfl, retAV rs x, st, g, hrun, hrel.world hg, repR_ans rs _ x (retVals_rep rs x hr), Ext.refl _ _, fun _ => Nat.le_refl _⟩
  · cases hrun

/-- A function that the model answers itself. -/
theorem entry_here (hS : SgOk C.S) {f : Nat} {pm : List PM} {rs : List Ty} (hp : flatPM pm = true) (hr : rs.all Ty.flat = true) {F : HL C.S.U (PM.tys pm) → Option (RT C.S.U rs)}
    (h : ∀ hh x (w : World), F hh = some x → (callFunc f (valsOf pm hh).toArray).run P w = .ok (.value (ansOf (retVals rs x))) w) : (entryOf C.S pm rs F).Sound P C f := by
  refine ⟨fun ρ args st R r hrun c a w g vals hrel hv => ?_, entry_par⟩
  simp only [entryOf] at hrun
  split at hrun
  · rename_i hh eh
    obtain ⟨x, hx, hrun⟩ := Option.bind_eq_some_iff.1 hrun
    obtain ⟨g1, f1, f2, f3, f4⟩ := hrel.frzAs hS hv
    rw [hr] at hrun
    have hvals := args_vals pm vals args hh hp f4 eh
    subst hvals
    intro o a' next Q hnx
    rw [h hh x w hx]
    exact hnx _ _ ⟨retAV rs x, st, g, hrun, hrel, repR_ans rs _ x (retVals_rep rs x hr), Ext.refl _ _, fun _ => Nat.le_refl _⟩
  · cases hrun
def add64F (x y c : Int) : Option (Int × Int) := if 0 ≤ x ∧ 0 ≤ y ∧ 0 ≤ c ∧ c ≤ 1 then some ((x + y + c) % 18446744073709551616, (x + y + c) / 18446744073709551616) else none
theorem add64_sound (hS : SgOk C.S) {f : Nat} {fn : Func} (hf : P.funcs[f]? = some fn) (hn : (fn.name == "runtime.NumGoroutine") = false) (hb : fn.body.isNone = true) (h1 : Extern.findNext fn = none) (h2 : Extern.find fn = some add64Entry) :
    (entryOf C.S [.d (.int .u64), .d (.int .u64), .d (.int .u64)] [.int .u64, .int .u64] (fun h => add64F h.1 h.2.1 h.2.2.1)).Sound P C f := by
  refine entry_here hS rfl rfl fun hh x w hx => ?_
  obtain ⟨a, b, c, u⟩ := hh
  simp only [add64F] at hx
  split at hx
  · rename_i q
    cases hx
    have e : (valsOf [PM.d (.int .u64), .d (.int .u64), .d (.int .u64)] ((a, b, c, u) : HL C.S.U (PM.tys [PM.d (.int .u64), .d (.int .u64), .d (.int .u64)]))).toArray = #[.int .u64 a, .int .u64 b, .int .u64 c] := rfl
    rw [e, run_callFunc_extern hf hn hb h1 h2, run_add64 a b c q.1 q.2.1 q.2.2.1 q.2.2.2]
    rfl
  · cases hx

theorem RepR.mono {S : Sg} {M M' : Mm} (hM : Mle M M') : ∀ (rs : List Ty) (vs : List Value) (x : RT S.U rs), RepR S M rs vs x → RepR S M' rs vs x
  | [], [], _, _ => trivial
  | [t], [v], x, h => RepV.mono hM h
  | t :: u :: ts, v :: vs, x, h => ⟨RepV.mono hM h.1, RepR.mono hM (u :: ts) vs x.2 h.2⟩
  | [], _ :: _, _, h => h.elim
  | [_], [], _, h => h.elim
  | [_], _ :: _ :: _, _, h => h.elim
  | _ :: _ :: _, [], _, h => h.elim

/-- A contract whose results lie in part in new memory. -/
theorem entry_extern2 (hS : SgOk C.S) {f : Nat} {fn : Func} (hf : P.funcs[f]? = some fn) (hn : (fn.name == "runtime.NumGoroutine") = false) (hb : fn.body.isSome = true) {pm : List PM} {rs : List Ty} (hp : flatPM pm = true) (hr : rs.all Ty.flat = false) {F : HL C.S.U (PM.tys pm) → Option (RT C.S.U rs)}
    (h : ∀ hh x w, F hh = some x → (∀ k ∈ C.S.gl, C.S.gp k (cellsIn w.heap[k]?)) → Calls P f (valsOf pm hh).toArray w fun e w' => Grow w w' ∧ ∃ (N : Mm) (vs : List Value), e = .returned (ansOf vs) ∧ (∀ b cs, N b = some cs → w.heap.size ≤ b ∧ ∃ E fz, w'.heap[b]? = some (.cells cs E fz)) ∧ RepR C.S N rs vs x) : (entryOf C.S pm rs F).Sound P C f := by
  refine ⟨fun ρ args st R r hrun c a w g vals hrel hv => ?_, entry_par⟩
  simp only [entryOf] at hrun
  split at hrun
  · rename_i hh eh
    obtain ⟨x, hx, hrun⟩ := Option.bind_eq_some_iff.1 hrun
    obtain ⟨g1, f1, f2, f3, f4⟩ := hrel.frzAs hS hv
    rw [hr] at hrun
    have hvals := args_vals pm vals args hh hp f4 eh
    subst hvals
    refine callOk_of_calls hf hn hb ((h hh x w hx fun k hk => (hrel.globW k hk).2).mono fun e w' he => ?_)
    obtain ⟨hg, N, vs, rfl, hN, hR⟩ := he
    have r1 := f1.world hg
    have hnew : ∀ b cs, N b = some cs → g1.M b = none := fun b cs e => by
      cases q : g1.M b with
      | none => rfl
      | some z =>
        obtain ⟨E, fz, u⟩ := f1.agree b z q
        have := lt_of_heap u
        have := (hN b cs e).1
        omega
    have hM : Mle g1.M (fun b => (g1.M b).or (N b)) := fun b cs e => by show (g1.M b).or (N b) = some cs; rw [e]; rfl
    have hM2 : Mle N (fun b => (g1.M b).or (N b)) := fun b cs e => by show (g1.M b).or (N b) = some cs; rw [hnew b cs e, e]; rfl
    have hor : ∀ b cs, (g1.M b).or (N b) = some cs → g1.M b = some cs ∨ (g1.M b = none ∧ N b = some cs) := fun b cs e => by
      cases q : g1.M b with
      | none => rw [q] at e; exact .inr ⟨rfl, e⟩
      | some z => rw [q] at e; exact .inl e
    have r2 := r1.learn hM (fun b cs e => (hor b cs e).elim (fun q => r1.agree b cs q) fun q => (hN b cs q.2).2)
      (fun d j o b e m q => by
        show (g1.M b).or (N b) = none
        rw [(r1.own d j o b e m q).1]
        cases z : N b with
        | none => rfl
        | some cs =>
          have := (hN b cs z).1
          have := (f1.objs d j o e).lt m q
          omega)
      (fun b cs e => (hor b cs e).imp id fun q => .inl (Nat.le_trans hrel.ge (hN b cs q.2).1))
    refine ⟨_, rfl, retAV rs x, _, _, hrun, r2, repR_ans rs _ x (RepR.mono hM2 rs _ _ hR), ⟨f2.M.trans hM, f2.β, f2.γ, f2.τ⟩, fun d => ?_⟩
    show st.cnt d ≤ (frzAs args st).cnt d
    rw [(frzAs_cnt args st).1]; exact Nat.le_refl _
  · cases hrun

/-- The arguments of a contract. -/
def ArgsRep (S : Sg) (M : Mm) : (pm : List PM) → List Value → HL S.U (PM.tys pm) → Prop
  | [], [], _ => True
  | .d t :: r, v :: vs, h => RepV S M t v h.1 ∧ ArgsRep S M r vs h.2
  | _, _, _ => False
def datPM : List PM → Bool
  | [] => true
  | .d t :: r => datPM r
  | _ => false
theorem args_rep {st : St C.S.U} {g : Gh} : ∀ (pm : List PM) (vals : List Value) (args : List (AV C.S.U)) (h : HL C.S.U (PM.tys pm)), datPM pm = true → All2 (RdA C.S g st) vals args → argsOf C.S st pm args = some h → ArgsRep C.S g.M pm vals h
  | [], _, [], _, _, hv, _ => by cases hv; trivial
  | [], _, _ :: _, _, _, _, e => nomatch e
  | .d t :: pm, _, [], _, _, _, e => nomatch e
  | .d t :: pm, _, x :: args, h, hf, .cons hx hv, e => by
    simp only [datPM] at hf
    simp only [argsOf] at e
    split at e
    · rename_i y ey
      split at e
      · rename_i h' eh
        cases e
        exact ⟨hx t y ey, args_rep pm _ args h' hf hv eh⟩
      · cases e
    · cases e
  | .iv _ _ :: _, _, _, _, hf, _, _ => nomatch hf
  | .fn _ :: _, _, _, _, hf, _, _ => nomatch hf
  | .ref _ :: _, _, _, _, hf, _, _ => nomatch hf
  | .clo _ _ :: _, _, _, _, hf, _, _ => nomatch hf
  | .gh _ _ :: _, _, _, _, hf, _, _ => nomatch hf
  | .mp _ _ :: _, _, _, _, hf, _, _ => nomatch hf
  | .rw _ _ :: _, _, _, _, hf, _, _ => nomatch hf
  | .nl :: _, _, _, _, hf, _, _ => nomatch hf

/-- A contract over data, which answers numbers, bools and strings. -/
theorem entry_extern3 (hS : SgOk C.S) {f : Nat} {fn : Func} (hf : P.funcs[f]? = some fn) (hn : (fn.name == "runtime.NumGoroutine") = false) (hb : fn.body.isSome = true) {pm : List PM} {rs : List Ty} (hp : datPM pm = true) (hr : rs.all Ty.flat = true) {F : HL C.S.U (PM.tys pm) → Option (RT C.S.U rs)}
    (h : ∀ hh x w M vals, F hh = some x → (∀ k ∈ C.S.gl, C.S.gp k (cellsIn w.heap[k]?)) → (∀ b cs, M b = some cs → ∃ E fz, w.heap[b]? = some (.cells cs E fz)) → ArgsRep C.S M pm vals hh → Calls P f vals.toArray w fun e w' => e = .returned (ansOf (retVals rs x)) ∧ Grow w w') : (entryOf C.S pm rs F).Sound P C f := by
  refine ⟨fun ρ args st R r hrun c a w g vals hrel hv => ?_, entry_par⟩
  simp only [entryOf] at hrun
  split at hrun
  · rename_i hh eh
    obtain ⟨x, hx, hrun⟩ := Option.bind_eq_some_iff.1 hrun
    obtain ⟨g1, f1, f2, f3, f4⟩ := hrel.frzAs hS hv
    rw [hr] at hrun
    refine callOk_of_calls hf hn hb ((h hh x w g1.M vals hx (fun k hk => (hrel.globW k hk).2) f1.agree (args_rep pm vals args hh hp f4 eh)).mono fun e w' he => ?_)
    obtain ⟨rfl, hg⟩ := he
    exact ⟨_, rfl, retAV rs x, st, g, hrun, hrel.world hg, repR_ans rs _ x (retVals_rep rs x hr), Ext.refl _ _, fun _ => Nat.le_refl _⟩
  · cases hrun

/-! strings.Split, strings.Join. -/
def splitF (s sep : ByteArray) : Option (List ByteArray) := if s.size < 4294967281 ∧ 1 ≤ sep.size then some (Lib.splitB sep 0 (Lib.countB s sep) s) else none
def joinF (xs : List ByteArray) (sep : ByteArray) : Option ByteArray := if (Lib.join (xs.map (·.data.toList)) sep.data.toList).length ≤ 140737488355328 ∧ xs.length ≤ 140737488355328 then some ⟨(Lib.join (xs.map (·.data.toList)) sep.data.toList).toArray⟩ else none

theorem strs_rep {S : Sg} {M : Mm} {b : Nat} {xs : List ByteArray} (hM : M b = some (xs.map Value.string).toArray) : RepV S M (.sl .str) (.slice (some ⟨b, 0, none⟩) xs.length xs.length) xs := by
  refine .inr ⟨rfl, .sl .str b 0 xs.length _ xs hM (Nat.le_refl _) ?_ fun i hi => ?_⟩
  · have e : sz S dep .str = 1 := rfl
    simp [e]
  · have : seg (xs.map Value.string).toArray (0 + i * sz S dep .str) (sz S dep .str) = [.string xs[i]] := by
      simp only [seg, sz, Nat.zero_add, Nat.mul_one, dep]
      rw [List.drop_eq_getElem_cons (by simpa using hi)]
      simp
    rw [this]
    exact .str _

theorem split_sound (hS : SgOk C.S) {f : Nat} {fn : Func} (hf : P.funcs[f]? = some fn) (hn : (fn.name == "runtime.NumGoroutine") = false) (hb : fn.body.isSome = true) {kM E : Nat} (hk : ∀ w : World, (∀ k ∈ C.S.gl, C.S.gp k (cellsIn w.heap[k]?)) → ∃ m, w.cell? ⟨kM, 0, none⟩ = some (.int .i64 m))
    (H : ∀ (s sep : ByteArray) (m : Int) (w : World), s.size < 4294967281 → w.cell? ⟨kM, 0, none⟩ = some (.int .i64 m) → 1 ≤ sep.size → Calls P f #[.string s, .string sep] w fun e w' =>
      e = .returned (.slice (some ⟨w.heap.size, 0, none⟩) (Lib.countB s sep + 1) (Lib.countB s sep + 1)) ∧ w' = w.alloc (.cells ((Lib.splitB sep 0 (Lib.countB s sep) s).map Value.string).toArray E)) :
    (entryOf C.S [.d .str, .d .str] [.sl .str] (fun h => splitF h.1 h.2.1)).Sound P C f := by
  refine entry_extern2 hS hf hn hb rfl rfl fun hh x w hx hG => ?_
  unfold splitF at hx
  split at hx
  · rename_i c
    obtain rfl := Option.some.inj hx
    obtain ⟨m, hm⟩ := hk w hG
    refine (H hh.1 hh.2.1 m w c.1 hm c.2).mono fun e w' he => ?_
    obtain ⟨rfl, rfl⟩ := he
    have hl := Lib.splitB_all hh.2.1 c.2 0 _ hh.1 rfl
    refine ⟨Grow.alloc _ _, fun b => if b = w.heap.size then some ((Lib.splitB hh.2.1 0 (Lib.countB hh.1 hh.2.1) hh.1).map Value.string).toArray else none, [.slice (some ⟨w.heap.size, 0, none⟩) (Lib.countB hh.1 hh.2.1 + 1) (Lib.countB hh.1 hh.2.1 + 1)], rfl, fun b cs e => ?_, ?_⟩
    · have z : (if b = w.heap.size then some ((Lib.splitB hh.2.1 0 (Lib.countB hh.1 hh.2.1) hh.1).map Value.string).toArray else none) = some cs := e
      by_cases q : b = w.heap.size
      · rw [if_pos q] at z
        subst q
        obtain rfl := Option.some.inj z
        exact ⟨Nat.le_refl _, _, _, heap_alloc_new w _⟩
      · rw [if_neg q] at z; cases z
    · show RepV C.S _ (.sl .str) (.slice (some ⟨w.heap.size, 0, none⟩) (Lib.countB hh.1 hh.2.1 + 1) (Lib.countB hh.1 hh.2.1 + 1)) (Lib.splitB hh.2.1 0 (Lib.countB hh.1 hh.2.1) hh.1)
      have := strs_rep (S := C.S) (M := fun b => if b = w.heap.size then some ((Lib.splitB hh.2.1 0 (Lib.countB hh.1 hh.2.1) hh.1).map Value.string).toArray else none) (b := w.heap.size) (xs := Lib.splitB hh.2.1 0 (Lib.countB hh.1 hh.2.1) hh.1) (by simp)
      rw [hl] at this
      exact this
  · cases hx

theorem seg_one {cs : Array Value} {n : Nat} {v : Value} (h : seg cs n 1 = [v]) : cs[n]? = some v := by
  unfold seg at h
  rw [← Array.getElem?_toList]
  cases e : cs.toList.drop n with
  | nil => rw [e] at h; cases h
  | cons a r =>
    rw [e] at h
    have : a = v := by simpa using h
    subst this
    have := congrArg (·[0]?) e
    simpa using this

theorem join_sound (hS : SgOk C.S) {f : Nat} {fn : Func} (hf : P.funcs[f]? = some fn) (hn : (fn.name == "runtime.NumGoroutine") = false) (hb : fn.body.isSome = true)
    (H0 : ∀ (a : Option Addr) (c : Nat) (sep : ByteArray) (w : World), Calls P f #[.slice a 0 c, .string sep] w fun e w' => e = .returned (.string ⟨#[]⟩) ∧ w' = w)
    (H : ∀ (bk o c : Nat) (xs : List ByteArray) (sep : ByteArray) (w : World), (∀ (j : Nat) x, xs[j]? = some x → w.cell? ⟨bk, o + j, none⟩ = some (.string x)) → bk < w.heap.size → xs.length ≤ 140737488355328 → xs.length ≤ c → (Lib.join (xs.map (·.data.toList)) sep.data.toList).length ≤ 140737488355328 →
      Calls P f #[.slice (some ⟨bk, o, none⟩) xs.length c, .string sep] w fun e w' => e = .returned (.string ⟨(Lib.join (xs.map (·.data.toList)) sep.data.toList).toArray⟩) ∧ Go.RowKit.Below w.heap.size w w') :
    (entryOf C.S [.d (.sl .str), .d .str] [.str] (fun h => joinF h.1 h.2.1)).Sound P C f := by
  refine entry_extern3 hS hf hn hb rfl rfl fun hh x w M vals hx hG hM ha => ?_
  unfold joinF at hx
  split at hx
  · rename_i c
    obtain rfl := Option.some.inj hx
    obtain ⟨xs, sep, u⟩ := hh
    match vals, ha with
    | [v1, v2], ha =>
      obtain ⟨h1, h2, _⟩ := ha
      have e2 : v2 = .string sep := by
        rcases h2 with ⟨q, _⟩ | ⟨_, q⟩
        · cases q
        · cases q; rfl
      subst e2
      rcases h1 with ⟨q, _⟩ | ⟨_, q⟩
      · cases q
      · cases q with
        | nil t a cc =>
          refine (H0 a cc sep w).mono fun e w' he => ?_
          obtain ⟨rfl, rfl⟩ := he
          exact ⟨rfl, Grow.refl _⟩
        | sl t b off cc cs xs hMb hc hs hel =>
          obtain ⟨E, fz, hheap⟩ := hM b cs hMb
          refine (H b off cc xs sep w (fun j x hj => ?_) (lt_of_heap hheap) c.2 hc c.1).mono fun e w' he => ?_
          · obtain ⟨hlt, rfl⟩ := List.getElem?_eq_some_iff.1 hj
            rw [cell_of hheap]
            have := hel j hlt
            have e1 : sz C.S dep .str = 1 := rfl
            rw [e1, Nat.mul_one] at this
            generalize hq : seg cs (off + j) 1 = z at this
            cases this
            exact seg_one hq
          · obtain ⟨rfl, hbel⟩ := he
            exact ⟨rfl, Grow.of_below hbel⟩
  · cases hx

/-! strconv.Atoi, of a numeral. -/
def atoiF (s : ByteArray) : Option Int := if s.size ≤ 18 then Lib.atoi s.data.toList else none
def atoiE (S : Sg) : Entry S where
  run args st R := match argsOf S st [.d .str] args with
    | some h => (atoiF h.1).bind fun n => R (.tup [.v (.int .i64) n, .junk]) st
    | none => none
  flat := true
theorem Grow.bytes (w : World) (E : Nat) (s : ByteArray) : Grow w (Lib.bytesWorld w E s) := ⟨rfl, rfl, rfl, by rw [Lib.bytesWorld_size]; omega, fun k hk => Lib.bytesWorld_at_old w E s k hk⟩
theorem atoi_sound (hS : SgOk C.S) {f : Nat} {fn : Func} (hf : P.funcs[f]? = some fn) (hn : (fn.name == "runtime.NumGoroutine") = false) (hb : fn.body.isSome = true) {E : Nat}
    (H : ∀ (s : ByteArray) (n : Int) (w : World), s.size ≤ 18 → Lib.atoi s.data.toList = some n → Calls P f #[.string s] w fun e w' => e = .returned (.tuple #[.int .i64 n, .nilIface]) ∧ ∃ t, w' = Lib.bytesWorld w E t) : (atoiE C.S).Sound P C f := by
  refine ⟨fun ρ args st R r hrun c a w g vals hrel hv => ?_, fun args st st' hf h ρ R => ?_⟩
  · simp only [atoiE] at hrun
    split at hrun
    · rename_i hh eh
      obtain ⟨n, hx, hrun⟩ := Option.bind_eq_some_iff.1 hrun
      obtain ⟨g1, f1, f2, f3, f4⟩ := hrel.frzAs hS hv
      have hvals := args_vals [.d .str] vals args hh rfl f4 eh
      subst hvals
      unfold atoiF at hx
      split at hx
      · rename_i c1
        refine callOk_of_calls hf hn hb ((H hh.1 n w c1 hx).mono fun e w' he => ?_)
        obtain ⟨rfl, t, rfl⟩ := he
        exact ⟨_, rfl, _, st, g, hrun, hrel.world (Grow.bytes w E t), ⟨[.int .i64 n, .nilIface], rfl, .cons (.inr ⟨rfl, .int _ _⟩) (.cons trivial .nil)⟩, Ext.refl _ _, fun _ => Nat.le_refl _⟩
      · cases hx
    · cases hrun
  · simp only [atoiE]
    rw [argsOf_same (st := st) (st' := st') [.d .str] args h]
    cases argsOf C.S st [.d .str] args with
    | none => rfl
    | some hh =>
      simp only
      cases atoiF hh.1 with
      | none => rfl
      | some x => rfl
end
end Go.Proofs.YthmedjljckbidaaDoor.Lift
