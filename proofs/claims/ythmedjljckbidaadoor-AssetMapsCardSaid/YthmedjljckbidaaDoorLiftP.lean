/- One operation: the machine does what the evaluator says. Conditions: the types are the table's, the callees are sound. -/
import Derived.Test.YthmedjljckbidaaDoorLiftO
set_option linter.unusedVariables false
namespace Go.Proofs.YthmedjljckbidaaDoor.Lift
section
variable {P : Program} {C : Ctx} {c : Call} {st : St C.S.U} {a : Act} {w : World} {g : Gh} {ρ : Type}

/-- A call of a function, wherever it stands. -/
def CallOk (P : Program) (f : FuncId) (vals : Array Value) (w : World) (Post : Value → World → Prop) : Prop :=
  ∀ (o : Oper) (a : Act) (next : Act → World → Prop) (Q : Exit → Act → World → Prop), (∀ v w', Post v w' → next (a.put o.dst v) w') → o.upon P a next Q ((callFunc f vals).run P w)

theorem callOk_of_calls {f : FuncId} {fn : Func} (hf : P.funcs[f]? = some fn) (hn : (fn.name == "runtime.NumGoroutine") = false) (hb : fn.body.isSome = true) {vals : Array Value} {Post : Value → World → Prop}
    (h : Calls P f vals w fun e w' => ∃ v, e = .returned v ∧ Post v w') : CallOk P f vals w Post := by
  intro o a next Q hnx
  have : (callFunc f vals).run P w = .ok (.enter f vals) w := by
    have hb' : fn.body.isNone = false := by cases hq : fn.body <;> simp_all
    simp only [callFunc, Sem.run_bind, run_program, Result.andThen_ok, hf, hn, hb', Bool.false_eq_true, if_false, Sem.run_pure]
  rw [this, Oper.upon_enter]
  refine h.mono fun e w' he => ?_
  obtain ⟨v, rfl, hp⟩ := he
  exact hnx v w' hp

/-- A value that is known whole. -/
def flatL {U : Nat → Type} : LV U → Option Value
  | .v (.int k) n => some (.int k n)
  | .v .bool b => some (.bool b)
  | .v .str s => some (.string s)
  | _ => none
def flatLs {U : Nat → Type} : List (LV U) → Option (List Value)
  | [] => some []
  | x :: l => match flatL x, flatLs l with
    | some v, some vs => some (v :: vs)
    | _, _ => none
def flatA {U : Nat → Type} : AV U → Option Value
  | .l x => flatL x
  | .tup xs => (flatLs xs).map fun vs => .tuple vs.toArray
  | _ => none

theorem flatL_sound {g : Gh} {m : Nat → Nat → Option (Obj' C.S.U)} {cnt : Nat → Nat} {v u : Value} {x : LV C.S.U} (h : RepL g m cnt v x) (e : flatL x = some u) : v = u := by
  unfold flatL at e
  split at e
  · cases e
    have h : RepV C.S g.M (.int _) v _ := h
    rcases h with ⟨q, _⟩ | ⟨_, q⟩
    · cases q
    · cases q; rfl
  · cases e
    have h : RepV C.S g.M .bool v _ := h
    rcases h with ⟨q, _⟩ | ⟨_, q⟩
    · cases q
    · cases q; rfl
  · cases e
    have h : RepV C.S g.M .str v _ := h
    rcases h with ⟨q, _⟩ | ⟨_, q⟩
    · cases q
    · cases q; rfl
  · cases e
theorem flatLs_sound {g : Gh} {m : Nat → Nat → Option (Obj' C.S.U)} {cnt : Nat → Nat} : ∀ {vs us : List Value} {xs : List (LV C.S.U)}, All2 (RepL g m cnt) vs xs → flatLs xs = some us → vs = us
  | [], us, [], .nil, e => by cases e; rfl
  | v :: vs, us, x :: xs, .cons h t, e => by
    simp only [flatLs] at e
    split at e
    · rename_i u us' e1 e2
      cases e
      rw [flatL_sound h e1, flatLs_sound t e2]
    · cases e
theorem flatA_sound {g : Gh} {m : Nat → Nat → Option (Obj' C.S.U)} {cnt : Nat → Nat} {v u : Value} {x : AV C.S.U} (h : RepA g m cnt v x) (e : flatA x = some u) : v = u := by
  cases x with
  | l x => exact flatL_sound h e
  | tup xs =>
    obtain ⟨us, e1, e2⟩ := Option.map_eq_some_iff.1 e
    obtain ⟨vs, rfl, h2⟩ := h
    rw [flatLs_sound h2 e1, ← e2]
  | ifv T x => cases e
  | ag n cs => cases e

/-- A summary of a function that holds of the machine. -/
structure Entry.Sound (P : Program) (C : Ctx) (f : Nat) (e : Entry C.S) : Prop where
  call : ∀ (ρ : Type) (args : List (AV C.S.U)) (st : St C.S.U) (R : AV C.S.U → St C.S.U → Option ρ) (r : ρ), e.run args st R = some r → ∀ (c : Call) (a : Act) (w : World) (g : Gh) (vals : List Value), Rel c st a w g → All2 (RepA g st.mem st.cnt) vals args →
    CallOk P f vals.toArray w fun v w' => ∃ z st' g', R z st' = some r ∧ Rel c st' a w' g' ∧ RepA g' st'.mem st'.cnt v z ∧ Ext g g' st.cnt ∧ ∀ d, st.cnt d ≤ st'.cnt d
  par : ∀ (args : List (AV C.S.U)) (st st' : St C.S.U), (e.flat = true ∨ ∀ x ∈ args, keyless x = true) → (∀ x ∈ args, ∀ k ∈ keysA x, ∀ j, SameAt (st'.mem k.1 j) (st.mem k.1 j)) → ∀ (ρ : Type) (R : AV C.S.U → St C.S.U → Option ρ), e.run args st' R = (e.run args st fun z _ => some z).bind fun z => R z st'

def OracleOk (P : Program) (C : Ctx) (O : Oracle C.S) : Prop := ∀ f e, O f = some e → e.Sound P C f

/-- All that the evaluator leans on. -/
structure Base (P : Program) (C : Ctx) : Prop where
  S : SgOk C.S
  T : TyOk P C
  E : EqOk P C

theorem wp_value {o : Oper} {next : Act → World → Prop} {Q : Exit → Act → World → Prop} {v : Value} {w' : World} (h : (execOp a.eval o).run P w = .ok (.value v) w') (k : next (a.put o.dst v) w') : o.wp P a w next Q := by
  unfold Oper.wp; rw [h]; exact k
theorem wp_skip' {o : Oper} {next : Act → World → Prop} {Q : Exit → Act → World → Prop} {w' : World} (h : (execOp a.eval o).run P w = .ok .skip w') (k : next (a.put o.dst undef) w') : o.wp P a w next Q := by
  unfold Oper.wp; rw [h]; exact k

theorem opds_sound (hr : Rel c st a w g) {cx : List (Nat × Nat × Bool)} (hc : Holds g cx) (T : Nat) : ∀ xs : List Operand, All2 (RepA g st.mem st.cnt) (xs.map a.eval) (xs.map (opd C cx T st))
  | [] => .nil
  | x :: xs => .cons (opd_sound hr hc T x) (opds_sound hr hc T xs)
theorem opdL_sound (hr : Rel c st a w g) {cx : List (Nat × Nat × Bool)} (hc : Holds g cx) (T : Nat) : ∀ xs : List Operand, All2 (RepL g st.mem st.cnt) (xs.map a.eval) (xs.map fun x => avL (opd C cx T st x))
  | [] => .nil
  | x :: xs => .cons (avL_sound (opd_sound hr hc T x)) (opdL_sound hr hc T xs)
theorem opdP_sound (hr : Rel c st a w g) {cx : List (Nat × Nat × Bool)} (hc : Holds g cx) : ∀ xs : List (Nat × Operand), All2 (fun p q => p.1 = q.1 ∧ RepA g st.mem st.cnt p.2 q.2) (xs.map fun p => (p.1, a.eval p.2)) (xs.map fun p => (p.1, opd C cx 0 st p.2))
  | [] => .nil
  | x :: xs => .cons ⟨rfl, opd_sound hr hc 0 x.2⟩ (opdP_sound hr hc xs)

/-- What the evaluator hands on, and what is known then. -/
def Hands (o : Oper) (c : Call) (st : St C.S.U) (a : Act) (w : World) (g : Gh) (R : AV C.S.U → St C.S.U → Option ρ) (r : ρ) (v : Value) (w' : World) : Prop :=
  (stillOp o.op = true → w' = w) ∧ ∃ z st' g', R z st' = some r ∧ Rel c st' a w' g' ∧ RepA g' st'.mem st'.cnt v z ∧ Ext g g' st.cnt ∧ ∀ d, st.cnt d ≤ st'.cnt d

theorem Hands.same {o : Oper} (hr : Rel c st a w g) {R : AV C.S.U → St C.S.U → Option ρ} {r : ρ} {v : Value} {z : AV C.S.U} (h : R z st = some r) (hz : RepA g st.mem st.cnt v z) : Hands o c st a w g R r v w :=
  ⟨fun _ => rfl, z, st, g, h, hr, hz, Ext.refl _ _, fun _ => Nat.le_refl _⟩

theorem Hands.cont {o : Oper} {next : Act → World → Prop} {Q : Exit → Act → World → Prop} {R : AV C.S.U → St C.S.U → Option ρ} {r : ρ} (hn : ∀ v w', Hands o c st a w g R r v w' → next (a.put o.dst v) w') {v : Value} {w' : World}
    (h : (execOp a.eval o).run P w = .ok (.value v) w') (k : Hands o c st a w g R r v w') : o.wp P a w next Q := wp_value h (hn v w' k)

theorem run_mapM {α β : Type} {f : α → Sem β} {h : α → β} : ∀ l : List α, (∀ x ∈ l, (f x).run P w = .ok (h x) w) → (l.mapM f).run P w = .ok (l.map h) w
  | [], _ => by simp
  | x :: l, hl => by
    simp only [List.mapM_cons, Sem.run_bind, hl x (List.mem_cons_self ..), Result.andThen_ok, run_mapM l (fun y hy => hl y (List.mem_cons_of_mem _ hy)), Sem.run_pure, List.map_cons]

theorem capsK_sound : ∀ (us : List Value) (xs : List (LV C.S.U)) (l : List (Nat × Nat × Nat)), All2 (RepL g st.mem st.cnt) us xs → capsK xs = some l → All2 (fun u (c : Nat × Nat × Nat) => c.2.1 ≤ st.cnt c.1 ∧ ∃ b, g.β c.1 c.2.1 = some b ∧ u = ptr b c.2.2) us l
  | _, [], l, h, e => by
    cases h
    cases e
    exact .nil
  | _, x :: xs, l, h, e => by
    cases h with
    | cons hu hus =>
      cases x with
      | ref d j o =>
        simp only [capsK] at e
        cases e1 : capsK xs with
        | none => rw [e1] at e; cases e
        | some r => rw [e1] at e; cases e; exact .cons hu (capsK_sound _ xs r hus e1)
      | _ => cases e

theorem szL_le {g : Ty → Nat} : ∀ {ts : List Ty} {i : Nat} {t : Ty}, ts[i]? = some t → szL g (ts.take i) + g t ≤ szL g ts
  | [], i, t, h => by simp at h
  | u :: ts, 0, t, h => by simp at h; subst h; simp [szL]
  | u :: ts, i + 1, t, h => by
    have := szL_le (g := g) (ts := ts) (i := i) (t := t) (by simpa using h)
    simp [szL]; omega

theorem opK_sound (B : Base P C) {O : Oracle C.S} (hO : OracleOk P C O) {o : Oper} (hr : Rel c st a w g) {cx : List (Nat × Nat × Bool)} (hc : Holds g cx) {R : AV C.S.U → St C.S.U → Option ρ} {r : ρ} (h : opK C O cx o st R = some r)
    {next : Act → World → Prop} {Q : Exit → Act → World → Prop} (hn : ∀ v w', Hands o c st a w g R r v w' → next (a.put o.dst v) w') : o.wp P a w next Q := by
  have V := fun (T : Nat) (x : Operand) => opd_sound (C := C) hr hc T x
  have L := fun (T : Nat) (x : Operand) => avL_sound (V T x)
  have oneAlloc : ∀ {T : Nat}, o.op = .alloc T → (∃ i z, P.info? T = some i ∧ i.zero = some z ∧ z.oneCell' = true) → newK o.dst (.box [.junk]) (fun d j => .ref d j 0) st R = some r → o.wp P a w next Q := fun {T} e ⟨i, z, hi, hz, h1⟩ h => by
    have hc : z.cells = #[z] := by cases z <;> first | rfl | (simp [Value.oneCell'] at h1)
    obtain ⟨z', st', g', k1, k2, k3, k4, k5⟩ := newBox (E := T) hr (cs := #[z]) (ys := [.junk]) (.cons trivial .nil) (fun u hu => by simp at hu; subst hu; exact h1) h
    refine Hands.cont hn (v := ptr w.heap.size 0) (w' := w.alloc (.cells #[z] T)) ?_ ⟨fun q => by simp [e, stillOp] at q, z', st', g', k1, k2, k3, k4, k5⟩
    simp [execOp, e, Instr.alloc, run_zero hi hz, newVar, newRow, ptr, hc]
  unfold opK at h
  split at h
  · -- move
    rename_i x e
    exact Hands.cont hn (v := a.eval x) (by simp [execOp, e]) (.same hr h (V _ x))
  · -- assign
    rename_i x e
    exact Hands.cont hn (v := a.eval x) (by simp [execOp, e]) (.same hr h (V _ x))
  · -- pick
    rename_i x y z e
    obtain ⟨q, p, h1, h2, h3⟩ := pickK_sound (P := P) (w := w) (L 0 x) (L _ y) (L _ z) h
    refine Hands.cont hn (v := q) ?_ (.same hr h2 h3)
    simp only [execOp, e, Sem.run_bind]
    simp only [Sem.run_bind] at h1
    cases hq : (asBool (a.eval x)).run P w with
    | ok b w1 => rw [hq] at h1; simp only [Result.andThen_ok, Sem.run_pure] at h1 ⊢; cases h1; rfl
    | halt _ _ => rw [hq] at h1; cases h1
  · -- alloc
    rename_i T e
    split at h
    · rename_i t _ _ eT
      obtain ⟨D⟩ := B.T.data eT
      have hz := zvals_zcells (S := C.S) (g := g) (m := st.mem) (cnt := st.cnt) dep t
      obtain ⟨z, st', g', k1, k2, k3, k4, k5⟩ := newBox (E := T) hr (cs := D.zv.cells) (by rw [D.hzc]; exact hz) (by rw [D.hzc]; exact zvals_one dep t) h
      refine Hands.cont hn (v := ptr w.heap.size 0) (w' := w.alloc (.cells D.zv.cells T)) ?_ ⟨fun q => by simp [e, stillOp] at q, z, st', g', k1, k2, k3, k4, k5⟩
      simp [execOp, e, Instr.alloc, run_zero D.hi D.hz, newVar, newRow, ptr]
    · rename_i t n _ eT
      obtain ⟨_, _, i, z0, hi, hz0, hzc⟩ := B.T.arr eT
      have hz := zvals_zcells (S := C.S) (g := g) (m := st.mem) (cnt := st.cnt) dep t
      have hrep : ∀ n : Nat, All2 (RepL g st.mem st.cnt) (List.replicate n (zvals C.S dep t)).flatten (List.replicate n (zcells C.S dep t)).flatten := by
        intro n
        induction n with
        | zero => exact .nil
        | succ n ih => rw [List.replicate_succ, List.replicate_succ, List.flatten_cons, List.flatten_cons]; exact hz.append ih
      obtain ⟨z, st', g', k1, k2, k3, k4, k5⟩ := newBox (E := T) hr (cs := z0.cells) (by rw [hzc]; exact hrep n) (by
        rw [hzc]
        intro u hu
        obtain ⟨l, hl, hul⟩ := List.mem_flatten.1 hu
        rw [List.eq_of_mem_replicate hl] at hul
        exact zvals_one dep t u hul) h
      refine Hands.cont hn (v := ptr w.heap.size 0) (w' := w.alloc (.cells z0.cells T)) ?_ ⟨fun q => by simp [e, stillOp] at q, z, st', g', k1, k2, k3, k4, k5⟩
      simp [execOp, e, Instr.alloc, run_zero hi hz0, newVar, newRow, ptr]
    · rename_i eT
      obtain ⟨i, z, hi, hz, hc⟩ := B.T.b eT
      obtain ⟨z', st', g', k1, k2, k3, k4, k5⟩ := newBld (T := T) hr h
      refine Hands.cont hn (v := ptr w.heap.size 0) (w' := w.alloc (.cells #[.pointer none, .slice none 0 0] T)) ?_ ⟨fun q => by simp [e, stillOp] at q, z', st', g', k1, k2, k3, k4, k5⟩
      simp [execOp, e, Instr.alloc, run_zero hi hz, newVar, newRow, ptr, hc]
    · rename_i eT
      exact oneAlloc e (B.T.zo (.inl eT)) h
    · rename_i k e' eT
      exact oneAlloc e (B.T.zo (.inr ⟨k, e', eT⟩)) h
    · cases h
  · -- box
    rename_i T x e
    obtain ⟨ys, h, k1, k2, _⟩ := cellsOf_sound B.S B.T (V T x) h
    obtain ⟨z, st', g', j1, j2, j3, j4, j5⟩ := newBox (E := T) hr k1 k2 h
    refine Hands.cont hn (v := ptr w.heap.size 0) (w' := w.alloc (.cells (a.eval x).cells T)) ?_ ⟨fun q => by simp [e, stillOp] at q, z, st', g', j1, j2, j3, j4, j5⟩
    simp [execOp, e, Instr.box, newVar, newRow, ptr]
  · -- build
    rename_i T ps e
    split at h
    · rename_i n _ _ eT
      obtain ⟨D⟩ := B.T.data eT
      obtain ⟨fs, f1, f2, f3⟩ := B.T.st eT
      cases hb : (incrB 0 (ps.toList.map fun p => p.1) && ps.toList.all fun p => Nat.blt p.1 (C.S.fl n).length) with
      | false => rw [hb] at h; cases h
      | true =>
      rw [hb] at h
      simp only [cond_true] at h
      simp only [Bool.and_eq_true, List.all_eq_true] at hb
      obtain ⟨hb1, hb2⟩ := hb
      split at h
      · rename_i cs ec
        have hv := opdP_sound (C := C) hr hc ps.toList
        have hi : incrB 0 ((ps.toList.map fun p => (p.1, opd C cx 0 st p.2)).map (·.1)) = true := by rw [List.map_map]; exact hb1
        obtain ⟨k1, k2, k3, k4⟩ := buildC_sound B.S (C.S.fl n) 0 _ _ _ cs hv hi (fun _ _ => rfl) ec
        have hzc : D.zv.cells.toList = ((C.S.fl n).map (zvals C.S dep)).flatten := by rw [D.hzc, B.S.zv]
        have hlz : ∀ t, (zvals C.S dep t).length = sz C.S dep t := fun t => by rw [(zvals_zcells (S := C.S) (g := g) (m := st.mem) (cnt := st.cnt) dep t).length, zcells_len]
        have hszt : ∀ ts : List Ty, ((ts.map (zvals C.S dep)).flatten).length = szL (sz C.S dep) ts := fun ts => by
          induction ts with
          | nil => rfl
          | cons t ts ih => simp [szL, hlz, ih]
        have hplaces : (fs.mapM fun f => (do pure (f.offset, ← sizeOf f.type) : Sem (Nat × Nat))).run P w = .ok (fs.map fun f => (f.offset, P.cellsOf f.type)) w := by
          rw [Array.mapM_eq_mapM_toList]
          simp only [Sem.run_map]
          rw [run_mapM (h := fun f => (f.offset, P.cellsOf f.type)) fs.toList (fun x hx => by
            obtain ⟨i, hi, rfl⟩ := List.getElem_of_mem hx
            rw [Array.length_toList] at hi
            have hi2 : i < (C.S.fl n).length := by rw [← f2]; exact hi
            obtain ⟨fd, q1, ⟨F⟩⟩ := f3 i _ (List.getElem?_eq_getElem hi2)
            have : fs.toList[i]'(by simpa using hi) = fd := by
              rw [Array.getElem?_eq_getElem hi] at q1
              simpa using Option.some.inj q1
            rw [this]
            simp [run_size F.data.hi, Program.cellsOf, F.data.hi])]
          simp only [Result.andThen_ok]
          congr 1
          apply Array.ext'
          simp
        have hfill := fill_sound ((fs.map fun f => (f.offset, P.cellsOf f.type))[·]?) ((C.S.fl n).map (zvals C.S dep)) 0 [] (ps.toList.map fun p => (p.1, a.eval p.2)) (fun k s hs => by
          rw [List.getElem?_map] at hs
          cases ht : (C.S.fl n)[k]? with
          | none => rw [ht] at hs; cases hs
          | some t =>
            rw [ht] at hs
            cases hs
            obtain ⟨fd, q1, ⟨F⟩⟩ := f3 k t ht
            rw [Nat.zero_add, Array.getElem?_map, q1, Option.map_some, F.off, ← List.map_take, hszt, hlz]
            simp [Program.cellsOf, F.data.hi, F.data.hs]) (ge_of_incr (fun _ _ h => h.1) hv 0 hi).1 (fun p hp => by
          obtain ⟨q, hq, rfl⟩ := List.mem_map.1 hp
          have hlt : q.1 < (C.S.fl n).length := by simpa using hb2 q hq
          obtain ⟨t, t1, t2⟩ := k3 _ hp (by simpa using hlt)
          have t1' : (C.S.fl n)[q.1]? = some t := t1
          exact ⟨zvals C.S dep t, by simpa using hlt, by show ((C.S.fl n).map (zvals C.S dep))[q.1]? = _; rw [List.getElem?_map, t1']; rfl, by rw [t2, hlz]⟩)
        simp only [List.nil_append] at hfill
        rw [← hzc, Array.toArray_toList] at hfill
        refine Hands.cont hn (v := .agg (over 0 ((C.S.fl n).map (zvals C.S dep)) (ps.toList.map fun p => (p.1, a.eval p.2))).flatten.toArray) (w' := w) ?_ (.same hr h ⟨_, rfl, k1, by rw [k1.length, k4, B.S.sz], k2⟩)
        simp only [execOp, e, Sem.run_bind]
        have hrun : (Instr.build T (ps.map fun p => (p.1, a.eval p.2))).run P w = .ok (.agg (over 0 ((C.S.fl n).map (zvals C.S dep)) (ps.toList.map fun p => (p.1, a.eval p.2))).flatten.toArray) w := by
          simp only [Instr.build, Sem.run_bind, run_zero D.hi D.hz, Result.andThen_ok, run_underlying f1, hplaces]
          rw [Array.toList_map, hfill]
          rfl
        rw [hrun]
        rfl
      · cases h
    · cases h
  · -- buildSlice
    rename_i T n ps e
    split at h
    · rename_i t eb E eT
      cases hb : (incrB 0 (ps.toList.map fun p => p.1) && (ps.toList.all fun p => Nat.blt p.1 n) && Nat.ble (n * sz C.S dep t) 16777216) with
      | false => rw [hb] at h; cases h
      | true =>
      rw [hb] at h
      simp only [cond_true] at h
      simp only [Bool.and_eq_true, List.all_eq_true] at hb
      obtain ⟨⟨hb1, hb2⟩, hb3⟩ := hb
      split at h
      · rename_i l el
        have hv := opdP_sound (C := C) hr hc ps.toList
        have hi : incrB 0 ((ps.toList.map fun p => (p.1, opd C cx 0 st p.2)).map (·.1)) = true := by rw [List.map_map]; exact hb1
        have hfr : (ps.toList.map fun p => opd C cx 0 st p.2) = (ps.toList.map fun p => (p.1, opd C cx 0 st p.2)).map (·.2) := by rw [List.map_map]; rfl
        rw [hfr] at h
        obtain ⟨q, y, st', g', w', k1, k2, k3, k4, k5, k6⟩ := buildSlice_sound (n := n) (vs := ps.map fun p => (p.1, a.eval p.2)) B.S B.T hr eT (by rw [Array.toList_map]; exact hv) hi (fun p hp => by
          rw [Array.toList_map] at hp
          obtain ⟨p', hp', rfl⟩ := List.mem_map.1 hp
          simpa using hb2 p' hp') (Nat.le_of_ble_eq_true hb3) el h
        refine Hands.cont hn (v := q) (w' := w') ?_ ⟨fun q => by simp [e, stillOp] at q, y, st', g', k2, k3, k4, k5, k6⟩
        simp only [execOp, e, Sem.run_bind]
        rw [show (Instr.buildSlice T n (ps.map fun p => (p.1, a.eval p.2))).run P w = _ from k1]
        rfl
      · cases h
    · cases h
  · -- load
    rename_i T x e
    obtain ⟨u, y, k1, k2, k3⟩ := loadK_sound B.S B.T hr (L 0 x) h
    exact Hands.cont hn (v := u) (by simp [execOp, e, k1]) (.same hr k2 k3)
  · -- store
    rename_i T p x e
    obtain ⟨st', g', w', k1, k2, k3, k4, k5⟩ := storeK_sound B.S B.T hr (L 0 p) (V T x) h
    exact wp_skip' (w' := w') (by simp [execOp, e, k1]) (hn undef w' ⟨fun q => by simp [e, stillOp] at q, _, st', g', k2, k3, rfl, k4, fun d => Nat.le_of_eq (congrFun k5.symm d)⟩)
  · -- nilCheck
    rename_i x e
    have hx := L 0 x
    have run : ∀ v, a.eval x = v → (∀ n fs cs, v ≠ .func (.method n) fs cs) → (v ≠ .pointer none ∧ v ≠ .nilIface ∧ v ≠ .nilFunc) → (execOp a.eval o).run P w = .ok (.value v) w := by
      intro v hv h1 h2
      simp only [execOp, e, hv]
      cases v with
      | pointer p => cases p with
        | none => exact absurd rfl h2.1
        | some q => rfl
      | func f fs cs => cases f with
        | method n => exact absurd rfl (h1 n fs cs)
        | _ => rfl
      | nilIface => exact absurd rfl h2.2.1
      | nilFunc => exact absurd rfl h2.2.2
      | _ => rfl
    split at h
    · rename_i d j f ex
      rw [ex] at hx
      obtain ⟨h1, b, hb, hv⟩ := hx
      exact Hands.cont hn (run _ hv (by intros; unfold ptr; simp) (by unfold ptr; simp)) (.same hr h ⟨h1, b, hb, rfl⟩)
    · rename_i t y ex
      rw [ex] at hx
      obtain ⟨b, off, cs, hv, h2⟩ := hx
      exact Hands.cont hn (run _ hv (by intros; unfold ptr; simp) (by unfold ptr; simp)) (.same hr h ⟨b, off, cs, rfl, h2⟩)
    · rename_i d j i fs ex
      rw [ex] at hx
      obtain ⟨h1, ⟨q, p, hv⟩, h2⟩ := hx
      exact Hands.cont hn (run _ hv (by intros; unfold ptr; simp) (by unfold ptr; simp)) (.same hr h ⟨h1, ⟨q, p, rfl⟩, by rw [← hv]; exact h2⟩)
    · rename_i f cs ex
      rw [ex] at hx
      obtain ⟨us, hv, h2⟩ := hx
      exact Hands.cont hn (run _ hv (by intros; simp) (by simp)) (.same hr h ⟨us, rfl, h2⟩)
    · cases h
  · -- binOp
    rename_i op T x y yT e
    split at h
    · rename_i n _ _ eT
      cases hm : memB T C.eqs with
      | false => rw [hm] at h; cases h
      | true =>
      rw [hm] at h
      simp only [cond_true] at h
      obtain ⟨q1, q2⟩ := B.E T n _ _ hm eT
      split at h
      · rename_i p q ep eq
        obtain ⟨g1, f1, f2, f3, f4⟩ := hr.frzA B.S (V T x)
        obtain ⟨g2, j1, j2, j3, j4⟩ := f1.frzA B.S (RepA.mono f2 (frzA_memle st _ _) (fun d => Nat.le_of_eq (congrFun (frzA_cnt st _).1.symm d)) (V T y))
        have hp := (f4 _ _ ep).mono j2.M
        have hq := j4 _ _ ((toA_frzA st _ _ _).trans eq)
        obtain ⟨cx', hx'⟩ : ∃ cs, a.eval x = .agg cs := by
          rcases hp with ⟨_, cs, e, _⟩ | ⟨q, _⟩
          · exact ⟨cs, e⟩
          · cases q
        obtain ⟨cy', hy'⟩ : ∃ cs, a.eval y = .agg cs := by
          rcases hq with ⟨_, cs, e, _⟩ | ⟨q, _⟩
          · exact ⟨cs, e⟩
          · cases q
        have key : ∀ b, eqEl C.S dep (.st n) p q = some b → (Op.equalIn 10000 T (a.eval x) (a.eval y)).run P w = .ok b w := fun b eb => eqEl_sound B.S dep 9999 T (.st n) _ _ p q b (by decide) q1 hp hq eb
        rw [hx', hy'] at key
        split at h
        · rename_i b eb
          refine Hands.cont hn (v := .bool b) (w' := w) ?_ (.same hr h (rep_bool (st := st) b))
          simp only [execOp, e, hx', hy', Sem.run_bind, run_eqGuard_agg w _ T x y _ _ q2, Result.andThen_ok, run_eql_struct, key b eb, Sem.run_pure]
        · rename_i b eb
          refine Hands.cont hn (v := .bool (!b)) (w' := w) ?_ (.same hr h (rep_bool (st := st) (!b)))
          simp only [execOp, e, hx', hy', Sem.run_bind, run_eqGuard_agg w _ T x y _ _ q2, Result.andThen_ok, run_neq_struct, key b eb, Sem.run_pure]
        · cases h
      · cases h
    · cases hT : binT C T op (avL (opd C cx T st x)) (avL (opd C cx T st y)) with
      | false => rw [hT] at h; cases h
      | true =>
      rw [hT] at h
      simp only [cond_true] at h
      unfold binT at hT
      obtain ⟨q, z, k1, k2, k3⟩ := binOpK_sound (P := P) (w := w) (T := T) (X := x) (L T x) (L T y) (fun k n e => by rw [e]; rfl) (fun hb => by
        split at hT
        · rename_i ex ey
          rw [ex] at hb
          cases hb
        · cases hq : asB (avL (opd C cx T st x)) with
          | none => rw [hq] at hb; cases hb
          | some b =>
            rw [hq] at hT
            simp only at hT
            split at hT
            · rename_i eT
              exact TyOk.bool B.T eT
            · cases hT) (fun k m k' n ex ey => by
        rw [ex, ey] at hT
        cases op <;> first | exact .inl rfl | exact .inr (.inl rfl) | exact .inr (.inr (by simpa using hT))) h
      exact Hands.cont hn (v := q) (by
        have k1 := k1
        simp only [BinOk, Sem.run_bind] at k1
        simp only [execOp, e, Sem.run_bind]
        cases q1 : (eqGuard op T x y (a.eval x) (a.eval y)).run P w with
        | ok _ w1 =>
          rw [q1] at k1
          simp only [Result.andThen_ok] at k1 ⊢
          rw [k1]; rfl
        | halt _ _ => rw [q1] at k1; cases k1) (.same hr k2 k3)
  · -- unOp
    rename_i op T x e
    obtain ⟨q, z, k1, k2, k3⟩ := unOpK_sound (P := P) (w := w) (L 0 x) h
    exact Hands.cont hn (v := q) (by simp [execOp, e, k1]) (.same hr k2 k3)
  · -- convert
    rename_i src dst x e
    obtain ⟨q, y, st', g', w', k1, k2⟩ := convertK_sound B.T hr (L 0 x) h
    exact Hands.cont hn (v := q) (w' := w') (by simp [execOp, e, k1]) ⟨fun q => by simp [e, stillOp] at q, y, st', g', k2⟩
  · -- makeInterface
    rename_i T x e
    split at h
    · rename_i t _ _ eT
      obtain ⟨d, hd, hdi⟩ := B.T.desc eT
      split at h
      · rename_i y ey
        obtain ⟨g', f1, f2, f3, f4⟩ := hr.frzA B.S (V T x)
        refine Hands.cont hn (v := .iface T (a.eval x)) (w' := w) ?_ ⟨fun q => by simp [e, stillOp] at q, _, _, g', h, f1, ⟨_, rfl, f4 t y ey⟩, f2, fun d => Nat.le_of_eq (congrFun (frzA_cnt st _).1.symm d)⟩
        simp only [execOp, e, Instr.makeInterface, Sem.run_bind, run_underlying hd, Result.andThen_ok]
        cases d <;> first | rfl | (cases t <;> simp [descIs] at hdi)
      · cases h
    · cases h
  · -- makeFunc
    rename_i fn first caps e
    unfold makeFuncK at h
    split at h
    · rename_i f
      split at h
      · rename_i hf
        split at h
        · rename_i l el
          have hcs := capsK_sound _ _ l (opdL_sound (C := C) hr hc 0 caps.toList) el
          have hfirst : first = #[] := by
            apply Array.ext'
            simpa using hf
          subst hfirst
          exact Hands.cont hn (v := .func (.func f) #[] (caps.map a.eval)) (w' := w) (by simp [execOp, e, Instr.makeFunc]) (.same hr h ⟨caps.toList.map a.eval, by congr 1; apply Array.ext'; simp, hcs⟩)
        · cases h
      · cases h
    · cases h
  · -- makeSlice
    rename_i T n k e
    split at h
    · rename_i t eb E eT
      split at h
      · rename_i z n' k' ez en ek
        obtain ⟨l, hl, h⟩ := Option.bind_eq_some_iff.1 h
        obtain ⟨kn, hn'⟩ := asI_sound (L 0 n) en
        obtain ⟨kk, hk'⟩ := asI_sound (L 0 k) ek
        obtain ⟨q, y, st', g', w', k1, k2⟩ := makeSlice_sound (kn := kn) (kc := kk) B.S B.T hr eT ez hl h
        exact Hands.cont hn (v := q) (w' := w') (by simp [execOp, e, hn', hk', k1]) ⟨fun q => by simp [e, stillOp] at q, y, st', g', k2⟩
      · cases h
    · cases h
  · -- slice
    rename_i T x lo hi mx e
    split at h
    · have hl : match lo.map a.eval, (lo.map fun y => avL (opd C cx 0 st y)) with | some v, some x => RepL g st.mem st.cnt v x | none, none => True | _, _ => False := by
        cases lo with
        | none => trivial
        | some y => exact L 0 y
      have hh : match hi.map a.eval, (hi.map fun y => avL (opd C cx 0 st y)) with | some v, some x => RepL g st.mem st.cnt v x | none, none => True | _, _ => False := by
        cases hi with
        | none => trivial
        | some y => exact L 0 y
      obtain ⟨u, y, st', g', k1, k2, k3, k4, k5, k6⟩ := sliceK_sound B.T hr (L 0 x) hl hh h
      exact Hands.cont hn (v := u) (w' := w) (by simp [execOp, e, k1]) ⟨fun _ => rfl, y, st', g', k2, k3, k4, k5, fun d => Nat.le_of_eq (congrFun k6.symm d)⟩
    · cases h
  · -- fieldAddr
    rename_i T x f e
    obtain ⟨u, y, k1, k2, k3⟩ := fieldAddrK_sound (P := P) (w := w) B.S B.T (L 0 x) h
    exact Hands.cont hn (v := u) (w' := w) (by simp [execOp, e, k1]) (.same hr k2 k3)
  · -- field
    rename_i T x f e
    have hx := V 0 x
    split at h
    · rename_i m _ _ n y eT ex
      rw [ex] at hx
      cases q : Nat.beq m n with
      | false => rw [q] at h; cases h
      | true =>
      rw [q] at h
      have := Nat.eq_of_beq_eq_true q
      subst this
      obtain ⟨cs, hv, hrep⟩ : ∃ cs : Array Value, a.eval x = .agg cs ∧ RepC C.S g.M (.st m) cs.toList y := by
        rcases hx with ⟨_, cs, e, q⟩ | ⟨q, _⟩
        · exact ⟨cs, e, q⟩
        · cases q
      cases hrep with
      | st _ _ _ hh =>
      obtain ⟨t, z, k1, k2, k3, k4⟩ := fieldOf_sound B.S _ _ _ f _ r hh h
      obtain ⟨fs, f1, f2, f3⟩ := B.T.st eT
      obtain ⟨fd, f4, ⟨F⟩⟩ := f3 f t k2
      obtain ⟨u, p1, p2, _⟩ := part_at (w := w) F.data (cs := cs) (by rw [Array.length_toList] at k4; exact k4) k3
      refine Hands.cont hn (v := u) (w' := w) ?_ (.same hr k1 p2)
      simp only [execOp, e, Instr.field, hv, Sem.run_bind, run_underlying f1, Result.andThen_ok, f4, asAgg, Sem.run_pure, F.off, p1]
    · rename_i m' _ _ n cs eT ex
      rw [ex] at hx
      cases q : Nat.beq m' n with
      | false => rw [q] at h; cases h
      | true =>
      rw [q] at h
      have := Nat.eq_of_beq_eq_true q
      subst this
      simp only [cond_true] at h
      obtain ⟨vs, hv, h1, h2, h3⟩ := hx
      obtain ⟨fs, f1, f2, f3⟩ := B.T.st eT
      split at h
      · rename_i m em
        obtain ⟨fd, f4, ⟨F⟩⟩ := f3 f _ em
        have hle : szL (sz C.S dep) ((C.S.fl m').take f) + sz C.S dep (.st m) ≤ vs.length := by
          have q := szL_le (g := sz C.S dep) em
          have q2 := B.S.sz m'
          omega
        refine Hands.cont hn (v := .agg ((vs.drop (szL (sz C.S dep) ((C.S.fl m').take f))).take (sz C.S dep (.st m))).toArray) (w' := w) ?_ (.same hr h ⟨_, rfl, (h1.drop _).take _, by rw [List.length_take, List.length_drop]; omega, fun u hu => h3 u (List.mem_of_mem_drop (List.mem_of_mem_take hu))⟩)
        simp only [execOp, e, Instr.field, hv, Sem.run_bind, run_underlying f1, Result.andThen_ok, f4, asAgg, Sem.run_pure, F.off, part, run_agg F.data.hd, F.data.hagg, Ty.isSt, if_true, run_size F.data.hi, F.data.hs]
        congr 2
        simp [List.extract_eq_take_drop]
      · rename_i t hne em
        split at h
        · rename_i y ey
          obtain ⟨fd, f4, ⟨F⟩⟩ := f3 f _ em
          obtain ⟨u, u1, u2⟩ := h1.get _ y ey
          refine Hands.cont hn (v := u) (w' := w) ?_ (.same hr h u2)
          have hna : t.isSt = false := by cases t <;> first | rfl | exact absurd rfl (hne _)
          simp only [execOp, e, Instr.field, hv, Sem.run_bind, run_underlying f1, Result.andThen_ok, f4, asAgg, Sem.run_pure, F.off, part, run_agg F.data.hd, F.data.hagg, hna]
          simp [u1]
        · cases h
      · cases h
    · cases h
  · -- indexAddr
    rename_i T x i e
    split at h
    · rename_i n en
      obtain ⟨k, hk⟩ := asI_sound (L 0 i) en
      obtain ⟨u, y, k1, k2, k3⟩ := indexAddrK_sound (kk := k) B.T hr (L 0 x) h
      exact Hands.cont hn (v := u) (w' := w) (by simp [execOp, e, hk, k1]) (.same hr k2 k3)
    · cases h
  · -- index
    rename_i T x i e
    split at h
    · rename_i s n eT ex en
      have hx := L 0 x
      rw [ex] at hx
      have hx := RepL.str hx
      obtain ⟨k, hk⟩ := asI_sound (L 0 i) en
      obtain ⟨b, hb, h⟩ := Option.bind_eq_some_iff.1 h
      have hd := B.T.str eT
      unfold sat at hb
      split at hb
      · rename_i h0
        obtain ⟨q, hq, rfl⟩ := Option.map_eq_some_iff.1 hb
        refine Hands.cont hn (v := .int .u8 q.toNat) (w' := w) ?_ (.same hr h (rep_int (st := st) _ _))
        simp only [execOp, e, Instr.index, hx, hk, Sem.run_bind, asIntOf, Sem.run_pure, Result.andThen_ok, run_underlying hd, if_pos h0, hq]
      · cases hb
    · cases h
  · -- typeAssert
    rename_i x T0 T ok e
    unfold typeAssertK at h
    have hx := V 0 x
    split at h
    · rename_i T' y ex
      rw [ex] at hx
      obtain ⟨u, hu, hy⟩ := hx
      cases eC : concT C T with
      | false => rw [eC] at h; cases h
      | true =>
        rw [eC] at h
        obtain ⟨ti, d, zv, hi, hz, hd, nif⟩ := B.T.conc eC
        cases q : Nat.beq T T' with
        | true =>
          rw [q] at h
          have := Nat.eq_of_beq_eq_true q
          subst this
          cases ok with
          | true =>
            refine Hands.cont hn (v := .tuple #[u, .bool true]) (w' := w) ?_ (.same hr h ⟨[u, .bool true], rfl, .cons hy (.cons rfl .nil)⟩)
            simp only [execOp, e, Instr.typeAssert, hu, Sem.run_bind, run_underlying hd, Result.andThen_ok]
            cases d <;> first | exact absurd rfl (nif _) | simp
          | false =>
            refine Hands.cont hn (v := u) (w' := w) ?_ (.same hr h hy)
            simp only [execOp, e, Instr.typeAssert, hu, Sem.run_bind, run_underlying hd, Result.andThen_ok]
            cases d <;> first | exact absurd rfl (nif _) | simp
        | false =>
          rw [q] at h
          have hne : ¬ T' = T := fun e => by subst e; simp at q
          cases ok with
          | false => cases h
          | true =>
            simp only [cond_false, cond_true] at h
            refine Hands.cont hn (v := .tuple #[zv, .bool false]) (w' := w) ?_ (.same hr h ⟨[zv, .bool false], rfl, .cons trivial (.cons rfl .nil)⟩)
            simp only [execOp, e, Instr.typeAssert, hu, Sem.run_bind, run_underlying hd, Result.andThen_ok]
            cases d <;> first | exact absurd rfl (nif _) | simp [hne, run_zero hi hz]
    · cases h
  · -- extract
    rename_i x i e
    have hx := V 0 x
    split at h
    · rename_i xs ex
      rw [ex] at hx
      split at h
      · rename_i y ey
        obtain ⟨vs, hv, h1⟩ := hx
        obtain ⟨u, u1, u2⟩ := h1.get i y ey
        refine Hands.cont hn (v := u) (w' := w) ?_ (.same hr h u2)
        simp [execOp, e, Instr.extract, hv, u1]
      · cases h
    · cases h
  · -- call
    rename_i cl e
    unfold callOpK at h
    split at h
    · rename_i f ef
      unfold callK at h
      have hx := L 0 f
      split at h
      · rename_i fid caps eg
        rw [eg] at hx
        obtain ⟨us, hv, hcs⟩ := hx
        split at h
        · rename_i en een
          have hargs := opds_sound (C := C) hr hc 0 cl.args.toList
          have hcaps : All2 (RepA g st.mem st.cnt) us (caps.map fun c => (.l (.ref c.1 c.2.1 c.2.2) : AV C.S.U)) := by
            clear hv h een eg
            induction hcs with
            | nil => exact .nil
            | cons h _ ih => exact .cons h ih
          have hcall := (hO fid en een).call ρ _ st R r h c a w g _ hr (hargs.append hcaps) o a next Q (fun v w' hp => hn v w' ⟨fun q => by simp [e, stillOp, lenCall, ef] at q, hp⟩)
          unfold Oper.wp
          have : (execOp a.eval o).run P w = (callFunc fid (cl.args.toList.map a.eval ++ us).toArray).run P w := by
            simp only [execOp, e, resolve, ef, hv, Deferred.ofValue, Sem.run_bind, Sem.run_pure, Result.andThen_ok, invoke]
            congr 2
            simp
          rw [this]
          exact hcall
        · cases h
      · cases h
    · rename_i b eb
      unfold builtinK at h
      split at h
      · split at h
        · rename_i x T ex eT
          obtain ⟨n, k1, k2⟩ := lenK_sound (P := P) (w := w) (ty := o.type) B.T hr (L 0 x) h
          refine Hands.cont hn (v := .int .i64 n) (w' := w) ?_ (.same hr k2 (rep_int (st := st) _ _))
          have hca : cl.args = #[x] := by apply Array.ext'; simpa using ex
          have hct : cl.argTypes = #[T] := by apply Array.ext'; simpa using eT
          simp only [execOp, e, resolve, eb, Sem.run_bind, Sem.run_pure, Result.andThen_ok, invoke, builtin, hca, hct, List.map_toArray, List.map_cons, List.map_nil, k1]
        · cases h
      · split at h
        · rename_i s x T T' ex eT
          obtain ⟨hTT, q, z, st', g', w', k1, k2⟩ := appendK_sound (ty := o.type) B.T hr (L T s) (L 0 x) h
          subst hTT
          refine Hands.cont hn (v := q) (w' := w') ?_ ⟨fun q => by simp [e, stillOp, lenCall, eb] at q, z, st', g', k2⟩
          have hca : cl.args = #[s, x] := by apply Array.ext'; simpa using ex
          have hct : cl.argTypes = #[T', T'] := by apply Array.ext'; simpa using eT
          simp only [execOp, e, resolve, eb, Sem.run_bind, Sem.run_pure, Result.andThen_ok, invoke, builtin, hca, hct, List.map_toArray, List.map_cons, List.map_nil, k1]
        · cases h
      · split at h
        · rename_i x y T ts ex eT
          obtain ⟨st', w', k1, k2, k3, k4⟩ := deleteK_sound (P := P) (ty := o.type) (ts := cl.argTypes) B.T hr (by rw [← Array.getElem?_toList, eT]; rfl) (L 0 x) (L 0 y) h
          refine Hands.cont hn (v := .tuple #[]) (w' := w') ?_ ⟨fun q => by simp [e, stillOp, lenCall, eb] at q, _, st', g, k2, k3, trivial, Ext.refl _ _, fun d => Nat.le_of_eq (congrFun k4.symm d)⟩
          have hca : cl.args = #[x, y] := by apply Array.ext'; simpa using ex
          simp only [execOp, e, resolve, eb, Sem.run_bind, Sem.run_pure, Result.andThen_ok, invoke, builtin, hca, List.map_toArray, List.map_cons, List.map_nil, k1]
        · cases h
      · obtain ⟨q, z, k1, k2, k3⟩ := minK_sound (P := P) (w := w) (op := true) (ts := cl.argTypes) (ty := o.type) (opdL_sound (C := C) hr hc 0 cl.args.toList) h
        refine Hands.cont hn (v := q) (w' := w) ?_ (.same hr k2 k3)
        have : (cl.args.toList.map a.eval).toArray = cl.args.map a.eval := by apply Array.ext'; simp
        rw [this] at k1
        simp only [execOp, e, resolve, eb, Sem.run_bind, Sem.run_pure, Result.andThen_ok, invoke, builtin]
        rw [show (Builtin.min_ cl.argTypes o.type (cl.args.map a.eval)).run P w = .ok q w from k1]
        rfl
      · obtain ⟨q, z, k1, k2, k3⟩ := minK_sound (P := P) (w := w) (op := false) (ts := cl.argTypes) (ty := o.type) (opdL_sound (C := C) hr hc 0 cl.args.toList) h
        refine Hands.cont hn (v := q) (w' := w) ?_ (.same hr k2 k3)
        have : (cl.args.toList.map a.eval).toArray = cl.args.map a.eval := by apply Array.ext'; simp
        rw [this] at k1
        simp only [execOp, e, resolve, eb, Sem.run_bind, Sem.run_pure, Result.andThen_ok, invoke, builtin]
        rw [show (Builtin.max_ cl.argTypes o.type (cl.args.map a.eval)).run P w = .ok q w from k1]
        rfl
      · cases h
    · cases h
  · -- range
    rename_i T x e
    unfold rangeK at h
    have hx := L 0 x
    split at h
    · rename_i _ _ eT
      obtain ⟨d, hd, hdi⟩ := B.T.desc eT
      split at h
      · rename_i s ex
        rw [ex] at hx
        have hx : a.eval x = .string s := by have := RepV.leaf (S := C.S) rfl hx; generalize a.eval x = u at this; cases this; rfl
        obtain ⟨z, st', g', k1, k2, k3, k4, k5⟩ := newIt hr h
        refine Hands.cont hn (v := ptr w.heap.size 0) (w' := w.alloc (.stringIter s 0)) ?_ ⟨fun q => by simp [e, stillOp] at q, z, st', g', k1, k2, k3, k4, k5⟩
        cases d <;> simp [descIs] at hdi
        simp [execOp, e, Instr.range, run_underlying hd, hx, newObj, Sem.run, ptr]
      · cases h
    · cases h
  · -- next
    rename_i x isString e
    unfold nextK at h
    have hx := L 0 x
    split at h
    · rename_i d j ex
      rw [ex] at hx
      split at h
      · rename_i s p em
        obtain ⟨hj, b, hb, hv⟩ := hx
        obtain ⟨h0, b', o1, o2⟩ := hr.objs d j _ em
        rw [hb] at o1
        cases o1
        cases isString with
        | false => cases h
        | true =>
        simp only [cond_true] at h
        have hget : (getObj b).run P w = .ok (.stringIter s p.toNat) w := by simp [getObj, Sem.run, o2]
        cases hlt : ilt p (slen s) with
        | false =>
          rw [hlt] at h
          have hge : ¬ p.toNat < s.size := by
            have := of_decide_eq_false hlt
            unfold slen at this
            omega
          refine Hands.cont hn (v := .tuple #[.bool false]) (w' := w) ?_ (.same hr h ⟨[.bool false], rfl, .cons rfl .nil⟩)
          simp [execOp, e, Instr.next, hv, ptr, hget, hge]
        | true =>
          rw [hlt] at h
          have hl : p.toNat < s.size := by
            have := of_decide_eq_true hlt
            unfold slen at this
            omega
          have hml := Memle.it st.mem st.cnt d j s (snext s p)
          have hturn := hr.turn em rfl hb (.it s (snext s p)) (w' := { w with heap := w.heap.setIfInBounds b (.stringIter s (p.toNat + (Utf8.decode s p.toNat).2)) }) ⟨rfl, rfl, rfl, by simp, fun k hk => by
            show (w.heap.setIfInBounds b _)[k]? = _
            rw [Array.getElem?_setIfInBounds_ne (Ne.symm hk)]⟩ hml ⟨by unfold snext; omega, b, hb, by
            have hlt' := lt_of_heap o2
            show (w.heap.setIfInBounds b _)[b]? = _
            have : (snext s p).toNat = p.toNat + (Utf8.decode s p.toNat).2 := by unfold snext; omega
            rw [this]
            simp [hlt']⟩
          refine Hands.cont hn (v := .tuple #[.bool true, goInt p.toNat, .int .i32 (Utf8.decode s p.toNat).1]) (w' := { w with heap := w.heap.setIfInBounds b (.stringIter s (p.toNat + (Utf8.decode s p.toNat).2)) }) ?_ ⟨fun q => by simp [e, stillOp] at q, _, _, g, h, hturn, ⟨[.bool true, goInt p.toNat, .int .i32 (Utf8.decode s p.toNat).1], rfl, .cons rfl (.cons ?_ (.cons (rep_int (st := st) _ _) .nil))⟩, Ext.refl _ _, fun _ => Nat.le_refl _⟩
          · simp [execOp, e, Instr.next, hv, ptr, hget, hl, setObj, Sem.run, o2]
          · have : goInt (p.toNat : Int) = .int .i64 p := by unfold goInt; rw [Int.toNat_of_nonneg h0]
            rw [this]
            exact rep_int (st := st) _ _
      · cases h
    · cases h
  · -- makeMap
    rename_i T n e
    cases n with
    | none =>
      obtain ⟨z, st', g', w', k1, k2, k3, k4, k5, k6⟩ := makeMapK_sound (P := P) (vn := none) B.T hr (fun x q => by cases q) (fun _ => rfl) h
      exact Hands.cont hn (v := .map (some w.heap.size)) (w' := w') (by simp [execOp, e, k1]) ⟨fun q => by simp [e, stillOp] at q, z, st', g', k2, k3, k4, k5, k6⟩
    | some x =>
      obtain ⟨z, st', g', w', k1, k2, k3, k4, k5, k6⟩ := makeMapK_sound (P := P) (vn := some (a.eval x)) B.T hr (fun y q => by cases q; exact ⟨_, rfl, L 0 x⟩) (fun q => by cases q) h
      exact Hands.cont hn (v := .map (some w.heap.size)) (w' := w') (by simp [execOp, e, k1]) ⟨fun q => by simp [e, stillOp] at q, z, st', g', k2, k3, k4, k5, k6⟩
  · -- lookup
    rename_i T x i ok e
    obtain ⟨u, z, k1, k2, k3⟩ := lookupK_sound B.S B.T hr (L 0 x) (L 0 i) h
    exact Hands.cont hn (v := u) (w' := w) (by simp [execOp, e, k1]) (.same hr k2 k3)
  · -- mapUpdate
    rename_i T m k x e
    obtain ⟨st', g', w', k1, k2, k3, k4, k5⟩ := insertK_sound (vv := a.eval x) B.S B.T hr (L 0 m) (L 0 k) (by split <;> first | exact V _ x | exact trivial) h
    exact wp_skip' (w' := w') (by simp [execOp, e, k1]) (hn undef w' ⟨fun q => by simp [e, stillOp] at q, _, st', g', k2, k3, rfl, k4, fun d => Nat.le_of_eq (congrFun k5.symm d)⟩)
  · -- insert
    rename_i T m k x e
    obtain ⟨st', g', w', k1, k2, k3, k4, k5⟩ := insertK_sound (vv := a.eval x) B.S B.T hr (L 0 m) (L 0 k) (by split <;> first | exact V _ x | exact trivial) h
    exact wp_skip' (w' := w') (by simp [execOp, e, k1]) (hn undef w' ⟨fun q => by simp [e, stillOp] at q, _, st', g', k2, k3, rfl, k4, fun d => Nat.le_of_eq (congrFun k5.symm d)⟩)
  · cases h
end
end Go.Proofs.YthmedjljckbidaaDoor.Lift
