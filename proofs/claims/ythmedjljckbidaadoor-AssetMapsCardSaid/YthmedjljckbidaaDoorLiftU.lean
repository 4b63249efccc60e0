/- A function: what its code answers, as a summary for its callers. Conditions: as each theorem states them. -/
import Derived.Test.YthmedjljckbidaaDoorLiftT
set_option linter.unusedVariables false
namespace Go.Proofs.YthmedjljckbidaaDoor.Lift
section
variable {P : Program} {C : Ctx} {c : Call} {st : St C.S.U} {a : Act} {w : World} {g : Gh}

/-- A label, with its function. -/
structure Lb (S : Sg) (ρ : Type) where
  id : Nat
  D : List (Nat × DM)
  F : Nat → HL S.U (DM.tys D) → Option ρ

def Lb.tab {S : Sg} {ρ : Type} (l : List (Lb S ρ)) (k : Nat) : Nat → St S.U → Option ρ := labs (l.map fun x => (x.id, labOf S x.D (x.F k)))

theorem lkp_mem {α β : Type} {f : α → Nat × β} {id : Nat} {v : β} : ∀ l : List α, lkp id (l.map f) = some v → ∃ x ∈ l, f x = (id, v)
  | [], h => nomatch h
  | x :: l, h => by
    simp only [List.map_cons] at h
    cases e : f x with
    | mk n u =>
      rw [e] at h
      simp only [lkp] at h
      cases q : Nat.beq n id with
      | true =>
        rw [q] at h
        cases h
        exact ⟨x, List.mem_cons_self .., by rw [e, Nat.eq_of_beq_eq_true q]⟩
      | false =>
        rw [q] at h
        obtain ⟨y, hy, z⟩ := lkp_mem l h
        exact ⟨y, List.mem_cons_of_mem _ hy, z⟩

/-- The labels' functions are the code from there. -/
def LbOk (C : Ctx) {ρ : Type} (O : Nat → Oracle C.S) (N : Fr) (T : List (Lb C.S ρ)) (b : Code) (an : Ann) (K : Kt ρ C.S.U) (x : Lb C.S ρ) : Prop :=
  (incrB 0 (x.D.map (·.1)) && dmB N x.D) = true ∧ (∀ h, x.F 0 h = none) ∧ ∀ k h, x.F (k + 1) h = runFrom (C := C) (O k) N (Lb.tab T k) b an x.id K (encD x.D h (startD C.S.U N x.D))

def nodupB : List Nat → Bool
  | [] => true
  | x :: l => !memB x l && nodupB l

theorem memB_of_mem : ∀ {l : List Nat} {x : Nat}, x ∈ l → memB x l = true
  | a :: l, x, h => by
    rcases List.mem_cons.1 h with e | h
    · subst e; simp [memB]
    · simp [memB, memB_of_mem h]

theorem nodup_pair {β : Type} : ∀ {l : List (Nat × β)}, nodupB (l.map (·.1)) = true → ∀ {id : Nat} {p q : β}, (id, p) ∈ l → (id, q) ∈ l → p = q
  | x :: l, h, id, p, q, hp, hq => by
    simp only [List.map_cons, nodupB, Bool.and_eq_true, Bool.not_eq_true'] at h
    have no : ∀ z, (id, z) ∈ l → id ≠ x.1 := fun z hz e => by
      have hm : x.1 ∈ l.map (·.1) := List.mem_map.2 ⟨(id, z), hz, e⟩
      have := memB_of_mem hm
      rw [h.1] at this
      cases this
    rcases List.mem_cons.1 hp with e | hp
    · rcases List.mem_cons.1 hq with e' | hq
      · rw [← e] at e'; cases e'; rfl
      · exact absurd (by rw [← e]) (no q hq)
    · rcases List.mem_cons.1 hq with e' | hq
      · exact absurd (by rw [← e']) (no p hp)
      · exact nodup_pair h.2 hp hq

theorem labels_sound {ρ : Type} (B : Base P C) (mo : P.follows .mixedOrders = true) {O : Nat → Oracle C.S} {T : List (Lb C.S ρ)} {b : Code} {an : Ann} {K : Kt ρ C.S.U}
    (hT : ∀ x ∈ T, LbOk C O c.N T b an K x) (hn : nodupB (idsOf b an) = true) {r : ρ} {Q : Post} (hK : KOk c K r Q) :
    ∀ k, (∀ j, j < k → OracleOk P C (O j)) → LOk c (Lb.tab T k) r fun id a w => ∀ q ∈ occ P b an Q, q.1 = id → q.2 a w := by
  intro k
  induction k with
  | zero =>
    intro _ id st a w g hr h
    unfold Lb.tab labs at h
    split at h
    · rename_i f ef
      obtain ⟨x, hx, e⟩ := lkp_mem T ef
      cases e
      unfold labOf at h
      split at h
      · rw [(hT x hx).2.1] at h; cases h
      · cases h
    · cases h
  | succ k ih =>
    intro hO id st a w g hr h
    have ih := ih fun j hj => hO j (Nat.lt_succ_of_lt hj)
    have hO := hO k (Nat.lt_succ_self k)
    unfold Lb.tab labs at h
    split at h
    · rename_i f ef
      obtain ⟨x, hx, e⟩ := lkp_mem T ef
      cases e
      unfold labOf at h
      split at h
      · rename_i hh eh
        rw [(hT x hx).2.2] at h
        unfold runFrom at h
        split at h
        · rename_i f ef
          obtain ⟨g', hr'⟩ := decD_sound B.S hr (Bool.and_eq_true_iff.1 (hT x hx).1).1 (Bool.and_eq_true_iff.1 (hT x hx).1).2 eh
          obtain ⟨p, h1, h2⟩ := fromK_sound (W := fun id a w => ∀ q ∈ occ P b an Q, q.1 = id → q.2 a w) ⟨B, mo, hO, ih⟩ x.id b an K Q f _ a w g' (fun q hq a w hw => hw q hq rfl) hK ef hr' h
          intro q hq e
          have hd : nodupB ((occ P b an Q).map (·.1)) = true := by rw [occ_ids]; exact hn
          obtain ⟨qi, qp⟩ := q
          have e : qi = x.id := e
          subst e
          rw [nodup_pair hd hq h1]
          exact h2
        · cases h
      · cases h
    · cases h

/-- What a function's end hands over. -/
def RepR (S : Sg) (M : Mm) : (rs : List Ty) → List Value → RT S.U rs → Prop
  | [], [], _ => True
  | [t], [v], x => RepV S M t v x
  | t :: u :: ts, v :: vs, x => RepV S M t v x.1 ∧ RepR S M (u :: ts) vs x.2
  | _, _, _ => False

def readRes : ResultVar → Array Value → Sem Value
  | .tmp t, tmps => pure (tmps.getD t undef)
  | .cell x T, tmps => do loadVar T (← asAddr (tmps.getD x undef))

theorem resOne_sound (B : Base P C) (hr : Rel c st a w g) {t : Ty} {v : ResultVar} {x : El C.S.U t} (h : resOne C st t v = some x) : ∃ u z, (readRes v a.tmps).run P w = .ok u w ∧ RepA g st.mem st.cnt u z ∧ toA C.S st t z = some x := by
  cases v with
  | tmp d => exact ⟨_, _, by simp [readRes], hr.slots d, h⟩
  | cell d T =>
    simp only [resOne] at h
    split at h
    · rename_i d' j o e
      have hv := hr.slots d
      rw [e] at hv
      obtain ⟨u, y, k1, k2, k3⟩ := loadK_sound B.S B.T hr (v := a.tmps.getD d undef) hv h
      obtain ⟨_, b, _, hv⟩ := hv
      refine ⟨u, y, ?_, k3, k2⟩
      rw [hv] at k1
      rw [readRes, hv]
      simpa [Instr.loadAt, Instr.sureAddr, asAddr, ptr] using k1
    · cases h

theorem resOf_sound (B : Base P C) (hr : Rel c st a w g) : ∀ (rs : List Ty) (vars : List ResultVar) (x : RT C.S.U rs), resOf C st rs vars = some x →
    ∃ (us : List Value) (zs : List (AV C.S.U)), (vars.mapM fun v => readRes v a.tmps).run P w = .ok us w ∧ All2 (RepA g st.mem st.cnt) us zs ∧ ∀ g', All2 (RdA C.S g' st) us zs → RepR C.S g'.M rs us x
  | [], [], x, _ => ⟨[], [], by simp, .nil, fun _ _ => trivial⟩
  | [], _ :: _, _, h => nomatch h
  | [t], [v], x, h => by
    obtain ⟨u, z, h1, h2, h3⟩ := resOne_sound (t := t) B hr h
    exact ⟨[u], [z], by simp [h1], .cons h2 .nil, fun g' q => by cases q with | cons q _ => exact q t x h3⟩
  | [_], [], _, h => nomatch h
  | [_], _ :: _ :: _, _, h => nomatch h
  | t :: u :: ts, v :: l, x, h => by
    simp only [resOf] at h
    split at h
    · rename_i x1 e1
      split at h
      · rename_i x2 e2
        cases h
        obtain ⟨v1, z1, h1, h2, h3⟩ := resOne_sound (t := t) B hr e1
        obtain ⟨us, zs, k1, k2, k3⟩ := resOf_sound B hr (u :: ts) l x2 e2
        exact ⟨v1 :: us, z1 :: zs, by simp only [List.mapM_cons, Sem.run_bind, h1, Result.andThen_ok, k1, Sem.run_pure], .cons h2 k2, fun g' q => by cases q with | cons q q' => exact ⟨q t x1 h3, k3 g' q'⟩⟩
      · cases h
    · cases h
  | _ :: _ :: _, [], _, h => nomatch h

/-- The value that a call answers. -/
def ansOf (us : List Value) : Value := match us with
  | [u] => u
  | us => .tuple us.toArray

theorem results_run {fn : Func} {us : List Value} {tmps : Array Value} (h : (fn.results.toList.mapM fun v => readRes v tmps).run P w = .ok us w) : (results fn tmps).run P w = .ok (ansOf us) w := by
  have hf : results fn tmps = (do
      let vs ← fn.results.mapM fun v => readRes v tmps
      pure (if h : vs.size = 1 then vs[0] else .tuple vs)) := by
    unfold results
    congr 1
    congr 1
    funext v
    cases v <;> rfl
  rw [hf, Array.mapM_eq_mapM_toList]
  simp only [Sem.run_bind, Sem.run_map, h, Result.andThen_ok, Sem.run_pure]
  cases us with
  | nil => rfl
  | cons u us =>
    cases us with
    | nil => rfl
    | cons u' us => simp [ansOf]

theorem retL_len {S : Sg} : ∀ (rs : List Ty) (x : RT S.U rs), (retL rs x).length = rs.length
  | [], _ => rfl
  | [_], _ => rfl
  | t :: u :: ts, x => by simp only [retL, List.length_cons, retL_len (u :: ts) x.2]

theorem repR_all {S : Sg} {g : Gh} {m : Nat → Nat → Option (Obj' S.U)} {cnt : Nat → Nat} : ∀ (rs : List Ty) (us : List Value) (x : RT S.U rs), RepR S g.M rs us x → All2 (RepL g m cnt) us (retL rs x)
  | [], [], _, _ => .nil
  | [], _ :: _, _, h => h.elim
  | [_], [], _, h => h.elim
  | [t], [v], x, h => .cons h .nil
  | [_], _ :: _ :: _, _, h => h.elim
  | t :: u :: ts, [], _, h => h.elim
  | t :: u :: ts, v :: vs, x, h => .cons h.1 (repR_all (u :: ts) vs x.2 h.2)

theorem repR_ans {S : Sg} {g : Gh} {m : Nat → Nat → Option (Obj' S.U)} {cnt : Nat → Nat} (rs : List Ty) (us : List Value) (x : RT S.U rs) (h : RepR S g.M rs us x) : RepA g m cnt (ansOf us) (retAV rs x) := by
  have ha := repR_all (g := g) (m := m) (cnt := cnt) rs us x h
  unfold retAV
  generalize retL rs x = l at ha
  cases ha with
  | nil => exact ⟨[], rfl, .nil⟩
  | cons h1 h2 =>
    cases h2 with
    | nil => exact h1
    | cons h2 h3 => exact ⟨_, rfl, .cons h1 (.cons h2 h3)⟩

theorem flat_rep {S : Sg} {M M' : Mm} {t : Ty} (ht : t.flat = true) {v : Value} {x : El S.U t} (h : RepV S M t v x) : RepV S M' t v x := by
  cases t with
  | int k => rcases h with ⟨q, _⟩ | ⟨_, q⟩; · cases q
             · cases q; exact .inr ⟨rfl, .int _ _⟩
  | bool => rcases h with ⟨q, _⟩ | ⟨_, q⟩; · cases q
            · cases q; exact .inr ⟨rfl, .bool _⟩
  | str => rcases h with ⟨q, _⟩ | ⟨_, q⟩; · cases q
           · cases q; exact .inr ⟨rfl, .str _⟩
  | sl t => cases ht
  | st n => cases ht

theorem flat_repR {S : Sg} {M M' : Mm} : ∀ (rs : List Ty) (us : List Value) (x : RT S.U rs), rs.all Ty.flat = true → RepR S M rs us x → RepR S M' rs us x
  | [], [], _, _, _ => trivial
  | [], _ :: _, _, _, h => h.elim
  | [_], [], _, _, h => h.elim
  | [t], [v], x, hf, h => flat_rep (by simpa using hf) h
  | [_], _ :: _ :: _, _, _, h => h.elim
  | t :: u :: ts, [], _, _, h => h.elim
  | t :: u :: ts, v :: vs, x, hf, h => by
    simp only [List.all_cons, Bool.and_eq_true] at hf
    exact ⟨flat_rep hf.1 h.1, flat_repR (u :: ts) vs x.2 (by simpa using hf.2) h.2⟩
end
end Go.Proofs.YthmedjljckbidaaDoor.Lift
