/- The code of a function: the machine does what the evaluator says, labels being asked of their functions. Conditions: as each theorem states them. -/
import Derived.Test.YthmedjljckbidaaDoorLiftQ
import Derived.Scope
set_option linter.unusedVariables false
namespace Go.Proofs.YthmedjljckbidaaDoor.Lift
section
variable {P : Program} {C : Ctx} {c : Call} {ρ : Type}

def Ex.go : Ex → Exit
  | .norm => .normal
  | .exit id => .exit id
  | .ret => .ret

abbrev Post := Exit → Act → World → Prop

/-- Where the evaluator's continuation answers r, the machine is where it should be. -/
def KOk (c : Call) (K : Kt ρ C.S.U) (r : ρ) (Q : Post) : Prop := ∀ e st a w g, Rel c st a w g → K e st = some r → Q e.go a w

def LOk (c : Call) (L : Nat → St C.S.U → Option ρ) (r : ρ) (W : Nat → Act → World → Prop) : Prop := ∀ id st a w g, Rel c st a w g → L id st = some r → W id a w

/-- At the start of a round. -/
def LoopIn (P : Program) (b : Code) (Q : Post) (a : Act) (w : World) : Prop := ∀ (f : Frame) (k : List Item) (cs : List Frame), ∃ e a' w', Q e a' w' ∧ Arrives P (lone (f.at a (.code b :: .inLoop b :: k)) cs w) f k cs e a' w'

theorem loop_of_in {b : Code} {Q : Post} {a : Act} {w : World} (h : LoopIn P b Q a w) : (Code.loop b).wp P Q a w := fun f k cs => by
  obtain ⟨e, a', w', hq, harr⟩ := h f k cs
  exact ⟨e, a', w', hq, .of_steps (.one step_loop) harr⟩

theorem LoopIn.round {b : Code} {Q : Post} {a : Act} {w : World} (h : b.wp P (Exit.then (LoopIn P b Q) Q) a w) : LoopIn P b Q a w := fun f k cs => by
  obtain ⟨e, a₁, w₁, hq, harr⟩ := h f (.inLoop b :: k) cs
  cases e with
  | normal =>
    obtain ⟨e₂, a₂, w₂, hq₂, harr₂⟩ := hq f k cs
    exact ⟨e₂, a₂, w₂, hq₂, .of_steps (Steps.trans harr (.one step_inLoop)) harr₂⟩
  | exit id => exact ⟨_, a₁, w₁, hq, .pass (x := .inLoop b) rfl (fun _ _ => .inl (by simp)) harr⟩
  | goto l => exact ⟨_, a₁, w₁, hq, .pass (x := .inLoop b) rfl (fun _ _ => .inl (by simp)) harr⟩
  | ret => exact ⟨_, a₁, w₁, hq, .pass (x := .inLoop b) rfl (fun _ _ => .inl (by simp)) harr⟩
  | panic ch => exact ⟨_, a₁, w₁, hq, .pass (x := .inLoop b) rfl (fun _ _ => .inl (by simp)) harr⟩
  | outgrown => exact ⟨_, a₁, w₁, hq, .pass (x := .inLoop b) rfl (fun _ _ => .inl (by simp)) harr⟩

/-- The labels, and what is to be shown at each. -/
def occ (P : Program) : Code → Ann → Post → List (Nat × (Act → World → Prop))
  | .seq a b, an, Q => occ P a an.l (Exit.then (b.wp P Q) Q) ++ (match an.r with
    | .lab id an' => (id, b.wp P Q) :: occ P b an' Q
    | an' => occ P b an' Q)
  | .cond _ t e, an, Q => occ P t an.l Q ++ occ P e an.r Q
  | .block id b, an, Q => occ P b an (Exit.inBlock id Q)
  | .loop b, an, Q => match an with
    | .lp id an' => (id, LoopIn P b Q) :: occ P b an' (Exit.then (LoopIn P b Q) Q)
    | _ => []
  | .scope b, an, Q => occ P b an (Exit.noGoto Q)
  | _, _, _ => []

def idsOf : Code → Ann → List Nat
  | .seq a b, an => idsOf a an.l ++ (match an.r with
    | .lab id an' => id :: idsOf b an'
    | an' => idsOf b an')
  | .cond _ t e, an => idsOf t an.l ++ idsOf e an.r
  | .block _ b, an => idsOf b an
  | .loop b, an => match an with
    | .lp id an' => id :: idsOf b an'
    | _ => []
  | .scope b, an => idsOf b an
  | _, _ => []

theorem occ_ids : ∀ (b : Code) (an : Ann) (Q : Post), (occ P b an Q).map (·.1) = idsOf b an := by
  intro b
  induction b with
  | seq a b iha ihb =>
    intro an Q
    simp only [occ, idsOf, List.map_append, iha]
    congr 1
    cases an.r <;> simp only [List.map_cons, ihb]
  | cond x t e iht ihe => intro an Q; simp only [occ, idsOf, List.map_append, iht, ihe]
  | block id b ih => intro an Q; simp only [occ, idsOf, ih]
  | loop b ih => intro an Q; cases an <;> simp only [occ, idsOf, List.map_cons, List.map_nil, ih]
  | scope b ih => intro an Q; simp only [occ, idsOf, ih]
  | _ => intros; rfl

def Fits (P : Program) (W : Nat → Act → World → Prop) (b : Code) (an : Ann) (Q : Post) : Prop := ∀ q ∈ occ P b an Q, ∀ a w, W q.1 a w → q.2 a w

theorem KOk.seq {K : Kt ρ C.S.U} {r : ρ} {Q : Post} (hK : KOk c K r Q) {f : St C.S.U → Option ρ} {next : Act → World → Prop} (hf : ∀ st a w g, Rel c st a w g → f st = some r → next a w) : KOk c (seqK f K) r (Exit.then next Q) := fun e st a w g hr h => by
  cases e with
  | norm => exact hf st a w g hr h
  | exit id => exact hK (.exit id) st a w g hr h
  | ret => exact hK .ret st a w g hr h

theorem KOk.block {K : Kt ρ C.S.U} {r : ρ} {Q : Post} (hK : KOk c K r Q) (id : Nat) : KOk c (blockK id K) r (Exit.inBlock id Q) := fun e st a w g hr h => by
  cases e with
  | norm => exact hK .norm st a w g hr h
  | exit i =>
    show if i = id then Q .normal a w else Q (.exit i) a w
    have h : cond (Nat.beq i id) (K .norm st) (K (.exit i) st) = some r := h
    by_cases e : i = id
    · rw [if_pos e]
      subst e
      rw [Nat.beq_refl] at h
      exact hK .norm st a w g hr h
    · rw [if_neg e]
      have : Nat.beq i id = false := by cases q : Nat.beq i id with
        | true => exact absurd (Nat.eq_of_beq_eq_true q) e
        | false => rfl
      rw [this] at h
      exact hK (.exit i) st a w g hr h
  | ret => exact hK .ret st a w g hr h

theorem KOk.scope {K : Kt ρ C.S.U} {r : ρ} {Q : Post} (hK : KOk c K r Q) : KOk c K r (Exit.noGoto Q) := fun e st a w g hr h => by
  have := hK e st a w g hr h
  cases e <;> exact this

/-- What stays the same for all of a function's code. -/
structure Env (P : Program) (C : Ctx) (c : Call) (O : Oracle C.S) (L : Nat → St C.S.U → Option ρ) (r : ρ) (W : Nat → Act → World → Prop) : Prop where
  B : Base P C
  mo : P.follows .mixedOrders = true
  O : OracleOk P C O
  L : LOk c L r W

theorem codeK_sound {O : Oracle C.S} {L : Nat → St C.S.U → Option ρ} {r : ρ} {W : Nat → Act → World → Prop} (E : Env P C c O L r W) : ∀ (b : Code) (an : Ann) (K : Kt ρ C.S.U) (Q : Post) (st : St C.S.U) (a : Act) (w : World) (g : Gh),
    Fits P W b an Q → KOk c K r Q → Rel c st a w g → codeK O c.N L b an K st = some r → b.wp P Q a w := by
  intro b
  induction b with
  | skip => intro an K Q st a w g _ hK hr h; exact wp_skip (hK .norm st a w g hr h)
  | region id ops draw => intro an K Q st a w g _ hK hr h; exact region_sound E.B E.mo E.O (fun st' a' w' g' hr' h' => hK .norm st' a' w' g' hr' h') hr h
  | seq x y ihx ihy =>
    intro an K Q st a w g hf hK hr h
    have h : codeK O c.N L x an.l (seqK (labK L an.r (codeK O c.N L y) K) K) st = some r := h
    have hfx : Fits P W x an.l (Exit.then (y.wp P Q) Q) := fun q hq => hf q (List.mem_append_left _ hq)
    refine wp_seq (ihx an.l _ _ st a w g hfx (hK.seq fun st' a' w' g' hr' h' => ?_) hr h)
    cases e : an.r with
    | lab id an' =>
      rw [e] at h'
      exact hf (id, y.wp P Q) (List.mem_append_right _ (by rw [e]; exact List.mem_cons_self ..)) a' w' (E.L id st' a' w' g' hr' h')
    | z => rw [e] at h'; exact ihy .z K Q st' a' w' g' (fun q hq => hf q (List.mem_append_right _ (by rw [e]; exact hq))) hK hr' h'
    | n l r' => rw [e] at h'; exact ihy (.n l r') K Q st' a' w' g' (fun q hq => hf q (List.mem_append_right _ (by rw [e]; exact hq))) hK hr' h'
    | lp id an' => rw [e] at h'; exact ihy (.lp id an') K Q st' a' w' g' (fun q hq => hf q (List.mem_append_right _ (by rw [e]; exact hq))) hK hr' h'
  | cond x t e iht ihe =>
    intro an K Q st a w g hf hK hr h
    have hft : Fits P W t an.l Q := fun q hq => hf q (List.mem_append_left _ hq)
    have hfe : Fits P W e an.r Q := fun q hq => hf q (List.mem_append_right _ hq)
    have h : (match opd C [] 0 st x with
      | .l (.bl b) => cond b (codeK O c.N L t an.l K st) (codeK O c.N L e an.r K st)
      | .l (.tb d j b) => cond b (codeK O c.N L t an.l K (st.rsv d j true)) (codeK O c.N L e an.r K (st.rsv d j false))
      | .l (.v .bool b) => cond b (codeK O c.N L t an.l K st) (codeK O c.N L e an.r K st)
      | _ => none) = some r := h
    have hv := opd_sound (C := C) hr (Holds.nil g) 0 x
    split at h
    · rename_i b eb
      rw [eb] at hv
      have hv : a.eval x = .bool b := hv
      cases b with
      | true => exact wp_cond_true hv (iht an.l K Q st a w g hft hK hr h)
      | false => exact wp_cond_false hv (ihe an.r K Q st a w g hfe hK hr h)
    · rename_i d j b eb
      rw [eb] at hv
      obtain ⟨hv, ht, _⟩ := hv
      cases b with
      | true => exact wp_cond_true hv (iht an.l K Q _ a w g hft hK (hr.rsv ht) h)
      | false => exact wp_cond_false hv (ihe an.r K Q _ a w g hfe hK (hr.rsv ht) h)
    · rename_i b eb
      rw [eb] at hv
      have hv : a.eval x = .bool b := asB_sound (g := g) (st := st) hv rfl
      cases b with
      | true => exact wp_cond_true hv (iht an.l K Q st a w g hft hK hr h)
      | false => exact wp_cond_false hv (ihe an.r K Q st a w g hfe hK hr h)
    · cases h
  | block id b ih => intro an K Q st a w g hf hK hr h; exact wp_block (ih an (blockK id K) _ st a w g hf (hK.block id) hr h)
  | loop b ih =>
    intro an K Q st a w g hf hK hr h
    cases an with
    | lp id an' => exact loop_of_in (hf (id, LoopIn P b Q) (List.mem_cons_self ..) a w (E.L id st a w g hr h))
    | _ => cases h
  | scope b ih => intro an K Q st a w g hf hK hr h; exact wp_scope_straight (ih an K _ st a w g hf hK.scope hr h)
  | exit id => intro an K Q st a w g _ hK hr h; exact wp_exit (hK (.exit id) st a w g hr h)
  | ret => intro an K Q st a w g _ hK hr h; exact wp_ret (hK .ret st a w g hr h)
  | rangeFunc f ps x y _ _ => intro an K Q st a w g _ hK hr h; cases h
  | label l => intro an K Q st a w g _ hK hr h; cases h
  | goto l => intro an K Q st a w g _ hK hr h; cases h
  | refuse s => intro an K Q st a w g _ hK hr h; cases h

theorem fromK_sound {O : Oracle C.S} {L : Nat → St C.S.U → Option ρ} {r : ρ} {W : Nat → Act → World → Prop} (E : Env P C c O L r W) (id : Nat) : ∀ (b : Code) (an : Ann) (K : Kt ρ C.S.U) (Q : Post) (f : St C.S.U → Option ρ) (st : St C.S.U) (a : Act) (w : World) (g : Gh),
    Fits P W b an Q → KOk c K r Q → fromK O c.N L b an id K = some f → Rel c st a w g → f st = some r → ∃ p, (id, p) ∈ occ P b an Q ∧ p a w := by
  intro b
  induction b with
  | seq x y ihx ihy =>
    intro an K Q f st a w g hf hK hF hr h
    have hfx : Fits P W x an.l (Exit.then (y.wp P Q) Q) := fun q hq => hf q (List.mem_append_left _ hq)
    have other : ∀ an', an.r = an' → (∀ i y2, an' ≠ .lab i y2) → ∃ p, (id, p) ∈ occ P (.seq x y) an Q ∧ p a w := fun an' e hn => by
      have ho : occ P (.seq x y) an Q = occ P x an.l (Exit.then (y.wp P Q) Q) ++ occ P y an' Q := by
        show _ ++ (match an.r with | .lab id an' => (id, y.wp P Q) :: occ P y an' Q | an' => occ P y an' Q) = _
        rw [e]
        cases an' with
        | lab i y' => exact absurd rfl (hn i y')
        | _ => rfl
      have hfy : Fits P W y an' Q := fun q hq => hf q (by rw [ho]; exact List.mem_append_right _ hq)
      have hF : orO (fromK O c.N L x an.l id (seqK (codeK O c.N L y an' K) K)) (fromK O c.N L y an' id K) = some f := by
        have hF : fromSeq L id (fun k => fromK O c.N L x an.l id (seqK k K)) (fun an' => codeK O c.N L y an' K) (fun an' => fromK O c.N L y an' id K) an.r = some f := hF
        rw [e] at hF
        cases an' with
        | lab i y' => exact absurd rfl (hn i y')
        | _ => exact hF
      cases ex : fromK O c.N L x an.l id (seqK (codeK O c.N L y an' K) K) with
      | some f' =>
        rw [ex] at hF
        cases hF
        obtain ⟨p, h1, h2⟩ := ihx an.l _ _ f st a w g hfx (hK.seq fun st' a' w' g' hr' h' => codeK_sound E y an' K Q st' a' w' g' hfy hK hr' h') ex hr h
        exact ⟨p, List.mem_append_left _ h1, h2⟩
      | none =>
        rw [ex] at hF
        obtain ⟨p, h1, h2⟩ := ihy an' K Q f st a w g hfy hK hF hr h
        exact ⟨p, by rw [ho]; exact List.mem_append_right _ h1, h2⟩
    cases e : an.r with
    | lab id' an' =>
      have ho : occ P (.seq x y) an Q = occ P x an.l (Exit.then (y.wp P Q) Q) ++ ((id', y.wp P Q) :: occ P y an' Q) := by
        show _ ++ (match an.r with | .lab id an' => (id, y.wp P Q) :: occ P y an' Q | an' => occ P y an' Q) = _
        rw [e]
      have hfy : Fits P W y an' Q := fun q hq => hf q (by rw [ho]; exact List.mem_append_right _ (List.mem_cons_of_mem _ hq))
      have hF : fromSeq L id (fun k => fromK O c.N L x an.l id (seqK k K)) (fun an' => codeK O c.N L y an' K) (fun an' => fromK O c.N L y an' id K) an.r = some f := hF
      rw [e] at hF
      have hF : cond (Nat.beq id' id) (some (codeK O c.N L y an' K)) (orO (fromK O c.N L x an.l id (seqK (L id') K)) (fromK O c.N L y an' id K)) = some f := hF
      cases q : Nat.beq id' id with
      | true =>
        rw [q] at hF
        cases hF
        have := Nat.eq_of_beq_eq_true q
        subst this
        exact ⟨y.wp P Q, by rw [ho]; exact List.mem_append_right _ (List.mem_cons_self ..), codeK_sound E y an' K Q st a w g hfy hK hr h⟩
      | false =>
        rw [q] at hF
        simp only [cond_false] at hF
        cases ex : fromK O c.N L x an.l id (seqK (L id') K) with
        | some f' =>
          rw [ex] at hF
          cases hF
          obtain ⟨p, h1, h2⟩ := ihx an.l _ _ f st a w g hfx (hK.seq fun st' a' w' g' hr' h' => hf (id', y.wp P Q) (by rw [ho]; exact List.mem_append_right _ (List.mem_cons_self ..)) a' w' (E.L id' st' a' w' g' hr' h')) ex hr h
          exact ⟨p, List.mem_append_left _ h1, h2⟩
        | none =>
          rw [ex] at hF
          obtain ⟨p, h1, h2⟩ := ihy an' K Q f st a w g hfy hK hF hr h
          exact ⟨p, by rw [ho]; exact List.mem_append_right _ (List.mem_cons_of_mem _ h1), h2⟩
    | z => exact other _ e (by intros; simp)
    | n l r' => exact other _ e (by intros; simp)
    | lp i y' => exact other _ e (by intros; simp)
  | cond x t e iht ihe =>
    intro an K Q f st a w g hf hK hF hr h
    have hF : orO (fromK O c.N L t an.l id K) (fromK O c.N L e an.r id K) = some f := hF
    cases ex : fromK O c.N L t an.l id K with
    | some f' =>
      rw [ex] at hF
      cases hF
      obtain ⟨p, h1, h2⟩ := iht an.l K Q f st a w g (fun q hq => hf q (List.mem_append_left _ hq)) hK ex hr h
      exact ⟨p, List.mem_append_left _ h1, h2⟩
    | none =>
      rw [ex] at hF
      obtain ⟨p, h1, h2⟩ := ihe an.r K Q f st a w g (fun q hq => hf q (List.mem_append_right _ hq)) hK hF hr h
      exact ⟨p, List.mem_append_right _ h1, h2⟩
  | block bid b ih => intro an K Q f st a w g hf hK hF hr h; exact ih an (blockK bid K) _ f st a w g hf (hK.block bid) hF hr h
  | loop b ih =>
    intro an K Q f st a w g hf hK hF hr h
    cases an with
    | lp id' an' =>
      have hF : cond (Nat.beq id' id) (some (codeK O c.N L b an' (seqK (L id') K))) (fromK O c.N L b an' id (seqK (L id') K)) = some f := hF
      have hf' : Fits P W b an' (Exit.then (LoopIn P b Q) Q) := fun q hq => hf q (List.mem_cons_of_mem _ hq)
      have hK' : KOk c (seqK (L id') K) r (Exit.then (LoopIn P b Q) Q) := hK.seq fun st' a' w' g' hr' h' => hf (id', LoopIn P b Q) (List.mem_cons_self ..) a' w' (E.L id' st' a' w' g' hr' h')
      cases q : Nat.beq id' id with
      | true =>
        rw [q] at hF
        cases hF
        have := Nat.eq_of_beq_eq_true q
        subst this
        exact ⟨LoopIn P b Q, List.mem_cons_self .., .round (codeK_sound E b an' _ _ st a w g hf' hK' hr h)⟩
      | false =>
        rw [q] at hF
        obtain ⟨p, h1, h2⟩ := ih an' _ _ f st a w g hf' hK' hF hr h
        exact ⟨p, List.mem_cons_of_mem _ h1, h2⟩
    | _ => cases hF
  | scope b ih => intro an K Q f st a w g hf hK hF hr h; exact ih an K _ f st a w g hf hK.scope hF hr h
  | _ => intros; rename_i hF _ _; cases hF
end
end Go.Proofs.YthmedjljckbidaaDoor.Lift
