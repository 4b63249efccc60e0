/- What an operation that is light does, in every state that is alike where it looks. Conditions: as each theorem states them. -/
import Derived.Test.YthmedjljckbidaaDoorLiftP1
set_option linter.unusedVariables false
namespace Go.Proofs.YthmedjljckbidaaDoor.Lift
section
variable {C : Ctx}

/-- Behind an operation that may have made an object. -/
def aft {U : Nat → Type} (dst : Option Nat) (o : Option (Obj' U)) (st : St U) : St U :=
  match dst, o with
  | some d, some x => newObj' d x st
  | _, _ => st

/-- The state is the same where the operation looks. -/
structure Alike (C : Ctx) (ops : Array Oper) (o : Oper) (st st' : St C.S.U) : Prop where
  sl : ∀ t ∈ o.looksAt ops, st'.sl t = st.sl t
  mem : ∀ t ∈ o.looksAt ops, Same (keysA (st.sl t)) st st'
  cnt : ∀ d, o.dst = some d → st'.cnt d = st.cnt d
  ld : ∀ T p, o.op = .load T p → LoadS C T (avL (opd C [] 0 st p)) st st'

def Par {S : Sg} (e : Entry S) : Prop := ∀ (args : List (AV S.U)) (st st' : St S.U), (e.flat = true ∨ ∀ x ∈ args, keyless x = true) → (∀ x ∈ args, ∀ k ∈ keysA x, ∀ j, SameAt (st'.mem k.1 j) (st.mem k.1 j)) → ∀ (ρ : Type) (R : AV S.U → St S.U → Option ρ), e.run args st' R = (e.run args st fun z _ => some z).bind fun z => R z st'
def ParO {S : Sg} (O : Oracle S) : Prop := ∀ f e, O f = some e → Par e

theorem keysL_const {U : Nat → Type} (v : Value) : keysL (constLV U v) = [] := by
  unfold constLV
  split <;> first | rfl | (cases (and _ _) <;> rfl)

theorem looks_mem {ops : Array Oper} {o : Oper} {t : Nat} (h : Operand.tmp t ∈ o.op.operands.toList) : t ∈ o.looksAt ops := by
  unfold Oper.looksAt
  exact List.mem_append.2 (.inl (List.mem_filterMap.2 ⟨_, h, rfl⟩))

theorem opd_same {T : Nat} {st st' : St C.S.U} : ∀ (x : Operand), (∀ t, x = .tmp t → st'.sl t = st.sl t) → opd C [] T st' x = opd C [] T st x
  | .tmp t, h => h t rfl
  | .const v, _ => by cases v <;> rfl
  | .func _, _ => rfl
  | .global k, _ => by simp only [opd]

theorem keysA_agg {U : Nat → Type} : ∀ (l : List Value), ((l.map (constLV U)).map keysL).flatten = []
  | [] => rfl
  | v :: l => by
    simp only [List.map_cons, List.flatten_cons, keysL_const, List.nil_append]
    exact keysA_agg l

theorem keys_opd {T : Nat} {st : St C.S.U} : ∀ (x : Operand), (∀ t, x ≠ .tmp t) → keysA (opd C [] T st x) = []
  | .tmp t, h => absurd rfl (h t)
  | .const v, _ => by
    cases v
    case agg cs =>
      simp only [opd]
      split
      · cases (and _ _)
        · rfl
        · exact keysA_agg _
      · rfl
    all_goals first | rfl | exact keysL_const _
  | .func _, _ => rfl
  | .global k, _ => by
    simp only [opd]
    split <;> rfl

theorem keys_av {U : Nat → Type} (x : AV U) : ∀ k ∈ keysL (avL x), k ∈ keysA x := by
  cases x <;> first | exact fun k h => h | exact fun k h => nomatch h

theorem lkpA_mem {α : Type} {i : Nat} {x : α} : ∀ (ps : List (Nat × α)), lkp i ps = some x → ∃ p ∈ ps, p.2 = x
  | [], e => nomatch e
  | p :: ps, e => by
    have e : (cond (Nat.beq p.1 i) (some p.2) (lkp i ps)) = some x := e
    cases q : Nat.beq p.1 i with
    | true => rw [q] at e; cases e; exact ⟨p, List.mem_cons_self .., rfl⟩
    | false =>
      rw [q] at e
      obtain ⟨p', h1, h2⟩ := lkpA_mem ps e
      exact ⟨p', List.mem_cons_of_mem _ h1, h2⟩

theorem buildL_same {st st' : St C.S.U} {t : Ty} : ∀ (n i : Nat) (ps : List (Nat × AV C.S.U)), (∀ p ∈ ps, Same (keysA p.2) st st') → buildL C st' t n i ps = buildL C st t n i ps
  | 0, _, _, _ => rfl
  | n + 1, i, ps, h => by
    simp only [buildL]
    rw [buildL_same n (i + 1) ps h]
    cases e : lkp i ps with
    | none => rfl
    | some x =>
      have hx : ∃ p ∈ ps, p.2 = x := lkpA_mem ps e
      obtain ⟨p, hp, rfl⟩ := hx
      simp only [toA_same (t := t) (h p hp)]

theorem opd_map {st st' : St C.S.U} {T : Nat} {l : List Operand} (h : ∀ x ∈ l, opd C [] T st' x = opd C [] T st x) : l.map (opd C [] T st') = l.map (opd C [] T st) := List.map_congr_left h

theorem light_spec {O : Oracle C.S} (hO : ParO O) {ops : Array Oper} {o : Oper} {st : St C.S.U} (h : light C O o st = true) :
    ∃ v : Option (AV C.S.U × Option (Obj' C.S.U)), ∀ st', Alike C ops o st st' → ∀ (ρ : Type) (K : AV C.S.U → St C.S.U → Option ρ), opK C O [] o st' K = v.bind fun p => K p.1 (aft o.dst p.2 st') := by
  have E : ∀ (x : Operand), x ∈ o.op.operands.toList → ∀ st', Alike C ops o st st' → ∀ T, opd C [] T st' x = opd C [] T st x := fun x hx st' ha T => opd_same x fun t e => ha.sl t (looks_mem (e ▸ hx))
  have G : ∀ (x : Operand), x ∈ o.op.operands.toList → ∀ st', Alike C ops o st st' → ∀ T, Same (keysA (opd C [] T st x)) st st' := fun x hx st' ha T => by
    by_cases q : ∃ t, x = .tmp t
    · obtain ⟨t, rfl⟩ := q
      exact ha.mem t (looks_mem hx)
    · rw [keys_opd x fun t e => q ⟨t, e⟩]
      exact fun k hk => nomatch hk
  have GL : ∀ (x : Operand), x ∈ o.op.operands.toList → ∀ st', Alike C ops o st st' → ∀ T, Same (keysL (avL (opd C [] T st x))) st st' := fun x hx st' ha T => (G x hx st' ha T).sub (keys_av _)
  have rk : (∀ st', Alike C ops o st st' → ∀ (ρ : Type) (K : AV C.S.U → St C.S.U → Option ρ), opK C O [] o st' K = (opK C O [] o st fun z _ => some z).bind fun z => K z st') → ∃ v : Option (AV C.S.U × Option (Obj' C.S.U)), ∀ st', Alike C ops o st st' → ∀ (ρ : Type) (K : AV C.S.U → St C.S.U → Option ρ), opK C O [] o st' K = v.bind fun p => K p.1 (aft o.dst p.2 st') := fun h =>
    ⟨(opK C O [] o st fun z _ => some z).map fun z => (z, none), fun st' ha ρ K => by
      rw [h st' ha]
      cases opK C O [] o st fun z _ => some z with
      | none => rfl
      | some z => cases o.dst <;> rfl⟩
  have nk : ∀ (f : Nat → Nat → LV C.S.U) (ob : Option (Obj' C.S.U)), (∀ st', Alike C ops o st st' → ∀ (ρ : Type) (K : AV C.S.U → St C.S.U → Option ρ), opK C O [] o st' K = ob.bind fun x => newK o.dst x f st' K) → ∃ v : Option (AV C.S.U × Option (Obj' C.S.U)), ∀ st', Alike C ops o st st' → ∀ (ρ : Type) (K : AV C.S.U → St C.S.U → Option ρ), opK C O [] o st' K = v.bind fun p => K p.1 (aft o.dst p.2 st') := fun f ob h =>
    ⟨ob.bind fun x => o.dst.map fun d => (.l (f d (st.cnt d + 1)), some x), fun st' ha ρ K => by
      rw [h st' ha]
      cases ob with
      | none => rfl
      | some x =>
        cases e : o.dst with
        | none => rfl
        | some d =>
          show K (.l (f d (st'.cnt d + 1))) _ = K (.l (f d (st.cnt d + 1))) _
          rw [ha.cnt d e]
          rfl⟩
  cases e : o.op
  case move x => exact rk fun st' ha ρ K => by simp only [opK, e, E x (by simp [e, Op.operands]) st' ha, Option.bind_some]
  case assign x => exact rk fun st' ha ρ K => by simp only [opK, e, E x (by simp [e, Op.operands]) st' ha, Option.bind_some]
  case pick c a b =>
    exact rk fun st' ha ρ K => by
      simp only [opK, e, E c (by simp [e, Op.operands]) st' ha, E a (by simp [e, Op.operands]) st' ha, E b (by simp [e, Op.operands]) st' ha]
      rw [pickK_nat, pickK_nat (R := fun y => some (AV.l y))]
      cases pickK C _ _ _ some <;> rfl
  case alloc T =>
    refine nk (fun d j => .ref d j 0) (match lkp T C.ty with | some (.d t _ _) => some (.box (zcells C.S dep t)) | some (.a t n _) => some (.box (List.replicate n (zcells C.S dep t)).flatten) | some .b => some (.bld T .nils) | some .o => some (.box [.junk]) | some (.m _ _) => some (.box [.junk]) | _ => none) fun st' ha ρ K => ?_
    simp only [opK, e]
    split <;> simp_all
  case box T x =>
    refine nk (fun d j => .ref d j 0) ((cellsOf C T (opd C [] T st x) some).map .box) fun st' ha ρ K => ?_
    simp only [opK, e, E x (by simp [e, Op.operands]) st' ha]
    rw [cellsOf_nat]
    cases cellsOf C T (opd C [] T st x) some <;> rfl
  case build T ps =>
    exact rk fun st' ha ρ K => by
      have : ps.toList.map (fun p => (p.1, opd C [] 0 st' p.2)) = ps.toList.map fun p => (p.1, opd C [] 0 st p.2) := List.map_congr_left fun p hp => by rw [E p.2 (by simp only [e, Op.operands]; exact List.mem_map.2 ⟨p, hp, rfl⟩) st' ha]
      simp only [opK, e, this]
      split
      · cases (and _ _)
        · rfl
        · simp only [cond_true]
          split <;> rfl
      · rfl
  case buildSlice T n ps =>
    have hm : ∀ p ∈ ps.toList, p.2 ∈ o.op.operands.toList := fun p hp => by simp only [e, Op.operands]; exact List.mem_map.2 ⟨p, hp, rfl⟩
    simp only [light, e, List.all_eq_true] at h
    refine nk .row (match lkp T C.ty with | some (.d (.sl t) _ E) => cond (incrB 0 (ps.toList.map fun p => p.1) && (ps.toList.all fun p => Nat.blt p.1 n) && Nat.ble (n * sz C.S dep t) 16777216) ((buildL C st t n 0 (ps.toList.map fun p => (p.1, opd C [] 0 st p.2))).map (Obj'.row E t)) none | _ => none) fun st' ha ρ K => ?_
    have h1 : ps.toList.map (fun p => (p.1, opd C [] 0 st' p.2)) = ps.toList.map fun p => (p.1, opd C [] 0 st p.2) := List.map_congr_left fun p hp => by rw [E p.2 (hm p hp) st' ha]
    have h2 : frzAs (ps.toList.map fun p => opd C [] 0 st' p.2) st' = st' := frzAs_keyless fun x hx => by
      obtain ⟨p, hp, rfl⟩ := List.mem_map.1 hx
      rw [E p.2 (hm p hp) st' ha]
      exact h p hp
    simp only [opK, e, h1, h2]
    cases lkp T C.ty with
    | none => rfl
    | some ti =>
      cases ti with
      | o => rfl
      | n => rfl
      | m _ _ => rfl
      | a _ _ _ => rfl
      | b => rfl
      | d t eb E' =>
        cases t with
        | sl t =>
          simp only
          rw [buildL_same n 0 _ fun p hp => by
            obtain ⟨q, hq, rfl⟩ := List.mem_map.1 hp
            exact G q.2 (hm q hq) st' ha 0]
          cases (and (and _ _) _)
          · rfl
          · simp only [cond_true]
            cases buildL C st t n 0 _ <;> rfl
        | _ => rfl
  case load T x =>
    exact rk fun st' ha ρ K => by
      simp only [opK, e, E x (by simp [e, Op.operands]) st' ha]
      exact loadK_nat (GL x (by simp [e, Op.operands]) st' ha 0) (ha.ld T x e)
  case nilCheck x =>
    exact rk fun st' ha ρ K => by
      simp only [opK, e, E x (by simp [e, Op.operands]) st' ha]
      split <;> rfl
  case binOp op T x y T' =>
    exact rk fun st' ha ρ K => by
      simp only [opK, e, E x (by simp [e, Op.operands]) st' ha, E y (by simp [e, Op.operands]) st' ha]
      split
      · rename_i n _ _ _
        rw [toA_same (G x (by simp [e, Op.operands]) st' ha T), toA_same (G y (by simp [e, Op.operands]) st' ha T)]
        cases memB T C.eqs
        · rfl
        · simp only [cond_true]
          split
          · split <;> rfl
          · rfl
      · rw [binOpK_nat, binOpK_nat (R := fun z => some (AV.l z))]
        cases binT C T op _ _
        · rfl
        · cases binOpK C op _ _ y some <;> rfl
  case unOp op T x =>
    exact rk fun st' ha ρ K => by
      simp only [opK, e, E x (by simp [e, Op.operands]) st' ha]
      rw [unOpK_nat, unOpK_nat (R := fun z => some (AV.l z))]
      cases unOpK C op _ some <;> rfl
  case convert T U x =>
    exact rk fun st' ha ρ K => by
      simp only [opK, e, E x (by simp [e, Op.operands]) st' ha]
      exact convertK_nat (GL x (by simp [e, Op.operands]) st' ha 0)
  case makeInterface T x =>
    simp only [light, e] at h
    exact rk fun st' ha ρ K => by
      simp only [opK, e, E x (by simp [e, Op.operands]) st' ha, frzA_keyless h]
      split
      · rw [toA_same (G x (by simp [e, Op.operands]) st' ha T)]
        split <;> rfl
      · rfl
  case makeFunc fn first caps =>
    exact rk fun st' ha ρ K => by
      have : caps.toList.map (fun c => avL (opd C [] 0 st' c)) = caps.toList.map fun c => avL (opd C [] 0 st c) := List.map_congr_left fun c hc => by rw [E c (by simp only [e, Op.operands, Array.toList_append]; exact List.mem_append.2 (.inr hc)) st' ha]
      simp only [opK, e, this]
      rw [makeFuncK_nat, makeFuncK_nat (R := fun z => some (AV.l z))]
      cases makeFuncK C fn first.toList _ some <;> rfl
  case makeSlice T n c =>
    refine nk .row (match lkp T C.ty with | some (.d (.sl t) eb E) => (match zero C.S dep t, asI (avL (opd C [] 0 st n)), asI (avL (opd C [] 0 st c)) with | some z, some n, some c => (lmake eb n c z).map (Obj'.row E t) | _, _, _ => none) | _ => none) fun st' ha ρ K => ?_
    simp only [opK, e, E n (by simp [e, Op.operands]) st' ha, E c (by simp [e, Op.operands]) st' ha]
    cases lkp T C.ty with
    | none => rfl
    | some ti =>
      cases ti with
      | o => rfl
      | n => rfl
      | m _ _ => rfl
      | a _ _ _ => rfl
      | b => rfl
      | d t eb E' =>
        cases t with
        | sl t =>
          simp only
          cases zero C.S dep t with
          | none => rfl
          | some z =>
            cases asI (avL (opd C [] 0 st n)) with
            | none => rfl
            | some n =>
              cases asI (avL (opd C [] 0 st c)) with
              | none => rfl
              | some c =>
                simp only
                cases lmake eb n c z <;> rfl
        | _ => rfl
  case makeMap T n =>
    refine nk .mp (match lkp T C.ty with | some (.m k e') => (match lkp k C.ty, lkp e' C.ty with | some (.d kt _ _), some (.d vt _ _) => cond (isIntO (n.map fun x => avL (opd C [] 0 st x))) (some (.map kt vt [] [])) none | _, _ => none) | _ => none) fun st' ha ρ K => ?_
    have hn : (n.map fun x => avL (opd C [] 0 st' x)) = n.map fun x => avL (opd C [] 0 st x) := by
      cases n with
      | none => rfl
      | some y => simp only [Option.map_some, E y (by simp [e, Op.operands]) st' ha]
    simp only [opK, e, hn, makeMapK]
    split
    · split
      · cases isIntO (n.map fun x => avL (opd C [] 0 st x)) <;> simp_all
      · simp_all
    · simp_all
  case lookup T x i ok =>
    exact rk fun st' ha ρ K => by
      simp only [opK, e, E x (by simp [e, Op.operands]) st' ha, E i (by simp [e, Op.operands]) st' ha]
      exact lookupK_nat (GL x (by simp [e, Op.operands]) st' ha 0) (GL i (by simp [e, Op.operands]) st' ha 0)
  case slice T x lo hi mx =>
    simp only [light, e] at h
    exact rk fun st' ha ρ K => by
      have hl : (lo.map fun y => avL (opd C [] 0 st' y)) = lo.map fun y => avL (opd C [] 0 st y) := by
        cases lo with
        | none => rfl
        | some y => simp only [Option.map_some, E y (by simp [e, Op.operands]) st' ha]
      have hh : (hi.map fun y => avL (opd C [] 0 st' y)) = hi.map fun y => avL (opd C [] 0 st y) := by
        cases hi with
        | none => rfl
        | some y => simp only [Option.map_some, E y (by simp [e, Op.operands]) st' ha]
      simp only [opK, e, E x (by simp [e, Op.operands]) st' ha, hl, hh]
      split
      · refine sliceK_nat ?_
        have : keysA (opd C [] 0 st x) = [] := by unfold keyless at h; simpa using h
        exact List.eq_nil_iff_forall_not_mem.2 fun k hk => by have := keys_av _ k hk; simp_all
      · rfl
  case fieldAddr T x f =>
    exact rk fun st' ha ρ K => by
      simp only [opK, e, E x (by simp [e, Op.operands]) st' ha]
      rw [fieldAddrK_nat (GL x (by simp [e, Op.operands]) st' ha 0), fieldAddrK_nat (st := st) (st' := st) (fun _ _ _ => .inl rfl) (R := fun z => some (AV.l z))]
      cases fieldAddrK C T f _ st some <;> rfl
  case field T x f =>
    exact rk fun st' ha ρ K => by
      simp only [opK, e, E x (by simp [e, Op.operands]) st' ha]
      split
      · cases (Nat.beq _ _)
        · rfl
        · simp only [cond_true]
          rw [fieldOf_nat, fieldOf_nat (R := fun t z => some (AV.l (.v t z)))]
          cases fieldOf _ _ f fun t x => some (Sigma.mk (β := El C.S.U) t x) <;> rfl
      · cases (Nat.beq _ _)
        · rfl
        · simp only [cond_true]
          split
          · rfl
          · split <;> rfl
          · rfl
      · rfl
  case indexAddr T x i =>
    exact rk fun st' ha ρ K => by
      simp only [opK, e, E x (by simp [e, Op.operands]) st' ha, E i (by simp [e, Op.operands]) st' ha]
      split
      · rw [indexAddrK_nat (GL x (by simp [e, Op.operands]) st' ha 0), indexAddrK_nat (st := st) (st' := st) (fun _ _ _ => .inl rfl) (R := fun z => some (AV.l z))]
        cases indexAddrK C T _ _ st some <;> rfl
      · rfl
  case index T x i =>
    exact rk fun st' ha ρ K => by
      simp only [opK, e, E x (by simp [e, Op.operands]) st' ha, E i (by simp [e, Op.operands]) st' ha]
      split
      · cases sat _ _ <;> rfl
      · rfl
  case typeAssert x T U ok =>
    exact rk fun st' ha ρ K => by
      simp only [opK, e, E x (by simp [e, Op.operands]) st' ha]
      rw [typeAssertK_nat, typeAssertK_nat (R := fun z => some z)]
  case extract x i =>
    exact rk fun st' ha ρ K => by
      simp only [opK, e, E x (by simp [e, Op.operands]) st' ha]
      split
      · split <;> rfl
      · rfl
  case call cl =>
    obtain ⟨ca, as, ts⟩ := cl
    simp only [light, e] at h
    have hm : ∀ x ∈ as.toList, x ∈ o.op.operands.toList := fun x hx => by simp only [e, Op.operands, Call.operands, Array.toList_append]; exact List.mem_append.2 (.inr hx)
    cases ca with
    | value f =>
      simp only at h
      have hf : f ∈ o.op.operands.toList := by simp [e, Op.operands, Call.operands]
      split at h
      · rename_i fid caps ef
        split at h
        · rename_i en eo
          refine rk fun st' ha ρ K => ?_
          have hargs := opd_map (T := 0) fun x hx => E x (hm x hx) st' ha 0
          simp only [opK, e, callOpK, E f hf st' ha, ef, callK, eo, hargs]
          refine hO fid en eo _ st st' ?_ ?_ ρ K
          · simp only [Bool.or_eq_true, Bool.and_eq_true, List.all_eq_true, List.isEmpty_iff] at h
            rcases h with h | ⟨rfl, h⟩
            · exact .inl h
            · refine .inr fun x hx => ?_
              simp only [List.map_nil, List.append_nil] at hx
              obtain ⟨y, hy, rfl⟩ := List.mem_map.1 hx
              exact h y hy
          · intro x hx
            rcases List.mem_append.1 hx with hx | hx
            · obtain ⟨y, hy, rfl⟩ := List.mem_map.1 hx
              exact G y (hm y hy) st' ha 0
            · obtain ⟨q, hq, rfl⟩ := List.mem_map.1 hx
              have := GL f hf st' ha 0
              rw [ef] at this
              exact this.sub fun k hk => by
                have : k = (q.1, q.2.1) := by simpa [keysA, keysL] using hk
                rw [this]
                exact List.mem_map.2 ⟨q, hq, rfl⟩
        · cases h
      · cases h
    | invoke r m => cases h
    | builtin b =>
      cases b <;> simp only at h <;> first | (cases h; done) | skip
      case len =>
        refine rk fun st' ha ρ K => ?_
        simp only [opK, e, callOpK, builtinK]
        split
        · rename_i x T e1 _
          have hx : x ∈ o.op.operands.toList := hm x (by rw [e1]; simp)
          rw [E x hx st' ha, lenK_nat (GL x hx st' ha 0), lenK_nat (st := st) (st' := st) (fun _ _ _ => .inl rfl) (R := fun z => some (AV.l z))]
          cases lenK C T _ st some <;> rfl
        · rfl
      case min =>
        refine rk fun st' ha ρ K => ?_
        have hargs : as.toList.map (fun x => avL (opd C [] 0 st' x)) = as.toList.map fun x => avL (opd C [] 0 st x) := List.map_congr_left fun x hx => by rw [E x (hm x hx) st' ha]
        simp only [opK, e, callOpK, builtinK, hargs]
        rw [minK_nat, minK_nat (R := fun z => some (AV.l z))]
        cases minK C true _ some <;> rfl
      case max =>
        refine rk fun st' ha ρ K => ?_
        have hargs : as.toList.map (fun x => avL (opd C [] 0 st' x)) = as.toList.map fun x => avL (opd C [] 0 st x) := List.map_congr_left fun x hx => by rw [E x (hm x hx) st' ha]
        simp only [opK, e, callOpK, builtinK, hargs]
        rw [minK_nat, minK_nat (R := fun z => some (AV.l z))]
        cases minK C false _ some <;> rfl
  all_goals (exfalso; revert h; simp [light, e])
end
end Go.Proofs.YthmedjljckbidaaDoor.Lift
