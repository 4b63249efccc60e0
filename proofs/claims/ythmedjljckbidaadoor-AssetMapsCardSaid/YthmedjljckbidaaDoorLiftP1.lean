/- Operations whose answer hangs on what their operands name alone. Conditions: as each theorem states them. -/
import Derived.Test.YthmedjljckbidaaDoorLiftP
set_option linter.unusedVariables false
namespace Go.Proofs.YthmedjljckbidaaDoor.Lift
section
variable {S : Sg} {ρ : Type}

/-- Memory is the same at these keys. -/
def Same {U : Nat → Type} (ks : List (Nat × Nat)) (st st' : St U) : Prop := ∀ k ∈ ks, ∀ j, SameAt (st'.mem k.1 j) (st.mem k.1 j)

theorem Same.sub {U : Nat → Type} {ks ls : List (Nat × Nat)} {st st' : St U} (h : Same ks st st') (hs : ∀ k ∈ ls, k ∈ ks) : Same ls st st' := fun k hk => h k (hs k hk)

theorem toData_same {U : Nat → Type} {st st' : St U} {t : Ty} {x : LV U} (h : Same (keysL x) st st') : toData st' t x = toData st t x := by
  cases x <;> try rfl
  case row d j =>
    have := h (d, j) (by simp [keysL]) j
    simp only [toData]
    rcases this with q | ⟨_, _, q1, q2⟩
    · rw [show st'.mem d j = st.mem d j from q]
    · rw [show st'.mem d j = _ from q1, show st.mem d j = _ from q2]

theorem stillL_same {U : Nat → Type} {st st' : St U} {x : LV U} (h : Same (keysL x) st st') : stillL st' x = stillL st x := by
  cases x <;> try rfl
  case row d j =>
    have := h (d, j) (by simp [keysL]) j
    simp only [stillL]
    rcases this with q | ⟨_, _, q1, q2⟩
    · rw [show st'.mem d j = st.mem d j from q]
    · rw [show st'.mem d j = _ from q1, show st.mem d j = _ from q2]

theorem gatherL_same {U : Nat → Type} {p : LV U → Prop} {g g' : (t : Ty) → List (LV U) → Option (El U t × List (LV U))} (hg : ∀ t cs, (∀ c ∈ cs, p c) → g' t cs = g t cs) (hs : ∀ t cs x r, g t cs = some (x, r) → ∀ c ∈ r, c ∈ cs) :
    ∀ (ts : List Ty) (cs : List (LV U)), ((∀ c ∈ cs, p c) → gatherL g' ts cs = gatherL g ts cs) ∧ (∀ h r, gatherL g ts cs = some (h, r) → ∀ c ∈ r, c ∈ cs)
  | [], cs => ⟨fun _ => rfl, fun h r e => by cases e; exact fun c hc => hc⟩
  | t :: ts, cs => by
    refine ⟨fun hp => ?_, fun h r e => ?_⟩
    · simp only [gatherL, hg t cs hp]
      cases e : g t cs with
      | none => rfl
      | some q =>
        obtain ⟨x, cs'⟩ := q
        simp only [(gatherL_same hg hs ts cs').1 fun c hc => hp c (hs _ _ _ _ e c hc)]
    · simp only [gatherL] at e
      cases e1 : g t cs with
      | none => rw [e1] at e; cases e
      | some q =>
        obtain ⟨x, cs'⟩ := q
        rw [e1] at e
        simp only at e
        cases e2 : gatherL g ts cs' with
        | none => rw [e2] at e; cases e
        | some q =>
          obtain ⟨h', r'⟩ := q
          rw [e2] at e
          cases e
          exact fun c hc => hs _ _ _ _ e1 c ((gatherL_same hg hs ts cs').2 _ _ e2 c hc)

theorem gather_same {st st' : St S.U} : ∀ (d : Nat) (t : Ty) (cs : List (LV S.U)), ((∀ c ∈ cs, Same (keysL c) st st') → gather S st' d t cs = gather S st d t cs) ∧ (∀ x r, gather S st d t cs = some (x, r) → ∀ c ∈ r, c ∈ cs)
  | 0, t, cs => ⟨fun _ => rfl, fun x r e => nomatch e⟩
  | d + 1, .st n, cs => by
    have ih := fun t cs => (gather_same (st := st) (st' := st') d t cs)
    have := gatherL_same (p := fun c => Same (keysL c) st st') (fun t cs => (ih t cs).1) (fun t cs => (ih t cs).2) (S.fl n) cs
    refine ⟨fun hp => ?_, fun x r e => ?_⟩
    · simp only [gather, this.1 hp]
    · simp only [gather] at e
      cases e2 : gatherL (gather S st d) (S.fl n) cs with
      | none => rw [e2] at e; cases e
      | some q =>
        obtain ⟨h', r'⟩ := q
        rw [e2] at e
        cases e
        exact this.2 _ _ e2
  | d + 1, .int k, [] => ⟨fun _ => rfl, fun x r e => nomatch e⟩
  | d + 1, .bool, [] => ⟨fun _ => rfl, fun x r e => nomatch e⟩
  | d + 1, .str, [] => ⟨fun _ => rfl, fun x r e => nomatch e⟩
  | d + 1, .sl t, [] => ⟨fun _ => rfl, fun x r e => nomatch e⟩
  | d + 1, .int k, c :: cs => one d (.int k) c cs (fun _ _ _ => rfl)
  | d + 1, .bool, c :: cs => one d .bool c cs (fun _ _ _ => rfl)
  | d + 1, .str, c :: cs => one d .str c cs (fun _ _ _ => rfl)
  | d + 1, .sl t, c :: cs => one d (.sl t) c cs (fun _ _ _ => rfl)
where
  one (d : Nat) (t : Ty) (c : LV S.U) (cs : List (LV S.U)) (e : ∀ (st : St S.U) c cs, gather S st (d + 1) t (c :: cs) = match toData st t c with | some x => some (x, cs) | none => none) :
      ((∀ c' ∈ c :: cs, Same (keysL c') st st') → gather S st' (d + 1) t (c :: cs) = gather S st (d + 1) t (c :: cs)) ∧ (∀ x r, gather S st (d + 1) t (c :: cs) = some (x, r) → ∀ c' ∈ r, c' ∈ c :: cs) := by
    refine ⟨fun hp => ?_, fun x r h => ?_⟩
    · rw [e, e, toData_same (hp c (List.mem_cons_self ..))]
    · rw [e] at h
      split at h
      · cases h; exact fun c' hc => List.mem_cons_of_mem _ hc
      · cases h

theorem same_ag {U : Nat → Type} {st st' : St U} {cs : List (LV U)} (h : Same ((cs.map keysL).flatten) st st') : ∀ c ∈ cs, Same (keysL c) st st' := fun c hc => h.sub fun k hk => List.mem_flatten.2 ⟨_, List.mem_map.2 ⟨c, hc, rfl⟩, hk⟩

theorem toA_same {st st' : St S.U} {t : Ty} {x : AV S.U} (h : Same (keysA x) st st') : toA S st' t x = toA S st t x := by
  cases x with
  | l x => exact toData_same h
  | ag n cs => simp only [toA, (gather_same dep (.st n) cs).1 (same_ag h)]
  | _ => rfl

theorem all_still {U : Nat → Type} {st st' : St U} : ∀ {cs : List (LV U)}, (∀ c ∈ cs, Same (keysL c) st st') → cs.all (stillL st') = cs.all (stillL st)
  | [], _ => rfl
  | c :: cs, h => by
    simp only [List.all_cons, stillL_same (h c (List.mem_cons_self ..)), all_still fun c' hc => h c' (List.mem_cons_of_mem _ hc)]

theorem toF_same {st st' : St S.U} {t : Ty} {x : AV S.U} (h : Same (keysA x) st st') : toF S st' t x = toF S st t x := by
  unfold toF
  rw [toA_same h]
  cases x with
  | l x => simp only [stillL_same (show Same (keysL x) st st' from h)]
  | ag n cs =>
    simp only [all_still (same_ag h)]
  | _ => rfl

theorem argsOf_same {st st' : St S.U} : ∀ (pm : List PM) (as : List (AV S.U)), (∀ x ∈ as, Same (keysA x) st st') → argsOf S st' pm as = argsOf S st pm as
  | [], [], _ => rfl
  | [], _ :: _, _ => rfl
  | .d t :: r, [], _ => rfl
  | .d t :: r, x :: as, h => by
    simp only [argsOf, toA_same (h x (List.mem_cons_self ..)), argsOf_same r as fun y hy => h y (List.mem_cons_of_mem _ hy)]
  | .iv T t :: r, [], _ => rfl
  | .iv T t :: r, .ifv T' x :: as, h => by
    simp only [argsOf, toF_same (x := .l x) (show Same (keysA (.l x)) st st' from h (.ifv T' x) (List.mem_cons_self ..)), argsOf_same r as fun y hy => h y (List.mem_cons_of_mem _ hy)]
  | .iv T t :: r, .l x :: as, h => rfl
  | .iv T t :: r, .tup x :: as, h => rfl
  | .iv T t :: r, .ag n x :: as, h => rfl
  | .ref cs :: r, [], _ => rfl
  | .ref cs :: r, _ :: _, _ => rfl
  | .clo f cs :: r, [], _ => rfl
  | .clo f cs :: r, _ :: _, _ => rfl
  | .gh s cs :: r, [], _ => rfl
  | .gh s cs :: r, _ :: _, _ => rfl
  | .mp kt vt :: r, [], _ => rfl
  | .mp kt vt :: r, _ :: _, _ => rfl
  | .rw E t :: r, [], _ => rfl
  | .rw E t :: r, _ :: _, _ => rfl
  | .nl :: r, [], _ => rfl
  | .nl :: r, x :: as, h => by
    have ih := argsOf_same (st := st) (st' := st') r as fun y hy => h y (List.mem_cons_of_mem _ hy)
    simp only [argsOf, ih]
  | .fn f :: r, [], _ => rfl
  | .fn f :: r, x :: as, h => by
    have ih := argsOf_same (st := st) (st' := st') r as fun y hy => h y (List.mem_cons_of_mem _ hy)
    cases x with
    | l x =>
      cases x with
      | clo f' caps =>
        cases caps with
        | nil => simp only [argsOf, ih]
        | cons _ _ => rfl
      | _ => rfl
    | _ => rfl

theorem frz_keyless {U : Nat → Type} {st : St U} {x : LV U} (h : keysL x = []) : frz st x = st := by
  cases x <;> first | rfl | cases h

theorem frzL_keyless {U : Nat → Type} : ∀ {cs : List (LV U)} {st : St U}, (cs.map keysL).flatten = [] → frzL cs st = st
  | [], st, _ => rfl
  | c :: cs, st, h => by
    simp only [List.map_cons, List.flatten_cons, List.append_eq_nil_iff] at h
    simp only [frzL, frz_keyless h.1]
    exact frzL_keyless h.2

theorem frzA_keyless {U : Nat → Type} {st : St U} {x : AV U} (h : keyless x = true) : frzA st x = st := by
  unfold keyless at h
  rw [List.isEmpty_iff] at h
  cases x with
  | l x => exact frz_keyless h
  | ifv T x => exact frz_keyless h
  | ag n cs => exact frzL_keyless h
  | tup xs => rfl

theorem frzAs_keyless {U : Nat → Type} : ∀ {xs : List (AV U)} {st : St U}, (∀ x ∈ xs, keyless x = true) → frzAs xs st = st
  | [], st, _ => rfl
  | x :: xs, st, h => by
    simp only [frzAs, frzA_keyless (h x (List.mem_cons_self ..))]
    exact frzAs_keyless fun y hy => h y (List.mem_cons_of_mem _ hy)

/-- A summary made of a function of values hangs on what is handed in alone. -/
theorem entry_par {pm : List PM} {rs : List Ty} {F : HL S.U (PM.tys pm) → Option (RT S.U rs)} (args : List (AV S.U)) (st st' : St S.U) (hf : (entryOf S pm rs F).flat = true ∨ ∀ x ∈ args, keyless x = true) (h : ∀ x ∈ args, ∀ k ∈ keysA x, ∀ j, SameAt (st'.mem k.1 j) (st.mem k.1 j)) (ρ : Type) (R : AV S.U → St S.U → Option ρ) :
    (entryOf S pm rs F).run args st' R = ((entryOf S pm rs F).run args st fun z _ => some z).bind fun z => R z st' := by
  simp only [entryOf]
  rw [argsOf_same (st := st) (st' := st') pm args h]
  cases argsOf S st pm args with
  | none => rfl
  | some hh =>
    simp only
    cases F hh with
    | none => rfl
    | some x =>
      simp only [Option.bind_some]
      rcases hf with hf | hf
      · have hf : rs.all Ty.flat = true := hf
        rw [hf]; rfl
      · rw [frzAs_keyless hf]
        cases rs.all Ty.flat <;> rfl
end

/-! Each reckoning hands its answer on. -/
section
variable {C : Ctx} {ρ : Type} {st st' : St C.S.U}

theorem pickV_nat {c : Bool} {a b : LV C.S.U} {R : LV C.S.U → Option ρ} : pickV C c a b R = (pickV C c a b some).bind R := by
  unfold pickV
  repeat' split
  all_goals rfl

theorem pickK_nat {c a b : LV C.S.U} {R : LV C.S.U → Option ρ} : pickK C c a b R = (pickK C c a b some).bind R := by
  unfold pickK
  repeat' split
  all_goals first | rfl | exact pickV_nat

theorem fieldOf_nat {U : Nat → Type} : ∀ (ts : List Ty) (h : HL U ts) (i : Nat) (R : (t : Ty) → El U t → Option ρ), fieldOf ts h i R = (fieldOf ts h i fun t x => some (Sigma.mk (β := El U) t x)).bind fun p => R p.1 p.2
  | [], _, _, _ => rfl
  | _ :: _, _, 0, _ => rfl
  | _ :: ts, h, i + 1, R => fieldOf_nat ts h.2 i R

theorem followK_nat {S : Sg} : ∀ (fs : List Nat) (t : Ty) (x : El S.U t) (R : (t : Ty) → El S.U t → Option ρ), followK S fs t x R = (followK S fs t x fun t x => some (Sigma.mk (β := El S.U) t x)).bind fun p => R p.1 p.2
  | [], _, _, _ => rfl
  | f :: fs, .st n, x, R => by
    simp only [followK]
    rw [fieldOf_nat, fieldOf_nat (R := fun t y => followK S fs t y fun t x => some (Sigma.mk (β := El S.U) t x))]
    cases fieldOf (S.fl n) (S.out n x) f fun t x => some (Sigma.mk (β := El S.U) t x) with
    | none => rfl
    | some p => exact followK_nat fs p.1 p.2 R
  | _ :: _, .int _, _, _ => rfl
  | _ :: _, .bool, _, _ => rfl
  | _ :: _, .str, _, _ => rfl
  | _ :: _, .sl _, _, _ => rfl

theorem asT_nat {T : Nat} {t : Ty} {y : El C.S.U t} {R : (t : Ty) → El C.S.U t → Option ρ} : asT C T t y R = (asT C T t y fun t x => some (Sigma.mk (β := El C.S.U) t x)).bind fun p => R p.1 p.2 := by
  unfold asT
  repeat' split
  all_goals rfl

theorem follow_asT {T : Nat} {fs : List Nat} {t : Ty} {y : El C.S.U t} {σ τ : Type} {g : (t : Ty) → El C.S.U t → Option σ} {h : σ → Option τ} : (followK C.S fs t y fun u z => asT C T u z fun u z => (g u z).bind h) = (followK C.S fs t y fun u z => asT C T u z g).bind h := by
  rw [followK_nat, followK_nat (R := fun u z => asT C T u z g)]
  cases followK C.S fs t y fun t x => some (Sigma.mk (β := El C.S.U) t x) with
  | none => rfl
  | some p =>
    simp only [Option.bind_some]
    rw [asT_nat, asT_nat (R := g)]
    cases asT C T p.1 p.2 fun t x => some (Sigma.mk (β := El C.S.U) t x) with
    | none => rfl
    | some p => rfl

/-- What a load reads of a box is the same. -/
def LoadS (C : Ctx) (T : Nat) (x : LV C.S.U) (st st' : St C.S.U) : Prop := ∀ d j off, x = .ref d j off → st'.mem d j = st.mem d j ∨ ∃ c c', st.mem d j = some (.box c) ∧ st'.mem d j = some (.box c') ∧ c'.length = c.length ∧ ∀ i, off ≤ i → i < off + szT C T → c'[i]? = c[i]?

theorem take_same {α : Type} {l l' : List α} {off n : Nat} (h : ∀ i, off ≤ i → i < off + n → l'[i]? = l[i]?) : (l'.drop off).take n = (l.drop off).take n := by
  apply List.ext_getElem?
  intro i
  by_cases hi : i < n
  · simp only [List.getElem?_take, hi, if_true, List.getElem?_drop]
    exact h (off + i) (by omega) (by omega)
  · simp only [List.getElem?_take, hi, if_false]

theorem loadK_nat {T : Nat} {x : LV C.S.U} (h : Same (keysL x) st st') (hl : LoadS C T x st st') {R : AV C.S.U → St C.S.U → Option ρ} : loadK C T x st' R = (loadK C T x st fun z _ => some z).bind fun z => R z st' := by
  unfold loadK
  split
  · rename_i d j off
    rcases hl d j off rfl with q | ⟨c, c', q1, q2, q3, q4⟩
    · rw [q]
      split
      · split
        · cases (Nat.ble _ _) <;> rfl
        · rfl
        · rfl
        · rfl
        · split <;> rfl
        · rfl
      · rfl
    · rw [q1, q2]
      simp only
      unfold szT at q4
      split
      · rename_i n _ _ e
        rw [e] at q4
        rw [q3, take_same q4]
        cases (Nat.ble _ _) <;> rfl
      · rfl
      · rfl
      · rfl
      · rename_i hne _ _ _ e
        have : c'[off]? = c[off]? := q4 off (Nat.le_refl _) (by
          split
          · rename_i n eb E' e2
            rw [e] at e2
            exact absurd (Option.some.inj e2) (hne n eb E')
          · omega)
        rw [this]
        split <;> rfl
      · rfl
  · rw [asT_nat, asT_nat (R := fun u z => some (AV.l (.v u z)))]
    cases asT C T _ _ fun t x => some (Sigma.mk (β := El C.S.U) t x) <;> rfl
  · rename_i d j i fs
    rcases h (d, j) (by simp [keysL]) j with q | ⟨_, _, q1, q2⟩
    · rw [show st'.mem d j = st.mem d j from q]
      split
      · cases lat _ i with
        | none => rfl
        | some y => exact follow_asT (g := fun u z => some (AV.l (.v u z))) (h := fun z => R z st')
      · cases lat _ i with
        | none => rfl
        | some y => exact follow_asT (g := fun u z => some (AV.l (.v u z))) (h := fun z => R z st')
      · rfl
    · rw [show st'.mem d j = _ from q1, show st.mem d j = _ from q2]
      rfl
  · rfl

theorem fieldAddrK_nat {T f : Nat} {x : LV C.S.U} (h : Same (keysL x) st st') {R : LV C.S.U → Option ρ} : fieldAddrK C T f x st' R = (fieldAddrK C T f x st some).bind R := by
  unfold fieldAddrK
  split
  · cases (Nat.blt f _)
    · rfl
    · simp only [cond_true]
      split
      · rfl
      · cases (Nat.beq _ _)
        · rfl
        · simp only [cond_true]
          rw [fieldOf_nat, fieldOf_nat (R := fun t y => some (LV.pt t y))]
          cases fieldOf _ _ f fun t x => some (Sigma.mk (β := El C.S.U) t x) <;> rfl
      · rename_i d j i fs
        rcases h (d, j) (by simp [keysL]) j with q | ⟨_, _, q1, q2⟩
        · rw [show st'.mem d j = st.mem d j from q]
          split
          · cases (Nat.beq _ _) <;> rfl
          · rfl
        · rw [show st'.mem d j = _ from q1, show st.mem d j = _ from q2]
          rfl
      · rfl
  · rfl

theorem intOp_nat {op : BinOp} {k : IntKind} {m n : Int} {y : Operand} {R : LV C.S.U → Option ρ} : intOp C op k m n y R = (intOp C op k m n y some).bind R := by
  unfold intOp
  split
  all_goals first
    | rfl
    | (cases isZero y <;> cases ieq n 0 <;> rfl)
    | (split <;> (cases (ilt _ 0) <;> rfl))

theorem strOp_nat {op : BinOp} {a b : ByteArray} {R : LV C.S.U → Option ρ} : strOp C op a b R = (strOp C op a b some).bind R := by
  unfold strOp
  split
  all_goals first
    | rfl
    | (cases scat a b <;> rfl)

theorem binOpK_nat {op : BinOp} {x y : LV C.S.U} {yo : Operand} {R : LV C.S.U → Option ρ} : binOpK C op x y yo R = (binOpK C op x y yo some).bind R := by
  unfold binOpK
  split
  · exact intOp_nat
  · exact strOp_nat
  · split
    · split <;> rfl
    · rfl

theorem unOpK_nat {op : UnOp} {x : LV C.S.U} {R : LV C.S.U → Option ρ} : unOpK C op x R = (unOpK C op x some).bind R := by
  unfold unOpK
  split
  · rfl
  · split <;> rfl
  · rfl
  · rfl
  · rfl

theorem convertK_nat {T U : Nat} {x : LV C.S.U} (h : Same (keysL x) st st') {R : AV C.S.U → St C.S.U → Option ρ} : convertK C T U x st' R = (convertK C T U x st fun z _ => some z).bind fun z => R z st' := by
  unfold convertK
  rw [show toData st' (.sl (.int .u8)) x = toData st (.sl (.int .u8)) x from toData_same h]
  repeat' split
  all_goals first | rfl | simp_all

theorem lenK_nat {T : Nat} {x : LV C.S.U} (h : Same (keysL x) st st') {R : LV C.S.U → Option ρ} : lenK C T x st' R = (lenK C T x st some).bind R := by
  unfold lenK
  split
  · rfl
  · rfl
  · rfl
  · rename_i b a _
    rcases h (b, a) (by simp [keysL]) a with q | ⟨_, _, q1, q2⟩
    · rw [show st'.mem b a = st.mem b a from q]
      cases st.mem b a with
      | none => rfl
      | some q => cases q <;> rfl
    · rw [show st'.mem b a = _ from q1, show st.mem b a = _ from q2]
      rfl
  · rename_i b a _
    rcases h (b, a) (by simp [keysL]) a with q | ⟨_, _, q1, q2⟩
    · rw [show st'.mem b a = st.mem b a from q]
      cases st.mem b a with
      | none => rfl
      | some q => cases q <;> rfl
    · rw [show st'.mem b a = _ from q1, show st.mem b a = _ from q2]
      rfl
  · rfl

theorem lookupK_nat {T : Nat} {ok : Bool} {x key : LV C.S.U} (h : Same (keysL x) st st') (h2 : Same (keysL key) st st') {R : AV C.S.U → St C.S.U → Option ρ} : lookupK C T ok x key st' R = (lookupK C T ok x key st fun z _ => some z).bind fun z => R z st' := by
  unfold lookupK withMap
  split
  · split
    · split
      · rename_i d j
        rcases h (d, j) (by simp [keysL]) j with q | ⟨_, _, q1, q2⟩
        · rw [show st'.mem d j = st.mem d j from q]
          split
          · rename_i kt _ _ vt _ _ _ _ _ _ kt' vt' ks vs _
            cases (and (decide (kt' = kt)) (decide (vt' = vt)))
            · rfl
            · simp only [cond_true]
              rw [toData_same h2]
              split
              · split
                · cases ok <;> rfl
                · rfl
              · rfl
          · rfl
        · rw [show st'.mem d j = _ from q1, show st.mem d j = _ from q2]
          rfl
      · rfl
    · rfl
  · rfl

theorem sliceK_nat {T : Nat} {x : LV C.S.U} {lo hi : Option (LV C.S.U)} (hk : keysL x = []) {R : AV C.S.U → St C.S.U → Option ρ} : sliceK C T x lo hi st' R = (sliceK C T x lo hi st fun z _ => some z).bind fun z => R z st' := by
  have h : Same (keysL x) st st' := by rw [hk]; exact fun k hk => nomatch hk
  unfold sliceK
  split
  · split
    · split
      · cases ssub _ _ _ <;> rfl
      · rfl
    · rfl
  · rename_i t _ _ _
    rw [show toData st' (.sl t) x = toData st (.sl t) x from toData_same h]
    split
    · split
      · rw [frz_keyless hk]
        cases lsub _ _ _ <;> rfl
      · rfl
    · rfl
  · rfl

theorem arrK_nat {U : Nat → Type} {s : Nat} {i : Int} {d j : Nat} {R : LV U → Option ρ} : ∀ (n m off : Nat), arrK s i d j R n m off = (arrK s i d j some n m off).bind R
  | 0, _, _ => rfl
  | n + 1, m, off => by
    simp only [arrK]
    cases ieq i m with
    | true => rfl
    | false => exact arrK_nat n (m + 1) (off + s)
theorem indexAddrK_nat {T : Nat} {i : Int} {x : LV C.S.U} (h : Same (keysL x) st st') {R : LV C.S.U → Option ρ} : indexAddrK C T i x st' R = (indexAddrK C T i x st some).bind R := by
  unfold indexAddrK
  split
  · split
    · exact arrK_nat _ _ _
    · rfl
  · rename_i t _ _ _
    rw [show toData st' (.sl t) x = toData st (.sl t) x from toData_same h]
    split
    · have triv : ∀ (l : List (El C.S.U t)) (R : LV C.S.U → Option ρ), ((lat l i).bind fun y => R (.pt t y)) = ((lat l i).bind fun y => some (LV.pt t y)).bind R := fun l R => by cases lat l i <;> rfl
      have triv2 : ∀ (l : List (El C.S.U t)) (d j : Nat) (R : LV C.S.U → Option ρ), ((lat l i).bind fun _ => R (.rpt d j i [])) = ((lat l i).bind fun _ => some (LV.rpt d j i [])).bind R := fun l d j R => by cases lat l i <;> rfl
      cases x with
      | row d j =>
        rcases h (d, j) (by simp [keysL]) j with q | ⟨_, _, q1, q2⟩
        · simp only [show st'.mem d j = st.mem d j from q]
          cases st.mem d j with
          | none => exact triv _ R
          | some q =>
            cases q with
            | row _ _ _ => exact triv2 _ d j R
            | _ => exact triv _ R
        · simp only [show st'.mem d j = _ from q1, show st.mem d j = _ from q2]
          exact triv _ R
      | _ => exact triv _ R
    · rfl
  · rfl

theorem typeAssertK_nat {T : Nat} {ok : Bool} {x : AV C.S.U} {R : AV C.S.U → Option ρ} : typeAssertK C T ok x R = (typeAssertK C T ok x some).bind R := by
  unfold typeAssertK
  split
  · cases concT C T <;> cases (Nat.beq _ _) <;> cases ok <;> rfl
  · rfl

theorem minR_nat {op : Bool} {k : IntKind} {R : LV C.S.U → Option ρ} : ∀ (l : List (LV C.S.U)) (a : Int), minR C op k R a l = (minR C op k some a l).bind R
  | [], _ => rfl
  | .v (.int _) b :: l, a => minR_nat l _
  | .v .bool _ :: _, _ => rfl
  | .v .str _ :: _, _ => rfl
  | .v (.sl _) _ :: _, _ => rfl
  | .v (.st _) _ :: _, _ => rfl
  | .tb _ _ _ :: _, _ => rfl
  | .bl _ :: _, _ => rfl
  | .nils :: _, _ => rfl
  | .nilp :: _, _ => rfl
  | .ref _ _ _ :: _, _ => rfl
  | .row _ _ :: _, _ => rfl
  | .mp _ _ :: _, _ => rfl
  | .pt _ _ :: _, _ => rfl
  | .rpt _ _ _ _ :: _, _ => rfl
  | .clo _ _ :: _, _ => rfl
  | .gv _ _ _ _ :: _, _ => rfl
  | .und :: _, _ => rfl
  | .junk :: _, _ => rfl

theorem minK_nat {op : Bool} {l : List (LV C.S.U)} {R : LV C.S.U → Option ρ} : minK C op l R = (minK C op l some).bind R := by
  unfold minK
  split
  · exact minR_nat _ _
  · rfl

theorem makeFuncK_nat {fn : Fn} {first : List Operand} {caps : List (LV C.S.U)} {R : LV C.S.U → Option ρ} : makeFuncK C fn first caps R = (makeFuncK C fn first caps some).bind R := by
  unfold makeFuncK
  repeat' split
  all_goals rfl

theorem cellsOf_nat {T : Nat} {x : AV C.S.U} {R : List (LV C.S.U) → Option ρ} : cellsOf C T x R = (cellsOf C T x some).bind R := by
  unfold cellsOf
  repeat' split
  all_goals rfl
end
end Go.Proofs.YthmedjljckbidaaDoor.Lift
