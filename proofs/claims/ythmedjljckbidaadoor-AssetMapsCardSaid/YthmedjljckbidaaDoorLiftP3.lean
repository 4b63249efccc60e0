/- Two operations that stand apart may change places. Conditions: as each theorem states them. -/
import Derived.Test.YthmedjljckbidaaDoorLiftP2
set_option linter.unusedVariables false
namespace Go.Proofs.YthmedjljckbidaaDoor.Lift
section
variable {U : Nat → Type}

def isB : AV U → Bool
  | .l (.v .bool _) => true
  | _ => false
def tg (d c : Nat) : AV U → AV U
  | .l (.v .bool b) => .l (.tb d (c + 1) b)
  | a => a

def cnt1 (d : Nat) (o : Option (Obj' U)) (st : St U) : Nat := match o with | some _ => st.cnt d + 1 | none => st.cnt d

/-- What an operation leaves behind. -/
def eff (dst : Option Nat) (p : AV U × Option (Obj' U)) (st : St U) : St U :=
  match dst with
  | none => st
  | some d => { sl := upd st.sl d (tg d (cnt1 d p.2 st) p.1), mem := match p.2 with | some o => upd2 st.mem d (st.cnt d + 1) (some o) | none => st.mem, cnt := upd st.cnt d (cond (isB p.1) (cnt1 d p.2 st + 1) (cnt1 d p.2 st)) }

theorem upd_at {α : Type} (f : Nat → α) (k : Nat) (v : α) (n : Nat) : upd f k v n = if n = k then v else f n := by
  unfold upd
  cases e : Nat.beq n k with
  | true => rw [if_pos (Nat.eq_of_beq_eq_true e)]; rfl
  | false => rw [if_neg (Nat.ne_of_beq_eq_false e)]; rfl
theorem upd2_at {α : Type} (f : Nat → Nat → α) (k l : Nat) (v : α) (n m : Nat) : upd2 f k l v n m = if n = k ∧ m = l then v else f n m := by
  unfold upd2
  by_cases h : n = k
  · by_cases h2 : m = l
    · subst h; subst h2; simp
    · have : Nat.beq m l = false := by cases e : Nat.beq m l <;> first | rfl | exact absurd (Nat.eq_of_beq_eq_true e) h2
      simp [this, h2]
  · have : Nat.beq n k = false := by cases e : Nat.beq n k <;> first | rfl | exact absurd (Nat.eq_of_beq_eq_true e) h
    simp [this, h]

theorem updC_updC {α : Type} (f : Nat → α) (k : Nat) (v w : α) : upd (upd f k v) k w = upd f k w := by
  funext n; simp only [upd_at]; split <;> rfl
theorem updC_self {α : Type} (f : Nat → α) (k : Nat) : upd f k (f k) = f := by
  funext n; simp only [upd_at]; split
  · rename_i h; rw [h]
  · rfl
theorem upd_comm {α : Type} (f : Nat → α) {k l : Nat} (h : k ≠ l) (v w : α) : upd (upd f k v) l w = upd (upd f l w) k v := by
  funext n
  simp only [upd_at]
  by_cases h1 : n = k <;> by_cases h2 : n = l <;> simp_all
theorem upd2_comm {α : Type} (f : Nat → Nat → α) {k l : Nat} (h : k ≠ l) (i j : Nat) (v w : α) : upd2 (upd2 f k i v) l j w = upd2 (upd2 f l j w) k i v := by
  funext n m
  simp only [upd2_at]
  by_cases h1 : n = k <;> by_cases h2 : n = l <;> simp_all
theorem upd_ne {α : Type} (f : Nat → α) {k n : Nat} (h : n ≠ k) (v : α) : upd f k v n = f n := by rw [upd_at, if_neg h]
theorem upd_eq {α : Type} (f : Nat → α) (k : Nat) (v : α) : upd f k v k = v := by rw [upd_at, if_pos rfl]

def okd (N : Fr) : Option Nat → Bool
  | none => true
  | some d => okSl N d

theorem put_eff {ρ : Type} {N : Fr} {dst : Option Nat} {a : AV U} {o : Option (Obj' U)} {st : St U} {K : St U → Option ρ} : (aft dst o st).put N [] dst a K = cond (okd N dst) (K (eff dst (a, o) st)) none := by
  cases dst with
  | none => rfl
  | some d =>
    cases hN : okSl N d with
    | false => simp only [St.put, okd, hN, cond_false]
    | true =>
      simp only [St.put, okd, hN, cond_true]
      cases o with
      | none =>
        simp only [aft, eff, cnt1]
        cases a with
        | l x =>
          cases x with
          | v t x =>
            cases t <;> simp only [tg, isB, wrapG, cond_true, cond_false, updC_self]
          | _ => simp only [tg, isB, wrapG, cond_false, updC_self]
        | _ => simp only [tg, isB, cond_false, updC_self]
      | some o =>
        simp only [aft, eff, cnt1, newObj']
        cases a with
        | l x =>
          cases x with
          | v t x =>
            cases t <;> simp only [tg, isB, wrapG, cond_true, cond_false, upd_eq, updC_updC]
          | _ => simp only [tg, isB, wrapG, cond_false]
        | _ => simp only [tg, isB, cond_false]

theorem eff_sl {dst : Option Nat} {p : AV U × Option (Obj' U)} {st : St U} {t : Nat} (h : dst ≠ some t) : (eff dst p st).sl t = st.sl t := by
  cases dst with
  | none => rfl
  | some d => exact upd_ne _ (fun e => h (by rw [e])) _
theorem eff_cnt {dst : Option Nat} {p : AV U × Option (Obj' U)} {st : St U} {t : Nat} (h : dst ≠ some t) : (eff dst p st).cnt t = st.cnt t := by
  cases dst with
  | none => rfl
  | some d => exact upd_ne _ (fun e => h (by rw [e])) _
theorem eff_mem {dst : Option Nat} {p : AV U × Option (Obj' U)} {st : St U} {t j : Nat} (h : dst ≠ some t) : (eff dst p st).mem t j = st.mem t j := by
  cases dst with
  | none => rfl
  | some d =>
    obtain ⟨a, o⟩ := p
    cases o with
    | none => rfl
    | some o =>
      simp only [eff, upd2_at]
      rw [if_neg]
      rintro ⟨e, _⟩
      exact h (by rw [e])

theorem eff_comm {x y : Option Nat} (h : ∀ d, x = some d → y ≠ some d) (p q : AV U × Option (Obj' U)) (st : St U) : eff y q (eff x p st) = eff x p (eff y q st) := by
  cases x with
  | none => rfl
  | some d =>
    cases y with
    | none => rfl
    | some e =>
      have hne : d ≠ e := fun k => h d rfl (by rw [k])
      have hne' : e ≠ d := fun k => hne k.symm
      obtain ⟨a, o⟩ := p
      obtain ⟨b, o'⟩ := q
      cases o <;> cases o' <;> simp only [eff, cnt1, upd_ne _ hne, upd_ne _ hne'] <;> rw [upd_comm st.sl hne, upd_comm st.cnt hne]
      rw [upd2_comm st.mem hne]
end

section
variable {C : Ctx} {ρ : Type} {ops : Array Oper} {O : Oracle C.S} {N : Fr}

theorem light_do (hO : ParO O) {o : Oper} {st : St C.S.U} (h : light C O o st = true) :
    ∃ v : Option (AV C.S.U × Option (Obj' C.S.U)), ∀ st', Alike C ops o st st' → ∀ (ρ : Type) (K : St C.S.U → Option ρ), doK C O N [] o K st' = v.bind fun p => cond (okd N o.dst) (K (eff o.dst p st')) none := by
  obtain ⟨v, hv⟩ := light_spec hO (ops := ops) h
  refine ⟨v, fun st' ha ρ K => ?_⟩
  unfold doK
  rw [hv st' ha]
  simp only [put_eff]

theorem light_same {o : Oper} {st st' : St C.S.U} (h : ∀ t ∈ o.looksAt ops, st'.sl t = st.sl t) : light C O o st' = light C O o st := by
  have E : ∀ (x : Operand), x ∈ o.op.operands.toList → ∀ T, opd C [] T st' x = opd C [] T st x := fun x hx T => opd_same x fun t e => h t (looks_mem (e ▸ hx))
  cases e : o.op <;> simp only [light, e]
  case makeInterface T x => rw [E x (by simp [e, Op.operands])]
  case slice T x lo hi mx => rw [E x (by simp [e, Op.operands])]
  case buildSlice T n ps =>
    have : ∀ p ∈ ps.toList, opd C [] 0 st' p.2 = opd C [] 0 st p.2 := fun p hp => E p.2 (by simp only [e, Op.operands]; exact List.mem_map.2 ⟨p, hp, rfl⟩) 0
    rw [Bool.eq_iff_iff, List.all_eq_true, List.all_eq_true]
    exact ⟨fun k p hp => by rw [← this p hp]; exact k p hp, fun k p hp => by rw [this p hp]; exact k p hp⟩
  case call cl =>
    obtain ⟨ca, as, ts⟩ := cl
    cases ca with
    | value f =>
      have hf : f ∈ o.op.operands.toList := by simp [e, Op.operands, Call.operands]
      have : ∀ x ∈ as.toList, opd C [] 0 st' x = opd C [] 0 st x := fun x hx => E x (by simp only [e, Op.operands, Call.operands, Array.toList_append]; exact List.mem_append.2 (.inr hx)) 0
      have h2 : (as.toList.all fun x => keyless (opd C [] 0 st' x)) = as.toList.all fun x => keyless (opd C [] 0 st x) := by
        rw [Bool.eq_iff_iff, List.all_eq_true, List.all_eq_true]
        exact ⟨fun k p hp => by rw [← this p hp]; exact k p hp, fun k p hp => by rw [this p hp]; exact k p hp⟩
      simp only [E f hf, h2]
    | invoke _ _ => rfl
    | builtin b => cases b <;> rfl

/-- An operation of a drawn region, in its turn. -/
abbrev stepD (C : Ctx) (O : Oracle C.S) (N : Fr) (ops : Array Oper) (x : DI) (K : St C.S.U → Option ρ) (st : St C.S.U) : Option ρ := cond (dynOk C O ops x st) (doK C O N [] x.o K st) none

structure Un (ops : Array Oper) (x y : DI) : Prop where
  ap : x.o.apart ops y.o = true
  xy : y.o ∈ x.us
  yx : x.o ∈ y.us
  nl : x.late = false

theorem dynOk_spec {x : DI} {p : Oper} (hp : p ∈ x.us) {st : St C.S.U} : dynOk C O ops x st = true ↔ (x.late = true ∧ (∀ q ∈ x.us, idleB q = true) ∧ isStoreB x.o = false) ∨ (light C O x.o st = true ∨ lateOk C x st = true) ∧ ∀ t ∈ x.o.looksAt ops, offKeys x.us (keysA (st.sl t)) = true := by
  have : x.us.isEmpty = false := by cases h : x.us with | nil => rw [h] at hp; cases hp | cons _ _ => rfl
  simp only [dynOk, this, Bool.false_or, Bool.and_eq_true, Bool.or_eq_true, List.all_eq_true, Bool.not_eq_true', and_assoc]

theorem lateOk_late {x : DI} {st : St C.S.U} (h : lateOk C x st = true) : x.late = true ∧ ∃ T p v, x.o.op = .store T p v := by
  unfold lateOk at h
  split at h
  · rename_i T p v e
    simp only [Bool.and_eq_true] at h
    exact ⟨h.1.1, T, p, v, e⟩
  · cases h

/-- An address out of an operand. -/
theorem ref_key {o : Oper} {p : Operand} (hp : p ∈ o.op.operands.toList) {st : St C.S.U} {d j off : Nat} (h : avL (opd C [] 0 st p) = .ref d j off) : ∃ t ∈ o.looksAt ops, (d, j) ∈ keysA (st.sl t) := by
  cases p with
  | tmp t =>
    refine ⟨t, looks_mem hp, ?_⟩
    have h : avL (st.sl t) = .ref d j off := h
    cases e : st.sl t with
    | l x =>
      rw [e] at h
      have h : x = .ref d j off := h
      rw [h]
      exact List.mem_cons_self ..
    | _ => rw [e] at h; cases h
  | const v =>
    have : ∀ k, k ∈ keysL (avL (opd C [] 0 st (.const v))) → False := fun k hk => by
      have := keys_av _ k hk
      rw [keys_opd (.const v) (fun _ q => nomatch q)] at this
      cases this
    rw [h] at this
    exact (this (d, j) (List.mem_cons_self ..)).elim
  | func f => cases h
  | global g =>
    simp only [opd] at h
    split at h <;> cases h

theorem off_spec {us : List Oper} {ks : List (Nat × Nat)} (h : offKeys us ks = true) {p : Oper} (hp : p ∈ us) {k : Nat × Nat} (hk : k ∈ ks) : p.dst ≠ some k.1 := by
  simp only [offKeys, List.all_eq_true] at h
  have := h k hk p hp
  intro e
  rw [e] at this
  simp at this

theorem Un.light {x y : DI} (hu : Un ops x y) {st : St C.S.U} (h : dynOk C O ops x st = true) : light C O x.o st = true ∧ ∀ t ∈ x.o.looksAt ops, offKeys x.us (keysA (st.sl t)) = true := by
  rcases (dynOk_spec hu.xy).1 h with ⟨q, _⟩ | ⟨h1, h2⟩
  · rw [hu.nl] at q
    cases q
  · refine ⟨h1.resolve_right fun q => ?_, h2⟩
    have := (lateOk_late q).1
    rw [hu.nl] at this
    cases this

theorem alike_refl {o : Oper} (st : St C.S.U) : Alike C ops o st st := ⟨fun _ _ => rfl, fun _ _ _ _ _ => .inl rfl, fun _ _ => rfl, fun _ _ _ _ _ _ _ => .inl rfl⟩

theorem swap (hO : ParO O) {x y : DI} (hu : Un ops x y) (hys : ∀ T p v, y.o.op ≠ .store T p v) (hyi : ∃ q ∈ y.us, idleB q = false) {K : St C.S.U → Option ρ} {st : St C.S.U} {r : ρ} (h : stepD C O N ops x (stepD C O N ops y K) st = some r) : stepD C O N ops y (stepD C O N ops x K) st = some r := by
  obtain ⟨a1, a2, a3⟩ := Oper.apart_spec hu.ap
  unfold stepD at h ⊢
  cases hx : dynOk C O ops x st with
  | false => rw [hx] at h; cases h
  | true =>
    rw [hx] at h
    obtain ⟨lx, kx⟩ := hu.light hx
    obtain ⟨v, hv⟩ := light_do hO (ops := ops) (N := N) lx
    have h : doK C O N [] x.o _ st = some r := h
    rw [hv st (alike_refl _)] at h
    cases v with
    | none => cases h
    | some p =>
      simp only [Option.bind_some] at h
      cases ox : okd N x.o.dst with
      | false => rw [ox] at h; cases h
      | true =>
        rw [ox] at h
        simp only [cond_true] at h
        cases hy : dynOk C O ops y (eff x.o.dst p st) with
        | false => rw [hy] at h; cases h
        | true =>
          rw [hy] at h
          simp only [cond_true] at h
          obtain ⟨ly, ky⟩ := ((dynOk_spec hu.yx).1 hy).resolve_left fun z => by obtain ⟨q, hq, hq2⟩ := hyi; rw [z.2.1 q hq] at hq2; cases hq2
          have ly := ly.resolve_right fun q => by obtain ⟨T, p, v, e⟩ := (lateOk_late q).2; exact hys T p v e
          obtain ⟨v', hv'⟩ := light_do hO (ops := ops) (N := N) ly
          have sy : ∀ t ∈ y.o.looksAt ops, st.sl t = (eff x.o.dst p st).sl t := fun t ht => (eff_sl fun e => a1 t e ht).symm
          have al : Alike C ops y.o (eff x.o.dst p st) st := ⟨sy, fun t ht k hk _ => .inl (eff_mem (off_spec (ky t ht) hu.yx hk)).symm, fun d hd => (eff_cnt fun e => a2 d e hd).symm, fun T p' e d j off q => .inl (by
            obtain ⟨t, ht, hk⟩ := ref_key (ops := ops) (o := y.o) (by simp [e, Op.operands]) q
            exact (eff_mem (off_spec (ky t ht) hu.yx hk)).symm)⟩
          rw [hv' _ (alike_refl _)] at h
          have hy' : dynOk C O ops y st = true := (dynOk_spec hu.yx).2 (.inr ⟨.inl (by rw [← ly]; exact light_same sy), fun t ht => by rw [sy t ht]; exact ky t ht⟩)
          rw [hy', cond_true, hv' _ al]
          cases v' with
          | none => cases h
          | some q =>
            simp only [Option.bind_some] at h ⊢
            cases oy : okd N y.o.dst with
            | false => rw [oy] at h; cases h
            | true =>
              rw [oy] at h
              simp only [cond_true] at h ⊢
              have sx : ∀ t ∈ x.o.looksAt ops, (eff y.o.dst q st).sl t = st.sl t := fun t ht => eff_sl fun e => a3 t e ht
              have al' : Alike C ops x.o st (eff y.o.dst q st) := ⟨sx, fun t ht k hk _ => .inl (eff_mem (off_spec (kx t ht) hu.xy hk)), fun d hd => eff_cnt fun e => a2 d hd e, fun T p' e d j off q => .inl (by
                obtain ⟨t, ht, hk⟩ := ref_key (ops := ops) (o := x.o) (by simp [e, Op.operands]) q
                exact eff_mem (off_spec (kx t ht) hu.xy hk))⟩
              have hx' : dynOk C O ops x (eff y.o.dst q st) = true := (dynOk_spec hu.xy).2 (.inr ⟨.inl (by rw [← lx]; exact light_same sx), fun t ht => by rw [sx t ht]; exact kx t ht⟩)
              rw [hx', cond_true, hv _ al']
              simp only [Option.bind_some, ox, cond_true]
              rw [← eff_comm a2]
              exact h

theorem drawL_cons {x : DI} {l : List DI} {K : St C.S.U → Option ρ} {st : St C.S.U} : drawL C O N ops (x :: l) K st = stepD C O N ops x (drawL C O N ops l K) st := rfl

/-- An operation's step, if it is light. -/
theorem step_light (hO : ParO O) {x y : DI} (hu : Un ops x y) {K : St C.S.U → Option ρ} {st : St C.S.U} {r : ρ} (h : stepD C O N ops x K st = some r) :
    ∃ p, okd N x.o.dst = true ∧ light C O x.o st = true ∧ (∀ t ∈ x.o.looksAt ops, offKeys x.us (keysA (st.sl t)) = true) ∧ K (eff x.o.dst p st) = some r ∧ ∀ st', Alike C ops x.o st st' → ∀ K' : St C.S.U → Option ρ, doK C O N [] x.o K' st' = K' (eff x.o.dst p st') := by
  unfold stepD at h
  cases hx : dynOk C O ops x st with
  | false => rw [hx] at h; cases h
  | true =>
    rw [hx] at h
    obtain ⟨lx, kx⟩ := hu.light hx
    obtain ⟨v, hv⟩ := light_do hO (ops := ops) (N := N) lx
    have h : doK C O N [] x.o K st = some r := h
    rw [hv st (alike_refl _)] at h
    cases v with
    | none => cases h
    | some p =>
      simp only [Option.bind_some] at h hv
      cases ox : okd N x.o.dst with
      | false => rw [ox] at h; cases h
      | true =>
        rw [ox] at h
        exact ⟨p, rfl, lx, kx, h, fun st' ha K' => by rw [hv st' ha, ox]; rfl⟩

/-- It may be taken first. -/
theorem bubble (hO : ParO O) {y : DI} (hys : ∀ T p v, y.o.op ≠ .store T p v) (hyi : ∃ q ∈ y.us, idleB q = false) : ∀ (l1 : List DI) {l2 : List DI} {K : St C.S.U → Option ρ} {st : St C.S.U} {r : ρ}, (∀ x ∈ l1, Un ops x y) → drawL C O N ops (l1 ++ y :: l2) K st = some r → drawL C O N ops (y :: (l1 ++ l2)) K st = some r
  | [], _, _, _, _, _, h => h
  | x :: l1, l2, K, st, r, hu, h => by
    have hx := hu x (List.mem_cons_self ..)
    refine swap hO hx hys hyi ?_
    have h : stepD C O N ops x (drawL C O N ops (l1 ++ y :: l2) K) st = some r := h
    obtain ⟨p, ox, lx, kx, h1, hd⟩ := step_light hO hx h
    have hb := bubble hO hys hyi l1 (fun z hz => hu z (List.mem_cons_of_mem _ hz)) h1
    unfold stepD
    rw [(dynOk_spec hx.xy).2 (.inr ⟨.inl lx, kx⟩), cond_true, hd st (alike_refl _)]
    exact hb

theorem clearB_same {x : Oper} {st st' : St C.S.U} (h : ∀ t ∈ x.looksAt ops, st'.sl t = st.sl t) {d j lo n : Nat} : clearB C x st' d j lo n = clearB C x st d j lo n := by
  unfold clearB
  split
  · rename_i T p e
    rw [opd_same (T := 0) p fun t q => h t (looks_mem (by rw [e, q]; simp [Op.operands]))]
  · rfl

theorem eff_box {U : Nat → Type} {dst : Option Nat} {p : AV U × Option (Obj' U)} {st : St U} {d j : Nat} {o : Option (Obj' U)} (h : dst ≠ some d) : eff dst p { st with mem := upd2 st.mem d j o } = { eff dst p st with mem := upd2 (eff dst p st).mem d j o } := by
  cases dst with
  | none => rfl
  | some e =>
    obtain ⟨a, ob⟩ := p
    cases ob with
    | none => rfl
    | some ob =>
      have : e ≠ d := fun q => h (by rw [q])
      simp only [eff, cnt1]
      rw [upd2_comm st.mem (Ne.symm this)]

theorem setAt_same {α : Type} {l ys : List α} {lo i : Nat} (hn : lo + ys.length ≤ l.length) (h : i < lo ∨ lo + ys.length ≤ i) : (setAt l lo ys)[i]? = l[i]? := by
  rw [setAt_eq l lo ys hn]
  rcases h with h | h
  · rw [List.append_assoc, List.getElem?_append_left (by simp; omega), List.getElem?_take, if_pos h]
  · rw [List.getElem?_append_right (by simp; omega), List.getElem?_drop]
    congr 1
    simp
    omega
theorem setAt_len {α : Type} {l ys : List α} {lo : Nat} (hn : lo + ys.length ≤ l.length) : (setAt l lo ys).length = l.length := by
  rw [setAt_eq l lo ys hn]
  simp
  omega

/-- A store into a box may be taken first, if what comes before it reads other cells. -/
theorem late_front (hO : ParO O) {y : DI} {T : Nat} {p xv : Operand} (hy : y.o.op = .store T p xv) (hus : ∃ z, z ∈ y.us) : ∀ (l1 : List DI) {l2 : List DI} {K : St C.S.U → Option ρ} {st : St C.S.U} {r : ρ}, (∀ x ∈ l1, Un ops x y) → l1.Pairwise (fun x z => x.i < z.i) →
    (∀ x ∈ l1, ∀ z ∈ l1, x.i ≤ z.i → ∀ d, z.o.dst = some d → d ∉ x.o.looksAt ops) → drawL C O N ops (l1 ++ y :: l2) K st = some r →
    ∃ d j lo ys cs, y.o.dst = none ∧ avL (opd C [] 0 st p) = .ref d j lo ∧ cellsOf C T (opd C [] T st xv) some = some ys ∧ st.mem d j = some (.box cs) ∧ lo + ys.length ≤ cs.length ∧ drawL C O N ops (l1 ++ l2) K { st with mem := upd2 st.mem d j (some (.box (setAt cs lo ys))) } = some r ∧
      (∀ x ∈ y.us, (∀ z ∈ l1, ∀ d, z.o.dst = some d → d ∉ x.looksAt ops) → clearB C x st d j lo ys.length = true) ∧ ∀ t ∈ y.o.looksAt ops, offKeys y.us (keysA (st.sl t)) = true
  | [], l2, K, st, r, _, _, _, h => by
    obtain ⟨z, hz⟩ := hus
    have h : stepD C O N ops y (drawL C O N ops l2 K) st = some r := h
    unfold stepD at h
    cases hd : dynOk C O ops y st with
    | false => rw [hd] at h; cases h
    | true =>
      rw [hd] at h
      obtain ⟨h1, h2⟩ := ((dynOk_spec hz).1 hd).resolve_left fun q => by have := q.2.2; simp [isStoreB, hy] at this
      have h1 : lateOk C y st = true := h1.resolve_left (by simp [light, hy])
      simp only [lateOk, hy, Bool.and_eq_true] at h1
      obtain ⟨⟨_, hdst⟩, h1⟩ := h1
      have hdst : y.o.dst = none := by simpa using hdst
      split at h1
      · rename_i d j lo ep
        split at h1
        · rename_i ys ey
          have h : doK C O N [] y.o (drawL C O N ops l2 K) st = some r := h
          unfold doK at h
          rw [hdst] at h
          simp only [opK, hy, ep, storeK] at h
          split at h
          · rename_i cs em
            rw [cellsOf_nat, ey] at h
            simp only [Option.bind_some] at h
            cases hl : Nat.ble (lo + ys.length) cs.length with
            | false => rw [hl] at h; cases h
            | true =>
              rw [hl] at h
              exact ⟨d, j, lo, ys, cs, hdst, ep, ey, em, Nat.le_of_ble_eq_true hl, h, fun x hx _ => List.all_eq_true.1 h1 x hx, h2⟩
          · cases h
        · cases h1
      · cases h1
  | x :: l1, l2, K, st, r, hu, hs, hw, h => by
    have hx := hu x (List.mem_cons_self ..)
    obtain ⟨a1, a2, a3⟩ := Oper.apart_spec hx.ap
    have h : stepD C O N ops x (drawL C O N ops (l1 ++ y :: l2) K) st = some r := h
    obtain ⟨q, ox, lx, kx, h1, hd⟩ := step_light hO hx h
    obtain ⟨hs1, hs2⟩ := List.pairwise_cons.1 hs
    obtain ⟨d, j, lo, ys, cs, e1, e2, e3, e4, e5, e6, e7, e8⟩ := late_front hO hy hus l1 (fun z hz => hu z (List.mem_cons_of_mem _ hz)) hs2 (fun x' hx' z hz => hw x' (List.mem_cons_of_mem _ hx') z (List.mem_cons_of_mem _ hz)) h1
    have sy : ∀ t ∈ y.o.looksAt ops, (eff x.o.dst q st).sl t = st.sl t := fun t ht => eff_sl fun e => a1 t e ht
    have hp : p ∈ y.o.op.operands.toList := by simp [hy, Op.operands]
    have hxv : xv ∈ y.o.op.operands.toList := by simp [hy, Op.operands]
    have ep : ∀ T, opd C [] T (eff x.o.dst q st) p = opd C [] T st p := fun T => opd_same p fun t e => sy t (looks_mem (e ▸ hp))
    have ev : ∀ T, opd C [] T (eff x.o.dst q st) xv = opd C [] T st xv := fun T => opd_same xv fun t e => sy t (looks_mem (e ▸ hxv))
    obtain ⟨t0, ht0, hk0⟩ := ref_key (ops := ops) (o := y.o) hp e2
    have hne : x.o.dst ≠ some d := off_spec (e8 t0 ht0) hx.yx hk0
    rw [ep] at e2
    rw [ev] at e3
    rw [eff_mem hne] at e4
    have hself : ∀ d, x.o.dst = some d → d ∉ x.o.looksAt ops := hw x (List.mem_cons_self ..) x (List.mem_cons_self ..) (Nat.le_refl _)
    have hclear : clearB C x.o st d j lo ys.length = true := by
      rw [← clearB_same (ops := ops) (st := st) (st' := eff x.o.dst q st) fun t ht => eff_sl fun e => hself t e ht]
      exact e7 x.o hx.yx fun z hz => hw x (List.mem_cons_self ..) z (List.mem_cons_of_mem _ hz) (Nat.le_of_lt (hs1 z hz))
    refine ⟨d, j, lo, ys, cs, e1, e2, e3, e4, e5, ?_, fun x' hx' hz => ?_, fun t ht => by rw [← sy t ht]; exact e8 t ht⟩
    · have al : Alike C ops x.o st { st with mem := upd2 st.mem d j (some (.box (setAt cs lo ys))) } := ⟨fun _ _ => rfl, fun t ht k hk jj => by
          rcases upd2_cases st.mem d j (some (.box (setAt cs lo ys))) k.1 jj with ⟨q1, q2, q3⟩ | ⟨_, q3⟩
          · exact .inr ⟨_, _, q3, by rw [q1, q2]; exact e4⟩
          · exact .inl q3, fun _ _ => rfl, fun T' p' eo d' j' off eq => by
          rcases upd2_cases st.mem d j (some (.box (setAt cs lo ys))) d' j' with ⟨q1, q2, q3⟩ | ⟨_, q3⟩
          · subst q1; subst q2
            refine .inr ⟨cs, _, e4, q3, setAt_len e5, fun i i1 i2 => setAt_same e5 ?_⟩
            simp only [clearB, eo, eq, Bool.or_eq_true, Bool.not_eq_true', Bool.and_eq_false_iff] at hclear
            rcases hclear with (hc | hc) | hc
            · simp at hc
            · have := Nat.le_of_ble_eq_true hc; omega
            · have := Nat.le_of_ble_eq_true hc; omega
          · exact .inl q3⟩
      show stepD C O N ops x (drawL C O N ops (l1 ++ l2) K) _ = some r
      unfold stepD
      have lx' : light C O x.o { st with mem := upd2 st.mem d j (some (.box (setAt cs lo ys))) } = true := by rw [← lx]; exact light_same (ops := ops) fun _ _ => rfl
      rw [(dynOk_spec hx.xy).2 (.inr ⟨.inl lx', kx⟩), cond_true, hd _ al, eff_box hne]
      exact e6
    · rw [← clearB_same (ops := ops) (st := st) (st' := eff x.o.dst q st) fun t ht => eff_sl fun e => hz x (List.mem_cons_self ..) t e ht]
      exact e7 x' hx' fun z hz' => hz z (List.mem_cons_of_mem _ hz')

/-- An operation that may come now comes; the others stay as they were. -/
theorem front (hO : ParO O) {y : DI} {l1 l2 : List DI} {K : St C.S.U → Option ρ} {st : St C.S.U} {r : ρ} (hu : ∀ x ∈ l1, Un ops x y) (hs : l1.Pairwise (fun x z => x.i < z.i)) (hw : isStoreB y.o = true → ∀ x ∈ l1, ∀ z ∈ l1, x.i ≤ z.i → ∀ d, z.o.dst = some d → d ∉ x.o.looksAt ops) (hi : ∀ x l, l1 = x :: l → idleB x.o = false) (h : drawL C O N ops (l1 ++ y :: l2) K st = some r) :
    doK C O N [] y.o (drawL C O N ops (l1 ++ l2) K) st = some r := by
  have plain : drawL C O N ops (y :: (l1 ++ l2)) K st = some r → doK C O N [] y.o (drawL C O N ops (l1 ++ l2) K) st = some r := fun h => by
    rw [drawL_cons] at h
    unfold stepD at h
    cases hd : dynOk C O ops y st with
    | false => rw [hd] at h; cases h
    | true => rw [hd] at h; exact h
  cases l1 with
  | nil => exact plain h
  | cons x l1 =>
    by_cases hst : ∃ T p v, y.o.op = .store T p v
    · obtain ⟨T, p, v, hy⟩ := hst
      obtain ⟨d, j, lo, ys, cs, e1, e2, e3, e4, e5, e6, _⟩ := late_front hO hy ⟨x.o, (hu x (List.mem_cons_self ..)).yx⟩ (x :: l1) hu hs (hw (by simp [isStoreB, hy])) h
      unfold doK
      rw [e1]
      simp only [opK, hy, e2, storeK, e4]
      rw [cellsOf_nat, e3]
      simp only [Option.bind_some, Nat.ble_eq_true_of_le e5, cond_true]
      exact e6
    · exact plain (bubble hO (fun T p v e => hst ⟨T, p, v, e⟩) ⟨x.o, (hu x (List.mem_cons_self ..)).yx, hi x l1 rfl⟩ (x :: l1) hu h)
end

/-! What an operation waits for. -/
section
theorem ancOf_bit {acc : List Nat} {i : Nat} : ∀ (l : List Edge) (m : Nat), (l.foldl (fun m e => cond (Region.binds .any e) (m ||| (1 <<< e.on) ||| (acc[e.on]?).getD 0) m) m).testBit i = true → m.testBit i = true ∨ ∃ e ∈ l, Region.binds .any e = true ∧ (e.on = i ∨ ((acc[e.on]?).getD 0).testBit i = true)
  | [], _, h => .inl h
  | e :: l, m, h => by
    rcases ancOf_bit l _ h with h | ⟨e', he', k⟩
    · cases hb : Region.binds .any e with
      | false => simp only [hb, cond_false] at h; exact .inl h
      | true =>
        simp only [hb, cond_true, Nat.testBit_or, Bool.or_eq_true] at h
        rcases h with (h | h) | h
        · exact .inl h
        · refine .inr ⟨e, List.mem_cons_self .., hb, .inl ?_⟩
          rw [Nat.one_shiftLeft, Nat.testBit_two_pow] at h
          simpa using h
        · exact .inr ⟨e, List.mem_cons_self .., hb, .inr h⟩
    · exact .inr ⟨e', List.mem_cons_of_mem _ he', k⟩

theorem ancs_len : ∀ (l : List Oper) (acc : List Nat), ∃ r, ancs l acc = acc ++ r ∧ r.length = l.length
  | [], acc => ⟨[], by simp [ancs], rfl⟩
  | o :: l, acc => by
    obtain ⟨r, h1, h2⟩ := ancs_len l (acc ++ [ancOf acc o.after.toList])
    exact ⟨_ :: r, by rw [ancs, h1, List.append_assoc]; rfl, by simp [h2]⟩

theorem ancs_at : ∀ (l : List Oper) (acc : List Nat) (j : Nat) (o : Oper), l[j]? = some o → ∃ m, (ancs l acc)[acc.length + j]? = some m ∧ ∃ acc', m = ancOf acc' o.after.toList ∧ acc'.length = acc.length + j ∧ ∃ r, ancs l acc = acc' ++ r
  | [], acc, j, o', h => by simp at h
  | o :: l, acc, 0, o', h => by
    have h : o = o' := by simpa using h
    subst h
    obtain ⟨r, h1, h2⟩ := ancs_len l (acc ++ [ancOf acc o.after.toList])
    have h3 : ancs (o :: l) acc = acc ++ (ancOf acc o.after.toList :: r) := by
      show ancs l (acc ++ [ancOf acc o.after.toList]) = _
      rw [h1, List.append_assoc]
      rfl
    refine ⟨ancOf acc o.after.toList, ?_, acc, Eq.refl _, Eq.refl _, _, h3⟩
    rw [h3, Nat.add_zero, List.getElem?_append_right (Nat.le_refl _), Nat.sub_self]
    rfl
  | o :: l, acc, j + 1, o', h => by
    have h : l[j]? = some o' := by simpa using h
    obtain ⟨m, h1, acc', h2, h3, r, h4⟩ := ancs_at l (acc ++ [ancOf acc o.after.toList]) j o' h
    have e : (acc ++ [ancOf acc o.after.toList]).length = acc.length + 1 := by rw [List.length_append]; rfl
    rw [e] at h1 h3
    refine ⟨m, ?_, acc', h2, ?_, r, h4⟩
    · have : acc.length + (j + 1) = acc.length + 1 + j := by omega
      rw [this]
      exact h1
    · omega

/-- All that a listed operation waits for is listed. -/
def Closed (ops : Array Oper) (listed : Array Bool) : Prop := ∀ j oj, ops[j]? = some oj → listed.getD j false = true → ∀ e ∈ oj.after, Region.binds .any e = true → listed.getD e.on false = true

theorem anc_listed {ops : Array Oper} {listed : Array Bool} (hc : Closed ops listed) (hd : ∀ j oj, ops[j]? = some oj → ∀ e ∈ oj.after, Region.binds .any e = true → e.on < j) :
    ∀ (j : Nat) (oj : Oper), ops[j]? = some oj → (∀ e ∈ oj.after, Region.binds .any e = true → listed.getD e.on false = true) → ∀ i, (((ancs ops.toList [])[j]?).getD 0).testBit i = true → listed.getD i false = true := by
  intro j
  induction j using Nat.strongRecOn with
  | _ j ih =>
    intro oj hj hl i hi
    obtain ⟨m, h1, acc', h2, h3, r, h4⟩ := ancs_at ops.toList [] j oj (by simpa using hj)
    simp only [List.length_nil, Nat.zero_add] at h1 h3
    rw [h1, Option.getD_some, h2] at hi
    rcases ancOf_bit _ _ hi with hi | ⟨e, he, hb, hi⟩
    · simp at hi
    · have he : e ∈ oj.after := by simpa using he
      rcases hi with rfl | hi
      · exact hl e he hb
      · have hlt := hd j oj hj e he hb
        have hon := hl e he hb
        have hq : (ancs ops.toList [])[e.on]? = acc'[e.on]? := by rw [h4, List.getElem?_append_left (by omega)]
        obtain ⟨o', ho'⟩ : ∃ o', ops[e.on]? = some o' := by
          have : j < ops.size := (Array.getElem?_eq_some_iff.1 hj).1
          exact ⟨ops[e.on]'(by omega), Array.getElem?_eq_getElem _⟩
        rw [← hq] at hi
        exact ih e.on hlt o' ho' (hc e.on o' ho' hon) i hi
end
end Go.Proofs.YthmedjljckbidaaDoor.Lift
