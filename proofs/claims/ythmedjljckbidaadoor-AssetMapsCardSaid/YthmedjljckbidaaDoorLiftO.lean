/- Parts of structs, structs compared, types asked for. Conditions: as each theorem states them. -/
import Derived.Test.YthmedjljckbidaaDoorLiftN
set_option linter.unusedVariables false
namespace Go.Proofs.YthmedjljckbidaaDoor.Lift

def eqFB (g : Nat → Ty → Bool) : List Field → List Ty → Bool
  | [], [] => true
  | f :: fs, t :: ts => g f.type t && eqFB g fs ts
  | _, _ => false
/-- The values of a type can be compared as the evaluator does. -/
def eqB (P : Program) (S : Sg) : Nat → Nat → Ty → Bool
  | 0, _, _ => false
  | d + 1, T, .st n => match P.underlying T with
    | some (.struct fs) => !P.stoodInHeld T && fieldsB P S fs.toList (S.fl n) 0 && eqFB (eqB P S d) fs.toList (S.fl n)
    | _ => false
  | _ + 1, T, .int k => match P.underlying T with
    | some (.int k') => decide (k = k')
    | _ => false
  | _ + 1, T, .bool => match P.underlying T with
    | some .bool => true
    | _ => false
  | _ + 1, T, .str => match P.underlying T with
    | some .string => true
    | _ => false
  | _ + 1, _, .sl _ => false
def EqOk (P : Program) (C : Ctx) : Prop := ∀ T n eb E, memB T C.eqs = true → lkp T C.ty = some (.d (.st n) eb E) → eqB P C.S dep T (.st n) = true ∧ P.eqGuardType P.depth T = false
def eqsB (P : Program) (C : Ctx) : Bool := C.eqs.all fun T => match lkp T C.ty with
  | some (.d (.st n) _ _) => eqB P C.S dep T (.st n) && !P.eqGuardType P.depth T
  | _ => true
theorem eqOk_of {P : Program} {C : Ctx} (h : eqsB P C = true) : EqOk P C := by
  intro T n eb E hm e
  have hT : T ∈ C.eqs := by
    have : ∀ l : List Nat, memB T l = true → T ∈ l := by
      intro l
      induction l with
      | nil => intro h; simp [memB] at h
      | cons x l ih =>
        intro h
        simp only [memB, Bool.or_eq_true] at h
        rcases h with q | q
        · rw [Nat.eq_of_beq_eq_true q]; exact List.mem_cons_self ..
        · exact List.mem_cons_of_mem _ (ih q)
    exact this _ hm
  have := List.all_eq_true.1 h T hT
  rw [e] at this
  simp only [Bool.and_eq_true, Bool.not_eq_true'] at this
  exact this

section
variable {P : Program} {C : Ctx} {c : Call} {st : St C.S.U} {a : Act} {w : World} {g : Gh} {ρ : Type}

theorem part_at {T : Nat} {t : Ty} (D : DataOk P C.S T t) {M : Mm} {off : Nat} {cs : Array Value} {x : El C.S.U t} (hl : off + sz C.S dep t ≤ cs.size) (hx : RepC C.S M t (seg cs off (sz C.S dep t)) x) :
    ∃ v, (part T cs off).run P w = .ok v w ∧ RepV C.S M t v x ∧ v.cells.toList = seg cs off (sz C.S dep t) := by
  have hlen := seg_len hl
  cases ht : t.isSt with
  | true =>
    refine ⟨.agg (cs.extract off (off + sz C.S dep t)), ?_, .inl ⟨ht, _, rfl, ?_⟩, ?_⟩
    · simp only [part, Sem.run_bind, run_agg D.hd, D.hagg, ht, Result.andThen_ok, if_true, run_size D.hi, D.hs, Sem.run_pure]
    · have : (cs.extract off (off + sz C.S dep t)).toList = seg cs off (sz C.S dep t) := by simp [seg, List.extract_eq_take_drop]
      rw [this]; exact hx
    · show (cs.extract off (off + sz C.S dep t)).toList = _
      simp [seg, List.extract_eq_take_drop]
  | false =>
    have h1 : ∃ v, seg cs off (sz C.S dep t) = [v] := by
      have : sz C.S dep t = 1 := by cases t <;> first | rfl | (simp [Ty.isSt] at ht)
      rw [this] at hlen ⊢
      exact List.length_eq_one_iff.1 hlen
    obtain ⟨v, hv⟩ := h1
    have h0 : cs[off]? = some v := by
      have : (seg cs off (sz C.S dep t))[0]? = some v := by rw [hv]; rfl
      simpa using seg_get this
    have hrep : RepV C.S M t v x := .inr ⟨ht, by rw [← hv]; exact hx⟩
    refine ⟨v, ?_, hrep, ?_⟩
    · simp only [part, Sem.run_bind, run_agg D.hd, D.hagg, ht, Result.andThen_ok]
      simp [h0]
    · have h1 := (RepV.leaf ht hrep).one v (by simp)
      rw [hv]
      cases v <;> first | rfl | (simp [Value.oneCell'] at h1)

theorem seqb (a b : ByteArray) : seq a b = (a.toList == b.toList) := rfl

theorem eqEl_sound (hS : SgOk C.S) {M : Mm} : ∀ (d m : Nat) (T : Nat) (t : Ty) (u v : Value) (x y : El C.S.U t) (b : Bool), d ≤ m → eqB P C.S d T t = true → RepV C.S M t u x → RepV C.S M t v y → eqEl C.S d t x y = some b → (Op.equalIn (m + 1) T u v).run P w = .ok b w
  | 0, _, _, _, _, _, _, _, _, _, h, _, _, _ => by simp [eqB] at h
  | d + 1, m, T, .int k, u, v, x, y, b, hm, hb, hu, hv, e => by
    have hu := RepV.leaf (S := C.S) rfl hu
    have hv := RepV.leaf (S := C.S) rfl hv
    have e : some (ieq x y) = some b := e
    simp only [eqB] at hb
    split at hb
    · rename_i k' hd
      have hu : u = .int k x := by cases hu; rfl
      have hv : v = .int k y := by cases hv; rfl
      subst hu; subst hv
      rw [run_equalIn_int w m T k k' x y hd]
      cases e; rfl
    · cases hb
  | d + 1, m, T, .bool, u, v, x, y, b, hm, hb, hu, hv, e => by
    have hu := RepV.leaf (S := C.S) rfl hu
    have hv := RepV.leaf (S := C.S) rfl hv
    have e : some (x == y) = some b := e
    simp only [eqB] at hb
    split at hb
    · rename_i hd
      have hu : u = .bool x := by cases hu; rfl
      have hv : v = .bool y := by cases hv; rfl
      subst hu; subst hv
      rw [run_equalIn_bool' w m T x y hd]
      cases e; rfl
    · cases hb
  | d + 1, m, T, .str, u, v, x, y, b, hm, hb, hu, hv, e => by
    have hu := RepV.leaf (S := C.S) rfl hu
    have hv := RepV.leaf (S := C.S) rfl hv
    have e : some (seq x y) = some b := e
    simp only [eqB] at hb
    split at hb
    · rename_i hd
      have hu : u = .string x := by cases hu; rfl
      have hv : v = .string y := by cases hv; rfl
      subst hu; subst hv
      rw [run_equalIn_string w m T x y hd]
      cases e; rfl
    · cases hb
  | d + 1, m, T, .sl s, u, v, x, y, b, hm, hb, hu, hv, e => by simp [eqB] at hb
  | d + 1, m, T, .st n, u, v, x, y, b, hm, hb, hu, hv, e => by
    simp only [eqB] at hb
    split at hb
    · rename_i fs hd
      simp only [Bool.and_eq_true, Bool.not_eq_true'] at hb
      obtain ⟨⟨h1, h2⟩, h3⟩ := hb
      obtain ⟨cu, rfl, ru⟩ : ∃ cs : Array Value, u = .agg cs ∧ RepC C.S M (.st n) cs.toList x := by
        rcases hu with ⟨_, cs, e, q⟩ | ⟨q, _⟩
        · exact ⟨cs, e, q⟩
        · cases q
      obtain ⟨cv, rfl, rv⟩ : ∃ cs : Array Value, v = .agg cs ∧ RepC C.S M (.st n) cs.toList y := by
        rcases hv with ⟨_, cs, e, q⟩ | ⟨q, _⟩
        · exact ⟨cs, e, q⟩
        · cases q
      cases ru with
      | st _ _ _ ru =>
      cases rv with
      | st _ _ _ rv =>
      simp only [eqEl] at e
      obtain ⟨m, rfl⟩ : ∃ k, m = k + 1 := ⟨m - 1, by omega⟩
      rw [run_equalIn_struct w (m + 1) T cu cv (by rw [show P.fieldsOf T = fs by simp [Program.fieldsOf, hd]]; exact hd) h1, show P.fieldsOf T = fs by simp [Program.fieldsOf, hd]]
      -- field by field
      have key : ∀ (fl : List Field) (ts : List Ty) (hx hy : HL C.S.U ts) (off : Nat) (b : Bool), fieldsB P C.S fl ts off = true → eqFB (eqB P C.S d) fl ts = true → RepH C.S M ts (cu.toList.drop off) hx → RepH C.S M ts (cv.toList.drop off) hy → eqElL (eqEl C.S d) ts hx hy = some b →
          (Op.eqFields (m + 1) cu cv fl).run P w = .ok b w := by
        intro fl
        induction fl with
        | nil =>
          intro ts hx hy off b hf _ _ _ e
          cases ts with
          | nil => cases e; rfl
          | cons t ts => simp [fieldsB] at hf
        | cons f fl ih =>
          intro ts hx hy off b hf hq rx ry e
          cases ts with
          | nil => simp [fieldsB] at hf
          | cons t ts =>
            obtain ⟨_, hfo⟩ := fields_of _ _ _ hf
            obtain ⟨f', q1, ⟨F⟩⟩ := hfo 0 t rfl
            have : f = f' := by simpa using q1
            subst this
            have hoff : f.offset = off := by have := F.off; simpa [szL] using this
            simp only [fieldsB, Bool.and_eq_true] at hf
            have hf6 := hf.2
            simp only [eqFB, Bool.and_eq_true] at hq
            generalize hcu : cu.toList.drop off = lu at rx
            generalize hcv : cv.toList.drop off = lv at ry
            cases rx with
            | cons _ _ cx dx x hx rx rxs =>
            cases ry with
            | cons _ _ cy dy y hy ry rys =>
            have lx := rx.len hS
            have ly := ry.len hS
            have sx : seg cu off (sz C.S dep t) = cx := by unfold seg; rw [hcu, ← lx, List.take_left]
            have sy : seg cv off (sz C.S dep t) = cy := by unfold seg; rw [hcv, ← ly, List.take_left]
            have bx : off + sz C.S dep t ≤ cu.size := by
              have := congrArg List.length hcu
              rw [List.length_drop, List.length_append, Array.length_toList, lx] at this
              have := F.szp
              omega
            have by_ : off + sz C.S dep t ≤ cv.size := by
              have := congrArg List.length hcv
              rw [List.length_drop, List.length_append, Array.length_toList, ly] at this
              have := F.szp
              omega
            obtain ⟨vx, px, qx, _⟩ := part_at (w := w) F.data bx (by rw [sx]; exact rx)
            obtain ⟨vy, py, qy, _⟩ := part_at (w := w) F.data by_ (by rw [sy]; exact ry)
            simp only [eqElL] at e
            cases e1 : eqEl C.S d t x y with
            | none => rw [e1] at e; cases e
            | some r =>
              rw [e1] at e
              dsimp only at e
              cases e2 : eqElL (eqEl C.S d) ts hx hy with
              | none => rw [e2] at e; cases e
              | some r2 =>
                rw [e2] at e
                cases e
                have i1 := eqEl_sound hS d m f.type t vx vy x y r (by omega) hq.1 qx qy e1
                have i2 := ih ts hx hy (off + sz C.S dep t) r2 hf6 hq.2 (by rw [← List.drop_drop, hcu, ← lx, List.drop_left]; exact rxs) (by rw [← List.drop_drop, hcv, ← ly, List.drop_left]; exact rys) e2
                simp only [Op.eqFields]
                rw [if_pos F.name]
                simp only [Sem.run_bind, hoff, px, py, Result.andThen_ok, i1, Sem.run_ite]
                cases r
                · rfl
                · simp [i2]
      exact key fs.toList (C.S.fl n) _ _ 0 b h2 h3 (by simpa using ru) (by simpa using rv) e
    · cases hb
end
end Go.Proofs.YthmedjljckbidaaDoor.Lift
