/- The program's types are what the evaluator's table tells; operands; what is put into slots. Conditions: as each theorem states them. -/
import Derived.Test.YthmedjljckbidaaDoorLiftE
set_option linter.unusedVariables false
namespace Go.Proofs.YthmedjljckbidaaDoor.Lift

def v0eq : Value → Value → Bool
  | .int k n, .int k' m => decide (k = k') && decide (n = m)
  | .bool a, .bool b => a == b
  | .string a, .string b => decide (a.data = #[]) && decide (b.data = #[])
  | .slice none n c, .slice none m d => (Nat.beq n m) && (Nat.beq c d)
  | _, _ => false
theorem v0eq_eq : ∀ {a b : Value}, v0eq a b = true → a = b := by
  intro a b h
  unfold v0eq at h
  split at h
  · simp at h; rw [h.1, h.2]
  · simp at h; rw [h]
  · rename_i s u
    simp at h
    obtain ⟨s⟩ := s
    obtain ⟨u⟩ := u
    simp at h
    rw [h.1, h.2]
  · simp at h; rw [h.1, h.2]
  · cases h
def v0eqs : List Value → List Value → Bool
  | [], [] => true
  | a :: l, b :: k => v0eq a b && v0eqs l k
  | _, _ => false
theorem v0eqs_eq : ∀ {l k : List Value}, v0eqs l k = true → l = k
  | [], [], _ => rfl
  | a :: l, b :: k, h => by
    simp only [v0eqs, Bool.and_eq_true] at h
    rw [v0eq_eq h.1, v0eqs_eq h.2]
  | [], _ :: _, h => by simp [v0eqs] at h
  | _ :: _, [], h => by simp [v0eqs] at h

def aggD : TypeDesc → Bool
  | .struct _ | .array _ _ => true
  | _ => false
def isAggV : Value → Bool
  | .agg _ => true
  | _ => false
def descIs : TypeDesc → Ty → Nat → Bool
  | .int k, .int k', _ => decide (k = k')
  | .bool, .bool, _ => true
  | .string, .str, _ => true
  | .slice e, .sl _, E => Nat.beq e E
  | .struct _, .st _, _ => true
  | _, _, _ => false

/-- A type's own facts. -/
structure DataOk (P : Program) (S : Sg) (T : Nat) (t : Ty) where
  info : TypeInfo
  desc : TypeDesc
  hi : P.info? T = some info
  hd : P.underlying T = some desc
  hs : info.size = sz S dep t
  zv : Value
  hz : info.zero = some zv
  hzc : zv.cells.toList = zvals S dep t
  hza : isAggV zv = t.isSt
  hagg : aggD desc = t.isSt

def dataB (P : Program) (S : Sg) (T : Nat) (t : Ty) : Bool :=
  match P.info? T, P.underlying T with
  | some i, some d => Nat.beq i.size (sz S dep t) && (match i.zero with | some z => v0eqs z.cells.toList (zvals S dep t) && (isAggV z == t.isSt) | none => false) && (aggD d == t.isSt)
  | _, _ => false
theorem dataOk {P : Program} {S : Sg} {T : Nat} {t : Ty} (h : dataB P S T t = true) : Nonempty (DataOk P S T t) := by
  unfold dataB at h
  split at h
  · rename_i i d hi hd
    split at h
    · rename_i z hz
      simp at h
      exact ⟨⟨i, d, hi, hd, h.1.1, z, hz, v0eqs_eq h.1.2.1, h.1.2.2, h.2⟩⟩
    · simp at h
  · cases h

def fieldsB (P : Program) (S : Sg) : List Field → List Ty → Nat → Bool
  | [], [], _ => true
  | f :: fs, t :: ts, off => Nat.beq f.offset off && dataB P S f.type t && !(f.name == "_") && (match P.underlying f.type with | some d => descIs d t (match d with | .slice e => e | _ => 0) | none => false) && Nat.blt 0 (sz S dep t) && fieldsB P S fs ts (off + sz S dep t)
  | _, _, _ => false

def innerB (P : Program) (S : Sg) (eb E : Nat) : TypeDesc → Ty → Bool
  | .slice _, .sl u => dataB P S E u && Nat.ble (P.bytesOf E) eb && Nat.blt 0 eb && Nat.blt 0 (sz S dep u) && (match P.underlying E with | some d => descIs d u (match d with | .slice e => e | _ => 0) | none => false)
  | .struct fs, .st n => fieldsB P S fs.toList (S.fl n) 0
  | _, _ => true

def tyB (P : Program) (S : Sg) : Nat × TI → Bool
  | (T, .d t eb E) => dataB P S T t && (match P.underlying T with | some d => descIs d t E && innerB P S eb E d t | none => false)
  | (T, .a t n E) => dataB P S E t && (match P.info? T, P.underlying T with
    | some i, some (.array n' E') => Nat.beq n' n && Nat.beq E' E && (match i.zero with | some z => v0eqs z.cells.toList (List.replicate n (zvals S dep t)).flatten | none => false)
    | _, _ => false)
  | (T, .m k e) => match P.info? T, P.underlying T with
    | some i, some (.map k' e') => Nat.beq i.size 1 && Nat.beq k' k && Nat.beq e' e && (match i.zero with | some z => z.oneCell' | none => false)
    | _, _ => false
  | (T, .b) => match P.info? T with
    | some i => match i.zero with
      | some z => match z.cells.toList with
        | [.pointer none, .slice none 0 0] => true
        | _ => false
      | none => false
    | none => false
  | (T, .o) => match P.info? T, P.underlying T with
    | some i, some d => Nat.beq i.size 1 && !aggD d && (match i.zero with | some z => z.oneCell' | none => false)
    | _, _ => false
  | (T, .n) => match P.info? T, P.underlying T with
    | some i, some d => i.zero.isSome && (match d with | .interface _ => false | _ => true)
    | _, _ => false

/-- The whole table. -/
def TyOk (P : Program) (C : Ctx) : Prop := ∀ T ti, lkp T C.ty = some ti → tyB P C.S (T, ti) = true
theorem tyOk_of {P : Program} {C : Ctx} (h : C.ty.all (tyB P C.S) = true) : TyOk P C := by
  intro T ti e
  have : ∀ l : List (Nat × TI), l.all (tyB P C.S) = true → lkp T l = some ti → tyB P C.S (T, ti) = true := by
    intro l
    induction l with
    | nil => intro _ e; simp [lkp] at e
    | cons x l ih =>
      intro ha e
      obtain ⟨n, v⟩ := x
      simp only [List.all_cons, Bool.and_eq_true] at ha
      simp only [lkp] at e
      cases hb : Nat.beq n T with
      | true => rw [hb] at e; simp at e; subst e; rw [← Nat.eq_of_beq_eq_true hb]; exact ha.1
      | false => rw [hb] at e; exact ih ha.2 e
  exact this _ h e

section
variable {P : Program} {C : Ctx}
theorem TyOk.data (h : TyOk P C) {T : Nat} {t : Ty} {eb E : Nat} (e : lkp T C.ty = some (.d t eb E)) : Nonempty (DataOk P C.S T t) := by
  have := h T _ e
  simp only [tyB, Bool.and_eq_true] at this
  exact dataOk this.1
theorem TyOk.arr (h : TyOk P C) {T : Nat} {t : Ty} {n E : Nat} (e : lkp T C.ty = some (.a t n E)) : Nonempty (DataOk P C.S E t) ∧ P.underlying T = some (.array n E) ∧ ∃ i z, P.info? T = some i ∧ i.zero = some z ∧ z.cells.toList = (List.replicate n (zvals C.S dep t)).flatten := by
  have := h T _ e
  simp only [tyB, Bool.and_eq_true] at this
  refine ⟨dataOk this.1, ?_⟩
  have := this.2
  split at this
  · rename_i i n' E' hi hd
    simp only [Bool.and_eq_true] at this
    obtain ⟨⟨q1, q2⟩, q3⟩ := this
    have q1 := Nat.eq_of_beq_eq_true q1
    have q2 := Nat.eq_of_beq_eq_true q2
    subst q1; subst q2
    split at q3
    · rename_i z hz
      exact ⟨hd, i, z, hi, hz, v0eqs_eq q3⟩
    · cases q3
  · cases this
theorem TyOk.desc (h : TyOk P C) {T : Nat} {t : Ty} {eb E : Nat} (e : lkp T C.ty = some (.d t eb E)) : ∃ d, P.underlying T = some d ∧ descIs d t E = true := by
  have := h T _ e
  simp only [tyB, Bool.and_eq_true] at this
  obtain ⟨_, h2⟩ := this
  split at h2
  · rename_i d hd
    simp only [Bool.and_eq_true] at h2
    exact ⟨d, hd, h2.1⟩
  · cases h2
theorem TyOk.int (h : TyOk P C) {T : Nat} {k : IntKind} {eb E : Nat} (e : lkp T C.ty = some (.d (.int k) eb E)) : P.underlying T = some (.int k) := by
  obtain ⟨d, hd, h2⟩ := h.desc e
  cases d <;> simp [descIs] at h2
  subst h2; exact hd
theorem TyOk.bool (h : TyOk P C) {T : Nat} {eb E : Nat} (e : lkp T C.ty = some (.d .bool eb E)) : P.underlying T = some .bool := by
  obtain ⟨d, hd, h2⟩ := h.desc e
  cases d <;> simp [descIs] at h2
  exact hd
theorem TyOk.str (h : TyOk P C) {T : Nat} {eb E : Nat} (e : lkp T C.ty = some (.d .str eb E)) : P.underlying T = some .string := by
  obtain ⟨d, hd, h2⟩ := h.desc e
  cases d <;> simp [descIs] at h2
  exact hd
structure ElemOk (P : Program) (S : Sg) (E : Nat) (u : Ty) (eb : Nat) where
  data : DataOk P S E u
  bytes : P.bytesOf E ≤ eb
  pos : 0 < eb
  szp : 0 < sz S dep u
  u8 : u = .int .u8 → P.underlying E = some (.int .u8)
theorem TyOk.sl (h : TyOk P C) {T : Nat} {u : Ty} {eb E : Nat} (e : lkp T C.ty = some (.d (.sl u) eb E)) : P.underlying T = some (.slice E) ∧ Nonempty (ElemOk P C.S E u eb) := by
  have := h T _ e
  simp only [tyB, Bool.and_eq_true] at this
  obtain ⟨_, h2⟩ := this
  split at h2
  · rename_i d hd
    cases d <;> simp only [descIs, innerB, Bool.and_eq_true, Bool.false_and, Bool.false_eq_true] at h2
    obtain ⟨h3, ⟨⟨⟨⟨h4, h5⟩, h6⟩, h7⟩, h8⟩⟩ := h2
    have h3 := Nat.eq_of_beq_eq_true h3
    subst h3
    have h5 := Nat.le_of_ble_eq_true h5
    have h6 : 0 < eb := by simpa using h6
    have h7 : 0 < sz C.S dep u := by simpa using h7
    obtain ⟨D⟩ := dataOk h4
    refine ⟨hd, ⟨⟨D, h5, h6, h7, fun hu => ?_⟩⟩⟩
    subst hu
    split at h8
    · rename_i d2 hd2
      cases d2 <;> simp at h8
      subst h8; exact hd2
    · cases h8
  · cases h2
theorem TyOk.conc (h : TyOk P C) {T : Nat} (e : concT C T = true) : ∃ i d z, P.info? T = some i ∧ i.zero = some z ∧ P.underlying T = some d ∧ ∀ ms, d ≠ .interface ms := by
  unfold concT at e
  split at e
  · rename_i t eb E eT
    obtain ⟨d, hd, hdi⟩ := h.desc eT
    obtain ⟨D⟩ := h.data eT
    exact ⟨_, d, _, D.hi, D.hz, hd, by rintro ms rfl; cases t <;> simp [descIs] at hdi⟩
  · rename_i eT
    have := h T _ eT
    simp only [tyB] at this
    split at this
    · rename_i i d hi hd
      simp only [Bool.and_eq_true] at this
      obtain ⟨z, hz⟩ := Option.isSome_iff_exists.1 this.1
      exact ⟨i, d, z, hi, hz, hd, by rintro ms rfl; simp at this⟩
    · cases this
  · cases e

theorem TyOk.o (h : TyOk P C) {T : Nat} (e : lkp T C.ty = some .o) : ∃ i d, P.info? T = some i ∧ P.underlying T = some d ∧ i.size = 1 ∧ aggD d = false := by
  have := h T _ e
  simp only [tyB] at this
  split at this
  · rename_i i d hi hd
    simp at this
    exact ⟨i, d, hi, hd, this.1.1, this.1.2⟩
  · cases this
theorem TyOk.m (h : TyOk P C) {T k e : Nat} (q : lkp T C.ty = some (.m k e)) : ∃ i, (P.info? T = some i ∧ i.size = 1) ∧ P.underlying T = some (.map k e) := by
  have := h T _ q
  simp only [tyB] at this
  split at this
  · rename_i i k' e' hi hd
    simp at this
    exact ⟨i, ⟨hi, this.1.1.1⟩, by rw [hd, this.1.1.2, this.1.2]⟩
  · cases this
theorem TyOk.zo (h : TyOk P C) {T : Nat} (q : lkp T C.ty = some .o ∨ ∃ k e, lkp T C.ty = some (.m k e)) : ∃ i z, P.info? T = some i ∧ i.zero = some z ∧ z.oneCell' = true := by
  rcases q with q | ⟨k, e, q⟩
  · have := h T _ q
    simp only [tyB] at this
    split at this
    · rename_i i d hi hd
      simp only [Bool.and_eq_true] at this
      have h3 := this.2
      split at h3
      · rename_i z hz; exact ⟨i, z, hi, hz, h3⟩
      · cases h3
    · cases this
  · have := h T _ q
    simp only [tyB] at this
    split at this
    · rename_i i k' e' hi hd
      simp only [Bool.and_eq_true] at this
      have h3 := this.2
      split at h3
      · rename_i z hz; exact ⟨i, z, hi, hz, h3⟩
      · cases h3
    · cases this
theorem TyOk.b (h : TyOk P C) {T : Nat} (q : lkp T C.ty = some .b) : ∃ i z, P.info? T = some i ∧ i.zero = some z ∧ z.cells = #[.pointer none, .slice none 0 0] := by
  have := h T _ q
  simp only [tyB] at this
  split at this
  · rename_i i hi
    split at this
    · rename_i z hz
      split at this
      · rename_i e
        exact ⟨i, z, hi, hz, Array.ext' e⟩
      · cases this
    · cases this
  · cases this
/-- A struct's field, as the program has it. -/
structure FieldOk (P : Program) (S : Sg) (f : Field) (t : Ty) (off : Nat) where
  off : f.offset = off
  data : DataOk P S f.type t
  name : f.name ≠ "_"
  desc : ∃ d E, P.underlying f.type = some d ∧ descIs d t E = true
  szp : 0 < sz S dep t
theorem fields_of {S : Sg} : ∀ (fs : List Field) (ts : List Ty) (off : Nat), fieldsB P S fs ts off = true → fs.length = ts.length ∧ ∀ (i : Nat) (t : Ty), ts[i]? = some t → ∃ f, fs[i]? = some f ∧ Nonempty (FieldOk P S f t (off + szL (sz S dep) (ts.take i)))
  | [], [], _, _ => ⟨rfl, fun i t e => by simp at e⟩
  | f :: fs, t :: ts, off, h => by
    simp only [fieldsB, Bool.and_eq_true] at h
    obtain ⟨⟨⟨⟨⟨h1, h2⟩, h3⟩, h4⟩, h5⟩, h6⟩ := h
    obtain ⟨l, k⟩ := fields_of fs ts _ h6
    obtain ⟨D⟩ := dataOk h2
    refine ⟨by simp [l], fun i u e => ?_⟩
    cases i with
    | zero =>
      simp at e; subst e
      refine ⟨f, rfl, ⟨⟨by simpa [szL] using Nat.eq_of_beq_eq_true h1, D, by simpa using h3, ?_, by simpa using h5⟩⟩⟩
      split at h4
      · rename_i d hd; exact ⟨d, _, hd, h4⟩
      · cases h4
    | succ i =>
      obtain ⟨f', e1, ⟨F⟩⟩ := k i u (by simpa using e)
      exact ⟨f', by simpa using e1, ⟨⟨by rw [F.off]; simp [szL]; omega, F.data, F.name, F.desc, F.szp⟩⟩⟩
  | [], _ :: _, _, h => by simp [fieldsB] at h
  | _ :: _, [], _, h => by simp [fieldsB] at h
theorem TyOk.st (h : TyOk P C) {T : Nat} {n : Nat} {eb E : Nat} (e : lkp T C.ty = some (.d (.st n) eb E)) : ∃ fs : Array Field, P.underlying T = some (.struct fs) ∧ fs.size = (C.S.fl n).length ∧
    ∀ (i : Nat) (t : Ty), (C.S.fl n)[i]? = some t → ∃ f, fs[i]? = some f ∧ Nonempty (FieldOk P C.S f t (szL (sz C.S dep) ((C.S.fl n).take i))) := by
  have := h T _ e
  simp only [tyB, Bool.and_eq_true] at this
  obtain ⟨_, h2⟩ := this
  split at h2
  · rename_i d hd
    cases d <;> simp only [descIs, innerB, Bool.and_eq_true, Bool.false_and, Bool.false_eq_true] at h2
    rename_i fs
    obtain ⟨l, k⟩ := fields_of _ _ _ h2.2
    exact ⟨fs, hd, by simpa using l, fun i t e => by simpa using k i t e⟩
  · cases h2

theorem run_info {i : TypeInfo} {T : Nat} (h : P.info? T = some i) (w : World) : (typeInfo T).run P w = .ok i w := by simp [typeInfo, h]
theorem run_size {i : TypeInfo} {T : Nat} (h : P.info? T = some i) (w : World) : (sizeOf T).run P w = .ok i.size w := by simp [sizeOf, run_info h]
theorem run_zero {i : TypeInfo} {T : Nat} (h : P.info? T = some i) {z : Value} (hz : i.zero = some z) (w : World) : (zeroValue T).run P w = .ok z w := by simp [zeroValue, run_info h, hz]
theorem run_agg {d : TypeDesc} {T : Nat} (h : P.underlying T = some d) (w : World) : (isAgg T).run P w = .ok (aggD d) w := by
  simp only [isAgg, Sem.run_bind, run_underlying h, Result.andThen_ok]
  cases d <;> rfl

theorem run_loadVar_agg {T : Nat} {i : TypeInfo} {d : TypeDesc} {w : World} (hi : P.info? T = some i) (hd : P.underlying T = some d) (ha : aggD d = true) (a : Addr) (cs : List Value) (hl : cs.length = i.size)
    (h : ∀ j v, cs[j]? = some v → w.cell? (a.add j) = some v) : (loadVar T a).run P w = .ok (.agg cs.toArray) w := by
  simp only [loadVar, Sem.run_bind, run_agg hd, ha, Result.andThen_ok, if_true, run_size hi, ← hl, run_loadCells_list w a cs h, Sem.run_pure]
theorem run_loadVar_one {T : Nat} {d : TypeDesc} {w : World} (hd : P.underlying T = some d) (ha : aggD d = false) (a : Addr) (v : Value) (h : w.cell? a = some v) : (loadVar T a).run P w = .ok v w := by
  simp only [loadVar, Sem.run_bind, run_agg hd, ha, Result.andThen_ok]
  simp [run_load, h]

/-- A cell of a block. -/
theorem cell_of {w : World} {b o : Nat} {cs : Array Value} {E : TypeId} {f : Nat × Nat} (h : w.heap[b]? = some (.cells cs E f)) : w.cell? ⟨b, o, none⟩ = cs[o]? := by simp [World.cell?, h]
theorem add_mk (b o n : Nat) : Addr.add ⟨b, o, none⟩ n = ⟨b, o + n, none⟩ := by
  unfold Addr.add
  split
  · rename_i h; subst h; rfl
  · rfl
end

section
variable {P : Program} {C : Ctx} {c : Call} {st : St C.S.U} {a : Act} {w : World} {g : Gh}

theorem RepL.strip {g : Gh} {m : Nat → Nat → Option (Obj' C.S.U)} {cnt : Nat → Nat} {v : Value} {d j : Nat} {b : Bool} (ht : g.τ d j = b) (x : LV C.S.U) (h : RepL g m cnt v x) : RepL g m cnt v (stripL d j b x) := by
  unfold stripL
  split
  · rename_i d' j' w' y
    cases e : (Nat.beq d d' && Nat.beq j j') && (b == w') with
    | false => exact h
    | true =>
      simp at e
      obtain ⟨⟨rfl, rfl⟩, rfl⟩ := e
      exact h.2.1 ht
  · exact h

/-- The marks of a guard hold. -/
def Holds (g : Gh) (cx : List (Nat × Nat × Bool)) : Prop := ∀ m ∈ cx, g.τ m.1 m.2.1 = m.2.2
def Keys (g : Gh) (cnt : Nat → Nat) : List (Nat × Nat × Bool) → Prop
  | [] => True
  | (d, j, b) :: r => j ≤ cnt d ∧ (g.τ d j = b → Keys g cnt r)
theorem Holds.nil (g : Gh) : Holds g [] := fun _ h => nomatch h
theorem Holds.cons {g : Gh} {d j : Nat} {b : Bool} {r : List (Nat × Nat × Bool)} : Holds g ((d, j, b) :: r) ↔ g.τ d j = b ∧ Holds g r :=
  ⟨fun h => ⟨h _ (List.mem_cons_self ..), fun m hm => h m (List.mem_cons_of_mem _ hm)⟩, fun h m hm => by
    rcases List.mem_cons.1 hm with rfl | hm
    · exact h.1
    · exact h.2 m hm⟩
theorem Keys.mono {g g' : Gh} {cnt cnt' : Nat → Nat} (ht : ∀ d j, j ≤ cnt d → g'.τ d j = g.τ d j) (hc : ∀ d, cnt d ≤ cnt' d) : ∀ {cx : List (Nat × Nat × Bool)}, Keys g cnt cx → Keys g' cnt' cx ∧ (Holds g' cx ↔ Holds g cx)
  | [], _ => ⟨trivial, ⟨fun _ => Holds.nil _, fun _ => Holds.nil _⟩⟩
  | (d, j, b) :: r, ⟨h1, h2⟩ => by
    refine ⟨⟨Nat.le_trans h1 (hc d), fun e => (Keys.mono ht hc (h2 ((ht d j h1).symm.trans e))).1⟩, ?_⟩
    rw [Holds.cons, Holds.cons, ht d j h1]
    exact ⟨fun e => ⟨e.1, (Keys.mono ht hc (h2 e.1)).2.1 e.2⟩, fun e => ⟨e.1, (Keys.mono ht hc (h2 e.1)).2.2 e.2⟩⟩

theorem RepA.strip {g : Gh} {m : Nat → Nat → Option (Obj' C.S.U)} {cnt : Nat → Nat} {v : Value} : ∀ (cx : List (Nat × Nat × Bool)), Holds g cx → ∀ x : AV C.S.U, RepA g m cnt v x → RepA g m cnt v (strip cx x)
  | [], _, x, h => by cases x <;> exact h
  | (d, j, b) :: r, hc, x, h => by
    cases x with
    | l x => exact RepA.strip r (fun m hm => hc m (List.mem_cons_of_mem _ hm)) _ (RepL.strip (hc (d, j, b) (List.mem_cons_self ..)) x h)
    | _ => exact h

theorem constLV_sound {g : Gh} {m : Nat → Nat → Option (Obj' C.S.U)} {cnt : Nat → Nat} (v : Value) : RepL g m cnt v (constLV C.S.U v) := by
  unfold constLV
  split
  · exact .inr ⟨rfl, .int _ _⟩
  · exact rfl
  · exact .inr ⟨rfl, .str _⟩
  · rename_i n c'
    cases e : (Nat.beq n 0 && Nat.beq c' 0) with
    | false => exact trivial
    | true => simp at e; rw [e.1, e.2]; exact rfl
  · exact rfl
  · exact trivial

theorem opd_sound (hr : Rel c st a w g) {cx : List (Nat × Nat × Bool)} (hc : Holds g cx) (T : Nat) (x : Operand) : RepA g st.mem st.cnt (a.eval x) (opd C cx T st x) := by
  unfold opd
  split
  · rename_i t; exact RepA.strip cx hc _ (hr.slots t)
  · rename_i cs
    split
    · rename_i n _ _ _
      cases e : (Nat.beq cs.size (sz C.S dep (.st n)) && cs.toList.all Value.oneCell') with
      | false => exact trivial
      | true =>
        simp only [Bool.and_eq_true, List.all_eq_true] at e
        refine ⟨cs.toList, by simp [Act.eval], ?_, by simpa using Nat.eq_of_beq_eq_true e.1, e.2⟩
        generalize cs.toList = l
        induction l with
        | nil => exact .nil
        | cons u l ih => exact .cons (constLV_sound u) ih
    · exact trivial
  · exact constLV_sound _
  · rename_i f; exact ⟨[], rfl, .nil⟩
  · rename_i k
    split
    · rename_i t x e
      obtain ⟨cs, h1, h2, h3⟩ := hr.glob.2 k t x e
      exact ⟨k, 0, cs, rfl, hr.m0 _ _ h1, by rw [Nat.zero_add]; exact h2, h3.mono hr.m0⟩
    · exact trivial

theorem avL_sound {g : Gh} {m : Nat → Nat → Option (Obj' C.S.U)} {cnt : Nat → Nat} {v : Value} {x : AV C.S.U} (h : RepA g m cnt v x) : RepL g m cnt v (avL x) := by
  cases x with
  | l x => exact h
  | _ => exact trivial

theorem wrapG_sound {g : Gh} {m : Nat → Nat → Option (Obj' C.S.U)} {cnt : Nat → Nat} {v : Value} {x : LV C.S.U} : ∀ (cx : List (Nat × Nat × Bool)), Keys g cnt cx → (Holds g cx → RepL g m cnt v x) → (¬ Holds g cx → v = undef) → RepL g m cnt v (wrapG cx x)
  | [], _, h, _ => h (fun _ hm => by cases hm)
  | (d, j, b) :: r, hk, h, h' => by
    refine ⟨hk.1, fun e => ?_, fun e => h' fun hh => e (hh (d, j, b) (List.mem_cons_self ..))⟩
    refine wrapG_sound r (hk.2 e) (fun hh => h ?_) (fun hh => h' fun k => hh fun q hq => k q (List.mem_cons_of_mem _ hq))
    intro q hq
    rcases List.mem_cons.1 hq with rfl | hq
    · exact e
    · exact hh q hq

theorem okSl_spec {N : Fr} {d : Nat} (h : okSl N d = true) : d < N.n ∧ d ∉ N.p := by
  unfold okSl at h
  obtain ⟨h1, h2⟩ := Bool.and_eq_true_iff.1 h
  refine ⟨by simpa using h1, fun hm => ?_⟩
  have : ∀ l : List Nat, d ∈ l → memB d l = true := by
    intro l
    induction l with
    | nil => intro h; cases h
    | cons a l ih =>
      intro h
      rcases List.mem_cons.1 h with rfl | h
      · simp [memB]
      · simp [memB, ih h]
  rw [this _ hm] at h2
  cases h2

/-- What is put into its slot; a guard's marks stand over it, whether they hold or not. -/
theorem put_sound {ρ : Type} (hr : Rel c st a w g) {cx : List (Nat × Nat × Bool)} (hk : Keys g st.cnt cx) {dst : Option Nat} {v : Value} {x : AV C.S.U} (hx : Holds g cx → RepA g st.mem st.cnt v x) (hx' : ¬ Holds g cx → v = undef)
    {K : St C.S.U → Option ρ} {r : ρ} (h : st.put c.N cx dst x K = some r) : ∃ st' g', K st' = some r ∧ Rel c st' (a.put dst v) w g' := by
  unfold St.put at h
  split at h
  · exact ⟨st, g, h, hr⟩
  · rename_i d
    cases e : okSl c.N d with
    | false => rw [e] at h; cases h
    | true =>
      rw [e] at h
      simp only [cond_true] at h
      have hd : d < c.N.n ∧ d ∉ c.N.p := okSl_spec e
      split at h
      · rename_i b
        obtain ⟨h1, h2⟩ := hr.tag d b
        refine ⟨_, _, h, h1.slot hd.1 hd.2 (x := .l (wrapG cx (.tb d (st.cnt d + 1) b))) ?_⟩
        have hl := cnt_le st.cnt d
        obtain ⟨hk', hh⟩ := Keys.mono (g' := { g with τ := fun e j => if e = d ∧ j = st.cnt d + 1 then b else g.τ e j }) h2.τ hl hk
        refine wrapG_sound cx hk' (fun q => ?_) (fun q => hx' fun q' => q (hh.2 q'))
        have hv : RepL g st.mem st.cnt v (.v .bool b) := hx (hh.1 q)
        have hv : v = .bool b := by have := RepV.leaf (S := C.S) rfl hv; cases this; rfl
        exact ⟨hv, by show (if d = d ∧ st.cnt d + 1 = st.cnt d + 1 then b else _) = b; rw [if_pos ⟨rfl, rfl⟩], by show st.cnt d + 1 ≤ upd st.cnt d (st.cnt d + 1) d; rw [upd_same]; exact Nat.le_refl _⟩
      · rename_i y _
        exact ⟨_, g, h, hr.slot hd.1 hd.2 (x := .l (wrapG cx y)) (wrapG_sound cx hk hx hx')⟩
      · split at h
        · exact ⟨_, g, h, hr.slot hd.1 hd.2 (hx (fun _ hm => by cases hm))⟩
        · cases h
end
end Go.Proofs.YthmedjljckbidaaDoor.Lift
