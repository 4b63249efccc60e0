/- What it means that a machine's value, memory and frame are what the evaluator (LiftA) says; and how that stands when memory grows. Conditions: as each theorem states them. -/
import Derived.Test.YthmedjljckbidaaDoorLiftA
import Derived.Laws.AppendOwn
import Derived.Laws.OwnMore
import Derived.Laws.BytesArg
import Derived.Lib.ConvBytes
import Derived.Laws.StructEq
import Derived.Laws.Cells
import Derived.Laws.Tables
import Derived.Laws.CopyRow
import Derived.Laws.Slices
set_option linter.unusedVariables false
namespace Go.Proofs.YthmedjljckbidaaDoor.Lift

inductive All2 {α β : Type} (R : α → β → Prop) : List α → List β → Prop
  | nil : All2 R [] []
  | cons {a : α} {b : β} {l : List α} {k : List β} (h : R a b) (t : All2 R l k) : All2 R (a :: l) (b :: k)

abbrev Mm := Nat → Option (Array Value)

def seg (cs : Array Value) (off n : Nat) : List Value := (cs.toList.drop off).take n

def Ty.isSt : Ty → Bool
  | .st _ => true
  | _ => false

section
variable (S : Sg)

mutual
/-- These cells are this value. -/
inductive RepC (M : Mm) : (t : Ty) → List Value → El S.U t → Prop
  | int (k : IntKind) (n : Int) : RepC M (.int k) [.int k n] n
  | bool (b : Bool) : RepC M .bool [.bool b] b
  | str (s : ByteArray) : RepC M .str [.string s] s
  | nil (t : Ty) (a : Option Addr) (c : Nat) : RepC M (.sl t) [.slice a 0 c] []
  | sl (t : Ty) (b off c : Nat) (cs : Array Value) (xs : List (El S.U t)) (hM : M b = some cs) (hc : xs.length ≤ c) (hs : off + xs.length * sz S dep t ≤ cs.size)
      (h : ∀ i (hi : i < xs.length), RepC M t (seg cs (off + i * sz S dep t) (sz S dep t)) xs[i]) : RepC M (.sl t) [.slice (some ⟨b, off, none⟩) xs.length c] xs
  | st (n : Nat) (cs : List Value) (x : S.U n) (h : RepH M (S.fl n) cs (S.out n x)) : RepC M (.st n) cs x
inductive RepH (M : Mm) : (ts : List Ty) → List Value → HL S.U ts → Prop
  | nil : RepH M [] [] ()
  | cons (t : Ty) (ts : List Ty) (cs ds : List Value) (x : El S.U t) (h : HL S.U ts) (hx : RepC M t cs x) (hh : RepH M ts ds h) : RepH M (t :: ts) (cs ++ ds) (x, h)
end

/-- This value is that one. -/
def RepV (M : Mm) (t : Ty) (v : Value) (x : El S.U t) : Prop :=
  (t.isSt = true ∧ ∃ cs : Array Value, v = .agg cs ∧ RepC S M t cs.toList x) ∨ (t.isSt = false ∧ RepC S M t [v] x)

def Mle (M M' : Mm) : Prop := ∀ b c, M b = some c → M' b = some c
theorem Mle.refl (M : Mm) : Mle M M := fun _ _ h => h
theorem Mle.trans {M M' M'' : Mm} (h : Mle M M') (k : Mle M' M'') : Mle M M'' := fun b c e => k b c (h b c e)

variable {S}
theorem RepC.mono {M M' : Mm} (hM : Mle M M') {t : Ty} {cs : List Value} {x : El S.U t} (h : RepC S M t cs x) : RepC S M' t cs x :=
  RepC.rec (motive_1 := fun t cs x _ => RepC S M' t cs x) (motive_2 := fun ts cs h _ => RepH S M' ts cs h)
    (fun k n => .int k n) (fun b => .bool b) (fun s => .str s) (fun t a c => .nil t a c)
    (fun t b off c cs xs h1 hc hs _ ih => .sl t b off c cs xs (hM _ _ h1) hc hs ih)
    (fun n cs x _ ih => .st n cs x ih) .nil (fun t ts cs ds x h _ _ i1 i2 => .cons t ts cs ds x h i1 i2) h
theorem RepH.mono {M M' : Mm} (hM : Mle M M') {ts : List Ty} {cs : List Value} {x : HL S.U ts} (h : RepH S M ts cs x) : RepH S M' ts cs x :=
  RepH.rec (motive_1 := fun t cs x _ => RepC S M' t cs x) (motive_2 := fun ts cs h _ => RepH S M' ts cs h)
    (fun k n => .int k n) (fun b => .bool b) (fun s => .str s) (fun t a c => .nil t a c)
    (fun t b off c cs xs h1 hc hs _ ih => .sl t b off c cs xs (hM _ _ h1) hc hs ih)
    (fun n cs x _ ih => .st n cs x ih) .nil (fun t ts cs ds x h _ _ i1 i2 => .cons t ts cs ds x h i1 i2) h
theorem RepV.mono {M M' : Mm} (hM : Mle M M') {t : Ty} {v : Value} {x : El S.U t} (h : RepV S M t v x) : RepV S M' t v x :=
  h.imp (fun ⟨a, cs, e, r⟩ => ⟨a, cs, e, r.mono hM⟩) (fun ⟨a, r⟩ => ⟨a, r.mono hM⟩)

/-- What stands behind the evaluator's words: the memory that will not turn, where the objects lie, their capacities, the marks' bools. -/
structure Gh where
  M : Mm
  β : Nat → Nat → Option Nat
  γ : Nat → Nat → Nat
  τ : Nat → Nat → Bool

def ptr (b off : Nat) : Value := .pointer (some ⟨b, off, none⟩)

def rowOf (m : Nat → Nat → Option (Obj' S.U)) (d j : Nat) (n : Nat) : Prop :=
  (∃ E t xs, m d j = some (.row E t xs) ∧ xs.length = n) ∨ ∃ t xs, m d j = some (.srow t xs) ∧ xs.length = n

/-- The size of a row's elements. -/
def rowSz (S : Sg) (m : Nat → Nat → Option (Obj' S.U)) (d j : Nat) (t : Ty) : Prop :=
  (∃ E xs, m d j = some (.row E t xs)) ∨ ∃ xs, m d j = some (.srow t xs)

/-- The offset of a field of a field .. -/
def offs (S : Sg) : List Nat → Ty → Nat
  | [], _ => 0
  | f :: fs, .st n => szL (sz S dep) ((S.fl n).take f) + offs S fs (((S.fl n)[f]?).getD .bool)
  | _ :: _, _ => 0

def RepL (g : Gh) (m : Nat → Nat → Option (Obj' S.U)) (cnt : Nat → Nat) (v : Value) : LV S.U → Prop
  | .v t x => RepV S g.M t v x
  | .tb d j b => v = .bool b ∧ g.τ d j = b ∧ j ≤ cnt d
  | .bl b => v = .bool b
  | .nils => v = .slice none 0 0
  | .nilp => v = .pointer none
  | .ref d j off => j ≤ cnt d ∧ ∃ b, g.β d j = some b ∧ v = ptr b off
  | .row d j => j ≤ cnt d ∧ (∃ q k l, v = .slice q k l) ∧ ∀ n, rowOf m d j n → (g.β d j = none ∧ n = 0 ∧ v = .slice none 0 0) ∨ ∃ b, g.β d j = some b ∧ v = .slice (some ⟨b, 0, none⟩) n (g.γ d j)
  | .pt t x => ∃ b off cs, v = ptr b off ∧ g.M b = some cs ∧ off + sz S dep t ≤ cs.size ∧ RepC S g.M t (seg cs off (sz S dep t)) x
  | .rpt d j i fs => j ≤ cnt d ∧ (∃ q o, v = ptr q o) ∧ ∀ n t, rowOf m d j n → rowSz S m d j t → 0 ≤ i ∧ i < n ∧ ∃ b, g.β d j = some b ∧ v = ptr b (i.toNat * sz S dep t + offs S fs t)
  | .clo f caps => ∃ cs : List Value, v = .func (.func f) #[] cs.toArray ∧ All2 (fun u (c : Nat × Nat × Nat) => c.2.1 ≤ cnt c.1 ∧ ∃ b, g.β c.1 c.2.1 = some b ∧ u = ptr b c.2.2) cs caps
  | .mp d j => j ≤ cnt d ∧ ∃ b, g.β d j = some b ∧ v = .map (some b)
  | .gv d j w x => j ≤ cnt d ∧ (g.τ d j = w → RepL g m cnt v x) ∧ (g.τ d j ≠ w → v = undef)
  | .und => v = undef
  | .junk => True

def RepA (g : Gh) (m : Nat → Nat → Option (Obj' S.U)) (cnt : Nat → Nat) (v : Value) : AV S.U → Prop
  | .l x => RepL g m cnt v x
  | .tup xs => ∃ vs : List Value, v = .tuple vs.toArray ∧ All2 (RepL g m cnt) vs xs
  | .ifv T x => ∃ u, v = .iface T u ∧ RepL g m cnt u x
  | .ag n cs => ∃ vs : List Value, v = .agg vs.toArray ∧ All2 (RepL g m cnt) vs cs ∧ vs.length = sz S dep (.st n) ∧ ∀ u ∈ vs, u.oneCell' = true

/-- The ghost is at least so much. -/
structure Ext (g g' : Gh) (cnt : Nat → Nat) : Prop where
  M : Mle g.M g'.M
  β : ∀ d j, j ≤ cnt d → g'.β d j = g.β d j
  γ : ∀ d j, j ≤ cnt d → g'.γ d j = g.γ d j
  τ : ∀ d j, j ≤ cnt d → g'.τ d j = g.τ d j
theorem Ext.refl (g : Gh) (cnt : Nat → Nat) : Ext g g cnt := ⟨Mle.refl _, fun _ _ _ => rfl, fun _ _ _ => rfl, fun _ _ _ => rfl⟩
theorem Ext.trans {g g' g'' : Gh} {c c' : Nat → Nat} (h : Ext g g' c) (k : Ext g' g'' c') (hc : ∀ d, c d ≤ c' d) : Ext g g'' c :=
  ⟨h.M.trans k.M, fun d j hj => (k.β d j (Nat.le_trans hj (hc d))).trans (h.β d j hj), fun d j hj => (k.γ d j (Nat.le_trans hj (hc d))).trans (h.γ d j hj), fun d j hj => (k.τ d j (Nat.le_trans hj (hc d))).trans (h.τ d j hj)⟩

/-- The objects are as they were, or gone, or grown by new ones: none has another length. -/
def Memle (m m' : Nat → Nat → Option (Obj' S.U)) (cnt : Nat → Nat) : Prop :=
  ∀ d j, j ≤ cnt d → (∀ n, rowOf m' d j n → rowOf m d j n) ∧ ∀ t, rowSz S m' d j t → rowSz S m d j t
theorem Memle.refl (m : Nat → Nat → Option (Obj' S.U)) (cnt : Nat → Nat) : Memle m m cnt := fun _ _ _ => ⟨fun _ h => h, fun _ h => h⟩
theorem Memle.trans {m m' m'' : Nat → Nat → Option (Obj' S.U)} {c c' : Nat → Nat} (h : Memle m m' c) (k : Memle m' m'' c') (hc : ∀ d, c d ≤ c' d) : Memle m m'' c :=
  fun d j hj => ⟨fun n r => (h d j hj).1 n ((k d j (Nat.le_trans hj (hc d))).1 n r), fun t r => (h d j hj).2 t ((k d j (Nat.le_trans hj (hc d))).2 t r)⟩

theorem RepL.mono {g g' : Gh} {m m' : Nat → Nat → Option (Obj' S.U)} {c c' : Nat → Nat} (hg : Ext g g' c) (hm : Memle m m' c) (hc : ∀ d, c d ≤ c' d) (v : Value) :
    ∀ x : LV S.U, RepL g m c v x → RepL g' m' c' v x
  | .v _ _, h => RepV.mono hg.M h
  | .tb d j b, ⟨h1, h2, h3⟩ => ⟨h1, (hg.τ d j h3).trans h2, Nat.le_trans h3 (hc d)⟩
  | .bl _, h => h
  | .nils, h => h
  | .nilp, h => h
  | .ref d j _, ⟨h1, b, h2, h3⟩ => ⟨Nat.le_trans h1 (hc d), b, (hg.β d j h1).trans h2, h3⟩
  | .row d j, ⟨h1, h0, h2⟩ => ⟨Nat.le_trans h1 (hc d), h0, fun n r => (h2 n ((hm d j h1).1 n r)).imp (fun ⟨a, b, e⟩ => ⟨(hg.β d j h1).trans a, b, e⟩) (fun ⟨b, a, e⟩ => ⟨b, (hg.β d j h1).trans a, by rw [hg.γ d j h1]; exact e⟩)⟩
  | .pt _ _, ⟨b, off, cs, h1, h2, h3, h4⟩ => ⟨b, off, cs, h1, hg.M _ _ h2, h3, h4.mono hg.M⟩
  | .rpt d j _ _, ⟨h1, h0, h2⟩ => ⟨Nat.le_trans h1 (hc d), h0, fun n t r s => by
      obtain ⟨a, b, bl, e, f⟩ := h2 n t ((hm d j h1).1 n r) ((hm d j h1).2 t s)
      exact ⟨a, b, bl, (hg.β d j h1).trans e, f⟩⟩
  | .clo _ caps, ⟨cs, h1, h2⟩ => ⟨cs, h1, by
      clear h1
      induction h2 with
      | nil => exact .nil
      | cons h _ ih => exact .cons ⟨Nat.le_trans h.1 (hc _), h.2.imp fun b e => ⟨(hg.β _ _ h.1).trans e.1, e.2⟩⟩ ih⟩
  | .mp d j, ⟨h1, b, h2, h3⟩ => ⟨Nat.le_trans h1 (hc d), b, (hg.β d j h1).trans h2, h3⟩
  | .gv d j w x, ⟨h1, h2, h3⟩ => ⟨Nat.le_trans h1 (hc d), fun e => RepL.mono hg hm hc v x (h2 ((hg.τ d j h1).symm.trans e)), fun e => h3 fun e' => e ((hg.τ d j h1).trans e')⟩
  | .und, h => h
  | .junk, _ => trivial

theorem All2.imp {α β : Type} {R R' : α → β → Prop} (h : ∀ a b, R a b → R' a b) {l : List α} {k : List β} (r : All2 R l k) : All2 R' l k := by
  induction r with
  | nil => exact .nil
  | cons a _ ih => exact .cons (h _ _ a) ih

theorem RepA.mono {g g' : Gh} {m m' : Nat → Nat → Option (Obj' S.U)} {c c' : Nat → Nat} (hg : Ext g g' c) (hm : Memle m m' c) (hc : ∀ d, c d ≤ c' d) {v : Value} {x : AV S.U} (h : RepA g m c v x) : RepA g' m' c' v x := by
  cases x with
  | l x => exact RepL.mono hg hm hc v x h
  | tup xs => exact h.imp fun vs e => ⟨e.1, All2.imp (fun u y => RepL.mono hg hm hc u y) e.2⟩
  | ifv T x => exact h.imp fun u e => ⟨e.1, RepL.mono hg hm hc u x e.2⟩
  | ag n cs => exact h.imp fun vs e => ⟨e.1, All2.imp (fun u y => RepL.mono hg hm hc u y) e.2.1, e.2.2⟩

/-- The cells of a row are its values. -/
def RowC (S : Sg) (M : Mm) (t : Ty) (cs : Array Value) (xs : List (El S.U t)) : Prop :=
  xs.length * sz S dep t ≤ cs.size ∧ ∀ i (hi : i < xs.length), RepC S M t (seg cs (i * sz S dep t) (sz S dep t)) xs[i]
theorem RowC.mono {M M' : Mm} (hM : Mle M M') {t : Ty} {cs : Array Value} {xs : List (El S.U t)} (h : RowC S M t cs xs) : RowC S M' t cs xs := ⟨h.1, fun i hi => (h.2 i hi).mono hM⟩

/-- What an object is in memory. -/
def RepO (g : Gh) (m : Nat → Nat → Option (Obj' S.U)) (cnt : Nat → Nat) (w : World) (d j : Nat) : Obj' S.U → Prop
  | .box cs => ∃ b E vs, g.β d j = some b ∧ w.heap[b]? = some (.cells vs E (0, 0)) ∧ All2 (RepL g m cnt) vs.toList cs ∧ ∀ u ∈ vs.toList, u.oneCell' = true
  | .row E t xs => (g.β d j = none ∧ xs = []) ∨ ∃ b vs, g.β d j = some b ∧ w.heap[b]? = some (.cells vs E (0, 0)) ∧ xs.length ≤ g.γ d j ∧ g.γ d j ≤ maxLen ∧ vs.size = g.γ d j * sz S dep t ∧ RowC S g.M t vs xs ∧ (∀ u ∈ vs.toList.take (xs.length * sz S dep t), u.oneCell' = true)
  | .srow t xs => (g.β d j = none ∧ xs = []) ∨ ∃ b vs, g.β d j = some b ∧ g.M b = some vs ∧ xs.length ≤ g.γ d j ∧ RowC S g.M t vs xs
  | .it s p => 0 ≤ p ∧ ∃ b, g.β d j = some b ∧ w.heap[b]? = some (.stringIter s p.toNat)
  | .bld T y => ∃ b p v, g.β d j = some b ∧ w.heap[b]? = some (.cells #[p, v] T (0, 0)) ∧ (p = .pointer none ∨ p = ptr b 0) ∧ RepL g m cnt v y
  | .map kt vt ks vs => ∃ b es clock, g.β d j = some b ∧ w.heap[b]? = some (.map es clock) ∧ All2 (fun (e : MapEntry) (x : El S.U kt) => RepV S g.M kt e.key x) es.toList ks ∧ All2 (fun (e : MapEntry) (x : El S.U vt) => RepV S g.M vt e.val x) es.toList vs

def Obj'.mut {U : Nat → Type} : Obj' U → Bool
  | .srow _ _ => false
  | _ => true

/-- What a call leaves as it was: below block B all but X. -/
structure Keep (B : Nat) (X : Nat → Prop) (w w' : World) : Prop where
  os : w'.os = w.os
  tape : w'.tape = w.tape
  output : w'.output = w.output
  size : w.heap.size ≤ w'.heap.size
  block : ∀ k, k < B → ¬ X k → w'.heap[k]? = w.heap[k]?

/-- A call's own frame of reference. -/
structure Call where
  N : Fr
  pv : Nat → Value
  gv : Nat → Option Nat
  base : Nat
  X : Nat → Prop
  w0 : World
  M0 : Mm

/-- The boxes that lie in no slot lie where they lay. -/
def GP (c : Call) (cnt : Nat → Nat) (g : Gh) : Prop := ∀ s ∈ c.N.q, 1 ≤ cnt s ∧ g.β s 1 = c.gv s
theorem GP.mono {c : Call} {cnt cnt' : Nat → Nat} {g g' : Gh} (h : GP c cnt g) (hg : Ext g g' cnt) (hc : ∀ d, cnt d ≤ cnt' d) : GP c cnt' g' :=
  fun s hs => ⟨Nat.le_trans (h s hs).1 (hc s), (hg.β s 1 (h s hs).1).trans (h s hs).2⟩

structure Rel (c : Call) (st : St S.U) (a : Act) (w : World) (g : Gh) : Prop where
  agree : ∀ b cs, g.M b = some cs → ∃ E f, w.heap[b]? = some (.cells cs E f)
  slots : ∀ k, RepA g st.mem st.cnt (a.tmps.getD k undef) (st.sl k)
  objs : ∀ d j o, st.mem d j = some o → RepO g st.mem st.cnt w d j o
  own : ∀ d j o b, st.mem d j = some o → o.mut = true → g.β d j = some b → g.M b = none ∧ (c.base ≤ b ∨ c.X b)
  apart : ∀ d j o b d' j' o', st.mem d j = some o → o.mut = true → g.β d j = some b → st.mem d' j' = some o' → o'.mut = true → g.β d' j' = some b → d = d' ∧ j = j'
  fresh : ∀ d j, st.cnt d < j → st.mem d j = none
  size : a.tmps.size = c.N.n
  defers : a.defers = []
  pin : ∀ i ∈ c.N.p, a.tmps.getD i undef = c.pv i
  gpin : GP c st.cnt g
  glob : (∀ k ∈ S.gl, k < c.base ∧ ¬ c.X k ∧ S.gp k (cellsIn c.w0.heap[k]?)) ∧ ∀ k t x, S.gv k = some ⟨t, x⟩ → ∃ cs, c.M0 k = some cs ∧ sz S dep t ≤ cs.size ∧ RepC S c.M0 t (seg cs 0 (sz S dep t)) x
  keep : Keep c.base c.X c.w0 w
  ge : c.base ≤ w.heap.size
  m0 : Mle c.M0 g.M
  mb : ∀ b cs, g.M b = some cs → c.M0 b = some cs ∨ c.base ≤ b ∨ c.X b
end
end Go.Proofs.YthmedjljckbidaaDoor.Lift
