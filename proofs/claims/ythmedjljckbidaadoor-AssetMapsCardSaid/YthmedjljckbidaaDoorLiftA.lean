/- A reading of Go's code as a function of values: what each operation makes of what the temporaries are known to hold. Conditions: none, these are definitions. -/
import Derived.Calls
import Derived.Laws.Sem
import Derived.Below
import Derived.Orders
import Derived.Still
import Derived.StillTail
import Derived.KernelRfl
set_option linter.unusedVariables false
namespace Go.Proofs.YthmedjljckbidaaDoor.Lift

/-- The types of data. -/
inductive Ty where
  | int (k : IntKind)
  | bool
  | str
  | sl (t : Ty)
  | st (n : Nat)
  deriving DecidableEq

/-- A type's values, the structs' being given. -/
abbrev El (U : Nat → Type) : Ty → Type
  | .int _ => Int
  | .bool => Bool
  | .str => ByteArray
  | .sl t => List (El U t)
  | .st n => U n

/-- Values of a list of types. -/
abbrev HL (U : Nat → Type) : List Ty → Type
  | [] => Unit
  | t :: ts => El U t × HL U ts

/-- Results. -/
abbrev RT (U : Nat → Type) : List Ty → Type
  | [] => Unit
  | [t] => El U t
  | t :: u :: ts => El U t × RT U (u :: ts)

/-- The structs; and package variables of whose cells something is known (if nothing else is said: that the first one is a number). -/
structure Sg where
  U : Nat → Type
  fl : Nat → List Ty
  out : ∀ n, U n → HL U (fl n)
  bld : ∀ n, HL U (fl n) → U n
  gl : List Nat := []
  gp : Nat → Array Value → Prop := fun _ c => ∃ m, c[0]? = some (.int .i64 m)
  gv : Nat → Option ((t : Ty) × El U t) := fun _ => none

def cellsIn : Option Obj → Array Value
  | some (.cells c _ _) => c
  | _ => #[]

def castEl {U : Nat → Type} {a : Ty} (b : Ty) (x : El U a) : Option (El U b) := if h : a = b then some (h ▸ x) else none

/-- What is known of one value. -/
inductive LV (U : Nat → Type) where
  | v (t : Ty) (x : El U t)
  | tb (d j : Nat) (b : Bool)
  | bl (b : Bool)
  | nils
  | nilp
  | ref (d j off : Nat)
  | row (d j : Nat)
  | pt (t : Ty) (x : El U t)
  | rpt (d j : Nat) (i : Int) (fs : List Nat)
  | clo (f : Nat) (caps : List (Nat × Nat × Nat))
  | mp (d j : Nat)
  | gv (d j : Nat) (want : Bool) (x : LV U)
  | und
  | junk

inductive AV (U : Nat → Type) where
  | l (x : LV U)
  | tup (xs : List (LV U))
  | ifv (T : Nat) (x : LV U)
  | ag (n : Nat) (cs : List (LV U))

inductive Obj' (U : Nat → Type) where
  | box (cs : List (LV U))
  | row (E : Nat) (t : Ty) (xs : List (El U t))
  | srow (t : Ty) (xs : List (El U t))
  | it (s : ByteArray) (p : Int)
  | map (kt vt : Ty) (ks : List (El U kt)) (vs : List (El U vt))
  | bld (T : Nat) (y : LV U)

structure St (U : Nat → Type) where
  sl : Nat → AV U
  mem : Nat → Nat → Option (Obj' U)
  cnt : Nat → Nat

def upd {α : Type} (f : Nat → α) (k : Nat) (v : α) : Nat → α := fun n => cond (Nat.beq n k) v (f n)
def upd2 {α : Type} (f : Nat → Nat → α) (k l : Nat) (v : α) : Nat → Nat → α := fun n m => cond (and (Nat.beq n k) (Nat.beq m l)) v (f n m)
def lkp.{u} {α : Type u} (k : Nat) : List (Nat × α) → Option α
  | [] => none
  | (n, v) :: r => cond (Nat.beq n k) (some v) (lkp k r)

/-- What the table of types tells of a type: data, with the bytes of an element where it is a slice; an array of data; a map; or another thing of one cell; or only that it is no interface. -/
inductive TI where
  | d (t : Ty) (eb E : Nat)
  | a (t : Ty) (n E : Nat)
  | m (k e : Nat)
  | b
  | o
  | n

structure Ctx where
  S : Sg
  ty : List (Nat × TI)
  eqs : List Nat

def memB (k : Nat) : List Nat → Bool
  | [] => false
  | a :: l => or (Nat.beq a k) (memB k l)

/-! The operations on numbers, strings and lists. -/
def wadd (k : IntKind) (a b : Int) : Int := k.wrap (a + b)
def wsub (k : IntKind) (a b : Int) : Int := k.wrap (a - b)
def wmul (k : IntKind) (a b : Int) : Int := k.wrap (a * b)
def wquo (k : IntKind) (a b : Int) : Int := k.wrap (a.tdiv b)
def irem (a b : Int) : Int := a.tmod b
def wcv (k : IntKind) (a : Int) : Int := k.wrap a
def ibits (k : IntKind) (f : BitVec k.bits → BitVec k.bits → BitVec k.bits) (a b : Int) : Int := k.wrap (f (BitVec.ofInt k.bits a) (BitVec.ofInt k.bits b)).toNat
def iand (k : IntKind) (a b : Int) : Int := ibits k (· &&& ·) a b
def ior (k : IntKind) (a b : Int) : Int := ibits k (· ||| ·) a b
def ixor (k : IntKind) (a b : Int) : Int := ibits k (· ^^^ ·) a b
def iandn (k : IntKind) (a b : Int) : Int := ibits k (fun x y => x &&& ~~~y) a b
def ishl (k : IntKind) (a n : Int) : Int := k.wrap (a * 2 ^ (min n.toNat k.bits))
def ishr (k : IntKind) (a n : Int) : Int := a.fdiv (2 ^ (min n.toNat k.bits))
def ieq (a b : Int) : Bool := a == b
def ilt (a b : Int) : Bool := decide (a < b)
def ile (a b : Int) : Bool := decide (a ≤ b)
def imax (a b : Int) : Int := if b > a then b else a
def imin (a b : Int) : Int := if b < a then b else a
def seq (a b : ByteArray) : Bool := a.toList == b.toList
def slt (a b : ByteArray) : Bool := Op.bytesLess a.toList b.toList
def sle (a b : ByteArray) : Bool := slt a b || seq a b
def slen (s : ByteArray) : Int := s.size
def llen {α : Type} (l : List α) : Int := l.length
def scat (a b : ByteArray) : Option ByteArray := if a.size + b.size ≤ 9223372036854775807 then some (a ++ b) else none
def sat (s : ByteArray) (i : Int) : Option Int := if 0 ≤ i then (s[i.toNat]?).map (fun b => (b.toNat : Int)) else none
def ssub (s : ByteArray) (l h : Int) : Option ByteArray := if 0 ≤ l ∧ l ≤ h ∧ h ≤ s.size then some (s.extract l.toNat h.toNat) else none
def lat {α : Type} (l : List α) (i : Int) : Option α := if 0 ≤ i then l[i.toNat]? else none
def lset {α : Type} (l : List α) (i : Int) (x : α) : Option (List α) := if 0 ≤ i ∧ i < l.length then some (l.set i.toNat x) else none
def lsub {α : Type} (l : List α) (a b : Int) : Option (List α) := if 0 ≤ a ∧ a ≤ b ∧ b ≤ l.length then some ((l.take b.toNat).drop a.toNat) else none
def lapp {α : Type} (eb : Nat) (l m : List α) : Option (List α) := if (l.length + m.length) * eb ≤ 140737488355328 ∧ l.length + m.length ≤ 140737488355328 then some (l ++ m) else none
def lmake {α : Type} (eb : Nat) (n c : Int) (z : α) : Option (List α) := if 0 ≤ n ∧ n ≤ c ∧ c * eb ≤ 140737488355328 ∧ c ≤ 140737488355328 then some (List.replicate n.toNat z) else none
def srune (s : ByteArray) (p : Int) : Int := ((Utf8.decode s p.toNat).1 : Int)
def snext (s : ByteArray) (p : Int) : Int := p + ((Utf8.decode s p.toNat).2 : Int)
/-! Maps: keys and what they lead to, in the order in which the keys came. -/
def mhas {κ : Type} (eq : κ → κ → Bool) : List κ → κ → Bool
  | [], _ => false
  | k :: ks, x => cond (eq x k) true (mhas eq ks x)
def mget {κ α : Type} (eq : κ → κ → Bool) : List κ → List α → κ → Option α
  | k :: ks, v :: vs, x => cond (eq x k) (some v) (mget eq ks vs x)
  | _, _, _ => none
def mputK {κ : Type} (eq : κ → κ → Bool) : List κ → κ → List κ
  | [], x => [x]
  | k :: ks, x => cond (eq x k) (k :: ks) (k :: mputK eq ks x)
def mputV {κ α : Type} (eq : κ → κ → Bool) : List κ → List α → κ → α → List α
  | k :: ks, v :: vs, x, y => cond (eq x k) (y :: vs) (v :: mputV eq ks vs x y)
  | _, _, _, y => [y]
def mdelK {κ : Type} (eq : κ → κ → Bool) : List κ → κ → List κ
  | [], _ => []
  | k :: ks, x => cond (eq x k) ks (k :: mdelK eq ks x)
def mdelV {κ α : Type} (eq : κ → κ → Bool) : List κ → List α → κ → List α
  | k :: ks, v :: vs, x => cond (eq x k) vs (v :: mdelV eq ks vs x)
  | _, _, _ => []
def bstr (l : List Int) : ByteArray := ⟨(l.map fun n => UInt8.ofNat n.toNat).toArray⟩
def sbytes (s : ByteArray) : List Int := s.data.toList.map fun b => (b.toNat : Int)

section
variable {U : Nat → Type} {ρ : Type}

/-! Reading a value as data. -/
def toData (st : St U) (t : Ty) : LV U → Option (El U t)
  | .v _ x => castEl t x
  | .tb _ _ b => castEl (a := .bool) t b
  | .bl b => castEl (a := .bool) t b
  | .nils => match t with | .sl _ => some [] | _ => none
  | .row d j => match st.mem d j with
    | some (.row _ u xs) => castEl (a := .sl u) t xs
    | some (.srow u xs) => castEl (a := .sl u) t xs
    | _ => none
  | _ => none

def frz (st : St U) : LV U → St U
  | .row d j => match st.mem d j with
    | some (.row _ u xs) => { st with mem := upd2 st.mem d j (some (.srow u xs)) }
    | _ => st
  | _ => st

def frzL : List (LV U) → St U → St U
  | [], st => st
  | x :: l, st => frzL l (frz st x)

def gatherL (g : (t : Ty) → List (LV U) → Option (El U t × List (LV U))) : (ts : List Ty) → List (LV U) → Option (HL U ts × List (LV U))
  | [], cs => some ((), cs)
  | t :: ts, cs => match g t cs with
    | some (x, cs') => match gatherL g ts cs' with
      | some (h, r) => some ((x, h), r)
      | none => none
    | none => none

/-- A value of a type out of cells. -/
def gather (S : Sg) (st : St S.U) : Nat → (t : Ty) → List (LV S.U) → Option (El S.U t × List (LV S.U))
  | 0, _, _ => none
  | d + 1, .st n, cs => match gatherL (gather S st d) (S.fl n) cs with
    | some (h, r) => some (S.bld n h, r)
    | none => none
  | _ + 1, t, c :: r => match toData st t c with
    | some x => some (x, r)
    | none => none
  | _ + 1, _, [] => none

def scatterL (g : (t : Ty) → El U t → List (LV U)) : (ts : List Ty) → HL U ts → List (LV U)
  | [], _ => []
  | t :: ts, h => g t h.1 ++ scatterL g ts h.2

/-- The cells of a value. -/
def scatter (S : Sg) : Nat → (t : Ty) → El S.U t → List (LV S.U)
  | 0, _, _ => []
  | d + 1, .st n, x => scatterL (scatter S d) (S.fl n) (S.out n x)
  | _ + 1, t, x => [.v t x]

def zeroL (g : (t : Ty) → Option (El U t)) : (ts : List Ty) → Option (HL U ts)
  | [] => some ()
  | t :: ts => match g t with
    | some x => match zeroL g ts with
      | some h => some (x, h)
      | none => none
    | none => none

def zero (S : Sg) : Nat → (t : Ty) → Option (El S.U t)
  | 0, _ => none
  | d + 1, .st n => match zeroL (zero S d) (S.fl n) with
    | some h => some (S.bld n h)
    | none => none
  | _ + 1, .int _ => some (0 : Int)
  | _ + 1, .bool => some false
  | _ + 1, .str => some ⟨#[]⟩
  | _ + 1, .sl _ => some []

/-- The cells of a zero value: a slice's is nil. -/
def zcells (S : Sg) : Nat → Ty → List (LV S.U)
  | 0, _ => []
  | d + 1, .st n => ((S.fl n).map (zcells S d)).flatten
  | _ + 1, .int k => [.v (.int k) (0 : Int)]
  | _ + 1, .bool => [.bl false]
  | _ + 1, .str => [.v .str (⟨#[]⟩ : ByteArray)]
  | _ + 1, .sl _ => [.nils]

def szL (g : Ty → Nat) : List Ty → Nat
  | [] => 0
  | t :: ts => g t + szL g ts

def sz (S : Sg) : Nat → Ty → Nat
  | 0, _ => 0
  | d + 1, .st n => szL (sz S d) (S.fl n)
  | _ + 1, _ => 1

/-- The depth to which structs stand in structs. -/
def dep : Nat := 6

/-- A field of a struct. -/
def fieldOf {ρ : Type} : (ts : List Ty) → HL U ts → Nat → ((t : Ty) → El U t → Option ρ) → Option ρ
  | [], _, _, _ => none
  | t :: _, h, 0, R => R t h.1
  | _ :: ts, h, i + 1, R => fieldOf ts h.2 i R

def setField : (ts : List Ty) → HL U ts → Nat → LV U → (LV U → (t : Ty) → Option (El U t)) → Option (HL U ts)
  | [], _, _, _, _ => none
  | t :: _, h, 0, x, g => match g x t with
    | some y => some (y, h.2)
    | none => none
  | _ :: ts, h, i + 1, x, g => match setField ts h.2 i x g with
    | some r => some (h.1, r)
    | none => none

end

section
variable {ρ : Type}

structure Entry (S : Sg) where
  run : {ρ : Type} → List (AV S.U) → St S.U → (AV S.U → St S.U → Option ρ) → Option ρ
  flat : Bool

abbrev Oracle (S : Sg) := Nat → Option (Entry S)

def constLV (U : Nat → Type) : Value → LV U
  | .int k n => .v (.int k) n
  | .bool b => .bl b
  | .string s => .v .str s
  | .slice none n c => cond (and (Nat.beq n 0) (Nat.beq c 0)) .nils .junk
  | .pointer none => .nilp
  | _ => .junk

def stripL {U : Nat → Type} (d j : Nat) (w : Bool) : LV U → LV U
  | .gv d' j' w' x => cond (and (and (Nat.beq d d') (Nat.beq j j')) (w == w')) x (.gv d' j' w' x)
  | x => x

def strip {U : Nat → Type} : List (Nat × Nat × Bool) → AV U → AV U
  | [], a => a
  | (d, j, w) :: r, .l x => strip r (.l (stripL d j w x))
  | _ :: _, a => a

def wrapG {U : Nat → Type} : List (Nat × Nat × Bool) → LV U → LV U
  | [], x => x
  | (d, j, w) :: r, x => .gv d j w (wrapG r x)

def rsvL {U : Nat → Type} (d j : Nat) (b : Bool) : LV U → LV U
  | .tb d' j' x => cond (and (Nat.beq d d') (Nat.beq j j')) (.bl b) (.tb d' j' x)
  | .gv d' j' w x => cond (and (Nat.beq d d') (Nat.beq j j')) (cond (w == b) (rsvL d j b x) .und) (.gv d' j' w (rsvL d j b x))
  | x => x

/-- A test's bool is known from here on. -/
def St.rsv {U : Nat → Type} (d j : Nat) (b : Bool) (st : St U) : St U := { st with sl := fun n => match st.sl n with | .l x => .l (rsvL d j b x) | a => a }

/-- A function's slots; some hold what they hold for good; and names of boxes that lie in none. -/
structure Fr where
  n : Nat
  p : List Nat
  q : List Nat

def okSl (N : Fr) (d : Nat) : Bool := and (Nat.blt d N.n) (!memB d N.p)

/-- The value is put into its slot; a bool gets a mark. -/
def St.put {U : Nat → Type} (N : Fr) (cx : List (Nat × Nat × Bool)) (dst : Option Nat) (a : AV U) (st : St U) (K : St U → Option ρ) : Option ρ :=
  match dst with
  | none => K st
  | some d => cond (okSl N d) (match a with
    | .l (.v .bool b) => K { st with sl := upd st.sl d (.l (wrapG cx (.tb d (st.cnt d + 1) b))), cnt := upd st.cnt d (st.cnt d + 1) }
    | .l x => K { st with sl := upd st.sl d (.l (wrapG cx x)) }
    | a => match cx with
      | [] => K { st with sl := upd st.sl d a }
      | _ => none) none

variable (C : Ctx)

def opd (cx : List (Nat × Nat × Bool)) (T : Nat) (st : St C.S.U) : Operand → AV C.S.U
  | .tmp t => strip cx (st.sl t)
  | .const (.agg cs) => match lkp T C.ty with
    | some (.d (.st n) _ _) => cond (and (Nat.beq cs.size (sz C.S dep (.st n))) (cs.toList.all Value.oneCell')) (.ag n (cs.toList.map (constLV C.S.U))) (.l .junk)
    | _ => .l .junk
  | .const v => .l (constLV C.S.U v)
  | .func f => .l (.clo f [])
  | .global k => match C.S.gv k with
    | some ⟨t, x⟩ => .l (.pt t x)
    | none => .l .junk

def avL {U : Nat → Type} : AV U → LV U
  | .l x => x
  | _ => .junk

/-- A value as data, a struct known by its cells too. -/
def toA (S : Sg) (st : St S.U) (t : Ty) : AV S.U → Option (El S.U t)
  | .l x => toData st t x
  | .ag n cs => match gather S st dep (.st n) cs with
    | some (y, []) => castEl (U := S.U) (a := .st n) t y
    | _ => none
  | _ => none

def frzA {U : Nat → Type} (st : St U) : AV U → St U
  | .l x => frz st x
  | .ag _ cs => frzL cs st
  | .ifv _ x => frz st x
  | _ => st

def frzAs {U : Nat → Type} : List (AV U) → St U → St U
  | [], st => st
  | x :: l, st => frzAs l (frzA st x)

def isZero : Operand → Bool
  | .const (.int _ n) => n == 0
  | _ => true

def intOp (op : BinOp) (k : IntKind) (a b : Int) (y : Operand) (R : LV C.S.U → Option ρ) : Option ρ :=
  match op with
  | .add => R (.v (.int k) (wadd k a b))
  | .sub => R (.v (.int k) (wsub k a b))
  | .mul => R (.v (.int k) (wmul k a b))
  | .quo => cond (isZero y) (cond (ieq b 0) none (R (.v (.int k) (wquo k a b)))) (R (.v (.int k) (wquo k a b)))
  | .rem => cond (isZero y) (cond (ieq b 0) none (R (.v (.int k) (irem a b)))) (R (.v (.int k) (irem a b)))
  | .and => R (.v (.int k) (iand k a b))
  | .or => R (.v (.int k) (ior k a b))
  | .xor => R (.v (.int k) (ixor k a b))
  | .andNot => R (.v (.int k) (iandn k a b))
  | .shl => match y with
    | .const (.int _ n) => cond (ilt n 0) none (R (.v (.int k) (ishl k a b)))
    | _ => cond (ilt b 0) none (R (.v (.int k) (ishl k a b)))
  | .shr => match y with
    | .const (.int _ n) => cond (ilt n 0) none (R (.v (.int k) (ishr k a b)))
    | _ => cond (ilt b 0) none (R (.v (.int k) (ishr k a b)))
  | .eql => R (.v .bool (ieq a b))
  | .neq => R (.v .bool (!ieq a b))
  | .lss => R (.v .bool (ilt a b))
  | .leq => R (.v .bool (ile a b))
  | .gtr => R (.v .bool (ilt b a))
  | .geq => R (.v .bool (ile b a))

def strOp (op : BinOp) (a b : ByteArray) (R : LV C.S.U → Option ρ) : Option ρ :=
  match op with
  | .add => (scat a b).bind fun s => R (.v .str s)
  | .eql => R (.v .bool (seq a b))
  | .neq => R (.v .bool (!seq a b))
  | .lss => R (.v .bool (slt a b))
  | .leq => R (.v .bool (sle a b))
  | .gtr => R (.v .bool (!sle a b))
  | .geq => R (.v .bool (!slt a b))
  | _ => none

/-- A bool out of what is known. -/
def asB {U : Nat → Type} : LV U → Option Bool
  | .v .bool b => some b
  | .tb _ _ b => some b
  | .bl b => some b
  | _ => none

def eqElL {U : Nat → Type} (g : (t : Ty) → El U t → El U t → Option Bool) : (ts : List Ty) → HL U ts → HL U ts → Option Bool
  | [], _, _ => some true
  | t :: ts, h, k => match g t h.1 k.1 with
    | some b => match eqElL g ts h.2 k.2 with
      | some c => some (b && c)
      | none => none
    | none => none

/-- Are two values of a type that can be compared the same. -/
def eqEl (S : Sg) : Nat → (t : Ty) → El S.U t → El S.U t → Option Bool
  | 0, _, _, _ => none
  | d + 1, .st n, x, y => eqElL (eqEl S d) (S.fl n) (S.out n x) (S.out n y)
  | _ + 1, .int _, x, y => some (ieq x y)
  | _ + 1, .bool, x, y => some (x == y)
  | _ + 1, .str, x, y => some (seq x y)
  | _ + 1, .sl _, _, _ => none

def binOpK (op : BinOp) (x y : LV C.S.U) (yo : Operand) (R : LV C.S.U → Option ρ) : Option ρ :=
  match x, y with
  | .v (.int k) a, .v (.int _) b => intOp C op k a b yo R
  | .v .str a, .v .str b => strOp C op a b R
  | x, y => match asB x, asB y with
    | some a, some b => match op with
      | .eql => R (.v .bool (a == b))
      | .neq => R (.v .bool (!(a == b)))
      | _ => none
    | _, _ => none

/-- The types of a test or a reckoning agree. -/
def binT (T : Nat) (op : BinOp) (x y : LV C.S.U) : Bool :=
  match x, y with
  | .v (.int k) _, .v (.int k') _ => match op with
    | .shl | .shr => true
    | _ => decide (k' = k)
  | x, _ => match asB x with
    | some _ => match lkp T C.ty with
      | some (.d .bool _ _) => true
      | _ => false
    | none => true

def unOpK (op : UnOp) (x : LV C.S.U) (R : LV C.S.U → Option ρ) : Option ρ :=
  match op, x with
  | .not, .bl b => R (.bl (!b))
  | .not, x => match asB x with
    | some b => R (.v .bool (!b))
    | none => none
  | .neg, .v (.int k) a => R (.v (.int k) (wsub k 0 a))
  | .xor, .v (.int k) a => R (.v (.int k) (ixor k (if k.signed then -1 else k.max) a))
  | _, _ => none

/-- Under the mark, or its other side. -/
def under {U : Nat → Type} (w : Bool) (c : LV U) (x : LV U) : LV U :=
  match c with
  | .tb d j _ => stripL d j w x
  | _ => x

def pickV (c : Bool) (a b : LV C.S.U) (R : LV C.S.U → Option ρ) : Option ρ :=
  match a, b with
  | .v t x, .v u y => match castEl (U := C.S.U) (a := u) t y with
    | some y' => match t, x, y' with
      | .int k, x, y' => R (.v (.int k) (cond c x y'))
      | .bool, x, y' => R (.v .bool (cond c x y'))
      | .str, x, y' => R (.v .str (cond c x y'))
      | _, _, _ => none
    | none => none
  | a, b => match asB a, asB b with
    | some x, some y => R (.v .bool (cond c x y))
    | _, _ => none

def pickK (c a b : LV C.S.U) (R : LV C.S.U → Option ρ) : Option ρ :=
  match c with
  | .bl true => R a
  | .bl false => R b
  | c => match asB c with
    | some x => pickV C x (under true c a) (under false c b) R
    | none => none

def newObj' {U : Nat → Type} (d : Nat) (o : Obj' U) (st : St U) : St U := { st with mem := upd2 st.mem d (st.cnt d + 1) (some o), cnt := upd st.cnt d (st.cnt d + 1) }

/-- A new object, known by the slot of the operation that makes it. -/
def newK {U : Nat → Type} (dst : Option Nat) (o : Obj' U) (f : Nat → Nat → LV U) (st : St U) (R : AV U → St U → Option ρ) : Option ρ :=
  match dst with
  | none => none
  | some d => R (.l (f d (st.cnt d + 1))) (newObj' d o st)

def cellV {U : Nat → Type} : LV U → Option (LV U)
  | .v (.st _) _ => none
  | .v t x => some (.v t x)
  | .tb _ _ b => some (.v .bool b)
  | .bl b => some (.bl b)
  | .nils => some .nils
  | .row d j => some (.row d j)
  | .ref d j o => some (.ref d j o)
  | .clo f c => some (.clo f c)
  | .pt t x => some (.pt t x)
  | .mp d j => some (.mp d j)
  | _ => none

def setAt {α : Type} : List α → Nat → List α → List α
  | l, 0, [] => l
  | [], _, _ => []
  | _ :: l, 0, x :: xs => x :: setAt l 0 xs
  | y :: l, n + 1, xs => y :: setAt l n xs

def followK (S : Sg) : List Nat → (t : Ty) → El S.U t → ((t : Ty) → El S.U t → Option ρ) → Option ρ
  | [], t, x, R => R t x
  | f :: fs, .st n, x, R => fieldOf (S.fl n) (S.out n x) f fun t y => followK S fs t y R
  | _ :: _, _, _, _ => none

/-- The cells of a value of a type. -/
def cellsA (S : Sg) : Ty → AV S.U → Option (List (LV S.U))
  | .st n, .ag m cs => cond (Nat.beq n m) (some cs) none
  | .st n, .l (.v t x) => match castEl (U := S.U) (a := t) (.st n) x with
    | some y => some (scatter S dep (.st n) y)
    | none => none
  | .st _, _ => none
  | _, .l x => match cellV x with
    | some y => some [y]
    | none => none
  | _, _ => none

/-- The cells of what is to be stored or boxed as a value of this type. -/
def cellsOf (T : Nat) (x : AV C.S.U) (R : List (LV C.S.U) → Option ρ) : Option ρ :=
  match lkp T C.ty with
  | some (.d t _ _) => match cellsA C.S t x with
    | some y => R y
    | none => none
  | some .o => match cellV (avL x) with
    | some y => R [y]
    | none => none
  | some (.m _ _) => match cellV (avL x) with
    | some y => R [y]
    | none => none
  | _ => none

/-- A value of the type that is asked for. -/
def asT (T : Nat) (t : Ty) (y : El C.S.U t) (R : (t : Ty) → El C.S.U t → Option ρ) : Option ρ :=
  match lkp T C.ty with
  | some (.d u _ _) => match castEl u y with
    | some z => R u z
    | none => none
  | _ => none

def loadK (T : Nat) (x : LV C.S.U) (st : St C.S.U) (R : AV C.S.U → St C.S.U → Option ρ) : Option ρ :=
  match x with
  | .ref d j off => match st.mem d j with
    | some (.box cs) => match lkp T C.ty with
      | some (.d (.st n) _ _) => cond (Nat.ble (off + sz C.S dep (.st n)) cs.length) (R (.ag n ((cs.drop off).take (sz C.S dep (.st n)))) st) none
      | some .n => none
      | some .b => none
      | some (.a _ _ _) => none
      | some _ => match cs[off]? with
        | some y => R (.l y) st
        | none => none
      | none => none
    | _ => none
  | .pt t y => asT C T t y fun u z => R (.l (.v u z)) st
  | .rpt d j i fs => match st.mem d j with
    | some (.row E t xs) => (lat xs i).bind fun y => followK C.S fs t y fun u z => asT C T u z fun u z => R (.l (.v u z)) st
    | some (.srow t xs) => (lat xs i).bind fun y => followK C.S fs t y fun u z => asT C T u z fun u z => R (.l (.v u z)) st
    | _ => none
  | _ => none

def storeK (T : Nat) (p : LV C.S.U) (x : AV C.S.U) (st : St C.S.U) (R : St C.S.U → Option ρ) : Option ρ :=
  match p with
  | .ref d j off => match st.mem d j with
    | some (.box cs) => cellsOf C T x fun ys => cond (Nat.ble (off + ys.length) cs.length) (R { st with mem := upd2 st.mem d j (some (.box (setAt cs off ys))) }) none
    | _ => none
  | .rpt d j i [] => match (frzA st x).mem d j with
    | some (.row E t xs) => match toA C.S st t x with
      | some y => asT C T t y fun _ _ => (lset xs i y).bind fun zs => R { frzA st x with mem := upd2 (frzA st x).mem d j (some (.row E t zs)) }
      | none => none
    | _ => none
  | _ => none

/-- The type behind fields of fields. -/
def pathTy (S : Sg) : List Nat → Ty → Option Ty
  | [], t => some t
  | f :: fs, .st n => match (S.fl n)[f]? with
    | some t => pathTy S fs t
    | none => none
  | _ :: _, _ => none

def fieldAddrK (T f : Nat) (p : LV C.S.U) (st : St C.S.U) (R : LV C.S.U → Option ρ) : Option ρ :=
  match lkp T C.ty with
  | some (.d (.st n) _ _) => cond (Nat.blt f (C.S.fl n).length) (match p with
    | .ref d j off => R (.ref d j (off + szL (sz C.S dep) ((C.S.fl n).take f)))
    | .pt (.st m) x => cond (Nat.beq n m) (fieldOf (C.S.fl m) (C.S.out m x) f fun t y => R (.pt t y)) none
    | .rpt d j i fs => match (match st.mem d j with | some (.row _ t _) => pathTy C.S fs t | some (.srow t _) => pathTy C.S fs t | _ => none) with
      | some (.st m) => cond (Nat.beq n m) (R (.rpt d j i (fs ++ [f]))) none
      | _ => none
    | _ => none) none
  | _ => none

def convertK (src dst : Nat) (x : LV C.S.U) (st : St C.S.U) (R : AV C.S.U → St C.S.U → Option ρ) : Option ρ :=
  match lkp src C.ty with
  | some (.d ts _ _) => match lkp dst C.ty with
    | some (.d (.int k) _ _) => match x with
      | .v (.int _) a => R (.l (.v (.int k) (wcv k a))) st
      | _ => none
    | some (.d .str _ _) => match ts with
      | .sl (.int .u8) => match toData st (.sl (.int .u8)) x with
        | some l => R (.l (.v .str (bstr l))) st
        | none => none
      | _ => match x with
        | .v .str s => R (.l (.v .str s)) st
        | _ => none
    | some (.d (.sl (.int .u8)) _ _) => match x with
      | .v .str s => R (.l (.v (.sl (.int .u8)) (sbytes s))) st
      | _ => none
    | _ => none
  | _ => none

def lenK (T : Nat) (x : LV C.S.U) (st : St C.S.U) (R : LV C.S.U → Option ρ) : Option ρ :=
  match lkp T C.ty, x with
  | some (.d .str _ _), .v .str s => R (.v (.int .i64) (slen s))
  | some (.d (.sl _) _ _), .v (.sl _) l => R (.v (.int .i64) (llen l))
  | some (.d (.sl _) _ _), .nils => R (.v (.int .i64) (0 : Int))
  | some (.d (.sl _) _ _), .row d j => match st.mem d j with
    | some (.row _ _ l) => R (.v (.int .i64) (llen l))
    | some (.srow _ l) => R (.v (.int .i64) (llen l))
    | _ => none
  | some (.m _ _), .mp d j => match st.mem d j with
    | some (.map _ _ ks _) => R (.v (.int .i64) (llen ks))
    | _ => none
  | _, _ => none

def appendK (T T' : Nat) (dst : Option Nat) (s x : LV C.S.U) (st : St C.S.U) (R : AV C.S.U → St C.S.U → Option ρ) : Option ρ :=
  match lkp T C.ty with
  | some (.d (.sl t) eb E) => cond (Nat.beq T T') (match toData st (.sl t) x with
    | some ys => match s with
      | .nils => (lapp eb [] ys).bind fun zs => newK dst (.row E t zs) .row st R
      | .row d j => match st.mem d j with
        | some (.row E' u xs) => cond (Nat.beq E E') (match castEl (U := C.S.U) (a := .sl u) (.sl t) xs with
          | some xs' => (lapp eb xs' ys).bind fun zs => newK dst (.row E t zs) .row { st with mem := upd2 st.mem d j none } R
          | none => none) none
        | _ => none
      | _ => none
    | none => none) none
  | _ => none

def boundV : Option (LV C.S.U) → Int → Option Int
  | none, n => some n
  | some (.v (.int _) a), _ => some a
  | _, _ => none

def sliceK (T : Nat) (x : LV C.S.U) (lo hi : Option (LV C.S.U)) (st : St C.S.U) (R : AV C.S.U → St C.S.U → Option ρ) : Option ρ :=
  match lkp T C.ty with
  | some (.d .str _ _) => match x with
    | .v .str s => match boundV C lo 0, boundV C hi (slen s) with
      | some a, some b => (ssub s a b).bind fun r => R (.l (.v .str r)) st
      | _, _ => none
    | _ => none
  | some (.d (.sl t) _ _) => match toData st (.sl t) x with
    | some l => match boundV C lo 0, boundV C hi (llen l) with
      | some a, some b => (lsub l a b).bind fun r => R (.l (.v (.sl t) r)) (frz st x)
      | _, _ => none
    | none => none
  | _ => none

/-- A place of an array. -/
def arrK {U : Nat → Type} (s : Nat) (i : Int) (d j : Nat) (R : LV U → Option ρ) : Nat → Nat → Nat → Option ρ
  | 0, _, _ => none
  | n + 1, m, off => cond (ieq i m) (R (.ref d j off)) (arrK s i d j R n (m + 1) (off + s))

def indexAddrK (T : Nat) (i : Int) (x : LV C.S.U) (st : St C.S.U) (R : LV C.S.U → Option ρ) : Option ρ :=
  match lkp T C.ty with
  | some (.a t n _) => match x with
    | .ref d j off => arrK (sz C.S dep t) i d j R n 0 off
    | _ => none
  | some (.d (.sl t) _ _) => match toData st (.sl t) x with
    | some l => match (match x with | .row d j => (match st.mem d j with | some (.row _ _ _) => some (d, j) | _ => none) | _ => none) with
      | some (d, j) => (lat l i).bind fun _ => R (.rpt d j i [])
      | none => (lat l i).bind fun y => R (.pt t y)
    | none => none
  | _ => none

/-- Numbers that go up. -/
def incrB : Nat → List Nat → Bool
  | _, [] => true
  | n, a :: r => Nat.ble n a && incrB (a + 1) r

def buildC : (ts : List Ty) → Nat → List (Nat × AV C.S.U) → Option (List (LV C.S.U))
  | [], _, _ => some []
  | t :: ts, i, ps => match (match lkp i ps with | some x => cellsA C.S t x | none => some (zcells C.S dep t)) with
    | some x => match buildC ts (i + 1) ps with
      | some h => some (x ++ h)
      | none => none
    | none => none

def buildL (st : St C.S.U) (t : Ty) : Nat → Nat → List (Nat × AV C.S.U) → Option (List (El C.S.U t))
  | 0, _, _ => some []
  | n + 1, i, ps => match (match lkp i ps with | some x => toA C.S st t x | none => zero C.S dep t) with
    | some x => match buildL st t n (i + 1) ps with
      | some h => some (x :: h)
      | none => none
    | none => none

def asI {U : Nat → Type} : LV U → Option Int
  | .v (.int _) a => some a
  | _ => none

def concT (T : Nat) : Bool :=
  match lkp T C.ty with
  | some (.d _ _ _) => true
  | some .n => true
  | _ => false

def typeAssertK (T : Nat) (ok : Bool) (x : AV C.S.U) (R : AV C.S.U → Option ρ) : Option ρ :=
  match x with
  | .ifv T' x => cond (concT C T) (cond (Nat.beq T T') (cond ok (R (.tup [x, .bl true])) (R (.l x))) (cond ok (R (.tup [.junk, .bl false])) none)) none
  | _ => none

def minR (op : Bool) (k : IntKind) (R : LV C.S.U → Option ρ) : Int → List (LV C.S.U) → Option ρ
  | a, [] => R (.v (.int k) a)
  | a, .v (.int _) b :: r => minR op k R (cond op (imin a b) (imax a b)) r
  | _, _ => none

def minK (op : Bool) (l : List (LV C.S.U)) (R : LV C.S.U → Option ρ) : Option ρ :=
  match l with
  | .v (.int k) a :: r => minR C op k R a r
  | _ => none

/-- What a closure captures: variables. -/
def capsK {U : Nat → Type} : List (LV U) → Option (List (Nat × Nat × Nat))
  | [] => some []
  | .ref d j o :: l => match capsK l with
    | some r => some ((d, j, o) :: r)
    | none => none
  | _ => none

def callK (O : Oracle C.S) (g : LV C.S.U) (args : List (AV C.S.U)) (st : St C.S.U) (R : AV C.S.U → St C.S.U → Option ρ) : Option ρ :=
  match g with
  | .clo f caps => match O f with
    | some e => e.run (args ++ caps.map fun c => .l (.ref c.1 c.2.1 c.2.2)) st R
    | none => none
  | _ => none

def makeFuncK (fn : Fn) (first : List Operand) (caps : List (LV C.S.U)) (R : LV C.S.U → Option ρ) : Option ρ :=
  match fn with
  | .func f => match first with
    | [] => match capsK caps with
      | some l => R (.clo f l)
      | none => none
    | _ => none
  | _ => none

/-- How keys are compared. -/
def keyEq (U : Nat → Type) : (t : Ty) → Option (El U t → El U t → Bool)
  | .int _ => some ieq
  | .str => some seq
  | .bool => some fun a b => a == b
  | _ => none

/-- A map of the call's own, its keys and what they lead to; a key. -/
def withMap (T : Nat) (x key : LV C.S.U) (st : St C.S.U) (R : (d j : Nat) → (kt vt : Ty) → (El C.S.U kt → El C.S.U kt → Bool) → List (El C.S.U kt) → List (El C.S.U vt) → El C.S.U kt → Option ρ) : Option ρ :=
  match lkp T C.ty with
  | some (.m k e) => match lkp k C.ty, lkp e C.ty with
    | some (.d kt _ _), some (.d vt _ _) => match x with
      | .mp d j => match st.mem d j with
        | some (.map kt' vt' ks vs) => cond (and (decide (kt' = kt)) (decide (vt' = vt))) (match keyEq C.S.U kt', toData st kt' key with
          | some eq, some y => R d j kt' vt' eq ks vs y
          | _, _ => none) none
        | _ => none
      | _ => none
    | _, _ => none
  | _ => none

def isIntO {U : Nat → Type} : Option (LV U) → Bool
  | none => true
  | some (.v (.int _) _) => true
  | _ => false

def makeMapK (T : Nat) (dst : Option Nat) (n : Option (LV C.S.U)) (st : St C.S.U) (R : AV C.S.U → St C.S.U → Option ρ) : Option ρ :=
  match lkp T C.ty with
  | some (.m k e) => match lkp k C.ty, lkp e C.ty with
    | some (.d kt _ _), some (.d vt _ _) => cond (isIntO n) (newK dst (.map kt vt [] []) .mp st R) none
    | _, _ => none
  | _ => none

def lookupK (T : Nat) (ok : Bool) (x key : LV C.S.U) (st : St C.S.U) (R : AV C.S.U → St C.S.U → Option ρ) : Option ρ :=
  withMap C T x key st fun _ _ _ vt eq ks vs y => match zero C.S dep vt with
    | some z => cond ok (R (.tup [.v vt ((mget eq ks vs y).getD z), .v .bool (mget eq ks vs y).isSome]) st) (R (.l (.v vt ((mget eq ks vs y).getD z))) st)
    | none => none

def insertK (T : Nat) (x key : LV C.S.U) (v : AV C.S.U) (st : St C.S.U) (R : AV C.S.U → St C.S.U → Option ρ) : Option ρ :=
  withMap C T x key st fun d j kt vt eq ks vs y => match toA C.S st vt v with
    | some z => R (.l .und) { frzA st v with mem := upd2 (frzA st v).mem d j (some (.map kt vt (mputK eq ks y) (mputV eq ks vs y z))) }
    | none => none

def deleteK (T : Nat) (x key : LV C.S.U) (st : St C.S.U) (R : AV C.S.U → St C.S.U → Option ρ) : Option ρ :=
  withMap C T x key st fun d j kt vt eq ks vs y => R (.l .junk) { st with mem := upd2 st.mem d j (some (.map kt vt (mdelK eq ks y) (mdelV eq ks vs y))) }

def builtinK (cx : List (Nat × Nat × Bool)) (dst : Option Nat) (st : St C.S.U) (b : Builtin) (as : List Operand) (ts : List Nat) (R : AV C.S.U → St C.S.U → Option ρ) : Option ρ :=
  match b with
  | .len => match as, ts with
    | [x], [T] => lenK C T (avL (opd C cx 0 st x)) st fun z => R (.l z) st
    | _, _ => none
  | .append => match as, ts with
    | [s, x], [T, T'] => appendK C T T' dst (avL (opd C cx T st s)) (avL (opd C cx 0 st x)) st R
    | _, _ => none
  | .delete => match as, ts with
    | [x, y], T :: _ => deleteK C T (avL (opd C cx 0 st x)) (avL (opd C cx 0 st y)) st R
    | _, _ => none
  | .min => minK C true (as.map fun x => avL (opd C cx 0 st x)) fun z => R (.l z) st
  | .max => minK C false (as.map fun x => avL (opd C cx 0 st x)) fun z => R (.l z) st
  | _ => none

def callOpK (O : Oracle C.S) (cx : List (Nat × Nat × Bool)) (dst : Option Nat) (st : St C.S.U) (cl : Callee) (as : List Operand) (ts : List Nat) (R : AV C.S.U → St C.S.U → Option ρ) : Option ρ :=
  match cl with
  | .value f => callK C O (avL (opd C cx 0 st f)) (as.map (opd C cx 0 st)) st R
  | .builtin b => builtinK C cx dst st b as ts R
  | _ => none

/-- Walking a string. -/
def rangeK (T : Nat) (dst : Option Nat) (x : LV C.S.U) (st : St C.S.U) (R : AV C.S.U → St C.S.U → Option ρ) : Option ρ :=
  match lkp T C.ty with
  | some (.d .str _ _) => match x with
    | .v .str s => newK dst (.it s 0) (.ref · · 0) st R
    | _ => none
  | _ => none

def nextK (isString : Bool) (x : LV C.S.U) (st : St C.S.U) (R : AV C.S.U → St C.S.U → Option ρ) : Option ρ :=
  match x with
  | .ref d j 0 => match st.mem d j with
    | some (.it s p) => cond isString (cond (ilt p (slen s)) (R (.tup [.bl true, .v (.int .i64) p, .v (.int .i32) (srune s p)]) { st with mem := upd2 st.mem d j (some (.it s (snext s p))) }) (R (.tup [.bl false]) st)) none
    | _ => none
  | _ => none

/-- One operation. -/
def opK (O : Oracle C.S) (cx : List (Nat × Nat × Bool)) (o : Oper) (st : St C.S.U) (R : AV C.S.U → St C.S.U → Option ρ) : Option ρ :=
  match o.op with
  | .move x | .assign x => R (opd C cx o.type st x) st
  | .pick c a b => pickK C (avL (opd C cx 0 st c)) (avL (opd C cx o.type st a)) (avL (opd C cx o.type st b)) fun y => R (.l y) st
  | .alloc T => match lkp T C.ty with
    | some (.d t _ _) => newK o.dst (.box (zcells C.S dep t)) (.ref · · 0) st R
    | some (.a t n _) => newK o.dst (.box (List.replicate n (zcells C.S dep t)).flatten) (.ref · · 0) st R
    | some .b => newK o.dst (.bld T .nils) (.ref · · 0) st R
    | some .o => newK o.dst (.box [.junk]) (.ref · · 0) st R
    | some (.m _ _) => newK o.dst (.box [.junk]) (.ref · · 0) st R
    | _ => none
  | .box T x => cellsOf C T (opd C cx T st x) fun ys => newK o.dst (.box ys) (.ref · · 0) st R
  | .build T ps => match lkp T C.ty with
    | some (.d (.st n) _ _) => cond (incrB 0 (ps.toList.map fun p => p.1) && ps.toList.all fun p => Nat.blt p.1 (C.S.fl n).length) (match buildC C (C.S.fl n) 0 (ps.toList.map fun p => (p.1, opd C cx 0 st p.2)) with
      | some h => R (.ag n h) st
      | none => none) none
    | _ => none
  | .buildSlice T n ps => match lkp T C.ty with
    | some (.d (.sl t) _ E) => cond (incrB 0 (ps.toList.map fun p => p.1) && (ps.toList.all fun p => Nat.blt p.1 n) && Nat.ble (n * sz C.S dep t) 16777216) (match buildL C st t n 0 (ps.toList.map fun p => (p.1, opd C cx 0 st p.2)) with
      | some l => newK o.dst (.row E t l) .row (frzAs (ps.toList.map fun p => opd C cx 0 st p.2) st) R
      | none => none) none
    | _ => none
  | .load T x => loadK C T (avL (opd C cx 0 st x)) st R
  | .store T p x => storeK C T (avL (opd C cx 0 st p)) (opd C cx T st x) st fun st => R (.l .und) st
  | .nilCheck x => match avL (opd C cx 0 st x) with
    | .ref d j f => R (.l (.ref d j f)) st
    | .pt t y => R (.l (.pt t y)) st
    | .rpt d j i fs => R (.l (.rpt d j i fs)) st
    | .clo f c => R (.l (.clo f c)) st
    | _ => none
  | .binOp op T x y _ => match lkp T C.ty with
    | some (.d (.st n) _ _) => cond (memB T C.eqs) (match toA C.S st (.st n) (opd C cx T st x), toA C.S st (.st n) (opd C cx T st y) with
      | some a, some b => match op, eqEl C.S dep (.st n) a b with
        | .eql, some r => R (.l (.v .bool r)) st
        | .neq, some r => R (.l (.v .bool (!r))) st
        | _, _ => none
      | _, _ => none) none
    | _ => cond (binT C T op (avL (opd C cx T st x)) (avL (opd C cx T st y))) (binOpK C op (avL (opd C cx T st x)) (avL (opd C cx T st y)) y fun z => R (.l z) st) none
  | .unOp op _ x => unOpK C op (avL (opd C cx 0 st x)) fun z => R (.l z) st
  | .convert src dst x => convertK C src dst (avL (opd C cx 0 st x)) st R
  | .makeInterface T x => match lkp T C.ty with
    | some (.d t _ _) => match toA C.S st t (opd C cx T st x) with
      | some y => R (.ifv T (.v t y)) (frzA st (opd C cx T st x))
      | none => none
    | _ => none
  | .makeFunc fn first caps => makeFuncK C fn first.toList (caps.toList.map fun c => avL (opd C cx 0 st c)) fun z => R (.l z) st
  | .makeSlice T n c => match lkp T C.ty with
    | some (.d (.sl t) eb E) => match zero C.S dep t, asI (avL (opd C cx 0 st n)), asI (avL (opd C cx 0 st c)) with
      | some z, some n, some c => (lmake eb n c z).bind fun l => newK o.dst (.row E t l) .row st R
      | _, _, _ => none
    | _ => none
  | .slice T x lo hi mx => match mx with
    | none => sliceK C T (avL (opd C cx 0 st x)) (lo.map fun y => avL (opd C cx 0 st y)) (hi.map fun y => avL (opd C cx 0 st y)) st R
    | some _ => none
  | .fieldAddr T x f => fieldAddrK C T f (avL (opd C cx 0 st x)) st fun z => R (.l z) st
  | .field T x f => match lkp T C.ty, opd C cx 0 st x with
    | some (.d (.st m) _ _), .l (.v (.st n) y) => cond (Nat.beq m n) (fieldOf (C.S.fl n) (C.S.out n y) f fun t z => R (.l (.v t z)) st) none
    | some (.d (.st m') _ _), .ag n cs => cond (Nat.beq m' n) (match (C.S.fl n)[f]? with
      | some (.st m) => R (.ag m ((cs.drop (szL (sz C.S dep) ((C.S.fl n).take f))).take (sz C.S dep (.st m)))) st
      | some _ => match cs[szL (sz C.S dep) ((C.S.fl n).take f)]? with
        | some y => R (.l y) st
        | none => none
      | none => none) none
    | _, _ => none
  | .indexAddr T x i => match asI (avL (opd C cx 0 st i)) with
    | some i => indexAddrK C T i (avL (opd C cx 0 st x)) st fun z => R (.l z) st
    | none => none
  | .index T x i => match lkp T C.ty, avL (opd C cx 0 st x), asI (avL (opd C cx 0 st i)) with
    | some (.d .str _ _), .v .str s, some i => (sat s i).bind fun b => R (.l (.v (.int .u8) b)) st
    | _, _, _ => none
  | .typeAssert x _ T ok => typeAssertK C T ok (opd C cx 0 st x) fun z => R z st
  | .extract x i => match opd C cx 0 st x with
    | .tup xs => match xs[i]? with
      | some y => R (.l y) st
      | none => none
    | _ => none
  | .call cl => callOpK C O cx o.dst st cl.callee cl.args.toList cl.argTypes.toList R
  | .range T x => rangeK C T o.dst (avL (opd C cx 0 st x)) st R
  | .next x isString => nextK C isString (avL (opd C cx 0 st x)) st R
  | .makeMap T n => makeMapK C T o.dst (n.map fun x => avL (opd C cx 0 st x)) st R
  | .lookup T x i ok => lookupK C T ok (avL (opd C cx 0 st x)) (avL (opd C cx 0 st i)) st R
  | .mapUpdate T m k x | .insert T m k x => insertK C T (avL (opd C cx 0 st m)) (avL (opd C cx 0 st k)) (match lkp T C.ty with
    | some (.m _ e) => opd C cx e st x
    | _ => .l .junk) st R
  | _ => none

/-- Operations that may be reckoned ahead of their guard. -/
def ahead' : Op → Bool
  | .move _ | .fieldAddr .. | .load .. | .unOp .. | .pick .. | .extract .. => true
  | .binOp .quo .. | .binOp .rem .. | .binOp .shl .. | .binOp .shr .. => false
  | .binOp .. => true
  | .call { callee := .builtin .len, .. } | .call { callee := .builtin .min, .. } | .call { callee := .builtin .max, .. } => true
  | _ => false

/-- The marks that stand over a guard's value. -/
def marksOf {U : Nat → Type} : LV U → Option (List (Nat × Nat × Bool) × Nat × Nat × Bool)
  | .tb d j b => some ([], d, j, b)
  | .gv d j w x => match marksOf x with
    | some (cx, r) => some ((d, j, w) :: cx, r)
    | none => none
  | _ => none

def doK (O : Oracle C.S) (N : Fr) (cx : List (Nat × Nat × Bool)) (o : Oper) (K : St C.S.U → Option ρ) (st : St C.S.U) : Option ρ :=
  opK C O cx o st fun a st => st.put N cx o.dst a K

def skipK (N : Fr) (o : Oper) (K : St C.S.U → Option ρ) (st : St C.S.U) : Option ρ := st.put N [] o.dst (.l .und) K

/-- An operation under a guard that must be decided: what stands over the guard's value is decided first. -/
def splitK (O : Oracle C.S) (N : Fr) (o : Oper) (want : Bool) (s : Nat) (K : St C.S.U → Option ρ) : Nat → St C.S.U → Option ρ
  | 0, _ => none
  | n + 1, st => match st.sl s with
    | .l (.bl b) => cond (b == want) (doK C O N [] o K st) (skipK C N o K st)
    | .l .und => skipK C N o K st
    | .l (.tb d j b) => cond b (splitK O N o want s K n (st.rsv d j true)) (splitK O N o want s K n (st.rsv d j false))
    | .l (.gv d j _ _) => match st.sl d with
      | .l (.tb d' j' b) => cond (and (Nat.beq d d') (Nat.beq j j')) (cond b (splitK O N o want s K n (st.rsv d j true)) (splitK O N o want s K n (st.rsv d j false))) none
      | _ => none
    | _ => none

/-- No struct. -/
def flatT (T : Nat) : Bool :=
  match lkp T C.ty with
  | some (.d (.st _) _ _) => false
  | _ => true

/-- It is reckoned ahead of its guard. -/
def aheadB (o : Oper) : Bool := and (ahead' o.op) (match o.op with
  | .load T _ => flatT C T
  | .move _ => flatT C o.type
  | _ => true)

def operK (O : Oracle C.S) (N : Fr) (ops : List Oper) (o : Oper) (K : St C.S.U → Option ρ) (st : St C.S.U) : Option ρ :=
  match o.guard with
  | none => doK C O N [] o K st
  | some (i, want) => match (ops[i]?).bind (·.dst) with
    | none => none
    | some s => cond (aheadB C o) (match st.sl s with
      | .l x => match marksOf x with
        | some (cx, d, j, _) => doK C O N (cx ++ [(d, j, want)]) o K st
        | none => splitK C O N o want s K 6 st
      | _ => none) (splitK C O N o want s K 6 st)

def opsK (O : Oracle C.S) (N : Fr) (ops l : List Oper) (K : St C.S.U → Option ρ) : St C.S.U → Option ρ :=
  l.foldr (fun o K => operK C O N ops o K) K

/-! Regions whose order is drawn. -/

/-- What a value names of memory. -/
def keysL {U : Nat → Type} : LV U → List (Nat × Nat)
  | .ref d j _ => [(d, j)]
  | .row d j => [(d, j)]
  | .rpt d j _ _ => [(d, j)]
  | .mp d j => [(d, j)]
  | .clo _ cs => cs.map fun c => (c.1, c.2.1)
  | .gv _ _ _ x => keysL x
  | _ => []

def keysA {U : Nat → Type} : AV U → List (Nat × Nat)
  | .l x => keysL x
  | .tup xs => (xs.map keysL).flatten
  | .ifv _ x => keysL x
  | .ag _ cs => (cs.map keysL).flatten

/-- The same object, or two boxes. -/
def SameAt {U : Nat → Type} (a b : Option (Obj' U)) : Prop := a = b ∨ ∃ c d, a = some (.box c) ∧ b = some (.box d)

def keyless {U : Nat → Type} (x : AV U) : Bool := (keysA x).isEmpty

/-- An operation that turns nothing that was there: it answers, or it makes a new object. -/
def light (O : Oracle C.S) (o : Oper) (st : St C.S.U) : Bool :=
  match o.op with
  | .move _ | .assign _ | .pick .. | .load .. | .binOp .. | .unOp .. | .fieldAddr .. | .field .. | .indexAddr .. | .index .. | .extract .. | .nilCheck _ | .convert .. | .typeAssert .. | .makeFunc .. | .alloc _ | .box .. | .build .. | .makeSlice .. | .makeMap .. | .lookup .. => true
  | .slice _ x _ _ _ => keyless (opd C [] 0 st x)
  | .makeInterface T x => keyless (opd C [] T st x)
  | .buildSlice _ _ ps => ps.toList.all fun p => keyless (opd C [] 0 st p.2)
  | .call cl => match cl.callee with
    | .value f => match avL (opd C [] 0 st f) with
      | .clo f caps => match O f with
        | some e => e.flat || (caps.isEmpty && cl.args.toList.all fun x => keyless (opd C [] 0 st x))
        | none => false
      | _ => false
    | .builtin .len | .builtin .min | .builtin .max => true
    | _ => false
  | _ => false

/-- An operation of a region, and those that may come before it or behind it. -/
structure DI where
  i : Nat
  o : Oper
  us : List Oper
  late : Bool

def ancOf (acc : List Nat) (l : List Edge) : Nat := l.foldl (fun m e => cond (Region.binds .any e) (m ||| (1 <<< e.on) ||| (acc[e.on]?).getD 0) m) 0

/-- What each operation waits for, as bits. -/
def ancs : List Oper → List Nat → List Nat
  | [], acc => acc
  | o :: l, acc => ancs l (acc ++ [ancOf acc o.after.toList])

def unordB (as : List Nat) (i j : Nat) : Bool := cond (Nat.blt i j) (!(((as[j]?).getD 0).testBit i)) (cond (Nat.blt j i) (!(((as[i]?).getD 0).testBit j)) false)

def drawItems (ops : Array Oper) : List DI := ops.toList.zipIdx.map fun p => { i := p.2, o := p.1, us := ops.toList.zipIdx.filterMap fun q => cond (unordB (ancs ops.toList []) p.2 q.2) (some q.1) none, late := ops.toList.zipIdx.all fun q => !(unordB (ancs ops.toList []) p.2 q.2) || Nat.blt q.2 p.2 }

def isStoreB (o : Oper) : Bool := match o.op with | .store .. => true | _ => false
/-- It turns nothing and asks for nothing. -/
def idleB (o : Oper) : Bool := match o.op with | .move _ => true | _ => false
/-- Behind the last store that others may come behind of. -/
def lastLate (l : List DI) : Nat := l.foldl (fun n y => cond (!y.us.isEmpty && isStoreB y.o) (max n (y.i + 1)) n) 0
def offDst (o : Oper) (l : List Nat) : Bool := match o.dst with | some d => !(memB d l) | none => true
def waitsB (o : Oper) (i : Nat) : Bool := o.after.toList.any fun e => Region.binds .any e && Nat.beq e.on i

/-- A region that may be reckoned in the order that it is written in. -/
def okItemsF (f : DI → Bool) (ops : Array Oper) : Bool := Region.noSelect ops && (drawItems ops).all fun it => f it && (it.o.after.toList.all fun e => !(Region.binds .any e) || Nat.blt e.on it.i) && (it.us.all fun p => it.o.apart ops p) && (ops.toList.zipIdx.all fun q => Nat.blt q.2 it.i || Nat.ble (lastLate (drawItems ops)) q.2 || offDst q.1 (it.o.looksAt ops)) && (!(idleB it.o) || ops.toList.zipIdx.all fun q => Nat.ble q.2 it.i || waitsB q.1 it.i || it.o.apart ops q.1)
def freeB (it : DI) : Bool := it.o.guard.isNone
def okItems (ops : Array Oper) : Bool := okItemsF freeB ops

/-- Those that have not come up yet. -/
def openL (ops : Array Oper) (listed : Array Bool) : List DI := (drawItems ops).filter fun it => !(listed.getD it.i true)

/-! A region whose first operations come in one order, and those behind them under one guard. -/
def firstG : List Oper → Nat → Option (Nat × Nat × Bool)
  | [], _ => none
  | o :: l, n => match o.guard with
    | some (i, w) => some (n, i, w)
    | none => firstG l (n + 1)
def preL : Nat → Nat → Array Bool → Array Bool
  | 0, _, l => l
  | n + 1, k, l => preL n (k + 1) (l.setIfInBounds k true)
def preB (ops : Array Oper) : Nat → Nat → Array Bool → Bool
  | 0, _, _ => true
  | n + 1, k, l => decide (Region.ready .any ops l = [k]) && preB ops n (k + 1) (l.setIfInBounds k true)
def guardB (i : Nat) (want : Bool) (o : Oper) : Bool := match o.guard with
  | none => false
  | some (i', w') => Nat.beq i' i && (w' == want)
def wantB (n i s : Nat) (want : Bool) (it : DI) : Bool := Nat.blt it.i n || ((it.o.guard.isNone || guardB i want it.o) && offDst it.o [s])
def preOf (n : Nat) (ops : Array Oper) : Array Bool := preL n 0 (Array.replicate ops.size false)

def offKeys (us : List Oper) (ks : List (Nat × Nat)) : Bool := ks.all fun k => us.all fun p => match p.dst with | some d => !(Nat.beq d k.1) | none => true

def szT (T : Nat) : Nat :=
  match lkp T C.ty with
  | some (.d (.st n) _ _) => sz C.S dep (.st n)
  | _ => 1

/-- What it reads lies apart from these cells. -/
def clearB (x : Oper) (st : St C.S.U) (d j lo n : Nat) : Bool :=
  match x.op with
  | .load T p => match avL (opd C [] 0 st p) with
    | .ref d' j' off => !(Nat.beq d' d && Nat.beq j' j) || Nat.ble (off + szT C T) lo || Nat.ble (lo + n) off
    | _ => true
  | _ => true

/-- A store into a box behind which no other operation may come; what may come before or behind it reads other cells. -/
def lateOk (it : DI) (st : St C.S.U) : Bool :=
  match it.o.op with
  | .store T p x => it.late && it.o.dst.isNone && match avL (opd C [] 0 st p) with
    | .ref d j lo => match cellsOf C T (opd C [] T st x) some with
      | some ys => it.us.all fun z => clearB C z st d j lo ys.length
      | none => false
    | _ => false
  | _ => false

def dynOk (O : Oracle C.S) (ops : Array Oper) (it : DI) (st : St C.S.U) : Bool :=
  it.us.isEmpty || (it.late && it.us.all idleB && !(isStoreB it.o)) || ((light C O it.o st || lateOk C it st) && (it.o.looksAt ops).all fun t => offKeys it.us (keysA (st.sl t)))

def lenCall : Callee → Bool
  | .builtin .len => true
  | _ => false
/-- Operations that turn no memory. -/
def stillOp : Op → Bool
  | .call cl => lenCall cl.callee
  | .move _ | .assign _ | .pick .. | .load .. | .binOp .. | .unOp .. | .fieldAddr .. | .field .. | .indexAddr .. | .index .. | .extract .. | .slice .. => true
  | _ => false

def stillRest (i : Nat) (want : Bool) (l : List Oper) : Bool := l.all fun o => guardB i want o || stillOp o.op
/-- Whether it may be taken so. -/
def okG (ops : Array Oper) (n i s : Nat) (want : Bool) : Bool := and (Nat.ble n ops.size) (and (preB ops n 0 (Array.replicate ops.size false)) (and (okItemsF (wantB n i s want) ops) (and (stillRest i want (ops.toList.drop n)) (Region.lexFrom .any ops (ops.size - n) n (preOf n ops)))))

def drawL (O : Oracle C.S) (N : Fr) (ops : Array Oper) (l : List DI) (K : St C.S.U → Option ρ) : St C.S.U → Option ρ :=
  l.foldr (fun it K st => cond (dynOk C O ops it st) (doK C O N [] it.o K st) none) K

def armK (O : Oracle C.S) (N : Fr) (ops : Array Oper) (n : Nat) (want b : Bool) (K : St C.S.U → Option ρ) (st : St C.S.U) : Option ρ :=
  cond (b == want) (drawL C O N ops (openL ops (preOf n ops)) K st) (opsK C O N ops.toList (ops.toList.drop n) K st)
def decK (O : Oracle C.S) (N : Fr) (ops : Array Oper) (n s : Nat) (want : Bool) (K : St C.S.U → Option ρ) (st : St C.S.U) : Option ρ :=
  match st.sl s with
  | .l (.bl b) => armK C O N ops n want b K st
  | .l (.tb d j b) => cond b (armK C O N ops n want true K (st.rsv d j true)) (armK C O N ops n want false K (st.rsv d j false))
  | _ => none
/-- A region whose order is drawn, with a guard. -/
def guardK (O : Oracle C.S) (N : Fr) (ops : Array Oper) (K : St C.S.U → Option ρ) (st : St C.S.U) : Option ρ :=
  match firstG ops.toList 0 with
  | none => none
  | some (n, i, want) => match (ops[i]?).bind (·.dst) with
    | none => none
    | some s => cond (okG ops n i s want) (opsK C O N ops.toList (ops.toList.take n) (decK C O N ops n s want K) st) none

inductive Ex where
  | norm
  | exit (id : Nat)
  | ret

/-- Where the labels stand. -/
inductive Ann where
  | z
  | n (l r : Ann)
  | lab (id : Nat) (b : Ann)
  | lp (id : Nat) (b : Ann)

def Ann.l : Ann → Ann
  | .n l _ => l
  | _ => .z
def Ann.r : Ann → Ann
  | .n _ r => r
  | _ => .z

abbrev Kt (ρ : Type) (U : Nat → Type) := Ex → St U → Option ρ

def seqK {U : Nat → Type} (g : St U → Option ρ) (K : Kt ρ U) : Kt ρ U := fun e st =>
  match e with
  | .norm => g st
  | e => K e st
def blockK {U : Nat → Type} (id : Nat) (K : Kt ρ U) : Kt ρ U := fun e st =>
  match e with
  | .exit i => cond (Nat.beq i id) (K .norm st) (K (.exit i) st)
  | e => K e st

/-- Operations whose order is drawn may be taken as they stand. -/
def okDraw (ops : Array Oper) : Bool := ops.toList.all (fun o => stillOp o.op) && Region.lexB .any ops
/-- How many operations at the beginning turn no memory. -/
def stillHead : List Oper → Nat
  | [] => 0
  | o :: l => cond (stillOp o.op) (stillHead l + 1) 0
/-- Operations whose order is drawn turn no memory; those behind them come in one order. -/
def okTail (ops : Array Oper) : Bool := Region.lexTailB .any ops (stillHead ops.toList)

section
variable {C}
variable (O : Oracle C.S) (N : Fr) (L : Nat → St C.S.U → Option ρ)

abbrev Fold (ρ : Type) (U : Nat → Type) := Ann → Kt ρ U → St U → Option ρ

/-- At a label its function answers. -/
def labK (an : Ann) (f : Fold ρ C.S.U) (K : Kt ρ C.S.U) : St C.S.U → Option ρ :=
  match an with
  | .lab id _ => L id
  | an => f an K

/-- The code as a function of what is known. -/
noncomputable def codeK (c : Code) : Fold ρ C.S.U :=
  Code.rec (motive := fun _ => Fold ρ C.S.U)
    (fun _ K st => K .norm st)
    (fun _ ops draw _ K st => cond (or (!draw) (or (okDraw ops) (okTail ops))) (opsK C O N ops.toList ops.toList (K .norm) st) (cond (okItems ops) (drawL C O N ops (drawItems ops) (K .norm) st) (guardK C O N ops (K .norm) st)))
    (fun _ _ fa fb an K st => fa an.l (seqK (labK L an.r fb K) K) st)
    (fun c _ _ ft fe an K st => match opd C [] 0 st c with
      | .l (.bl b) => cond b (ft an.l K st) (fe an.r K st)
      | .l (.tb d j b) => cond b (ft an.l K (st.rsv d j true)) (fe an.r K (st.rsv d j false))
      | .l (.v .bool b) => cond b (ft an.l K st) (fe an.r K st)
      | _ => none)
    (fun id _ f an K st => f an (blockK id K) st)
    (fun _ _ an _ st => match an with
      | .lp id _ => L id st
      | _ => none)
    (fun _ _ _ _ _ _ _ _ _ => none)
    (fun id _ K st => K (.exit id) st)
    (fun _ f an K st => f an K st)
    (fun _ _ _ _ => none)
    (fun _ _ _ _ => none)
    (fun _ K st => K .ret st)
    (fun _ _ _ _ => none)
    c

def orO {α : Type} (a b : Option α) : Option α :=
  match a with
  | some g => some g
  | none => b

def fromSeq (id : Nat) (f1 : (St C.S.U → Option ρ) → Option (St C.S.U → Option ρ)) (cb : Ann → St C.S.U → Option ρ) (fb : Ann → Option (St C.S.U → Option ρ)) (an : Ann) : Option (St C.S.U → Option ρ) :=
  match an with
  | .lab id' an' => cond (Nat.beq id' id) (some (cb an')) (orO (f1 (L id')) (fb an'))
  | an' => orO (f1 (cb an')) (fb an')

/-- From a label on. -/
noncomputable def fromK (c : Code) : Ann → Nat → Kt ρ C.S.U → Option (St C.S.U → Option ρ) :=
  Code.rec (motive := fun _ => Ann → Nat → Kt ρ C.S.U → Option (St C.S.U → Option ρ))
    (fun _ _ _ => none)
    (fun _ _ _ _ _ _ => none)
    (fun _ b fa fb an id K => fromSeq L id (fun k => fa an.l id (seqK k K)) (fun an' => codeK O N L b an' K) (fun an' => fb an' id K) an.r)
    (fun _ _ _ ft fe an id K => orO (ft an.l id K) (fe an.r id K))
    (fun bid _ f an id K => f an id (blockK bid K))
    (fun b f an id K => match an with
      | .lp id' an' => cond (Nat.beq id' id) (some (codeK O N L b an' (seqK (L id') K))) (f an' id (seqK (L id') K))
      | _ => none)
    (fun _ _ _ _ _ _ _ _ _ => none)
    (fun _ _ _ _ => none)
    (fun _ f an id K => f an id K)
    (fun _ _ _ _ => none)
    (fun _ _ _ _ => none)
    (fun _ _ _ => none)
    (fun _ _ _ _ => none)
    c
end
end

/-! A function's frame. -/
section
variable {U : Nat → Type} {ρ : Type}

/-- A box's cells: data, or rows of the call's own. -/
inductive DC where
  | d (t : Ty)
  | row (E : Nat) (t : Ty)
  | clo (f : Nat) (caps : List Nat)
  | mp (kt vt : Ty)
def DC.tys : List DC → List Ty
  | [] => []
  | .d t :: r => t :: tys r
  | .row _ t :: r => .sl t :: tys r
  | .clo _ _ :: r => tys r
  | .mp kt vt :: r => .sl kt :: .sl vt :: tys r

/-- Names of boxes, and where they lie. -/
abbrev Nm := List (Nat × Nat × Nat)
def selfNm (l : List Nat) : Nm := l.map fun s => (s, s, 1)
def tgt (μ : Nm) (s : Nat) : Nat × Nat := match lkp s μ with
  | some p => p
  | none => (s, 1)
def capsOf (μ : Nm) (caps : List Nat) : List (Nat × Nat × Nat) := caps.map fun s => ((tgt μ s).1, (tgt μ s).2, 0)
def capsOk (m : Nm) : List Nat → List (Nat × Nat × Nat) → Bool
  | [], [] => true
  | s :: r, (d, j, o) :: l => match lkp s m with
    | some (d', j') => and (and (Nat.beq d d') (Nat.beq j j')) (and (Nat.beq o 0) (capsOk m r l))
    | none => false
  | _, _ => false
def zipk : List Nat → List (Nat × Nat × Nat) → Nm
  | s :: r, (d, j, _) :: l => (s, d, j) :: zipk r l
  | _, _ => []
def bindC : List DC → List (LV U) → Nm → Nm
  | .clo _ caps :: cs, .clo _ ks :: l, m => bindC cs l (m ++ zipk caps ks)
  | _ :: cs, _ :: l, m => bindC cs l m
  | _, _, m => m

/-- How a parameter is handed; a box is handed over, and handed back. -/
inductive PM where
  | d (t : Ty)
  | fn (f : Nat)
  | iv (T : Nat) (t : Ty)
  | ref (cs : List DC)
  | clo (f : Nat) (caps : List Nat)
  | gh (s : Nat) (cs : List DC)
  | mp (kt vt : Ty)
  | rw (E : Nat) (t : Ty)
  | nl

def PM.tys : List PM → List Ty
  | [] => []
  | .d t :: r => t :: tys r
  | .iv _ t :: r => t :: tys r
  | .fn _ :: r => tys r
  | .ref cs :: r => DC.tys cs ++ tys r
  | .clo _ _ :: r => tys r
  | .gh _ cs :: r => DC.tys cs ++ tys r
  | .mp kt vt :: r => .sl kt :: .sl vt :: tys r
  | .rw _ t :: r => .sl t :: tys r
  | .nl :: r => tys r

/-- What is handed back. -/
def PM.outs : List PM → List Ty
  | [] => []
  | .ref cs :: r => DC.tys cs ++ outs r
  | .gh _ cs :: r => DC.tys cs ++ outs r
  | .mp kt vt :: r => .sl kt :: .sl vt :: outs r
  | _ :: r => outs r

def PM.pins : Nat → List PM → List Nat
  | _, [] => []
  | i, .ref _ :: r => i :: pins (i + 1) r
  | i, .mp _ _ :: r => i :: pins (i + 1) r
  | i, .gh _ _ :: r => pins i r
  | i, _ :: r => pins (i + 1) r

/-- The boxes that lie in no slot. -/
def PM.gs : List PM → List Nat
  | [] => []
  | .gh s _ :: r => s :: gs r
  | _ :: r => gs r
/-- How many slots they take. -/
def PM.np : List PM → Nat
  | [] => 0
  | .gh _ _ :: r => np r
  | _ :: r => np r + 1

def bindP (st : St U) : List PM → List (AV U) → Nm → Nm
  | .gh s cs :: r, as, m => match lkp s m with
    | some (d, j) => match st.mem d j with
      | some (.box l) => bindP st r as (bindC cs l m)
      | _ => bindP st r as m
    | none => bindP st r as m
  | .clo _ caps :: r, .l (.clo _ ks) :: as, m => bindP st r as (m ++ zipk caps ks)
  | .ref cs :: r, .l (.ref d j _) :: as, m => match st.mem d j with
    | some (.box l) => bindP st r as (bindC cs l m)
    | _ => bindP st r as m
  | _ :: r, _ :: as, m => bindP st r as m
  | _, _, m => m

/-- It is no row that may still turn. -/
def stillL (st : St U) : LV U → Bool
  | .row d j => match st.mem d j with
    | some (.row _ _ _) => false
    | _ => true
  | _ => true

def toF (S : Sg) (st : St S.U) (t : Ty) (x : AV S.U) : Option (El S.U t) :=
  cond (match x with
    | .l y => stillL st y
    | .ag _ cs => cs.all (stillL st)
    | _ => false) (toA S st t x) none

/-- It is the nil slice. -/
def isNilA : AV U → Bool
  | .l .nils => true
  | _ => false

def argsOf (S : Sg) (st : St S.U) : (pm : List PM) → List (AV S.U) → Option (HL S.U (PM.tys pm))
  | [], [] => some ()
  | .d t :: r, x :: as => match toA S st t x with
    | some y => match argsOf S st r as with
      | some h => some (y, h)
      | none => none
    | none => none
  | .iv T t :: r, .ifv T' x :: as => cond (Nat.beq T T') (match toF S st t (.l x) with
    | some y => match argsOf S st r as with
      | some h => some (y, h)
      | none => none
    | none => none) none
  | .fn f :: r, .l (.clo f' []) :: as => cond (Nat.beq f f') (argsOf S st r as) none
  | .nl :: r, x :: as => cond (isNilA x) (argsOf S st r as) none
  | _, _ => none

def Ty.flat : Ty → Bool
  | .int _ | .bool | .str => true
  | _ => false

def retL : (rs : List Ty) → RT U rs → List (LV U)
  | [], _ => []
  | [t], x => [.v t x]
  | t :: u :: ts, x => .v t x.1 :: retL (u :: ts) x.2

def retAV (rs : List Ty) (x : RT U rs) : AV U :=
  match retL rs x with
  | [y] => .l y
  | l => .tup l

def entryOf (S : Sg) (pm : List PM) (rs : List Ty) (F : HL S.U (PM.tys pm) → Option (RT S.U rs)) : Entry S where
  run args st R := match argsOf S st pm args with
    | some h => (F h).bind fun r => R (retAV rs r) (cond (rs.all Ty.flat) st (frzAs args st))
    | none => none
  flat := rs.all Ty.flat

def tagV (s : Nat) (t : Ty) (x : El U t) : LV U :=
  match t, x with
  | .bool, b => .tb s 1 b
  | t, x => .v t x

def empty (U : Nat → Type) : St U := { sl := fun _ => .l .junk, mem := fun _ _ => none, cnt := fun _ => 0 }
/-- Nothing is known but that there are boxes of these names. -/
def emptyG (U : Nat → Type) (q : List Nat) : St U := { sl := fun _ => .l .junk, mem := fun _ _ => none, cnt := fun s => cond (memB s q) 1 0 }

def resOne (C : Ctx) (st : St C.S.U) (t : Ty) : ResultVar → Option (El C.S.U t)
  | .tmp d => toA C.S st t (st.sl d)
  | .cell d T => match st.sl d with
    | .l (.ref a j o) => loadK C T (.ref a j o) st fun z _ => toA C.S st t z
    | _ => none

def resOf (C : Ctx) (st : St C.S.U) : (rs : List Ty) → List ResultVar → Option (RT C.S.U rs)
  | [], [] => some ()
  | [t], [r] => resOne C st t r
  | t :: u :: ts, r :: l => match resOne C st t r with
    | some x => match resOf C st (u :: ts) l with
      | some h => some (x, h)
      | none => none
    | none => none
  | _, _ => none

def endK (C : Ctx) (rs : List Ty) (vars : List ResultVar) : Kt (RT C.S.U rs) C.S.U := fun e st =>
  match e with
  | .norm | .ret => resOf C st rs vars
  | .exit _ => none

inductive DM where
  | d (t : Ty)
  | row (E : Nat) (t : Ty)
  | box (cs : List DC)
  | iv (T : Nat) (t : Ty)
  | clo (f : Nat) (caps : List Nat)
  | it
  | gh (cs : List DC)
  | mp (kt vt : Ty)
  | bd (T E : Nat)

def DM.tys : List (Nat × DM) → List Ty
  | [] => []
  | (_, .d t) :: r => t :: tys r
  | (_, .row _ t) :: r => .sl t :: tys r
  | (_, .box cs) :: r => DC.tys cs ++ tys r
  | (_, .gh cs) :: r => DC.tys cs ++ tys r
  | (_, .iv _ t) :: r => t :: tys r
  | (_, .clo _ _) :: r => tys r
  | (_, .it) :: r => .str :: .int .i64 :: tys r
  | (_, .mp kt vt) :: r => .sl kt :: .sl vt :: tys r
  | (_, .bd _ _) :: r => .sl (.int .u8) :: tys r

/-- The names of the boxes that a label's function takes. -/
def boxesD : List (Nat × DM) → List Nat
  | [] => []
  | (s, .box _) :: r => s :: boxesD r
  | _ :: r => boxesD r
def bindD (st : St U) : List (Nat × DM) → Nm
  | [] => []
  | (s, .box _) :: r => match st.sl s with
    | .l (.ref d j 0) => (s, d, j) :: bindD st r
    | _ => bindD st r
  | (s, .gh _) :: r => (s, s, 1) :: bindD st r
  | _ :: r => bindD st r
def startD (U : Nat → Type) (N : Fr) (D : List (Nat × DM)) : St U := emptyG U (N.q ++ boxesD D)
def isBoxM : DM → Bool
  | .box _ | .gh _ => true
  | _ => false
/-- The names are of the two kinds. -/
def dmB (N : Fr) (D : List (Nat × DM)) : Bool := D.all fun p => (memB p.1 (N.q ++ boxesD D) == isBoxM p.2) && (match p.2 with | .gh _ => memB p.1 N.q | .box _ => !memB p.1 N.q | _ => true)

def HL.app : (a : List Ty) → {b : List Ty} → HL U a → HL U b → HL U (a ++ b)
  | [], _, _, k => k
  | _ :: a, _, h, k => (h.1, HL.app a h.2 k)
def HL.spl : (a : List Ty) → {b : List Ty} → HL U (a ++ b) → HL U a × HL U b
  | [], _, k => ((), k)
  | _ :: a, _, h => let r := HL.spl a h.2; ((h.1, r.1), r.2)

def kill (st : St U) (d j : Nat) : St U := { st with mem := upd2 st.mem d j none }

/-- A row that may be appended to: nil, or of the call's own. It is handed over. -/
def asRow (st : St U) (E : Nat) (t : Ty) : LV U → Option (List (El U t) × St U)
  | .nils => some ([], st)
  | .row d j => match st.mem d j with
    | some (.row E' u xs) => cond (Nat.beq E E') (match castEl (U := U) (a := .sl u) (.sl t) xs with
      | some ys => some (ys, kill st d j)
      | none => none) none
    | _ => none
  | _ => none

/-- A row of the call's own, handed over. -/
def asRowA (st : St U) (E : Nat) (t : Ty) : AV U → Option (List (El U t) × St U)
  | .l (.row d j) => asRow st E t (.row d j)
  | _ => none

/-- A map of the call's own, handed over. -/
def asMap (st : St U) (kt vt : Ty) : LV U → Option (List (El U kt) × List (El U vt) × St U)
  | .mp d j => match st.mem d j with
    | some (.map kt' vt' ks vs) => match castEl (U := U) (a := .sl kt') (.sl kt) ks, castEl (U := U) (a := .sl vt') (.sl vt) vs with
      | some ks, some vs => some (ks, vs, kill st d j)
      | _, _ => none
    | _ => none
  | _ => none

def decC (S : Sg) (m : Nm) : (cs : List DC) → List (LV S.U) → St S.U → Option (HL S.U (DC.tys cs) × St S.U)
  | [], [], st => some ((), st)
  | .d t :: cs, x :: l, st => match toF S st t (.l x) with
    | some y => match decC S m cs l st with
      | some (h, st) => some ((y, h), st)
      | none => none
    | none => none
  | .row E t :: cs, x :: l, st => match asRow st E t x with
    | some (y, st) => match decC S m cs l st with
      | some (h, st) => some ((y, h), st)
      | none => none
    | none => none
  | .clo f caps :: cs, .clo f' ks :: l, st => cond (and (Nat.beq f f') (capsOk m caps ks)) (decC S m cs l st) none
  | .mp kt vt :: cs, x :: l, st => match asMap st kt vt x with
    | some (ks, vs, st) => match decC S m cs l st with
      | some (h, st) => some ((ks, vs, h), st)
      | none => none
    | none => none
  | _, _, _ => none

/-- The data among what a label's function takes stands still from here on. -/
def fzC : List DC → List (LV U) → St U → St U
  | .d _ :: cs, x :: l, st => fzC cs l (frz st x)
  | _ :: cs, _ :: l, st => fzC cs l st
  | _, _, st => st

def fzD : List (Nat × DM) → St U → St U
  | [], st => st
  | (s, .d _) :: D, st => fzD D (frzA st (st.sl s))
  | (s, .iv _ _) :: D, st => fzD D (frzA st (st.sl s))
  | (s, .box cs) :: D, st => match st.sl s with
    | .l (.ref d j 0) => match st.mem d j with
      | some (.box l) => fzD D (fzC cs l st)
      | _ => fzD D st
    | _ => fzD D st
  | (s, .gh cs) :: D, st => match st.mem s 1 with
    | some (.box l) => fzD D (fzC cs l st)
    | _ => fzD D st
  | _ :: D, st => fzD D st

/-- What is known at a label, read as its function's arguments. -/
def decP (S : Sg) (m : Nm) : (D : List (Nat × DM)) → St S.U → Option (HL S.U (DM.tys D))
  | [], _ => some ()
  | (s, .d t) :: D, st => match toF S st t (st.sl s) with
    | some y => match decP S m D st with
      | some h => some (y, h)
      | none => none
    | none => none
  | (s, .row E t) :: D, st => match st.sl s with
    | .l x => match asRow st E t x with
      | some (y, st) => match decP S m D st with
        | some h => some (y, h)
        | none => none
      | none => none
    | _ => none
  | (s, .box cs) :: D, st => match st.sl s with
    | .l (.ref d j 0) => cond (capsOk m [s] [(d, j, 0)]) (match st.mem d j with
      | some (.box l) => match decC S m cs l (kill st d j) with
        | some (y, st) => match decP S m D st with
          | some h => some (HL.app _ y h)
          | none => none
        | none => none
      | _ => none) none
    | _ => none
  | (s, .iv T t) :: D, st => match st.sl s with
    | .ifv T' x => cond (Nat.beq T T') (match toF S st t (.l x) with
      | some y => match decP S m D st with
        | some h => some (y, h)
        | none => none
      | none => none) none
    | _ => none
  | (s, .clo f caps) :: D, st => match st.sl s with
    | .l (.clo f' ks) => cond (and (Nat.beq f f') (capsOk m caps ks)) (decP S m D st) none
    | _ => none
  | (s, .gh cs) :: D, st => cond (capsOk m [s] [(s, 1, 0)]) (match st.mem s 1 with
    | some (.box l) => match decC S m cs l (kill st s 1) with
      | some (y, st) => match decP S m D st with
        | some h => some (HL.app _ y h)
        | none => none
      | none => none
    | _ => none) none
  | (s, .it) :: D, st => match st.sl s with
    | .l (.ref d j 0) => match st.mem d j with
      | some (.it x p) => match decP S m D (kill st d j) with
        | some h => some (x, p, h)
        | none => none
      | _ => none
    | _ => none
  | (s, .mp kt vt) :: D, st => match st.sl s with
    | .l x => match asMap st kt vt x with
      | some (ks, vs, st) => match decP S m D st with
        | some h => some (ks, vs, h)
        | none => none
      | none => none
    | _ => none
  | (s, .bd T E) :: D, st => match st.sl s with
    | .l (.ref d j 0) => match st.mem d j with
      | some (.bld T' y) => cond (Nat.beq T T') (match asRow st E (.int .u8) y with
        | some (l, st) => match decP S m D (kill st d j) with
          | some h => some (l, h)
          | none => none
        | none => none) none
      | _ => none
    | _ => none

def decD (S : Sg) (st : St S.U) (D : List (Nat × DM)) : Option (HL S.U (DM.tys D)) := decP S (bindD st D) D (fzD D st)

def encC (μ : Nm) (s : Nat) : Nat → (cs : List DC) → HL U (DC.tys cs) → List (LV U)
  | _, [], _ => []
  | i, .d t :: cs, h => .v t h.1 :: encC μ s (i + 1) cs h.2
  | i, .row _ _ :: cs, h => .row s (i + 2) :: encC μ s (i + 1) cs h.2
  | i, .clo f caps :: cs, h => .clo f (capsOf μ caps) :: encC μ s (i + 1) cs h
  | i, .mp _ _ :: cs, h => .mp s (i + 2) :: encC μ s (i + 1) cs h.2.2

def encM (s : Nat) : Nat → (cs : List DC) → HL U (DC.tys cs) → (Nat → Nat → Option (Obj' U)) → (Nat → Nat → Option (Obj' U))
  | _, [], _, m => m
  | i, .d _ :: cs, h, m => encM s (i + 1) cs h.2 m
  | i, .row E t :: cs, h, m => encM s (i + 1) cs h.2 (upd2 m s (i + 2) (some (.row E t h.1)))
  | i, .clo _ _ :: cs, h, m => encM s (i + 1) cs h m
  | i, .mp kt vt :: cs, h, m => encM s (i + 1) cs h.2.2 (upd2 m s (i + 2) (some (.map kt vt h.1 h.2.1)))

def slotsOf (U : Nat → Type) (i : Nat) : (pm : List PM) → HL U (PM.tys pm) → St U → St U
  | [], _, st => st
  | .d t :: r, h, st => slotsOf U (i + 1) r h.2 { st with sl := upd st.sl i (.l (tagV i t h.1)), cnt := upd st.cnt i 1 }
  | .iv T t :: r, h, st => slotsOf U (i + 1) r h.2 { st with sl := upd st.sl i (.ifv T (.v t h.1)) }
  | .fn f :: r, h, st => slotsOf U (i + 1) r h { st with sl := upd st.sl i (.l (.clo f [])) }
  | .ref cs :: r, h, st => slotsOf U (i + 1) r (HL.spl (DC.tys cs) h).2 { sl := upd st.sl i (.l (.ref i 1 0)), mem := upd2 (encM i 0 cs (HL.spl (DC.tys cs) h).1 st.mem) i 1 (some (.box (encC [] i 0 cs (HL.spl (DC.tys cs) h).1))), cnt := upd st.cnt i (1 + cs.length) }
  | .clo f caps :: r, h, st => slotsOf U (i + 1) r h { st with sl := upd st.sl i (.l (.clo f (capsOf [] caps))) }
  | .mp kt vt :: r, h, st => slotsOf U (i + 1) r h.2.2 { sl := upd st.sl i (.l (.mp i 1)), mem := upd2 st.mem i 1 (some (.map kt vt h.1 h.2.1)), cnt := upd st.cnt i 1 }
  | .rw E t :: r, h, st => slotsOf U (i + 1) r h.2 { sl := upd st.sl i (.l (.row i 1)), mem := upd2 st.mem i 1 (some (.row E t h.1)), cnt := upd st.cnt i 1 }
  | .nl :: r, h, st => slotsOf U (i + 1) r h { st with sl := upd st.sl i (.l .nils) }
  | .gh s cs :: r, h, st => slotsOf U i r (HL.spl (DC.tys cs) h).2 { st with mem := upd2 (encM s 0 cs (HL.spl (DC.tys cs) h).1 st.mem) s 1 (some (.box (encC [] s 0 cs (HL.spl (DC.tys cs) h).1))), cnt := upd st.cnt s (1 + cs.length) }


/-! Boxes handed over and back. -/
/-- The names of the boxes that lie in no slot, and where they lie. -/
def bindR {U : Nat → Type} (st : St U) (pm : List PM) (args : List (AV U)) : Nm := (bindP st pm args []).filter fun p => memB p.1 (PM.gs pm)

def fzR {S : Sg} (m : Nm) : List PM → List (AV S.U) → St S.U → St S.U
  | .d _ :: pm, x :: as, st => fzR m pm as (frzA st x)
  | .iv _ _ :: pm, x :: as, st => fzR m pm as (frzA st x)
  | .ref cs :: pm, .l (.ref d j _) :: as, st => match st.mem d j with
    | some (.box l) => fzR m pm as (fzC cs l st)
    | _ => fzR m pm as st
  | .gh s cs :: pm, as, st => match lkp s m with
    | some (d, j) => match st.mem d j with
      | some (.box l) => fzR m pm as (fzC cs l st)
      | _ => fzR m pm as st
    | none => fzR m pm as st
  | .fn _ :: pm, _ :: as, st => fzR m pm as st
  | .clo _ _ :: pm, _ :: as, st => fzR m pm as st
  | .mp _ _ :: pm, _ :: as, st => fzR m pm as st
  | .rw _ _ :: pm, _ :: as, st => fzR m pm as st
  | .nl :: pm, _ :: as, st => fzR m pm as st
  | .ref _ :: pm, _ :: as, st => fzR m pm as st
  | _, _, st => st

def argsR (S : Sg) (m : Nm) : (pm : List PM) → List (AV S.U) → St S.U → Option (HL S.U (PM.tys pm) × St S.U)
  | [], [], st => some ((), st)
  | .d t :: r, x :: as, st => match toF S st t x with
    | some y => match argsR S m r as st with
      | some (h, st) => some ((y, h), st)
      | none => none
    | none => none
  | .iv T t :: r, .ifv T' x :: as, st => cond (Nat.beq T T') (match toF S st t (.l x) with
    | some y => match argsR S m r as st with
      | some (h, st) => some ((y, h), st)
      | none => none
    | none => none) none
  | .fn f :: r, .l (.clo f' []) :: as, st => cond (Nat.beq f f') (argsR S m r as st) none
  | .ref cs :: r, .l (.ref d j 0) :: as, st => match st.mem d j with
    | some (.box l) => cond (Nat.blt 0 (st.cnt d)) (match decC S m cs l (kill st d j) with
      | some (y, st) => match argsR S m r as st with
        | some (h, st) => some (HL.app _ y h, st)
        | none => none
      | none => none) none
    | _ => none
  | .clo f caps :: r, .l (.clo f' ks) :: as, st => cond (and (Nat.beq f f') (capsOk m caps ks)) (argsR S m r as st) none
  | .mp kt vt :: r, .l x :: as, st => match asMap st kt vt x with
    | some (ks, vs, st) => match argsR S m r as st with
      | some (h, st) => some ((ks, vs, h), st)
      | none => none
    | none => none
  | .rw E t :: r, x :: as, st => match asRowA st E t x with
    | some (y, st) => match argsR S m r as st with
      | some (h, st) => some ((y, h), st)
      | none => none
    | none => none
  | .nl :: r, x :: as, st => cond (isNilA x) (argsR S m r as st) none
  | .gh s cs :: r, as, st => match lkp s m with
    | some (d, j) => match st.mem d j with
      | some (.box l) => cond (Nat.blt 0 (st.cnt d)) (match decC S m cs l (kill st d j) with
        | some (y, st) => match argsR S m r as st with
          | some (h, st) => some (HL.app _ y h, st)
          | none => none
        | none => none) none
      | _ => none
    | none => none
  | _, _, _ => none

/-- A box is told of again. -/
def backO (μ : Nm) (d j : Nat) (cs : List DC) {U : Nat → Type} (y : HL U (DC.tys cs)) (st : St U) : St U := { st with mem := upd2 (encM d (st.cnt d - 1) cs y st.mem) d j (some (.box (encC μ d (st.cnt d - 1) cs y))), cnt := upd st.cnt d (st.cnt d - 1 + 1 + cs.length) }

def backR {S : Sg} (μ : Nm) : (pm : List PM) → List (AV S.U) → HL S.U (PM.outs pm) → St S.U → St S.U
  | .ref cs :: r, .l (.ref d j _) :: as, h, st => backR μ r as (HL.spl (DC.tys cs) h).2 (backO μ d j cs (HL.spl (DC.tys cs) h).1 st)
  | .gh s cs :: r, as, h, st => match lkp s μ with
    | some (d, j) => backR μ r as (HL.spl (DC.tys cs) h).2 (backO μ d j cs (HL.spl (DC.tys cs) h).1 st)
    | none => st
  | .d _ :: r, _ :: as, h, st => backR μ r as h st
  | .iv _ _ :: r, _ :: as, h, st => backR μ r as h st
  | .fn _ :: r, _ :: as, h, st => backR μ r as h st
  | .clo _ _ :: r, _ :: as, h, st => backR μ r as h st
  | .rw _ _ :: r, _ :: as, h, st => backR μ r as h st
  | .nl :: r, _ :: as, h, st => backR μ r as h st
  | .mp kt vt :: r, .l (.mp d j) :: as, h, st => backR μ r as h.2.2 { st with mem := upd2 st.mem d j (some (.map kt vt h.1 h.2.1)) }
  | _, _, _, st => st

def entryR (S : Sg) (pm : List PM) (rs : List Ty) (F : HL S.U (PM.tys pm) → Option (RT S.U rs × HL S.U (PM.outs pm))) : Entry S where
  run args st R := match argsR S (bindR st pm args) pm args (fzR (bindR st pm args) pm args st) with
    | some (h, st1) => (F h).bind fun r => R (retAV rs r.1) (backR (bindR st pm args) pm args r.2 st1)
    | none => none
  flat := false

def hasRef : List PM → Bool
  | [] => false
  | .ref _ :: _ => true
  | .clo _ (_ :: _) :: _ => true
  | .mp _ _ :: _ => true
  | .rw _ _ :: _ => true
  | _ :: r => hasRef r

def fzV (C : Ctx) : List ResultVar → St C.S.U → St C.S.U
  | [], st => st
  | .tmp d :: r, st => fzV C r (frzA st (st.sl d))
  | .cell d T :: r, st => match st.sl d with
    | .l (.ref a j o) => match loadK C T (.ref a j o) st fun z _ => some z with
      | some z => fzV C r (frzA st z)
      | none => fzV C r st
    | _ => fzV C r st

def fzOut {S : Sg} : Nat → List PM → St S.U → St S.U
  | _, [], st => st
  | i, .ref cs :: r, st => match st.sl i with
    | .l (.ref d j _) => match st.mem d j with
      | some (.box l) => fzOut (i + 1) r (fzC cs l st)
      | _ => fzOut (i + 1) r st
    | _ => fzOut (i + 1) r st
  | i, .d _ :: r, st => fzOut (i + 1) r st
  | i, .iv _ _ :: r, st => fzOut (i + 1) r st
  | i, .fn _ :: r, st => fzOut (i + 1) r st
  | i, .clo _ _ :: r, st => fzOut (i + 1) r st
  | i, .mp _ _ :: r, st => fzOut (i + 1) r st
  | i, .rw _ _ :: r, st => fzOut (i + 1) r st
  | i, .nl :: r, st => fzOut (i + 1) r st
  | i, .gh s cs :: r, st => match st.mem s 1 with
    | some (.box l) => fzOut i r (fzC cs l st)
    | _ => fzOut i r st

def resG (C : Ctx) (st : St C.S.U) (t : Ty) : ResultVar → Option (El C.S.U t)
  | .tmp d => toF C.S st t (st.sl d)
  | .cell d T => match st.sl d with
    | .l (.ref a j o) => loadK C T (.ref a j o) st fun z _ => toF C.S st t z
    | _ => none

def resF (C : Ctx) (st : St C.S.U) : (rs : List Ty) → List ResultVar → Option (RT C.S.U rs)
  | [], [] => some ()
  | [t], [r] => resG C st t r
  | t :: u :: ts, r :: l => match resG C st t r with
    | some x => match resF C st (u :: ts) l with
      | some h => some (x, h)
      | none => none
    | none => none
  | _, _ => none

def outsR (S : Sg) (m : Nm) : Nat → (pm : List PM) → St S.U → Option (HL S.U (PM.outs pm))
  | _, [], _ => some ()
  | i, .ref cs :: r, st => match st.sl i with
    | .l (.ref d j 0) => match st.mem d j with
      | some (.box l) => match decC S m cs l (kill st d j) with
        | some (y, st) => match outsR S m (i + 1) r st with
          | some h => some (HL.app _ y h)
          | none => none
        | none => none
      | _ => none
    | _ => none
  | i, .d _ :: r, st => outsR S m (i + 1) r st
  | i, .iv _ _ :: r, st => outsR S m (i + 1) r st
  | i, .fn _ :: r, st => outsR S m (i + 1) r st
  | i, .clo _ _ :: r, st => outsR S m (i + 1) r st
  | i, .rw _ _ :: r, st => outsR S m (i + 1) r st
  | i, .nl :: r, st => outsR S m (i + 1) r st
  | i, .mp kt vt :: r, st => match st.sl i with
    | .l x => match asMap st kt vt x with
      | some (ks, vs, st) => match outsR S m (i + 1) r st with
        | some h => some (ks, vs, h)
        | none => none
      | none => none
    | _ => none
  | i, .gh s cs :: r, st => match st.mem s 1 with
    | some (.box l) => match decC S m cs l (kill st s 1) with
      | some (y, st) => match outsR S m i r st with
        | some h => some (HL.app _ y h)
        | none => none
      | none => none
    | _ => none

def endR (C : Ctx) (rs : List Ty) (vars : List ResultVar) (pm : List PM) : Kt (RT C.S.U rs × HL C.S.U (PM.outs pm)) C.S.U := fun e st =>
  match e with
  | .norm | .ret => match resF C (fzOut 0 pm (fzV C vars st)) rs vars with
    | some x => match outsR C.S (selfNm (PM.gs pm)) 0 pm (fzOut 0 pm (fzV C vars st)) with
      | some h => some (x, h)
      | none => none
    | none => none
  | .exit _ => none

/-! A row that is handed over, and that is the first result. -/
def RT.cons {t : Ty} (x : El U t) : (rs : List Ty) → RT U rs → RT U (t :: rs)
  | [], _ => x
  | _ :: _, h => (x, h)
def RT.hd {t : Ty} : (rs : List Ty) → RT U (t :: rs) → El U t
  | [], x => x
  | _ :: _, h => h.1
def RT.tl {t : Ty} : (rs : List Ty) → RT U (t :: rs) → RT U rs
  | [], _ => ()
  | _ :: _, h => h.2

def resL (C : Ctx) (st : St C.S.U) : ResultVar → Option (LV C.S.U)
  | .tmp d => match st.sl d with
    | .l x => some x
    | _ => none
  | .cell d T => match st.sl d with
    | .l (.ref a j o) => loadK C T (.ref a j o) st fun z _ => match z with
      | .l x => some x
      | _ => none
    | _ => none

def endW (C : Ctx) (E : Nat) (t : Ty) (rs : List Ty) (vars : List ResultVar) (pm : List PM) : Kt (RT C.S.U (.sl t :: rs) × HL C.S.U (PM.outs pm)) C.S.U := fun e st =>
  match e with
  | .norm | .ret => match vars with
    | v :: vs => match resL C (fzOut 0 pm (fzV C vs st)) v with
      | some x => match asRow (fzOut 0 pm (fzV C vs st)) E t x with
        | some (xs, st2) => match resF C st2 rs vs with
          | some y => match outsR C.S (selfNm (PM.gs pm)) 0 pm st2 with
            | some h => some (RT.cons (t := .sl t) xs rs y, h)
            | none => none
          | none => none
        | none => none
      | none => none
    | [] => none
  | .exit _ => none

/-- The name under which the row comes. -/
def rwD : List PM → List (AV U) → Option Nat
  | .rw _ _ :: _, .l (.row d _) :: _ => some d
  | .gh _ _ :: r, as => rwD r as
  | _ :: r, _ :: as => rwD r as
  | _, _ => none

def retW (d j : Nat) (rs : List Ty) (x : RT U rs) : AV U :=
  match retL rs x with
  | [] => .l (.row d j)
  | l => .tup (.row d j :: l)

def entryW (S : Sg) (E : Nat) (t : Ty) (pm : List PM) (rs : List Ty) (F : HL S.U (PM.tys pm) → Option (RT S.U (.sl t :: rs) × HL S.U (PM.outs pm))) : Entry S where
  run args st R := match rwD pm args with
    | some d => match argsR S (bindR st pm args) pm args (fzR (bindR st pm args) pm args st) with
      | some (h, st1) => (F h).bind fun r => R (retW d (st1.cnt d + 1) rs (RT.tl (t := .sl t) rs r.1)) (backR (bindR st pm args) pm args r.2 (newObj' d (.row E t (RT.hd (t := .sl t) rs r.1)) st1))
      | none => none
    | none => none
  flat := false

/-- The state that a label's function speaks of. -/
def encD : (D : List (Nat × DM)) → HL U (DM.tys D) → St U → St U
  | [], _, st => st
  | (s, .d t) :: D, h, st => encD D h.2 { st with sl := upd st.sl s (.l (tagV s t h.1)), cnt := upd st.cnt s 1 }
  | (s, .row E t) :: D, h, st => encD D h.2 { st with sl := upd st.sl s (.l (.row s 1)), mem := upd2 st.mem s 1 (some (.row E t h.1)), cnt := upd st.cnt s 1 }
  | (s, .box cs) :: D, h, st => let r := HL.spl _ h; encD D r.2 { st with sl := upd st.sl s (.l (.ref s 1 0)), mem := upd2 (encM s 0 cs r.1 st.mem) s 1 (some (.box (encC [] s 0 cs r.1))), cnt := upd st.cnt s (1 + cs.length) }
  | (s, .gh cs) :: D, h, st => let r := HL.spl _ h; encD D r.2 { st with mem := upd2 (encM s 0 cs r.1 st.mem) s 1 (some (.box (encC [] s 0 cs r.1))), cnt := upd st.cnt s (1 + cs.length) }
  | (s, .iv T t) :: D, h, st => encD D h.2 { st with sl := upd st.sl s (.ifv T (.v t h.1)) }
  | (s, .clo f caps) :: D, h, st => encD D h { st with sl := upd st.sl s (.l (.clo f (capsOf [] caps))) }
  | (s, .it) :: D, h, st => encD D h.2.2 { sl := upd st.sl s (.l (.ref s 1 0)), mem := upd2 st.mem s 1 (some (.it h.1 h.2.1)), cnt := upd st.cnt s 1 }
  | (s, .bd T E) :: D, h, st => encD D h.2 { sl := upd st.sl s (.l (.ref s 2 0)), mem := upd2 (upd2 st.mem s 1 (some (.row E (.int .u8) h.1))) s 2 (some (.bld T (.row s 1))), cnt := upd st.cnt s 2 }
  | (s, .mp kt vt) :: D, h, st => encD D h.2.2 { sl := upd st.sl s (.l (.mp s 1)), mem := upd2 st.mem s 1 (some (.map kt vt h.1 h.2.1)), cnt := upd st.cnt s 1 }

/-- A label's function, asked at what is known. -/
def labOf (S : Sg) {ρ : Type} (D : List (Nat × DM)) (F : HL S.U (DM.tys D) → Option ρ) (st : St S.U) : Option ρ :=
  match decD S st D with
  | some h => F h
  | none => none

def labs {ρ : Type} (l : List (Nat × (St U → Option ρ))) : Nat → St U → Option ρ := fun id st =>
  match lkp id l with
  | some g => g st
  | none => none

noncomputable def runFrom {C : Ctx} {ρ : Type} (O : Oracle C.S) (N : Fr) (L : Nat → St C.S.U → Option ρ) (c : Code) (an : Ann) (id : Nat) (K : Kt ρ C.S.U) (st : St C.S.U) : Option ρ :=
  match fromK O N L c an id K with
  | some g => g st
  | none => none
end
end Go.Proofs.YthmedjljckbidaaDoor.Lift
