/- What comes in as an argument of a law, in the evaluator's words; a law's call. Conditions: as each theorem states them. -/
import Derived.Test.YthmedjljckbidaaDoorLiftV1
import Derived.WalkKit
import Derived.ProofKit
import Derived.OpenShut
import Derived.SizedLaws
import Derived.Below
set_option linter.unusedVariables false
namespace Go.Proofs.YthmedjljckbidaaDoor.Lift
open Go.ChangeShapes Go.WideShapes Go.ChangeAt Go.RowKit

def memOf (w : World) : Mm := fun b => match w.heap[b]? with
  | some (.cells cs _ _) => some cs
  | _ => none

/-- The bytes of an element. -/
def ebOf : List (Nat × TI) → Ty → Nat
  | [], _ => 0
  | (_, .d (.sl u) eb _) :: r, t => bif decide (u = t) then eb else ebOf r t
  | _ :: r, t => ebOf r t

def goodL {U : Nat → Type} (g : (t : Ty) → El U t → Prop) : (ts : List Ty) → HL U ts → Prop
  | [], _ => True
  | [t], h => g t h.1
  | t :: u :: ts, h => g t h.1 ∧ goodL g (u :: ts) h.2

def goodF (C : Ctx) (g : (t : Ty) → El C.S.U t → Prop) : (t : Ty) → El C.S.U t → Prop
  | .int k, n => (Lit.int k n).wf = true
  | .bool, _ => True
  | .str, s => s.size ≤ 140737488351232
  | .sl t, xs => xs.length * ebOf C.ty t ≤ 140737488351232 ∧ xs.length ≤ 9223372036854775807 ∧ ∀ y ∈ xs, g t y
  | .st n, x => goodL g (C.S.fl n) (C.S.out n x)

/-- What is known of what comes in: numbers in their range, strings and slices of some size. -/
def good (C : Ctx) : Nat → (t : Ty) → El C.S.U t → Prop
  | 0 => goodF C fun _ _ => False
  | d + 1 => goodF C (good C d)

/-- How much a value holds, each time it is reached. -/
def bulkH {U : Nat → Type} (g : (t : Ty) → El U t → Nat) : (ts : List Ty) → HL U ts → Nat
  | [], _ => 0
  | t :: ts, h => g t h.1 + bulkH g ts h.2
def bulkF (C : Ctx) (g : (t : Ty) → El C.S.U t → Nat) : (t : Ty) → El C.S.U t → Nat
  | .int _, _ => 1
  | .bool, _ => 1
  | .str, s => s.size + 1
  | .sl t, xs => (xs.map (g t)).sum + 1
  | .st n, x => bulkH g (C.S.fl n) (C.S.out n x) + 1
def bulk (C : Ctx) : Nat → (t : Ty) → El C.S.U t → Nat
  | 0 => bulkF C fun _ _ => 0
  | d + 1 => bulkF C (bulk C d)

/-- A measure of data that is at least so much. -/
structure BulkB {H : Type} (B : DataW H → Nat) (BA : List (DataW H) → Nat) : Prop where
  pos : ∀ d, 1 ≤ B d
  str : ∀ l : List UInt8, l.length + 1 ≤ B (.lit (.string l))
  slice : ∀ e s, BA e + 1 ≤ B (.slice e s)
  agg : ∀ p, BA p + 1 ≤ B (.agg p)
  cons : ∀ d r, B d + BA r ≤ BA (d :: r)
theorem BulkB.sum {H : Type} {B : DataW H → Nat} {BA : List (DataW H) → Nat} (h : BulkB B BA) : ∀ l : List (DataW H), (l.map B).sum ≤ BA l
  | [] => Nat.zero_le _
  | d :: r => by
    have := h.cons d r
    have := h.sum r
    simp only [List.map_cons, List.sum_cons]
    omega
mutual
def bulkW {H : Type} : DataW H → Nat
  | .lit (.string l) => l.length + 1
  | .slice e _ => bulkWs e + 1
  | .agg p => bulkWs p + 1
  | _ => 1
def bulkWs {H : Type} : List (DataW H) → Nat
  | [] => 0
  | d :: r => bulkW d + bulkWs r
end
theorem bulkB_W (H : Type) : BulkB (H := H) bulkW bulkWs where
  pos d := by
    cases d with
    | lit l => cases l <;> simp [bulkW]
    | _ => simp [bulkW]
  str l := by simp [bulkW]
  slice e s := by simp [bulkW]
  agg p := by simp [bulkW]
  cons d r := by simp [bulkWs]

def fieldsT (C : Ctx) : List Field → List Ty → Bool
  | [], [] => true
  | f :: fs, t :: ts => (match lkp f.type C.ty with | some (.d t' _ _) => decide (t' = t) | _ => false) && fieldsT C fs ts
  | _, _ => false

def openB (P : Program) (C : Ctx) : Bool := C.ty.all fun p => match p.2 with
  | .d (.sl u) _ E => (match lkp E C.ty with | some (.d u' _ _) => decide (u' = u) | _ => false) && Nat.beq (ebOf C.ty u) (P.bytesOf E)
  | .d (.st n) _ _ => match P.underlying p.1 with
    | some (.struct fs) => fieldsT C fs.toList (C.S.fl n)
    | _ => false
  | _ => true

theorem lkp_in {α : Type} {k : Nat} {v : α} : ∀ {l : List (Nat × α)}, lkp k l = some v → (k, v) ∈ l
  | (n, u) :: l, h => by
    simp only [lkp] at h
    cases q : Nat.beq n k with
    | true => rw [q] at h; cases h; rw [← Nat.eq_of_beq_eq_true q]; exact List.mem_cons_self ..
    | false => rw [q] at h; exact List.mem_cons_of_mem _ (lkp_in h)

section
variable {P : Program} {C : Ctx}

theorem weightsAll_mem {H : Type} {P : Program} {e : TypeId} : ∀ {ds : List (DataW H)} {d : DataW H}, d ∈ ds → ∀ n ∈ DataW.weights P e d, n ∈ DataW.weightsAll P e ds
  | a :: r, d, h, n, hn => by
    unfold DataW.weightsAll
    rcases List.mem_cons.1 h with rfl | h
    · exact List.mem_append_left _ hn
    · exact List.mem_append_right _ (weightsAll_mem h n hn)
theorem weightsEach_mem {H : Type} {P : Program} : ∀ {ts : List TypeId} {ds : List (DataW H)} (i : Nat) {t : TypeId} {d : DataW H}, ts[i]? = some t → ds[i]? = some d → ∀ n ∈ DataW.weights P t d, n ∈ DataW.weightsEach P ts ds
  | t :: ts, d :: ds, 0, t', d', h1, h2, n, hn => by
    cases h1; cases h2
    unfold DataW.weightsEach
    exact List.mem_append_left _ hn
  | t :: ts, d :: ds, i + 1, t', d', h1, h2, n, hn => by
    unfold DataW.weightsEach
    exact List.mem_append_right _ (weightsEach_mem i h1 h2 n hn)

theorem fieldsT_at : ∀ {fs : List Field} {ts : List Ty}, fieldsT C fs ts = true → ∀ {i : Nat} {f : Field} {t : Ty}, fs[i]? = some f → ts[i]? = some t → ∃ eb E, lkp f.type C.ty = some (.d t eb E)
  | [], [], _, i, f, t, hf, _ => by simp at hf
  | [], _ :: _, h, _, _, _, _, _ => nomatch h
  | _ :: _, [], h, _, _, _, _, _ => nomatch h
  | g :: fs, u :: ts, h, 0, f, t, hf, ht => by
    simp only [fieldsT, Bool.and_eq_true] at h
    have hf : g = f := by simpa using hf
    have ht : u = t := by simpa using ht
    subst hf; subst ht
    have h := h.1
    split at h
    · rename_i t' eb E e
      have : t' = u := by simpa using h
      subst this
      exact ⟨eb, E, e⟩
    · cases h
  | g :: fs, u :: ts, h, i + 1, f, t, hf, ht => by
    simp only [fieldsT, Bool.and_eq_true] at h
    exact fieldsT_at h.2 (i := i) (by simpa using hf) (by simpa using ht)

/-- Fields out of their cells. -/
theorem repH_of {M : Mm} (g : (t : Ty) → El C.S.U t → Prop) (k : (t : Ty) → El C.S.U t → Nat) : ∀ (ts : List Ty) (cs : List Value) (bs : List Nat), cs.length = szL (sz C.S dep) ts →
    (∀ i t, ts[i]? = some t → ∃ y : El C.S.U t, RepC C.S M t ((cs.drop (szL (sz C.S dep) (ts.take i))).take (sz C.S dep t)) y ∧ g t y ∧ ∃ b, bs[i]? = some b ∧ k t y ≤ b) → ∃ h : HL C.S.U ts, RepH C.S M ts cs h ∧ goodL g ts h ∧ bulkH k ts h ≤ bs.sum
  | [], cs, bs, hl, _ => by
    have : cs = [] := List.eq_nil_of_length_eq_zero hl
    subst this
    exact ⟨(), .nil, trivial, Nat.zero_le _⟩
  | t :: ts, cs, bs, hl, hp => by
    obtain ⟨y, h1, h2, b, hb, hk⟩ := hp 0 t rfl
    obtain ⟨bs', rfl⟩ : ∃ bs', bs = b :: bs' := by
      cases bs with
      | nil => cases hb
      | cons b' bs' => cases hb; exact ⟨bs', rfl⟩
    simp only [List.take_zero, szL, List.drop_zero] at h1
    simp only [szL] at hl
    obtain ⟨h, h3, h4, h5⟩ := repH_of g k ts (cs.drop (sz C.S dep t)) bs' (by rw [List.length_drop]; omega) (fun i u hu => by
      obtain ⟨z, z1, z2, b', z3, z4⟩ := hp (i + 1) u (by simpa using hu)
      refine ⟨z, ?_, z2, b', by simpa using z3, z4⟩
      simp only [List.take_succ_cons, szL] at z1
      rw [List.drop_drop]
      exact z1)
    refine ⟨(y, h), ?_, ?_, by simp only [bulkH, List.sum_cons]; omega⟩
    · have := RepH.cons (S := C.S) (M := M) t ts _ _ y h h1 h3
      rwa [List.take_append_drop] at this
    · cases ts with
      | nil => exact h2
      | cons u us => exact ⟨h2, h4⟩

theorem trod_pos {H : Type} {enc : TypeId × Value → H} {w : World} {base : Nat} {spare : Nat → Bool} {held : Bool} {fuel : Nat} {t : TypeId} {cs : List Value} {x : DataW H × List MemPlace} (h : DataW.trod enc P w base spare held fuel t cs = some x) : ∃ n, fuel = n + 1 := by
  cases fuel with
  | zero => simp [DataW.trod] at h
  | succ n => exact ⟨n, rfl⟩

/-- What is read as an argument is a value. -/
theorem opens (B : Base P C) (ho : openB P C = true) {H : Type} {B' : DataW H → Nat} {BA : List (DataW H) → Nat} (hB : BulkB B' BA) (enc : TypeId × Value → H) (w : World) (base : Nat) (spare : Nat → Bool) (held : Bool) : ∀ (fuel T : Nat) (t : Ty) (eb E : Nat), lkp T C.ty = some (.d t eb E) → ∀ (cs : List Value) (x : DataW H × List MemPlace),
    DataW.trod enc P w base spare held fuel T cs = some x → (∀ n ∈ DataW.weights P T x.1, n ≤ reachBytes) → ∃ y : El C.S.U t, RepC C.S (memOf w) t cs y ∧ good C fuel t y ∧ bulk C fuel t y ≤ B' x.1 := by
  intro fuel
  induction fuel with
  | zero => intro T t eb E hT cs x hx hw; simp [DataW.trod] at hx
  | succ fuel ih =>
    intro T t eb E hT cs x hx hw
    have hb := List.all_eq_true.1 ho _ (lkp_in hT)
    cases t with
    | int k =>
      obtain ⟨n, rfl, _, h⟩ := DataW.trod_int (TyOk.int B.T hT) hx
      exact ⟨n, .int k n, h, hB.pos _⟩
    | bool =>
      obtain ⟨b, rfl, _⟩ := DataW.trod_bool (TyOk.bool B.T hT) hx
      exact ⟨b, .bool b, trivial, hB.pos _⟩
    | str =>
      obtain ⟨s, rfl, rfl, h⟩ := DataW.trod_string (TyOk.str B.T hT) hx
      refine ⟨s, .str s, ?_, by have := hB.str s.data.toList; rw [Array.length_toList] at this; exact this⟩
      have := hw s.data.toList.length (by simp [DataW.weights])
      show s.size ≤ 140737488351232
      simpa [reachBytes] using this
    | sl u =>
      obtain ⟨ht, ⟨K⟩⟩ := TyOk.sl B.T hT
      simp only [Bool.and_eq_true] at hb
      obtain ⟨hb1, hb2⟩ := hb
      have hbytes : ebOf C.ty u = P.bytesOf E := Nat.eq_of_beq_eq_true hb2
      split at hb1
      case h_2 => cases hb1
      rename_i u' eb' E' eE
      have : u' = u := by simpa using hb1
      subst this
      rcases DataW.trod_slice ht hx with ⟨rfl, _⟩ | ⟨a, len, cap, elems, rest, n, hfu, rfl, rfl, hba, hl, hm, hlen, hel, _, _⟩
      · exact ⟨[], .nil _ _ _, ⟨by simp, by simp, fun y hy => by cases hy⟩, hB.pos _⟩
      · cases hfu
        have hcs : P.cellsOf E = sz C.S dep u' := by simp [Program.cellsOf, K.data.hi, K.data.hs]
        have hpos := K.szp
        have each : ∀ i (hi : i < len), ∃ y : El C.S.U u', (good C fuel u' y ∧ bulk C fuel u' y ≤ B' (elems[i]'(by omega)).1) ∧ ∃ c : List Value, c.length = sz C.S dep u' ∧ RepC C.S (memOf w) u' c y ∧ ∀ j, j < sz C.S dep u' → w.cell? ((a.add (i * sz C.S dep u')).add j) = c[j]? := fun i hi => by
          have h1 := hel i hi
          rw [List.getElem?_eq_getElem (by omega)] at h1
          obtain ⟨c, h2, h3⟩ := Option.bind_eq_some_iff.1 h1
          obtain ⟨_, h4, h5⟩ := World.cells?_some h2
          obtain ⟨y, h6, h7, h8⟩ := ih E u' eb' E' eE c _ h3 (fun m hm' => hw m (by
            simp only [DataW.weights, ht]
            exact List.mem_cons_of_mem _ (List.mem_append_left _ (weightsAll_mem (List.mem_map_of_mem (List.getElem_mem _)) m hm'))))
          rw [hcs] at h4 h5
          exact ⟨y, ⟨h7, h8⟩, c, h4, h6, h5⟩
        have hgood : len * ebOf C.ty u' ≤ 140737488351232 := by
          have := hw ((elems.length + rest.length) * P.bytesOf E) (by simp [DataW.weights, ht])
          rw [← hbytes] at this
          have h9 : len * ebOf C.ty u' ≤ (elems.length + rest.length) * ebOf C.ty u' := Nat.mul_le_mul_right _ (by omega)
          simp only [reachBytes] at this
          omega
        have hmax : len ≤ 9223372036854775807 := by unfold maxLen at hm; omega
        cases len with
        | zero => exact ⟨[], .nil _ _ _, ⟨by simp, by simp, fun y hy => by cases hy⟩, hB.pos _⟩
        | succ len =>
          obtain ⟨b, off, spot⟩ := a
          obtain ⟨_, _, c1, l1, _, hc1⟩ := each 0 (by omega)
          have h00 := hc1 0 hpos
          rw [List.getElem?_eq_getElem (by omega), Nat.zero_mul] at h00
          have hadd : ((⟨b, off, spot⟩ : Addr).add 0).add 0 = ⟨b, off, spot⟩ := rfl
          rw [hadd] at h00
          have hblk : spot = none ∧ ∃ c0 E f, w.heap[b]? = some (.cells c0 E f) := by
            unfold World.cell? at h00
            simp only at h00
            split at h00
            · rename_i q
              split at h00
              · cases h00
              · rename_i q2
                exact ⟨by cases spot <;> simp_all, _, _, _, q⟩
            · cases h00
          obtain ⟨rfl, c0, E0, f0, hheap⟩ := hblk
          have hM : memOf w b = some c0 := by simp [memOf, hheap]
          have hcell : ∀ m j, w.cell? (((⟨b, off, none⟩ : Addr).add m).add j) = c0[off + m + j]? := fun m j => by
            rw [add_mk, add_mk, cell_of hheap]
          have hseg : ∀ i (hi : i < len + 1), ∃ y : El C.S.U u', (good C fuel u' y ∧ bulk C fuel u' y ≤ B' (elems[i]'(by omega)).1) ∧ RepC C.S (memOf w) u' (seg c0 (off + i * sz C.S dep u') (sz C.S dep u')) y := fun i hi => by
            obtain ⟨y, g1, c, l, r, hc⟩ := each i hi
            refine ⟨y, g1, ?_⟩
            have : seg c0 (off + i * sz C.S dep u') (sz C.S dep u') = c := by
              apply List.ext_getElem?
              intro j
              unfold seg
              by_cases hj : j < sz C.S dep u'
              · rw [List.getElem?_take_of_lt hj, List.getElem?_drop, ← hc j hj, hcell]
                simp
              · rw [List.getElem?_eq_none (by rw [List.length_take]; omega), List.getElem?_eq_none (by omega)]
            rw [this]; exact r
          have hbound : off + (len + 1) * sz C.S dep u' ≤ c0.size := by
            obtain ⟨y, g1, c, l, r, hc⟩ := each len (by omega)
            have := hc (sz C.S dep u' - 1) (by omega)
            rw [hcell, List.getElem?_eq_getElem (by omega)] at this
            have := (Array.getElem?_eq_some_iff.1 this).1
            rw [Nat.add_mul, Nat.one_mul]
            omega
          have hlist : ∃ l : List (El C.S.U u'), ∃ hl : l.length = len + 1, ∀ i (hi : i < l.length), (good C fuel u' l[i] ∧ bulk C fuel u' l[i] ≤ B' (elems[i]'(by omega)).1) ∧ RepC C.S (memOf w) u' (seg c0 (off + i * sz C.S dep u') (sz C.S dep u')) l[i] := by
            refine ⟨List.ofFn (n := len + 1) fun i => (hseg i i.2).choose, by simp, fun i hi => ?_⟩
            rw [List.getElem_ofFn]
            exact (hseg i (by simpa using hi)).choose_spec
          obtain ⟨l, l1, l2⟩ := hlist
          have key := RepC.sl (S := C.S) (M := memOf w) u' b off cap c0 l hM (by omega) (by rw [l1]; exact hbound) (fun i hi => (l2 i hi).2)
          rw [l1] at key
          have hsum : ∀ (l : List (El C.S.U u')) (es : List (DataW H × List MemPlace)) (hl : l.length = es.length), (∀ i (hi : i < l.length), bulk C fuel u' l[i] ≤ B' (es[i]'(by omega)).1) → (l.map (bulk C fuel u')).sum ≤ ((es.map (·.1)).map B').sum := by
            intro l
            induction l with
            | nil => intro es _ _; simp
            | cons y l ihl =>
              intro es hl hk
              cases es with
              | nil => cases hl
              | cons e es =>
                have h0 := hk 0 (by simp)
                have h1 := ihl es (by simpa using hl) (fun i hi => by have := hk (i + 1) (by simpa using hi); simpa using this)
                simp only [List.map_cons, List.sum_cons]
                simp at h0
                omega
          refine ⟨l, key, ⟨by rw [l1]; exact hgood, by rw [l1]; exact hmax, fun y hy => ?_⟩, ?_⟩
          · obtain ⟨i, hi, rfl⟩ := List.getElem_of_mem hy
            exact (l2 i hi).1.1
          · have h1 := hsum l elems (by omega) (fun i hi => (l2 i hi).1.2)
            have h2 := hB.sum (elems.map (·.1))
            have h3 := hB.slice (elems.map (·.1)) (rest.map (·.1))
            show (l.map (bulk C fuel u')).sum + 1 ≤ B' (.slice (elems.map (·.1)) (rest.map (·.1)))
            omega
    | st n =>
      obtain ⟨fs, f1, f2, f3⟩ := B.T.st hT
      obtain ⟨xs, m, hfu, rfl, hl, hlen, hfs⟩ := DataW.trod_struct f1 hx
      cases hfu
      have hb : (match P.underlying T with | some (.struct fs) => fieldsT C fs.toList (C.S.fl n) | _ => false) = true := hb
      rw [f1] at hb
      have hb : fieldsT C fs.toList (C.S.fl n) = true := hb
      obtain ⟨D⟩ := B.T.data hT
      have hcs : P.cellsOf T = sz C.S dep (.st n) := by simp [Program.cellsOf, D.hi, D.hs]
      obtain ⟨h, h1, h2, h3⟩ := repH_of (M := memOf w) (good C fuel) (bulk C fuel) (C.S.fl n) cs (xs.map fun p => B' p.1) (by rw [hl, hcs, B.S.sz]) (fun i t ht => by
        obtain ⟨fd, q1, ⟨F⟩⟩ := f3 i t ht
        obtain ⟨eb', E', e⟩ := fieldsT_at hb (i := i) (f := fd) (t := t) (by simpa using q1) ht
        have q2 := hfs i fd q1
        have hi : i < fs.size := (Array.getElem?_eq_some_iff.1 q1).1
        rw [List.getElem?_eq_getElem (by omega)] at q2
        obtain ⟨y, y1, y2, y3⟩ := ih fd.type t eb' E' e _ _ q2 (fun m hm' => hw m (by
          simp only [DataW.weights, f1]
          exact weightsEach_mem i (t := fd.type) (by simp [q1]) (by simp [List.getElem?_eq_getElem (show i < xs.length by omega)]) m hm'))
        refine ⟨y, ?_, y2, _, by rw [List.getElem?_map, List.getElem?_eq_getElem (show i < xs.length by omega)]; rfl, y3⟩
        rw [F.off] at y1
        have : P.cellsOf fd.type = sz C.S dep t := by simp [Program.cellsOf, F.data.hi, F.data.hs]
        rw [this] at y1
        exact y1)
      refine ⟨C.S.bld n h, .st n cs _ (by rw [B.S.ob]; exact h1), by show goodL _ _ (C.S.out n (C.S.bld n h)); rw [B.S.ob]; exact h2, ?_⟩
      show bulkH (bulk C fuel) (C.S.fl n) (C.S.out n (C.S.bld n h)) + 1 ≤ B' (.agg (xs.map (·.1)))
      rw [B.S.ob]
      have k1 := hB.sum (xs.map (·.1))
      have k2 := hB.agg (xs.map (·.1))
      rw [List.map_map] at k1
      have k3 : (xs.map (B' ∘ (·.1))).sum = (xs.map fun p => B' p.1).sum := rfl
      omega

theorem good_step {d d' : Nat} {t : Ty} {y : El C.S.U t} (h : ∀ u (z : El C.S.U u), good C d u z → good C d' u z) (hg : good C (d + 1) t y) : good C (d' + 1) t y := by
  have hL : ∀ (ts : List Ty) (x : HL C.S.U ts), goodL (good C d) ts x → goodL (good C d') ts x := by
    intro ts
    induction ts with
    | nil => intro _ _; trivial
    | cons t ts ih =>
      intro x hx
      cases ts with
      | nil => exact h _ _ hx
      | cons u us => exact ⟨h _ _ hx.1, ih _ hx.2⟩
  cases t with
  | int k => exact hg
  | bool => exact hg
  | str => exact hg
  | sl t => exact ⟨hg.1, hg.2.1, fun y hy => h _ _ (hg.2.2 y hy)⟩
  | st n => exact hL _ _ hg

/-- How deep a type nests. -/
def nestB (S : Sg) : Nat → Ty → Bool
  | _, .int _ => true
  | _, .bool => true
  | _, .str => true
  | 0, _ => false
  | d + 1, .sl t => nestB S d t
  | d + 1, .st n => (S.fl n).all (nestB S d)

theorem good_nest : ∀ (m d : Nat) (t : Ty) (y : El C.S.U t), nestB C.S d t = true → good C m t y → good C d t y := by
  have leaf : ∀ (m d : Nat) (t : Ty) (y : El C.S.U t), t.flat = true → good C m t y → good C d t y := fun m d t y ht h => by
    cases t <;> first | (cases ht; done) | (cases m <;> cases d <;> exact h)
  intro m
  induction m with
  | zero =>
    intro d t y hn h
    cases t with
    | int k => exact leaf 0 d _ y rfl h
    | bool => exact leaf 0 d _ y rfl h
    | str => exact leaf 0 d _ y rfl h
    | sl t =>
      cases d with
      | zero => cases hn
      | succ d => exact ⟨h.1, h.2.1, fun z hz => (h.2.2 z hz).elim⟩
    | st n =>
      cases d with
      | zero => cases hn
      | succ d =>
        have hL : ∀ (ts : List Ty) (x : HL C.S.U ts), goodL (U := C.S.U) (fun _ _ => False) ts x → goodL (good C d) ts x := by
          intro ts
          induction ts with
          | nil => intro _ _; trivial
          | cons t ts ih =>
            intro x hx
            cases ts with
            | nil => exact False.elim hx
            | cons u us => exact False.elim hx.1
        exact hL _ _ h
  | succ m ih =>
    intro d t y hn h
    cases t with
    | int k => exact leaf _ d _ y rfl h
    | bool => exact leaf _ d _ y rfl h
    | str => exact leaf _ d _ y rfl h
    | sl t =>
      cases d with
      | zero => cases hn
      | succ d => exact ⟨h.1, h.2.1, fun z hz => ih d t z hn (h.2.2 z hz)⟩
    | st n =>
      cases d with
      | zero => cases hn
      | succ d =>
        have hL : ∀ (ts : List Ty) (x : HL C.S.U ts), ts.all (nestB C.S d) = true → goodL (good C m) ts x → goodL (good C d) ts x := by
          intro ts
          induction ts with
          | nil => intro _ _ _; trivial
          | cons t ts ihL =>
            intro x hn hx
            simp only [List.all_cons, Bool.and_eq_true] at hn
            cases ts with
            | nil => exact ih d _ _ hn.1 hx
            | cons u us => exact ⟨ih d _ _ hn.1 hx.1, ihL _ (by simpa using hn.2) hx.2⟩
        exact hL _ _ hn h

/-- An argument. -/
theorem opens_arg (B : Base P C) (ho : openB P C = true) {T : Nat} {t : Ty} {eb E : Nat} (hT : lkp T C.ty = some (.d t eb E)) {H : Type} {enc : TypeId × Value → H} {w : World} {base : Nat} {spare : Nat → Bool} {held : Bool} {v : Value} {x : DataW H} {p : List MemPlace}
    (hx : DataW.Trod enc P w base spare held T v x p) (hw : ∀ n ∈ DataW.weights P T x, n ≤ reachBytes) (hv : isAggV v = t.isSt) (d : Nat) (hd : nestB C.S d t = true) : ∃ y : El C.S.U t, RepV C.S (memOf w) t v y ∧ good C d t y := by
  obtain ⟨fuel, hf⟩ := hx
  obtain ⟨y, h1, h2, _⟩ := opens B ho (bulkB_W H) enc w base spare held fuel T t eb E hT _ _ hf hw
  refine ⟨y, RepV.of_cells h1 ?_, good_nest fuel d t y hd h2⟩
  rw [← hv]
  cases v <;> simp [isAggV]

/-- An argument of whatever depth, and how much it holds. -/
theorem opens_argB (B : Base P C) (ho : openB P C = true) {T : Nat} {t : Ty} {eb E : Nat} (hT : lkp T C.ty = some (.d t eb E)) {H : Type} {enc : TypeId × Value → H} {w : World} {base : Nat} {spare : Nat → Bool} {held : Bool} {v : Value} {x : DataW H} {p : List MemPlace}
    {B' : DataW H → Nat} {BA : List (DataW H) → Nat} (hB : BulkB B' BA) (hx : DataW.Trod enc P w base spare held T v x p) (hw : ∀ n ∈ DataW.weights P T x, n ≤ reachBytes) (hv : isAggV v = t.isSt) : ∃ y : El C.S.U t, RepV C.S (memOf w) t v y ∧ ∃ d, good C d t y ∧ bulk C d t y ≤ B' x := by
  obtain ⟨fuel, hf⟩ := hx
  obtain ⟨y, h1, h2, h3⟩ := opens B ho hB enc w base spare held fuel T t eb E hT _ _ hf hw
  refine ⟨y, RepV.of_cells h1 ?_, fuel, h2, h3⟩
  rw [← hv]
  cases v <;> simp [isAggV]

/-- A law's call. -/
theorem law_calls {f : Nat} {fn : Func} (hf : P.funcs[f]? = some fn) (hn : (fn.name == "runtime.NumGoroutine") = false) (hb : fn.body.isSome = true) {vals : Array Value} {w : World} {Post : Value → World → Prop} (h : CallOk P f vals w Post) :
    Calls P f vals w fun e w' => ∃ v, e = .returned v ∧ Post v w' := by
  have hb' : fn.body.isNone = false := by cases hq : fn.body <;> simp_all
  have run : (callFunc f vals).run P w = .ok (.enter f vals) w := by
    simp only [callFunc, Sem.run_bind, run_program, Result.andThen_ok, hf, hn, hb', Bool.false_eq_true, if_false, Sem.run_pure]
  have := h { dst := some 0, op := .move (.const undef), type := 0, pos := "", after := #[], guard := none } { tmps := #[undef], defers := [] } (fun a w' => Post (a.tmps.getD 0 undef) w') (fun _ _ _ => False) (fun v w' hp => hp)
  rw [run, Oper.upon_enter] at this
  refine this.mono fun e w' he => ?_
  cases e with
  | returned v => exact ⟨v, rfl, he⟩
  | panicked c => exact he.elim
  | outgrown => obtain ⟨_, _, q⟩ := he; exact q.elim

inductive ArgsV (S : Sg) (M : Mm) : List Value → List PM → List (AV S.U) → Prop
  | nil : ArgsV S M [] [] []
  | cons {v : Value} {t : Ty} {y : El S.U t} {vs : List Value} {pm : List PM} {as : List (AV S.U)} (h : RepV S M t v y) (r : ArgsV S M vs pm as) : ArgsV S M (v :: vs) (.d t :: pm) (.l (.v t y) :: as)

theorem ArgsV.all {S : Sg} {g : Gh} {m : Nat → Nat → Option (Obj' S.U)} {cnt : Nat → Nat} : ∀ {vs : List Value} {pm : List PM} {as : List (AV S.U)}, ArgsV S g.M vs pm as → All2 (RepA g m cnt) vs as
  | _, _, _, .nil => .nil
  | _, _, _, .cons h r => .cons h r.all

/-- Did it answer true? -/
def isTrue {U : Nat → Type} : AV U → St U → Option Unit
  | .l (.v .bool true), _ => some ()
  | _, _ => none

theorem cell_lt {w : World} {k : Nat} {v : Value} (h : w.cell? ⟨k, 0, none⟩ = some v) : k < w.heap.size := by
  unfold World.cell? at h
  cases e : w.heap[k]? with
  | none => simp [e] at h
  | some o => exact (Array.getElem?_eq_some_iff.1 e).1

theorem cells_cell {w : World} {k i : Nat} {v : Value} (h : (cellsIn w.heap[k]?)[i]? = some v) : w.cell? ⟨k, i, none⟩ = some v := by
  unfold cellsIn at h
  unfold World.cell?
  split at h
  · rename_i e; simp only [e]; exact h
  · simp at h
theorem cell_cells {w : World} {k i : Nat} {v : Value} (h : w.cell? ⟨k, i, none⟩ = some v) : k < w.heap.size ∧ (cellsIn w.heap[k]?)[i]? = some v := by
  unfold World.cell? at h
  split at h
  · rename_i e
    have e : w.heap[k]? = some (.cells _ _ _) := e
    refine ⟨(Array.getElem?_eq_some_iff.1 e).1, ?_⟩
    rw [e]; exact h
  · cases h
theorem var_of {P : Program} {w : World} {name : String} {k : Nat} {cs : Array Value} (hg : P.globalNamed name = some k) (h : cellsIn w.heap[k]? = cs) (h0 : cs.isEmpty = false) : w.var? P name = some cs := by
  unfold World.var?
  rw [hg]
  unfold cellsIn at h
  simp only [Option.bind_some]
  split at h
  · rename_i e; rw [e]; simp only [h]
  · subst h; cases h0
theorem of_var {P : Program} {w : World} {name : String} {k : Nat} {cs : Array Value} (hg : P.globalNamed name = some k) (h : w.var? P name = some cs) : k < w.heap.size ∧ cellsIn w.heap[k]? = cs := by
  unfold World.var? at h
  rw [hg] at h
  simp only [Option.bind_some] at h
  split at h
  · rename_i e
    exact ⟨(Array.getElem?_eq_some_iff.1 e).1, by rw [e]; exact Option.some.inj h⟩
  · cases h

/-- The cells of what is laid. -/
def cellD1 : DataW Unit → List Value
  | .lit (.int k n) => [.int k n]
  | .lit (.bool b) => [.bool b]
  | .lit (.string l) => [.string ⟨l.toArray⟩]
  | _ => []
def cellD2 : DataW Unit → List Value
  | .agg l => (l.map cellD1).flatten
  | d => cellD1 d
def cellsD : DataW Unit → List Value
  | .agg l => (l.map cellD2).flatten
  | d => cellD1 d
/-- The block of a variable, laid anew. -/
def layBlock (h : Array Obj) (k : Nat) (d : DataW Unit) : Array Obj := h.modify k fun
  | .cells _ t fr => .cells (cellsD d).toArray t fr
  | o => o

def litV : DataW Unit → Value
  | .lit (.string l) => .string ⟨l.toArray⟩
  | .lit (.int k n) => .int k n
  | .lit (.bool b) => .bool b
  | _ => undef
/-- A variable that is a slice, laid anew: its elements lie behind all that is there. -/
def layStrs (h : Array Obj) (k : Nat) (E : TypeId) : DataW Unit → Array Obj
  | .slice l _ => (h.modify k fun
    | .cells _ t fr => .cells #[.slice (some ⟨h.size, 0, none⟩) l.length l.length] t fr
    | o => o).push (.cells (l.map litV).toArray E (0, 0))
  | _ => h

/-- A variable that is an error of its own, laid anew: what it points to lies behind all that is there. -/
def layErr (h : Array Obj) (k : Nat) (tp te : TypeId) : DataW Unit → Array Obj
  | .iface _ (.ptr (.agg [.lit (.string s)])) => (h.modify k fun
    | .cells _ t fr => .cells #[.iface tp (.pointer (some ⟨h.size, 0, none⟩))] t fr
    | o => o).push (.cells #[.string ⟨s.toArray⟩] te (0, 0))
  | _ => h

/-- A slice of strings that reads so. -/
theorem strs_of_trod {S : Sg} {H : Type} {enc : TypeId × Value → H} {w : World} {base : Nat} {spare : Nat → Bool} {held : Bool} {fuel : Nat} {T E : TypeId} {cs : List Value} {x : DataW H × List MemPlace} (ht : P.underlying T = some (.slice E)) (hE : P.underlying E = some .string) (hc : P.cellsOf E = 1)
    (hx : DataW.trod enc P w base spare held fuel T cs = some x) (l : List (List UInt8)) (rs : List (DataW H)) (he : x.1 = .slice (l.map fun s => .lit (.string s)) rs) : RepC S (memOf w) (.sl .str) cs (l.map fun s => ⟨s.toArray⟩) := by
  rcases DataW.trod_slice ht hx with ⟨rfl, hq⟩ | ⟨a, len, cap, elems, rest, n, hfu, rfl, rfl, hba, hl, hm, hlen, hel, _, _⟩
  · rw [hq] at he; cases he
  · have he : DataW.slice (elems.map (·.1)) (rest.map (·.1)) = .slice (l.map fun s => .lit (.string s)) rs := he
    have he := (DataW.slice.inj he).1
    have hll : len = l.length := by
      have := congrArg List.length he
      simp only [List.length_map] at this
      omega
    subst hll
    have each : ∀ i (hi : i < l.length), w.cell? (a.add i) = some (.string ⟨l[i].toArray⟩) := fun i hi => by
      have h1 := hel i hi
      rw [List.getElem?_eq_getElem (by omega)] at h1
      obtain ⟨c, h2, h3⟩ := Option.bind_eq_some_iff.1 h1
      obtain ⟨_, h4, h5⟩ := World.cells?_some h2
      obtain ⟨s, rfl, hs, _⟩ := DataW.trod_string hE h3
      rw [hc] at h5
      have h6 := h5 0 (by omega)
      rw [Nat.mul_one] at h6
      have h7 : w.cell? (a.add i) = some (.string s) := h6
      have h8 : (elems.map (·.1))[i]? = (l.map fun s => (DataW.lit (.string s) : DataW H))[i]? := by rw [he]
      rw [List.getElem?_map, List.getElem?_map, List.getElem?_eq_getElem hi, List.getElem?_eq_getElem (show i < elems.length by omega)] at h8
      have h9 : (elems[i]'(by omega)).1 = DataW.lit (.string l[i]) := by simpa using h8
      rw [hs] at h9
      have h10 : s.data.toList = l[i] := by
        have := DataW.lit.inj h9
        exact Lit.string.inj this
      rw [h7, ← h10]
    cases hl0 : l with
    | nil => exact .nil _ _ _
    | cons s0 r =>
      have hpos : 0 < l.length := by rw [hl0]; simp
      obtain ⟨b, off, spot⟩ := a
      have h00 := each 0 hpos
      have hadd : ((⟨b, off, spot⟩ : Addr).add 0) = ⟨b, off, spot⟩ := rfl
      rw [hadd] at h00
      have hblk : spot = none ∧ ∃ c0 E f, w.heap[b]? = some (.cells c0 E f) := by
        unfold World.cell? at h00
        simp only at h00
        split at h00
        · rename_i q
          split at h00
          · cases h00
          · rename_i q2
            exact ⟨by cases spot <;> simp_all, _, _, _, q⟩
        · cases h00
      obtain ⟨rfl, c0, E0, f0, hheap⟩ := hblk
      have hM : memOf w b = some c0 := by simp [memOf, hheap]
      have hcell : ∀ i (hi : i < l.length), c0[off + i]? = some (.string ⟨l[i].toArray⟩) := fun i hi => by
        have := each i hi
        rw [add_mk, cell_of hheap] at this
        exact this
      have e1 : sz S dep .str = 1 := rfl
      have key := RepC.sl (S := S) (M := memOf w) .str b off cap c0 (l.map fun s => (⟨s.toArray⟩ : ByteArray)) hM (by rw [List.length_map]; omega) (by
        rw [e1, Nat.mul_one, List.length_map]
        have := hcell (l.length - 1) (by omega)
        have := (Array.getElem?_eq_some_iff.1 this).1
        omega) (fun i hi => by
        rw [List.length_map] at hi
        have : seg c0 (off + i * sz S dep .str) (sz S dep .str) = [.string (l.map fun s => (⟨s.toArray⟩ : ByteArray))[i]] := by
          rw [e1, Nat.mul_one]
          unfold seg
          have := hcell i hi
          rw [← Array.getElem?_toList] at this
          obtain ⟨h1, h2⟩ := List.getElem?_eq_some_iff.1 this
          rw [List.drop_eq_getElem_cons h1, h2]
          simp
        rw [this]
        exact .str _)
      rw [List.length_map] at key
      rw [← hl0]
      exact key
theorem strs_laid {S : Sg} {w : World} {name : String} {rest : List (String × DataW Unit)} {g : Nat} {T E : TypeId} {l : List (List UInt8)} (hg : P.globalNamed name = some g) (hty : (P.globals[g]?).map (·.type) = some T) (ht : P.underlying T = some (.slice E)) (hE : P.underlying E = some .string) (hc : P.cellsOf E = 1)
    (h : laidMet P ((name, .slice (l.map fun s => .lit (.string s)) []) :: rest) w) : ∃ cs, memOf w g = some cs ∧ sz S dep (.sl .str) ≤ cs.size ∧ RepC S (memOf w) (.sl .str) (seg cs 0 (sz S dep (.sl .str))) (l.map fun s => ⟨s.toArray⟩) := by
  obtain ⟨ps, ⟨g', t', cs, fuel, p, q, hg', ht', hvar, hd, _, _⟩, _⟩ := h
  obtain rfl := Option.some.inj (hg.symm.trans hg')
  obtain rfl := Option.some.inj (hty.symm.trans ht')
  have r := strs_of_trod (S := S) ht hE hc hd l _ rfl
  have hl : cs.toList.length = 1 := by
    generalize hq : (l.map fun s => (⟨s.toArray⟩ : ByteArray)) = y at r
    generalize cs.toList = z at r
    cases r <;> rfl
  have e1 : sz S dep (.sl .str) = 1 := rfl
  have hmem : memOf w g = some cs := by
    unfold World.var? at hvar
    rw [hg] at hvar
    simp only [Option.bind_some] at hvar
    unfold memOf
    split at hvar
    · rename_i e; rw [e]; exact hvar
    · cases hvar
  refine ⟨cs, hmem, by rw [e1]; rw [Array.length_toList] at hl; omega, ?_⟩
  have : seg cs 0 (sz S dep (.sl .str)) = cs.toList := by
    rw [e1]
    unfold seg
    simp only [List.drop_zero]
    exact List.take_of_length_le (by omega)
  rw [this]
  exact r

/-- A law answers true, and leaves what was there as it was. -/
theorem law_holds {f : Nat} {fn : Func} (hf : P.funcs[f]? = some fn) (hn : (fn.name == "runtime.NumGoroutine") = false) (hb : fn.body.isSome = true) {e : Entry C.S} (he : e.Sound P C f) {w : World} {vals : List Value} {pm : List PM} {args : List (AV C.S.U)} (ha : ArgsV C.S (memOf w) vals pm args) (hG : ∀ k ∈ C.S.gl, k < w.heap.size ∧ C.S.gp k (cellsIn w.heap[k]?)) (hV : ∀ k t x, C.S.gv k = some ⟨t, x⟩ → ∃ cs, memOf w k = some cs ∧ sz C.S dep t ≤ cs.size ∧ RepC C.S (memOf w) t (seg cs 0 (sz C.S dep t)) x)
    (hrun : e.run args (empty C.S.U) isTrue = some ()) : Calls P f vals.toArray w fun e w' => e = .returned (.bool true) ∧ Below w.heap.size w w' := by
  let cc : Call := { N := ⟨0, [], []⟩, pv := fun _ => undef, gv := fun _ => none, base := w.heap.size, X := fun _ => False, w0 := w, M0 := memOf w }
  let g : Gh := { M := memOf w, β := fun _ _ => none, γ := fun _ _ => 0, τ := fun _ _ => false }
  have hr : Rel cc (empty C.S.U) { tmps := #[], defers := [] } w g :=
    { agree := fun b cs q => by
        have q : memOf w b = some cs := q
        unfold memOf at q
        split at q
        · rename_i e; cases q; exact ⟨_, _, e⟩
        · cases q
      slots := fun _ => trivial, objs := fun _ _ _ q => (nomatch q), own := fun _ _ _ _ q => (nomatch q), apart := fun _ _ _ _ _ _ _ q => (nomatch q), fresh := fun _ _ _ => rfl, size := rfl, defers := rfl, pin := fun _ q => (nomatch q), gpin := fun _ q => (nomatch q), glob := ⟨fun k hk => ⟨(hG k hk).1, fun q => q, (hG k hk).2⟩, hV⟩, keep := Keep.refl w.heap.size (fun _ => False) w, ge := Nat.le_refl _, m0 := Mle.refl (memOf w), mb := fun _ _ q => .inl q }
  refine (law_calls hf hn hb (he.call Unit args (empty C.S.U) _ () hrun cc _ w g vals hr ha.all)).mono fun e w' h => ?_
  obtain ⟨v, rfl, z, st', g', h1, h2, h3, _⟩ := h
  unfold isTrue at h1
  split at h1
  · have h3 : RepV C.S g'.M .bool v true := h3
    have : v = .bool true := by rcases h3 with ⟨q, _⟩ | ⟨_, q⟩
                                · cases q
                                · cases q; rfl
    subst this
    exact ⟨rfl, h2.keep.os, h2.keep.tape, h2.keep.output, h2.keep.size, fun k hk => h2.keep.block k hk (fun q => q)⟩
  · cases h1
end
end Go.Proofs.YthmedjljckbidaaDoor.Lift
