/- How what is known stands when the machine's memory, frame or objects turn. Conditions: as each theorem states them. -/
import Derived.Test.YthmedjljckbidaaDoorLiftB
set_option linter.unusedVariables false
namespace Go.Proofs.YthmedjljckbidaaDoor.Lift
section
variable {S : Sg}

theorem All2.length {α β : Type} {R : α → β → Prop} {l : List α} {k : List β} (h : All2 R l k) : l.length = k.length := by
  induction h with
  | nil => rfl
  | cons _ _ ih => simp [ih]
theorem All2.append {α β : Type} {R : α → β → Prop} {l l' : List α} {k k' : List β} (h : All2 R l k) (h' : All2 R l' k') : All2 R (l ++ l') (k ++ k') := by
  induction h with
  | nil => exact h'
  | cons a _ ih => exact .cons a ih
theorem All2.drop {α β : Type} {R : α → β → Prop} {l : List α} {k : List β} (h : All2 R l k) : ∀ n, All2 R (l.drop n) (k.drop n) := by
  induction h with
  | nil => intro n; simp; exact .nil
  | cons a t ih =>
    intro n
    cases n with
    | zero => exact .cons a t
    | succ n => exact ih n
theorem All2.take {α β : Type} {R : α → β → Prop} {l : List α} {k : List β} (h : All2 R l k) : ∀ n, All2 R (l.take n) (k.take n) := by
  induction h with
  | nil => intro n; simp; exact .nil
  | cons a t ih =>
    intro n
    cases n with
    | zero => exact .nil
    | succ n => exact .cons a (ih n)
theorem All2.get {α β : Type} {R : α → β → Prop} {l : List α} {k : List β} (h : All2 R l k) : ∀ (n : Nat) (y : β), k[n]? = some y → ∃ x, l[n]? = some x ∧ R x y := by
  induction h with
  | nil => intro n y e; simp at e
  | cons a t ih =>
    intro n y e
    cases n with
    | zero => simp at e; subst e; exact ⟨_, rfl, a⟩
    | succ n => simpa using ih n y (by simpa using e)
theorem All2.split {α β : Type} {R : α → β → Prop} {k k' : List β} : ∀ {l : List α}, All2 R l (k ++ k') → ∃ x y, l = x ++ y ∧ All2 R x k ∧ All2 R y k' := by
  induction k with
  | nil => exact fun h => ⟨[], _, rfl, .nil, h⟩
  | cons b k ih =>
    intro l h
    cases h with
    | cons a t =>
      obtain ⟨x, y, e, p, q⟩ := ih t
      exact ⟨_ :: x, y, by rw [e]; rfl, .cons a p, q⟩

theorem upd_same {α : Type} (f : Nat → α) (k : Nat) (v : α) : upd f k v k = v := by simp [upd]
theorem upd_other {α : Type} (f : Nat → α) (k : Nat) (v : α) {n : Nat} (h : n ≠ k) : upd f k v n = f n := by
  have : Nat.beq n k = false := by simpa [← Nat.beq_eq] using h
  simp [upd, this]
theorem upd2_same {α : Type} (f : Nat → Nat → α) (k l : Nat) (v : α) : upd2 f k l v k l = v := by simp [upd2]
theorem upd2_other {α : Type} (f : Nat → Nat → α) (k l : Nat) (v : α) {n m : Nat} (h : ¬ (n = k ∧ m = l)) : upd2 f k l v n m = f n m := by
  unfold upd2
  by_cases e : n = k
  · have : Nat.beq m l = false := by have : m ≠ l := fun e' => h ⟨e, e'⟩; simpa [← Nat.beq_eq] using this
    simp [this]
  · have : Nat.beq n k = false := by simpa [← Nat.beq_eq] using e
    simp [this]
theorem upd2_cases {α : Type} (f : Nat → Nat → α) (k l : Nat) (v : α) (n m : Nat) : (n = k ∧ m = l ∧ upd2 f k l v n m = v) ∨ (¬ (n = k ∧ m = l) ∧ upd2 f k l v n m = f n m) := by
  by_cases h : n = k ∧ m = l
  · exact .inl ⟨h.1, h.2, by rw [h.1, h.2, upd2_same]⟩
  · exact .inr ⟨h, upd2_other f k l v h⟩
theorem upd_cases {α : Type} (f : Nat → α) (k : Nat) (v : α) (n : Nat) : (n = k ∧ upd f k v n = v) ∨ (n ≠ k ∧ upd f k v n = f n) := by
  by_cases h : n = k
  · exact .inl ⟨h, by rw [h, upd_same]⟩
  · exact .inr ⟨h, upd_other f k v h⟩

theorem put_getD (a : Act) (d : Nat) (v : Value) (k : Nat) (hd : d < a.tmps.size) : (a.put (some d) v).tmps.getD k undef = if k = d then v else a.tmps.getD k undef := by
  simp only [Act.put]
  by_cases h : k = d
  · subst h; simp [hd]
  · rw [if_neg h]
    simp only [Array.getD_eq_getD_getElem?]
    rw [Array.getElem?_setIfInBounds_ne (fun e => h e.symm)]

theorem RepO.mono {g g' : Gh} {m m' : Nat → Nat → Option (Obj' S.U)} {c c' : Nat → Nat} {w w' : World} (hg : Ext g g' c) (hm : Memle m m' c) (hc : ∀ d, c d ≤ c' d) {d j : Nat} (hj : j ≤ c d)
    {o : Obj' S.U} (hw : o.mut = true → ∀ b, g.β d j = some b → w'.heap[b]? = w.heap[b]?) (h : RepO g m c w d j o) : RepO g' m' c' w' d j o := by
  cases o with
  | box cs =>
    obtain ⟨b, E, vs, h1, h2, h3, h4⟩ := h
    exact ⟨b, E, vs, (hg.β d j hj).trans h1, (hw rfl b h1).trans h2, h3.imp (fun u x => RepL.mono hg hm hc u x), h4⟩
  | row E t xs =>
    rcases h with ⟨h1, h2⟩ | ⟨b, vs, h1, h2, h3, h4, h5, h6, h7⟩
    · exact .inl ⟨(hg.β d j hj).trans h1, h2⟩
    · exact .inr ⟨b, vs, (hg.β d j hj).trans h1, (hw rfl b h1).trans h2, by rw [hg.γ d j hj]; exact h3, by rw [hg.γ d j hj]; exact h4, by rw [hg.γ d j hj]; exact h5, h6.mono hg.M, h7⟩
  | srow t xs =>
    rcases h with ⟨h1, h2⟩ | ⟨b, vs, h1, h2, h3, h4⟩
    · exact .inl ⟨(hg.β d j hj).trans h1, h2⟩
    · exact .inr ⟨b, vs, (hg.β d j hj).trans h1, hg.M _ _ h2, by rw [hg.γ d j hj]; exact h3, h4.mono hg.M⟩
  | it s p =>
    obtain ⟨h0, b, h1, h2⟩ := h
    exact ⟨h0, b, (hg.β d j hj).trans h1, (hw rfl b h1).trans h2⟩
  | bld T y =>
    obtain ⟨b, p, v, h1, h2, h3, h4⟩ := h
    exact ⟨b, p, v, (hg.β d j hj).trans h1, (hw rfl b h1).trans h2, h3, RepL.mono hg hm hc v y h4⟩
  | map kt vt ks vs =>
    obtain ⟨b, es, clock, h1, h2, h3, h4⟩ := h
    exact ⟨b, es, clock, (hg.β d j hj).trans h1, (hw rfl b h1).trans h2, h3.imp (fun _ _ x => RepV.mono hg.M x), h4.imp (fun _ _ x => RepV.mono hg.M x)⟩

variable {c : Call} {st : St S.U} {a : Act} {w : World} {g : Gh}

theorem Rel.live (h : Rel c st a w g) {d j : Nat} {o : Obj' S.U} (e : st.mem d j = some o) : j ≤ st.cnt d := by
  rcases Nat.lt_or_ge (st.cnt d) j with k | k
  · rw [h.fresh d j k] at e; cases e
  · exact k

/-- What the package variables hold. -/
theorem Rel.globW (h : Rel c st a w g) : ∀ k ∈ S.gl, k < w.heap.size ∧ S.gp k (cellsIn w.heap[k]?) := fun k hk => by
  obtain ⟨h1, h2, h3⟩ := h.glob.1 k hk
  refine ⟨Nat.lt_of_lt_of_le h1 h.ge, ?_⟩
  rw [h.keep.block k h1 h2]
  exact h3

/-- A mutable object's block is there. -/
theorem RepO.lt {m : Nat → Nat → Option (Obj' S.U)} {cnt : Nat → Nat} {d j : Nat} {o : Obj' S.U} (h : RepO g m cnt w d j o) (hm : o.mut = true) {b : Nat} (hb : g.β d j = some b) : b < w.heap.size := by
  cases o with
  | box cs => obtain ⟨b', E, vs, h1, h2, _⟩ := h; rw [hb] at h1; cases h1; exact (Array.getElem?_eq_some_iff.1 h2).1
  | row E t xs =>
    rcases h with ⟨h1, _⟩ | ⟨b', vs, h1, h2, _⟩
    · rw [hb] at h1; cases h1
    · rw [hb] at h1; cases h1; exact (Array.getElem?_eq_some_iff.1 h2).1
  | srow t xs => cases hm
  | it s p => obtain ⟨_, b', h1, h2⟩ := h; rw [hb] at h1; cases h1; exact (Array.getElem?_eq_some_iff.1 h2).1
  | bld T y => obtain ⟨b', _, _, h1, h2, _⟩ := h; rw [hb] at h1; cases h1; exact (Array.getElem?_eq_some_iff.1 h2).1
  | map kt vt ks vs => obtain ⟨b', _, _, h1, h2, _⟩ := h; rw [hb] at h1; cases h1; exact (Array.getElem?_eq_some_iff.1 h2).1

theorem Keep.refl (B : Nat) (X : Nat → Prop) (w : World) : Keep B X w w := ⟨rfl, rfl, rfl, Nat.le_refl _, fun _ _ _ => rfl⟩
theorem Keep.trans {B : Nat} {X : Nat → Prop} {w w' w'' : World} (h : Keep B X w w') (k : Keep B X w' w'') : Keep B X w w'' :=
  ⟨k.os.trans h.os, k.tape.trans h.tape, k.output.trans h.output, Nat.le_trans h.size k.size, fun i hi hx => (k.block i hi hx).trans (h.block i hi hx)⟩

/-- Only new blocks have come. -/
structure Grow (w w' : World) : Prop where
  os : w'.os = w.os
  tape : w'.tape = w.tape
  output : w'.output = w.output
  size : w.heap.size ≤ w'.heap.size
  block : ∀ k, k < w.heap.size → w'.heap[k]? = w.heap[k]?
theorem Grow.refl (w : World) : Grow w w := ⟨rfl, rfl, rfl, Nat.le_refl _, fun _ _ => rfl⟩
theorem Grow.trans {w w' w'' : World} (h : Grow w w') (k : Grow w' w'') : Grow w w'' :=
  ⟨k.os.trans h.os, k.tape.trans h.tape, k.output.trans h.output, Nat.le_trans h.size k.size, fun i hi => (k.block i (Nat.lt_of_lt_of_le hi h.size)).trans (h.block i hi)⟩
theorem Grow.alloc (w : World) (o : Obj) : Grow w (w.alloc o) :=
  ⟨rfl, rfl, rfl, by simp, fun k hk => by show (w.heap.push o)[k]? = _; rw [Array.getElem?_push, if_neg (by omega)]⟩
theorem Grow.drew (w : World) : Grow w w.drew := ⟨rfl, rfl, rfl, Nat.le_refl _, fun _ _ => rfl⟩
theorem Grow.below {w w' : World} (h : Grow w w') : Go.RowKit.Below w.heap.size w w' := ⟨h.os, h.tape, h.output, h.size, h.block⟩
theorem Grow.of_below {w w' : World} (h : Go.RowKit.Below w.heap.size w w') : Grow w w' := ⟨h.os, h.tape, h.output, h.size, h.block⟩
theorem Keep.grow {B : Nat} {X : Nat → Prop} {w0 w w' : World} (h : Keep B X w0 w) (hB : B ≤ w.heap.size) (k : Grow w w') : Keep B X w0 w' :=
  h.trans ⟨k.os, k.tape, k.output, k.size, fun i hi _ => k.block i (Nat.lt_of_lt_of_le hi hB)⟩

theorem lt_of_heap {w : World} {b : Nat} {o : Obj} (h : w.heap[b]? = some o) : b < w.heap.size := (Array.getElem?_eq_some_iff.1 h).1

/-- New blocks turn nothing that is known. -/
theorem Rel.world (h : Rel c st a w g) {w' : World} (k : Grow w w') : Rel c st a w' g where
  agree b cs e := by obtain ⟨E, f, q⟩ := h.agree b cs e; exact ⟨E, f, (k.block b (lt_of_heap q)).trans q⟩
  slots := h.slots
  objs d j o e := RepO.mono (Ext.refl g st.cnt) (Memle.refl _ _) (fun _ => Nat.le_refl _) (h.live e) (fun hm b hb => k.block b ((h.objs d j o e).lt hm hb)) (h.objs d j o e)
  own := h.own
  apart := h.apart
  fresh := h.fresh
  size := h.size
  defers := h.defers
  pin := h.pin
  gpin := h.gpin
  glob := h.glob
  keep := h.keep.grow h.ge k
  ge := Nat.le_trans h.ge k.size
  m0 := h.m0
  mb := h.mb

/-- New memory that will not turn. -/
theorem Rel.learn (h : Rel c st a w g) {M' : Mm} (hM : Mle g.M M') (ha : ∀ b cs, M' b = some cs → ∃ E f, w.heap[b]? = some (.cells cs E f))
    (ho : ∀ d j o b, st.mem d j = some o → o.mut = true → g.β d j = some b → M' b = none) (hb : ∀ b cs, M' b = some cs → g.M b = some cs ∨ c.base ≤ b ∨ c.X b) : Rel c st a w { g with M := M' } :=
  have hg : Ext g { g with M := M' } st.cnt := ⟨hM, fun _ _ _ => rfl, fun _ _ _ => rfl, fun _ _ _ => rfl⟩
  { agree := ha
    slots := fun k => (h.slots k).mono hg (Memle.refl _ _) (fun _ => Nat.le_refl _)
    objs := fun d j o e => RepO.mono hg (Memle.refl _ _) (fun _ => Nat.le_refl _) (h.live e) (fun _ _ _ => rfl) (h.objs d j o e)
    own := fun d j o b e m hb => ⟨ho d j o b e m hb, (h.own d j o b e m hb).2⟩
    apart := h.apart
    fresh := h.fresh
    size := h.size
    defers := h.defers
    pin := h.pin
    gpin := h.gpin
    glob := h.glob
    keep := h.keep
    ge := h.ge
    m0 := h.m0.trans hM
    mb := fun b cs e => (hb b cs e).elim (h.mb b cs) .inr }

/-- A value in its slot. -/
theorem Rel.slot (h : Rel c st a w g) {d : Nat} (hd : d < c.N.n) (hp : d ∉ c.N.p) {v : Value} {x : AV S.U} (hx : RepA g st.mem st.cnt v x) : Rel c { st with sl := upd st.sl d x } (a.put (some d) v) w g :=
  { h with
    slots := fun k => by
      rw [put_getD a d v k (by rw [h.size]; exact hd)]
      rcases upd_cases st.sl d x k with ⟨e, r⟩ | ⟨e, r⟩
      · rw [if_pos e]; show RepA g st.mem st.cnt v (upd st.sl d x k); rw [r]; exact hx
      · rw [if_neg e]; show RepA g st.mem st.cnt _ (upd st.sl d x k); rw [r]; exact h.slots k
    size := by simp [Act.put, h.size]
    defers := h.defers
    pin := fun i hi => by
      rw [put_getD a d v i (by rw [h.size]; exact hd), if_neg (fun e : i = d => hp (e ▸ hi))]
      exact h.pin i hi }

/-- A new mark. -/
theorem Rel.tag (h : Rel c st a w g) (d : Nat) (b : Bool) : Rel c { st with cnt := upd st.cnt d (st.cnt d + 1) } a w { g with τ := fun e j => if e = d ∧ j = st.cnt d + 1 then b else g.τ e j } ∧
    Ext g { g with τ := fun e j => if e = d ∧ j = st.cnt d + 1 then b else g.τ e j } st.cnt := by
  have hg : Ext g { g with τ := fun e j => if e = d ∧ j = st.cnt d + 1 then b else g.τ e j } st.cnt := ⟨Mle.refl _, fun _ _ _ => rfl, fun _ _ _ => rfl, fun e j hj => by
    show (if e = d ∧ j = st.cnt d + 1 then b else g.τ e j) = g.τ e j
    rw [if_neg]; rintro ⟨rfl, rfl⟩; omega⟩
  have hc : ∀ e, st.cnt e ≤ upd st.cnt d (st.cnt d + 1) e := fun e => by
    rcases upd_cases st.cnt d (st.cnt d + 1) e with ⟨p, r⟩ | ⟨p, r⟩ <;> rw [r]
    · rw [p]; omega
    · exact Nat.le_refl _
  refine ⟨{ agree := h.agree, slots := fun k => (h.slots k).mono hg (Memle.refl _ _) hc, objs := fun d j o e => RepO.mono hg (Memle.refl _ _) hc (h.live e) (fun _ _ _ => rfl) (h.objs d j o e), own := h.own, apart := h.apart, fresh := fun e j hj => h.fresh e j (Nat.lt_of_le_of_lt (hc e) hj), size := h.size, defers := h.defers, pin := h.pin, gpin := h.gpin.mono hg hc, glob := h.glob, keep := h.keep, ge := h.ge, m0 := h.m0, mb := h.mb }, hg⟩

/-- A row is shared from here on. -/
theorem Rel.share (h : Rel c st a w g) {d j E : Nat} {t : Ty} {xs : List (El S.U t)} (e : st.mem d j = some (.row E t xs)) :
    ∃ g', Rel c { st with mem := upd2 st.mem d j (some (.srow t xs)) } a w g' ∧ Ext g g' st.cnt ∧ g'.β = g.β ∧ g'.γ = g.γ ∧ g'.τ = g.τ := by
  have hj := h.live e
  have hrow := h.objs d j _ e
  have hm : Memle st.mem (upd2 st.mem d j (some (.srow t xs))) st.cnt := fun d' j' hj' => by
    rcases upd2_cases st.mem d j (some (.srow t xs)) d' j' with ⟨p, q, r⟩ | ⟨p, r⟩
    · subst p; subst q
      refine ⟨fun n hn => ?_, fun u hu => ?_⟩
      · unfold rowOf at hn; rw [r] at hn
        rcases hn with ⟨_, _, _, q, _⟩ | ⟨u, ys, q, l⟩
        · cases q
        · cases q; exact .inl ⟨E, t, xs, e, l⟩
      · unfold rowSz at hu; rw [r] at hu
        rcases hu with ⟨_, _, q⟩ | ⟨ys, q⟩
        · cases q
        · cases q; exact .inl ⟨E, xs, e⟩
    · exact ⟨fun n hn => by unfold rowOf at hn ⊢; rw [r] at hn; exact hn, fun u hu => by unfold rowSz at hu ⊢; rw [r] at hu; exact hu⟩
  rcases hrow with ⟨hb, hx⟩ | ⟨b, vs, hb, hh, hl, hmax, hs, hr, h1⟩
  · refine ⟨g, { agree := h.agree, slots := fun k => (h.slots k).mono (Ext.refl _ _) hm (fun _ => Nat.le_refl _), objs := fun d' j' o q => ?_, own := fun d' j' o b q m hb' => ?_, apart := fun d1 j1 o1 b d2 j2 o2 q1 m1 b1 q2 m2 b2 => ?_, fresh := fun d' j' q => ?_, size := h.size, defers := h.defers, pin := h.pin, gpin := h.gpin, glob := h.glob, keep := h.keep, ge := h.ge, m0 := h.m0, mb := h.mb }, Ext.refl _ _, rfl, rfl, rfl⟩
    · rcases upd2_cases st.mem d j (some (.srow t xs)) d' j' with ⟨p, p', r⟩ | ⟨p, r⟩
      · subst p; subst p'
        have q' : some (Obj'.srow t xs) = some o := r.symm.trans q
        cases q'
        exact .inl ⟨hb, hx⟩
      · have q' : st.mem d' j' = some o := r.symm.trans q
        exact RepO.mono (Ext.refl _ _) hm (fun _ => Nat.le_refl _) (h.live q') (fun _ _ _ => rfl) (h.objs d' j' o q')
    · rcases upd2_cases st.mem d j (some (.srow t xs)) d' j' with ⟨p, p', r⟩ | ⟨p, r⟩
      · have q' : some (Obj'.srow t xs) = some o := r.symm.trans q
        cases q'; cases m
      · exact h.own d' j' o b (r.symm.trans q) m hb'
    · rcases upd2_cases st.mem d j (some (.srow t xs)) d1 j1 with ⟨p, p', r⟩ | ⟨p, r⟩
      · have q' : some (Obj'.srow t xs) = some o1 := r.symm.trans q1
        cases q'; cases m1
      · rcases upd2_cases st.mem d j (some (.srow t xs)) d2 j2 with ⟨p2, p2', r2⟩ | ⟨p2, r2⟩
        · have q' : some (Obj'.srow t xs) = some o2 := r2.symm.trans q2
          cases q'; cases m2
        · exact h.apart d1 j1 o1 b d2 j2 o2 (r.symm.trans q1) m1 b1 (r2.symm.trans q2) m2 b2
    · rcases upd2_cases st.mem d j (some (.srow t xs)) d' j' with ⟨p, p', r⟩ | ⟨p, r⟩
      · subst p; subst p'; have q : st.cnt d' < j' := q; omega
      · exact r.trans (h.fresh d' j' q)
  · have hown := h.own d j _ b e rfl hb
    let g' : Gh := { g with M := fun k => if k = b then some vs else g.M k }
    have hM : Mle g.M g'.M := fun k cs q => by
      show (if k = b then some vs else g.M k) = some cs
      rw [if_neg]; · exact q
      · intro p; subst p; rw [hown.1] at q; cases q
    have hg : Ext g g' st.cnt := ⟨hM, fun _ _ _ => rfl, fun _ _ _ => rfl, fun _ _ _ => rfl⟩
    refine ⟨g', { agree := fun k cs q => ?_, slots := fun k => (h.slots k).mono hg hm (fun _ => Nat.le_refl _), objs := fun d' j' o q => ?_, own := fun d' j' o b' q m hb' => ?_, apart := fun d1 j1 o1 b d2 j2 o2 q1 m1 b1 q2 m2 b2 => ?_, fresh := fun d' j' q => ?_, size := h.size, defers := h.defers, pin := h.pin, gpin := h.gpin, glob := h.glob, keep := h.keep, ge := h.ge, m0 := h.m0.trans hM, mb := fun k cs q => ?_ }, hg, rfl, rfl, rfl⟩
    · have q : (if k = b then some vs else g.M k) = some cs := q
      split at q
      · rename_i p; cases q; subst p; exact ⟨_, _, hh⟩
      · exact h.agree k cs q
    · rcases upd2_cases st.mem d j (some (.srow t xs)) d' j' with ⟨p, p', r⟩ | ⟨p, r⟩
      · subst p; subst p'
        have q' : some (Obj'.srow t xs) = some o := r.symm.trans q
        cases q'
        exact .inr ⟨b, vs, hb, by show (if b = b then some vs else g.M b) = some vs; rw [if_pos rfl], hl, hr.mono hM⟩
      · have q' : st.mem d' j' = some o := r.symm.trans q
        exact RepO.mono hg hm (fun _ => Nat.le_refl _) (h.live q') (fun _ _ _ => rfl) (h.objs d' j' o q')
    · rcases upd2_cases st.mem d j (some (.srow t xs)) d' j' with ⟨p, p', r⟩ | ⟨p, r⟩
      · have q' : some (Obj'.srow t xs) = some o := r.symm.trans q
        cases q'; cases m
      · have q' : st.mem d' j' = some o := r.symm.trans q
        refine ⟨?_, (h.own d' j' o b' q' m hb').2⟩
        show (if b' = b then some vs else g.M b') = none
        rw [if_neg]
        · exact (h.own d' j' o b' q' m hb').1
        · intro pe; subst pe; exact p (h.apart d' j' o b' d j _ q' m hb' e rfl hb)
    · rcases upd2_cases st.mem d j (some (.srow t xs)) d1 j1 with ⟨p, p', r⟩ | ⟨p, r⟩
      · have q' : some (Obj'.srow t xs) = some o1 := r.symm.trans q1
        cases q'; cases m1
      · rcases upd2_cases st.mem d j (some (.srow t xs)) d2 j2 with ⟨p2, p2', r2⟩ | ⟨p2, r2⟩
        · have q' : some (Obj'.srow t xs) = some o2 := r2.symm.trans q2
          cases q'; cases m2
        · exact h.apart d1 j1 o1 b d2 j2 o2 (r.symm.trans q1) m1 b1 (r2.symm.trans q2) m2 b2
    · rcases upd2_cases st.mem d j (some (.srow t xs)) d' j' with ⟨p, p', r⟩ | ⟨p, r⟩
      · subst p; subst p'; have q : st.cnt d' < j' := q; omega
      · exact r.trans (h.fresh d' j' q)
    · have q : (if k = b then some vs else g.M k) = some cs := q
      split at q
      · rename_i p; subst p; exact .inr hown.2
      · exact h.mb k cs q
end
end Go.Proofs.YthmedjljckbidaaDoor.Lift
