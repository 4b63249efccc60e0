/- Words for the plain halves: fuel, numbers of 64 bits, lists. Conditions: none. -/
import Derived.Test.YthmedjljckbidaaDoorLiftY
set_option linter.unusedVariables false
namespace Go.Proofs.YthmedjljckbidaaDoor.Lift

/-- With fuel enough it answers x. -/
def Ev {α : Type} (f : Nat → Option α) (x : α) : Prop := ∃ K, ∀ k, K ≤ k → f k = some x
/-- Fuel spent, it is the other. -/
def To {α : Type} (f g : Nat → Option α) : Prop := ∃ n, ∀ k, f (k + n) = g k

section
variable {α β : Type} {f g h : Nat → Option α} {x : α} {y : β}

theorem To.refl : To f f := ⟨0, fun _ => rfl⟩
theorem To.of_eq (e : ∀ k, f k = g k) : To f g := ⟨0, e⟩
theorem To.step (e : ∀ k, f (k + 1) = g k) : To f g := ⟨1, e⟩
theorem To.trans (a : To f g) (b : To g h) : To f h := by
  obtain ⟨n, a⟩ := a
  obtain ⟨m, b⟩ := b
  refine ⟨m + n, fun k => ?_⟩
  rw [← Nat.add_assoc, a, b]
theorem To.then (e : ∀ k, f (k + 1) = g k) (b : To g h) : To f h := (To.step e).trans b

theorem Ev.now (e : ∀ k, f k = some x) : Ev f x := ⟨0, fun k _ => e k⟩
theorem Ev.to (a : To f g) (b : Ev g x) : Ev f x := by
  obtain ⟨n, a⟩ := a
  obtain ⟨K, b⟩ := b
  refine ⟨K + n, fun k hk => ?_⟩
  obtain ⟨j, rfl⟩ : ∃ j, k = j + n := ⟨k - n, by omega⟩
  rw [a, b j (by omega)]
theorem Ev.step (e : ∀ k, f (k + 1) = g k) (b : Ev g x) : Ev f x := Ev.to (To.step e) b
theorem Ev.congr (e : ∀ k, f k = g k) (b : Ev g x) : Ev f x := Ev.to (To.of_eq e) b
theorem Ev.bind {F : Nat → α → Option β} (a : Ev f x) (b : Ev (fun k => F k x) y) : Ev (fun k => (f k).bind (F k)) y := by
  obtain ⟨K, a⟩ := a
  obtain ⟨K', b⟩ := b
  refine ⟨max K K', fun k hk => ?_⟩
  simp only [a k (Nat.le_trans (Nat.le_max_left ..) hk), Option.bind_some]
  exact b k (Nat.le_trans (Nat.le_max_right ..) hk)
theorem Ev.get (a : Ev f x) : ∃ k, f k = some x := by
  obtain ⟨K, a⟩ := a
  exact ⟨K, a K (Nat.le_refl _)⟩
end

/-! Numbers. -/
theorem wrap_u {k : IntKind} {x : Int} (hs : k.signed = false) (h0 : 0 ≤ x) (h1 : x < 2 ^ k.bits) : k.wrap x = x := by
  have : x % (2 ^ k.bits : Int) = x := Int.emod_eq_of_lt h0 h1
  simp [IntKind.wrap, hs, this]
theorem wrap64 {x : Int} (h0 : -9223372036854775808 ≤ x) (h1 : x ≤ 9223372036854775807) : IntKind.i64.wrap x = x := by
  have e : (IntKind.i64).signed = true := rfl
  have b : (IntKind.i64).bits = 64 := rfl
  unfold IntKind.wrap
  simp only [e, b, Bool.true_and, decide_eq_true_eq, ge_iff_le]
  split <;> omega
theorem wadd64 {a b : Int} (h0 : -9223372036854775808 ≤ a + b) (h1 : a + b ≤ 9223372036854775807) : wadd .i64 a b = a + b := wrap64 h0 h1
theorem wsub64 {a b : Int} (h0 : -9223372036854775808 ≤ a - b) (h1 : a - b ≤ 9223372036854775807) : wsub .i64 a b = a - b := wrap64 h0 h1
theorem wmul64 {a b : Int} (h0 : -9223372036854775808 ≤ a * b) (h1 : a * b ≤ 9223372036854775807) : wmul .i64 a b = a * b := wrap64 h0 h1
theorem wquo64 {a b : Int} (h0 : -9223372036854775808 ≤ a.tdiv b) (h1 : a.tdiv b ≤ 9223372036854775807) : wquo .i64 a b = a.tdiv b := wrap64 h0 h1

theorem wf64 {x : Int} (h : (Lit.int .i64 x).wf = true) : -9223372036854775808 ≤ x ∧ x ≤ 9223372036854775807 := by
  have e : (IntKind.i64).min = -9223372036854775808 := rfl
  have b : (IntKind.i64).max = 9223372036854775807 := rfl
  simp [Lit.wf, e, b] at h
  omega

theorem ilt_t {a b : Int} (h : a < b) : ilt a b = true := decide_eq_true h
theorem ilt_f {a b : Int} (h : b ≤ a) : ilt a b = false := decide_eq_false (by omega)
theorem ile_t {a b : Int} (h : a ≤ b) : ile a b = true := decide_eq_true h
theorem ile_f {a b : Int} (h : b < a) : ile a b = false := decide_eq_false (by omega)
theorem ieq_t {a b : Int} (h : a = b) : ieq a b = true := by unfold ieq; simpa using h
theorem ieq_f {a b : Int} (h : a ≠ b) : ieq a b = false := by unfold ieq; simpa using h
theorem ieq_self (a : Int) : ieq a a = true := ieq_t rfl
theorem ilt_d (a b : Int) : ilt a b = decide (a < b) := rfl
theorem ile_d (a b : Int) : ile a b = decide (a ≤ b) := rfl
theorem ieq_d (a b : Int) : ieq a b = decide (a = b) := by
  unfold ieq
  by_cases h : a = b <;> simp [h]

theorem seq_d (a b : ByteArray) : seq a b = decide (a = b) := by
  unfold seq
  have : ∀ a b : ByteArray, a.toList = b.toList → a = b := fun a b h => by
    rw [ByteArray.toList_eq, ByteArray.toList_eq] at h
    cases a; cases b; simp only at h; congr 1; exact Array.toList_inj.1 h
  by_cases h : a = b
  · simp [h]
  · rw [decide_eq_false h]
    simp only [beq_eq_false_iff_ne, ne_eq]
    exact fun e => h (this _ _ e)
theorem seq_self (a : ByteArray) : seq a a = true := by rw [seq_d]; simp

/-! Lists. -/
section
variable {α : Type}
theorem lat_nat {l : List α} {n : Nat} : lat l (n : Int) = l[n]? := by
  unfold lat
  rw [if_pos (by omega)]
  simp
theorem lat_lt {l : List α} {n : Nat} (h : n < l.length) : lat l (n : Int) = some l[n] := by rw [lat_nat, List.getElem?_eq_getElem h]
theorem lapp_ok {eb : Nat} {l m : List α} (h : (l.length + m.length) * eb ≤ 140737488355328) (h2 : l.length + m.length ≤ 140737488355328) : lapp eb l m = some (l ++ m) := by
  unfold lapp; rw [if_pos ⟨h, h2⟩]
theorem llen_eq (l : List α) : llen l = (l.length : Int) := rfl
end
/-! Loops over lists. -/
theorem u0 {j : Nat} (h : j ≤ 4611686018427387904) : wadd .i64 (j : Int) 1 = ((j + 1 : Nat) : Int) := wadd64 (by omega) (by omega)
theorem imax_nat (a b : Nat) : imax (a : Int) (b : Int) = ((max a b : Nat) : Int) := by unfold imax; split <;> omega
theorem ilen {α : Type} (l : List α) : ∀ (j : Nat), j < l.length → ilt (j : Int) (l.length : Int) = true := fun j h => ilt_t (by omega)
theorem ilen' {α : Type} (l : List α) : ilt (l.length : Int) (l.length : Int) = false := ilt_f (by omega)

/-- The first that is found. -/
def fl {α β : Type} (q : α → Bool) (hit : Nat → β) (fin : β) : Nat → List α → β
  | _, [] => fin
  | j, t :: r => bif q t then hit j else fl q hit fin (j + 1) r

theorem find_loop {α β γ : Type} (l : List α) (j0 : Nat) (h0 : j0 ≤ l.length) (L : Nat → Nat → Option β) (G : Nat → α → Option γ) (S : Nat → Nat → γ → Option β) (E : Nat → Option β) (q : α → Bool) (hit : Nat → β) (fin : β)
    (hs : ∀ (k j : Nat) (h : j < l.length), L (k + 1) j = (G k l[j]).bind (S k j))
    (he : ∀ k, L (k + 1) l.length = E k) (hE : Ev E fin)
    (hg : ∀ (j : Nat) (h : j < l.length), ∃ y, Ev (fun k => G k l[j]) y ∧ ∀ k, S k j y = bif q l[j] then some (hit j) else L k (j + 1)) :
    Ev (fun k => L k j0) (fl q hit fin j0 (l.drop j0)) := by
  have : ∀ (d j : Nat), l.length - j ≤ d → j ≤ l.length → Ev (fun k => L k j) (fl q hit fin j (l.drop j)) := by
    intro d
    induction d with
    | zero =>
      intro j hd hj
      obtain rfl : j = l.length := by omega
      rw [List.drop_eq_nil_of_le (Nat.le_refl _)]
      exact Ev.step he hE
    | succ d ih =>
      intro j hd hj
      rcases Nat.lt_or_ge j l.length with hlt | hge
      · rw [List.drop_eq_getElem_cons hlt]
        obtain ⟨y, y1, y2⟩ := hg j hlt
        refine Ev.step (fun k => hs k j hlt) (Ev.bind y1 ?_)
        simp only [y2, fl]
        cases q l[j] with
        | true => exact Ev.now fun _ => rfl
        | false => exact ih (j + 1) (by omega) hlt
      · obtain rfl : j = l.length := by omega
        rw [List.drop_eq_nil_of_le (Nat.le_refl _)]
        exact Ev.step he hE
  exact this l.length j0 (by omega) h0
theorem find_loop2 {α β γ : Type} (l : List α) (j0 : Nat) (h0 : j0 ≤ l.length) (L : Nat → Nat → Option β) (G : Nat → α → Option γ) (S : Nat → Nat → γ → Option β) (E : Nat → Option β) (q : α → Bool) (hit : Nat → β) (fin : β)
    (hs : ∀ (k j : Nat) (h : j < l.length), L (k + 1) j = (G k l[j]).bind (S k j))
    (he : ∀ k, L (k + 1) l.length = E k) (hE : Ev E fin)
    (hg : ∀ (j : Nat) (h : j < l.length), ∃ y, Ev (fun k => G k l[j]) y ∧ (q l[j] = true → Ev (fun k => S k j y) (hit j)) ∧ (q l[j] = false → ∀ v, Ev (fun k => L k (j + 1)) v → Ev (fun k => S k j y) v)) :
    Ev (fun k => L k j0) (fl q hit fin j0 (l.drop j0)) := by
  have : ∀ (d j : Nat), l.length - j ≤ d → j ≤ l.length → Ev (fun k => L k j) (fl q hit fin j (l.drop j)) := by
    intro d
    induction d with
    | zero =>
      intro j hd hj
      obtain rfl : j = l.length := by omega
      rw [List.drop_eq_nil_of_le (Nat.le_refl _)]
      exact Ev.step he hE
    | succ d ih =>
      intro j hd hj
      rcases Nat.lt_or_ge j l.length with hlt | hge
      · rw [List.drop_eq_getElem_cons hlt]
        obtain ⟨y, y1, y2, y3⟩ := hg j hlt
        refine Ev.step (fun k => hs k j hlt) (Ev.bind y1 ?_)
        simp only [fl]
        cases e : q l[j] with
        | true => exact y2 e
        | false => exact y3 e _ (ih (j + 1) (by omega) hlt)
      · obtain rfl : j = l.length := by omega
        rw [List.drop_eq_nil_of_le (Nat.le_refl _)]
        exact Ev.step he hE
  exact this l.length j0 (by omega) h0
theorem find_pure {α β : Type} (l : List α) (j0 : Nat) (h0 : j0 ≤ l.length) (L : Nat → Nat → Option β) (E : Nat → Option β) (q : α → Bool) (hit : Nat → β) (fin : β)
    (hs : ∀ (k j : Nat) (h : j < l.length), L (k + 1) j = bif q l[j] then some (hit j) else L k (j + 1))
    (he : ∀ k, L (k + 1) l.length = E k) (hE : Ev E fin) :
    Ev (fun k => L k j0) (fl q hit fin j0 (l.drop j0)) :=
  find_loop l j0 h0 L (fun _ t => some t) (fun k j t => bif q t then some (hit j) else L k (j + 1)) E q hit fin (fun k j h => by rw [hs k j h]; rfl) he hE (fun j h => ⟨l[j], Ev.now fun _ => rfl, fun k => rfl⟩)

theorem fl_const {α β : Type} (q : α → Bool) (c fin : β) : ∀ (l : List α) (j : Nat), fl q (fun _ => c) fin j l = bif l.any q then c else fin
  | [], _ => rfl
  | t :: r, j => by simp only [fl, fl_const q c fin r, List.any_cons]; cases q t <;> simp
theorem fl_map {α β γ : Type} (w : β → γ) (q : α → Bool) (hit : Nat → β) (fin : β) : ∀ (l : List α) (j : Nat), w (fl q hit fin j l) = fl q (fun j => w (hit j)) (w fin) j l
  | [], _ => rfl
  | t :: r, j => by simp only [fl]; cases q t <;> simp [fl_map w q hit fin r]
theorem fl_any {α : Type} (q : α → Bool) (l : List α) : ile 0 (fl q (fun j => (j : Int)) (-1) 0 l) = l.any q := by
  rw [fl_map (ile 0), show (fun j : Nat => ile 0 (j : Int)) = fun _ => true from funext fun j => ile_t (by omega), fl_const, show ile 0 (-1) = false from rfl]
  cases l.any q <;> rfl
theorem any_congr {α : Type} {q r : α → Bool} : ∀ {l : List α}, (∀ k ∈ l, q k = r k) → l.any q = l.any r
  | [], _ => rfl
  | a :: l, h => by rw [List.any_cons, List.any_cons, h a (List.mem_cons_self ..), any_congr fun k hk => h k (List.mem_cons_of_mem _ hk)]
theorem any_f {α : Type} {q : α → Bool} {l : List α} (h : l.any q = false) : ∀ k ∈ l, q k = false := fun k hk => by
  cases e : q k with
  | false => rfl
  | true => rw [List.any_eq_true.2 ⟨k, hk, e⟩] at h; exact nomatch h

theorem map_loop {α β γ δ : Type} (l : List α) (f : α → β) (L : Nat → List β → Nat → Option γ) (G : Nat → α → Option δ) (S : Nat → Nat → δ → Option γ) (E : Nat → Option γ) (fin : γ)
    (hs : ∀ (k j : Nat) (h : j < l.length), L (k + 1) ((l.take j).map f) j = (G k l[j]).bind (S k j))
    (he : ∀ k, L (k + 1) (l.map f) l.length = E k) (hE : Ev E fin)
    (hg : ∀ (j : Nat) (h : j < l.length), ∃ y, Ev (fun k => G k l[j]) y ∧ ∀ v, Ev (fun k => L k ((l.take (j + 1)).map f) (j + 1)) v → Ev (fun k => S k j y) v) :
    Ev (fun k => L k [] 0) fin := by
  have : ∀ (d j : Nat), l.length - j ≤ d → j ≤ l.length → Ev (fun k => L k ((l.take j).map f) j) fin := by
    intro d
    have last : ∀ j, j = l.length → Ev (fun k => L k ((l.take j).map f) j) fin := fun j h => by
      subst h
      rw [List.take_length]
      exact Ev.step he hE
    induction d with
    | zero => intro j hd hj; exact last j (by omega)
    | succ d ih =>
      intro j hd hj
      rcases Nat.lt_or_ge j l.length with hlt | hge
      · obtain ⟨y, y1, y2⟩ := hg j hlt
        exact Ev.step (fun k => hs k j hlt) (Ev.bind y1 (y2 fin (ih (j + 1) (by omega) hlt)))
      · exact last j (by omega)
  have := this l.length 0 (by omega) (by omega)
  rwa [List.take_zero] at this
theorem take_map {α β : Type} {l : List α} {f : α → β} {j : Nat} (h : j < l.length) : (l.take (j + 1)).map f = (l.take j).map f ++ [f l[j]] := by
  rw [List.take_succ_eq_append_getElem h, List.map_append]; rfl

/-! Strings as lists of bytes. -/
theorem slen_l (s : ByteArray) : slen s = (s.data.toList.length : Int) := by
  rw [Array.length_toList]; rfl
theorem size_l (s : ByteArray) : s.size = s.data.toList.length := by
  rw [Array.length_toList]; rfl
theorem sat_l {s : ByteArray} {i : Nat} (h : i < s.data.toList.length) : sat s (i : Int) = some (s.data.toList[i].toNat : Int) := by
  have h' : i < s.size := by rw [size_l]; exact h
  unfold sat
  rw [if_pos (by omega), Int.toNat_natCast, getElem?_pos s i h']
  rfl
theorem sat_0 {s : ByteArray} {c : UInt8} {r : List UInt8} (h : s.data.toList = c :: r) : sat s 0 = some (c.toNat : Int) := by
  have h' : 0 < s.data.toList.length := by rw [h]; simp
  have := sat_l (s := s) (i := 0) h'
  rw [show ((0 : Nat) : Int) = 0 from rfl] at this
  rw [this]
  congr 3
  simp [h]
end Go.Proofs.YthmedjljckbidaaDoor.Lift
