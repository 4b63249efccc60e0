/- Words for the plain halves: fuel, numbers of 64 bits, lists. Conditions: none. -/
import Derived.Test.YtmjfjjnmdljkeaaLiftY
set_option linter.unusedVariables false
namespace Go.Proofs.Ytmjfjjnmdljkeaa.Lift

/-- With fuel enough it answers x. -/
def Ev {α : Type} (f : Nat → Option α) (x : α) : Prop := ∃ K, ∀ k, K ≤ k → f k = some x
/-- Fuel spent, it is the other. -/
def To {α : Type} (f g : Nat → Option α) : Prop := ∃ n, ∀ k, f (k + n) = g k

section
variable {α β : Type} {f g h : Nat → Option α} {x : α} {y : β}

theorem To.refl : To f f := ⟨0, fun _ => rfl⟩
theorem To.of_eq (e : ∀ k, f k = g k) : To f g := ⟨0, e⟩
theorem To.step (e : ∀ k, f (k + 1) = g k) : To f g := ⟨1, e⟩
theorem To.trans (a : To f g) (b : To g h) : To f h := by
  obtain ⟨n, a⟩ := a
  obtain ⟨m, b⟩ := b
  refine ⟨m + n, fun k => ?_⟩
  rw [← Nat.add_assoc, a, b]
theorem To.then (e : ∀ k, f (k + 1) = g k) (b : To g h) : To f h := (To.step e).trans b

theorem Ev.now (e : ∀ k, f k = some x) : Ev f x := ⟨0, fun k _ => e k⟩
theorem Ev.to (a : To f g) (b : Ev g x) : Ev f x := by
  obtain ⟨n, a⟩ := a
  obtain ⟨K, b⟩ := b
  refine ⟨K + n, fun k hk => ?_⟩
  obtain ⟨j, rfl⟩ : ∃ j, k = j + n := ⟨k - n, by omega⟩
  rw [a, b j (by omega)]
theorem Ev.step (e : ∀ k, f (k + 1) = g k) (b : Ev g x) : Ev f x := Ev.to (To.step e) b
theorem Ev.congr (e : ∀ k, f k = g k) (b : Ev g x) : Ev f x := Ev.to (To.of_eq e) b
theorem Ev.bind {F : Nat → α → Option β} (a : Ev f x) (b : Ev (fun k => F k x) y) : Ev (fun k => (f k).bind (F k)) y := by
  obtain ⟨K, a⟩ := a
  obtain ⟨K', b⟩ := b
  refine ⟨max K K', fun k hk => ?_⟩
  simp only [a k (Nat.le_trans (Nat.le_max_left ..) hk), Option.bind_some]
  exact b k (Nat.le_trans (Nat.le_max_right ..) hk)
theorem Ev.get (a : Ev f x) : ∃ k, f k = some x := by
  obtain ⟨K, a⟩ := a
  exact ⟨K, a K (Nat.le_refl _)⟩
end

/-! Numbers. -/
theorem wrap_u {k : IntKind} {x : Int} (hs : k.signed = false) (h0 : 0 ≤ x) (h1 : x < 2 ^ k.bits) : k.wrap x = x := by
  have : x % (2 ^ k.bits : Int) = x := Int.emod_eq_of_lt h0 h1
  simp [IntKind.wrap, hs, this]
theorem wrap64 {x : Int} (h0 : -9223372036854775808 ≤ x) (h1 : x ≤ 9223372036854775807) : IntKind.i64.wrap x = x := by
  have e : (IntKind.i64).signed = true := rfl
  have b : (IntKind.i64).bits = 64 := rfl
  unfold IntKind.wrap
  simp only [e, b, Bool.true_and, decide_eq_true_eq, ge_iff_le]
  split <;> omega
theorem wadd64 {a b : Int} (h0 : -9223372036854775808 ≤ a + b) (h1 : a + b ≤ 9223372036854775807) : wadd .i64 a b = a + b := wrap64 h0 h1
theorem wsub64 {a b : Int} (h0 : -9223372036854775808 ≤ a - b) (h1 : a - b ≤ 9223372036854775807) : wsub .i64 a b = a - b := wrap64 h0 h1
theorem wmul64 {a b : Int} (h0 : -9223372036854775808 ≤ a * b) (h1 : a * b ≤ 9223372036854775807) : wmul .i64 a b = a * b := wrap64 h0 h1
theorem wquo64 {a b : Int} (h0 : -9223372036854775808 ≤ a.tdiv b) (h1 : a.tdiv b ≤ 9223372036854775807) : wquo .i64 a b = a.tdiv b := wrap64 h0 h1

theorem wf64 {x : Int} (h : (Lit.int .i64 x).wf = true) : -9223372036854775808 ≤ x ∧ x ≤ 9223372036854775807 := by
  have e : (IntKind.i64).min = -9223372036854775808 := rfl
  have b : (IntKind.i64).max = 9223372036854775807 := rfl
  simp [Lit.wf, e, b] at h
  omega

theorem ilt_t {a b : Int} (h : a < b) : ilt a b = true := decide_eq_true h
theorem ilt_f {a b : Int} (h : b ≤ a) : ilt a b = false := decide_eq_false (by omega)
theorem ile_t {a b : Int} (h : a ≤ b) : ile a b = true := decide_eq_true h
theorem ile_f {a b : Int} (h : b < a) : ile a b = false := decide_eq_false (by omega)
theorem ieq_t {a b : Int} (h : a = b) : ieq a b = true := by unfold ieq; simpa using h
theorem ieq_f {a b : Int} (h : a ≠ b) : ieq a b = false := by unfold ieq; simpa using h
theorem ieq_self (a : Int) : ieq a a = true := ieq_t rfl
theorem ilt_d (a b : Int) : ilt a b = decide (a < b) := rfl
theorem ile_d (a b : Int) : ile a b = decide (a ≤ b) := rfl
theorem ieq_d (a b : Int) : ieq a b = decide (a = b) := by
  unfold ieq
  by_cases h : a = b <;> simp [h]

theorem seq_d (a b : ByteArray) : seq a b = decide (a = b) := by
  unfold seq
  have : ∀ a b : ByteArray, a.toList = b.toList → a = b := fun a b h => by
    rw [ByteArray.toList_eq, ByteArray.toList_eq] at h
    cases a; cases b; simp only at h; congr 1; exact Array.toList_inj.1 h
  by_cases h : a = b
  · simp [h]
  · rw [decide_eq_false h]
    simp only [beq_eq_false_iff_ne, ne_eq]
    exact fun e => h (this _ _ e)
theorem seq_self (a : ByteArray) : seq a a = true := by rw [seq_d]; simp

/-! Lists. -/
section
variable {α : Type}
theorem lat_nat {l : List α} {n : Nat} : lat l (n : Int) = l[n]? := by
  unfold lat
  rw [if_pos (by omega)]
  simp
theorem lat_lt {l : List α} {n : Nat} (h : n < l.length) : lat l (n : Int) = some l[n] := by rw [lat_nat, List.getElem?_eq_getElem h]
theorem lapp_ok {eb : Nat} {l m : List α} (h : (l.length + m.length) * eb ≤ 140737488355328) (h2 : l.length + m.length ≤ 140737488355328) : lapp eb l m = some (l ++ m) := by
  unfold lapp; rw [if_pos ⟨h, h2⟩]
theorem llen_eq (l : List α) : llen l = (l.length : Int) := rfl
end
end Go.Proofs.Ytmjfjjnmdljkeaa.Lift
