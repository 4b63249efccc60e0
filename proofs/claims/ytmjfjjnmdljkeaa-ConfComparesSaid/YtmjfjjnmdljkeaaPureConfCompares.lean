/- Two values are compared as the reference compares them. Conditions: none. -/
import Derived.Test.YtmjfjjnmdljkeaaGConfComparesOp
namespace Go.Proofs.Ytmjfjjnmdljkeaa.Pure.ConfCompares
set_option linter.unusedVariables false
set_option linter.unusedSimpArgs false
open Go.RowKit Go.Proofs.Ytmjfjjnmdljkeaa.GConfCompares Go.Proofs.YtmjfjjnmdljkeaaW.PrintWords Go.Proofs.YtmjfjjnmdljkeaaW.PrintLast

theorem w64 {x : Int} (h0 : -9223372036854775808 ≤ x) (h1 : x < 9223372036854775808) : wrap64 x = x := by unfold wrap64; omega
/-- The order of two whole numbers. -/
def sgn (a b : Int) : Int := if a < b then -1 else if a > b then 1 else 0
theorem sgn_f (a b : Int) : conf_sign.f a b = some (sgn a b) := by
  unfold conf_sign.f sgn
  by_cases h : a < b
  · simp [h]
  · by_cases h2 : a > b <;> simp [h, h2]
theorem cmpInt_f (a b : Int) : cmp_Compare_int.f a b = some (sgn a b) := by
  unfold cmp_Compare_int.f cmp_isNaN_int.f sgn
  simp only [bne_self_eq_false, Option.bind_some, Bool.false_eq_true, if_false]
  by_cases h : a < b
  · simp [h]
  · by_cases h2 : a > b <;> simp [h, h2]
/-- The order of two strings. -/
def cstr (a b : ByteArray) : Int := Lib.compareBytes a.data.toList b.data.toList
theorem bytes_order : ∀ (x y : List UInt8), Lib.compareBytes x y = if Op.bytesLess x y = true then -1 else if x = y then 0 else 1
  | [], [] => rfl
  | [], _ :: _ => rfl
  | _ :: _, [] => by simp [Lib.compareBytes, Op.bytesLess]
  | a :: x, b :: y => by
    have ih := bytes_order x y
    by_cases h1 : a < b
    · simp [Lib.compareBytes, Op.bytesLess, h1]
    · by_cases h2 : b < a
      · have hne : a ≠ b := fun h => by subst h; exact absurd h2 (by simp)
        simp [Lib.compareBytes, Op.bytesLess, h1, h2, hne]
      · have he : a = b := by
          rw [UInt8.lt_iff_toNat_lt] at h1 h2
          exact UInt8.toNat_inj.1 (by omega)
        subst he
        simp only [Lib.compareBytes, Op.bytesLess, h1, if_false, decide_false, Bool.false_or, beq_self_eq_true, Bool.true_and, List.cons.injEq, true_and]
        exact ih
theorem cstr_f (a b : ByteArray) : strings_Compare.f a b = some (cstr a b) := rfl
theorem cmpStr_f (a b : ByteArray) : cmp_Compare_string.f a b = some (cstr a b) := by
  unfold cmp_Compare_string.f cmp_isNaN_string.f cstr
  rw [bytes_order, Lib.toList_data, Lib.toList_data]
  simp only [bne_self_eq_false, Option.bind_some, Bool.false_eq_true, if_false]
  by_cases h : Op.bytesLess a.data.toList b.data.toList = true
  · rw [if_pos h, if_pos h]
  · rw [if_neg h, if_neg h]
    by_cases h2 : a.data.toList = b.data.toList
    · rw [if_pos h2, if_pos h2]
    · rw [if_neg h2, if_neg h2]
theorem sgn_zero {a b : Int} : sgn a b = 0 ↔ a = b := by unfold sgn; split <;> (try split) <;> omega

/-- The program's walk over the keys and the reference's answer on them. -/
theorem keys (x y : S74) (hx : x.f5.length ≤ 9223372036854775806) : ∀ (d i : Nat), i + d = x.f5.length → i ≤ y.f5.length →
    ∃ c, Ev (fun k => slices_Compare_string_string.l0 k x.f5 y.f5 x.f5 (x.f5.length : Int) (i : Int)) c ∧
      ∀ r : Int, ((c = 0 → Ev (fun k => conf_Compare.l2 k 0 x.f0 x.f1 x.f2 x.f3 x.f4 x.f5 y.f0 y.f1 y.f2 y.f3 y.f4 y.f5) r) → (c ≠ 0 → r = c) → Ev (fun k => conf_Compare.l1 k (i : Int) x.f0 x.f1 x.f2 x.f3 x.f4 x.f5 y.f0 y.f1 y.f2 y.f3 y.f4 y.f5) r) := by
  intro d
  induction d with
  | zero =>
    intro i hi hle
    refine ⟨if (x.f5.length : Int) < (y.f5.length : Int) then -1 else 0, ?_, fun r h1 h2 => ?_⟩
    · refine Ev.step (f := fun _ => some _) (fun k => ?_) (Ev.now _)
      simp only [slices_Compare_string_string.l0]
      rw [if_neg (by omega)]
      split <;> rfl
    · refine Ev.step (f := fun k => conf_Compare.j2 k (i : Int) false x.f0 x.f1 x.f2 x.f3 x.f4 x.f5 y.f0 y.f1 y.f2 y.f3 y.f4 y.f5) (fun k => by simp only [conf_Compare.l1]; rw [if_neg (by omega)]) ?_
      by_cases hlt : (x.f5.length : Int) < (y.f5.length : Int)
      · rw [if_pos hlt] at h2
        obtain rfl := h2 (by omega)
        refine Ev.step (f := fun _ => some _) (fun k => ?_) (Ev.now _)
        simp only [conf_Compare.j2]
        rw [if_neg (by simp), sgn_f]
        simp [sgn, hlt]
      · rw [if_neg hlt] at h1
        refine Ev.step (fun k => ?_) (h1 rfl)
        simp only [conf_Compare.j2]
        rw [if_neg (by simp), sgn_f]
        have : sgn (x.f5.length : Int) (y.f5.length : Int) = 0 := sgn_zero.2 (by omega)
        simp [this]
  | succ d ih =>
    intro i hi hle
    by_cases hb : i < y.f5.length
    · obtain ⟨t, ht⟩ : ∃ t, cstr (rdOf ByteArray.empty x.f5 (i : Int)) (rdOf ByteArray.empty y.f5 (i : Int)) = t := ⟨_, rfl⟩
      have hw : wrap64 ((i : Int) + 1) = ((i + 1 : Nat) : Int) := by rw [w64 (by omega) (by omega)]; rfl
      by_cases h0 : t = 0
      · obtain ⟨c, e1, e2⟩ := ih (i + 1) (by omega) (by omega)
        refine ⟨c, Ev.step (fun k => ?_) e1, fun r h1 h2 => ?_⟩
        · simp only [slices_Compare_string_string.l0]
          rw [if_pos (by omega), if_pos (by omega), if_pos (by omega), if_neg (by omega), if_pos (by omega), cmpStr_f, ht]
          simp only [Option.bind_some]
          rw [if_pos h0, hw]
        · refine Ev.step (f := fun k => conf_Compare.j2 k (i : Int) true x.f0 x.f1 x.f2 x.f3 x.f4 x.f5 y.f0 y.f1 y.f2 y.f3 y.f4 y.f5) (fun k => by simp only [conf_Compare.l1]; rw [if_pos (by omega), decide_eq_true (by omega)]) ?_
          refine Ev.step (fun k => ?_) (e2 r h1 h2)
          simp only [conf_Compare.j2]
          rw [if_pos trivial, if_pos (by omega), if_pos (by omega), if_pos (by omega), cstr_f, ht]
          simp only [Option.bind_some]
          rw [if_pos h0, hw]
      · refine ⟨t, ?_, fun r h1 h2 => ?_⟩
        · refine Ev.step (f := fun _ => some t) (fun k => ?_) (Ev.now _)
          simp only [slices_Compare_string_string.l0]
          rw [if_pos (by omega), if_pos (by omega), if_pos (by omega), if_neg (by omega), if_pos (by omega), cmpStr_f, ht]
          simp only [Option.bind_some]
          rw [if_neg h0]
        · obtain rfl := h2 h0
          refine Ev.step (f := fun k => conf_Compare.j2 k (i : Int) true x.f0 x.f1 x.f2 x.f3 x.f4 x.f5 y.f0 y.f1 y.f2 y.f3 y.f4 y.f5) (fun k => by simp only [conf_Compare.l1]; rw [if_pos (by omega), decide_eq_true (by omega)]) ?_
          refine Ev.step (f := fun _ => some r) (fun k => ?_) (Ev.now _)
          simp only [conf_Compare.j2]
          rw [if_pos trivial, if_pos (by omega), if_pos (by omega), if_pos (by omega), cstr_f, ht]
          simp only [Option.bind_some]
          rw [if_neg h0]
    · refine ⟨1, ?_, fun r h1 h2 => ?_⟩
      · refine Ev.step (f := fun _ => some 1) (fun k => ?_) (Ev.now _)
        simp only [slices_Compare_string_string.l0]
        rw [if_pos (by omega), if_pos (by omega), if_pos (by omega), if_pos (by omega)]
      · obtain rfl := h2 (by omega)
        refine Ev.step (f := fun k => conf_Compare.j2 k (i : Int) false x.f0 x.f1 x.f2 x.f3 x.f4 x.f5 y.f0 y.f1 y.f2 y.f3 y.f4 y.f5) (fun k => by simp only [conf_Compare.l1]; rw [if_pos (by omega), decide_eq_false (by omega)]) ?_
        refine Ev.step (f := fun _ => some 1) (fun k => ?_) (Ev.now _)
        simp only [conf_Compare.j2]
        rw [if_neg (by simp), sgn_f]
        have : sgn (x.f5.length : Int) (y.f5.length : Int) = 1 := by unfold sgn; rw [if_neg (by omega), if_pos (by omega)]
        simp [this]

theorem rd_mem (l : List S74) (i : Nat) (h : i < l.length) : rd_T74 l (i : Int) ∈ l := by
  simp only [rd_T74, Int.toNat_natCast]
  rw [List.getD_eq_getElem?_getD, List.getElem?_eq_getElem h]
  simp
/-- The items. -/
theorem items (x y : S74) (hx : x.f4.length ≤ 9223372036854775806) (both : ∀ a ∈ x.f4, ∀ b : S74, ∃ r, Ev (fun k => conf_Compare.f k a.f0 a.f1 a.f2 a.f3 a.f4 a.f5 b.f0 b.f1 b.f2 b.f3 b.f4 b.f5) r ∧ Ev (fun k => mastref2_CompareOf.f k a.f0 a.f1 a.f2 a.f3 a.f4 a.f5 b.f0 b.f1 b.f2 b.f3 b.f4 b.f5) r) : ∀ (d i : Nat), i + d = x.f4.length →
    ∃ r, Ev (fun k => conf_Compare.l2 k (i : Int) x.f0 x.f1 x.f2 x.f3 x.f4 x.f5 y.f0 y.f1 y.f2 y.f3 y.f4 y.f5) r ∧ Ev (fun k => mastref2_CompareOf.l0 k (i : Int) x.f0 x.f1 x.f2 x.f3 x.f4 x.f5 y.f0 y.f1 y.f2 y.f3 y.f4 y.f5) r := by
  have stop : ∀ i : Nat, Ev (fun k => conf_Compare.j4 k (i : Int) false x.f0 x.f1 x.f2 x.f3 x.f4 x.f5 y.f0 y.f1 y.f2 y.f3 y.f4 y.f5) (sgn (x.f4.length : Int) (y.f4.length : Int)) ∧ Ev (fun k => mastref2_CompareOf.j1 k (i : Int) false x.f0 x.f1 x.f2 x.f3 x.f4 x.f5 y.f0 y.f1 y.f2 y.f3 y.f4 y.f5) (sgn (x.f4.length : Int) (y.f4.length : Int)) := fun i =>
    ⟨Ev.step (f := fun _ => some _) (fun k => by simp only [conf_Compare.j4]; rw [if_neg (by simp), sgn_f]; rfl) (Ev.now _), Ev.step (f := fun _ => some _) (fun k => by simp only [mastref2_CompareOf.j1]; rw [if_neg (by simp), cmpInt_f]; rfl) (Ev.now _)⟩
  intro d
  induction d with
  | zero =>
    intro i hi
    exact ⟨_, Ev.step (fun k => by simp only [conf_Compare.l2]; rw [if_neg (by omega)]) (stop i).1, Ev.step (fun k => by simp only [mastref2_CompareOf.l0]; rw [if_neg (by omega)]) (stop i).2⟩
  | succ d ih =>
    intro i hi
    by_cases hb : i < y.f4.length
    · obtain ⟨t, e1, e2⟩ := both _ (rd_mem x.f4 i (by omega)) (rd_T74 y.f4 (i : Int))
      have hw : wrap64 ((i : Int) + 1) = ((i + 1 : Nat) : Int) := by rw [w64 (by omega) (by omega)]; rfl
      have go : ∃ r, Ev (fun k => if t = 0 then (conf_Compare.l2 k (wrap64 ((i : Int) + 1)) x.f0 x.f1 x.f2 x.f3 x.f4 x.f5 y.f0 y.f1 y.f2 y.f3 y.f4 y.f5) else some t) r ∧ Ev (fun k => if t = 0 then (mastref2_CompareOf.l0 k (wrap64 ((i : Int) + 1)) x.f0 x.f1 x.f2 x.f3 x.f4 x.f5 y.f0 y.f1 y.f2 y.f3 y.f4 y.f5) else some t) r := by
        by_cases h0 : t = 0
        · obtain ⟨r, f1, f2⟩ := ih (i + 1) (by omega)
          exact ⟨r, Ev.congr (fun k => by rw [if_pos h0, hw]) f1, Ev.congr (fun k => by rw [if_pos h0, hw]) f2⟩
        · exact ⟨t, Ev.congr (fun k => if_neg h0) (Ev.now _), Ev.congr (fun k => if_neg h0) (Ev.now _)⟩
      obtain ⟨r, f1, f2⟩ := go
      refine ⟨r, ?_, ?_⟩
      · refine Ev.step (f := fun k => conf_Compare.j4 k (i : Int) true x.f0 x.f1 x.f2 x.f3 x.f4 x.f5 y.f0 y.f1 y.f2 y.f3 y.f4 y.f5) (fun k => by simp only [conf_Compare.l2]; rw [if_pos (by omega), decide_eq_true (by omega)]) ?_
        refine Ev.step (fun k => by simp only [conf_Compare.j4]; rw [if_pos trivial, if_pos (by omega), if_pos (by omega), if_pos (by omega)]) (Ev.bind e1 f1)
      · refine Ev.step (f := fun k => mastref2_CompareOf.j1 k (i : Int) true x.f0 x.f1 x.f2 x.f3 x.f4 x.f5 y.f0 y.f1 y.f2 y.f3 y.f4 y.f5) (fun k => by simp only [mastref2_CompareOf.l0]; rw [if_pos (by omega), decide_eq_true (by omega)]) ?_
        refine Ev.step (fun k => by simp only [mastref2_CompareOf.j1]; rw [if_pos trivial, if_pos (by omega), if_pos (by omega), if_pos (by omega)]) (Ev.bind e2 f2)
    · exact ⟨_, Ev.step (fun k => by simp only [conf_Compare.l2]; rw [if_pos (by omega), decide_eq_false (by omega)]) (stop i).1, Ev.step (fun k => by simp only [mastref2_CompareOf.l0]; rw [if_pos (by omega), decide_eq_false (by omega)]) (stop i).2⟩

theorem bit_f (b : Bool) : conf_bit.f b = some (if b = true then 1 else 0) := by unfold conf_bit.f; split <;> rfl
theorem first (L : List Int) (x y : S74) (hL : L.length ≤ 10) {r : Int} : ∀ (d i : Nat), i + d = L.length → ((∀ c ∈ L.drop i, c = 0) → Ev (fun k => conf_Compare.l1 k 0 x.f0 x.f1 x.f2 x.f3 x.f4 x.f5 y.f0 y.f1 y.f2 y.f3 y.f4 y.f5) r) → (∀ c, (L.drop i).find? (fun z => decide (z ≠ 0)) = some c → r = c) →
    Ev (fun k => conf_Compare.l0 k L (L.length : Int) (i : Int) x.f0 x.f1 x.f2 x.f3 x.f4 x.f5 y.f0 y.f1 y.f2 y.f3 y.f4 y.f5) r := by
  intro d
  induction d with
  | zero =>
    intro i hi h1 h2
    refine Ev.step (fun k => ?_) (h1 (by rw [List.drop_eq_nil_of_le (by omega)]; simp))
    simp only [conf_Compare.l0]
    rw [if_neg (by omega)]
  | succ d ih =>
    intro i hi h1 h2
    have hd : L.drop i = rd L (i : Int) :: L.drop (i + 1) := by
      rw [List.drop_eq_getElem_cons (by omega)]
      simp [rd, List.getElem?_eq_getElem (show i < L.length by omega)]
    rw [hd] at h1 h2
    by_cases h0 : rd L (i : Int) = 0
    · refine Ev.step (fun k => ?_) (ih (i + 1) (by omega) (fun h => h1 (fun c hc => (List.mem_cons.1 hc).elim (fun e => e.trans h0) (h c))) (fun c hc => h2 c (by rw [List.find?_cons]; simp only [h0]; simpa using hc)))
      simp only [conf_Compare.l0]
      rw [if_pos (by omega), if_pos (by omega), if_pos (by omega), if_pos h0, w64 (by omega) (by omega)]
      rfl
    · obtain rfl := h2 (rd L (i : Int)) (by rw [List.find?_cons]; simp [h0])
      refine Ev.step (f := fun _ => some _) (fun k => ?_) (Ev.now _)
      simp only [conf_Compare.l0]
      rw [if_pos (by omega), if_pos (by omega), if_pos (by omega), if_neg h0]
theorem or3 (a b c : Int) : Ev (fun k => cmp_Or_int.f k [a, b, c]) (if a = 0 then (if b = 0 then c else b) else a) := by
  have s3 : Ev (fun k => cmp_Or_int.l0 k 0 [a, b, c] 3 3) 0 := Ev.step (f := fun _ => some 0) (fun k => by simp only [cmp_Or_int.l0]; rw [if_neg (by omega)]) (Ev.now _)
  have s2 : Ev (fun k => cmp_Or_int.l0 k 0 [a, b, c] 3 2) c := by
    by_cases h : c = 0
    · subst h
      exact Ev.step (fun k => by simp only [cmp_Or_int.l0]; rw [if_pos (by omega), if_pos (by omega), if_pos (by simp), if_pos (by rfl), w64 (by omega) (by omega)]; rfl) s3
    · exact Ev.step (f := fun _ => some c) (fun k => by simp only [cmp_Or_int.l0]; rw [if_pos (by omega), if_pos (by omega), if_pos (by simp), if_neg (by exact h)]; rfl) (Ev.now _)
  have s1 : Ev (fun k => cmp_Or_int.l0 k 0 [a, b, c] 3 1) (if b = 0 then c else b) := by
    by_cases h : b = 0
    · subst h
      rw [if_pos rfl]
      exact Ev.step (fun k => by simp only [cmp_Or_int.l0]; rw [if_pos (by omega), if_pos (by omega), if_pos (by simp), if_pos (by rfl), w64 (by omega) (by omega)]; rfl) s2
    · rw [if_neg h]
      exact Ev.step (f := fun _ => some b) (fun k => by simp only [cmp_Or_int.l0]; rw [if_pos (by omega), if_pos (by omega), if_pos (by simp), if_neg (by exact h)]; rfl) (Ev.now _)
  have s0 : Ev (fun k => cmp_Or_int.l0 k 0 [a, b, c] 3 0) (if a = 0 then (if b = 0 then c else b) else a) := by
    by_cases h : a = 0
    · subst h
      rw [if_pos rfl]
      exact Ev.step (fun k => by simp only [cmp_Or_int.l0]; rw [if_pos (by omega), if_pos (by omega), if_pos (by simp), if_pos (by rfl), w64 (by omega) (by omega)]; rfl) s1
    · rw [if_neg h]
      exact Ev.step (f := fun _ => some a) (fun k => by simp only [cmp_Or_int.l0]; rw [if_pos (by omega), if_pos (by omega), if_pos (by simp), if_neg (by exact h)]; rfl) (Ev.now _)
  exact Ev.congr (fun k => by unfold cmp_Or_int.f; rfl) s0

theorem size_lt {x y : S74} (h : y ∈ x.f4) : SizeOf.sizeOf y < SizeOf.sizeOf x := by
  have := List.sizeOf_lt_of_mem h
  cases x
  simp at this ⊢
  omega
theorem both (n : Nat) : ∀ x y : S74, SizeOf.sizeOf x < n → G74 x → ∃ r, Ev (fun k => conf_Compare.f k x.f0 x.f1 x.f2 x.f3 x.f4 x.f5 y.f0 y.f1 y.f2 y.f3 y.f4 y.f5) r ∧ Ev (fun k => mastref2_CompareOf.f k x.f0 x.f1 x.f2 x.f3 x.f4 x.f5 y.f0 y.f1 y.f2 y.f3 y.f4 y.f5) r := by
  induction n with
  | zero => intro x y h; omega
  | succ n ih =>
    intro x y hn hg
    obtain ⟨_, _, _, _, g4, g5⟩ := G74_open hg
    obtain ⟨rI, i1, i2⟩ := items x y (by omega) (fun a ha b => ih a b (by have := size_lt ha; omega) (g4.2.2 a ha)) x.f4.length 0 (by omega)
    -- the program, from the four small comparisons on
    have P : ∀ r, (∀ (L : List Int), L = [sgn x.f0 y.f0, sgn (if x.f1 = true then 1 else 0) (if y.f1 = true then 1 else 0), sgn x.f2 y.f2, cstr x.f3 y.f3] → Ev (fun k => conf_Compare.l0 k L (L.length : Int) 0 x.f0 x.f1 x.f2 x.f3 x.f4 x.f5 y.f0 y.f1 y.f2 y.f3 y.f4 y.f5) r) → Ev (fun k => conf_Compare.f k x.f0 x.f1 x.f2 x.f3 x.f4 x.f5 y.f0 y.f1 y.f2 y.f3 y.f4 y.f5) r := by
      intro r h
      refine Ev.step (fun k => ?_) (h _ rfl)
      simp only [conf_Compare.f]
      rw [sgn_f, bit_f, bit_f]
      simp only [Option.bind_some]
      rw [sgn_f, sgn_f, cstr_f]
      rfl
    have F := fun (L : List Int) (hL : L = [sgn x.f0 y.f0, sgn (if x.f1 = true then 1 else 0) (if y.f1 = true then 1 else 0), sgn x.f2 y.f2, cstr x.f3 y.f3]) (r : Int) => first L x y (by rw [hL]; simp) (r := r) 4 0 (by rw [hL]; rfl)
    by_cases c0 : sgn x.f0 y.f0 = 0
    case neg =>
      refine ⟨sgn x.f0 y.f0, P _ (fun L hL => F L hL _ (fun h => absurd (h _ (by rw [hL]; simp)) c0) (fun c hc => by rw [hL] at hc; simpa [c0] using hc)), ?_⟩
      refine Ev.step (f := fun _ => some _) (fun k => ?_) (Ev.now _)
      simp only [mastref2_CompareOf.f]
      rw [cmpInt_f]
      simp only [Option.bind_some]
      rw [if_neg c0]
    by_cases cb : x.f1 = y.f1
    case neg =>
      refine ⟨if y.f1 = true then -1 else 1, P _ (fun L hL => F L hL _ (fun h => ?_) (fun c hc => ?_)), ?_⟩
      · have := h (sgn (if x.f1 = true then 1 else 0) (if y.f1 = true then 1 else 0)) (by rw [hL]; simp)
        revert this cb
        cases x.f1 <;> cases y.f1 <;> simp [sgn]
      · rw [hL] at hc
        revert hc cb
        cases x.f1 <;> cases y.f1 <;> simp [sgn, c0, sgn_zero.1 c0]
      · refine Ev.step (f := fun _ => some _) (fun k => ?_) (Ev.now _)
        simp only [mastref2_CompareOf.f]
        rw [cmpInt_f]
        simp only [Option.bind_some]
        rw [if_pos c0, if_pos (by simpa using cb)]
        split <;> rfl
    have hb0 : sgn (if x.f1 = true then (1 : Int) else 0) (if y.f1 = true then 1 else 0) = 0 := by rw [cb]; exact sgn_zero.2 rfl
    obtain ⟨c, k1, k2⟩ := keys x y (by omega) x.f5.length 0 (by omega) (by omega)
    have R : ∀ r, Ev (fun k => if (if sgn x.f2 y.f2 = 0 then (if cstr x.f3 y.f3 = 0 then c else cstr x.f3 y.f3) else sgn x.f2 y.f2) = 0 then (mastref2_CompareOf.l0 k 0 x.f0 x.f1 x.f2 x.f3 x.f4 x.f5 y.f0 y.f1 y.f2 y.f3 y.f4 y.f5) else some (if sgn x.f2 y.f2 = 0 then (if cstr x.f3 y.f3 = 0 then c else cstr x.f3 y.f3) else sgn x.f2 y.f2)) r → Ev (fun k => mastref2_CompareOf.f k x.f0 x.f1 x.f2 x.f3 x.f4 x.f5 y.f0 y.f1 y.f2 y.f3 y.f4 y.f5) r := by
      intro r h
      refine Ev.step (f := fun k => (slices_Compare_string_string.f k x.f5 y.f5).bind fun t134 => ((cmp_Or_int.f k (([sgn x.f2 y.f2, cstr x.f3 y.f3, t134] : List Int))).bind fun t138 => (if t138 = 0 then (mastref2_CompareOf.l0 k 0 x.f0 x.f1 x.f2 x.f3 x.f4 x.f5 y.f0 y.f1 y.f2 y.f3 y.f4 y.f5) else (some t138)))) (fun k => ?_) ?_
      · simp only [mastref2_CompareOf.f]
        rw [cmpInt_f]
        simp only [Option.bind_some]
        rw [if_pos c0, if_neg (by simpa using cb), cmpInt_f, cstr_f]
        rfl
      · exact Ev.bind (Ev.congr (fun k => by unfold slices_Compare_string_string.f; rfl) k1) (Ev.bind (or3 _ _ _) h)
    by_cases c2 : sgn x.f2 y.f2 = 0
    case neg =>
      refine ⟨sgn x.f2 y.f2, P _ (fun L hL => F L hL _ (fun h => absurd (h _ (by rw [hL]; simp)) c2) (fun c hc => by rw [hL] at hc; simpa [c0, hb0, c2] using hc)), R _ (Ev.congr (f := fun _ => some (sgn x.f2 y.f2)) (fun k => ?_) (Ev.now _))⟩
      rw [if_neg c2, if_neg c2]
    by_cases c3 : cstr x.f3 y.f3 = 0
    case neg =>
      refine ⟨cstr x.f3 y.f3, P _ (fun L hL => F L hL _ (fun h => absurd (h _ (by rw [hL]; simp)) c3) (fun c hc => by rw [hL] at hc; simpa [c0, hb0, c2, c3] using hc)), R _ (Ev.congr (f := fun _ => some (cstr x.f3 y.f3)) (fun k => ?_) (Ev.now _))⟩
      rw [if_pos c2, if_neg c3, if_neg c3]
    refine ⟨if c = 0 then rI else c, P _ (fun L hL => F L hL _ (fun h => k2 _ (fun h0 => by rw [if_pos h0]; exact i1) (fun h0 => if_neg h0)) (fun d hd => by rw [hL] at hd; simp [c0, hb0, c2, c3] at hd)), R _ ?_⟩
    rw [if_pos c2, if_pos c3]
    by_cases h0 : c = 0
    · rw [if_pos h0]
      exact Ev.congr (fun k => if_pos h0) i2
    · rw [if_neg h0]
      exact Ev.congr (fun k => if_neg h0) (Ev.now _)
end Go.Proofs.Ytmjfjjnmdljkeaa.Pure.ConfCompares
namespace Go.Proofs.Ytmjfjjnmdljkeaa.Pure
open Go.RowKit Go.Proofs.Ytmjfjjnmdljkeaa.GConfCompares Go.Proofs.YtmjfjjnmdljkeaaW.PrintWords Go.Proofs.YtmjfjjnmdljkeaaW.PrintLast
/-- The pure statement. -/
theorem ConfCompares : mastlaw2_ConfCompares.Pure := by
  intro x y hx _
  refine Ev.rounds (g := fun k => mastlaw2_ConfCompares.f k x.f0 x.f1 x.f2 x.f3 x.f4 x.f5 y.f0 y.f1 y.f2 y.f3 y.f4 y.f5) ?_
  unfold mastlaw2_ConfCompares.f
  obtain ⟨r, e1, e2⟩ := ConfCompares.both (SizeOf.sizeOf x + 1) x y (by omega) hx
  exact Ev.bind e1 (Ev.bind e2 (Ev.congr (f := fun _ => some true) (fun k => by simp) (Ev.now _)))
end Go.Proofs.Ytmjfjjnmdljkeaa.Pure
