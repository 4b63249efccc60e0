/- A text's base-64 spelling and the way back are the reference's, bit by bit, with the same errors. Conditions: none. -/
import Derived.Test.YtmjfjjnmdljkeaaGAssetCodesOp
import Derived.Laws.BitsLemmas
namespace Go.Proofs.Ytmjfjjnmdljkeaa.Pure.AssetCodes
set_option linter.unusedVariables false
set_option linter.unusedSimpArgs false
open Go.RowKit Go.Proofs.Ytmjfjjnmdljkeaa.GAssetCodes Go.Proofs.YtmjfjjnmdljkeaaW.PrintWords Go.Proofs.YtmjfjjnmdljkeaaW.PrintLast Go.Proofs.YtmjfjjnmdljkeaaW.PrintMore

theorem w64 {x : Int} (h0 : -9223372036854775808 ≤ x) (h1 : x < 9223372036854775808) : wrap64 x = x := by unfold wrap64; omega
theorem wraps_i64 (n : Int) (h0 : 0 ≤ n) (h1 : n < 2 ^ 62) : IntKind.i64.wrap n = n := by rw [IntKind.wrap_i64]; omega
theorem and63 {x : Int} (h0 : 0 ≤ x) (h1 : x < 16777216) : Go.bits .and .i64 x 63 = x % 64 := bits_mask .i64 62 (by decide) wraps_i64 6 (by decide) x h0 (by omega)
theorem and1 {x : Int} (h0 : 0 ≤ x) (h1 : x < 16777216) : Go.bits .and .i64 x 1 = x % 2 := bits_mask .i64 62 (by decide) wraps_i64 1 (by decide) x h0 (by omega)
theorem and1b {x : Int} (h0 : 0 ≤ x) (h1 : x < 256) : Go.bits .and .u8 x 1 = x % 2 := bits_mask .u8 8 (by decide) wraps_u8 1 (by decide) x h0 h1
abbrev tab : ByteArray := ⟨#[65, 66, 67, 68, 69, 70, 71, 72, 73, 74, 75, 76, 77, 78, 79, 80, 81, 82, 83, 84, 85, 86, 87, 88, 89, 90, 97, 98, 99, 100, 101, 102, 103, 104, 105, 106, 107, 108, 109, 110, 111, 112, 113, 114, 115, 116, 117, 118, 119, 120, 121, 122, 48, 49, 50, 51, 52, 53, 54, 55, 56, 57, 45, 95]⟩
def T (v : Int) : Int := bt tab v
theorem drop_bt (s : ByteArray) (i : Nat) (h : i < s.size) : (bytesOf s).drop i = bt s (i : Int) :: (bytesOf s).drop (i + 1) := by
  have hl : i < (bytesOf s).length := by rw [bytesOf_length]; exact h
  rw [List.drop_eq_getElem_cons hl, ← rd_bytesOf]
  simp [rd, List.getElem?_eq_getElem hl]
theorem of_drop {s : ByteArray} {i : Nat} {a : Int} {R : List Int} (h : (bytesOf s).drop i = a :: R) : i < s.size ∧ bt s (i : Int) = a ∧ (bytesOf s).drop (i + 1) = R := by
  have hl : i < s.size := by
    rcases Nat.lt_or_ge i s.size with h1 | h1
    · exact h1
    · rw [List.drop_eq_nil_of_le (by rw [bytesOf_length]; exact h1)] at h; cases h
  rw [drop_bt s i hl] at h
  injection h with h1 h2
  exact ⟨hl, h1, h2⟩
theorem of_drop_nil {s : ByteArray} {i : Nat} (h : (bytesOf s).drop i = []) : s.size ≤ i := by
  have := congrArg List.length h
  rw [List.length_drop, bytesOf_length] at this
  simp at this
  omega

/-! ### Encoding -/
def enc : List Int → List Int
  | [] => []
  | [a] => [T (a * 65536 / 262144 % 64), T (a * 65536 / 4096 % 64)]
  | [a, b] => [T ((a * 65536 + b * 256) / 262144 % 64), T ((a * 65536 + b * 256) / 4096 % 64), T ((a * 65536 + b * 256) / 64 % 64)]
  | a :: b :: c :: r => T ((a * 65536 + b * 256 + c) / 262144 % 64) :: T ((a * 65536 + b * 256 + c) / 4096 % 64) :: T ((a * 65536 + b * 256 + c) / 64 % 64) :: T ((a * 65536 + b * 256 + c) % 64) :: enc r

section
variable {s : ByteArray} {acc : List Int} {r : ByteArray × Int}
theorem e1_in (i j : Nat) (n m n' : Int) (hj : j < 3) (hm : (j : Int) < m) (hi : i + j < s.size) (hs : s.size ≤ 20000) (h0 : 0 ≤ n) (h1 : n < 65536) (hn : n' = n * 256 + bt s ((i + j : Nat) : Int))
    (e : Ev (fun k => asset_Encode64.l1 k s acc (i : Int) n' m ((j + 1 : Nat) : Int)) r) : Ev (fun k => asset_Encode64.l1 k s acc (i : Int) n m (j : Int)) r := by
  refine Ev.step (fun k => ?_) e
  have hb := bt_range s ((i + j : Nat) : Int)
  simp only [asset_Encode64.l1]
  rw [w64 (x := (i : Int) + (j : Int)) (by omega) (by omega), show (i : Int) + (j : Int) = ((i + j : Nat) : Int) from by omega, if_pos (by omega), if_pos hm, if_pos (by omega), if_pos (by omega), w64 (x := bt s _) (by omega) (by omega), w64 (x := n * 256) (by omega) (by omega), w64 (by omega) (by omega), w64 (x := (j : Int) + 1) (by omega) (by omega), hn]
  rfl
theorem e1_out (i j : Nat) (n m n' : Int) (hj : j < 3) (hm : ¬ (j : Int) < m) (h0 : 0 ≤ n) (h1 : n < 65536) (hn : n' = n * 256)
    (e : Ev (fun k => asset_Encode64.l1 k s acc (i : Int) n' m ((j + 1 : Nat) : Int)) r) : Ev (fun k => asset_Encode64.l1 k s acc (i : Int) n m (j : Int)) r := by
  refine Ev.step (fun k => ?_) e
  simp only [asset_Encode64.l1]
  rw [if_pos (by omega), if_neg hm, w64 (x := n * 256) (by omega) (by omega), w64 (x := (j : Int) + 1) (by omega) (by omega), hn]
  rfl
theorem e1_end (i : Nat) (n m m' : Int) (h0 : 0 ≤ m) (h1 : m < 4) (hm : m' = m + 1) (e : Ev (fun k => asset_Encode64.l2 k s acc (i : Int) n m' ((0 : Nat) : Int)) r) : Ev (fun k => asset_Encode64.l1 k s acc (i : Int) n m ((3 : Nat) : Int)) r := by
  refine Ev.step (fun k => ?_) e
  simp only [asset_Encode64.l1]
  rw [if_neg (by omega), w64 (by omega) (by omega), hm]
  rfl
theorem e2_in (i j : Nat) (n m q : Int) (hj : j < 4) (hm : (j : Int) < m) (hq : q = n / 2 ^ (18 - 6 * j) % 64) (h0 : 0 ≤ n) (h1 : n < 16777216) (ha : acc.length ≤ 100000)
    (e : Ev (fun k => asset_Encode64.l2 k s (acc ++ [T q]) (i : Int) n m ((j + 1 : Nat) : Int)) r) : Ev (fun k => asset_Encode64.l2 k s acc (i : Int) n m (j : Int)) r := by
  refine Ev.step (fun k => ?_) e
  have hd : n / 2 ^ (18 - 6 * j) ≤ n := Int.ediv_le_self _ h0
  have hd0 : 0 ≤ n / 2 ^ (18 - 6 * j) := Int.ediv_nonneg h0 (Int.pow_nonneg (by decide))
  have hsh : shr .i64 n (18 - 6 * (j : Int)) = n / 2 ^ (18 - 6 * j) := by
    unfold shr
    rw [show (18 - 6 * (j : Int)).toNat = 18 - 6 * j from by omega, Nat.min_eq_left (by show _ ≤ 64; omega)]
  simp only [asset_Encode64.l2]
  rw [w64 (x := 6 * (j : Int)) (by omega) (by omega), w64 (x := 18 - 6 * (j : Int)) (by omega) (by omega), hsh, and63 hd0 (by omega), if_pos hm, if_pos (by omega), if_pos (by omega), if_pos (by omega), if_pos (by omega), w64 (x := (j : Int) + 1) (by omega) (by omega), ← hq]
  rfl
theorem e2_end (i j : Nat) (n m : Int) (hm : ¬ (j : Int) < m) (hi : i ≤ 30000) (e : Ev (fun k => asset_Encode64.l0 k s acc ((i + 3 : Nat) : Int)) r) : Ev (fun k => asset_Encode64.l2 k s acc (i : Int) n m (j : Int)) r := by
  refine Ev.step (fun k => ?_) e
  simp only [asset_Encode64.l2]
  rw [if_neg hm, w64 (x := (i : Int) + 3) (by omega) (by omega)]
  rfl
theorem e0_in (i : Nat) (m : Int) (hi : i < s.size) (hs : s.size ≤ 20000) (hm : m = if (s.size : Int) - i < 3 then (s.size : Int) - i else 3) (e : Ev (fun k => asset_Encode64.l1 k s acc (i : Int) 0 m ((0 : Nat) : Int)) r) : Ev (fun k => asset_Encode64.l0 k s acc (i : Int)) r := by
  refine Ev.step (fun k => ?_) e
  simp only [asset_Encode64.l0]
  rw [if_pos (by omega), w64 (x := (s.size : Int) - i) (by omega) (by omega), hm]
  rfl
theorem e0_end (i : Nat) (hi : s.size ≤ i) : Ev (fun k => asset_Encode64.l0 k s acc (i : Int)) (strOfNums acc, 0) := by
  refine Ev.step (f := fun _ => some (strOfNums acc, 0)) (fun k => ?_) (Ev.now _)
  simp only [asset_Encode64.l0]
  rw [if_neg (by omega)]
end

theorem encode (s : ByteArray) (hs : s.size ≤ 20000) : ∀ (R : List Int) (i : Nat) (acc : List Int), (bytesOf s).drop i = R → acc.length ≤ 2 * i → Ev (fun k => asset_Encode64.l0 k s acc (i : Int)) (strOfNums (acc ++ enc R), 0) := by
  intro R
  induction R using enc.induct with
  | case1 =>
    intro i acc h ha
    have := e0_end (s := s) (acc := acc) i (of_drop_nil h)
    rwa [enc, List.append_nil]
  | case2 a =>
    intro i acc h ha
    obtain ⟨l0, rfl, h1⟩ := of_drop h
    have l1 := of_drop_nil h1
    have r0 := bt_range s (i : Int)
    refine e0_in i 1 l0 hs (by split <;> omega) ?_
    refine e1_in i 0 0 1 (bt s i) (by omega) (by omega) (by omega) hs (by omega) (by omega) (by simp) ?_
    refine e1_out i 1 _ 1 (bt s i * 256) (by omega) (by omega) (by omega) (by omega) (by omega) ?_
    refine e1_out i 2 _ 1 (bt s i * 65536) (by omega) (by omega) (by omega) (by omega) (by omega) ?_
    refine e1_end i _ 1 2 (by omega) (by omega) (by omega) ?_
    refine e2_in i 0 _ 2 (bt s i * 65536 / 262144 % 64) (by omega) (by omega) rfl (by omega) (by omega) (by omega) ?_
    refine e2_in i 1 _ 2 (bt s i * 65536 / 4096 % 64) (by omega) (by omega) rfl (by omega) (by omega) (by simp; omega) ?_
    refine e2_end i 2 _ 2 (by omega) (by omega) ?_
    have := e0_end (s := s) (acc := acc ++ [T (bt s i * 65536 / 262144 % 64)] ++ [T (bt s i * 65536 / 4096 % 64)]) (i + 3) (by omega)
    simpa only [enc, List.append_assoc, List.cons_append, List.nil_append] using this
  | case3 a b =>
    intro i acc h ha
    obtain ⟨l0, rfl, h1⟩ := of_drop h
    obtain ⟨l1, rfl, h2⟩ := of_drop h1
    have l2 := of_drop_nil h2
    have r0 := bt_range s (i : Int)
    have r1 := bt_range s ((i + 1 : Nat) : Int)
    refine e0_in i 2 l0 hs (by split <;> omega) ?_
    refine e1_in i 0 0 2 (bt s i) (by omega) (by omega) (by omega) hs (by omega) (by omega) (by simp) ?_
    refine e1_in i 1 _ 2 (bt s i * 256 + bt s ((i + 1 : Nat) : Int)) (by omega) (by omega) (by omega) hs (by omega) (by omega) (by omega) ?_
    refine e1_out i 2 _ 2 (bt s i * 65536 + bt s ((i + 1 : Nat) : Int) * 256) (by omega) (by omega) (by omega) (by omega) (by omega) ?_
    refine e1_end i _ 2 3 (by omega) (by omega) (by omega) ?_
    refine e2_in i 0 _ 3 ((bt s i * 65536 + bt s ((i + 1 : Nat) : Int) * 256) / 262144 % 64) (by omega) (by omega) rfl (by omega) (by omega) (by omega) ?_
    refine e2_in i 1 _ 3 ((bt s i * 65536 + bt s ((i + 1 : Nat) : Int) * 256) / 4096 % 64) (by omega) (by omega) rfl (by omega) (by omega) (by simp; omega) ?_
    refine e2_in i 2 _ 3 ((bt s i * 65536 + bt s ((i + 1 : Nat) : Int) * 256) / 64 % 64) (by omega) (by omega) rfl (by omega) (by omega) (by simp; omega) ?_
    refine e2_end i 3 _ 3 (by omega) (by omega) ?_
    have := e0_end (s := s) (acc := acc ++ enc [bt s i, bt s ((i + 1 : Nat) : Int)]) (i + 3) (by omega)
    simpa only [enc, List.append_assoc, List.cons_append, List.nil_append] using this
  | case4 a b c R ih =>
    intro i acc h ha
    obtain ⟨l0, rfl, h1⟩ := of_drop h
    obtain ⟨l1, rfl, h2⟩ := of_drop h1
    obtain ⟨l2, hc, h3⟩ := of_drop h2
    have hc : bt s ((i + 2 : Nat) : Int) = c := hc
    subst hc
    have r0 := bt_range s (i : Int)
    have r1 := bt_range s ((i + 1 : Nat) : Int)
    have r2 := bt_range s ((i + 2 : Nat) : Int)
    refine e0_in i 3 l0 hs (by split <;> omega) ?_
    refine e1_in i 0 0 3 (bt s i) (by omega) (by omega) (by omega) hs (by omega) (by omega) (by simp) ?_
    refine e1_in i 1 _ 3 (bt s i * 256 + bt s ((i + 1 : Nat) : Int)) (by omega) (by omega) (by omega) hs (by omega) (by omega) (by omega) ?_
    refine e1_in i 2 _ 3 (bt s i * 65536 + bt s ((i + 1 : Nat) : Int) * 256 + bt s ((i + 2 : Nat) : Int)) (by omega) (by omega) (by omega) hs (by omega) (by omega) (by omega) ?_
    refine e1_end i _ 3 4 (by omega) (by omega) (by omega) ?_
    refine e2_in i 0 _ 4 ((bt s i * 65536 + bt s ((i + 1 : Nat) : Int) * 256 + bt s ((i + 2 : Nat) : Int)) / 262144 % 64) (by omega) (by omega) rfl (by omega) (by omega) (by omega) ?_
    refine e2_in i 1 _ 4 ((bt s i * 65536 + bt s ((i + 1 : Nat) : Int) * 256 + bt s ((i + 2 : Nat) : Int)) / 4096 % 64) (by omega) (by omega) rfl (by omega) (by omega) (by simp; omega) ?_
    refine e2_in i 2 _ 4 ((bt s i * 65536 + bt s ((i + 1 : Nat) : Int) * 256 + bt s ((i + 2 : Nat) : Int)) / 64 % 64) (by omega) (by omega) rfl (by omega) (by omega) (by simp; omega) ?_
    refine e2_in i 3 _ 4 ((bt s i * 65536 + bt s ((i + 1 : Nat) : Int) * 256 + bt s ((i + 2 : Nat) : Int)) % 64) (by omega) (by omega) (by rw [show 18 - 6 * 3 = 0 from rfl, Int.pow_zero, Int.ediv_one]) (by omega) (by omega) (by simp; omega) ?_
    refine e2_end i 4 _ 4 (by omega) (by omega) ?_
    have := ih (i + 3) (acc ++ [T ((bt s i * 65536 + bt s ((i + 1 : Nat) : Int) * 256 + bt s ((i + 2 : Nat) : Int)) / 262144 % 64), T ((bt s i * 65536 + bt s ((i + 1 : Nat) : Int) * 256 + bt s ((i + 2 : Nat) : Int)) / 4096 % 64), T ((bt s i * 65536 + bt s ((i + 1 : Nat) : Int) * 256 + bt s ((i + 2 : Nat) : Int)) / 64 % 64), T ((bt s i * 65536 + bt s ((i + 1 : Nat) : Int) * 256 + bt s ((i + 2 : Nat) : Int)) % 64)]) h3 (by simp; omega)
    simpa only [enc, List.append_assoc, List.cons_append, List.nil_append] using this

/-! ### The reference's encoding -/
def bits8 (a : Int) : List Int := [a / 128 % 2, a / 64 % 2, a / 32 % 2, a / 16 % 2, a / 8 % 2, a / 4 % 2, a / 2 % 2, a % 2]
def out6 : List Int → List Int
  | a :: b :: c :: d :: e :: f :: r => T (32 * a + 16 * b + 8 * c + 4 * d + 2 * e + f) :: out6 r
  | _ => []
def bad (X : List Int) : Prop := ¬ ∀ b ∈ X, 0 ≤ b ∧ b ≤ 1
section
variable {s : ByteArray} {acc : List Int} {r : ByteArray × Int}
theorem f1_in (i : Nat) (j j' q : Int) (hj : 0 ≤ j) (hj7 : j ≤ 7) (hj' : j' = j - 1) (hi : i < s.size) (ha : acc.length ≤ 200000) (hq : q = bt s (i : Int) / 2 ^ j.toNat % 2)
    (e : Ev (fun k => mastref2_Encode64Of.l1 k s (acc ++ [q]) (i : Int) j') r) : Ev (fun k => mastref2_Encode64Of.l1 k s acc (i : Int) j) r := by
  refine Ev.step (fun k => ?_) e
  have hb := bt_range s (i : Int)
  have hd : bt s (i : Int) / 2 ^ j.toNat ≤ bt s (i : Int) := Int.ediv_le_self _ hb.1
  have hd0 : 0 ≤ bt s (i : Int) / 2 ^ j.toNat := Int.ediv_nonneg hb.1 (Int.pow_nonneg (by decide))
  have hsh : shr .u8 (bt s (i : Int)) j = bt s (i : Int) / 2 ^ j.toNat := by
    unfold shr
    rw [Nat.min_eq_left (by show _ ≤ 8; omega)]
  simp only [mastref2_Encode64Of.l1]
  rw [if_pos (by omega), if_pos (by omega), if_pos (by omega), if_pos (by omega), if_pos (by omega), hsh, and1b hd0 (by omega), w64 (x := j - 1) (by omega) (by omega), ← hq, ← hj']
theorem f1_end (i : Nat) (hi : i ≤ 30000) (e : Ev (fun k => mastref2_Encode64Of.l0 k s acc ((i + 1 : Nat) : Int)) r) : Ev (fun k => mastref2_Encode64Of.l1 k s acc (i : Int) (-1)) r := by
  refine Ev.step (fun k => ?_) e
  simp only [mastref2_Encode64Of.l1]
  rw [if_neg (by omega), w64 (x := (i : Int) + 1) (by omega) (by omega)]
  rfl
end
theorem ref_bits (s : ByteArray) (hs : s.size ≤ 20000) {r : ByteArray × Int} : ∀ (R : List Int) (i : Nat) (acc : List Int), (bytesOf s).drop i = R → acc.length = 8 * i →
    Ev (fun k => mastref2_Encode64Of.l2 k (acc ++ R.flatMap bits8)) r → Ev (fun k => mastref2_Encode64Of.l0 k s acc (i : Int)) r := by
  intro R
  induction R with
  | nil =>
    intro i acc h ha e
    have := of_drop_nil h
    rw [List.flatMap_nil, List.append_nil] at e
    refine Ev.step (fun k => ?_) e
    simp only [mastref2_Encode64Of.l0]
    rw [if_neg (by omega)]
  | cons a R ih =>
    intro i acc h ha e
    obtain ⟨l0, rfl, h1⟩ := of_drop h
    refine Ev.step (f := fun k => mastref2_Encode64Of.l1 k s acc (i : Int) 7) (fun k => by simp only [mastref2_Encode64Of.l0]; rw [if_pos (by omega)]) ?_
    refine f1_in i 7 6 _ (by omega) (by omega) (by omega) l0 (by omega) rfl ?_
    refine f1_in i 6 5 _ (by omega) (by omega) (by omega) l0 (by simp; omega) rfl ?_
    refine f1_in i 5 4 _ (by omega) (by omega) (by omega) l0 (by simp; omega) rfl ?_
    refine f1_in i 4 3 _ (by omega) (by omega) (by omega) l0 (by simp; omega) rfl ?_
    refine f1_in i 3 2 _ (by omega) (by omega) (by omega) l0 (by simp; omega) rfl ?_
    refine f1_in i 2 1 _ (by omega) (by omega) (by omega) l0 (by simp; omega) rfl ?_
    refine f1_in i 1 0 _ (by omega) (by omega) (by omega) l0 (by simp; omega) rfl ?_
    refine f1_in i 0 (-1) _ (by omega) (by omega) (by omega) l0 (by simp; omega) rfl ?_
    refine f1_end i (by omega) ?_
    have e2 : Ev (fun k => mastref2_Encode64Of.l2 k ((acc ++ bits8 (bt s (i : Int))) ++ R.flatMap bits8)) r := by rwa [List.flatMap_cons, ← List.append_assoc] at e
    have := ih (i + 1) (acc ++ bits8 (bt s (i : Int))) h1 (by simp [bits8]; omega) e2
    simp only [List.append_assoc, List.cons_append, List.nil_append]
    simpa [bits8] using this
def pad (X : List Int) : List Int := X ++ List.replicate ((6 - X.length % 6) % 6) 0
theorem ref_pad {r : ByteArray × Int} : ∀ (m : Nat) (X : List Int), (6 - X.length % 6) % 6 = m → X.length + m ≤ 200000 → Ev (fun k => mastref2_Encode64Of.l3 k (pad X) [] 0) r → Ev (fun k => mastref2_Encode64Of.l2 k X) r := by
  intro m
  induction m with
  | zero =>
    intro X hm hX e
    unfold pad at e
    rw [hm, List.replicate_zero, List.append_nil] at e
    refine Ev.step (fun k => ?_) e
    simp only [mastref2_Encode64Of.l2]
    rw [if_pos (by omega)]
  | succ m ih =>
    intro X hm hX e
    have hl : (X ++ [0]).length = X.length + 1 := by simp
    refine Ev.step (fun k => ?_) (ih (X ++ [0]) (by rw [hl]; omega) (by rw [hl]; omega) ?_)
    · simp only [mastref2_Encode64Of.l2]
      rw [if_neg (by omega), if_pos (by omega)]
    · have : pad (X ++ [0]) = pad X := by
        unfold pad
        rw [hm, show (6 - (X ++ [(0 : Int)]).length % 6) % 6 = m from by rw [hl]; omega, List.replicate_succ, List.append_assoc]
        rfl
      rwa [this]
theorem ref_chunks (X : List Int) (hX : ∀ b ∈ X, 0 ≤ b ∧ b ≤ 1) (h6 : X.length % 6 = 0) (hn : X.length ≤ 300000) : ∀ (R : List Int) (i : Nat) (acc : List Int), X.drop i = R → i % 6 = 0 → acc.length ≤ i →
    Ev (fun k => mastref2_Encode64Of.l3 k X acc (i : Int)) (strOfNums (acc ++ out6 R), 0) := by
  intro R
  induction R using out6.induct with
  | case1 a b c d e f R ih =>
    intro i acc h hi ha
    have hl := congrArg List.length h
    rw [List.length_drop] at hl
    simp only [List.length_cons] at hl
    have hm : ∀ x ∈ (a :: b :: c :: d :: e :: f :: R), 0 ≤ x ∧ x ≤ 1 := fun x hx => hX x (List.mem_of_mem_drop (h ▸ hx))
    simp only [List.mem_cons, forall_eq_or_imp] at hm
    obtain ⟨ma, mb, mc, md, me, mf, _⟩ := hm
    have hy : (X.take ((i : Int) + 6).toNat).drop (i : Int).toNat = [a, b, c, d, e, f] := by
      rw [show ((i : Int) + 6).toNat = i + 6 from by omega, show (i : Int).toNat = i from by omega, List.drop_take, h]
      simp
    have step : ∀ (n x : Int) (Y : List Int) (j : Nat) (m : Int), 0 ≤ n → n < 64 → 0 ≤ x → x ≤ 1 → j < 6 → Y.length = 6 → rd Y (j : Int) = x → m = 2 * n + x →
        Ev (fun k => mastref2_Encode64Of.l4 k X acc (i : Int) m Y 6 ((j + 1 : Nat) : Int)) (strOfNums (acc ++ out6 (a :: b :: c :: d :: e :: f :: R)), 0) →
        Ev (fun k => mastref2_Encode64Of.l4 k X acc (i : Int) n Y 6 (j : Int)) (strOfNums (acc ++ out6 (a :: b :: c :: d :: e :: f :: R)), 0) := by
      intro n x Y j m h0 h1 h2 h3 h4 h5 h6 h7 e
      refine Ev.step (fun k => ?_) e
      simp only [mastref2_Encode64Of.l4]
      rw [if_pos (by omega), if_pos (by omega), if_pos (by omega), h6, w64 (x := 2 * n) (by omega) (by omega), w64 (x := x) (by omega) (by omega), w64 (x := 2 * n + x) (by omega) (by omega), w64 (x := (j : Int) + 1) (by omega) (by omega), h7]
      rfl
    refine Ev.step (f := fun k => mastref2_Encode64Of.l4 k X acc (i : Int) 0 [a, b, c, d, e, f] 6 ((0 : Nat) : Int)) (fun k => ?_) ?_
    · simp only [mastref2_Encode64Of.l3]
      rw [w64 (x := (i : Int) + 6) (by omega) (by omega), if_pos (by omega), if_pos (by omega), if_pos (by omega), if_pos (by omega), hy]
      rfl
    · refine step 0 a _ 0 a (by omega) (by omega) ma.1 ma.2 (by omega) rfl rfl (by omega) ?_
      refine step _ b _ 1 (2 * a + b) (by omega) (by omega) mb.1 mb.2 (by omega) rfl rfl (by omega) ?_
      refine step _ c _ 2 (4 * a + 2 * b + c) (by omega) (by omega) mc.1 mc.2 (by omega) rfl rfl (by omega) ?_
      refine step _ d _ 3 (8 * a + 4 * b + 2 * c + d) (by omega) (by omega) md.1 md.2 (by omega) rfl rfl (by omega) ?_
      refine step _ e _ 4 (16 * a + 8 * b + 4 * c + 2 * d + e) (by omega) (by omega) me.1 me.2 (by omega) rfl rfl (by omega) ?_
      refine step _ f _ 5 (32 * a + 16 * b + 8 * c + 4 * d + 2 * e + f) (by omega) (by omega) mf.1 mf.2 (by omega) rfl rfl (by omega) ?_
      have i2 := ih (i + 6) (acc ++ [T (32 * a + 16 * b + 8 * c + 4 * d + 2 * e + f)]) (by rw [← List.drop_drop, h]; rfl) (by omega) (by simp; omega)
      rw [List.append_assoc] at i2
      refine Ev.step (fun k => ?_) i2
      simp only [mastref2_Encode64Of.l4]
      rw [if_neg (by omega), if_pos (by omega), if_pos (by omega), if_pos (by omega), w64 (x := (i : Int) + 6) (by omega) (by omega)]
      rfl
  | case2 R hR =>
    intro i acc h hi ha
    have hl := congrArg List.length h
    rw [List.length_drop] at hl
    have hz : R.length < 6 := by
      match R, hR with
      | [], _ => simp
      | [_], _ => simp
      | [_, _], _ => simp
      | [_, _, _], _ => simp
      | [_, _, _, _], _ => simp
      | [_, _, _, _, _], _ => simp
      | a :: b :: c :: d :: e :: f :: r, hR => exact absurd rfl (hR a b c d e f r)
    have hR0 : R = [] := List.eq_nil_of_length_eq_zero (by omega)
    subst hR0
    refine Ev.step (f := fun _ => some (strOfNums acc, 0)) (fun k => ?_) (by rw [out6, List.append_nil]; exact Ev.now _; exact fun a b c d e f r h => by cases h)
    simp only [mastref2_Encode64Of.l3]
    rw [if_neg (by simp at hl; omega)]
theorem six (a : Int) (h0 : 0 ≤ a) (h1 : a < 256) : 32 * (a / 128 % 2) + 16 * (a / 64 % 2) + 8 * (a / 32 % 2) + 4 * (a / 16 % 2) + 2 * (a / 8 % 2) + a / 4 % 2 = a / 4 := by omega
theorem lo4 (a : Int) (h0 : 0 ≤ a) (h1 : a < 256) : 8 * (a / 8 % 2) + 4 * (a / 4 % 2) + 2 * (a / 2 % 2) + a % 2 = a % 16 := by omega
theorem hi4 (a : Int) (h0 : 0 ≤ a) (h1 : a < 256) : 8 * (a / 128 % 2) + 4 * (a / 64 % 2) + 2 * (a / 32 % 2) + a / 16 % 2 = a / 16 := by omega
theorem lo6 (a : Int) (h0 : 0 ≤ a) (h1 : a < 256) : 32 * (a / 32 % 2) + 16 * (a / 16 % 2) + 8 * (a / 8 % 2) + 4 * (a / 4 % 2) + 2 * (a / 2 % 2) + a % 2 = a % 64 := by omega
theorem bits_len : ∀ R : List Int, (R.flatMap bits8).length = 8 * R.length
  | [] => rfl
  | a :: R => by rw [List.flatMap_cons, List.length_append, bits_len R]; simp [bits8]; omega
theorem bits_mem (R : List Int) : ∀ b ∈ R.flatMap bits8, 0 ≤ b ∧ b ≤ 1 := by
  intro b hb
  obtain ⟨a, _, h⟩ := List.mem_flatMap.1 hb
  simp only [bits8, List.mem_cons, List.not_mem_nil, or_false] at h
  rcases h with rfl | rfl | rfl | rfl | rfl | rfl | rfl | rfl <;> omega
theorem pad_mem (X : List Int) (h : ∀ b ∈ X, 0 ≤ b ∧ b ≤ 1) : ∀ b ∈ pad X, 0 ≤ b ∧ b ≤ 1 := by
  intro b hb
  rcases List.mem_append.1 hb with h1 | h1
  · exact h b h1
  · rw [(List.mem_replicate.1 h1).2]; omega
theorem pad_len (X : List Int) : (pad X).length % 6 = 0 ∧ (pad X).length ≤ X.length + 5 := by
  unfold pad
  rw [List.length_append, List.length_replicate]
  omega
theorem out_enc : ∀ (R : List Int), (∀ b ∈ R, 0 ≤ b ∧ b ≤ 255) → out6 (pad (R.flatMap bits8)) = enc R := by
  intro R
  induction R using enc.induct with
  | case1 => intro _; rfl
  | case2 a =>
    intro h
    have ha := h a (by simp)
    have e : pad ([a].flatMap bits8) = [a / 128 % 2, a / 64 % 2, a / 32 % 2, a / 16 % 2, a / 8 % 2, a / 4 % 2, a / 2 % 2, a % 2, 0, 0, 0, 0] := by simp [pad, bits8, List.replicate_succ]
    rw [e]
    simp only [out6, enc]
    rw [six a ha.1 (by omega)]
    congr 1
    · congr 1; omega
    · congr 1; congr 1; omega
  | case3 a b =>
    intro h
    have ha := h a (by simp)
    have hb := h b (by simp)
    have e : pad ([a, b].flatMap bits8) = [a / 128 % 2, a / 64 % 2, a / 32 % 2, a / 16 % 2, a / 8 % 2, a / 4 % 2, a / 2 % 2, a % 2, b / 128 % 2, b / 64 % 2, b / 32 % 2, b / 16 % 2, b / 8 % 2, b / 4 % 2, b / 2 % 2, b % 2, 0, 0] := by simp [pad, bits8, List.replicate_succ]
    rw [e]
    have hb4 := hi4 b hb.1 (by omega)
    have lb4 := lo4 b hb.1 (by omega)
    simp only [out6, enc]
    rw [six a ha.1 (by omega)]
    congr 1
    · congr 1; omega
    · congr 1
      · congr 1; omega
      · congr 1; congr 1; omega
  | case4 a b c R ih =>
    intro h
    have ha := h a (by simp)
    have hb := h b (by simp)
    have hc := h c (by simp)
    have e : pad ((a :: b :: c :: R).flatMap bits8) = a / 128 % 2 :: a / 64 % 2 :: a / 32 % 2 :: a / 16 % 2 :: a / 8 % 2 :: a / 4 % 2 :: a / 2 % 2 :: a % 2 :: b / 128 % 2 :: b / 64 % 2 :: b / 32 % 2 :: b / 16 % 2 :: b / 8 % 2 :: b / 4 % 2 :: b / 2 % 2 :: b % 2 :: c / 128 % 2 :: c / 64 % 2 :: c / 32 % 2 :: c / 16 % 2 :: c / 8 % 2 :: c / 4 % 2 :: c / 2 % 2 :: c % 2 :: pad (R.flatMap bits8) := by
      simp only [pad, List.flatMap_cons, bits8, List.cons_append, List.nil_append, List.length_cons]
      have : (6 - ((R.flatMap bits8).length + 1 + 1 + 1 + 1 + 1 + 1 + 1 + 1 + 1 + 1 + 1 + 1 + 1 + 1 + 1 + 1 + 1 + 1 + 1 + 1 + 1 + 1 + 1 + 1) % 6) % 6 = (6 - (R.flatMap bits8).length % 6) % 6 := by omega
      rw [this]
    rw [e]
    have hb4 := hi4 b hb.1 (by omega)
    have lb4 := lo4 b hb.1 (by omega)
    simp only [out6, enc]
    rw [six a ha.1 (by omega), lo6 c hc.1 (by omega), ih (fun x hx => h x (by simp [hx]))]
    congr 1
    · congr 1; omega
    · congr 1
      · congr 1; omega
      · congr 1
        · congr 1; omega
        · congr 1; congr 1; omega
/-- The two encodings agree. -/
theorem encode_both (s : ByteArray) : ∃ r, Ev (fun k => asset_Encode64.f k s) r ∧ Ev (fun k => mastref2_Encode64Of.f k s) r := by
  by_cases hs : (s.size : Int) > 20000
  · exact ⟨_, Ev.congr (f := fun _ => some _) (fun k => by unfold asset_Encode64.f; rw [if_pos hs]) (Ev.now _), Ev.congr (f := fun _ => some _) (fun k => by unfold mastref2_Encode64Of.f; rw [if_pos hs]) (Ev.now _)⟩
  · have hs2 : s.size ≤ 20000 := by omega
    refine ⟨(strOfNums (enc (bytesOf s)), 0), Ev.congr (fun k => by unfold asset_Encode64.f; rw [if_neg hs]; rfl) (encode s hs2 _ 0 [] rfl (by simp)), Ev.congr (fun k => by unfold mastref2_Encode64Of.f; rw [if_neg hs]; rfl) (ref_bits s hs2 _ 0 [] rfl rfl ?_)⟩
    have hl := bits_len (bytesOf s)
    rw [bytesOf_length] at hl
    have hp := pad_len ((bytesOf s).flatMap bits8)
    refine ref_pad _ _ rfl (by simp only [List.drop_zero, List.nil_append]; omega) ?_
    have := ref_chunks (pad ((bytesOf s).flatMap bits8)) (pad_mem _ (bits_mem _)) hp.1 (by omega) _ 0 [] rfl (by omega) (by simp)
    rw [List.drop_zero, out_enc _ (fun b hb => by
      obtain ⟨c, _, rfl⟩ := List.mem_map.1 hb
      have := c.toNat_lt
      omega)] at this
    exact this

/-! ### Decoding -/
def V (c : Int) : Int := Lib.indexByte tab.data.toList c.toNat.toUInt8
theorem indexByte_lt (c : UInt8) : ∀ l : List UInt8, Lib.indexByte l c ≤ (l.length : Int) - 1
  | [] => by simp [Lib.indexByte]
  | b :: l => by
    have := indexByte_lt c l
    unfold Lib.indexByte
    rw [List.length_cons]
    split
    · omega
    · split <;> omega
theorem V_ge (c : Int) : -1 ≤ V c := Lib.indexByte_ge _ _
theorem V_lt (c : Int) : V c < 64 := by
  have := indexByte_lt c.toNat.toUInt8 tab.data.toList
  have e : tab.data.toList.length = 64 := rfl
  unfold V
  omega
theorem index_V (c : Int) : strings_IndexByte.f tab c = some (V c) := rfl
abbrev err : ByteArray × Int := ((⟨#[]⟩ : ByteArray), 8)
def ans (acc : List Int) : Option (List Int) → ByteArray × Int
  | none => err
  | some l => (strOfNums (acc ++ l), 0)
def decP : List Int → Option (List Int)
  | [] => some []
  | [_] => none
  | [a, b] => if V a < 0 ∨ V b < 0 then none else if (V a * 262144 + V b * 4096) / 256 % 256 = 0 ∧ (V a * 262144 + V b * 4096) % 256 = 0 then some [(V a * 262144 + V b * 4096) / 65536 % 256] else none
  | [a, b, c] => if V a < 0 ∨ V b < 0 ∨ V c < 0 then none else if (V a * 262144 + V b * 4096 + V c * 64) % 256 = 0 then some [(V a * 262144 + V b * 4096 + V c * 64) / 65536 % 256, (V a * 262144 + V b * 4096 + V c * 64) / 256 % 256] else none
  | a :: b :: c :: d :: r => if V a < 0 ∨ V b < 0 ∨ V c < 0 ∨ V d < 0 then none else
      (decP r).map fun l => (V a * 262144 + V b * 4096 + V c * 64 + V d) / 65536 % 256 :: (V a * 262144 + V b * 4096 + V c * 64 + V d) / 256 % 256 :: (V a * 262144 + V b * 4096 + V c * 64 + V d) % 256 :: l
section
variable {s : ByteArray} {acc : List Int} {r : ByteArray × Int}
theorem d0_in (i : Nat) (m : Int) (hi : i < s.size) (hs : s.size ≤ 200000) (hm : m = if (s.size : Int) - i < 4 then (s.size : Int) - i else 4) (e : Ev (fun k => asset_Decode64.l1 k s acc (i : Int) 0 m ((0 : Nat) : Int)) r) : Ev (fun k => asset_Decode64.l0 k s acc (i : Int)) r := by
  refine Ev.step (fun k => ?_) e
  simp only [asset_Decode64.l0]
  rw [if_pos (by omega), w64 (x := (s.size : Int) - i) (by omega) (by omega), hm]
  rfl
theorem d0_end (i : Nat) (hi : s.size ≤ i) : Ev (fun k => asset_Decode64.l0 k s acc (i : Int)) (strOfNums acc, 0) := by
  refine Ev.step (f := fun _ => some (strOfNums acc, 0)) (fun k => ?_) (Ev.now _)
  simp only [asset_Decode64.l0]
  rw [if_neg (by omega)]
theorem d1_in (i j : Nat) (n m n' : Int) (hj : j < 4) (hm : (j : Int) < m) (hi : i + j < s.size) (hs : s.size ≤ 200000) (h0 : 0 ≤ n) (h1 : n < 262144) (hv : ¬ V (bt s ((i + j : Nat) : Int)) < 0) (hn : n' = n * 64 + V (bt s ((i + j : Nat) : Int)))
    (e : Ev (fun k => asset_Decode64.l1 k s acc (i : Int) n' m ((j + 1 : Nat) : Int)) r) : Ev (fun k => asset_Decode64.l1 k s acc (i : Int) n m (j : Int)) r := by
  refine Ev.step (fun k => ?_) e
  have hl := V_lt (bt s ((i + j : Nat) : Int))
  simp only [asset_Decode64.l1]
  rw [w64 (x := (i : Int) + (j : Int)) (by omega) (by omega), show (i : Int) + (j : Int) = ((i + j : Nat) : Int) from by omega, if_pos (by omega), if_pos hm, if_pos (by omega), if_pos (by omega), index_V, Option.bind_some, if_neg hv, w64 (x := n * 64) (by omega) (by omega), w64 (by omega) (by omega), w64 (x := (j : Int) + 1) (by omega) (by omega), hn]
  rfl
theorem d1_bad (i j : Nat) (n m : Int) (hj : j < 4) (hm : (j : Int) < m) (hi : i + j < s.size) (hs : s.size ≤ 200000) (hv : V (bt s ((i + j : Nat) : Int)) < 0) : Ev (fun k => asset_Decode64.l1 k s acc (i : Int) n m (j : Int)) err := by
  refine Ev.step (f := fun _ => some err) (fun k => ?_) (Ev.now _)
  simp only [asset_Decode64.l1]
  rw [w64 (x := (i : Int) + (j : Int)) (by omega) (by omega), show (i : Int) + (j : Int) = ((i + j : Nat) : Int) from by omega, if_pos (by omega), if_pos hm, if_pos (by omega), if_pos (by omega), index_V, Option.bind_some, if_pos hv]
theorem d1_out (i j : Nat) (n m n' : Int) (hj : j < 4) (hm : ¬ (j : Int) < m) (h0 : 0 ≤ n) (h1 : n < 262144) (hn : n' = n * 64)
    (e : Ev (fun k => asset_Decode64.l1 k s acc (i : Int) n' m ((j + 1 : Nat) : Int)) r) : Ev (fun k => asset_Decode64.l1 k s acc (i : Int) n m (j : Int)) r := by
  refine Ev.step (fun k => ?_) e
  simp only [asset_Decode64.l1]
  rw [if_pos (by omega), if_neg hm, w64 (x := n * 64) (by omega) (by omega), w64 (x := (j : Int) + 1) (by omega) (by omega), hn]
  rfl
theorem d1_end (i mm : Nat) (n m : Int) (hm : m = (mm : Int) + 1) (hmm : mm ≤ 3) (Z : List Int) (hZ : [n / 65536 % 256, n / 256 % 256, n % 256].drop mm = Z)
    (e : Ev (fun k => asset_Decode64.l2 k s acc (i : Int) m [n / 65536 % 256, n / 256 % 256, n % 256] Z (Z.length : Int) ((0 : Nat) : Int)) r) : Ev (fun k => asset_Decode64.l1 k s acc (i : Int) n m ((4 : Nat) : Int)) r := by
  refine Ev.step (fun k => ?_) e
  simp only [asset_Decode64.l1]
  rw [if_neg (by omega), Option.bind_some, w64 (x := m - 1) (by omega) (by omega), if_pos (by omega), if_pos (by simp only [List.length_cons, List.length_nil]; omega), Option.bind_some, show (m - 1).toNat = mm from by omega, hZ]
  rfl
theorem d2_zero (i j : Nat) (m : Int) (Y Z : List Int) (hj : j < Z.length) (hl : Z.length ≤ 3) (hz : rd Z (j : Int) = 0) (e : Ev (fun k => asset_Decode64.l2 k s acc (i : Int) m Y Z (Z.length : Int) ((j + 1 : Nat) : Int)) r) : Ev (fun k => asset_Decode64.l2 k s acc (i : Int) m Y Z (Z.length : Int) (j : Int)) r := by
  refine Ev.step (fun k => ?_) e
  simp only [asset_Decode64.l2]
  rw [if_pos (by omega), if_pos (by omega), if_pos (by omega), if_pos hz, w64 (x := (j : Int) + 1) (by omega) (by omega)]
  rfl
theorem d2_bad (i j : Nat) (m : Int) (Y Z : List Int) (hj : j < Z.length) (hz : ¬ rd Z (j : Int) = 0) : Ev (fun k => asset_Decode64.l2 k s acc (i : Int) m Y Z (Z.length : Int) (j : Int)) err := by
  refine Ev.step (f := fun _ => some err) (fun k => ?_) (Ev.now _)
  simp only [asset_Decode64.l2]
  rw [if_pos (by omega), if_pos (by omega), if_pos (by omega), if_neg hz]
theorem d2_end (i j mm : Nat) (m : Int) (Y Z : List Int) (hj : ¬ j < Z.length) (hm : m = (mm : Int) + 1) (hY : mm ≤ Y.length) (hY3 : Y.length = 3) (ha : acc.length ≤ 300000) (hi : i ≤ 300000)
    (e : Ev (fun k => asset_Decode64.l0 k s (acc ++ Y.take mm) ((i + 4 : Nat) : Int)) r) : Ev (fun k => asset_Decode64.l2 k s acc (i : Int) m Y Z (Z.length : Int) (j : Int)) r := by
  refine Ev.step (fun k => ?_) e
  have hl : (Y.take mm).length ≤ 3 := by rw [List.length_take]; omega
  simp only [asset_Decode64.l2]
  rw [if_neg (by omega), w64 (x := m - 1) (by omega) (by omega), if_pos (by omega), if_pos (by omega), Option.bind_some, show (m - 1).toNat = mm from by omega, if_pos (by omega), w64 (x := (i : Int) + 4) (by omega) (by omega)]
  rfl
end
def sh4 : List Int → Nat
  | [] => 0
  | [_] => 1
  | [_, _] => 2
  | [_, _, _] => 3
  | _ :: _ :: _ :: _ :: r => sh4 r
theorem decode (s : ByteArray) (hs : s.size ≤ 200000) : ∀ (R : List Int) (i : Nat) (acc : List Int), (bytesOf s).drop i = R → ¬ R.length % 4 = 1 → acc.length ≤ i → Ev (fun k => asset_Decode64.l0 k s acc (i : Int)) (ans acc (decP R)) := by
  intro R
  induction R using sh4.induct with
  | case1 =>
    intro i acc h h4 ha
    have := d0_end (s := s) (acc := acc) i (of_drop_nil h)
    simpa only [ans, decP, List.append_nil] using this
  | case2 a => intro i acc h h4 ha; exact absurd rfl h4
  | case3 a b =>
    intro i acc h h4 ha
    obtain ⟨l0, rfl, h1⟩ := of_drop h
    obtain ⟨l1, rfl, h2⟩ := of_drop h1
    have l2 := of_drop_nil h2
    refine d0_in i 2 l0 hs (by split <;> omega) ?_
    have g0 := V_lt (bt s (i : Int))
    have g1 := V_lt (bt s ((i + 1 : Nat) : Int))
    by_cases v0 : V (bt s (i : Int)) < 0
    · rw [show decP [bt s (i : Int), bt s ((i + 1 : Nat) : Int)] = none from by simp only [decP]; rw [if_pos (by omega)]]
      exact d1_bad i 0 0 2 (by omega) (by omega) (by omega) hs v0
    refine d1_in i 0 0 2 (V (bt s (i : Int))) (by omega) (by omega) (by omega) hs (by omega) (by omega) v0 (by simp) ?_
    by_cases v1 : V (bt s ((i + 1 : Nat) : Int)) < 0
    · rw [show decP [bt s (i : Int), bt s ((i + 1 : Nat) : Int)] = none from by simp only [decP]; rw [if_pos (by omega)]]
      exact d1_bad i 1 _ 2 (by omega) (by omega) (by omega) hs v1
    refine d1_in i 1 _ 2 (V (bt s (i : Int)) * 64 + V (bt s ((i + 1 : Nat) : Int))) (by omega) (by omega) (by omega) hs (by omega) (by omega) v1 (by omega) ?_
    refine d1_out i 2 _ 2 (V (bt s (i : Int)) * 4096 + V (bt s ((i + 1 : Nat) : Int)) * 64) (by omega) (by omega) (by omega) (by omega) (by omega) ?_
    refine d1_out i 3 _ 2 (V (bt s (i : Int)) * 262144 + V (bt s ((i + 1 : Nat) : Int)) * 4096) (by omega) (by omega) (by omega) (by omega) (by omega) ?_
    simp only [decP]
    rw [if_neg (by omega)]
    generalize V (bt s (i : Int)) * 262144 + V (bt s ((i + 1 : Nat) : Int)) * 4096 = N
    refine d1_end i 1 N 2 (by omega) (by omega) [N / 256 % 256, N % 256] rfl ?_
    by_cases z0 : N / 256 % 256 = 0
    · refine d2_zero i 0 2 _ _ (by simp) (by simp) z0 ?_
      by_cases z1 : N % 256 = 0
      · refine d2_zero i 1 2 _ _ (by simp) (by simp) z1 ?_
        refine d2_end i 2 1 2 _ _ (by simp) (by omega) (by simp) (by simp) (by omega) (by omega) ?_
        rw [if_pos ⟨z0, z1⟩]
        exact d0_end (i + 4) (by omega)
      · rw [if_neg (fun h => z1 h.2)]
        exact d2_bad i 1 2 _ _ (by simp) z1
    · rw [if_neg (fun h => z0 h.1)]
      exact d2_bad i 0 2 _ _ (by simp) z0
  | case4 a b c =>
    intro i acc h h4 ha
    obtain ⟨l0, rfl, h1⟩ := of_drop h
    obtain ⟨l1, rfl, h2⟩ := of_drop h1
    obtain ⟨l2, hc, h3⟩ := of_drop h2
    have hc : bt s ((i + 2 : Nat) : Int) = c := hc
    subst hc
    have l3 := of_drop_nil h3
    refine d0_in i 3 l0 hs (by split <;> omega) ?_
    have g0 := V_lt (bt s (i : Int))
    have g1 := V_lt (bt s ((i + 1 : Nat) : Int))
    have g2 := V_lt (bt s ((i + 2 : Nat) : Int))
    by_cases v0 : V (bt s (i : Int)) < 0
    · rw [show decP [bt s (i : Int), bt s ((i + 1 : Nat) : Int), bt s ((i + 2 : Nat) : Int)] = none from by simp only [decP]; rw [if_pos (by omega)]]
      exact d1_bad i 0 0 3 (by omega) (by omega) (by omega) hs v0
    refine d1_in i 0 0 3 (V (bt s (i : Int))) (by omega) (by omega) (by omega) hs (by omega) (by omega) v0 (by simp) ?_
    by_cases v1 : V (bt s ((i + 1 : Nat) : Int)) < 0
    · rw [show decP [bt s (i : Int), bt s ((i + 1 : Nat) : Int), bt s ((i + 2 : Nat) : Int)] = none from by simp only [decP]; rw [if_pos (by omega)]]
      exact d1_bad i 1 _ 3 (by omega) (by omega) (by omega) hs v1
    refine d1_in i 1 _ 3 (V (bt s (i : Int)) * 64 + V (bt s ((i + 1 : Nat) : Int))) (by omega) (by omega) (by omega) hs (by omega) (by omega) v1 (by omega) ?_
    by_cases v2 : V (bt s ((i + 2 : Nat) : Int)) < 0
    · rw [show decP [bt s (i : Int), bt s ((i + 1 : Nat) : Int), bt s ((i + 2 : Nat) : Int)] = none from by simp only [decP]; rw [if_pos (by omega)]]
      exact d1_bad i 2 _ 3 (by omega) (by omega) (by omega) hs v2
    refine d1_in i 2 _ 3 (V (bt s (i : Int)) * 4096 + V (bt s ((i + 1 : Nat) : Int)) * 64 + V (bt s ((i + 2 : Nat) : Int))) (by omega) (by omega) (by omega) hs (by omega) (by omega) v2 (by omega) ?_
    refine d1_out i 3 _ 3 (V (bt s (i : Int)) * 262144 + V (bt s ((i + 1 : Nat) : Int)) * 4096 + V (bt s ((i + 2 : Nat) : Int)) * 64) (by omega) (by omega) (by omega) (by omega) (by omega) ?_
    simp only [decP]
    rw [if_neg (by omega)]
    generalize V (bt s (i : Int)) * 262144 + V (bt s ((i + 1 : Nat) : Int)) * 4096 + V (bt s ((i + 2 : Nat) : Int)) * 64 = N
    refine d1_end i 2 N 3 (by omega) (by omega) [N % 256] rfl ?_
    by_cases z1 : N % 256 = 0
    · refine d2_zero i 0 3 _ _ (by simp) (by simp) z1 ?_
      refine d2_end i 1 2 3 _ _ (by simp) (by omega) (by simp) (by simp) (by omega) (by omega) ?_
      rw [if_pos z1]
      exact d0_end (i + 4) (by omega)
    · rw [if_neg z1]
      exact d2_bad i 0 3 _ _ (by simp) z1
  | case5 a b c d R ih =>
    intro i acc h h4 ha
    obtain ⟨l0, rfl, h1⟩ := of_drop h
    obtain ⟨l1, rfl, h2⟩ := of_drop h1
    obtain ⟨l2, hc, h3⟩ := of_drop h2
    have hc : bt s ((i + 2 : Nat) : Int) = c := hc
    subst hc
    obtain ⟨l3, hd, h5⟩ := of_drop h3
    have hd : bt s ((i + 3 : Nat) : Int) = d := hd
    subst hd
    refine d0_in i 4 l0 hs (by split <;> omega) ?_
    have g0 := V_lt (bt s (i : Int))
    have g1 := V_lt (bt s ((i + 1 : Nat) : Int))
    have g2 := V_lt (bt s ((i + 2 : Nat) : Int))
    have g3 := V_lt (bt s ((i + 3 : Nat) : Int))
    by_cases v0 : V (bt s (i : Int)) < 0
    · rw [show decP (bt s (i : Int) :: bt s ((i + 1 : Nat) : Int) :: bt s ((i + 2 : Nat) : Int) :: bt s ((i + 3 : Nat) : Int) :: R) = none from by simp only [decP]; rw [if_pos (by omega)]]
      exact d1_bad i 0 0 4 (by omega) (by omega) (by omega) hs v0
    refine d1_in i 0 0 4 (V (bt s (i : Int))) (by omega) (by omega) (by omega) hs (by omega) (by omega) v0 (by simp) ?_
    by_cases v1 : V (bt s ((i + 1 : Nat) : Int)) < 0
    · rw [show decP (bt s (i : Int) :: bt s ((i + 1 : Nat) : Int) :: bt s ((i + 2 : Nat) : Int) :: bt s ((i + 3 : Nat) : Int) :: R) = none from by simp only [decP]; rw [if_pos (by omega)]]
      exact d1_bad i 1 _ 4 (by omega) (by omega) (by omega) hs v1
    refine d1_in i 1 _ 4 (V (bt s (i : Int)) * 64 + V (bt s ((i + 1 : Nat) : Int))) (by omega) (by omega) (by omega) hs (by omega) (by omega) v1 (by omega) ?_
    by_cases v2 : V (bt s ((i + 2 : Nat) : Int)) < 0
    · rw [show decP (bt s (i : Int) :: bt s ((i + 1 : Nat) : Int) :: bt s ((i + 2 : Nat) : Int) :: bt s ((i + 3 : Nat) : Int) :: R) = none from by simp only [decP]; rw [if_pos (by omega)]]
      exact d1_bad i 2 _ 4 (by omega) (by omega) (by omega) hs v2
    refine d1_in i 2 _ 4 (V (bt s (i : Int)) * 4096 + V (bt s ((i + 1 : Nat) : Int)) * 64 + V (bt s ((i + 2 : Nat) : Int))) (by omega) (by omega) (by omega) hs (by omega) (by omega) v2 (by omega) ?_
    by_cases v3 : V (bt s ((i + 3 : Nat) : Int)) < 0
    · rw [show decP (bt s (i : Int) :: bt s ((i + 1 : Nat) : Int) :: bt s ((i + 2 : Nat) : Int) :: bt s ((i + 3 : Nat) : Int) :: R) = none from by simp only [decP]; rw [if_pos (by omega)]]
      exact d1_bad i 3 _ 4 (by omega) (by omega) (by omega) hs v3
    refine d1_in i 3 _ 4 (V (bt s (i : Int)) * 262144 + V (bt s ((i + 1 : Nat) : Int)) * 4096 + V (bt s ((i + 2 : Nat) : Int)) * 64 + V (bt s ((i + 3 : Nat) : Int))) (by omega) (by omega) (by omega) hs (by omega) (by omega) v3 (by omega) ?_
    simp only [decP]
    rw [if_neg (by omega)]
    generalize V (bt s (i : Int)) * 262144 + V (bt s ((i + 1 : Nat) : Int)) * 4096 + V (bt s ((i + 2 : Nat) : Int)) * 64 + V (bt s ((i + 3 : Nat) : Int)) = N
    refine d1_end i 3 N 4 (by omega) (by omega) [] rfl ?_
    refine d2_end i 0 3 4 _ _ (by simp) (by omega) (by simp) (by simp) (by omega) (by omega) ?_
    have i2 := ih (i + 4) (acc ++ [N / 65536 % 256, N / 256 % 256, N % 256]) h5 (by simp only [List.length_cons] at h4; omega) (by simp; omega)
    have e : ans (acc ++ [N / 65536 % 256, N / 256 % 256, N % 256]) (decP R) = ans acc ((decP R).map fun l => N / 65536 % 256 :: N / 256 % 256 :: N % 256 :: l) := by
      cases decP R with
      | none => rfl
      | some l => simp [ans]
    rw [e] at i2
    exact i2

/-! ### The reference's decoding -/
def b6 (c : Int) : List Int := [V c / 32 % 2, V c / 16 % 2, V c / 8 % 2, V c / 4 % 2, V c / 2 % 2, V c % 2]
def ref8 : List Int → Option (List Int)
  | a :: b :: c :: d :: e :: f :: g :: h :: r => (ref8 r).map fun l => (128 * a + 64 * b + 32 * c + 16 * d + 8 * e + 4 * f + 2 * g + h) % 256 :: l
  | X => if X.length ≥ 6 ∨ 1 ∈ X then none else some []
def good (R : List Int) : Prop := ∀ c ∈ R, ¬ V c < 0
theorem g1_in {acc : List Int} {r : ByteArray × Int} (s : ByteArray) (i : Nat) (v j j' q : Int) (hj : 0 ≤ j) (hj7 : j ≤ 5) (hj' : j' = j - 1) (h0 : 0 ≤ v) (h1 : v < 64) (ha : acc.length ≤ 2000000) (hq : q = v / 2 ^ j.toNat % 2)
    (e : Ev (fun k => mastref2_Decode64Of.l1 k s (acc ++ [q]) (i : Int) v j') r) : Ev (fun k => mastref2_Decode64Of.l1 k s acc (i : Int) v j) r := by
  refine Ev.step (fun k => ?_) e
  have hd : v / 2 ^ j.toNat ≤ v := Int.ediv_le_self _ h0
  have hd0 : 0 ≤ v / 2 ^ j.toNat := Int.ediv_nonneg h0 (Int.pow_nonneg (by decide))
  have hsh : shr .i64 v j = v / 2 ^ j.toNat := by
    unfold shr
    rw [Nat.min_eq_left (by show _ ≤ 64; omega)]
  have hm : v / 2 ^ j.toNat % 2 % 256 = v / 2 ^ j.toNat % 2 := by omega
  simp only [mastref2_Decode64Of.l1]
  rw [if_pos (by omega), if_pos (by omega), if_pos (by omega), hsh, and1 hd0 (by omega), hm, w64 (x := j - 1) (by omega) (by omega), ← hq, ← hj']
theorem ref_bits6 (s : ByteArray) (hs : s.size ≤ 200000) {r : ByteArray × Int} : ∀ (R : List Int) (i : Nat) (acc : List Int), (bytesOf s).drop i = R → acc.length = 6 * i →
    (good R → Ev (fun k => mastref2_Decode64Of.l2 k (acc ++ R.flatMap b6) []) r) → (¬ good R → r = err) → Ev (fun k => mastref2_Decode64Of.l0 k s acc (i : Int)) r := by
  intro R
  induction R with
  | nil =>
    intro i acc h ha e _
    have := of_drop_nil h
    have e := e (fun c hc => by cases hc)
    rw [List.flatMap_nil, List.append_nil] at e
    refine Ev.step (fun k => ?_) e
    simp only [mastref2_Decode64Of.l0]
    rw [if_neg (by omega)]
  | cons a R ih =>
    intro i acc h ha e en
    obtain ⟨l0, rfl, h1⟩ := of_drop h
    have vl := V_lt (bt s (i : Int))
    by_cases hv : V (bt s (i : Int)) < 0
    · rw [en (fun g => g _ (by simp) hv)]
      refine Ev.step (f := fun _ => some err) (fun k => ?_) (Ev.now _)
      simp only [mastref2_Decode64Of.l0]
      rw [if_pos (by omega), if_pos (by omega), index_V, Option.bind_some, if_pos hv]
    · refine Ev.step (f := fun k => mastref2_Decode64Of.l1 k s acc (i : Int) (V (bt s (i : Int))) 5) (fun k => by simp only [mastref2_Decode64Of.l0]; rw [if_pos (by omega), if_pos (by omega), index_V, Option.bind_some, if_neg hv]) ?_
      refine g1_in s i _ 5 4 _ (by omega) (by omega) (by omega) (by omega) vl (by omega) rfl ?_
      refine g1_in s i _ 4 3 _ (by omega) (by omega) (by omega) (by omega) vl (by simp; omega) rfl ?_
      refine g1_in s i _ 3 2 _ (by omega) (by omega) (by omega) (by omega) vl (by simp; omega) rfl ?_
      refine g1_in s i _ 2 1 _ (by omega) (by omega) (by omega) (by omega) vl (by simp; omega) rfl ?_
      refine g1_in s i _ 1 0 _ (by omega) (by omega) (by omega) (by omega) vl (by simp; omega) rfl ?_
      refine g1_in s i _ 0 (-1) _ (by omega) (by omega) (by omega) (by omega) vl (by simp; omega) rfl ?_
      have i2 := ih (i + 1) (acc ++ b6 (bt s (i : Int))) h1 (by simp [b6]; omega) (fun g => by
        have := e (fun c hc => by
          rcases List.mem_cons.1 hc with rfl | hc
          · exact hv
          · exact g c hc)
        rwa [List.flatMap_cons, ← List.append_assoc] at this) (fun g => en (fun g2 => g (fun c hc => g2 c (by simp [hc]))))
      refine Ev.step (f := fun k => mastref2_Decode64Of.l0 k s (acc ++ b6 (bt s (i : Int))) ((i + 1 : Nat) : Int)) (fun k => ?_) i2
      simp only [mastref2_Decode64Of.l1]
      rw [if_neg (by omega), w64 (x := (i : Int) + 1) (by omega) (by omega)]
      simp only [List.append_assoc, List.cons_append, List.nil_append]
      simp [b6]
theorem contains_ev (X : List Int) (hX : X.length ≤ 2000000) : Ev (fun k => slices_Contains_byte_byte.f k X 1) (decide (1 ∈ X)) := by
  have loop : ∀ (d i : Nat), i + d = X.length → ∃ z : Int, Ev (fun k => slices_Index_byte_byte.l0 k X 1 (X.length : Int) (i : Int)) z ∧ (z ≥ 0 ↔ 1 ∈ X.drop i) := by
    intro d
    induction d with
    | zero =>
      intro i hi
      refine ⟨-1, Ev.step (f := fun _ => some (-1)) (fun k => by simp only [slices_Index_byte_byte.l0]; rw [if_neg (by omega)]) (Ev.now _), ?_⟩
      rw [List.drop_eq_nil_of_le (by omega)]
      simp
    | succ d ih =>
      intro i hi
      have hd : X.drop i = rd X (i : Int) :: X.drop (i + 1) := by
        rw [List.drop_eq_getElem_cons (by omega)]
        simp [rd, List.getElem?_eq_getElem (show i < X.length by omega)]
      by_cases h1 : 1 = rd X (i : Int)
      · refine ⟨i, Ev.step (f := fun _ => some (i : Int)) (fun k => by simp only [slices_Index_byte_byte.l0]; rw [if_pos (by omega), if_pos (by omega), if_pos (by omega), if_pos h1]) (Ev.now _), ?_⟩
        rw [hd, ← h1]
        simp
      · obtain ⟨z, e, hz⟩ := ih (i + 1) (by omega)
        refine ⟨z, Ev.step (fun k => ?_) e, ?_⟩
        · simp only [slices_Index_byte_byte.l0]
          rw [if_pos (by omega), if_pos (by omega), if_pos (by omega), if_neg h1, w64 (x := (i : Int) + 1) (by omega) (by omega)]
          rfl
        · rw [hz, hd, List.mem_cons]
          exact ⟨Or.inr, fun h => h.resolve_left h1⟩
  obtain ⟨z, e, hz⟩ := loop X.length 0 (by omega)
  rw [List.drop_zero] at hz
  rw [← decide_eq_decide.2 hz]
  exact Ev.bind e (Ev.now _)
def sh8 : List Int → Nat
  | _ :: _ :: _ :: _ :: _ :: _ :: _ :: _ :: r => sh8 r
  | _ => 0
theorem ref_bytes : ∀ (X acc : List Int), (∀ b ∈ X, 0 ≤ b ∧ b ≤ 1) → acc.length + X.length ≤ 2000000 → Ev (fun k => mastref2_Decode64Of.l2 k X acc) (ans acc (ref8 X)) := by
  intro X
  induction X using sh8.induct with
  | case1 a b c d e f g h R ih =>
    intro acc hm hl
    simp only [List.mem_cons, forall_eq_or_imp] at hm
    obtain ⟨ma, mb, mc, md, me, mf, mg, mh, mR⟩ := hm
    simp only [List.length_cons] at hl
    have step : ∀ (n x : Int) (Y : List Int) (j : Nat) (m : Int), 0 ≤ n → n < 256 → 0 ≤ x → x ≤ 1 → j < 8 → Y.length = 8 → rd Y (j : Int) = x → m = 2 * n + x →
        Ev (fun k => mastref2_Decode64Of.l3 k (a :: b :: c :: d :: e :: f :: g :: h :: R) acc m Y 8 ((j + 1 : Nat) : Int)) (ans acc (ref8 (a :: b :: c :: d :: e :: f :: g :: h :: R))) →
        Ev (fun k => mastref2_Decode64Of.l3 k (a :: b :: c :: d :: e :: f :: g :: h :: R) acc n Y 8 (j : Int)) (ans acc (ref8 (a :: b :: c :: d :: e :: f :: g :: h :: R))) := by
      intro n x Y j m h0 h1 h2 h3 h4 h5 h6 h7 e
      refine Ev.step (fun k => ?_) e
      simp only [mastref2_Decode64Of.l3]
      rw [if_pos (by omega), if_pos (by omega), if_pos (by omega), h6, w64 (x := 2 * n) (by omega) (by omega), w64 (x := x) (by omega) (by omega), w64 (x := 2 * n + x) (by omega) (by omega), w64 (x := (j : Int) + 1) (by omega) (by omega), h7]
      rfl
    refine Ev.step (f := fun k => mastref2_Decode64Of.l3 k (a :: b :: c :: d :: e :: f :: g :: h :: R) acc 0 [a, b, c, d, e, f, g, h] 8 ((0 : Nat) : Int)) (fun k => ?_) ?_
    · simp only [mastref2_Decode64Of.l2]
      rw [if_pos (by simp only [List.length_cons]; omega), if_pos (by simp only [List.length_cons]; omega)]
      rfl
    · refine step 0 a _ 0 a (by omega) (by omega) ma.1 ma.2 (by omega) rfl rfl (by omega) ?_
      refine step _ b _ 1 (2 * a + b) (by omega) (by omega) mb.1 mb.2 (by omega) rfl rfl (by omega) ?_
      refine step _ c _ 2 (4 * a + 2 * b + c) (by omega) (by omega) mc.1 mc.2 (by omega) rfl rfl (by omega) ?_
      refine step _ d _ 3 (8 * a + 4 * b + 2 * c + d) (by omega) (by omega) md.1 md.2 (by omega) rfl rfl (by omega) ?_
      refine step _ e _ 4 (16 * a + 8 * b + 4 * c + 2 * d + e) (by omega) (by omega) me.1 me.2 (by omega) rfl rfl (by omega) ?_
      refine step _ f _ 5 (32 * a + 16 * b + 8 * c + 4 * d + 2 * e + f) (by omega) (by omega) mf.1 mf.2 (by omega) rfl rfl (by omega) ?_
      refine step _ g _ 6 (64 * a + 32 * b + 16 * c + 8 * d + 4 * e + 2 * f + g) (by omega) (by omega) mg.1 mg.2 (by omega) rfl rfl (by omega) ?_
      refine step _ h _ 7 (128 * a + 64 * b + 32 * c + 16 * d + 8 * e + 4 * f + 2 * g + h) (by omega) (by omega) mh.1 mh.2 (by omega) rfl rfl (by omega) ?_
      have i2 := ih (acc ++ [(128 * a + 64 * b + 32 * c + 16 * d + 8 * e + 4 * f + 2 * g + h) % 256]) mR (by simp; omega)
      have e2 : ans (acc ++ [(128 * a + 64 * b + 32 * c + 16 * d + 8 * e + 4 * f + 2 * g + h) % 256]) (ref8 R) = ans acc (ref8 (a :: b :: c :: d :: e :: f :: g :: h :: R)) := by
        rw [ref8]
        cases ref8 R with
        | none => rfl
        | some l => simp [ans]
      rw [e2] at i2
      refine Ev.step (fun k => ?_) i2
      simp only [mastref2_Decode64Of.l3]
      rw [if_neg (by omega), if_pos (by omega), if_pos (by simp only [List.length_cons]; omega)]
      rfl
  | case2 X hX =>
    intro acc hm hl
    have hz : X.length < 8 := by
      match X, hX with
      | [], _ => simp
      | [_], _ => simp
      | [_, _], _ => simp
      | [_, _, _], _ => simp
      | [_, _, _, _], _ => simp
      | [_, _, _, _, _], _ => simp
      | [_, _, _, _, _, _], _ => simp
      | [_, _, _, _, _, _, _], _ => simp
      | a :: b :: c :: d :: e :: f :: g :: h :: r, hX => exact absurd rfl (hX a b c d e f g h r)
    have he : ref8 X = if X.length ≥ 6 ∨ 1 ∈ X then none else some [] := by
      rw [ref8]
      exact hX
    rw [he]
    by_cases h6 : X.length ≥ 6
    · rw [if_pos (Or.inl h6)]
      refine Ev.step (f := fun _ => some err) (fun k => ?_) (Ev.now _)
      simp only [mastref2_Decode64Of.l2]
      rw [if_neg (by omega), if_pos (by omega)]
    · refine Ev.step (fun k => by simp only [mastref2_Decode64Of.l2]; rw [if_neg (by omega), if_neg (by omega)]) ?_
      refine Ev.bind (contains_ev X (by omega)) ?_
      by_cases h1 : 1 ∈ X
      · rw [if_pos (Or.inr h1), decide_eq_true h1]
        exact Ev.now _
      · have hn : ¬ (X.length ≥ 6 ∨ 1 ∈ X) := fun h => h.elim h6 h1
        rw [if_neg hn, decide_eq_false h1]
        simp only [ans, List.append_nil]
        exact Ev.now _

theorem v6 (a : Int) (h0 : 0 ≤ a) (h1 : a < 64) : 32 * (a / 32 % 2) + 16 * (a / 16 % 2) + 8 * (a / 8 % 2) + 4 * (a / 4 % 2) + 2 * (a / 2 % 2) + a % 2 = a := by omega
theorem v4 (a : Int) (h0 : 0 ≤ a) (h1 : a < 64) : 8 * (a / 32 % 2) + 4 * (a / 16 % 2) + 2 * (a / 8 % 2) + a / 4 % 2 = a / 4 := by omega
theorem v2 (a : Int) (h0 : 0 ≤ a) (h1 : a < 64) : 2 * (a / 32 % 2) + a / 16 % 2 = a / 16 := by omega
theorem u4 (a : Int) (h0 : 0 ≤ a) (h1 : a < 64) : 8 * (a / 8 % 2) + 4 * (a / 4 % 2) + 2 * (a / 2 % 2) + a % 2 = a % 16 := by omega
theorem u2 (a : Int) (h0 : 0 ≤ a) (h1 : a < 64) : 2 * (a / 2 % 2) + a % 2 = a % 4 := by omega
theorem b6_len : ∀ R : List Int, (R.flatMap b6).length = 6 * R.length
  | [] => rfl
  | a :: R => by rw [List.flatMap_cons, List.length_append, b6_len R]; simp [b6]; omega
theorem b6_mem (R : List Int) : ∀ b ∈ R.flatMap b6, 0 ≤ b ∧ b ≤ 1 := by
  intro b hb
  obtain ⟨a, _, h⟩ := List.mem_flatMap.1 hb
  simp only [b6, List.mem_cons, List.not_mem_nil, or_false] at h
  rcases h with rfl | rfl | rfl | rfl | rfl | rfl <;> omega
theorem dec_good : ∀ R : List Int, good R → ref8 (R.flatMap b6) = decP R := by
  intro R
  induction R using sh4.induct with
  | case1 => intro _; rfl
  | case2 a =>
    intro _
    rw [show [a].flatMap b6 = b6 a from by simp]
    simp only [b6, ref8, decP]
    rw [if_pos (Or.inl (by simp))]
  | case3 a b =>
    intro h
    have ha := h a (by simp)
    have hb := h b (by simp)
    have la := V_lt a
    have lb := V_lt b
    rw [show [a, b].flatMap b6 = b6 a ++ b6 b from by simp]
    simp only [b6, decP, List.cons_append, List.nil_append]
    rw [if_neg (by omega)]
    generalize V a = x at *
    generalize V b = y at *
    have f1 := v6 x (by omega) la
    have f2 := v2 y (by omega) lb
    have f3 := u4 y (by omega) lb
    have hc : ([y / 8 % 2, y / 4 % 2, y / 2 % 2, y % 2].length ≥ 6 ∨ 1 ∈ [y / 8 % 2, y / 4 % 2, y / 2 % 2, y % 2]) ↔ ¬ ((x * 262144 + y * 4096) / 256 % 256 = 0 ∧ (x * 262144 + y * 4096) % 256 = 0) := by
      simp only [List.length_cons, List.length_nil, List.mem_cons, List.not_mem_nil, or_false]
      have k1 : (x * 262144 + y * 4096) / 256 % 256 = y % 16 * 16 := by omega
      have k2 : (x * 262144 + y * 4096) % 256 = 0 := by omega
      rw [k1, k2]
      omega
    simp only [ref8]
    by_cases hz : (x * 262144 + y * 4096) / 256 % 256 = 0 ∧ (x * 262144 + y * 4096) % 256 = 0
    · rw [if_pos hz, if_neg (fun h => hc.1 h hz)]
      simp only [Option.map_some]
      congr 2
      omega
    · rw [if_neg hz, if_pos (hc.2 hz)]
      rfl
  | case4 a b c =>
    intro h
    have ha := h a (by simp)
    have hb := h b (by simp)
    have hc' := h c (by simp)
    have la := V_lt a
    have lb := V_lt b
    have lc := V_lt c
    rw [show [a, b, c].flatMap b6 = b6 a ++ (b6 b ++ b6 c) from by simp]
    simp only [b6, decP, List.cons_append, List.nil_append]
    rw [if_neg (by omega)]
    generalize V a = x at *
    generalize V b = y at *
    generalize V c = z at *
    have f1 := v6 x (by omega) la
    have f2 := v2 y (by omega) lb
    have f3 := u4 y (by omega) lb
    have f4 := v4 z (by omega) lc
    have f5 := u2 z (by omega) lc
    have hc : ([z / 2 % 2, z % 2].length ≥ 6 ∨ 1 ∈ [z / 2 % 2, z % 2]) ↔ ¬ ((x * 262144 + y * 4096 + z * 64) % 256 = 0) := by
      simp only [List.length_cons, List.length_nil, List.mem_cons, List.not_mem_nil, or_false]
      have k1 : (x * 262144 + y * 4096 + z * 64) % 256 = z % 4 * 64 := by omega
      rw [k1]
      omega
    have k3 : (x * 262144 + y * 4096 + z * 64) / 65536 % 256 = x * 4 + y / 16 := by omega
    have k4 : (x * 262144 + y * 4096 + z * 64) / 256 % 256 = y % 16 * 16 + z / 4 := by omega
    simp only [ref8]
    by_cases hz : (x * 262144 + y * 4096 + z * 64) % 256 = 0
    · rw [if_pos hz, if_neg (fun h => hc.1 h hz), k3, k4]
      simp only [Option.map_some]
      congr 1
      congr 1
      · omega
      · congr 1; omega
    · rw [if_neg hz, if_pos (hc.2 hz)]
      rfl
  | case5 a b c d R ih =>
    intro h
    have ha := h a (by simp)
    have hb := h b (by simp)
    have hc' := h c (by simp)
    have hd := h d (by simp)
    have la := V_lt a
    have lb := V_lt b
    have lc := V_lt c
    have ld := V_lt d
    rw [show (a :: b :: c :: d :: R).flatMap b6 = b6 a ++ (b6 b ++ (b6 c ++ (b6 d ++ R.flatMap b6))) from by simp [List.flatMap_cons]]
    simp only [decP]
    rw [if_neg (by omega), ← ih (fun x hx => h x (by simp [hx]))]
    generalize R.flatMap b6 = X
    simp only [b6, List.cons_append, List.nil_append, ref8]
    generalize V a = x at *
    generalize V b = y at *
    generalize V c = z at *
    generalize V d = w at *
    have f1 := v6 x (by omega) la
    have f2 := v2 y (by omega) lb
    have f3 := u4 y (by omega) lb
    have f4 := v4 z (by omega) lc
    have f5 := u2 z (by omega) lc
    have f6 := v6 w (by omega) ld
    have k3 : (x * 262144 + y * 4096 + z * 64 + w) / 65536 % 256 = x * 4 + y / 16 := by omega
    have k4 : (x * 262144 + y * 4096 + z * 64 + w) / 256 % 256 = y % 16 * 16 + z / 4 := by omega
    have k5 : (x * 262144 + y * 4096 + z * 64 + w) % 256 = z % 4 * 64 + w := by omega
    rw [k3, k4, k5]
    cases ref8 X with
    | none => rfl
    | some l =>
      simp only [Option.map_some]
      congr 1
      congr 1
      · omega
      · congr 1
        · omega
        · congr 1; omega
theorem dec_bad : ∀ R : List Int, ¬ good R → decP R = none := by
  intro R
  induction R using sh4.induct with
  | case1 => intro h; exact absurd (fun c hc => by cases hc) h
  | case2 a => intro _; rfl
  | case3 a b =>
    intro h
    simp only [decP]
    rw [if_pos]
    rcases Classical.em (V a < 0 ∨ V b < 0) with h1 | h1
    · exact h1
    · exact absurd (fun c hc => by
        simp only [List.mem_cons, List.not_mem_nil, or_false] at hc
        rcases hc with rfl | rfl <;> omega) h
  | case4 a b c =>
    intro h
    simp only [decP]
    rw [if_pos]
    rcases Classical.em (V a < 0 ∨ V b < 0 ∨ V c < 0) with h1 | h1
    · exact h1
    · exact absurd (fun c hc => by
        simp only [List.mem_cons, List.not_mem_nil, or_false] at hc
        rcases hc with rfl | rfl | rfl <;> omega) h
  | case5 a b c d R ih =>
    intro h
    simp only [decP]
    rcases Classical.em (V a < 0 ∨ V b < 0 ∨ V c < 0 ∨ V d < 0) with h1 | h1
    · rw [if_pos h1]
    · rw [if_neg h1, ih (fun g => h (fun c hc => by
        simp only [List.mem_cons] at hc
        rcases hc with rfl | rfl | rfl | rfl | hc
        · omega
        · omega
        · omega
        · omega
        · exact g c hc))]
      rfl
theorem dec_one : ∀ R : List Int, R.length % 4 = 1 → decP R = none := by
  intro R
  induction R using sh4.induct with
  | case1 => intro h; cases h
  | case2 a => intro _; rfl
  | case3 a b => intro h; cases h
  | case4 a b c => intro h; cases h
  | case5 a b c d R ih =>
    intro h
    simp only [List.length_cons] at h
    simp only [decP]
    rw [ih (by omega)]
    split <;> rfl
/-- The two decodings agree. -/
theorem decode_both (s : ByteArray) : ∃ r, Ev (fun k => asset_Decode64.f k s) r ∧ Ev (fun k => mastref2_Decode64Of.f k s) r := by
  by_cases hs : (s.size : Int) > 200000
  · exact ⟨_, Ev.congr (f := fun _ => some _) (fun k => by unfold asset_Decode64.f; rw [if_pos hs]) (Ev.now _), Ev.congr (f := fun _ => some _) (fun k => by unfold mastref2_Decode64Of.f; rw [if_pos hs]) (Ev.now _)⟩
  · have hs2 : s.size ≤ 200000 := by omega
    refine ⟨ans [] (decP (bytesOf s)), ?_, Ev.congr (fun k => by unfold mastref2_Decode64Of.f; rw [if_neg hs]; rfl) (ref_bits6 s hs2 _ 0 [] rfl rfl ?_ ?_)⟩
    · by_cases h4 : ((s.size : Int) % 4) = 1
      · rw [dec_one _ (by rw [bytesOf_length]; omega)]
        exact Ev.congr (f := fun _ => some err) (fun k => by unfold asset_Decode64.f; rw [if_neg hs, if_pos h4]) (Ev.now _)
      · exact Ev.congr (fun k => by unfold asset_Decode64.f; rw [if_neg hs, if_neg h4]; rfl) (decode s hs2 _ 0 [] rfl (by rw [bytesOf_length]; omega) (by simp))
    · intro g
      have g : good (bytesOf s) := g
      rw [← dec_good _ g]
      exact ref_bytes ((bytesOf s).flatMap b6) [] (b6_mem _) (by rw [b6_len, bytesOf_length, List.length_nil]; omega)
    · intro g
      have g : ¬ good (bytesOf s) := g
      rw [dec_bad _ g]
      rfl
end Go.Proofs.Ytmjfjjnmdljkeaa.Pure.AssetCodes
namespace Go.Proofs.Ytmjfjjnmdljkeaa.Pure
open Go.RowKit Go.Proofs.Ytmjfjjnmdljkeaa.GAssetCodes Go.Proofs.YtmjfjjnmdljkeaaW.PrintWords Go.Proofs.YtmjfjjnmdljkeaaW.PrintLast
/-- The pure statement. -/
theorem AssetCodes : mastlaw2_AssetCodes.Pure := by
  intro s hs
  refine Ev.rounds (g := fun k => mastlaw2_AssetCodes.f k s) ?_
  unfold mastlaw2_AssetCodes.f
  obtain ⟨r1, e1, e2⟩ := AssetCodes.encode_both s
  obtain ⟨r2, e3, e4⟩ := AssetCodes.decode_both s
  refine Ev.bind e1 (Ev.bind e2 (Ev.bind e3 (Ev.bind e4 ?_)))
  rw [if_pos rfl, if_pos rfl, if_pos rfl, beq_self_eq_true]
  exact Ev.now _
end Go.Proofs.Ytmjfjjnmdljkeaa.Pure
