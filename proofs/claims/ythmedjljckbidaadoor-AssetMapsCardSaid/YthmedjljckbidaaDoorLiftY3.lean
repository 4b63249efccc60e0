/- Numerals at a base that is a power of two: what strconv's formatBits lays down. Conditions: as each theorem states them. -/
import Derived.Test.YthmedjljckbidaaDoorLiftY2
import Derived.Lib.TrailingZeros
import Derived.Laws.Bits64b
set_option linter.unusedVariables false
namespace Go.Proofs.YthmedjljckbidaaDoor.Lift
open Go.RowKit Go.Sort
/-! Numerals at a base that is a power of two. -/
def dig36 (n : Nat) : UInt8 := Lib.digits36.data.toList.getD n 0
def fmtB (b u : Nat) : List UInt8 := if h : u < b ∨ b < 2 then [dig36 u] else fmtB b (u / b) ++ [dig36 (u % b)]
termination_by u
decreasing_by
  have h : ¬ (u < b ∨ b < 2) := h
  exact Nat.div_lt_self (by omega) (by omega)
theorem fmtB_small {b u : Nat} (h : u < b) : fmtB b u = [dig36 u] := by rw [fmtB, dif_pos (.inl h)]
theorem fmtB_big {b u : Nat} (h2 : 2 ≤ b) (h : b ≤ u) : fmtB b u = fmtB b (u / b) ++ [dig36 (u % b)] := by rw [fmtB, dif_neg (by omega)]
structure BitsInv (b u i v : Nat) (d : Array UInt8) : Prop where
  size : d.size = 65
  pos : 1 ≤ i
  le : i ≤ 65
  small : v < 2 ^ (i - 1)
  said : fmtB b u = fmtB b v ++ d.toList.drop i
theorem BitsInv.start {b u : Nat} (hu : u < 18446744073709551616) : BitsInv b u 65 u (Array.replicate 65 0) := ⟨by simp, by omega, by omega, hu, by simp⟩
theorem drop_set (d : Array UInt8) (i : Nat) (x : UInt8) (hi : i < d.size) : (d.setIfInBounds i x).toList.drop i = x :: d.toList.drop (i + 1) := by
  rw [Array.toList_setIfInBounds]
  have hl : i < (d.toList.set i x).length := by simpa using hi
  rw [List.drop_eq_getElem_cons hl, List.getElem_set_self, List.drop_set_of_lt (by omega)]
theorem BitsInv.room {b u i v : Nat} {d : Array UInt8} (h : BitsInv b u i v d) (hb : 16 ≤ v) : 6 ≤ i := by
  rcases Nat.lt_or_ge i 6 with q | q
  · have h1 := h.small
    have : 2 ^ (i - 1) ≤ 2 ^ 4 := Nat.pow_le_pow_right (by decide) (by omega)
    omega
  · exact q
theorem BitsInv.step {b u i v : Nat} {d : Array UInt8} (h : BitsInv b u i v d) (hb : 16 ≤ b) (hv : b ≤ v) : BitsInv b u (i - 1) (v / b) (d.setIfInBounds (i - 1) (dig36 (v % b))) := by
  have h6 := h.room (by omega)
  have hs := h.size
  refine ⟨by simpa using h.size, by omega, by have := h.le; omega, ?_, ?_⟩
  · have h1 := h.small
    have e : 2 ^ (i - 1) = 2 ^ (i - 1 - 1) * 2 := by rw [← Nat.pow_succ]; congr 1; omega
    rw [Nat.div_lt_iff_lt_mul (by omega)]
    have : 2 ^ (i - 1 - 1) * 2 ≤ 2 ^ (i - 1 - 1) * b := Nat.mul_le_mul_left _ (by omega)
    omega
  · rw [h.said, fmtB_big (by omega) hv, drop_set _ _ _ (by have := h.le; omega), show i - 1 + 1 = i by omega, List.append_assoc]
    rfl
theorem BitsInv.last {b u i v : Nat} {d : Array UInt8} (h : BitsInv b u i v d) (hv : v < b) : (d.setIfInBounds (i - 1) (dig36 v)).toList.drop (i - 1) = fmtB b u := by
  have hs := h.size
  have hp := h.pos
  rw [h.said, fmtB_small hv, drop_set _ _ _ (by have := h.le; omega), show i - 1 + 1 = i by omega]
  rfl

theorem dig36_at (i : Nat) (h : i < Lib.digits36.size) : dig36 i = Lib.digits36[i] := (Lib.getD_at Lib.digits36 i h).symm
theorem fin_row (w : World) (o : Obj) (dk : Array UInt8) (k : Nat) : ∃ os, (putRow (fun (b : UInt8) => Value.int .u8 (b.toNat : Int)) (w.alloc o) w.heap.size 0 dk).drewN k = grow (w.drewN k) os := by
  rw [alloc_eq_grow]
  obtain ⟨os', _, e⟩ := putRow_grow_new (fun (b : UInt8) => Value.int .u8 (b.toNat : Int)) w #[o] w.heap.size 0 dk (Nat.le_refl _)
  exact ⟨os', by rw [e]; rfl⟩
end Go.Proofs.YthmedjljckbidaaDoor.Lift
