/- An image is rendered as the reference renders it. Conditions: none. -/
import Derived.Test.YtmjfjjnmdljkeaaLImageRendersOp
set_option linter.unusedVariables false
namespace Go.Proofs.Ytmjfjjnmdljkeaa.LImageRenders
open Go Go.Proofs.Ytmjfjjnmdljkeaa.Lift

/-- What is cut out of what. -/
structure In where
  mW : Int
  mH : Int
  L : List Int
  X : Int
  Y : Int
  W : Int
  H : Int
  TW : Int
  TH : Int

structure In.Ok (b : In) : Prop where
  w1 : 1 ≤ b.W
  w2 : b.W ≤ 64
  h1 : 1 ≤ b.H
  h2 : b.H ≤ 64
  tw1 : 1 ≤ b.TW
  tw2 : b.TW ≤ b.W
  th1 : 1 ≤ b.TH
  th2 : b.TH ≤ b.H
  x1 : 0 ≤ b.X
  x2 : b.X + b.W ≤ b.mW
  y1 : 0 ≤ b.Y
  y2 : b.Y + b.H ≤ b.mH
  m1 : b.mW ≤ 64
  m2 : b.mH ≤ 64
  l1 : (b.L.length : Int) = b.mW * b.mH
  l2 : ∀ l ∈ b.L, 0 ≤ l ∧ l ≤ 15

/-- The shared part of a new and an old stretch. -/
def ov (i n to k : Int) : Int := max 0 (min ((i + 1) * n) ((k + 1) * to) - max (i * n) (k * to))

theorem mulb {a b A B : Int} (h0 : 0 ≤ a) (h1 : a ≤ A) (h2 : 0 ≤ b) (h3 : b ≤ B) : 0 ≤ a * b ∧ a * b ≤ A * B :=
  ⟨Int.mul_nonneg h0 h2, Int.mul_le_mul h1 h3 h2 (by omega)⟩

theorem succ_mul' (a b : Int) : (a + 1) * b = a * b + b := by rw [Int.add_mul, Int.one_mul]

theorem ov_bound {i n to k : Int} (hn : 0 ≤ n) : 0 ≤ ov i n to k ∧ ov i n to k ≤ n := by
  unfold ov
  rw [succ_mul', succ_mul']
  omega

theorem c1_ok {i n to k : Int} (a1 : 0 ≤ i) (a2 : i ≤ 64) (b1 : 0 ≤ n) (b2 : n ≤ 64) (c1 : 0 ≤ to) (c2 : to ≤ 64) (d1 : 0 ≤ k) (d2 : k ≤ 64) : mastref2_RenderOf_c1.f i n to k = some (ov i n to k) := by
  have p1 := mulb a1 a2 b1 b2
  have p2 := mulb d1 d2 c1 c2
  unfold mastref2_RenderOf_c1.f ov
  have q1 := succ_mul' i n
  have q2 := succ_mul' k to
  rw [wadd64 (by omega) (by omega), wadd64 (by omega) (by omega), wmul64 (by omega) (by omega), wmul64 (by omega) (by omega), wmul64 (by omega) (by omega), wmul64 (by omega) (by omega)]
  have e1 : imin ((i + 1) * n) ((k + 1) * to) = min ((i + 1) * n) ((k + 1) * to) := by unfold imin; split <;> omega
  have e2 : imax (i * n) (k * to) = max (i * n) (k * to) := by unfold imax; split <;> omega
  rw [e1, e2, wsub64 (by omega) (by omega)]
  congr 1
  unfold imax
  split <;> omega

theorem over_ok {i n to k : Int} (a1 : 0 ≤ i) (a2 : i ≤ 64) (b1 : 0 ≤ n) (b2 : n ≤ 64) (c1 : 0 ≤ to) (c2 : to ≤ 64) (d1 : 0 ≤ k) (d2 : k ≤ 64) : asset_overlap.f (wmul .i64 k to) (wmul .i64 (wadd .i64 k 1) to) (wmul .i64 i n) (wmul .i64 (wadd .i64 i 1) n) = some (ov i n to k) := by
  have p1 := mulb a1 a2 b1 b2
  have p2 := mulb d1 d2 c1 c2
  have q1 := succ_mul' i n
  have q2 := succ_mul' k to
  rw [wadd64 (by omega) (by omega), wadd64 (by omega) (by omega), wmul64 (by omega) (by omega), wmul64 (by omega) (by omega), wmul64 (by omega) (by omega), wmul64 (by omega) (by omega)]
  unfold asset_overlap.f ov
  have e1 : imin ((k + 1) * to) ((i + 1) * n) = min ((i + 1) * n) ((k + 1) * to) := by unfold imin; split <;> omega
  have e2 : imax (k * to) (i * n) = max (i * n) (k * to) := by unfold imax; split <;> omega
  rw [e1, e2, wsub64 (by omega) (by omega)]
  congr 1
  unfold imax
  split <;> omega

/-- A sum over a stretch. -/
def Su (w : Int → Int) : Nat → Int → Int
  | 0, _ => 0
  | d + 1, u => w u + Su w d (u + 1)

theorem Su_zero {w : Int → Int} : ∀ (d : Nat) (u : Int), (∀ t, u ≤ t → t < u + d → w t = 0) → Su w d u = 0
  | 0, _, _ => rfl
  | d + 1, u, h => by
    rw [Su, h u (by omega) (by omega), Su_zero d (u + 1) fun t h1 h2 => h t (by omega) (by omega)]
    rfl
theorem Su_add {w : Int → Int} : ∀ (a b : Nat) (u : Int), Su w (a + b) u = Su w a u + Su w b (u + a)
  | 0, b, u => by simp [Su]
  | a + 1, b, u => by
    rw [show a + 1 + b = (a + b) + 1 by omega, Su, Su, Su_add a b (u + 1)]
    rw [show u + 1 + (a : Int) = u + ((a + 1 : Nat) : Int) by omega]
    omega
theorem Su_bound {w : Int → Int} {B : Int} (hB : 0 ≤ B) : ∀ (d : Nat) (u : Int), (∀ t, u ≤ t → t < u + d → 0 ≤ w t ∧ w t ≤ B) → 0 ≤ Su w d u ∧ Su w d u ≤ B * d
  | 0, _, _ => by simp [Su]
  | d + 1, u, h => by
    have h1 := h u (by omega) (by omega)
    have h2 := Su_bound hB d (u + 1) fun t h1 h2 => h t (by omega) (by omega)
    have e : B * ((d + 1 : Nat) : Int) = B * (d : Int) + B := by rw [Int.natCast_succ, Int.mul_add, Int.mul_one]
    rw [Su]
    omega
theorem Su_congr {w w' : Int → Int} : ∀ (d : Nat) (u : Int), (∀ t, u ≤ t → t < u + d → w t = w' t) → Su w d u = Su w' d u
  | 0, _, _ => rfl
  | d + 1, u, h => by rw [Su, Su, h u (by omega) (by omega), Su_congr d (u + 1) fun t h1 h2 => h t (by omega) (by omega)]
theorem Su_mul {w : Int → Int} (c : Int) : ∀ (d : Nat) (u : Int), Su (fun t => w t * c) d u = Su w d u * c
  | 0, _ => by simp [Su]
  | d + 1, u => by rw [Su, Su, Su_mul c d (u + 1), Int.add_mul]

/-- All stretches of one new part make up its length. -/
theorem ov_part (i n to : Int) (hn : 0 ≤ n) (ht : 0 ≤ to) : ∀ d : Nat, Su (ov i n to) d 0 = max 0 (min (i * n + n) (d * to) - i * n) ∨ i * n < 0
  | 0 => by
    by_cases h : i * n < 0
    · exact .inr h
    · refine .inl ?_
      simp only [Su, Int.natCast_zero, Int.zero_mul]
      omega
  | d + 1 => by
    rcases ov_part i n to hn ht d with h | h
    · refine .inl ?_
      rw [Su_add d 1 0, h]
      simp only [Su, Int.zero_add, Int.add_zero]
      unfold ov
      rw [succ_mul', Int.natCast_succ, succ_mul']
      have := Int.mul_nonneg (show (0 : Int) ≤ d by omega) ht
      omega
    · exact .inr h

theorem ov_all {i n to : Int} (hi : 0 ≤ i) (hit : i < to) (hn : 0 ≤ n) : Su (ov i n to) n.toNat 0 = n := by
  have h1 := Int.mul_nonneg hi hn
  have h2 : (i + 1) * n ≤ to * n := Int.mul_le_mul_of_nonneg_right (by omega) hn
  rw [succ_mul'] at h2
  have e : ((n.toNat : Nat) : Int) * to = to * n := by rw [Int.toNat_of_nonneg hn, Int.mul_comm]
  rcases ov_part i n to hn (by omega) n.toNat with h | h
  · rw [h, e]; omega
  · omega

def lev (b : In) (v u : Int) : Int := (b.L[((b.Y + v) * b.mW + b.X + u).toNat]?).getD 0

theorem lev_ok {b : In} (hb : b.Ok) {v u : Int} (v0 : 0 ≤ v) (v1 : v < b.H) (u0 : 0 ≤ u) (u1 : u < b.W) :
    lat b.L (wadd .i64 (wadd .i64 (wmul .i64 (wadd .i64 b.Y v) b.mW) b.X) u) = some (lev b v u) ∧ 0 ≤ lev b v u ∧ lev b v u ≤ 15 := by
  have ⟨w1, w2, h1, h2, tw1, tw2, th1, th2, x1, x2, y1, y2, m1, m2, l1, l2⟩ := hb
  have p := mulb (show 0 ≤ b.Y + v by omega) (show b.Y + v ≤ 64 by omega) (show 0 ≤ b.mW by omega) m1
  have q : (b.Y + v) * b.mW ≤ (b.mH - 1) * b.mW := Int.mul_le_mul_of_nonneg_right (by omega) (by omega)
  rw [Int.sub_mul, Int.one_mul, Int.mul_comm b.mH] at q
  rw [wadd64 (a := b.Y) (by omega) (by omega), wmul64 (by omega) (by omega), wadd64 (a := (b.Y + v) * b.mW) (by omega) (by omega), wadd64 (by omega) (by omega)]
  unfold lev
  have hlt : ((b.Y + v) * b.mW + b.X + u).toNat < b.L.length := by omega
  have := l2 _ (List.getElem_mem hlt)
  rw [List.getElem?_eq_getElem hlt]
  refine ⟨?_, by simpa using this⟩
  unfold lat
  rw [if_pos (by omega), List.getElem?_eq_getElem hlt]
  rfl

/-! The reference. -/
section
variable {b : In} (hb : b.Ok)
include hb

abbrev r3 (b : In) (k : Nat) (out : List Int) (y x S A v u : Int) := mastref2_RenderOf.l3 k b.mW b.mH b.L b.X b.Y b.W b.H b.TW b.TH 0 0 [] b.TW b.TH out y x S A v b.TH y b.TW x b.H v b.W u
abbrev r2 (b : In) (k : Nat) (out : List Int) (y x S A v : Int) := mastref2_RenderOf.l2 k b.mW b.mH b.L b.X b.Y b.W b.H b.TW b.TH 0 0 [] b.TW b.TH out y x S A b.TH y b.TW x b.H v
abbrev r1 (b : In) (k : Nat) (out : List Int) (y x : Int) := mastref2_RenderOf.l1 k b.mW b.mH b.L b.X b.Y b.W b.H b.TW b.TH 0 0 [] b.TW b.TH out y b.TH y b.TW x
abbrev r0 (b : In) (k : Nat) (out : List Int) (y : Int) := mastref2_RenderOf.l0 k b.mW b.mH b.L b.X b.Y b.W b.H b.TW b.TH 0 0 [] b.TW b.TH out b.TH y

def wS (b : In) (y x v u : Int) : Int := ov x b.W b.TW u * ov y b.H b.TH v * lev b v u
def wA (b : In) (y x v u : Int) : Int := ov x b.W b.TW u * ov y b.H b.TH v

theorem w_bound {y x v u : Int} (v0 : 0 ≤ v) (v1 : v < b.H) (u0 : 0 ≤ u) (u1 : u < b.W) : (0 ≤ wA b y x v u ∧ wA b y x v u ≤ 4096) ∧ (0 ≤ wS b y x v u ∧ wS b y x v u ≤ 61440) := by
  have ⟨w1, w2, h1, h2, tw1, tw2, th1, th2, x1, x2, y1, y2, m1, m2, l1, l2⟩ := hb
  have a1 := ov_bound (i := x) (to := b.TW) (k := u) (show 0 ≤ b.W by omega)
  have a2 := ov_bound (i := y) (to := b.TH) (k := v) (show 0 ≤ b.H by omega)
  have p := mulb a1.1 (show _ ≤ 64 by omega) a2.1 (show _ ≤ 64 by omega)
  have l := (lev_ok hb v0 v1 u0 u1).2
  have q := mulb p.1 (show _ ≤ 4096 by omega) l.1 l.2
  exact ⟨⟨p.1, by unfold wA; omega⟩, ⟨q.1, by unfold wS; omega⟩⟩

theorem r3_run (out : List Int) {y x v : Int} (y0 : 0 ≤ y) (y1 : y < b.TH) (x0 : 0 ≤ x) (x1 : x < b.TW) (v0 : 0 ≤ v) (v1 : v < b.H) : ∀ (d : Nat) (u S A : Int), u + d = b.W → 0 ≤ u → 0 ≤ S → S + 61440 * d ≤ 1000000000 → 0 ≤ A → A + 4096 * d ≤ 1000000000 →
    To (fun k => r3 b k out y x S A v u) (fun k => r2 b k out y x (S + Su (wS b y x v) d u) (A + Su (wA b y x v) d u) (v + 1)) := by
  have ⟨w1, w2, h1, h2, tw1, tw2, th1, th2, xx1, x2, yy1, y2, m1, m2, l1, l2⟩ := hb
  intro d
  induction d with
  | zero =>
    intro u S A hd u0 s0 s1 a0 a1
    refine To.step fun k => ?_
    simp only [r3, mastref2_RenderOf.l3, ilt_f (show b.W ≤ u by omega), cond_false, Su, Int.add_zero, wadd64 (show -9223372036854775808 ≤ v + 1 by omega) (show v + 1 ≤ 9223372036854775807 by omega)]
  | succ d ih =>
    intro u S A hd u0 s0 s1 a0 a1
    have ⟨⟨bA0, bA1⟩, ⟨bS0, bS1⟩⟩ := w_bound hb (y := y) (x := x) v0 v1 u0 (show u < b.W by omega)
    have := ih (u + 1) (S + wS b y x v u) (A + wA b y x v u) (by omega) (by omega) (by omega) (by omega) (by omega) (by omega)
    rw [Int.add_assoc S, Int.add_assoc A] at this
    refine To.then (fun k => ?_) this
    simp only [r3, mastref2_RenderOf.l3, ilt_t (show u < b.W by omega), cond_true]
    rw [c1_ok (i := x) (by omega) (by omega) (by omega) (by omega) (by omega) (by omega) (by omega) (by omega), Option.bind_some, c1_ok (i := y) (by omega) (by omega) (by omega) (by omega) (by omega) (by omega) (by omega) (by omega), Option.bind_some, (lev_ok hb v0 v1 u0 (by omega)).1, Option.bind_some]
    unfold wA wS at *
    rw [wmul64 (a := ov x b.W b.TW u) (by omega) (by omega), wmul64 (by omega) (by omega), wadd64 (a := S) (by omega) (by omega), wadd64 (a := A) (by omega) (by omega), wadd64 (a := u) (by omega) (by omega)]

def tS (b : In) (y x v : Int) : Int := Su (wS b y x v) b.W.toNat 0
def tA (b : In) (y x v : Int) : Int := Su (wA b y x v) b.W.toNat 0

theorem t_bound {y x v : Int} (v0 : 0 ≤ v) (v1 : v < b.H) : (0 ≤ tA b y x v ∧ tA b y x v ≤ 262144) ∧ (0 ≤ tS b y x v ∧ tS b y x v ≤ 3932160) := by
  have ⟨w1, w2, h1, h2, tw1, tw2, th1, th2, xx1, x2, yy1, y2, m1, m2, l1, l2⟩ := hb
  have hA := Su_bound (w := wA b y x v) (B := 4096) (by omega) b.W.toNat 0 fun t t0 t1 => (w_bound hb v0 v1 t0 (by omega)).1
  have hS := Su_bound (w := wS b y x v) (B := 61440) (by omega) b.W.toNat 0 fun t t0 t1 => (w_bound hb v0 v1 t0 (by omega)).2
  unfold tA tS
  omega

theorem r2_run (out : List Int) {y x : Int} (y0 : 0 ≤ y) (y1 : y < b.TH) (x0 : 0 ≤ x) (x1 : x < b.TW) : ∀ (d : Nat) (v S A : Int), v + d = b.H → 0 ≤ v → 0 ≤ S → S + 3932160 * d ≤ 900000000 → 0 ≤ A → A + 262144 * d ≤ 900000000 →
    To (fun k => r2 b k out y x S A v) (fun k => (mastref2_rounded.f (S + Su (tS b y x) d v) (A + Su (tA b y x) d v)).bind fun q => (lapp 8 out [q]).bind fun o => r1 b k o y (wadd .i64 x 1)) := by
  have ⟨w1, w2, h1, h2, tw1, tw2, th1, th2, xx1, x2, yy1, y2, m1, m2, l1, l2⟩ := hb
  intro d
  induction d with
  | zero =>
    intro v S A hd v0 s0 s1 a0 a1
    refine To.step fun k => ?_
    simp only [r2, mastref2_RenderOf.l2, ilt_f (show b.H ≤ v by omega), cond_false, Su, Int.add_zero]
  | succ d ih =>
    intro v S A hd v0 s0 s1 a0 a1
    have ⟨⟨bA0, bA1⟩, ⟨bS0, bS1⟩⟩ := t_bound hb (y := y) (x := x) v0 (show v < b.H by omega)
    have := ih (v + 1) (S + tS b y x v) (A + tA b y x v) (by omega) (by omega) (by omega) (by omega) (by omega) (by omega)
    rw [Int.add_assoc S, Int.add_assoc A] at this
    refine To.then (g := fun k => r3 b k out y x S A v 0) (fun k => ?_) ((r3_run hb out y0 y1 x0 x1 v0 (by omega) b.W.toNat 0 S A (by omega) (by omega) s0 (by omega) a0 (by omega)).trans this)
    simp only [r2, mastref2_RenderOf.l2, ilt_t (show v < b.H by omega), cond_true]

theorem area_all {y x : Int} (y0 : 0 ≤ y) (y1 : y < b.TH) (x0 : 0 ≤ x) (x1 : x < b.TW) : Su (tA b y x) b.H.toNat 0 = b.W * b.H := by
  have ⟨w1, w2, h1, h2, tw1, tw2, th1, th2, xx1, x2, yy1, y2, m1, m2, l1, l2⟩ := hb
  have e : ∀ v, tA b y x v = ov y b.H b.TH v * b.W := fun v => by
    unfold tA wA
    rw [Su_mul, ov_all x0 x1 (by omega), Int.mul_comm]
  rw [Su_congr (w' := fun v => ov y b.H b.TH v * b.W) _ _ fun t _ _ => e t, Su_mul, ov_all y0 y1 (by omega), Int.mul_comm]

/-- The level of a new dot. -/
def dot (b : In) (y x : Int) : Int := wquo .i64 (wadd .i64 (wmul .i64 2 (Su (tS b y x) b.H.toNat 0)) (b.W * b.H)) (wmul .i64 2 (b.W * b.H))

theorem area_pos : 1 ≤ b.W * b.H ∧ b.W * b.H ≤ 4096 := by
  have ⟨w1, w2, h1, h2, tw1, tw2, th1, th2, xx1, x2, yy1, y2, m1, m2, l1, l2⟩ := hb
  have := mulb (show 0 ≤ b.W by omega) w2 (show 0 ≤ b.H by omega) h2
  have : 1 * 1 ≤ b.W * b.H := Int.mul_le_mul w1 h1 (by omega) (by omega)
  omega

theorem r1_step (out : List Int) (ho : out.length ≤ 5000) {y x : Int} (y0 : 0 ≤ y) (y1 : y < b.TH) (x0 : 0 ≤ x) (x1 : x < b.TW) : To (fun k => r1 b k out y x) (fun k => r1 b k (out ++ [dot b y x]) y (x + 1)) := by
  have ⟨w1, w2, h1, h2, tw1, tw2, th1, th2, xx1, x2, yy1, y2, m1, m2, l1, l2⟩ := hb
  have ap := area_pos hb
  have := r2_run hb out y0 y1 x0 x1 b.H.toNat 0 0 0 (by omega) (by omega) (by omega) (by omega) (by omega) (by omega)
  refine To.then (g := fun k => r2 b k out y x 0 0 0) (fun k => ?_) (this.trans (To.of_eq fun k => ?_))
  · simp only [r1, mastref2_RenderOf.l1, ilt_t x1, cond_true]
  · rw [Int.zero_add, Int.zero_add, area_all hb y0 y1 x0 x1]
    have hz : ieq (wmul .i64 2 (b.W * b.H)) 0 = false := ieq_f (by rw [wmul64 (by omega) (by omega)]; omega)
    simp only [mastref2_rounded.f, hz, cond_false, Option.bind_some]
    rw [show wquo .i64 (wadd .i64 (wmul .i64 2 (Su (tS b y x) b.H.toNat 0)) (b.W * b.H)) (wmul .i64 2 (b.W * b.H)) = dot b y x from rfl, lapp_ok (by simp; omega) (by simp; omega), Option.bind_some, wadd64 (by omega) (by omega)]

/-! The program. -/
abbrev p4 (b : In) (k : Nat) (out : List Int) (y x S v h u : Int) := asset_Render.l4 k b.mW b.mH b.L b.X b.Y b.W b.H b.TW b.TH 0 0 [] b.TW b.TH out (b.W * b.H) y x S v h u b.TH y b.TW x
abbrev p3 (b : In) (k : Nat) (out : List Int) (y x S v : Int) := asset_Render.l3 k b.mW b.mH b.L b.X b.Y b.W b.H b.TW b.TH 0 0 [] b.TW b.TH out (b.W * b.H) y x S v b.TH y b.TW x
abbrev p2 (b : In) (k : Nat) (out : List Int) (y x : Int) := asset_Render.l2 k b.mW b.mH b.L b.X b.Y b.W b.H b.TW b.TH 0 0 [] b.TW b.TH out (b.W * b.H) y b.TH y b.TW x
abbrev p1 (b : In) (k : Nat) (out : List Int) (y : Int) := asset_Render.l1 k b.mW b.mH b.L b.X b.Y b.W b.H b.TW b.TH 0 0 [] b.TW b.TH out (b.W * b.H) b.TH y

omit hb in
theorem ov_late {i n to k : Int} (hn : 0 ≤ n) (ht : 0 ≤ to) (h : (i + 1) * n ≤ k * to) : ov i n to k = 0 := by
  unfold ov; rw [succ_mul'] at h ⊢; rw [succ_mul']; omega
omit hb in
theorem ov_early {i n to k : Int} (hn : 0 ≤ n) (ht : 0 ≤ to) (h : (k + 1) * to ≤ i * n) : ov i n to k = 0 := by
  unfold ov; rw [succ_mul'] at h ⊢; rw [succ_mul']; omega
omit hb in
theorem mul_mono {a c d : Int} (h : a ≤ c) (hd : 0 ≤ d) : a * d ≤ c * d := Int.mul_le_mul_of_nonneg_right h hd

omit hb in
theorem late_mono {i n to k t : Int} (hn : 0 ≤ n) (ht : 0 ≤ to) (h : (i + 1) * n ≤ k * to) (hk : k ≤ t) : ov i n to t = 0 :=
  ov_late hn ht (Int.le_trans h (mul_mono hk ht))

theorem p4_run (out : List Int) {y x v : Int} (y0 : 0 ≤ y) (y1 : y < b.TH) (x0 : 0 ≤ x) (x1 : x < b.TW) (v0 : 0 ≤ v) (v1 : v < b.H) : ∀ (d : Nat) (u S : Int), u + d = b.W → 0 ≤ u → 0 ≤ S → S + 61440 * d ≤ 1000000000 →
    To (fun k => p4 b k out y x S v (ov y b.H b.TH v) u) (fun k => p3 b k out y x (S + Su (wS b y x v) d u) (v + 1)) := by
  have ⟨w1, w2, h1, h2, tw1, tw2, th1, th2, xx1, x2, yy1, y2, m1, m2, l1, l2⟩ := hb
  intro d
  induction d with
  | zero =>
    intro u S hd u0 s0 s1
    refine To.step fun k => ?_
    simp only [p4, asset_Render.l4, ilt_f (show b.W ≤ u by omega), cond_false, Su, Int.add_zero, wadd64 (show -9223372036854775808 ≤ v + 1 by omega) (show v + 1 ≤ 9223372036854775807 by omega)]
  | succ d ih =>
    intro u S hd u0 s0 s1
    have p1 := mulb u0 (show u ≤ 64 by omega) (show 0 ≤ b.TW by omega) (show b.TW ≤ 64 by omega)
    have p2 := mulb x0 (show x ≤ 64 by omega) (show 0 ≤ b.W by omega) w2
    have q := succ_mul' x b.W
    have e : ilt (wmul .i64 u b.TW) (wmul .i64 (wadd .i64 x 1) b.W) = decide (u * b.TW < (x + 1) * b.W) := by
      rw [wadd64 (by omega) (by omega), wmul64 (by omega) (by omega), wmul64 (by omega) (by omega)]; rfl
    by_cases hlt : u * b.TW < (x + 1) * b.W
    · have ⟨⟨bA0, bA1⟩, ⟨bS0, bS1⟩⟩ := w_bound hb (y := y) (x := x) v0 v1 u0 (show u < b.W by omega)
      have := ih (u + 1) (S + wS b y x v u) (by omega) (by omega) (by omega) (by omega)
      rw [Int.add_assoc S] at this
      refine To.then (fun k => ?_) this
      simp only [p4, asset_Render.l4, ilt_t (show u < b.W by omega), cond_true, e, decide_eq_true hlt]
      rw [over_ok (i := x) (by omega) (by omega) (by omega) (by omega) (by omega) (by omega) (by omega) (by omega), Option.bind_some, (lev_ok hb v0 v1 u0 (by omega)).1, Option.bind_some]
      unfold wA wS at *
      have hc : ov y b.H b.TH v * ov x b.W b.TW u = ov x b.W b.TW u * ov y b.H b.TH v := Int.mul_comm _ _
      rw [wmul64 (a := ov y b.H b.TH v) (by rw [hc]; omega) (by rw [hc]; omega), hc, wmul64 (by omega) (by omega), wadd64 (a := S) (by omega) (by omega), wadd64 (a := u) (by omega) (by omega)]
    · refine To.step fun k => ?_
      have hz : Su (wS b y x v) (d + 1) u = 0 := Su_zero _ _ fun t t0 t1 => by
        unfold wS
        rw [late_mono (by omega) (by omega) (by omega) t0]
        simp
      simp only [p4, asset_Render.l4, ilt_t (show u < b.W by omega), cond_true, e, decide_eq_false hlt, cond_false, hz, Int.add_zero, wadd64 (show -9223372036854775808 ≤ v + 1 by omega) (show v + 1 ≤ 9223372036854775807 by omega)]

omit hb in
/-- Where a part begins: all before it shares nothing. -/
theorem start {i n to : Int} (i0 : 0 ≤ i) (n0 : 0 ≤ n) (t0 : 0 < to) (hi : i < to) (hn : 1 ≤ n) : 0 ≤ (i * n).tdiv to ∧ (i * n).tdiv to < n ∧ ∀ t, t < (i * n).tdiv to → ov i n to t = 0 := by
  have h0 := Int.mul_nonneg i0 n0
  have e : (i * n).tdiv to = i * n / to := Int.tdiv_eq_ediv_of_nonneg h0
  rw [e]
  have d1 := Int.ediv_mul_le (i * n) (show to ≠ 0 by omega)
  have d2 : 0 ≤ i * n / to := Int.ediv_nonneg h0 (by omega)
  refine ⟨d2, ?_, fun t ht => ?_⟩
  · refine Int.ediv_lt_of_lt_mul t0 ?_
    rw [Int.mul_comm n to]
    have : (i + 1) * n ≤ to * n := mul_mono (by omega) n0
    rw [succ_mul'] at this
    omega
  · exact ov_early n0 (by omega) (Int.le_trans (mul_mono (show t + 1 ≤ i * n / to by omega) (by omega)) d1)

omit hb in
theorem Su_from {w : Int → Int} {n s : Int} (s0 : 0 ≤ s) (s1 : s ≤ n) (h : ∀ t, 0 ≤ t → t < s → w t = 0) : Su w (n - s).toNat s = Su w n.toNat 0 := by
  have : n.toNat = s.toNat + (n - s).toNat := by omega
  rw [this, Su_add, Su_zero s.toNat 0 fun t t0 t1 => h t t0 (by omega), Int.zero_add, Int.zero_add, Int.toNat_of_nonneg s0]

theorem p3_run (out : List Int) (ho : out.length ≤ 5000) {y x : Int} (y0 : 0 ≤ y) (y1 : y < b.TH) (x0 : 0 ≤ x) (x1 : x < b.TW) : ∀ (d : Nat) (v S : Int), v + d = b.H → 0 ≤ v → 0 ≤ S → S + 3932160 * d ≤ 900000000 →
    To (fun k => p3 b k out y x S v) (fun k => p2 b k (out ++ [wquo .i64 (wadd .i64 (wmul .i64 2 (S + Su (tS b y x) d v)) (b.W * b.H)) (wmul .i64 2 (b.W * b.H))]) y (x + 1)) := by
  have ⟨w1, w2, h1, h2, tw1, tw2, th1, th2, xx1, x2, yy1, y2, m1, m2, l1, l2⟩ := hb
  have ap := area_pos hb
  have hz : ieq (wmul .i64 2 (b.W * b.H)) 0 = false := ieq_f (by rw [wmul64 (by omega) (by omega)]; omega)
  have hla : ∀ q, lapp 8 out [q] = some (out ++ [q]) := fun q => lapp_ok (by simp; omega) (by simp; omega)
  intro d
  induction d with
  | zero =>
    intro v S hd v0 s0 s1
    refine To.step fun k => ?_
    simp only [p3, asset_Render.l3, ilt_f (show b.H ≤ v by omega), cond_false, Su, Int.add_zero, hz, hla, Option.bind_some, wadd64 (show -9223372036854775808 ≤ x + 1 by omega) (show x + 1 ≤ 9223372036854775807 by omega)]
  | succ d ih =>
    intro v S hd v0 s0 s1
    have p1 := mulb v0 (show v ≤ 64 by omega) (show 0 ≤ b.TH by omega) (show b.TH ≤ 64 by omega)
    have p2 := mulb y0 (show y ≤ 64 by omega) (show 0 ≤ b.H by omega) h2
    have px := mulb x0 (show x ≤ 64 by omega) (show 0 ≤ b.W by omega) w2
    have q := succ_mul' y b.H
    have e : ilt (wmul .i64 v b.TH) (wmul .i64 (wadd .i64 y 1) b.H) = decide (v * b.TH < (y + 1) * b.H) := by
      rw [wadd64 (by omega) (by omega), wmul64 (by omega) (by omega), wmul64 (by omega) (by omega)]; rfl
    by_cases hlt : v * b.TH < (y + 1) * b.H
    · have ⟨⟨bA0, bA1⟩, ⟨bS0, bS1⟩⟩ := t_bound hb (y := y) (x := x) v0 (show v < b.H by omega)
      have := ih (v + 1) (S + tS b y x v) (by omega) (by omega) (by omega) (by omega)
      rw [Int.add_assoc S] at this
      have ⟨u0, u1, u2⟩ := start (i := x) (n := b.W) (to := b.TW) x0 (by omega) (by omega) x1 w1
      have r := p4_run hb out y0 y1 x0 x1 v0 (by omega) (b.W - (x * b.W).tdiv b.TW).toNat ((x * b.W).tdiv b.TW) S (by omega) u0 s0 (by omega)
      rw [Su_from u0 (by omega) fun t _ ht => by unfold wS; rw [u2 t ht]; simp] at r
      refine To.then (fun k => ?_) (r.trans this)
      simp only [p3, asset_Render.l3, ilt_t (show v < b.H by omega), cond_true, e, decide_eq_true hlt]
      rw [over_ok (i := y) (by omega) (by omega) (by omega) (by omega) (by omega) (by omega) (by omega) (by omega), Option.bind_some, ieq_f (show b.TW ≠ 0 by omega), cond_false, wmul64 (by omega) (by omega), wquo64 (by omega) (by omega)]
    · refine To.step fun k => ?_
      have hzz : Su (tS b y x) (d + 1) v = 0 := Su_zero _ _ fun t t0 t1 => by
        unfold tS wS
        rw [late_mono (by omega) (by omega) (by omega) t0]
        exact Su_zero _ _ fun _ _ _ => by simp
      simp only [p3, asset_Render.l3, ilt_t (show v < b.H by omega), cond_true, e, decide_eq_false hlt, cond_false, hzz, Int.add_zero, hz, hla, Option.bind_some, wadd64 (show -9223372036854775808 ≤ x + 1 by omega) (show x + 1 ≤ 9223372036854775807 by omega)]

theorem p2_step (out : List Int) (ho : out.length ≤ 5000) {y x : Int} (y0 : 0 ≤ y) (y1 : y < b.TH) (x0 : 0 ≤ x) (x1 : x < b.TW) : To (fun k => p2 b k out y x) (fun k => p2 b k (out ++ [dot b y x]) y (x + 1)) := by
  have ⟨w1, w2, h1, h2, tw1, tw2, th1, th2, xx1, x2, yy1, y2, m1, m2, l1, l2⟩ := hb
  have ⟨v0, v1, v2⟩ := start (i := y) (n := b.H) (to := b.TH) y0 (by omega) (by omega) y1 h1
  have py := mulb y0 (show y ≤ 64 by omega) (show 0 ≤ b.H by omega) h2
  have r := p3_run hb out ho y0 y1 x0 x1 (b.H - (y * b.H).tdiv b.TH).toNat ((y * b.H).tdiv b.TH) 0 (by omega) v0 (by omega) (by omega)
  rw [Su_from v0 (by omega) fun t _ ht => by unfold tS wS; rw [v2 t ht]; exact Su_zero _ _ fun _ _ _ => by simp] at r
  rw [Int.zero_add] at r
  refine To.then (fun k => ?_) r
  simp only [p2, asset_Render.l2, ilt_t x1, cond_true, ieq_f (show b.TH ≠ 0 by omega), cond_false, wmul64 (show -9223372036854775808 ≤ y * b.H by omega) (show y * b.H ≤ 9223372036854775807 by omega)]
  rw [wquo64 (by omega) (by omega)]

/-! Both. -/
theorem rows {y : Int} (y0 : 0 ≤ y) (y1 : y < b.TH) : ∀ (d : Nat) (x : Int) (out : List Int), x + d = b.TW → 0 ≤ x → out.length + d ≤ 5000 →
    ∃ out', out'.length = out.length + d ∧ To (fun k => p2 b k out y x) (fun k => p1 b k out' (y + 1)) ∧ To (fun k => r1 b k out y x) (fun k => r0 b k out' (y + 1)) := by
  have ⟨w1, w2, h1, h2, tw1, tw2, th1, th2, xx1, x2, yy1, y2, m1, m2, l1, l2⟩ := hb
  intro d
  induction d with
  | zero =>
    intro x out hd x0 ho
    have e := wadd64 (a := y) (b := 1) (by omega) (by omega)
    exact ⟨out, rfl, To.step fun k => by simp only [p2, asset_Render.l2, ilt_f (show b.TW ≤ x by omega), cond_false, e], To.step fun k => by simp only [r1, mastref2_RenderOf.l1, ilt_f (show b.TW ≤ x by omega), cond_false, e]⟩
  | succ d ih =>
    intro x out hd x0 ho
    obtain ⟨o, l, a, c⟩ := ih (x + 1) (out ++ [dot b y x]) (by omega) (by omega) (by simp; omega)
    exact ⟨o, by simp at l; omega, (p2_step hb out (by omega) y0 y1 x0 (by omega)).trans a, (r1_step hb out (by omega) y0 y1 x0 (by omega)).trans c⟩

theorem all : ∀ (d : Nat) (y : Int) (out : List Int), y + d = b.TH → 0 ≤ y → out.length + d * b.TW.toNat ≤ 5000 →
    ∃ out', out'.length ≤ 5000 ∧ Ev (fun k => p1 b k out y) (T_asset_Image.mk b.TW b.TH out', 0) ∧ Ev (fun k => r0 b k out y) (T_asset_Image.mk b.TW b.TH out', 0) := by
  have ⟨w1, w2, h1, h2, tw1, tw2, th1, th2, xx1, x2, yy1, y2, m1, m2, l1, l2⟩ := hb
  intro d
  induction d with
  | zero =>
    intro y out hd y0 ho
    exact ⟨out, by omega, Ev.step (g := fun _ => some (T_asset_Image.mk b.TW b.TH out, 0)) (fun k => by simp only [p1, asset_Render.l1, ilt_f (show b.TH ≤ y by omega), cond_false]) (Ev.now fun _ => rfl), Ev.step (g := fun _ => some (T_asset_Image.mk b.TW b.TH out, 0)) (fun k => by simp only [r0, mastref2_RenderOf.l0, ilt_f (show b.TH ≤ y by omega), cond_false]) (Ev.now fun _ => rfl)⟩
  | succ d ih =>
    intro y out hd y0 ho
    rw [Nat.succ_mul] at ho
    obtain ⟨o, l, a, c⟩ := rows hb y0 (by omega) b.TW.toNat 0 out (by omega) (by omega) (by omega)
    obtain ⟨o', l', a', c'⟩ := ih (y + 1) o (by omega) (by omega) (by omega)
    exact ⟨o', l', Ev.step (fun k => by simp only [p1, asset_Render.l1, ilt_t (show y < b.TH by omega), cond_true]) (Ev.to a a'), Ev.step (fun k => by simp only [r0, mastref2_RenderOf.l0, ilt_t (show y < b.TH by omega), cond_true]) (Ev.to c c')⟩
end

theorem side_same (n : Int) : mastref2_isSide.f n = asset_isSide.f n := rfl

/-- Both checks of an image give the same; and what a good one is. -/
theorem check_loop (L : List Int) (hL : L.length ≤ 9223372036854775807) : ∀ (d n : Nat), n + d = L.length → ∃ e, Ev (fun k => asset_CheckImage.l0 k L (L.length : Int) (n : Int)) e ∧ Ev (fun k => mastref2_ImageFault.l0 k L (L.length : Int) (n : Int)) e ∧ (e = 0 → ∀ j, n ≤ j → ∀ l, L[j]? = some l → 0 ≤ l ∧ l ≤ 15) := by
  intro d
  induction d with
  | zero =>
    intro n hn
    refine ⟨0, Ev.step (g := fun _ => some 0) (fun k => by simp only [asset_CheckImage.l0, ilt_f (show (L.length : Int) ≤ (n : Int) by omega), cond_false]) (Ev.now fun _ => rfl), Ev.step (g := fun _ => some 0) (fun k => by simp only [mastref2_ImageFault.l0, ilt_f (show (L.length : Int) ≤ (n : Int) by omega), cond_false]) (Ev.now fun _ => rfl), fun _ j hj l hl => ?_⟩
    have := (List.getElem?_eq_some_iff.1 hl).1
    omega
  | succ d ih =>
    intro n hn
    have hlt : n < L.length := by omega
    by_cases hq : L[n] < 0 ∨ 15 < L[n]
    · have e : (bif (ilt L[n] 0) then true else (ilt 15 L[n])) = true := by
        simp only [ilt_d, Bool.cond_true_left, Bool.or_eq_true, decide_eq_true_eq]; exact hq
      exact ⟨2, Ev.step (g := fun _ => some 2) (fun k => by simp only [asset_CheckImage.l0, ilt_t (show (n : Int) < (L.length : Int) by omega), cond_true, lat_lt hlt, Option.bind_some, e]) (Ev.now fun _ => rfl), Ev.step (g := fun _ => some 2) (fun k => by simp only [mastref2_ImageFault.l0, ilt_t (show (n : Int) < (L.length : Int) by omega), cond_true, lat_lt hlt, Option.bind_some, e]) (Ev.now fun _ => rfl), fun h => by cases h⟩
    · have e : (bif (ilt L[n] 0) then true else (ilt 15 L[n])) = false := by
        rw [← Bool.not_eq_true]
        simp only [ilt_d, Bool.cond_true_left, Bool.or_eq_true, decide_eq_true_eq]; exact hq
      obtain ⟨c, e1, e2, e3⟩ := ih (n + 1) (by omega)
      have w : wadd .i64 (n : Int) 1 = ((n + 1 : Nat) : Int) := wadd64 (by omega) (by omega)
      refine ⟨c, Ev.step (fun k => by simp only [asset_CheckImage.l0, ilt_t (show (n : Int) < (L.length : Int) by omega), cond_true, lat_lt hlt, Option.bind_some, e, cond_false, w]) e1, Ev.step (fun k => by simp only [mastref2_ImageFault.l0, ilt_t (show (n : Int) < (L.length : Int) by omega), cond_true, lat_lt hlt, Option.bind_some, e, cond_false, w]) e2, fun h j hj l hl => ?_⟩
      by_cases hj2 : j = n
      · subst hj2
        rw [List.getElem?_eq_getElem hlt] at hl
        obtain rfl := Option.some.inj hl
        omega
      · exact e3 h j (by omega) l hl

theorem check (m : T_asset_Image) (hL : m.fLevels.length ≤ 9223372036854775807) : ∃ e, Ev (fun k => asset_CheckImage.f k m) e ∧ Ev (fun k => mastref2_ImageFault.f k m) e ∧ (e = 0 → 1 ≤ m.fWidth ∧ m.fWidth ≤ 64 ∧ 1 ≤ m.fHeight ∧ m.fHeight ≤ 64 ∧ (m.fLevels.length : Int) = m.fWidth * m.fHeight ∧ ∀ l ∈ m.fLevels, 0 ≤ l ∧ l ≤ 15) := by
  have hs : ∀ n : Int, asset_isSide.f n = some (decide (1 ≤ n ∧ n ≤ 64)) := fun n => by
    unfold asset_isSide.f
    simp only [ile_d, Bool.cond_false_right, ← Bool.decide_and]
  by_cases hw : 1 ≤ m.fWidth ∧ m.fWidth ≤ 64
  · by_cases hh : 1 ≤ m.fHeight ∧ m.fHeight ≤ 64
    · have p := mulb (show 0 ≤ m.fWidth by omega) hw.2 (show 0 ≤ m.fHeight by omega) hh.2
      have w : wmul .i64 m.fWidth m.fHeight = m.fWidth * m.fHeight := wmul64 (by omega) (by omega)
      by_cases hl : (m.fLevels.length : Int) = m.fWidth * m.fHeight
      · obtain ⟨e, e1, e2, e3⟩ := check_loop m.fLevels hL m.fLevels.length 0 (by omega)
        refine ⟨e, Ev.congr (fun k => ?_) e1, Ev.congr (fun k => ?_) e2, fun h => ⟨hw.1, hw.2, hh.1, hh.2, hl, fun l hl => ?_⟩⟩
        · simp only [asset_CheckImage.f, hs, Option.bind_some, decide_eq_true hw, decide_eq_true hh, Bool.not_true, cond_false, w, llen_eq, ieq_t hl]
          rfl
        · simp only [mastref2_ImageFault.f, side_same, hs, Option.bind_some, decide_eq_true hw, decide_eq_true hh, Bool.not_true, cond_false, w, llen_eq, ieq_t hl]
          rfl
        · obtain ⟨j, hj, rfl⟩ := List.getElem_of_mem hl
          exact e3 h j (by omega) _ (List.getElem?_eq_getElem hj)
      · exact ⟨1, Ev.now fun k => by simp only [asset_CheckImage.f, hs, Option.bind_some, decide_eq_true hw, decide_eq_true hh, Bool.not_true, Bool.not_false, cond_false, cond_true, w, llen_eq, ieq_f hl], Ev.now fun k => by simp only [mastref2_ImageFault.f, side_same, hs, Option.bind_some, decide_eq_true hw, decide_eq_true hh, Bool.not_true, Bool.not_false, cond_false, cond_true, w, llen_eq, ieq_f hl], fun h => by cases h⟩
    · exact ⟨2, Ev.now fun k => by simp only [asset_CheckImage.f, hs, Option.bind_some, decide_eq_true hw, decide_eq_false hh, Bool.not_true, Bool.not_false, cond_false, cond_true], Ev.now fun k => by simp only [mastref2_ImageFault.f, side_same, hs, Option.bind_some, decide_eq_true hw, decide_eq_false hh, Bool.not_true, Bool.not_false, cond_false, cond_true], fun h => by cases h⟩
  · exact ⟨2, Ev.now fun k => by simp only [asset_CheckImage.f, hs, Option.bind_some, decide_eq_false hw, Bool.not_false, cond_true], Ev.now fun k => by simp only [mastref2_ImageFault.f, side_same, hs, Option.bind_some, decide_eq_false hw, Bool.not_false, cond_true], fun h => by cases h⟩

theorem equal_self (l : List Int) (hl : l.length ≤ 5000) : Ev (fun k => slices_Equal_int_int.f k l l) true := by
  have loop : ∀ (d n : Nat), n + d = l.length → Ev (fun k => slices_Equal_int_int.l0 k l l (l.length : Int) (n : Int)) true := by
    intro d
    induction d with
    | zero =>
      intro n hn
      have e1 : ilt (n : Int) (l.length : Int) = false := ilt_f (by omega)
      exact Ev.step (g := fun _ => some true) (fun k => by simp [slices_Equal_int_int.l0, e1]) (Ev.now fun _ => rfl)
    | succ d ih =>
      intro n hn
      have e1 : ilt (n : Int) (l.length : Int) = true := ilt_t (by omega)
      have e2 : wadd .i64 (n : Int) 1 = ((n + 1 : Nat) : Int) := wadd64 (by omega) (by omega)
      exact Ev.step (fun k => by simp [slices_Equal_int_int.l0, e1, e2, lat_lt (show n < l.length by omega), ieq_self]) (ih (n + 1) (by omega))
  refine Ev.congr (fun k => ?_) (loop l.length 0 (by omega))
  simp [slices_Equal_int_int.f, ieq_self, llen_eq]

theorem alike_self (m : T_asset_Image) (hl : m.fLevels.length ≤ 5000) : Ev (fun k => mastref2_Alike_at_asset_Image.f k m m) true := by
  unfold mastref2_Alike_at_asset_Image.f
  simp only [ieq_self, cond_true]
  exact Ev.bind (equal_self _ hl) (Ev.now fun _ => rfl)

theorem pure_holds : Pure := by
  intro m c hm hc
  have hm : (Lit.int .i64 m.fWidth).wf = true ∧ (Lit.int .i64 m.fHeight).wf = true ∧ (m.fLevels.length * 8 ≤ 140737488351232 ∧ m.fLevels.length ≤ 9223372036854775807 ∧ ∀ y ∈ m.fLevels, (Lit.int .i64 y).wf = true) := hm
  have hc : (Lit.int .i64 c.fX).wf = true ∧ (Lit.int .i64 c.fY).wf = true ∧ (Lit.int .i64 c.fWidth).wf = true ∧ (Lit.int .i64 c.fHeight).wf = true ∧ (Lit.int .i64 c.fToWidth).wf = true ∧ (Lit.int .i64 c.fToHeight).wf = true := hc
  obtain ⟨hm1, hm2, hm3, hm4, hm5⟩ := hm
  have hm1 := wf64 hm1
  have hm2 := wf64 hm2
  obtain ⟨hc1, hc2, hc3, hc4, hc5, hc6⟩ := hc
  have hc1 := wf64 hc1
  have hc2 := wf64 hc2
  have hc3 := wf64 hc3
  have hc4 := wf64 hc4
  have hc5 := wf64 hc5
  have hc6 := wf64 hc6
  refine Ev.get (f := fun k => mastlaw2_ImageRenders.f k m c) ?_
  have fin : ∀ (r : T_asset_Image) (e : Int), r.fLevels.length ≤ 5000 → Ev (fun k => asset_Render.f k m c) (r, e) → Ev (fun k => mastref2_RenderOf.f k m c) (r, e) → Ev (fun k => mastlaw2_ImageRenders.f k m c) true := fun r e hr h1 h2 => by
    unfold mastlaw2_ImageRenders.f
    refine Ev.bind h1 (Ev.bind h2 ?_)
    simp only [ieq_self, cond_true]
    exact Ev.bind (alike_self r hr) (Ev.now fun _ => rfl)
  obtain ⟨e, e1, e2, e3⟩ := check m (by omega)
  by_cases h0 : e = 0
  · subst h0
    obtain ⟨g1, g2, g3, g4, g5, g6⟩ := e3 rfl
    have hz : ieq 0 0 = true := ieq_self 0
    have s1 : wsub .i64 m.fWidth c.fWidth = m.fWidth - c.fWidth ∨ c.fWidth < 1 := by
      by_cases h : c.fWidth < 1
      · exact .inr h
      · exact .inl (wsub64 (by omega) (by omega))
    have s2 : wsub .i64 m.fHeight c.fHeight = m.fHeight - c.fHeight ∨ c.fHeight < 1 := by
      by_cases h : c.fHeight < 1
      · exact .inr h
      · exact .inl (wsub64 (by omega) (by omega))
    have bad : ∀ f : Nat → Option (T_asset_Image × Int), (∀ k, f k = some (T_asset_Image.mk 0 0 [], 2)) → Ev f (T_asset_Image.mk 0 0 [], 2) := fun f h => Ev.now h
    have l0 : Ev (fun k => asset_Render.l0 k m.fWidth m.fHeight m.fLevels c.fX c.fY c.fWidth c.fHeight c.fToWidth c.fToHeight 0 0 [] true) (T_asset_Image.mk 0 0 [], 2) := Ev.step (g := fun _ => some (T_asset_Image.mk 0 0 [], 2)) (fun k => by simp only [asset_Render.l0, cond_true]) (Ev.now fun _ => rfl)
    by_cases b1 : c.fX < 0 ∨ c.fY < 0 ∨ c.fWidth < 1 ∨ c.fHeight < 1
    · have q : (bif (bif (bif (ilt c.fX 0) then true else (ilt c.fY 0)) then true else (ilt c.fWidth 1)) then true else (ilt c.fHeight 1)) = true := by
        simp only [ilt_d, Bool.cond_true_left, Bool.or_eq_true, decide_eq_true_eq]; omega
      refine fin (T_asset_Image.mk 0 0 []) 2 (by simp) ?_ ?_
      · unfold asset_Render.f
        refine Ev.bind e1 ?_
        simp only [hz, Bool.not_true, cond_false, q, cond_true]
        exact l0
      · unfold mastref2_RenderOf.f
        refine Ev.bind e2 (Ev.now fun k => ?_)
        simp only [hz, Bool.not_true, cond_false, q, cond_true]
    · have t1 := s1.resolve_right (by omega)
      have t2 := s2.resolve_right (by omega)
      have q : (bif (bif (bif (ilt c.fX 0) then true else (ilt c.fY 0)) then true else (ilt c.fWidth 1)) then true else (ilt c.fHeight 1)) = false := by
        rw [← Bool.not_eq_true]
        simp only [ilt_d, Bool.cond_true_left, Bool.or_eq_true, decide_eq_true_eq]; omega
      by_cases b2 : m.fWidth < c.fWidth ∨ m.fWidth - c.fWidth < c.fX ∨ m.fHeight < c.fHeight ∨ m.fHeight - c.fHeight < c.fY
      · refine fin (T_asset_Image.mk 0 0 []) 2 (by simp) ?_ ?_
        · unfold asset_Render.f
          refine Ev.bind e1 ?_
          have q2 : (bif (bif (bif (ilt m.fWidth c.fWidth) then true else (ilt (m.fWidth - c.fWidth) c.fX)) then true else (ilt m.fHeight c.fHeight)) then true else (ilt (m.fHeight - c.fHeight) c.fY)) = true := by
            simp only [ilt_d, Bool.cond_true_left, Bool.or_eq_true, decide_eq_true_eq]; omega
          simp only [hz, Bool.not_true, cond_false, q, t1, t2, q2, cond_true]
          exact l0
        · unfold mastref2_RenderOf.f
          refine Ev.bind e2 (Ev.now fun k => ?_)
          have q2 : (bif (bif (bif (ilt m.fWidth c.fWidth) then true else (ilt m.fHeight c.fHeight)) then true else (ilt (m.fWidth - c.fWidth) c.fX)) then true else (ilt (m.fHeight - c.fHeight) c.fY)) = true := by
            simp only [ilt_d, Bool.cond_true_left, Bool.or_eq_true, decide_eq_true_eq]; omega
          simp only [hz, Bool.not_true, cond_false, q, t1, t2]
          rw [q2]
          rfl
      · have q2 : (bif (bif (bif (ilt m.fWidth c.fWidth) then true else (ilt (m.fWidth - c.fWidth) c.fX)) then true else (ilt m.fHeight c.fHeight)) then true else (ilt (m.fHeight - c.fHeight) c.fY)) = false := by
          rw [← Bool.not_eq_true]
          simp only [ilt_d, Bool.cond_true_left, Bool.or_eq_true, decide_eq_true_eq]; omega
        have q3 : (bif (bif (bif (ilt m.fWidth c.fWidth) then true else (ilt m.fHeight c.fHeight)) then true else (ilt (m.fWidth - c.fWidth) c.fX)) then true else (ilt (m.fHeight - c.fHeight) c.fY)) = false := by
          rw [← Bool.not_eq_true]
          simp only [ilt_d, Bool.cond_true_left, Bool.or_eq_true, decide_eq_true_eq]; omega
        have ea : ∀ x, Ev (fun k => asset_Render.l0 k m.fWidth m.fHeight m.fLevels c.fX c.fY c.fWidth c.fHeight c.fToWidth c.fToHeight 0 0 [] (bif (bif (bif (ilt c.fToWidth 1) then true else (ilt c.fWidth c.fToWidth)) then true else (ilt c.fToHeight 1)) then true else (ilt c.fHeight c.fToHeight))) x → Ev (fun k => asset_Render.f k m c) x := fun x h => by
          unfold asset_Render.f
          refine Ev.bind e1 ?_
          simp only [hz, Bool.not_true, cond_false, q, t1, t2, q2]
          exact h
        by_cases b3 : c.fToWidth < 1 ∨ c.fWidth < c.fToWidth ∨ c.fToHeight < 1 ∨ c.fHeight < c.fToHeight
        · have q4 : (bif (bif (bif (ilt c.fToWidth 1) then true else (ilt c.fWidth c.fToWidth)) then true else (ilt c.fToHeight 1)) then true else (ilt c.fHeight c.fToHeight)) = true := by
            simp only [ilt_d, Bool.cond_true_left, Bool.or_eq_true, decide_eq_true_eq]; omega
          refine fin (T_asset_Image.mk 0 0 []) 2 (by simp) (ea _ ?_) ?_
          · rw [q4]; exact l0
          · unfold mastref2_RenderOf.f
            refine Ev.bind e2 (Ev.now fun k => ?_)
            simp only [hz, Bool.not_true, cond_false, q, t1, t2]
            rw [q3, q4]
            rfl
        · have q4 : (bif (bif (bif (ilt c.fToWidth 1) then true else (ilt c.fWidth c.fToWidth)) then true else (ilt c.fToHeight 1)) then true else (ilt c.fHeight c.fToHeight)) = false := by
            rw [← Bool.not_eq_true]
            simp only [ilt_d, Bool.cond_true_left, Bool.or_eq_true, decide_eq_true_eq]; omega
          have hb : In.Ok ⟨m.fWidth, m.fHeight, m.fLevels, c.fX, c.fY, c.fWidth, c.fHeight, c.fToWidth, c.fToHeight⟩ :=
            { w1 := by dsimp only; omega, w2 := by dsimp only; omega, h1 := by dsimp only; omega, h2 := by dsimp only; omega, tw1 := by dsimp only; omega, tw2 := by dsimp only; omega, th1 := by dsimp only; omega, th2 := by dsimp only; omega, x1 := by dsimp only; omega, x2 := by dsimp only; omega, y1 := by dsimp only; omega, y2 := by dsimp only; omega, m1 := g2, m2 := g4, l1 := g5, l2 := g6 }
          have mb := mulb (show 0 ≤ (c.fToHeight.toNat : Int) by omega) (show (c.fToHeight.toNat : Int) ≤ 64 by omega) (show 0 ≤ (c.fToWidth.toNat : Int) by omega) (show (c.fToWidth.toNat : Int) ≤ 64 by omega)
          have mb2 := mulb (show 0 ≤ c.fWidth by omega) (show c.fWidth ≤ 64 by omega) (show 0 ≤ c.fHeight by omega) (show c.fHeight ≤ 64 by omega)
          obtain ⟨out, o1, o2, o3⟩ := all hb c.fToHeight.toNat 0 [] (by dsimp only; omega) (by omega) (by simp; omega)
          refine fin (T_asset_Image.mk c.fToWidth c.fToHeight out) 0 o1 (ea _ ?_) ?_
          · rw [q4]
            refine Ev.step (fun k => ?_) o2
            simp only [asset_Render.l0, cond_false, p1]
            rw [wmul64 (by omega) (by omega)]
          · unfold mastref2_RenderOf.f
            refine Ev.bind e2 ?_
            simp only [hz, Bool.not_true, cond_false, q, t1, t2]
            rw [q3, q4]
            exact o3
  · have hz : ieq e 0 = false := ieq_f h0
    refine fin (T_asset_Image.mk 0 0 []) e (by simp) ?_ ?_
    · unfold asset_Render.f
      refine Ev.bind e1 (Ev.now fun k => ?_)
      simp only [hz, Bool.not_false, cond_true]
    · unfold mastref2_RenderOf.f
      refine Ev.bind e2 (Ev.now fun k => ?_)
      simp only [hz, Bool.not_false, cond_true]

end Go.Proofs.Ytmjfjjnmdljkeaa.LImageRenders
