/- Where a byte of a bundle lies is told as the reference tells it, with the same errors. Conditions: none. -/
import Derived.Test.YtmjfjjnmdljkeaaGAssetFindsOp
namespace Go.Proofs.Ytmjfjjnmdljkeaa.Pure.AssetFinds
set_option linter.unusedVariables false
open Go.RowKit Go.Proofs.Ytmjfjjnmdljkeaa.GAssetFinds Go.Proofs.YtmjfjjnmdljkeaaW.PrintWords Go.Proofs.YtmjfjjnmdljkeaaW.PrintLast

theorem w64 {x : Int} (h0 : -9223372036854775808 ≤ x) (h1 : x < 9223372036854775808) : wrap64 x = x := by unfold wrap64; omega

/-- Both checks walk the ends alike; and where they are right the last end is the body's length. -/
theorem form_loop (s : ByteArray) (ps : List ByteArray) (E : List Int) (hE : E.length ≤ 9223372036854775807) : ∀ (d i : Nat) (x : Int), i + d = E.length →
    ∃ b : Bool, Ev (fun k => asset_bundleFault.l0 k x E (E.length : Int) (i : Int) s ps E) (if b then 0 else 1) ∧ Ev (fun k => mastref2_bundledForm.l0 k x E (E.length : Int) (i : Int) s ps E) b ∧
      (b = true → (i = E.length ∧ x = s.size) ∨ (i < E.length ∧ rd E ((E.length : Int) - 1) = s.size)) := by
  intro d
  induction d with
  | zero =>
    intro i x hi
    refine ⟨decide (x = (s.size : Int)), ?_, ?_, fun h => .inl ⟨by omega, of_decide_eq_true h⟩⟩
    · refine Ev.step (f := fun _ => some (if decide (x = (s.size : Int)) then 0 else 1)) (fun k => ?_) (Ev.now _)
      simp only [asset_bundleFault.l0]
      rw [if_neg (by omega)]
      by_cases h : x = (s.size : Int) <;> simp [h]
    · refine Ev.step (f := fun _ => some (decide (x = (s.size : Int)))) (fun k => ?_) (Ev.now _)
      simp only [mastref2_bundledForm.l0]
      rw [if_neg (by omega)]
      by_cases h : x = (s.size : Int) <;> simp [h]
  | succ d ih =>
    intro i x hi
    by_cases hlt : rd E (i : Int) < x
    · refine ⟨false, ?_, ?_, fun h => by cases h⟩
      · refine Ev.step (f := fun _ => some 1) (fun k => ?_) (Ev.now _)
        simp only [asset_bundleFault.l0]
        rw [if_pos (by omega), if_pos (by omega), if_pos (by omega), if_pos hlt]
      · refine Ev.step (f := fun _ => some false) (fun k => ?_) (Ev.now _)
        simp only [mastref2_bundledForm.l0]
        rw [if_pos (by omega), if_pos (by omega), if_pos (by omega), if_pos hlt]
    · obtain ⟨b, e1, e2, e3⟩ := ih (i + 1) (rd E (i : Int)) (by omega)
      have hw : wrap64 ((i : Int) + 1) = ((i + 1 : Nat) : Int) := by rw [w64 (by omega) (by omega)]; rfl
      refine ⟨b, Ev.step (fun k => ?_) e1, Ev.step (fun k => ?_) e2, fun h => .inr ⟨by omega, ?_⟩⟩
      · simp only [asset_bundleFault.l0]
        rw [if_pos (by omega), if_pos (by omega), if_pos (by omega), if_neg hlt, hw]
      · simp only [mastref2_bundledForm.l0]
        rw [if_pos (by omega), if_pos (by omega), if_pos (by omega), if_neg hlt, hw]
      · rcases e3 h with ⟨h1, h2⟩ | ⟨_, h2⟩
        · rw [← h2, ← h1]; congr 1; omega
        · exact h2

theorem fault_both (s : ByteArray) (ps : List ByteArray) (E : List Int) (hE : E.length ≤ 9223372036854775807) (hs : ¬ (s.size : Int) > 200000) :
    ∃ b : Bool, Ev (fun k => asset_bundleFault.f k s ps E) (if b then 0 else 1) ∧ Ev (fun k => mastref2_bundledForm.f k s ps E) b ∧ (b = true → (E.length = 0 ∧ (s.size : Int) = 0) ∨ (0 < E.length ∧ rd E ((E.length : Int) - 1) = s.size)) := by
  have bad : ∃ b : Bool, Ev (fun k => asset_bundleFault.j0 k true s ps E) (if b then 0 else 1) ∧ Ev (fun k => mastref2_bundledForm.j0 k true s ps E) b ∧ b = false :=
    ⟨false, Ev.step (f := fun _ => some 1) (fun k => by simp only [asset_bundleFault.j0]; rw [if_pos trivial]) (Ev.now _), Ev.step (f := fun _ => some false) (fun k => by simp only [mastref2_bundledForm.j0]; rw [if_pos trivial]) (Ev.now _), rfl⟩
  by_cases hl : (ps.length : Int) = (E.length : Int)
  · by_cases hp : (ps.length : Int) > 40
    · obtain ⟨b, e1, e2, rfl⟩ := bad
      exact ⟨false, Ev.congr (fun k => by unfold asset_bundleFault.f; rw [if_neg hs, if_pos hl, decide_eq_true hp]) e1, Ev.congr (fun k => by unfold mastref2_bundledForm.f; rw [if_pos hl, decide_eq_true hp]) e2, fun h => by cases h⟩
    · obtain ⟨b, e1, e2, e3⟩ := form_loop s ps E hE E.length 0 0 (by omega)
      refine ⟨b, ?_, ?_, fun h => (e3 h).imp (fun z => ⟨by omega, by omega⟩) id⟩
      · refine Ev.congr (fun k => by unfold asset_bundleFault.f; rw [if_neg hs, if_pos hl, decide_eq_false hp]) (Ev.step (fun k => ?_) e1)
        simp only [asset_bundleFault.j0]
        rw [if_neg (by simp)]
        rfl
      · refine Ev.congr (fun k => by unfold mastref2_bundledForm.f; rw [if_pos hl, decide_eq_false hp]) (Ev.step (fun k => ?_) e2)
        simp only [mastref2_bundledForm.j0]
        rw [if_neg (by simp)]
        rfl
  · obtain ⟨b, e1, e2, rfl⟩ := bad
    exact ⟨false, Ev.congr (fun k => by unfold asset_bundleFault.f; rw [if_neg hs, if_neg hl]) e1, Ev.congr (fun k => by unfold mastref2_bundledForm.f; rw [if_neg hl]) e2, fun h => by cases h⟩

theorem find_loop (s : ByteArray) (ps : List ByteArray) (E : List Int) (at_ : Int) (hE : E.length ≤ 9223372036854775807) (hlast : at_ < rd E ((E.length : Int) - 1)) : ∀ (d i : Nat) (st : Int), i + d = E.length → i < E.length →
    ∃ r, Ev (fun k => asset_Locate.l0 k at_ (i : Int) st s ps E) r ∧ Ev (fun k => mastref2_LocateOf.l0 k at_ st E (E.length : Int) (i : Int)) r := by
  intro d
  induction d with
  | zero => intro i st h1 h2; omega
  | succ d ih =>
    intro i st h1 h2
    by_cases hlt : at_ < rd E (i : Int)
    · refine ⟨((i : Int), wrap64 (at_ - st), 0), ?_, ?_⟩
      · refine Ev.step (f := fun _ => some _) (fun k => ?_) (Ev.now _)
        simp only [asset_Locate.l0]
        rw [if_pos (by omega), if_pos (by omega), if_neg (by omega)]
      · refine Ev.step (f := fun _ => some _) (fun k => ?_) (Ev.now _)
        simp only [mastref2_LocateOf.l0]
        rw [if_pos (by omega), if_pos (by omega), if_pos (by omega), if_pos hlt]
    · have hne : i + 1 < E.length := by
        by_cases hne : i + 1 < E.length
        · exact hne
        · rw [show (E.length : Int) - 1 = (i : Int) from by omega] at hlast
          exact absurd hlast hlt
      have hw : wrap64 ((i : Int) + 1) = ((i + 1 : Nat) : Int) := by rw [w64 (by omega) (by omega)]; rfl
      obtain ⟨r, e1, e2⟩ := ih (i + 1) (rd E (i : Int)) (by omega) hne
      refine ⟨r, Ev.step (fun k => ?_) e1, Ev.step (fun k => ?_) e2⟩
      · simp only [asset_Locate.l0]
        rw [if_pos (by omega), if_pos (by omega), if_pos (by omega), hw]
      · simp only [mastref2_LocateOf.l0]
        rw [if_pos (by omega), if_pos (by omega), if_pos (by omega), if_neg hlt, hw]

theorem both (s : ByteArray) (ps : List ByteArray) (E : List Int) (at_ : Int) (hE : E.length ≤ 9223372036854775807) : ∃ r, Ev (fun k => asset_Locate.f k s ps E at_) r ∧ Ev (fun k => mastref2_LocateOf.f k s ps E at_) r := by
  by_cases hs : (s.size : Int) > 200000
  · refine ⟨(0, 0, 4), ?_, ?_⟩
    · unfold asset_Locate.f
      refine Ev.bind (a := 4) (Ev.congr (f := fun _ => some 4) (fun k => by unfold asset_bundleFault.f; rw [if_pos hs]) (Ev.now _)) (Ev.congr (f := fun _ => some (0, 0, 4)) (fun k => by simp) (Ev.now _))
    · exact Ev.congr (f := fun _ => some (0, 0, 4)) (fun k => by unfold mastref2_LocateOf.f; rw [if_pos hs]) (Ev.now _)
  obtain ⟨b, f1, f2, f3⟩ := fault_both s ps E hE hs
  cases b with
  | false =>
    refine ⟨(0, 0, 1), ?_, ?_⟩
    · unfold asset_Locate.f
      exact Ev.bind f1 (Ev.congr (f := fun _ => some (0, 0, 1)) (fun k => by simp) (Ev.now _))
    · refine Ev.congr (fun k => by unfold mastref2_LocateOf.f; rw [if_neg hs]) (Ev.bind f2 (Ev.congr (f := fun _ => some (0, 0, 1)) (fun k => by simp) (Ev.now _)))
  | true =>
    have bad1 : Ev (fun k => asset_Locate.j0 k at_ 0 0 true s ps E) (0, 0, 2) := Ev.step (f := fun _ => some (0, 0, 2)) (fun k => by simp only [asset_Locate.j0]; rw [if_pos trivial]) (Ev.now _)
    have bad2 : Ev (fun k => mastref2_LocateOf.j0 k at_ true s ps E) (0, 0, 2) := Ev.step (f := fun _ => some (0, 0, 2)) (fun k => by simp only [mastref2_LocateOf.j0]; rw [if_pos trivial]) (Ev.now _)
    have go : ∃ r, Ev (fun k => if at_ < 0 then (asset_Locate.j0 k at_ 0 0 true s ps E) else (asset_Locate.j0 k at_ 0 0 (decide (at_ ≥ (s.size : Int))) s ps E)) r ∧ Ev (fun k => if at_ < 0 then (mastref2_LocateOf.j0 k at_ true s ps E) else (mastref2_LocateOf.j0 k at_ (decide (at_ ≥ (s.size : Int))) s ps E)) r := by
      by_cases h0 : at_ < 0
      · exact ⟨_, Ev.congr (fun k => if_pos h0) bad1, Ev.congr (fun k => if_pos h0) bad2⟩
      by_cases h1 : at_ ≥ (s.size : Int)
      · exact ⟨_, Ev.congr (fun k => by rw [if_neg h0, decide_eq_true h1]) bad1, Ev.congr (fun k => by rw [if_neg h0, decide_eq_true h1]) bad2⟩
      have hz : 0 < E.length ∧ rd E ((E.length : Int) - 1) = s.size := by
        rcases f3 rfl with z | z
        · omega
        · exact z
      obtain ⟨r, e1, e2⟩ := find_loop s ps E at_ hE (by rw [hz.2]; omega) E.length 0 0 (by omega) hz.1
      refine ⟨r, Ev.congr (f := fun k => asset_Locate.j0 k at_ 0 0 false s ps E) (fun k => by rw [if_neg h0, decide_eq_false h1]) (Ev.step (fun k => ?_) e1), Ev.congr (f := fun k => mastref2_LocateOf.j0 k at_ false s ps E) (fun k => by rw [if_neg h0, decide_eq_false h1]) (Ev.step (fun k => ?_) e2)⟩
      · simp only [asset_Locate.j0]
        rw [if_neg (by simp)]
        rfl
      · simp only [mastref2_LocateOf.j0]
        rw [if_neg (by simp)]
        rfl
    obtain ⟨r, e1, e2⟩ := go
    refine ⟨r, ?_, ?_⟩
    · unfold asset_Locate.f
      exact Ev.bind f1 (Ev.congr (fun k => if_pos rfl) e1)
    · refine Ev.congr (fun k => by unfold mastref2_LocateOf.f; rw [if_neg hs]) (Ev.bind f2 (Ev.congr (fun k => if_pos rfl) e2))
end Go.Proofs.Ytmjfjjnmdljkeaa.Pure.AssetFinds
namespace Go.Proofs.Ytmjfjjnmdljkeaa.Pure
open Go.RowKit Go.Proofs.Ytmjfjjnmdljkeaa.GAssetFinds Go.Proofs.YtmjfjjnmdljkeaaW.PrintWords Go.Proofs.YtmjfjjnmdljkeaaW.PrintLast
/-- The pure statement. -/
theorem AssetFinds : mastlaw2_AssetFinds.Pure := by
  intro b at_ hb _
  refine Ev.rounds (g := fun k => mastlaw2_AssetFinds.f k b.f0 b.f1 b.f2 at_) ?_
  unfold mastlaw2_AssetFinds.f
  obtain ⟨r, e1, e2⟩ := AssetFinds.both b.f0 b.f1 b.f2 at_ ((G37_iff b).1 hb).2.2.2.1
  exact Ev.bind e1 (Ev.bind e2 (Ev.congr (f := fun _ => some true) (fun k => by simp) (Ev.now _)))
end Go.Proofs.Ytmjfjjnmdljkeaa.Pure
