/- The map of a bundle is that of the reference. Conditions: none. -/
import Derived.Test.YthmedjljckbidaaDoorLAssetMapsOp
import Derived.Lib.SplitLaws
set_option linter.unusedVariables false
set_option linter.unusedSimpArgs false
namespace Go.Proofs.YthmedjljckbidaaDoor.LAssetMaps
open Go Go.Proofs.YthmedjljckbidaaDoor.Lift

theorem seq_empty (s : ByteArray) : seq s c_empty = s.data.toList.isEmpty := by
  unfold seq
  rw [ByteArray.toList_eq, ByteArray.toList_eq]
  cases h : s.data.toList <;> rfl
theorem mem_dw {α : Type} {p : α → Bool} : ∀ {l : List α} {x : α}, x ∈ l → p x = false → x ∈ l.dropWhile p
  | a :: l, x, h, hp => by
    rw [List.dropWhile_cons]
    split
    · rename_i ha
      rcases List.mem_cons.1 h with rfl | h
      · rw [hp] at ha; cases ha
      · exact mem_dw h hp
    · exact h
theorem dw_nil {α : Type} {p : α → Bool} : ∀ {l : List α}, (∀ x ∈ l, p x = true) → l.dropWhile p = []
  | [], _ => rfl
  | a :: l, h => by rw [List.dropWhile_cons, if_pos (h a (List.mem_cons_self ..))]; exact dw_nil fun x hx => h x (List.mem_cons_of_mem _ hx)
theorem trim_nil (l cs : List UInt8) : (Lib.trimS l cs).isEmpty = l.all (cs.contains ·) := by
  unfold Lib.trimS Lib.trimLeftS Lib.trimRightS
  cases h : l.all (cs.contains ·) with
  | true =>
    have h := List.all_eq_true.1 h
    rw [dw_nil (l := l.reverse) fun x hx => h x (List.mem_reverse.1 hx)]
    rfl
  | false =>
    obtain ⟨x, hx, hp⟩ : ∃ x ∈ l, cs.contains x = false := by
      rcases List.all_eq_false.1 h with ⟨x, hx, hp⟩
      exact ⟨x, hx, by simpa using hp⟩
    have h1 : x ∈ (l.reverse.dropWhile (cs.contains ·)).reverse := List.mem_reverse.2 (mem_dw (List.mem_reverse.2 hx) hp)
    have h2 := mem_dw h1 hp
    cases e : List.dropWhile (cs.contains ·) (l.reverse.dropWhile (cs.contains ·)).reverse with
    | nil => rw [e] at h2; cases h2
    | cons _ _ => rfl
theorem all_any {α : Type} (p : α → Bool) (r : List α) : (bif r.any fun c => !p c then false else true) = r.all p := by
  rw [List.all_eq_not_any_not]
  cases r.any fun c => !p c <;> rfl
/-! Paths. -/
def insP (c : UInt8) : Bool := (bif ile 97 (c.toNat : Int) then ile (c.toNat : Int) 122 else false) || (bif ile 48 (c.toNat : Int) then ile (c.toNat : Int) 57 else false) || ieq (c.toNat : Int) 45 || ieq (c.toNat : Int) 95 || ieq (c.toNat : Int) 46
def part (s : ByteArray) : Bool := bif (bif (bif (bif (seq s c_empty) then true else (ilt 40 (slen s))) then true else (seq s c__2e)) then true else (seq s c__2e_2e)) then false else s.data.toList.all insP
theorem partL_ok (s : ByteArray) : Ev (fun k => tree_isPart.f k s) (part s) := by
  unfold part
  cases h : (bif (bif (bif (seq s c_empty) then true else (ilt 40 (slen s))) then true else (seq s c__2e)) then true else (seq s c__2e_2e)) with
  | true => exact Ev.now fun k => by simp only [tree_isPart.f, h, cond_true]
  | false =>
    have hs : ilt 40 (slen s) = false := by
      cases e : ilt 40 (slen s) with
      | false => rfl
      | true => rw [e] at h; cases seq s c_empty <;> simp at h
    have hl : s.data.toList.length ≤ 40 := by
      rw [slen_l] at hs
      have := of_decide_eq_false hs
      omega
    have q := find_pure s.data.toList 0 (Nat.zero_le _) (fun k j => tree_isPart.l0 k s (j : Int)) (fun _ => some true) (fun c => !insP c) (fun _ => false) true
      (fun k j h => by
        simp only [tree_isPart.l0, slen_l, ilen _ _ h, cond_true, sat_l h, Option.bind_some, u0 (show j ≤ 4611686018427387904 by omega), tree_isSmall.f, tree_isDigit.f, insP]
        cases (bif ile 97 (s.data.toList[j].toNat : Int) then ile (s.data.toList[j].toNat : Int) 122 else false) <;> cases (bif ile 48 (s.data.toList[j].toNat : Int) then ile (s.data.toList[j].toNat : Int) 57 else false) <;> cases ieq (s.data.toList[j].toNat : Int) 45 <;> cases ieq (s.data.toList[j].toNat : Int) 95 <;> cases ieq (s.data.toList[j].toNat : Int) 46 <;> rfl)
      (fun k => by simp only [tree_isPart.l0, slen_l, ilen', cond_false]) (Ev.now fun _ => rfl)
    rw [fl_const, List.drop_zero, all_any] at q
    exact Ev.congr (fun k => by simp only [tree_isPart.f, h, cond_false]; rfl) q
theorem set_insP (c : UInt8) : c_abcdefghijklmnopqrst_c1516678.data.toList.contains c = insP c := by
  have h : ∀ n : Fin 256, c_abcdefghijklmnopqrst_c1516678.data.toList.contains (UInt8.ofNat n.val) = insP (UInt8.ofNat n.val) := by decide +kernel
  have := h ⟨c.toNat, c.toNat_lt⟩
  simpa using this
theorem partR_ok (s : ByteArray) (hs : s.size ≤ 2000000) : mastref2_IsPart.f s = some (part s) := by
  have hc : strings_Trim.f s c_abcdefghijklmnopqrst_c1516678 = some ⟨(Lib.trimS s.data.toList c_abcdefghijklmnopqrst_c1516678.data.toList).toArray⟩ := by
    unfold strings_Trim.f
    rw [if_pos ⟨by omega, by decide, by decide +kernel⟩]
  have e : (bif (bif (bif (!seq s c_empty) then (ile (slen s) 40) else false) then (!seq s c__2e) else false) then (!seq s c__2e_2e) else false) = !(bif (bif (bif (seq s c_empty) then true else (ilt 40 (slen s))) then true else (seq s c__2e)) then true else (seq s c__2e_2e)) := by
    have : ile (slen s) 40 = !ilt 40 (slen s) := by rw [ile_d, ilt_d]; by_cases c : slen s ≤ 40 <;> simp [c] <;> omega
    rw [this]
    cases seq s c_empty <;> cases ilt 40 (slen s) <;> cases seq s c__2e <;> cases seq s c__2e_2e <;> rfl
  unfold mastref2_IsPart.f part
  rw [e, hc]
  cases (bif (bif (bif (seq s c_empty) then true else (ilt 40 (slen s))) then true else (seq s c__2e)) then true else (seq s c__2e_2e)) with
  | true => rfl
  | false =>
    simp only [Bool.not_false, cond_true, cond_false, Option.bind_some]
    rw [seq_empty]
    show some (Lib.trimS s.data.toList _).isEmpty = _
    rw [trim_nil, show (fun x => c_abcdefghijklmnopqrst_c1516678.data.toList.contains x) = insP from funext set_insP]

theorem split_mem (sep : ByteArray) : ∀ (k : Nat) (s x : ByteArray), x ∈ Lib.splitB sep 0 k s → x.size ≤ s.size
  | 0, s, x, h => by
    have : x = s := by simpa [Lib.splitB] using h
    rw [this]; exact Nat.le_refl _
  | k + 1, s, x, h => by
    unfold Lib.splitB at h
    split at h
    · have : x = s := by simpa using h
      rw [this]; exact Nat.le_refl _
    · rcases List.mem_cons.1 h with rfl | h
      · rw [ByteArray.size_extract]; omega
      · have := split_mem sep k _ x h
        rw [ByteArray.size_extract] at this; omega
def parts (s : ByteArray) : List ByteArray := Lib.splitB c__2f 0 (Lib.countB s c__2f) s
def path (s : ByteArray) : Bool := ile (slen s) 200 && (parts s).all part
theorem split_ok (s : ByteArray) (hs : s.size ≤ 2000000) : strings_Split.f s c__2f = some (parts s) := by
  unfold strings_Split.f splitF
  rw [if_pos ⟨by omega, by decide⟩]
  rfl
theorem parts_len (s : ByteArray) (hs : s.size ≤ 2000000) : (parts s).length ≤ 2000001 := by
  have := Lib.splitB_length_le c__2f 0 (Lib.countB s c__2f) s
  have := Lib.countB_le c__2f (by decide) s.size s (Nat.le_refl _)
  unfold parts; omega
theorem pathL_ok (s : ByteArray) (hs : s.size ≤ 2000000) : Ev (fun k => tree_isPath.f k s) (path s) := by
  unfold path
  have hl := parts_len s hs
  by_cases h : slen s ≤ 200
  · rw [ile_t h, Bool.true_and]
    have q := find_loop (parts s) 0 (Nat.zero_le _) (fun k j => tree_isPath.l0 k (parts s) (llen (parts s)) (j : Int)) (fun k s => tree_isPart.f k s)
      (fun k j y => bif (!y) then some false else tree_isPath.l0 k (parts s) (llen (parts s)) ((j + 1 : Nat) : Int)) (fun _ => some true) (fun c => !part c) (fun _ => false) true
      (fun k j h => by simp only [tree_isPath.l0, llen_eq, ilen _ _ h, cond_true, lat_lt h, Option.bind_some, u0 (show j ≤ 4611686018427387904 by omega)])
      (fun k => by simp only [tree_isPath.l0, llen_eq, ilen', cond_false]) (Ev.now fun _ => rfl)
      (fun j h => ⟨_, partL_ok _, fun k => rfl⟩)
    rw [fl_const, List.drop_zero, all_any] at q
    exact Ev.congr (fun k => by simp only [tree_isPath.f, ilt_f h, cond_false, split_ok s hs, Option.bind_some]; rfl) q
  · rw [ile_f (by omega), Bool.false_and]
    exact Ev.now fun k => by simp only [tree_isPath.f, ilt_t (show 200 < slen s by omega), cond_true]
theorem pathR_ok (s : ByteArray) (hs : s.size ≤ 2000000) : Ev (fun k => mastref2_IsPath.f k s) (path s) := by
  unfold path
  have hl := parts_len s hs
  by_cases h : slen s ≤ 200
  · rw [ile_t h, Bool.true_and]
    have q := find_pure (parts s) 0 (Nat.zero_le _) (fun k j => slices_IndexFunc_string_string_at_mastref2_IsPath_c1.l0 k (parts s) (llen (parts s)) (j : Int)) (fun _ => some (-1)) (fun c => !part c) (fun j => (j : Int)) (-1)
      (fun k j h => by
        have := split_mem c__2f _ s (parts s)[j] (List.getElem_mem h)
        simp only [slices_IndexFunc_string_string_at_mastref2_IsPath_c1.l0, llen_eq, ilen _ _ h, cond_true, lat_lt h, Option.bind_some, u0 (show j ≤ 4611686018427387904 by omega), mastref2_IsPath_c1.f, partR_ok (parts s)[j] (by omega)])
      (fun k => by simp only [slices_IndexFunc_string_string_at_mastref2_IsPath_c1.l0, llen_eq, ilen', cond_false]) (Ev.now fun _ => rfl)
    rw [List.drop_zero] at q
    have hi : Ev (fun k => slices_IndexFunc_string_string_at_mastref2_IsPath_c1.f k (parts s)) _ := Ev.congr (fun k => by simp only [slices_IndexFunc_string_string_at_mastref2_IsPath_c1.f]; rfl) q
    have hc : Ev (fun k => slices_ContainsFunc_string_string_at_mastref2_IsPath_c1.f k (parts s)) ((parts s).any fun c => !part c) := Ev.congr (g := fun k => (slices_IndexFunc_string_string_at_mastref2_IsPath_c1.f k (parts s)).bind fun y1 => some (ile 0 y1)) (fun k => by simp only [slices_ContainsFunc_string_string_at_mastref2_IsPath_c1.f]) (Ev.bind hi (Ev.now fun _ => by rw [fl_any]))
    refine Ev.congr (g := fun k => (slices_ContainsFunc_string_string_at_mastref2_IsPath_c1.f k (parts s)).bind fun y2 => some (!y2)) (fun k => by simp only [mastref2_IsPath.f, ile_t h, cond_true, split_ok s hs, Option.bind_some]) (Ev.bind hc (Ev.now fun _ => ?_))
    rw [List.all_eq_not_any_not]
  · rw [ile_f (by omega), Bool.false_and]
    exact Ev.now fun k => by simp only [mastref2_IsPath.f, ile_f (show 200 < slen s by omega), cond_false]

theorem aPath_ok (s : ByteArray) : Ev (fun k => asset_isPath.f k s) (path s) := by
  have hp : Ev (fun k => tree_isPath.f k s) (path s) := by
    by_cases hs : s.size ≤ 2000000
    · exact pathL_ok s hs
    · have h : (200 : Int) < slen s := by unfold slen; omega
      unfold path
      rw [ile_f h, Bool.false_and]
      exact Ev.now fun k => by simp only [tree_isPath.f, ilt_t h, cond_true]
  have h : Ev (fun k => tree_CheckPath.f k s) (bif path s then 0 else 3) :=
    Ev.congr (g := fun k => (tree_isPath.f k s).bind fun y1 => bif !y1 then some 3 else some 0) (fun k => by simp only [tree_CheckPath.f]) (Ev.bind hp (Ev.now fun _ => by cases path s <;> rfl))
  exact Ev.congr (g := fun k => (tree_CheckPath.f k s).bind fun y1 => some (ieq y1 0)) (fun k => by simp only [asset_isPath.f]) (Ev.bind h (Ev.now fun _ => by cases path s <;> rfl))
theorem rPath_ok (s : ByteArray) : Ev (fun k => mastref2_IsPath.f k s) (path s) := by
  by_cases hs : s.size ≤ 2000000
  · exact pathR_ok s hs
  · have h : (200 : Int) < slen s := by unfold slen; omega
    unfold path
    rw [ile_f h, Bool.false_and]
    exact Ev.now fun k => by simp only [mastref2_IsPath.f, ile_f h, cond_false]
theorem seq_comm (a b : ByteArray) : seq a b = seq b a := by
  rw [seq_d, seq_d]; congr 1; exact propext ⟨Eq.symm, Eq.symm⟩
theorem index_ok (l : List ByteArray) (p : ByteArray) (hl : l.length ≤ 2000000) : Ev (fun k => slices_Index_string_string.f k l p) (fl (fun s => seq s p) (fun j => (j : Int)) (-1) 0 l) := by
  have q := find_pure l 0 (Nat.zero_le _) (fun k j => slices_Index_string_string.l0 k l p (llen l) (j : Int)) (fun _ => some (-1)) (fun s => seq s p) (fun j => (j : Int)) (-1)
    (fun k j h => by
      simp only [slices_Index_string_string.l0, llen_eq, Go.Proofs.YthmedjljckbidaaDoor.Lift.ilen _ _ h, cond_true, lat_lt h, Option.bind_some, u0 (show j ≤ 4611686018427387904 by omega), seq_comm p])
    (fun k => by simp only [slices_Index_string_string.l0, llen_eq, Go.Proofs.YthmedjljckbidaaDoor.Lift.ilen', cond_false]) (Ev.now fun _ => rfl)
  rw [List.drop_zero] at q
  exact Ev.congr (fun k => by simp only [slices_Index_string_string.f]; try rfl) q
theorem contains_ok (l : List ByteArray) (p : ByteArray) (hl : l.length ≤ 2000000) : Ev (fun k => slices_Contains_string_string.f k l p) (l.any fun s => seq s p) := by
  refine Ev.congr (fun k => by simp only [slices_Contains_string_string.f]; try rfl) (Ev.bind (index_ok l p hl) ?_)
  rw [fl_any]
  exact Ev.now fun _ => rfl

theorem scat_of {a b : ByteArray} (h : a.size + b.size ≤ 9223372036854775807) : scat a b = some (a ++ b) := by unfold scat; rw [if_pos h]
/-- What is wrong with the paths. -/
def pf : List ByteArray → List ByteArray → Int
  | _, [] => 0
  | pre, p :: r => bif !path p then 3 else bif pre.any (fun s => seq s p) then 6 else pf (pre ++ [p]) r
theorem pf_loop (P : List ByteArray) (hP : P.length ≤ 100) : ∀ (d j : Nat), P.length - j ≤ d → j ≤ P.length → Ev (fun k => asset_partsFault.l0 k P P (llen P) (j : Int)) (pf (P.take j) (P.drop j)) := by
  intro d
  have last : ∀ j, j = P.length → Ev (fun k => asset_partsFault.l0 k P P (llen P) (j : Int)) (pf (P.take j) (P.drop j)) := fun j e => by
    subst e
    rw [List.drop_eq_nil_of_le (Nat.le_refl _)]
    exact Ev.step (g := fun _ => some 0) (fun k => by simp only [asset_partsFault.l0, llen_eq, ilen', cond_false]) (Ev.now fun _ => rfl)
  induction d with
  | zero => intro j hd hj; exact last j (by omega)
  | succ d ih =>
    intro j hd hj
    rcases Nat.lt_or_ge j P.length with hlt | hge
    case inr => exact last j (by omega)
    have hw : wadd .i64 (j : Int) 1 = ((j + 1 : Nat) : Int) := u0 (by omega)
    have nx := ih (j + 1) (by omega) hlt
    have hsub : lsub P 0 (j : Int) = some (P.take j) := by
      unfold lsub
      rw [if_pos ⟨by omega, by omega, by omega⟩]; simp
    have hlen : (P.take j).length = j := by rw [List.length_take]; omega
    have inner := find_loop2 (P.take j) 0 (Nat.zero_le _) (fun k i => asset_partsFault.l1 k P P[j] P (llen P) (j : Int) (P.take j) (llen (P.take j)) (i : Int)) (fun _ y => some y) (fun k i y => bif seq P[j] y then some 6 else asset_partsFault.l1 k P P[j] P (llen P) (j : Int) (P.take j) (llen (P.take j)) ((i + 1 : Nat) : Int)) (fun k => asset_partsFault.l0 k P P (llen P) ((j + 1 : Nat) : Int)) (fun s => seq s P[j]) (fun _ => (6 : Int)) (pf (P.take (j + 1)) (P.drop (j + 1)))
      (fun k i h => by simp only [asset_partsFault.l1, llen_eq, Go.Proofs.YthmedjljckbidaaDoor.Lift.ilen _ _ h, cond_true, lat_lt h, Option.bind_some, u0 (show i ≤ 4611686018427387904 by omega)])
      (fun k => by simp only [asset_partsFault.l1, llen_eq, Go.Proofs.YthmedjljckbidaaDoor.Lift.ilen', cond_false, hw]) nx
      (fun i h => ⟨_, Ev.now fun _ => rfl, fun e => Ev.now fun k => by rw [seq_comm, e]; rfl, fun e v hv => Ev.congr (fun k => by rw [seq_comm, e]; rfl) hv⟩)
    rw [List.drop_zero, fl_const] at inner
    rw [List.drop_eq_getElem_cons hlt]
    simp only [pf]
    rw [← List.take_succ_eq_append_getElem hlt]
    refine Ev.step (fun k => by simp only [asset_partsFault.l0, llen_eq, Go.Proofs.YthmedjljckbidaaDoor.Lift.ilen _ _ hlt, cond_true, lat_lt hlt, Option.bind_some, hsub]; rfl) (Ev.bind (aPath_ok P[j]) ?_)
    cases path P[j] with
    | false => exact Ev.now fun _ => rfl
    | true => exact inner
theorem pf_ok (P : List ByteArray) (hP : P.length ≤ 100) : Ev (fun k => asset_partsFault.f k P) (pf [] P) :=
  Ev.congr (fun k => by simp only [asset_partsFault.f]; try rfl) (pf_loop P hP P.length 0 (by omega) (by omega))

/-! A numeral at the base 32. -/
theorem rem32 (n : Nat) : irem (n : Int) 32 = ((n % 32 : Nat) : Int) := by
  unfold irem
  rw [Int.tmod_eq_emod_of_nonneg (by omega)]
  omega
theorem quo32 (n : Nat) (h : n ≤ 1000000) : wquo .i64 (n : Int) 32 = ((n / 32 : Nat) : Int) := by
  have e : (n : Int).tdiv 32 = ((n / 32 : Nat) : Int) := by rw [Int.tdiv_eq_ediv_of_nonneg (by omega)]; omega
  rw [wquo64 (by rw [e]; omega) (by rw [e]; omega), e]
theorem dig_ok (d : Nat) (h : d < 32) : ssub c_0123456789abcdefghijklmnopqrstuv (d : Int) (wadd .i64 (d : Int) 1) = some ⟨#[dig36 d]⟩ := by
  have all : ∀ d : Fin 32, ssub c_0123456789abcdefghijklmnopqrstuv (d.val : Int) ((d.val + 1 : Nat) : Int) = some ⟨#[dig36 d.val]⟩ := by decide +kernel
  rw [u0 (show d ≤ 4611686018427387904 by omega)]
  exact all ⟨d, h⟩
theorem scat_l (a b : List UInt8) (h : a.length + b.length ≤ 9223372036854775807) : scat ⟨a.toArray⟩ ⟨b.toArray⟩ = some ⟨(a ++ b).toArray⟩ := by
  rw [scat_of (by show a.toArray.size + b.toArray.size ≤ _; simpa using h)]
  congr 1
  first | done | (apply ByteArray.ext; rw [ByteArray.data_append]; simp)
theorem fmtB_len : ∀ (n : Nat), (fmtB 32 n).length ≤ n + 1 := by
  intro n
  induction n using Nat.strongRecOn with
  | _ n ih =>
    rcases Nat.lt_or_ge n 32 with h | h
    · rw [fmtB_small h]; simp
    · have := ih (n / 32) (by omega)
      rw [fmtB_big (by decide) h, List.length_append, List.length_singleton]; omega
theorem b32_loop : ∀ (n : Nat) (acc : List UInt8), n ≤ 1000000 → n + acc.length ≤ 2000000 → Ev (fun k => asset_base32.l0 k (n : Int) ⟨acc.toArray⟩) ⟨((if n = 0 then [] else fmtB 32 n) ++ acc).toArray⟩ := by
  intro n
  induction n using Nat.strongRecOn with
  | _ n ih =>
    intro acc hn ha
    by_cases h0 : n = 0
    · subst h0
      exact Ev.step (g := fun _ => some ⟨acc.toArray⟩) (fun k => by simp only [asset_base32.l0, ilt_f (show ((0 : Nat) : Int) ≤ 0 by omega), cond_false]) (Ev.now fun _ => rfl)
    · have nx := ih (n / 32) (by omega) (dig36 (n % 32) :: acc) (by omega) (by simp only [List.length_cons]; omega)
      have e : (if n / 32 = 0 then [] else fmtB 32 (n / 32)) ++ dig36 (n % 32) :: acc = (if n = 0 then [] else fmtB 32 n) ++ acc := by
        rw [if_neg h0]
        rcases Nat.lt_or_ge n 32 with h | h
        · rw [if_pos (by omega), fmtB_small h, Nat.mod_eq_of_lt h]; rfl
        · rw [if_neg (by omega), fmtB_big (by decide) h, List.append_assoc]; rfl
      rw [e] at nx
      have hc : scat ⟨#[dig36 (n % 32)]⟩ ⟨acc.toArray⟩ = some ⟨(dig36 (n % 32) :: acc).toArray⟩ := scat_l [dig36 (n % 32)] acc (by simp; omega)
      exact Ev.step (fun k => by simp only [asset_base32.l0, ilt_t (show (0 : Int) < (n : Int) by omega), cond_true, rem32, dig_ok _ (Nat.mod_lt n (by decide : 0 < 32)), Option.bind_some, hc, quo32 n hn]) nx
def num (n : Nat) : ByteArray := ⟨(fmtB 32 n).toArray⟩
theorem num_size (n : Nat) : (num n).size ≤ n + 1 := by
  have := fmtB_len n
  show (fmtB 32 n).toArray.size ≤ _
  simpa using this
theorem b32_ok (n : Nat) (hn : n ≤ 1000000) : Ev (fun k => asset_base32.f k (n : Int)) (num n) := by
  have q := b32_loop (n / 32) [dig36 (n % 32)] (by omega) (by simp; omega)
  have e : (if n / 32 = 0 then [] else fmtB 32 (n / 32)) ++ [dig36 (n % 32)] = fmtB 32 n := by
    rcases Nat.lt_or_ge n 32 with h | h
    · rw [if_pos (by omega), fmtB_small h, Nat.mod_eq_of_lt h]; rfl
    · rw [if_neg (by omega), fmtB_big (by decide) h]
  rw [e] at q
  exact Ev.congr (fun k => by simp only [asset_base32.f, rem32, dig_ok _ (Nat.mod_lt n (by decide : 0 < 32)), Option.bind_some, quo32 n hn]; try rfl) q
theorem fmt_ok (n : Nat) (hn : n ≤ 1000000) : strconv_FormatInt.f (n : Int) 32 = some (num n) := by
  unfold strconv_FormatInt.f
  rw [if_pos ⟨.inr rfl, by omega, by omega⟩]
  rfl

/-! The form. -/
def frm (body : Int) : Int → List Int → Bool
  | last, [] => ieq last body
  | last, e :: r => bif ilt e last then false else frm body e r
theorem frm_le (body : Int) : ∀ (E : List Int) (last : Int), frm body last E = true → last ≤ body ∧ ∀ e ∈ E, e ≤ body
  | [], last, h => by
    have h : ieq last body = true := h
    rw [ieq_d] at h
    have := of_decide_eq_true h
    exact ⟨by omega, fun e he => nomatch he⟩
  | e :: r, last, h => by
    simp only [frm] at h
    cases q : ilt e last with
    | true => rw [q] at h; exact nomatch h
    | false =>
      rw [q, cond_false] at h
      have hq : ¬ e < last := of_decide_eq_false q
      obtain ⟨h1, h2⟩ := frm_le body r e h
      exact ⟨by omega, fun x hx => (List.mem_cons.1 hx).elim (fun y => by omega) (h2 x)⟩
theorem form_loop (b : ByteArray) (P : List ByteArray) (E : List Int) (hE : E.length ≤ 100) : ∀ (d j : Nat) (last : Int), E.length - j ≤ d → j ≤ E.length →
    Ev (fun k => asset_bundleFault.l0 k b P E last E (llen E) (j : Int)) (bif frm (slen b) last (E.drop j) then 0 else 1) ∧ Ev (fun k => mastref2_bundledForm.l0 k b P E last E (llen E) (j : Int)) (frm (slen b) last (E.drop j)) := by
  intro d
  have last' : ∀ (j : Nat) (last : Int), j = E.length → Ev (fun k => asset_bundleFault.l0 k b P E last E (llen E) (j : Int)) (bif frm (slen b) last (E.drop j) then 0 else 1) ∧ Ev (fun k => mastref2_bundledForm.l0 k b P E last E (llen E) (j : Int)) (frm (slen b) last (E.drop j)) := fun j last e => by
    subst e
    rw [List.drop_eq_nil_of_le (Nat.le_refl _)]
    simp only [frm]
    constructor
    · cases q : ieq last (slen b) with
      | true => exact Ev.step (g := fun _ => some 0) (fun k => by simp only [asset_bundleFault.l0, llen_eq, ilen', cond_false, q, Bool.not_true]) (Ev.now fun _ => rfl)
      | false => exact Ev.step (g := fun _ => some 1) (fun k => by simp only [asset_bundleFault.l0, llen_eq, ilen', cond_false, q, Bool.not_false, cond_true]) (Ev.now fun _ => rfl)
    · exact Ev.step (g := fun _ => some (ieq last (slen b))) (fun k => by simp only [mastref2_bundledForm.l0, llen_eq, ilen', cond_false]) (Ev.now fun _ => rfl)
  induction d with
  | zero => intro j last hd hj; exact last' j last (by omega)
  | succ d ih =>
    intro j last hd hj
    rcases Nat.lt_or_ge j E.length with hlt | hge
    case inr => exact last' j last (by omega)
    have hw : wadd .i64 (j : Int) 1 = ((j + 1 : Nat) : Int) := u0 (by omega)
    have nx := ih (j + 1) E[j] (by omega) hlt
    rw [List.drop_eq_getElem_cons hlt]
    simp only [frm]
    cases q : ilt E[j] last with
    | true =>
      constructor
      · exact Ev.step (g := fun _ => some 1) (fun k => by simp only [asset_bundleFault.l0, llen_eq, Go.Proofs.YthmedjljckbidaaDoor.Lift.ilen _ _ hlt, cond_true, lat_lt hlt, Option.bind_some, q]) (Ev.now fun _ => rfl)
      · exact Ev.step (g := fun _ => some false) (fun k => by simp only [mastref2_bundledForm.l0, llen_eq, Go.Proofs.YthmedjljckbidaaDoor.Lift.ilen _ _ hlt, cond_true, lat_lt hlt, Option.bind_some, q]) (Ev.now fun _ => rfl)
    | false =>
      constructor
      · exact Ev.step (fun k => by simp only [asset_bundleFault.l0, llen_eq, Go.Proofs.YthmedjljckbidaaDoor.Lift.ilen _ _ hlt, cond_true, lat_lt hlt, Option.bind_some, q, cond_false, hw]; try rfl) nx.1
      · exact Ev.step (fun k => by simp only [mastref2_bundledForm.l0, llen_eq, Go.Proofs.YthmedjljckbidaaDoor.Lift.ilen _ _ hlt, cond_true, lat_lt hlt, Option.bind_some, q, cond_false, hw]; try rfl) nx.2

/-! The text. -/
def ln (p : ByteArray) (n : Nat) : ByteArray := p ++ c__20 ++ num n ++ c__0a
def txt : ByteArray → Int → List ByteArray → List Int → ByteArray
  | S, last, p :: P, e :: E => txt (S ++ ln p (e - last).toNat) e P E
  | S, _, _, _ => S
theorem path_size {p : ByteArray} (h : path p = true) : p.size ≤ 200 := by
  unfold path at h
  rw [Bool.and_eq_true] at h
  have : slen p ≤ 200 := of_decide_eq_true h.1
  unfold slen at this; omega
theorem pf_zero : ∀ (l pre : List ByteArray), pf pre l = 0 → ∀ p ∈ l, path p = true
  | [], _, _, p, hp => nomatch hp
  | x :: r, pre, h, p, hp => by
    simp only [pf] at h
    cases e : path x with
    | false => rw [e] at h; exact nomatch h
    | true =>
      rw [e] at h
      simp only [Bool.not_true, cond_false] at h
      cases e2 : pre.any (fun s => seq s x) with
      | true => rw [e2] at h; exact nomatch h
      | false =>
        rw [e2] at h
        rcases List.mem_cons.1 hp with rfl | hp
        · exact e
        · exact pf_zero r _ h p hp
theorem ln_ok (p : ByteArray) (n : Nat) (hp : p.size ≤ 200) (hn : n ≤ 200000) : (scat p c__20).bind (fun y => (scat y (num n)).bind fun z => scat z c__0a) = some (ln p n) ∧ (ln p n).size ≤ 200300 := by
  have h1 : c__20.size = 1 := rfl
  have h2 : c__0a.size = 1 := rfl
  have h3 := num_size n
  have s1 : (p ++ c__20).size = p.size + 1 := by rw [ByteArray.size_append, h1]
  have s2 : (p ++ c__20 ++ num n).size = p.size + 1 + (num n).size := by rw [ByteArray.size_append, s1]
  refine ⟨?_, ?_⟩
  · rw [scat_of (by omega), Option.bind_some, scat_of (by omega), Option.bind_some, scat_of (by omega)]; rfl
  · unfold ln; rw [ByteArray.size_append, s2]; omega
theorem diff_ok {e last B : Int} (h1 : last ≤ e) (h2 : e ≤ B) (h0 : 0 ≤ last) (hB : B ≤ 200000) : wsub .i64 e last = (((e - last).toNat : Nat) : Int) ∧ (e - last).toNat ≤ 200000 := by
  rw [wsub64 (by omega) (by omega)]
  omega
theorem text_loop (b : ByteArray) (hb : b.size ≤ 200000) (P : List ByteArray) (E : List Int) (hl : P.length = E.length) (hP : P.length ≤ 40) : ∀ (d j : Nat) (S : ByteArray) (last : Int), P.length - j ≤ d → j ≤ P.length → S.size ≤ 200300 * j → 0 ≤ last → frm (slen b) last (E.drop j) = true →
    ((∀ p ∈ P, path p = true) → Ev (fun k => asset_MapString.l0 k b P E S last P (llen P) (j : Int)) (txt S last (P.drop j) (E.drop j), 0)) ∧
      Ev (fun k => mastref2_MapStringOf.l0 k b P E S last P (llen P) (j : Int)) (bif !ieq (pf (P.take j) (P.drop j)) 0 then (c_empty, pf (P.take j) (P.drop j)) else (txt S last (P.drop j) (E.drop j), 0)) := by
  intro d
  have last' : ∀ (j : Nat) (S : ByteArray) (last : Int), j = P.length → ((∀ p ∈ P, path p = true) → Ev (fun k => asset_MapString.l0 k b P E S last P (llen P) (j : Int)) (txt S last (P.drop j) (E.drop j), 0)) ∧
      Ev (fun k => mastref2_MapStringOf.l0 k b P E S last P (llen P) (j : Int)) (bif !ieq (pf (P.take j) (P.drop j)) 0 then (c_empty, pf (P.take j) (P.drop j)) else (txt S last (P.drop j) (E.drop j), 0)) := fun j S last e => by
    subst e
    rw [List.drop_eq_nil_of_le (Nat.le_refl _)]
    refine ⟨fun _ => ?_, ?_⟩
    · exact Ev.step (g := fun _ => some (S, 0)) (fun k => by simp only [asset_MapString.l0, llen_eq, ilen', cond_false]) (Ev.now fun _ => by simp only [txt])
    · exact Ev.step (g := fun _ => some (S, 0)) (fun k => by simp only [mastref2_MapStringOf.l0, llen_eq, ilen', cond_false]) (Ev.now fun _ => by simp only [txt, pf]; rfl)
  induction d with
  | zero => intro j S last hd hj _ _ _; exact last' j S last (by omega)
  | succ d ih =>
    intro j S last hd hj hS h0 hf
    rcases Nat.lt_or_ge j P.length with hlt | hge
    case inr => exact last' j S last (by omega)
    have hle : j < E.length := by omega
    have hw : wadd .i64 (j : Int) 1 = ((j + 1 : Nat) : Int) := u0 (by omega)
    rw [List.drop_eq_getElem_cons hle] at hf ⊢
    simp only [frm] at hf
    cases q : ilt E[j] last with
    | true => rw [q] at hf; exact nomatch hf
    | false =>
    rw [q, cond_false] at hf
    have hq : ¬ E[j] < last := of_decide_eq_false q
    obtain ⟨g1, _⟩ := frm_le _ _ _ hf
    have hbs : slen b ≤ 200000 := by unfold slen; omega
    obtain ⟨d1, d2⟩ := diff_ok (e := E[j]) (last := last) (B := slen b) (by omega) g1 h0 hbs
    have nx : path P[j] = true → _ := fun hp => ih (j + 1) (S ++ ln P[j] (E[j] - last).toNat) E[j] (by omega) hlt (by
      rw [ByteArray.size_append]
      have := (ln_ok P[j] _ (path_size hp) d2).2
      omega) (by omega) hf
    rw [List.drop_eq_getElem_cons hlt]
    have hln : path P[j] = true → (scat P[j] c__20).bind (fun y => (scat y (num (E[j] - last).toNat)).bind fun z => scat z c__0a) = some (ln P[j] (E[j] - last).toNat) ∧ scat S (ln P[j] (E[j] - last).toNat) = some (S ++ ln P[j] (E[j] - last).toNat) := fun hp => by
      have := ln_ok P[j] _ (path_size hp) d2
      exact ⟨this.1, scat_of (by omega)⟩
    have unf : ∀ (X : ByteArray → Option (ByteArray × Int)), path P[j] = true → ((scat P[j] c__20).bind fun y4 => (scat y4 (num (E[j] - last).toNat)).bind fun y7 => (scat y7 c__0a).bind fun y8 => (scat S y8).bind X) = X (S ++ ln P[j] (E[j] - last).toNat) := fun X hp => by
      obtain ⟨u1, u2⟩ := hln hp
      cases a1 : scat P[j] c__20 with
      | none => rw [a1] at u1; cases u1
      | some y =>
        rw [a1, Option.bind_some] at u1
        cases a2 : scat y (num (E[j] - last).toNat) with
        | none => rw [a2] at u1; cases u1
        | some z =>
          rw [a2, Option.bind_some] at u1
          simp only [Option.bind_some, a2, u1, u2]
    refine ⟨fun hall => ?_, ?_⟩
    · have hp := hall _ (List.getElem_mem hlt)
      have nx1 := (nx hp).1 hall
      have hb32 := b32_ok (E[j] - last).toNat (by omega)
      simp only [txt]
      have c1 : ∃ y, scat P[j] c__20 = some y := by
        have h1 : c__20.size = 1 := rfl
        have := path_size hp
        exact ⟨_, scat_of (by omega)⟩
      obtain ⟨y4, c1⟩ := c1
      have un := unf (fun y9 => some (y9, (0 : Int))) hp
      refine Ev.step (fun k => by simp only [asset_MapString.l0, llen_eq, Go.Proofs.YthmedjljckbidaaDoor.Lift.ilen _ _ hlt, cond_true, lat_lt hlt, lat_lt hle, Option.bind_some, d1, c1, hw]; rfl) (Ev.bind hb32 ?_)
      have un2 : ∀ X : ByteArray → Option (ByteArray × Int), ((scat y4 (num (E[j] - last).toNat)).bind fun y7 => (scat y7 c__0a).bind fun y8 => (scat S y8).bind X) = X (S ++ ln P[j] (E[j] - last).toNat) := fun X => by
        have := unf X hp
        rw [c1, Option.bind_some] at this
        exact this
      exact Ev.congr (fun k => un2 _) nx1
    · simp only [pf, txt]
      have hlj : lsub P 0 (j : Int) = some (P.take j) := by
        unfold lsub
        rw [if_pos ⟨by omega, by omega, by omega⟩]; simp
      refine Ev.step (fun k => by simp only [mastref2_MapStringOf.l0, llen_eq, Go.Proofs.YthmedjljckbidaaDoor.Lift.ilen _ _ hlt, cond_true, lat_lt hlt, lat_lt hle, Option.bind_some, d1, fmt_ok _ (show (E[j] - last).toNat ≤ 1000000 by omega), hlj, hw]; rfl) (Ev.bind (rPath_ok P[j]) ?_)
      cases hp : path P[j] with
      | false => exact Ev.now fun _ => rfl
      | true =>
        simp only [Bool.not_true, cond_false]
        refine Ev.bind (contains_ok (P.take j) P[j] (by rw [List.length_take]; omega)) ?_
        cases hc : (P.take j).any fun s => seq s P[j] with
        | true => exact Ev.now fun _ => rfl
        | false =>
          simp only [cond_false]
          have nx2 := (nx hp).2
          rw [List.take_succ_eq_append_getElem hlt] at nx2
          exact Ev.congr (fun k => unf _ hp) nx2

theorem pure_holds : Pure := fun x0 h0 => by
  refine (show Ev (fun k => mastlaw2_AssetMaps.f k x0) true from ?_).get
  suffices h : ∃ z : ByteArray × Int, Ev (fun k => asset_MapString.f k x0) z ∧ Ev (fun k => mastref2_MapStringOf.f k x0) z by
    obtain ⟨z, h1, h2⟩ := h
    refine Ev.congr (fun k => by simp only [mastlaw2_AssetMaps.f]; rfl) (Ev.bind h1 (Ev.bind h2 (Ev.now fun _ => ?_)))
    simp only [ieq_self, cond_true, seq_self]
  have eor : ∀ a b : Bool, (bif a then true else b) = (a || b) := fun a b => by cases a <;> rfl
  cases hbig : ilt 200000 (slen x0.fBody) with
  | true =>
    refine ⟨(c_empty, 4), ?_, ?_⟩
    · have h1 : Ev (fun k => asset_bundleFault.f k x0) 4 := Ev.now fun k => by simp only [asset_bundleFault.f, hbig, cond_true]
      exact Ev.congr (fun k => by simp only [asset_MapString.f]; rfl) (Ev.bind h1 (Ev.now fun _ => rfl))
    · exact Ev.now fun k => by simp only [mastref2_MapStringOf.f, hbig, cond_true]
  | false =>
  have hb : x0.fBody.size ≤ 200000 := by
    have : ¬ (200000 : Int) < slen x0.fBody := of_decide_eq_false hbig
    unfold slen at this; omega
  cases hform : (!ieq (llen x0.fParts) (llen x0.fEnds) || ilt 40 (llen x0.fParts)) with
  | true =>
    refine ⟨(c_empty, 1), ?_, ?_⟩
    · have h1 : Ev (fun k => asset_bundleFault.f k x0) 1 := Ev.now fun k => by simp only [asset_bundleFault.f, hbig, cond_false, eor, hform, cond_true]
      exact Ev.congr (fun k => by simp only [asset_MapString.f]; rfl) (Ev.bind h1 (Ev.now fun _ => rfl))
    · have h1 : Ev (fun k => mastref2_bundledForm.f k x0) false := Ev.now fun k => by simp only [mastref2_bundledForm.f, eor, hform, cond_true]
      exact Ev.congr (fun k => by simp only [mastref2_MapStringOf.f, hbig, cond_false]; rfl) (Ev.bind h1 (Ev.now fun _ => rfl))
  | false =>
  rw [Bool.or_eq_false_iff] at hform
  have hl : x0.fParts.length = x0.fEnds.length := by
    have := hform.1
    rw [Bool.not_eq_false', ieq_d] at this
    have := of_decide_eq_true this
    rw [llen_eq, llen_eq] at this; omega
  have h40 : x0.fParts.length ≤ 40 := by
    have : ¬ (40 : Int) < llen x0.fParts := of_decide_eq_false hform.2
    rw [llen_eq] at this; omega
  obtain ⟨f1, f2⟩ := form_loop x0.fBody x0.fParts x0.fEnds (by omega) x0.fEnds.length 0 0 (by omega) (by omega)
  rw [List.drop_zero] at f1 f2
  have hor : (!ieq (llen x0.fParts) (llen x0.fEnds) || ilt 40 (llen x0.fParts)) = false := by rw [hform.1, hform.2]; rfl
  have k1 : Ev (fun k => asset_bundleFault.f k x0) (bif frm (slen x0.fBody) 0 x0.fEnds then 0 else 1) := Ev.congr (fun k => by simp only [asset_bundleFault.f, hbig, cond_false, eor, hor]; rfl) f1
  have k2 : Ev (fun k => mastref2_bundledForm.f k x0) (frm (slen x0.fBody) 0 x0.fEnds) := Ev.congr (fun k => by simp only [mastref2_bundledForm.f, eor, hor, cond_false]; rfl) f2
  cases hf : frm (slen x0.fBody) 0 x0.fEnds with
  | false =>
    rw [hf] at k1 k2
    refine ⟨(c_empty, 1), ?_, ?_⟩
    · exact Ev.congr (fun k => by simp only [asset_MapString.f]; rfl) (Ev.bind k1 (Ev.now fun _ => rfl))
    · exact Ev.congr (fun k => by simp only [mastref2_MapStringOf.f, hbig, cond_false]; rfl) (Ev.bind k2 (Ev.now fun _ => rfl))
  | true =>
    rw [hf] at k1 k2
    obtain ⟨t1, t2⟩ := text_loop x0.fBody hb x0.fParts x0.fEnds hl h40 x0.fParts.length 0 c_empty 0 (by omega) (by omega) (Nat.zero_le _) (Int.le_refl _) (by rw [List.drop_zero]; exact hf)
    rw [List.drop_zero, List.drop_zero] at t1 t2
    have hp := pf_ok x0.fParts (by omega)
    refine ⟨bif !ieq (pf [] x0.fParts) 0 then (c_empty, pf [] x0.fParts) else (txt c_empty 0 x0.fParts x0.fEnds, 0), ?_, ?_⟩
    · refine Ev.congr (fun k => by simp only [asset_MapString.f]; rfl) (Ev.bind k1 ?_)
      simp only [cond_true, show ieq (0 : Int) 0 = true from rfl, Bool.not_true, cond_false]
      refine Ev.bind hp ?_
      cases hz : ieq (pf [] x0.fParts) 0 with
      | false => exact Ev.now fun _ => rfl
      | true =>
        rw [ieq_d] at hz
        exact t1 (pf_zero _ _ (of_decide_eq_true hz))
    · refine Ev.congr (fun k => by simp only [mastref2_MapStringOf.f, hbig, cond_false]; rfl) (Ev.bind k2 ?_)
      exact t2

end Go.Proofs.YthmedjljckbidaaDoor.LAssetMaps
