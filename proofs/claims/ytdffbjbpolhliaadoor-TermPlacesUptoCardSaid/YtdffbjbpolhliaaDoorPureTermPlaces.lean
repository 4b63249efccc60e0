/- The addresses of terms and parts are those of the reference, for strings of some size. Conditions: none. -/
import Derived.Test.YtdffbjbpolhliaaDoorLTermPlacesOp
import Derived.Lib.ItoaLen
import Derived.Lib.SplitLaws
set_option linter.unusedVariables false
set_option linter.unusedSimpArgs false
namespace Go.Proofs.YtdffbjbpolhliaaDoor.LTermPlaces
open Go Go.Proofs.YtdffbjbpolhliaaDoor.Lift

theorem seq_empty (s : ByteArray) : seq s c_empty = s.data.toList.isEmpty := by
  unfold seq
  rw [ByteArray.toList_eq, ByteArray.toList_eq]
  cases h : s.data.toList <;> rfl
theorem mem_dw {α : Type} {p : α → Bool} : ∀ {l : List α} {x : α}, x ∈ l → p x = false → x ∈ l.dropWhile p
  | a :: l, x, h, hp => by
    rw [List.dropWhile_cons]
    split
    · rename_i ha
      rcases List.mem_cons.1 h with rfl | h
      · rw [hp] at ha; cases ha
      · exact mem_dw h hp
    · exact h
theorem dw_nil {α : Type} {p : α → Bool} : ∀ {l : List α}, (∀ x ∈ l, p x = true) → l.dropWhile p = []
  | [], _ => rfl
  | a :: l, h => by rw [List.dropWhile_cons, if_pos (h a (List.mem_cons_self ..))]; exact dw_nil fun x hx => h x (List.mem_cons_of_mem _ hx)
theorem trim_nil (l cs : List UInt8) : (Lib.trimS l cs).isEmpty = l.all (cs.contains ·) := by
  unfold Lib.trimS Lib.trimLeftS Lib.trimRightS
  cases h : l.all (cs.contains ·) with
  | true =>
    have h := List.all_eq_true.1 h
    rw [dw_nil (l := l.reverse) fun x hx => h x (List.mem_reverse.1 hx)]
    rfl
  | false =>
    obtain ⟨x, hx, hp⟩ : ∃ x ∈ l, cs.contains x = false := by
      rcases List.all_eq_false.1 h with ⟨x, hx, hp⟩
      exact ⟨x, hx, by simpa using hp⟩
    have h1 : x ∈ (l.reverse.dropWhile (cs.contains ·)).reverse := List.mem_reverse.2 (mem_dw (List.mem_reverse.2 hx) hp)
    have h2 := mem_dw h1 hp
    cases e : List.dropWhile (cs.contains ·) (l.reverse.dropWhile (cs.contains ·)).reverse with
    | nil => rw [e] at h2; cases h2
    | cons _ _ => rfl
theorem all_any {α : Type} (p : α → Bool) (r : List α) : (bif r.any fun c => !p c then false else true) = r.all p := by
  rw [List.all_eq_not_any_not]
  cases r.any fun c => !p c <;> rfl
/-! Paths. -/
def insP (c : UInt8) : Bool := (bif ile 97 (c.toNat : Int) then ile (c.toNat : Int) 122 else false) || (bif ile 48 (c.toNat : Int) then ile (c.toNat : Int) 57 else false) || ieq (c.toNat : Int) 45 || ieq (c.toNat : Int) 95 || ieq (c.toNat : Int) 46
def part (s : ByteArray) : Bool := bif (bif (bif (bif (seq s c_empty) then true else (ilt 40 (slen s))) then true else (seq s c__2e)) then true else (seq s c__2e_2e)) then false else s.data.toList.all insP
theorem partL_ok (s : ByteArray) : Ev (fun k => tree_isPart.f k s) (part s) := by
  unfold part
  cases h : (bif (bif (bif (seq s c_empty) then true else (ilt 40 (slen s))) then true else (seq s c__2e)) then true else (seq s c__2e_2e)) with
  | true => exact Ev.now fun k => by simp only [tree_isPart.f, h, cond_true]
  | false =>
    have hs : ilt 40 (slen s) = false := by
      cases e : ilt 40 (slen s) with
      | false => rfl
      | true => rw [e] at h; cases seq s c_empty <;> simp at h
    have hl : s.data.toList.length ≤ 40 := by
      rw [slen_l] at hs
      have := of_decide_eq_false hs
      omega
    have q := find_pure s.data.toList 0 (Nat.zero_le _) (fun k j => tree_isPart.l0 k s (j : Int)) (fun _ => some true) (fun c => !insP c) (fun _ => false) true
      (fun k j h => by
        simp only [tree_isPart.l0, slen_l, ilen _ _ h, cond_true, sat_l h, Option.bind_some, u0 (show j ≤ 4611686018427387904 by omega), tree_isSmall.f, tree_isDigit.f, insP]
        cases (bif ile 97 (s.data.toList[j].toNat : Int) then ile (s.data.toList[j].toNat : Int) 122 else false) <;> cases (bif ile 48 (s.data.toList[j].toNat : Int) then ile (s.data.toList[j].toNat : Int) 57 else false) <;> cases ieq (s.data.toList[j].toNat : Int) 45 <;> cases ieq (s.data.toList[j].toNat : Int) 95 <;> cases ieq (s.data.toList[j].toNat : Int) 46 <;> rfl)
      (fun k => by simp only [tree_isPart.l0, slen_l, ilen', cond_false]) (Ev.now fun _ => rfl)
    rw [fl_const, List.drop_zero, all_any] at q
    exact Ev.congr (fun k => by simp only [tree_isPart.f, h, cond_false]; rfl) q
theorem set_insP (c : UInt8) : c_abcdefghijklmnopqrst_c1516678.data.toList.contains c = insP c := by
  have h : ∀ n : Fin 256, c_abcdefghijklmnopqrst_c1516678.data.toList.contains (UInt8.ofNat n.val) = insP (UInt8.ofNat n.val) := by decide +kernel
  have := h ⟨c.toNat, c.toNat_lt⟩
  simpa using this
theorem partR_ok (s : ByteArray) (hs : s.size ≤ 3000000) : mastref2_IsPart.f s = some (part s) := by
  have hc : strings_Trim.f s c_abcdefghijklmnopqrst_c1516678 = some ⟨(Lib.trimS s.data.toList c_abcdefghijklmnopqrst_c1516678.data.toList).toArray⟩ := by
    unfold strings_Trim.f
    rw [if_pos ⟨by omega, by decide, by decide +kernel⟩]
  have e : (bif (bif (bif (!seq s c_empty) then (ile (slen s) 40) else false) then (!seq s c__2e) else false) then (!seq s c__2e_2e) else false) = !(bif (bif (bif (seq s c_empty) then true else (ilt 40 (slen s))) then true else (seq s c__2e)) then true else (seq s c__2e_2e)) := by
    have : ile (slen s) 40 = !ilt 40 (slen s) := by rw [ile_d, ilt_d]; by_cases c : slen s ≤ 40 <;> simp [c] <;> omega
    rw [this]
    cases seq s c_empty <;> cases ilt 40 (slen s) <;> cases seq s c__2e <;> cases seq s c__2e_2e <;> rfl
  unfold mastref2_IsPart.f part
  rw [e, hc]
  cases (bif (bif (bif (seq s c_empty) then true else (ilt 40 (slen s))) then true else (seq s c__2e)) then true else (seq s c__2e_2e)) with
  | true => rfl
  | false =>
    simp only [Bool.not_false, cond_true, cond_false, Option.bind_some]
    rw [seq_empty]
    show some (Lib.trimS s.data.toList _).isEmpty = _
    rw [trim_nil, show (fun x => c_abcdefghijklmnopqrst_c1516678.data.toList.contains x) = insP from funext set_insP]

theorem split_mem (sep : ByteArray) : ∀ (k : Nat) (s x : ByteArray), x ∈ Lib.splitB sep 0 k s → x.size ≤ s.size
  | 0, s, x, h => by
    have : x = s := by simpa [Lib.splitB] using h
    rw [this]; exact Nat.le_refl _
  | k + 1, s, x, h => by
    unfold Lib.splitB at h
    split at h
    · have : x = s := by simpa using h
      rw [this]; exact Nat.le_refl _
    · rcases List.mem_cons.1 h with rfl | h
      · rw [ByteArray.size_extract]; omega
      · have := split_mem sep k _ x h
        rw [ByteArray.size_extract] at this; omega
def parts (s : ByteArray) : List ByteArray := Lib.splitB c__2f 0 (Lib.countB s c__2f) s
def path (s : ByteArray) : Bool := ile (slen s) 200 && (parts s).all part
theorem split_ok (s : ByteArray) (hs : s.size ≤ 3000000) : strings_Split.f s c__2f = some (parts s) := by
  unfold strings_Split.f splitF
  rw [if_pos ⟨by omega, by decide⟩]
  rfl
theorem parts_len (s : ByteArray) (hs : s.size ≤ 3000000) : (parts s).length ≤ 3000001 := by
  have := Lib.splitB_length_le c__2f 0 (Lib.countB s c__2f) s
  have := Lib.countB_le c__2f (by decide) s.size s (Nat.le_refl _)
  unfold parts; omega
theorem pathL_ok (s : ByteArray) (hs : s.size ≤ 3000000) : Ev (fun k => tree_isPath.f k s) (path s) := by
  unfold path
  have hl := parts_len s hs
  by_cases h : slen s ≤ 200
  · rw [ile_t h, Bool.true_and]
    have q := find_loop (parts s) 0 (Nat.zero_le _) (fun k j => tree_isPath.l0 k (parts s) (llen (parts s)) (j : Int)) (fun k s => tree_isPart.f k s)
      (fun k j y => bif (!y) then some false else tree_isPath.l0 k (parts s) (llen (parts s)) ((j + 1 : Nat) : Int)) (fun _ => some true) (fun c => !part c) (fun _ => false) true
      (fun k j h => by simp only [tree_isPath.l0, llen_eq, ilen _ _ h, cond_true, lat_lt h, Option.bind_some, u0 (show j ≤ 4611686018427387904 by omega)])
      (fun k => by simp only [tree_isPath.l0, llen_eq, ilen', cond_false]) (Ev.now fun _ => rfl)
      (fun j h => ⟨_, partL_ok _, fun k => rfl⟩)
    rw [fl_const, List.drop_zero, all_any] at q
    exact Ev.congr (fun k => by simp only [tree_isPath.f, ilt_f h, cond_false, split_ok s hs, Option.bind_some]; rfl) q
  · rw [ile_f (by omega), Bool.false_and]
    exact Ev.now fun k => by simp only [tree_isPath.f, ilt_t (show 200 < slen s by omega), cond_true]
theorem pathR_ok (s : ByteArray) (hs : s.size ≤ 3000000) : Ev (fun k => mastref2_IsPath.f k s) (path s) := by
  unfold path
  have hl := parts_len s hs
  by_cases h : slen s ≤ 200
  · rw [ile_t h, Bool.true_and]
    have q := find_pure (parts s) 0 (Nat.zero_le _) (fun k j => slices_IndexFunc_string_string_at_mastref2_IsPath_c1.l0 k (parts s) (llen (parts s)) (j : Int)) (fun _ => some (-1)) (fun c => !part c) (fun j => (j : Int)) (-1)
      (fun k j h => by
        have := split_mem c__2f _ s (parts s)[j] (List.getElem_mem h)
        simp only [slices_IndexFunc_string_string_at_mastref2_IsPath_c1.l0, llen_eq, ilen _ _ h, cond_true, lat_lt h, Option.bind_some, u0 (show j ≤ 4611686018427387904 by omega), mastref2_IsPath_c1.f, partR_ok (parts s)[j] (by omega)])
      (fun k => by simp only [slices_IndexFunc_string_string_at_mastref2_IsPath_c1.l0, llen_eq, ilen', cond_false]) (Ev.now fun _ => rfl)
    rw [List.drop_zero] at q
    have hi : Ev (fun k => slices_IndexFunc_string_string_at_mastref2_IsPath_c1.f k (parts s)) _ := Ev.congr (fun k => by simp only [slices_IndexFunc_string_string_at_mastref2_IsPath_c1.f]; rfl) q
    have hc : Ev (fun k => slices_ContainsFunc_string_string_at_mastref2_IsPath_c1.f k (parts s)) ((parts s).any fun c => !part c) := Ev.congr (g := fun k => (slices_IndexFunc_string_string_at_mastref2_IsPath_c1.f k (parts s)).bind fun y1 => some (ile 0 y1)) (fun k => by simp only [slices_ContainsFunc_string_string_at_mastref2_IsPath_c1.f]) (Ev.bind hi (Ev.now fun _ => by rw [fl_any]))
    refine Ev.congr (g := fun k => (slices_ContainsFunc_string_string_at_mastref2_IsPath_c1.f k (parts s)).bind fun y2 => some (!y2)) (fun k => by simp only [mastref2_IsPath.f, ile_t h, cond_true, split_ok s hs, Option.bind_some]) (Ev.bind hc (Ev.now fun _ => ?_))
    rw [List.all_eq_not_any_not]
  · rw [ile_f (by omega), Bool.false_and]
    exact Ev.now fun k => by simp only [mastref2_IsPath.f, ile_f (show 200 < slen s by omega), cond_false]
/-! Addresses. -/
def addr (s : ByteArray) : Bool := bif seq s c__2f then true else bif ilt 2 (slen s) then (bif ieq ((s.data.toList[0]?.getD 0).toNat : Int) 47 then (bif ieq ((s.data.toList[s.data.toList.length - 1]?.getD 0).toNat : Int) 47 then path (s.extract 1 (s.size - 1)) else false) else false) else false
theorem addr_gen (s : ByteArray) (hs : s.size ≤ 3000000) (F G : Nat → ByteArray → Option Bool) (hG : ∀ s : ByteArray, s.size ≤ 3000000 → Ev (fun k => G k s) (path s))
    (hF : ∀ k, F k s = bif (seq s c__2f) then (some true) else (bif (ilt 2 (slen s)) then ((sat s 0).bind fun y1 => (bif (ieq y1 47) then ((sat s (wsub .i64 (slen s) 1)).bind fun y2 => (bif (ieq y2 47) then ((ssub s 1 (wsub .i64 (slen s) 1)).bind fun y3 => ((G k y3).bind fun y4 => (some y4))) else (some false))) else (some false))) else (some false))) : Ev (fun k => F k s) (addr s) := by
  unfold addr
  refine Ev.congr hF ?_
  cases h : seq s c__2f with
  | true => exact Ev.now fun _ => rfl
  | false =>
    simp only [cond_false]
    have hl := size_l s
    by_cases h2 : 2 < s.data.toList.length
    · have e0 : sat s 0 = some (((s.data.toList[0]?.getD 0).toNat : Int)) := by
        have := sat_l (s := s) (i := 0) (by omega)
        rw [show ((0 : Nat) : Int) = 0 from rfl] at this
        rw [this, List.getElem?_eq_getElem (by omega)]; rfl
      have w : wsub .i64 (slen s) 1 = ((s.data.toList.length - 1 : Nat) : Int) := by rw [slen_l, wsub64 (by omega) (by omega)]; omega
      have e1 : sat s (wsub .i64 (slen s) 1) = some (((s.data.toList[s.data.toList.length - 1]?.getD 0).toNat : Int)) := by
        rw [w, sat_l (by omega), List.getElem?_eq_getElem (by omega)]; rfl
      have e2 : ssub s 1 (wsub .i64 (slen s) 1) = some (s.extract 1 (s.size - 1)) := by
        unfold ssub
        rw [w, if_pos ⟨by omega, by omega, by omega⟩, Int.toNat_natCast, hl]; rfl
      rw [ilt_t (show (2 : Int) < slen s by rw [slen_l]; omega)]
      simp only [cond_true, e0, e1, e2, Option.bind_some]
      cases ieq ((s.data.toList[0]?.getD 0).toNat : Int) 47 with
      | false => exact Ev.now fun _ => rfl
      | true =>
        cases ieq ((s.data.toList[s.data.toList.length - 1]?.getD 0).toNat : Int) 47 with
        | false => exact Ev.now fun _ => rfl
        | true => exact Ev.bind (hG _ (by rw [ByteArray.size_extract]; omega)) (Ev.now fun _ => rfl)
    · rw [ilt_f (show slen s ≤ (2 : Int) by rw [slen_l]; omega)]
      exact Ev.now fun _ => rfl
theorem addrL_ok (s : ByteArray) (hs : s.size ≤ 3000000) : Ev (fun k => tree_isAddress.f k s) (addr s) := addr_gen s hs (fun k s => tree_isAddress.f k s) (fun k s => tree_isPath.f k s) pathL_ok (fun k => by simp only [tree_isAddress.f])
theorem addrR_ok (s : ByteArray) (hs : s.size ≤ 3000000) : Ev (fun k => mastref2_IsAddress.f k s) (addr s) := addr_gen s hs (fun k s => mastref2_IsAddress.f k s) (fun k s => mastref2_IsPath.f k s) pathR_ok (fun k => by simp only [mastref2_IsAddress.f])
theorem cAddr_ok (s : ByteArray) (hs : s.size ≤ 3000000) : Ev (fun k => tree_CheckAddress.f k s) (bif addr s then 0 else 3) :=
  Ev.congr (g := fun k => (tree_isAddress.f k s).bind fun y1 => bif !y1 then some 3 else some 0) (fun k => by simp only [tree_CheckAddress.f]) (Ev.bind (addrL_ok s hs) (Ev.now fun _ => by cases addr s <;> rfl))
theorem scat_ok {a b : ByteArray} (h : a.size + b.size ≤ 4611686018427387904) : scat a b = some (a ++ b) := by
  unfold scat; rw [if_pos (by omega)]

theorem cPath_ok (s : ByteArray) (hs : s.size ≤ 3000000) : Ev (fun k => tree_CheckPath.f k s) (bif path s then 0 else 3) :=
  Ev.congr (g := fun k => (tree_isPath.f k s).bind fun y1 => bif !y1 then some 3 else some 0) (fun k => by simp only [tree_CheckPath.f]) (Ev.bind (pathL_ok s hs) (Ev.now fun _ => by cases path s <;> rfl))

theorem insP_slash : insP 47 = false := by decide
theorem one_part (s : ByteArray) (h : s.data.toList.any (fun c => ieq (c.toNat : Int) 47) = false) : parts s = [s] := by
  have hc : Lib.countB s c__2f = 0 := by
    show Lib.count s.data.toList [47] = 0
    rw [Lib.count_one, List.count_eq_zero]
    intro hm
    have := any_f h 47 hm
    exact nomatch this
  unfold parts
  rw [hc]; rfl
theorem part_len {s : ByteArray} (h : part s = true) : slen s ≤ 40 ∧ s.data.toList.all insP = true := by
  unfold part at h
  by_cases hl : slen s ≤ 40
  · refine ⟨hl, ?_⟩
    cases e : (bif (bif (bif (seq s c_empty) then true else (ilt 40 (slen s))) then true else (seq s c__2e)) then true else (seq s c__2e_2e)) with
    | true => rw [e] at h; exact nomatch h
    | false => rw [e] at h; exact h
  · rw [ilt_t (show 40 < slen s by omega)] at h
    cases seq s c_empty <;> simp at h
theorem lpart_ok (s : ByteArray) (hs : s.size ≤ 3000000) : Ev (fun k => list_isPart.f k s) (part s) := by
  have hl := size_l s
  have q := find_pure s.data.toList 0 (Nat.zero_le _) (fun k j => list_isPart.l0 k s (j : Int)) (fun k => (tree_CheckPath.f k s).bind fun y2 => some (ieq y2 0)) (fun c => ieq (c.toNat : Int) 47) (fun _ => false) (path s)
    (fun k j h => by simp only [list_isPart.l0, slen_l, ilen _ _ h, cond_true, sat_l h, Option.bind_some, u0 (show j ≤ 4611686018427387904 by omega)])
    (fun k => by simp only [list_isPart.l0, slen_l, ilen', cond_false]) (Ev.bind (cPath_ok s hs) (Ev.now fun _ => by cases path s <;> rfl))
  rw [fl_const, List.drop_zero] at q
  have e : (bif s.data.toList.any (fun c => ieq (c.toNat : Int) 47) then false else path s) = part s := by
    cases h : s.data.toList.any (fun c => ieq (c.toNat : Int) 47) with
    | true =>
      cases hp : part s with
      | false => rfl
      | true =>
        obtain ⟨c, hc, hq⟩ := List.any_eq_true.1 h
        have h1 := List.all_eq_true.1 (part_len hp).2 c hc
        have : c = 47 := by
          rw [ieq_d] at hq
          have := of_decide_eq_true hq
          exact UInt8.toNat_inj.1 (by rw [show (47 : UInt8).toNat = 47 from rfl]; omega)
        rw [this, insP_slash] at h1
        cases h1
    | false =>
      show path s = part s
      unfold path
      rw [one_part s h]
      simp only [List.all_cons, List.all_nil, Bool.and_true]
      cases hp : part s with
      | false => rw [Bool.and_false]
      | true => rw [ile_t (show slen s ≤ 200 by have := (part_len hp).1; omega)]; rfl
  rw [e] at q
  exact Ev.congr (fun k => by simp only [list_isPart.f]; rfl) q

/-- The address of a term. -/
def tadr (a b : ByteArray) : ByteArray × Int := bif !addr a then (c_empty, 3) else bif !part b then (c_empty, 3) else bif !addr (a ++ b ++ c__2f) then (c_empty, 3) else (a ++ b ++ c__2f, 0)
theorem termL (a b : ByteArray) (ha : a.size ≤ 1048576) (hb : b.size ≤ 1048576 + 0) : Ev (fun k => list_TermAddress.f k a b) (tadr a b) := by
  have h1 : scat a b = some (a ++ b) := scat_ok (by omega)
  have hs : (a ++ b).size = a.size + b.size := ByteArray.size_append
  have hc : c__2f.size = 1 := rfl
  have h2 : scat (a ++ b) c__2f = some (a ++ b ++ c__2f) := scat_ok (by omega)
  have hs2 : (a ++ b ++ c__2f).size = (a ++ b).size + 1 := by rw [ByteArray.size_append, hc]
  unfold tadr
  refine Ev.congr (fun k => by simp only [list_TermAddress.f, h1, h2, Option.bind_some]; rfl) (Ev.bind (cAddr_ok a (by omega)) ?_)
  cases addr a with
  | false => exact Ev.now fun _ => rfl
  | true =>
    simp only [cond_true, ieq_self, Bool.not_true, cond_false]
    refine Ev.bind (lpart_ok b (by omega)) ?_
    cases part b with
    | false => exact Ev.now fun _ => rfl
    | true =>
      simp only [Bool.not_true, cond_false]
      refine Ev.bind (cAddr_ok _ (by omega)) ?_
      cases addr (a ++ b ++ c__2f) with
      | false => exact Ev.now fun _ => rfl
      | true => exact Ev.now fun _ => rfl
theorem termR (a b : ByteArray) (ha : a.size ≤ 1048576) (hb : b.size ≤ 1048576 + 0) : Ev (fun k => mastref2_AddressOfTerm.f k a b) (tadr a b) := by
  have h1 : scat a b = some (a ++ b) := scat_ok (by omega)
  have hs : (a ++ b).size = a.size + b.size := ByteArray.size_append
  have hc : c__2f.size = 1 := rfl
  have h2 : scat (a ++ b) c__2f = some (a ++ b ++ c__2f) := scat_ok (by omega)
  have hs2 : (a ++ b ++ c__2f).size = (a ++ b).size + 1 := by rw [ByteArray.size_append, hc]
  unfold tadr
  refine Ev.congr (fun k => by simp only [mastref2_AddressOfTerm.f, h1, h2, partR_ok b (show b.size ≤ 3000000 by omega), Option.bind_some]; rfl) (Ev.bind (addrR_ok a (by omega)) ?_)
  cases addr a with
  | false => exact Ev.now fun _ => rfl
  | true =>
    simp only [Bool.not_true, cond_false]
    cases part b with
    | false => exact Ev.now fun _ => rfl
    | true =>
      simp only [Bool.not_true, cond_false]
      refine Ev.bind (addrR_ok _ (by omega)) ?_
      cases addr (a ++ b ++ c__2f) with
      | false => exact Ev.now fun _ => rfl
      | true => exact Ev.now fun _ => rfl

theorem itoa_ok (n : Int) (h : -9223372036854775808 ≤ n ∧ n ≤ 9223372036854775807) : strconv_Itoa.f n = some ⟨(Lib.itoa n).toArray⟩ := by
  unfold strconv_Itoa.f; rw [if_pos h]
def padr (a : ByteArray) (n : Int) : ByteArray := bif ieq n 1 then a else a ++ (c_page_2f ++ ⟨(Lib.itoa n).toArray⟩ ++ c__2f)
def part_ (a : ByteArray) (n : Int) : ByteArray × Int := bif !addr a then (c_empty, 3) else bif ilt n 1 || ilt 2000 n then (c_empty, 2) else bif ieq n 1 then (a, 0) else bif !addr (padr a n) then (c_empty, 3) else (padr a n, 0)

theorem partsz (n : Int) (h : -9223372036854775808 ≤ n ∧ n ≤ 9223372036854775807) : (⟨(Lib.itoa n).toArray⟩ : ByteArray).size ≤ 21 := by
  have := Lib.itoa_length_le n h.1 h.2
  show (Lib.itoa n).toArray.size ≤ 21
  simpa using this
theorem placeL (a : ByteArray) (n : Int) (ha : a.size ≤ 1048576) (hn : -9223372036854775808 ≤ n ∧ n ≤ 9223372036854775807) : Ev (fun k => list_PartAddress.f k a n) (part_ a n) := by
  have hz := partsz n hn
  have hp : c_page_2f.size = 5 := rfl
  have hc : c__2f.size = 1 := rfl
  have h1 : scat a c_page_2f = some (a ++ c_page_2f) := scat_ok (by omega)
  have s1 : (a ++ c_page_2f).size = a.size + 5 := by rw [ByteArray.size_append, hp]
  have h2 : scat (a ++ c_page_2f) ⟨(Lib.itoa n).toArray⟩ = some (a ++ c_page_2f ++ ⟨(Lib.itoa n).toArray⟩) := scat_ok (by omega)
  have s2 : (a ++ c_page_2f ++ (⟨(Lib.itoa n).toArray⟩ : ByteArray)).size = (a ++ c_page_2f).size + (⟨(Lib.itoa n).toArray⟩ : ByteArray).size := ByteArray.size_append
  have h3 : scat (a ++ c_page_2f ++ ⟨(Lib.itoa n).toArray⟩) c__2f = some (a ++ c_page_2f ++ ⟨(Lib.itoa n).toArray⟩ ++ c__2f) := scat_ok (by omega)
  have s3 : (a ++ c_page_2f ++ (⟨(Lib.itoa n).toArray⟩ : ByteArray) ++ c__2f).size = (a ++ c_page_2f ++ (⟨(Lib.itoa n).toArray⟩ : ByteArray)).size + 1 := by rw [ByteArray.size_append, hc]
  have eo : (bif ilt n 1 then true else ilt 2000 n) = (ilt n 1 || ilt 2000 n) := by cases ilt n 1 <;> rfl
  unfold part_
  refine Ev.congr (fun k => by simp only [list_PartAddress.f, list_number.f, itoa_ok n hn, h1, h2, h3, Option.bind_some, eo]; rfl) (Ev.bind (cAddr_ok a (by omega)) ?_)
  cases addr a with
  | false => exact Ev.now fun _ => rfl
  | true =>
    simp only [cond_true, ieq_self, Bool.not_true, cond_false]
    cases (ilt n 1 || ilt 2000 n) with
    | true => exact Ev.now fun _ => rfl
    | false =>
      simp only [cond_false]
      cases h : ieq n 1 with
      | true => exact Ev.now fun _ => rfl
      | false =>
        have ep : padr a n = a ++ c_page_2f ++ ⟨(Lib.itoa n).toArray⟩ ++ c__2f := by
          unfold padr
          rw [h]
          simp only [cond_false, ByteArray.append_assoc]
        rw [ep]
        simp only [cond_false]
        refine Ev.bind (cAddr_ok _ (by omega)) ?_
        cases addr (a ++ c_page_2f ++ ⟨(Lib.itoa n).toArray⟩ ++ c__2f) with
        | false => exact Ev.now fun _ => rfl
        | true => exact Ev.now fun _ => rfl
theorem placeR (a : ByteArray) (n : Int) (ha : a.size ≤ 1048576) (hn : -9223372036854775808 ≤ n ∧ n ≤ 9223372036854775807) : Ev (fun k => mastref2_AddressOfPart.f k a n) (part_ a n) := by
  have hz := partsz n hn
  have hp : c_page_2f.size = 5 := rfl
  have hc : c__2f.size = 1 := rfl
  have h1 : scat c_page_2f ⟨(Lib.itoa n).toArray⟩ = some (c_page_2f ++ ⟨(Lib.itoa n).toArray⟩) := scat_ok (by omega)
  have s1 : (c_page_2f ++ (⟨(Lib.itoa n).toArray⟩ : ByteArray)).size = 5 + (⟨(Lib.itoa n).toArray⟩ : ByteArray).size := by rw [ByteArray.size_append, hp]
  have h2 : scat (c_page_2f ++ ⟨(Lib.itoa n).toArray⟩) c__2f = some (c_page_2f ++ ⟨(Lib.itoa n).toArray⟩ ++ c__2f) := scat_ok (by omega)
  have s2 : (c_page_2f ++ (⟨(Lib.itoa n).toArray⟩ : ByteArray) ++ c__2f).size = (c_page_2f ++ (⟨(Lib.itoa n).toArray⟩ : ByteArray)).size + 1 := by rw [ByteArray.size_append, hc]
  have h3 : scat a (c_page_2f ++ ⟨(Lib.itoa n).toArray⟩ ++ c__2f) = some (a ++ (c_page_2f ++ ⟨(Lib.itoa n).toArray⟩ ++ c__2f)) := scat_ok (by omega)
  have s3 : (a ++ (c_page_2f ++ (⟨(Lib.itoa n).toArray⟩ : ByteArray) ++ c__2f)).size = a.size + (c_page_2f ++ (⟨(Lib.itoa n).toArray⟩ : ByteArray) ++ c__2f).size := ByteArray.size_append
  have eo : (bif ilt n 1 then true else ilt 2000 n) = (ilt n 1 || ilt 2000 n) := by cases ilt n 1 <;> rfl
  have l0 : ∀ x : ByteArray, x.size ≤ 3000000 → Ev (fun k => mastref2_AddressOfPart.l0 k a n x) (bif !addr a then (c_empty, 3) else bif ilt n 1 || ilt 2000 n then (c_empty, 2) else bif !addr x then (c_empty, 3) else (x, 0)) := fun x hx => by
    refine Ev.step (fun k => by simp only [mastref2_AddressOfPart.l0, eo]; rfl) (Ev.bind (addrR_ok a (by omega)) ?_)
    cases addr a with
    | false => exact Ev.now fun _ => rfl
    | true =>
      simp only [Bool.not_true, cond_false]
      cases (ilt n 1 || ilt 2000 n) with
      | true => exact Ev.now fun _ => rfl
      | false =>
        refine Ev.bind (addrR_ok x hx) ?_
        cases addr x with
        | false => exact Ev.now fun _ => rfl
        | true => exact Ev.now fun _ => rfl
  unfold part_
  cases h : ieq n 1 with
  | true =>
    have := l0 a (by omega)
    have e : (bif !addr a then (c_empty, (3 : Int)) else bif ilt n 1 || ilt 2000 n then (c_empty, 2) else bif !addr a then (c_empty, 3) else (a, 0)) = (bif !addr a then (c_empty, (3 : Int)) else bif ilt n 1 || ilt 2000 n then (c_empty, 2) else (a, 0)) := by
      cases addr a <;> rfl
    rw [e] at this
    exact Ev.congr (fun k => by simp only [mastref2_AddressOfPart.f, h, Bool.not_true, cond_false]) this
  | false =>
    have ep : padr a n = a ++ (c_page_2f ++ ⟨(Lib.itoa n).toArray⟩ ++ c__2f) := by
      unfold padr
      rw [h]; rfl
    rw [ep]
    exact Ev.congr (fun k => by simp only [mastref2_AddressOfPart.f, h, Bool.not_false, cond_true, itoa_ok n hn, h1, h2, h3, Option.bind_some]) (l0 _ (by omega))

theorem pure_holds : Pure := fun x0 x1 x2 h0 h1 h2 => by
  have hn := wf64 h2
  refine (show Ev (fun k => mastlaw2_TermPlaces.f k x0 x1 x2) true from ?_).get
  exact Ev.congr (g := fun k => (list_TermAddress.f k x0 x1).bind fun y1 => (mastref2_AddressOfTerm.f k x0 x1).bind fun y2 => (list_PartAddress.f k x0 x2).bind fun y3 => (mastref2_AddressOfPart.f k x0 x2).bind fun y4 => some (bif (bif (bif (seq y1.1 y2.1) then (seq y3.1 y4.1) else false) then (ieq y1.2 y2.2) else false) then (ieq y3.2 y4.2) else false)) (fun k => by simp only [mastlaw2_TermPlaces.f])
    (Ev.bind (termL x0 x1 h0 (by omega)) (Ev.bind (termR x0 x1 h0 (by omega)) (Ev.bind (placeL x0 x2 h0 hn) (Ev.bind (placeR x0 x2 h0 hn) (Ev.now fun _ => by rw [seq_self, seq_self, ieq_self, ieq_self]; rfl)))))

end Go.Proofs.YtdffbjbpolhliaaDoor.LTermPlaces
