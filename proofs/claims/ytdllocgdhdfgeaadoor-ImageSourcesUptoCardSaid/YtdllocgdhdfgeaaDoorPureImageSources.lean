/- The widths of an image are written as the reference writes them, for arguments of small bulk. Conditions: none. -/
import Derived.Test.YtdllocgdhdfgeaaDoorLImageSourcesOp
import Derived.Lib.ItoaLen
import Derived.Lib.SplitLaws
set_option linter.unusedVariables false
set_option linter.unusedSimpArgs false
namespace Go.Proofs.YtdllocgdhdfgeaaDoor.LImageSources
open Go Go.Proofs.YtdllocgdhdfgeaaDoor.Lift

theorem seq_empty (s : ByteArray) : seq s c_empty = s.data.toList.isEmpty := by
  unfold seq
  rw [ByteArray.toList_eq, ByteArray.toList_eq]
  cases h : s.data.toList <;> rfl
theorem mem_dw {α : Type} {p : α → Bool} : ∀ {l : List α} {x : α}, x ∈ l → p x = false → x ∈ l.dropWhile p
  | a :: l, x, h, hp => by
    rw [List.dropWhile_cons]
    split
    · rename_i ha
      rcases List.mem_cons.1 h with rfl | h
      · rw [hp] at ha; cases ha
      · exact mem_dw h hp
    · exact h
theorem dw_nil {α : Type} {p : α → Bool} : ∀ {l : List α}, (∀ x ∈ l, p x = true) → l.dropWhile p = []
  | [], _ => rfl
  | a :: l, h => by rw [List.dropWhile_cons, if_pos (h a (List.mem_cons_self ..))]; exact dw_nil fun x hx => h x (List.mem_cons_of_mem _ hx)
theorem trim_nil (l cs : List UInt8) : (Lib.trimS l cs).isEmpty = l.all (cs.contains ·) := by
  unfold Lib.trimS Lib.trimLeftS Lib.trimRightS
  cases h : l.all (cs.contains ·) with
  | true =>
    have h := List.all_eq_true.1 h
    rw [dw_nil (l := l.reverse) fun x hx => h x (List.mem_reverse.1 hx)]
    rfl
  | false =>
    obtain ⟨x, hx, hp⟩ : ∃ x ∈ l, cs.contains x = false := by
      rcases List.all_eq_false.1 h with ⟨x, hx, hp⟩
      exact ⟨x, hx, by simpa using hp⟩
    have h1 : x ∈ (l.reverse.dropWhile (cs.contains ·)).reverse := List.mem_reverse.2 (mem_dw (List.mem_reverse.2 hx) hp)
    have h2 := mem_dw h1 hp
    cases e : List.dropWhile (cs.contains ·) (l.reverse.dropWhile (cs.contains ·)).reverse with
    | nil => rw [e] at h2; cases h2
    | cons _ _ => rfl
theorem all_any {α : Type} (p : α → Bool) (r : List α) : (bif r.any fun c => !p c then false else true) = r.all p := by
  rw [List.all_eq_not_any_not]
  cases r.any fun c => !p c <;> rfl
/-! Paths. -/
def insP (c : UInt8) : Bool := (bif ile 97 (c.toNat : Int) then ile (c.toNat : Int) 122 else false) || (bif ile 48 (c.toNat : Int) then ile (c.toNat : Int) 57 else false) || ieq (c.toNat : Int) 45 || ieq (c.toNat : Int) 95 || ieq (c.toNat : Int) 46
def part (s : ByteArray) : Bool := bif (bif (bif (bif (seq s c_empty) then true else (ilt 40 (slen s))) then true else (seq s c__2e)) then true else (seq s c__2e_2e)) then false else s.data.toList.all insP
theorem partL_ok (s : ByteArray) : Ev (fun k => tree_isPart.f k s) (part s) := by
  unfold part
  cases h : (bif (bif (bif (seq s c_empty) then true else (ilt 40 (slen s))) then true else (seq s c__2e)) then true else (seq s c__2e_2e)) with
  | true => exact Ev.now fun k => by simp only [tree_isPart.f, h, cond_true]
  | false =>
    have hs : ilt 40 (slen s) = false := by
      cases e : ilt 40 (slen s) with
      | false => rfl
      | true => rw [e] at h; cases seq s c_empty <;> simp at h
    have hl : s.data.toList.length ≤ 40 := by
      rw [slen_l] at hs
      have := of_decide_eq_false hs
      omega
    have q := find_pure s.data.toList 0 (Nat.zero_le _) (fun k j => tree_isPart.l0 k s (j : Int)) (fun _ => some true) (fun c => !insP c) (fun _ => false) true
      (fun k j h => by
        simp only [tree_isPart.l0, slen_l, ilen _ _ h, cond_true, sat_l h, Option.bind_some, u0 (show j ≤ 4611686018427387904 by omega), tree_isSmall.f, tree_isDigit.f, insP]
        cases (bif ile 97 (s.data.toList[j].toNat : Int) then ile (s.data.toList[j].toNat : Int) 122 else false) <;> cases (bif ile 48 (s.data.toList[j].toNat : Int) then ile (s.data.toList[j].toNat : Int) 57 else false) <;> cases ieq (s.data.toList[j].toNat : Int) 45 <;> cases ieq (s.data.toList[j].toNat : Int) 95 <;> cases ieq (s.data.toList[j].toNat : Int) 46 <;> rfl)
      (fun k => by simp only [tree_isPart.l0, slen_l, ilen', cond_false]) (Ev.now fun _ => rfl)
    rw [fl_const, List.drop_zero, all_any] at q
    exact Ev.congr (fun k => by simp only [tree_isPart.f, h, cond_false]; rfl) q
theorem set_insP (c : UInt8) : c_abcdefghijklmnopqrst_c1516678.data.toList.contains c = insP c := by
  have h : ∀ n : Fin 256, c_abcdefghijklmnopqrst_c1516678.data.toList.contains (UInt8.ofNat n.val) = insP (UInt8.ofNat n.val) := by decide +kernel
  have := h ⟨c.toNat, c.toNat_lt⟩
  simpa using this
theorem partR_ok (s : ByteArray) (hs : s.size ≤ 2000000) : mastref2_IsPart.f s = some (part s) := by
  have hc : strings_Trim.f s c_abcdefghijklmnopqrst_c1516678 = some ⟨(Lib.trimS s.data.toList c_abcdefghijklmnopqrst_c1516678.data.toList).toArray⟩ := by
    unfold strings_Trim.f
    rw [if_pos ⟨by omega, by decide, by decide +kernel⟩]
  have e : (bif (bif (bif (!seq s c_empty) then (ile (slen s) 40) else false) then (!seq s c__2e) else false) then (!seq s c__2e_2e) else false) = !(bif (bif (bif (seq s c_empty) then true else (ilt 40 (slen s))) then true else (seq s c__2e)) then true else (seq s c__2e_2e)) := by
    have : ile (slen s) 40 = !ilt 40 (slen s) := by rw [ile_d, ilt_d]; by_cases c : slen s ≤ 40 <;> simp [c] <;> omega
    rw [this]
    cases seq s c_empty <;> cases ilt 40 (slen s) <;> cases seq s c__2e <;> cases seq s c__2e_2e <;> rfl
  unfold mastref2_IsPart.f part
  rw [e, hc]
  cases (bif (bif (bif (seq s c_empty) then true else (ilt 40 (slen s))) then true else (seq s c__2e)) then true else (seq s c__2e_2e)) with
  | true => rfl
  | false =>
    simp only [Bool.not_false, cond_true, cond_false, Option.bind_some]
    rw [seq_empty]
    show some (Lib.trimS s.data.toList _).isEmpty = _
    rw [trim_nil, show (fun x => c_abcdefghijklmnopqrst_c1516678.data.toList.contains x) = insP from funext set_insP]

theorem split_mem (sep : ByteArray) : ∀ (k : Nat) (s x : ByteArray), x ∈ Lib.splitB sep 0 k s → x.size ≤ s.size
  | 0, s, x, h => by
    have : x = s := by simpa [Lib.splitB] using h
    rw [this]; exact Nat.le_refl _
  | k + 1, s, x, h => by
    unfold Lib.splitB at h
    split at h
    · have : x = s := by simpa using h
      rw [this]; exact Nat.le_refl _
    · rcases List.mem_cons.1 h with rfl | h
      · rw [ByteArray.size_extract]; omega
      · have := split_mem sep k _ x h
        rw [ByteArray.size_extract] at this; omega
def parts (s : ByteArray) : List ByteArray := Lib.splitB c__2f 0 (Lib.countB s c__2f) s
def path (s : ByteArray) : Bool := ile (slen s) 200 && (parts s).all part
theorem split_ok (s : ByteArray) (hs : s.size ≤ 2000000) : strings_Split.f s c__2f = some (parts s) := by
  unfold strings_Split.f splitF
  rw [if_pos ⟨by omega, by decide⟩]
  rfl
theorem parts_len (s : ByteArray) (hs : s.size ≤ 2000000) : (parts s).length ≤ 2000001 := by
  have := Lib.splitB_length_le c__2f 0 (Lib.countB s c__2f) s
  have := Lib.countB_le c__2f (by decide) s.size s (Nat.le_refl _)
  unfold parts; omega
theorem pathL_ok (s : ByteArray) (hs : s.size ≤ 2000000) : Ev (fun k => tree_isPath.f k s) (path s) := by
  unfold path
  have hl := parts_len s hs
  by_cases h : slen s ≤ 200
  · rw [ile_t h, Bool.true_and]
    have q := find_loop (parts s) 0 (Nat.zero_le _) (fun k j => tree_isPath.l0 k (parts s) (llen (parts s)) (j : Int)) (fun k s => tree_isPart.f k s)
      (fun k j y => bif (!y) then some false else tree_isPath.l0 k (parts s) (llen (parts s)) ((j + 1 : Nat) : Int)) (fun _ => some true) (fun c => !part c) (fun _ => false) true
      (fun k j h => by simp only [tree_isPath.l0, llen_eq, ilen _ _ h, cond_true, lat_lt h, Option.bind_some, u0 (show j ≤ 4611686018427387904 by omega)])
      (fun k => by simp only [tree_isPath.l0, llen_eq, ilen', cond_false]) (Ev.now fun _ => rfl)
      (fun j h => ⟨_, partL_ok _, fun k => rfl⟩)
    rw [fl_const, List.drop_zero, all_any] at q
    exact Ev.congr (fun k => by simp only [tree_isPath.f, ilt_f h, cond_false, split_ok s hs, Option.bind_some]; rfl) q
  · rw [ile_f (by omega), Bool.false_and]
    exact Ev.now fun k => by simp only [tree_isPath.f, ilt_t (show 200 < slen s by omega), cond_true]
theorem pathR_ok (s : ByteArray) (hs : s.size ≤ 2000000) : Ev (fun k => mastref2_IsPath.f k s) (path s) := by
  unfold path
  have hl := parts_len s hs
  by_cases h : slen s ≤ 200
  · rw [ile_t h, Bool.true_and]
    have q := find_pure (parts s) 0 (Nat.zero_le _) (fun k j => slices_IndexFunc_string_string_at_mastref2_IsPath_c1.l0 k (parts s) (llen (parts s)) (j : Int)) (fun _ => some (-1)) (fun c => !part c) (fun j => (j : Int)) (-1)
      (fun k j h => by
        have := split_mem c__2f _ s (parts s)[j] (List.getElem_mem h)
        simp only [slices_IndexFunc_string_string_at_mastref2_IsPath_c1.l0, llen_eq, ilen _ _ h, cond_true, lat_lt h, Option.bind_some, u0 (show j ≤ 4611686018427387904 by omega), mastref2_IsPath_c1.f, partR_ok (parts s)[j] (by omega)])
      (fun k => by simp only [slices_IndexFunc_string_string_at_mastref2_IsPath_c1.l0, llen_eq, ilen', cond_false]) (Ev.now fun _ => rfl)
    rw [List.drop_zero] at q
    have hi : Ev (fun k => slices_IndexFunc_string_string_at_mastref2_IsPath_c1.f k (parts s)) _ := Ev.congr (fun k => by simp only [slices_IndexFunc_string_string_at_mastref2_IsPath_c1.f]; rfl) q
    have hc : Ev (fun k => slices_ContainsFunc_string_string_at_mastref2_IsPath_c1.f k (parts s)) ((parts s).any fun c => !part c) := Ev.congr (g := fun k => (slices_IndexFunc_string_string_at_mastref2_IsPath_c1.f k (parts s)).bind fun y1 => some (ile 0 y1)) (fun k => by simp only [slices_ContainsFunc_string_string_at_mastref2_IsPath_c1.f]) (Ev.bind hi (Ev.now fun _ => by rw [fl_any]))
    refine Ev.congr (g := fun k => (slices_ContainsFunc_string_string_at_mastref2_IsPath_c1.f k (parts s)).bind fun y2 => some (!y2)) (fun k => by simp only [mastref2_IsPath.f, ile_t h, cond_true, split_ok s hs, Option.bind_some]) (Ev.bind hc (Ev.now fun _ => ?_))
    rw [List.all_eq_not_any_not]
  · rw [ile_f (by omega), Bool.false_and]
    exact Ev.now fun k => by simp only [mastref2_IsPath.f, ile_f (show 200 < slen s by omega), cond_false]
theorem scat_ok {a b : ByteArray} (h : a.size + b.size ≤ 4611686018427387904) : scat a b = some (a ++ b) := by
  unfold scat; rw [if_pos (by omega)]

theorem aPath_ok (s : ByteArray) (hs : s.size ≤ 2000000) : Ev (fun k => asset_isPath.f k s) (path s) := by
  have h : Ev (fun k => tree_CheckPath.f k s) (bif path s then 0 else 3) :=
    Ev.congr (g := fun k => (tree_isPath.f k s).bind fun y1 => bif !y1 then some 3 else some 0) (fun k => by simp only [tree_CheckPath.f]) (Ev.bind (pathL_ok s hs) (Ev.now fun _ => by cases path s <;> rfl))
  exact Ev.congr (g := fun k => (tree_CheckPath.f k s).bind fun y1 => some (ieq y1 0)) (fun k => by simp only [asset_isPath.f]) (Ev.bind h (Ev.now fun _ => by cases path s <;> rfl))

def hp (a : ByteArray) : Bool := bif ile 1 (slen a) then seq (a.extract 0 1) c__2f else false
theorem hp0_ok (a : ByteArray) : internal_stringslite_HasPrefix.f a c__2f = some (hp a) := by
  unfold internal_stringslite_HasPrefix.f hp
  rw [show slen c__2f = 1 from rfl]
  by_cases h : (1 : Int) ≤ slen a
  · rw [ile_t h, cond_true, cond_true]
    unfold ssub
    have : (1 : Int) ≤ a.size := h
    rw [if_pos ⟨by omega, by omega, this⟩]; rfl
  · rw [ile_f (by omega)]; rfl
theorem hp_ok (a : ByteArray) : strings_HasPrefix.f a c__2f = some (hp a) := by
  unfold strings_HasPrefix.f
  rw [hp0_ok]; rfl
theorem hp_size {a : ByteArray} (h : hp a = true) : 1 ≤ a.size := by
  unfold hp at h
  by_cases c : (1 : Int) ≤ slen a
  · have : (1 : Int) ≤ a.size := c
    omega
  · rw [ile_f (by omega)] at h; exact nomatch h
theorem cut_ok {a : ByteArray} (h : hp a = true) : ssub a 1 (slen a) = some (a.extract 1 a.size) := by
  have := hp_size h
  unfold ssub
  rw [show slen a = (a.size : Int) from rfl, if_pos ⟨by omega, by omega, by omega⟩]; rfl
theorem trim_ok {a : ByteArray} (h : hp a = true) : strings_TrimPrefix.f a c__2f = some (a.extract 1 a.size) := by
  unfold strings_TrimPrefix.f internal_stringslite_TrimPrefix.f
  rw [hp0_ok, h]
  simp only [Option.bind_some, cond_true]
  rw [show slen c__2f = 1 from rfl, cut_ok h]; rfl

/-! The text of a width. -/
def it (n : Int) : ByteArray := ⟨(Lib.itoa n).toArray⟩
theorem itoa_ok (n : Int) (h : -9223372036854775808 ≤ n ∧ n ≤ 9223372036854775807) : strconv_Itoa.f n = some (it n) := by
  unfold strconv_Itoa.f; rw [if_pos h]; rfl
theorem it_len (n : Int) (h : -9223372036854775808 ≤ n ∧ n ≤ 9223372036854775807) : (it n).size ≤ 21 := by
  have := Lib.itoa_length_le n h.1 h.2
  show (Lib.itoa n).toArray.size ≤ 21
  simpa using this
def src (a : ByteArray) (n : Int) : ByteArray := a ++ c__3fw_3d ++ it n ++ c__20 ++ it n ++ c_w
theorem src_all (a : ByteArray) (n : Int) (ha : a.size ≤ 1048576) (h : -9223372036854775808 ≤ n ∧ n ≤ 9223372036854775807) :
    (src a n).size ≤ 1048676 ∧ scat a c__3fw_3d = some (a ++ c__3fw_3d) ∧ scat (a ++ c__3fw_3d) (it n) = some (a ++ c__3fw_3d ++ it n) ∧ scat (a ++ c__3fw_3d ++ it n) c__20 = some (a ++ c__3fw_3d ++ it n ++ c__20) ∧
    scat (a ++ c__3fw_3d ++ it n ++ c__20) (it n) = some (a ++ c__3fw_3d ++ it n ++ c__20 ++ it n) ∧ scat (a ++ c__3fw_3d ++ it n ++ c__20 ++ it n) c_w = some (src a n) := by
  have hi := it_len n h
  have c1 : c__3fw_3d.size = 3 := rfl
  have c2 : c__20.size = 1 := rfl
  have c3 : c_w.size = 1 := rfl
  refine ⟨?_, scat_ok ?_, scat_ok ?_, scat_ok ?_, scat_ok ?_, scat_ok ?_⟩ <;> (try simp only [src, ByteArray.size_append]) <;> omega
theorem source_ok (a : ByteArray) (n : Int) (ha : a.size ≤ 1048576) (h : -9223372036854775808 ≤ n ∧ n ≤ 9223372036854775807) : asset_source.f a n = some (src a n) := by
  obtain ⟨_, h1, h2, h3, h4, h5⟩ := src_all a n ha h
  simp only [asset_source.f, itoa_ok n h, Option.bind_some, h1, h2, h3, h4, h5]
theorem add_ok (a : ByteArray) (n : Int) (l : List ByteArray) (ha : a.size ≤ 1048576) (h : -9223372036854775808 ≤ n ∧ n ≤ 9223372036854775807) (hl : l.length ≤ 100) : mastref2_SourceSetOf_c1.f n l a = some ((), l ++ [src a n], a, ()) := by
  obtain ⟨_, h1, h2, h3, h4, h5⟩ := src_all a n ha h
  have hap : lapp 16 l [src a n] = some (l ++ [src a n]) := lapp_ok (by simp only [List.length_singleton]; omega) (by simp only [List.length_singleton]; omega)
  simp only [mastref2_SourceSetOf_c1.f, itoa_ok n h, Option.bind_some, h1, h2, h3, h4, h5, hap]

/-! The widths. -/
def ord : Option Int → List Int → Bool
  | _, [] => true
  | p, n :: r => (match p with | none => true | some y => !ile n y) && ord (some n) r
def lst (w : Int) : Int → List Int → Int
  | last, [] => last
  | last, n :: r => bif ile n w then lst w n r else lst w last r
def col (a : ByteArray) (w : Int) (l : List Int) : List ByteArray := (l.filter (fun n => ile n w)).map (src a)
theorem col_cons (a : ByteArray) (w n : Int) (l : List Int) : col a w (n :: l) = bif ile n w then src a n :: col a w l else col a w l := by
  unfold col
  rw [List.filter_cons]
  cases ile n w <;> rfl
theorem col_len (a : ByteArray) (w : Int) (l : List Int) : (col a w l).length ≤ l.length := by
  unfold col
  rw [List.length_map]; exact List.length_filter_le _ _
theorem lst_iff (w : Int) : ∀ (l : List Int) (q last : Int), last ≤ q → ord (some q) l = true → (lst w last l = w ↔ last = w ∨ w ∈ l)
  | [], q, last, h, ho => by simp [lst]
  | n :: r, q, last, h, ho => by
    simp only [ord, Bool.and_eq_true, Bool.not_eq_true'] at ho
    have hq : q < n := by
      have := of_decide_eq_false (show decide (n ≤ q) = false from ho.1)
      omega
    simp only [lst]
    by_cases hn : n ≤ w
    · rw [ile_t hn, cond_true, lst_iff w r n n (Int.le_refl _) ho.2]
      simp only [List.mem_cons]
      constructor
      · rintro (h1 | h1)
        · exact .inr (.inl h1.symm)
        · exact .inr (.inr h1)
      · rintro (h1 | h1 | h1)
        · omega
        · exact .inl h1.symm
        · exact .inr h1
    · rw [ile_f (by omega), cond_false, lst_iff w r n last (by omega) ho.2]
      simp only [List.mem_cons]
      constructor
      · rintro (h1 | h1)
        · exact .inl h1
        · exact .inr (.inr h1)
      · rintro (h1 | h1 | h1)
        · exact .inl h1
        · omega
        · exact .inr h1
theorem ord_none : ∀ (l : List Int), (∀ n ∈ l, 1 ≤ n) → ord none l = ord (some 0) l
  | [], _ => rfl
  | n :: r, h => by
    have := h n (List.mem_cons_self ..)
    simp only [ord, ile_f (show (0 : Int) < n by omega)]
    rfl
def prev (l : List Int) : Nat → Option Int
  | 0 => none
  | j + 1 => l[j]?
theorem prev_succ {l : List Int} {j : Nat} (h : j < l.length) : prev l (j + 1) = some l[j] := List.getElem?_eq_getElem h

def jn (l : List ByteArray) (sep : ByteArray) : ByteArray := ⟨(Lib.join (l.map (·.data.toList)) sep.data.toList).toArray⟩
theorem tail_len (d : List UInt8) (m : Nat) : ∀ l : List ByteArray, (∀ x ∈ l, x.size ≤ m) → (Lib.joinTail d (l.map (·.data.toList))).length ≤ l.length * (m + d.length)
  | [], _ => by simp [Lib.joinTail]
  | a :: r, h => by
    have h1 := tail_len d m r fun x hx => h x (List.mem_cons_of_mem _ hx)
    have h2 := h a (List.mem_cons_self ..)
    rw [size_l] at h2
    simp only [Lib.joinTail, List.map_cons, List.flatten_cons, List.length_append, List.length_cons, Nat.succ_mul] at h1 ⊢
    omega
theorem join_ok (l : List ByteArray) (hl : l.length ≤ 100) (h : ∀ x ∈ l, x.size ≤ 1048676) : strings_Join.f l c__2c_20 = some (jn l c__2c_20) := by
  unfold strings_Join.f joinF
  have : (Lib.join (l.map (·.data.toList)) c__2c_20.data.toList).length ≤ 140737488355328 := by
    cases l with
    | nil => simp [Lib.join_nil]
    | cons a r =>
      rw [List.map_cons, Lib.join_cons, List.length_append]
      have h1 := tail_len c__2c_20.data.toList 1048676 r fun x hx => h x (List.mem_cons_of_mem _ hx)
      have h2 := h a (List.mem_cons_self ..)
      rw [size_l] at h2
      have h3 : c__2c_20.data.toList.length = 2 := rfl
      rw [h3] at h1
      have h4 : r.length ≤ 100 := by simp only [List.length_cons] at hl; omega
      have h5 : r.length * (1048676 + 2) ≤ 100 * (1048676 + 2) := Nat.mul_le_mul_right _ h4
      omega
  rw [if_pos ⟨this, by omega⟩]; rfl
/-- The whole. -/
def fin (a : ByteArray) (w : Int) (l : List Int) : ByteArray × Int := bif !ord none l then (c_empty, 5) else (jn (col a w l ++ (bif l.contains w then [] else [src a w])) c__2c_20, 0)
theorem fin_ok (a : ByteArray) (w : Int) (l : List Int) (ha : a.size ≤ 1048576) (hw : 1 ≤ w ∧ w ≤ 10000) (hl : l.length ≤ 12) (hr : ∀ n ∈ l, 1 ≤ n ∧ n ≤ 10000) : strings_Join.f (col a w l ++ (bif l.contains w then [] else [src a w])) c__2c_20 = some (jn (col a w l ++ (bif l.contains w then [] else [src a w])) c__2c_20) := by
  have hc := col_len a w l
  refine join_ok _ ?_ fun x hx => ?_
  · rw [List.length_append]
    cases l.contains w <;> simp <;> omega
  · rcases List.mem_append.1 hx with hx | hx
    · unfold col at hx
      obtain ⟨n, hn, rfl⟩ := List.mem_map.1 hx
      have := hr n (List.mem_filter.1 hn).1
      exact (src_all a n ha (by omega)).1
    · cases h : l.contains w with
      | true => rw [h] at hx; exact nomatch hx
      | false =>
        rw [h] at hx
        have : x = src a w := by simpa using hx
        rw [this]
        exact (src_all a w ha (by omega)).1

theorem l1L (a : ByteArray) (w : Int) (l : List Int) (ha : a.size ≤ 1048576) (hw : 1 ≤ w ∧ w ≤ 10000) (hl : l.length ≤ 12) (hr : ∀ n ∈ l, 1 ≤ n ∧ n ≤ 10000) : ∀ (d j : Nat) (acc : List ByteArray) (last : Int), l.length - j ≤ d → j ≤ l.length → acc.length ≤ j →
    (ord (prev l j) (l.drop j) = true → acc ++ col a w (l.drop j) = col a w l ∧ (lst w last (l.drop j) = w ↔ w ∈ l)) → ord none l = ord (prev l j) (l.drop j) →
    Ev (fun k => asset_SourceSet.l1 k a w l acc last l (llen l) (j : Int)) (fin a w l) := by
  intro d
  have last_ : ∀ (j : Nat) (acc : List ByteArray) (last : Int), l.length ≤ j → (ord (prev l j) (l.drop j) = true → acc ++ col a w (l.drop j) = col a w l ∧ (lst w last (l.drop j) = w ↔ w ∈ l)) → ord none l = ord (prev l j) (l.drop j) → Ev (fun k => asset_SourceSet.l1 k a w l acc last l (llen l) (j : Int)) (fin a w l) := fun j acc last hj hi ho => by
    rw [List.drop_eq_nil_of_le hj] at hi ho
    have ho : ord none l = true := ho.trans (by cases prev l j <;> rfl)
    obtain ⟨i1, i2⟩ := hi (by cases prev l j <;> rfl)
    have i1 : acc = col a w l := by simpa [col] using i1
    have i2 : last = w ↔ w ∈ l := i2
    subst i1
    have hf := fin_ok a w l ha hw hl hr
    unfold fin
    rw [ho, Bool.not_true, cond_false]
    have l3 : ∀ o, strings_Join.f o c__2c_20 = some (jn o c__2c_20) → Ev (fun k => asset_SourceSet.l3 k o) (jn o c__2c_20, 0) := fun o h => Ev.step (g := fun _ => some (jn o c__2c_20, 0)) (fun k => by simp only [asset_SourceSet.l3, h, Option.bind_some]) (Ev.now fun _ => rfl)
    by_cases hm : w ∈ l
    · have hc : l.contains w = true := by simpa using hm
      rw [hc, cond_true, List.append_nil] at hf ⊢
      refine Ev.step (fun k => ?_) (l3 _ hf)
      simp only [asset_SourceSet.l1, llen_eq, ilt_f (show (l.length : Int) ≤ (j : Int) by omega), cond_false, ieq_t (i2.2 hm), Bool.not_true]
    · have hc : l.contains w = false := by simpa using hm
      rw [hc, cond_false] at hf ⊢
      have hcl := col_len a w l
      have hap : lapp 16 (col a w l) [src a w] = some (col a w l ++ [src a w]) := lapp_ok (by simp only [List.length_singleton]; omega) (by simp only [List.length_singleton]; omega)
      refine Ev.step (fun k => ?_) (l3 _ hf)
      simp only [asset_SourceSet.l1, llen_eq, ilt_f (show (l.length : Int) ≤ (j : Int) by omega), cond_false, ieq_f (fun e => hm (i2.1 e)), Bool.not_false, cond_true, source_ok a w ha (by omega), Option.bind_some, hap]
  induction d with
  | zero => intro j acc last hd hj hac hi ho; exact last_ j acc last (by omega) hi ho
  | succ d ih =>
    intro j acc last hd hj hac hi ho
    rcases Nat.lt_or_ge j l.length with hlt | hge
    · rw [List.drop_eq_getElem_cons hlt] at hi ho
      have hn := hr _ (List.getElem_mem hlt)
      have l2 : (match prev l j with | none => true | some y => !ile l[j] y) = true → Ev (fun k => asset_SourceSet.l2 k a w l acc last l[j] l (llen l) (j : Int)) (fin a w l) := fun hp => by
        have ho2 : ord none l = ord (prev l (j + 1)) (l.drop (j + 1)) := by rw [ho, prev_succ hlt]; simp only [ord, hp, Bool.true_and]
        cases hle : ile l[j] w with
        | true =>
          have hap : lapp 16 acc [src a l[j]] = some (acc ++ [src a l[j]]) := lapp_ok (by simp only [List.length_singleton]; omega) (by simp only [List.length_singleton]; omega)
          have hr2 := ih (j + 1) (acc ++ [src a l[j]]) l[j] (by omega) hlt (by simp only [List.length_append, List.length_singleton]; omega) (fun q => by
            obtain ⟨i1, i2⟩ := hi (by rw [← ho, ho2]; exact q)
            rw [col_cons, hle, cond_true] at i1
            simp only [lst, hle, cond_true] at i2
            exact ⟨by rw [List.append_assoc]; exact i1, i2⟩) ho2
          refine Ev.step (fun k => ?_) hr2
          simp only [asset_SourceSet.l2, hle, cond_true, source_ok a l[j] ha (by omega), Option.bind_some, hap, u0 (show j ≤ 4611686018427387904 by omega)]
        | false =>
          have hr2 := ih (j + 1) acc last (by omega) hlt (by omega) (fun q => by
            obtain ⟨i1, i2⟩ := hi (by rw [← ho, ho2]; exact q)
            rw [col_cons, hle, cond_false] at i1
            simp only [lst, hle, cond_false] at i2
            exact ⟨i1, i2⟩) ho2
          refine Ev.step (fun k => ?_) hr2
          simp only [asset_SourceSet.l2, hle, cond_false, u0 (show j ≤ 4611686018427387904 by omega)]
      cases j with
      | zero =>
        refine Ev.step (fun k => ?_) (l2 rfl)
        simp only [asset_SourceSet.l1, llen_eq, ilt_t (show ((0 : Nat) : Int) < (l.length : Int) by omega), cond_true, lat_lt hlt, Option.bind_some, ilt_f (show ((0 : Nat) : Int) ≤ 0 by omega), cond_false]
      | succ i =>
        have hi' : i < l.length := by omega
        have wd : wsub .i64 ((i + 1 : Nat) : Int) 1 = (i : Int) := by rw [wsub64 (by omega) (by omega)]; omega
        rw [prev_succ hi'] at l2 ho
        cases hle : ile l[i + 1] l[i] with
        | false =>
          refine Ev.step (fun k => ?_) (l2 (by simp only [hle]; rfl))
          simp only [asset_SourceSet.l1, llen_eq, ilt_t (show ((i + 1 : Nat) : Int) < (l.length : Int) by omega), cond_true, lat_lt hlt, Option.bind_some, ilt_t (show (0 : Int) < ((i + 1 : Nat) : Int) by omega), wd, lat_lt hi', hle, cond_false]
        | true =>
          have : ord none l = false := by rw [ho]; simp only [ord, hle]; rfl
          have ef : fin a w l = (c_empty, 5) := by unfold fin; rw [this]; rfl
          rw [ef]
          refine Ev.step (g := fun _ => some (c_empty, 5)) (fun k => ?_) (Ev.now fun _ => rfl)
          simp only [asset_SourceSet.l1, llen_eq, ilt_t (show ((i + 1 : Nat) : Int) < (l.length : Int) by omega), cond_true, lat_lt hlt, Option.bind_some, ilt_t (show (0 : Int) < ((i + 1 : Nat) : Int) by omega), wd, lat_lt hi', hle]
    · exact last_ j acc last hge hi ho

def bad (n : Int) : Bool := bif ilt n 1 then true else ilt 10000 n
theorem bad_f {n : Int} (h : bad n = false) : 1 ≤ n ∧ n ≤ 10000 := by
  unfold bad at h
  by_cases c : n < 1
  · rw [ilt_t c] at h; exact nomatch h
  · rw [ilt_f (by omega), cond_false] at h
    have := of_decide_eq_false h
    omega
/-- The widths, looked at. -/
def all_ (a : ByteArray) (w : Int) (l : List Int) : ByteArray × Int := bif bad w || l.any bad then (c_empty, 2) else fin a w l

theorem setL (a : ByteArray) (w : Int) (l : List Int) (ha : a.size ≤ 1048576) (hw : 1 ≤ w ∧ w ≤ 10000) (hl : l.length ≤ 12) : Ev (fun k => asset_SourceSet.l0 k a w l l (llen l) 0) (bif l.any bad then (c_empty, 2) else fin a w l) := by
  cases hb : l.any bad with
  | true =>
    have q := find_pure l 0 (Nat.zero_le _) (fun k j => asset_SourceSet.l0 k a w l l (llen l) (j : Int)) (fun k => asset_SourceSet.l1 k a w l [] 0 l (llen l) 0) bad (fun _ => (c_empty, 2)) (c_empty, 2)
      (fun k j h => by
        simp only [asset_SourceSet.l0, llen_eq, Go.Proofs.YtdllocgdhdfgeaaDoor.Lift.ilen _ _ h, cond_true, lat_lt h, Option.bind_some, u0 (show j ≤ 4611686018427387904 by omega)]; rfl)
    have q2 : Ev (fun k => asset_SourceSet.l0 k a w l l (llen l) 0) (c_empty, 2) := by
      -- the first bad one ends it
      obtain ⟨n, hn, hq⟩ := List.any_eq_true.1 hb
      have go : ∀ (d j : Nat), l.length - j ≤ d → (l.drop j).any bad = true → Ev (fun k => asset_SourceSet.l0 k a w l l (llen l) (j : Int)) (c_empty, 2) := by
        intro d
        induction d with
        | zero => intro j hd hj; rw [List.drop_eq_nil_of_le (by omega)] at hj; exact nomatch hj
        | succ d ih =>
          intro j hd hj
          rcases Nat.lt_or_ge j l.length with hlt | hge
          · rw [List.drop_eq_getElem_cons hlt, List.any_cons] at hj
            cases hbj : bad l[j] with
            | true =>
              refine Ev.step (g := fun _ => some (c_empty, 2)) (fun k => ?_) (Ev.now fun _ => rfl)
              simp only [asset_SourceSet.l0, llen_eq, Go.Proofs.YtdllocgdhdfgeaaDoor.Lift.ilen _ _ hlt, cond_true, lat_lt hlt, Option.bind_some]
              rw [show (bif ilt l[j] 1 then true else ilt 10000 l[j]) = bad l[j] from rfl, hbj]; rfl
            | false =>
              rw [hbj, Bool.false_or] at hj
              refine Ev.step (fun k => ?_) (ih (j + 1) (by omega) hj)
              simp only [asset_SourceSet.l0, llen_eq, Go.Proofs.YtdllocgdhdfgeaaDoor.Lift.ilen _ _ hlt, cond_true, lat_lt hlt, Option.bind_some, u0 (show j ≤ 4611686018427387904 by omega)]
              rw [show (bif ilt l[j] 1 then true else ilt 10000 l[j]) = bad l[j] from rfl, hbj]; rfl
          · rw [List.drop_eq_nil_of_le hge] at hj; exact nomatch hj
      exact go l.length 0 (by omega) (by rw [List.drop_zero]; exact hb)
    exact q2
  | false =>
    have hr : ∀ n ∈ l, 1 ≤ n ∧ n ≤ 10000 := fun n hn => bad_f (any_f hb n hn)
    have h1 := l1L a w l ha hw hl hr l.length 0 [] 0 (by omega) (by omega) (by simp) (fun ho => by
      rw [List.drop_zero] at ho ⊢
      have ho' : ord (some 0) l = true := by rw [← ord_none l fun n hn => (hr n hn).1]; exact ho
      refine ⟨rfl, ?_⟩
      rw [lst_iff w l 0 0 (Int.le_refl _) ho']
      constructor
      · rintro (h | h)
        · omega
        · exact h
      · exact .inr) (by rw [List.drop_zero]; rfl)
    have q := find_pure l 0 (Nat.zero_le _) (fun k j => asset_SourceSet.l0 k a w l l (llen l) (j : Int)) (fun k => asset_SourceSet.l1 k a w l [] 0 l (llen l) 0) bad (fun _ => (c_empty, 2)) (fin a w l)
      (fun k j h => by
        simp only [asset_SourceSet.l0, llen_eq, Go.Proofs.YtdllocgdhdfgeaaDoor.Lift.ilen _ _ h, cond_true, lat_lt h, Option.bind_some, u0 (show j ≤ 4611686018427387904 by omega)]; rfl)
      (fun k => by simp only [asset_SourceSet.l0, llen_eq, Go.Proofs.YtdllocgdhdfgeaaDoor.Lift.ilen', cond_false]) h1
    rw [fl_const, List.drop_zero, hb] at q
    exact q

theorem l2R (a : ByteArray) (w : Int) (l : List Int) (ha : a.size ≤ 1048576) (hw : 1 ≤ w ∧ w ≤ 10000) (hl : l.length ≤ 12) (hr : ∀ n ∈ l, 1 ≤ n ∧ n ≤ 10000) : ∀ (d j : Nat) (acc : List ByteArray), l.length - j ≤ d → j ≤ l.length → acc.length ≤ j → acc ++ col a w (l.drop j) = col a w l →
    Ev (fun k => mastref2_SourceSetOf.l2 k w l a acc l (llen l) (j : Int)) (jn (col a w l ++ (bif l.contains w then [] else [src a w])) c__2c_20, 0) := by
  intro d
  have last_ : ∀ (j : Nat) (acc : List ByteArray), l.length ≤ j → acc ++ col a w (l.drop j) = col a w l → Ev (fun k => mastref2_SourceSetOf.l2 k w l a acc l (llen l) (j : Int)) (jn (col a w l ++ (bif l.contains w then [] else [src a w])) c__2c_20, 0) := fun j acc hj hi => by
    rw [List.drop_eq_nil_of_le hj] at hi
    have i1 : acc = col a w l := by simpa [col] using hi
    subst i1
    have hf := fin_ok a w l ha hw hl hr
    have hcl := col_len a w l
    have l3 : ∀ o, strings_Join.f o c__2c_20 = some (jn o c__2c_20) → Ev (fun k => mastref2_SourceSetOf.l3 k o) (jn o c__2c_20, 0) := fun o h => Ev.step (g := fun _ => some (jn o c__2c_20, 0)) (fun k => by simp only [mastref2_SourceSetOf.l3, h, Option.bind_some]) (Ev.now fun _ => rfl)
    have hi := find_pure l 0 (Nat.zero_le _) (fun k j => slices_Index_int_int.l0 k l w (llen l) (j : Int)) (fun _ => some (-1)) (fun n => ieq w n) (fun j => (j : Int)) (-1)
      (fun k j h => by simp only [slices_Index_int_int.l0, llen_eq, Go.Proofs.YtdllocgdhdfgeaaDoor.Lift.ilen _ _ h, cond_true, lat_lt h, Option.bind_some, u0 (show j ≤ 4611686018427387904 by omega)])
      (fun k => by simp only [slices_Index_int_int.l0, llen_eq, Go.Proofs.YtdllocgdhdfgeaaDoor.Lift.ilen', cond_false]) (Ev.now fun _ => rfl)
    rw [List.drop_zero] at hi
    have hcon : Ev (fun k => slices_Contains_int_int.f k l w) (l.contains w) := by
      have e : l.contains w = l.any fun n => ieq w n := by
        rw [List.contains_eq_any_beq]; rfl
      rw [e]
      exact Ev.congr (g := fun k => (slices_Index_int_int.l0 k l w (llen l) 0).bind fun y1 => some (ile 0 y1)) (fun k => by simp only [slices_Contains_int_int.f, slices_Index_int_int.f]) (Ev.bind hi (Ev.now fun _ => by rw [fl_any]))
    refine Ev.step (fun k => by simp only [mastref2_SourceSetOf.l2, llen_eq, ilt_f (show (l.length : Int) ≤ (j : Int) by omega), cond_false]; rfl) (Ev.bind hcon ?_)
    cases hc : l.contains w with
    | true =>
      rw [hc, cond_true, List.append_nil] at hf
      simp only [Bool.not_true, cond_false, cond_true, List.append_nil]
      exact l3 _ hf
    | false =>
      rw [hc, cond_false] at hf
      simp only [Bool.not_false, cond_false, cond_true, add_ok a w (col a w l) ha (by omega) (by omega), Option.bind_some]
      exact l3 _ hf
  induction d with
  | zero => intro j acc hd hj hac hi; exact last_ j acc (by omega) hi
  | succ d ih =>
    intro j acc hd hj hac hi
    rcases Nat.lt_or_ge j l.length with hlt | hge
    · rw [List.drop_eq_getElem_cons hlt, col_cons] at hi
      have hn := hr _ (List.getElem_mem hlt)
      cases hle : ile l[j] w with
      | true =>
        rw [hle, cond_true] at hi
        refine Ev.step (fun k => ?_) (ih (j + 1) (acc ++ [src a l[j]]) (by omega) hlt (by simp only [List.length_append, List.length_singleton]; omega) (by rw [List.append_assoc]; exact hi))
        simp only [mastref2_SourceSetOf.l2, llen_eq, Go.Proofs.YtdllocgdhdfgeaaDoor.Lift.ilen _ _ hlt, cond_true, lat_lt hlt, Option.bind_some, hle, add_ok a l[j] acc ha (by omega) (by omega), u0 (show j ≤ 4611686018427387904 by omega)]
      | false =>
        rw [hle, cond_false] at hi
        refine Ev.step (fun k => ?_) (ih (j + 1) acc (by omega) hlt (by omega) hi)
        simp only [mastref2_SourceSetOf.l2, llen_eq, Go.Proofs.YtdllocgdhdfgeaaDoor.Lift.ilen _ _ hlt, cond_true, lat_lt hlt, Option.bind_some, hle, cond_false, u0 (show j ≤ 4611686018427387904 by omega)]
    · exact last_ j acc hge hi

theorem l1R (a : ByteArray) (w : Int) (l : List Int) (ha : a.size ≤ 1048576) (hw : 1 ≤ w ∧ w ≤ 10000) (hl : l.length ≤ 12) (hr : ∀ n ∈ l, 1 ≤ n ∧ n ≤ 10000) : ∀ (d j : Nat), l.length - j ≤ d → j ≤ l.length → ord none l = ord (prev l j) (l.drop j) →
    Ev (fun k => mastref2_SourceSetOf.l1 k w l a l (llen l) (j : Int)) (fin a w l) := by
  intro d
  have last_ : ∀ j : Nat, l.length ≤ j → ord none l = ord (prev l j) (l.drop j) → Ev (fun k => mastref2_SourceSetOf.l1 k w l a l (llen l) (j : Int)) (fin a w l) := fun j hj ho => by
    rw [List.drop_eq_nil_of_le hj] at ho
    have ho : ord none l = true := ho.trans (by cases prev l j <;> rfl)
    unfold fin
    rw [ho, Bool.not_true, cond_false]
    refine Ev.step (fun k => ?_) (l2R a w l ha hw hl hr l.length 0 [] (by omega) (by omega) (by simp) rfl)
    simp only [mastref2_SourceSetOf.l1, llen_eq, ilt_f (show (l.length : Int) ≤ (j : Int) by omega), cond_false]
    rfl
  induction d with
  | zero => intro j hd hj ho; exact last_ j (by omega) ho
  | succ d ih =>
    intro j hd hj ho
    rcases Nat.lt_or_ge j l.length with hlt | hge
    · rw [List.drop_eq_getElem_cons hlt] at ho
      cases j with
      | zero =>
        refine Ev.step (fun k => ?_) (ih 1 (by omega) hlt (by rw [ho]; simp only [ord, prev, Bool.true_and]; rw [List.getElem?_eq_getElem hlt]))
        simp only [mastref2_SourceSetOf.l1, llen_eq, ilt_t (show ((0 : Nat) : Int) < (l.length : Int) by omega), cond_true, lat_lt hlt, Option.bind_some, ilt_f (show ((0 : Nat) : Int) ≤ 0 by omega), cond_false, u0 (show 0 ≤ 4611686018427387904 by omega)]
      | succ i =>
        have hi' : i < l.length := by omega
        have wd : wsub .i64 ((i + 1 : Nat) : Int) 1 = (i : Int) := by rw [wsub64 (by omega) (by omega)]; omega
        rw [prev_succ hi'] at ho
        cases hle : ile l[i + 1] l[i] with
        | false =>
          refine Ev.step (fun k => ?_) (ih (i + 1 + 1) (by omega) hlt (by rw [ho, prev_succ hlt]; simp only [ord, hle, Bool.not_false, Bool.true_and]))
          simp only [mastref2_SourceSetOf.l1, llen_eq, ilt_t (show ((i + 1 : Nat) : Int) < (l.length : Int) by omega), cond_true, lat_lt hlt, Option.bind_some, ilt_t (show (0 : Int) < ((i + 1 : Nat) : Int) by omega), wd, lat_lt hi', hle, cond_false, u0 (show i + 1 ≤ 4611686018427387904 by omega)]
        | true =>
          have : ord none l = false := by rw [ho]; simp only [ord, hle]; rfl
          have ef : fin a w l = (c_empty, 5) := by unfold fin; rw [this]; rfl
          rw [ef]
          refine Ev.step (g := fun _ => some (c_empty, 5)) (fun k => ?_) (Ev.now fun _ => rfl)
          simp only [mastref2_SourceSetOf.l1, llen_eq, ilt_t (show ((i + 1 : Nat) : Int) < (l.length : Int) by omega), cond_true, lat_lt hlt, Option.bind_some, ilt_t (show (0 : Int) < ((i + 1 : Nat) : Int) by omega), wd, lat_lt hi', hle]
    · exact last_ j hge ho

theorem setR (a : ByteArray) (w : Int) (l m : List Int) (hm : m = w :: l) (ha : a.size ≤ 1048576) (hl : l.length ≤ 12) : ∀ (d j : Nat), m.length - j ≤ d → j ≤ m.length → (∀ n ∈ m.take j, bad n = false) →
    Ev (fun k => mastref2_SourceSetOf.l0 k w l a m (llen m) (j : Int)) (all_ a w l) := by
  have hml : m.length = l.length + 1 := by rw [hm]; rfl
  have e : (bad w || l.any bad) = m.any bad := by rw [hm]; rfl
  intro d
  have last_ : ∀ j : Nat, m.length ≤ j → (∀ n ∈ m.take j, bad n = false) → Ev (fun k => mastref2_SourceSetOf.l0 k w l a m (llen m) (j : Int)) (all_ a w l) := fun j hj hb => by
    rw [List.take_of_length_le hj] at hb
    have hf : m.any bad = false := by
      cases q : m.any bad with
      | false => rfl
      | true => obtain ⟨n, hn, hq⟩ := List.any_eq_true.1 q; rw [hb n hn] at hq; cases hq
    unfold all_
    rw [e, hf, cond_false]
    have hw := bad_f (hb w (by rw [hm]; exact List.mem_cons_self ..))
    have hr : ∀ n ∈ l, 1 ≤ n ∧ n ≤ 10000 := fun n hn => bad_f (hb n (by rw [hm]; exact List.mem_cons_of_mem _ hn))
    refine Ev.step (fun k => ?_) (l1R a w l ha hw hl hr l.length 0 (by omega) (by omega) (by rw [List.drop_zero]; rfl))
    simp only [mastref2_SourceSetOf.l0, llen_eq, ilt_f (show (m.length : Int) ≤ (j : Int) by omega), cond_false]
    rfl
  induction d with
  | zero => intro j hd hj hb; exact last_ j (by omega) hb
  | succ d ih =>
    intro j hd hj hb
    rcases Nat.lt_or_ge j m.length with hlt | hge
    · cases hbj : bad m[j] with
      | true =>
        have ef : all_ a w l = (c_empty, 2) := by
          unfold all_
          rw [e, List.any_eq_true.2 ⟨m[j], List.getElem_mem hlt, hbj⟩]; rfl
        rw [ef]
        refine Ev.step (g := fun _ => some (c_empty, 2)) (fun k => ?_) (Ev.now fun _ => rfl)
        simp only [mastref2_SourceSetOf.l0, llen_eq, Go.Proofs.YtdllocgdhdfgeaaDoor.Lift.ilen _ _ hlt, cond_true, lat_lt hlt, Option.bind_some]
        rw [show (bif ilt m[j] 1 then true else ilt 10000 m[j]) = bad m[j] from rfl, hbj]; rfl
      | false =>
        refine Ev.step (fun k => ?_) (ih (j + 1) (by omega) hlt fun n hn => by
          rw [List.take_succ_eq_append_getElem hlt] at hn
          rcases List.mem_append.1 hn with h | h
          · exact hb n h
          · rw [show n = m[j] by simpa using h]; exact hbj)
        simp only [mastref2_SourceSetOf.l0, llen_eq, Go.Proofs.YtdllocgdhdfgeaaDoor.Lift.ilen _ _ hlt, cond_true, lat_lt hlt, Option.bind_some, u0 (show j ≤ 4611686018427387904 by omega)]
        rw [show (bif ilt m[j] 1 then true else ilt 10000 m[j]) = bad m[j] from rfl, hbj]; rfl
    · exact last_ j hge hb

/-- The answer. -/
def ans (a : ByteArray) (w : Int) (l : List Int) : ByteArray × Int := bif !hp a then (c_empty, 3) else bif !path (a.extract 1 a.size) then (c_empty, 3) else bif ilt 12 (llen l) then (c_empty, 4) else all_ a w l
theorem ansL (a : ByteArray) (w : Int) (l : List Int) (ha : a.size ≤ 1048576) : Ev (fun k => asset_SourceSet.f k a w l) (ans a w l) := by
  unfold ans
  cases h : hp a with
  | false => exact Ev.now fun k => by simp only [asset_SourceSet.f, hp_ok, Option.bind_some, h]; rfl
  | true =>
    have hsz : (a.extract 1 a.size).size ≤ 2000000 := by rw [ByteArray.size_extract]; omega
    refine Ev.congr (fun k => by simp only [asset_SourceSet.f, hp_ok, Option.bind_some, h, Bool.not_true, cond_false, cut_ok h]; rfl) (Ev.bind (aPath_ok _ hsz) ?_)
    simp only [Bool.not_true, cond_false]
    cases path (a.extract 1 a.size) with
    | false => exact Ev.now fun _ => rfl
    | true =>
      simp only [Bool.not_true, cond_false]
      by_cases hl : l.length ≤ 12
      · rw [llen_eq, ilt_f (show (l.length : Int) ≤ 12 by omega)]
        simp only [cond_false]
        unfold all_
        cases hw : bad w with
        | true =>
          rw [show (bif ilt w 1 then true else ilt 10000 w) = bad w from rfl, hw]
          exact Ev.now fun _ => rfl
        | false =>
          rw [show (bif ilt w 1 then true else ilt 10000 w) = bad w from rfl, hw]
          exact setL a w l ha (bad_f hw) hl
      · rw [llen_eq, ilt_t (show (12 : Int) < (l.length : Int) by omega)]
        exact Ev.now fun _ => rfl
theorem ansR (a : ByteArray) (w : Int) (l : List Int) (ha : a.size ≤ 1048576) : Ev (fun k => mastref2_SourceSetOf.f k a w l) (ans a w l) := by
  unfold ans
  cases h : hp a with
  | false => exact Ev.now fun k => by simp only [mastref2_SourceSetOf.f, hp_ok, Option.bind_some, h]; rfl
  | true =>
    have hsz : (a.extract 1 a.size).size ≤ 2000000 := by rw [ByteArray.size_extract]; omega
    refine Ev.congr (fun k => by simp only [mastref2_SourceSetOf.f, hp_ok, Option.bind_some, h, Bool.not_true, cond_false, trim_ok h]; rfl) (Ev.bind (pathR_ok _ hsz) ?_)
    simp only [Bool.not_true, cond_false]
    cases path (a.extract 1 a.size) with
    | false => exact Ev.now fun _ => rfl
    | true =>
      simp only [Bool.not_true, cond_false]
      by_cases hl : l.length ≤ 12
      · rw [llen_eq, ilt_f (show (l.length : Int) ≤ 12 by omega)]
        have hap : lapp 8 [w] l = some (w :: l) := lapp_ok (by simp only [List.length_singleton]; omega) (by simp only [List.length_singleton]; omega)
        simp only [cond_false, hap, Option.bind_some]
        exact setR a w l (w :: l) rfl ha hl (w :: l).length 0 (by omega) (by omega) (by simp)
      · rw [llen_eq, ilt_t (show (12 : Int) < (l.length : Int) by omega)]
        exact Ev.now fun _ => rfl

theorem pure_holds : Pure := fun x0 x1 x2 h0 h1 h2 => by
  refine (show Ev (fun k => mastlaw2_ImageSources.f k x0 x1 x2) true from ?_).get
  exact Ev.congr (g := fun k => (asset_SourceSet.f k x0 x1 x2).bind fun y1 => (mastref2_SourceSetOf.f k x0 x1 x2).bind fun y2 => some (bif (ieq y1.2 y2.2) then (seq y1.1 y2.1) else false)) (fun k => by simp only [mastlaw2_ImageSources.f])
    (Ev.bind (ansL x0 x1 x2 h0) (Ev.bind (ansR x0 x1 x2 h0) (Ev.now fun _ => by rw [seq_self, ieq_self]; rfl)))

end Go.Proofs.YtdllocgdhdfgeaaDoor.LImageSources
