/- The bundle of parts is that of the reference. Conditions: none. -/
import Derived.Test.YthmedjljckbidaaGreatDoorLAssetBundlesOp
import Derived.Lib.SplitLaws
set_option linter.unusedVariables false
set_option linter.unusedSimpArgs false
namespace Go.Proofs.YthmedjljckbidaaGreatDoor.LAssetBundles
open Go Go.Proofs.YthmedjljckbidaaGreatDoor.Lift

theorem seq_empty (s : ByteArray) : seq s c_empty = s.data.toList.isEmpty := by
  unfold seq
  rw [ByteArray.toList_eq, ByteArray.toList_eq]
  cases h : s.data.toList <;> rfl
theorem mem_dw {α : Type} {p : α → Bool} : ∀ {l : List α} {x : α}, x ∈ l → p x = false → x ∈ l.dropWhile p
  | a :: l, x, h, hp => by
    rw [List.dropWhile_cons]
    split
    · rename_i ha
      rcases List.mem_cons.1 h with rfl | h
      · rw [hp] at ha; cases ha
      · exact mem_dw h hp
    · exact h
theorem dw_nil {α : Type} {p : α → Bool} : ∀ {l : List α}, (∀ x ∈ l, p x = true) → l.dropWhile p = []
  | [], _ => rfl
  | a :: l, h => by rw [List.dropWhile_cons, if_pos (h a (List.mem_cons_self ..))]; exact dw_nil fun x hx => h x (List.mem_cons_of_mem _ hx)
theorem trim_nil (l cs : List UInt8) : (Lib.trimS l cs).isEmpty = l.all (cs.contains ·) := by
  unfold Lib.trimS Lib.trimLeftS Lib.trimRightS
  cases h : l.all (cs.contains ·) with
  | true =>
    have h := List.all_eq_true.1 h
    rw [dw_nil (l := l.reverse) fun x hx => h x (List.mem_reverse.1 hx)]
    rfl
  | false =>
    obtain ⟨x, hx, hp⟩ : ∃ x ∈ l, cs.contains x = false := by
      rcases List.all_eq_false.1 h with ⟨x, hx, hp⟩
      exact ⟨x, hx, by simpa using hp⟩
    have h1 : x ∈ (l.reverse.dropWhile (cs.contains ·)).reverse := List.mem_reverse.2 (mem_dw (List.mem_reverse.2 hx) hp)
    have h2 := mem_dw h1 hp
    cases e : List.dropWhile (cs.contains ·) (l.reverse.dropWhile (cs.contains ·)).reverse with
    | nil => rw [e] at h2; cases h2
    | cons _ _ => rfl
theorem all_any {α : Type} (p : α → Bool) (r : List α) : (bif r.any fun c => !p c then false else true) = r.all p := by
  rw [List.all_eq_not_any_not]
  cases r.any fun c => !p c <;> rfl
/-! Paths. -/
def insP (c : UInt8) : Bool := (bif ile 97 (c.toNat : Int) then ile (c.toNat : Int) 122 else false) || (bif ile 48 (c.toNat : Int) then ile (c.toNat : Int) 57 else false) || ieq (c.toNat : Int) 45 || ieq (c.toNat : Int) 95 || ieq (c.toNat : Int) 46
def part (s : ByteArray) : Bool := bif (bif (bif (bif (seq s c_empty) then true else (ilt 40 (slen s))) then true else (seq s c__2e)) then true else (seq s c__2e_2e)) then false else s.data.toList.all insP
theorem partL_ok (s : ByteArray) : Ev (fun k => tree_isPart.f k s) (part s) := by
  unfold part
  cases h : (bif (bif (bif (seq s c_empty) then true else (ilt 40 (slen s))) then true else (seq s c__2e)) then true else (seq s c__2e_2e)) with
  | true => exact Ev.now fun k => by simp only [tree_isPart.f, h, cond_true]
  | false =>
    have hs : ilt 40 (slen s) = false := by
      cases e : ilt 40 (slen s) with
      | false => rfl
      | true => rw [e] at h; cases seq s c_empty <;> simp at h
    have hl : s.data.toList.length ≤ 40 := by
      rw [slen_l] at hs
      have := of_decide_eq_false hs
      omega
    have q := find_pure s.data.toList 0 (Nat.zero_le _) (fun k j => tree_isPart.l0 k s (j : Int)) (fun _ => some true) (fun c => !insP c) (fun _ => false) true
      (fun k j h => by
        simp only [tree_isPart.l0, slen_l, ilen _ _ h, cond_true, sat_l h, Option.bind_some, u0 (show j ≤ 4611686018427387904 by omega), tree_isSmall.f, tree_isDigit.f, insP]
        cases (bif ile 97 (s.data.toList[j].toNat : Int) then ile (s.data.toList[j].toNat : Int) 122 else false) <;> cases (bif ile 48 (s.data.toList[j].toNat : Int) then ile (s.data.toList[j].toNat : Int) 57 else false) <;> cases ieq (s.data.toList[j].toNat : Int) 45 <;> cases ieq (s.data.toList[j].toNat : Int) 95 <;> cases ieq (s.data.toList[j].toNat : Int) 46 <;> rfl)
      (fun k => by simp only [tree_isPart.l0, slen_l, ilen', cond_false]) (Ev.now fun _ => rfl)
    rw [fl_const, List.drop_zero, all_any] at q
    exact Ev.congr (fun k => by simp only [tree_isPart.f, h, cond_false]; rfl) q
theorem set_insP (c : UInt8) : c_abcdefghijklmnopqrst_c1516678.data.toList.contains c = insP c := by
  have h : ∀ n : Fin 256, c_abcdefghijklmnopqrst_c1516678.data.toList.contains (UInt8.ofNat n.val) = insP (UInt8.ofNat n.val) := by decide +kernel
  have := h ⟨c.toNat, c.toNat_lt⟩
  simpa using this
theorem partR_ok (s : ByteArray) (hs : s.size ≤ 2000000) : mastref2_IsPart.f s = some (part s) := by
  have hc : strings_Trim.f s c_abcdefghijklmnopqrst_c1516678 = some ⟨(Lib.trimS s.data.toList c_abcdefghijklmnopqrst_c1516678.data.toList).toArray⟩ := by
    unfold strings_Trim.f
    rw [if_pos ⟨by omega, by decide, by decide +kernel⟩]
  have e : (bif (bif (bif (!seq s c_empty) then (ile (slen s) 40) else false) then (!seq s c__2e) else false) then (!seq s c__2e_2e) else false) = !(bif (bif (bif (seq s c_empty) then true else (ilt 40 (slen s))) then true else (seq s c__2e)) then true else (seq s c__2e_2e)) := by
    have : ile (slen s) 40 = !ilt 40 (slen s) := by rw [ile_d, ilt_d]; by_cases c : slen s ≤ 40 <;> simp [c] <;> omega
    rw [this]
    cases seq s c_empty <;> cases ilt 40 (slen s) <;> cases seq s c__2e <;> cases seq s c__2e_2e <;> rfl
  unfold mastref2_IsPart.f part
  rw [e, hc]
  cases (bif (bif (bif (seq s c_empty) then true else (ilt 40 (slen s))) then true else (seq s c__2e)) then true else (seq s c__2e_2e)) with
  | true => rfl
  | false =>
    simp only [Bool.not_false, cond_true, cond_false, Option.bind_some]
    rw [seq_empty]
    show some (Lib.trimS s.data.toList _).isEmpty = _
    rw [trim_nil, show (fun x => c_abcdefghijklmnopqrst_c1516678.data.toList.contains x) = insP from funext set_insP]

theorem split_mem (sep : ByteArray) : ∀ (k : Nat) (s x : ByteArray), x ∈ Lib.splitB sep 0 k s → x.size ≤ s.size
  | 0, s, x, h => by
    have : x = s := by simpa [Lib.splitB] using h
    rw [this]; exact Nat.le_refl _
  | k + 1, s, x, h => by
    unfold Lib.splitB at h
    split at h
    · have : x = s := by simpa using h
      rw [this]; exact Nat.le_refl _
    · rcases List.mem_cons.1 h with rfl | h
      · rw [ByteArray.size_extract]; omega
      · have := split_mem sep k _ x h
        rw [ByteArray.size_extract] at this; omega
def parts (s : ByteArray) : List ByteArray := Lib.splitB c__2f 0 (Lib.countB s c__2f) s
def path (s : ByteArray) : Bool := ile (slen s) 200 && (parts s).all part
theorem split_ok (s : ByteArray) (hs : s.size ≤ 2000000) : strings_Split.f s c__2f = some (parts s) := by
  unfold strings_Split.f splitF
  rw [if_pos ⟨by omega, by decide⟩]
  rfl
theorem parts_len (s : ByteArray) (hs : s.size ≤ 2000000) : (parts s).length ≤ 2000001 := by
  have := Lib.splitB_length_le c__2f 0 (Lib.countB s c__2f) s
  have := Lib.countB_le c__2f (by decide) s.size s (Nat.le_refl _)
  unfold parts; omega
theorem pathL_ok (s : ByteArray) (hs : s.size ≤ 2000000) : Ev (fun k => tree_isPath.f k s) (path s) := by
  unfold path
  have hl := parts_len s hs
  by_cases h : slen s ≤ 200
  · rw [ile_t h, Bool.true_and]
    have q := find_loop (parts s) 0 (Nat.zero_le _) (fun k j => tree_isPath.l0 k (parts s) (llen (parts s)) (j : Int)) (fun k s => tree_isPart.f k s)
      (fun k j y => bif (!y) then some false else tree_isPath.l0 k (parts s) (llen (parts s)) ((j + 1 : Nat) : Int)) (fun _ => some true) (fun c => !part c) (fun _ => false) true
      (fun k j h => by simp only [tree_isPath.l0, llen_eq, ilen _ _ h, cond_true, lat_lt h, Option.bind_some, u0 (show j ≤ 4611686018427387904 by omega)])
      (fun k => by simp only [tree_isPath.l0, llen_eq, ilen', cond_false]) (Ev.now fun _ => rfl)
      (fun j h => ⟨_, partL_ok _, fun k => rfl⟩)
    rw [fl_const, List.drop_zero, all_any] at q
    exact Ev.congr (fun k => by simp only [tree_isPath.f, ilt_f h, cond_false, split_ok s hs, Option.bind_some]; rfl) q
  · rw [ile_f (by omega), Bool.false_and]
    exact Ev.now fun k => by simp only [tree_isPath.f, ilt_t (show 200 < slen s by omega), cond_true]
theorem pathR_ok (s : ByteArray) (hs : s.size ≤ 2000000) : Ev (fun k => mastref2_IsPath.f k s) (path s) := by
  unfold path
  have hl := parts_len s hs
  by_cases h : slen s ≤ 200
  · rw [ile_t h, Bool.true_and]
    have q := find_pure (parts s) 0 (Nat.zero_le _) (fun k j => slices_IndexFunc_string_string_at_mastref2_IsPath_c1.l0 k (parts s) (llen (parts s)) (j : Int)) (fun _ => some (-1)) (fun c => !part c) (fun j => (j : Int)) (-1)
      (fun k j h => by
        have := split_mem c__2f _ s (parts s)[j] (List.getElem_mem h)
        simp only [slices_IndexFunc_string_string_at_mastref2_IsPath_c1.l0, llen_eq, ilen _ _ h, cond_true, lat_lt h, Option.bind_some, u0 (show j ≤ 4611686018427387904 by omega), mastref2_IsPath_c1.f, partR_ok (parts s)[j] (by omega)])
      (fun k => by simp only [slices_IndexFunc_string_string_at_mastref2_IsPath_c1.l0, llen_eq, ilen', cond_false]) (Ev.now fun _ => rfl)
    rw [List.drop_zero] at q
    have hi : Ev (fun k => slices_IndexFunc_string_string_at_mastref2_IsPath_c1.f k (parts s)) _ := Ev.congr (fun k => by simp only [slices_IndexFunc_string_string_at_mastref2_IsPath_c1.f]; rfl) q
    have hc : Ev (fun k => slices_ContainsFunc_string_string_at_mastref2_IsPath_c1.f k (parts s)) ((parts s).any fun c => !part c) := Ev.congr (g := fun k => (slices_IndexFunc_string_string_at_mastref2_IsPath_c1.f k (parts s)).bind fun y1 => some (ile 0 y1)) (fun k => by simp only [slices_ContainsFunc_string_string_at_mastref2_IsPath_c1.f]) (Ev.bind hi (Ev.now fun _ => by rw [fl_any]))
    refine Ev.congr (g := fun k => (slices_ContainsFunc_string_string_at_mastref2_IsPath_c1.f k (parts s)).bind fun y2 => some (!y2)) (fun k => by simp only [mastref2_IsPath.f, ile_t h, cond_true, split_ok s hs, Option.bind_some]) (Ev.bind hc (Ev.now fun _ => ?_))
    rw [List.all_eq_not_any_not]
  · rw [ile_f (by omega), Bool.false_and]
    exact Ev.now fun k => by simp only [mastref2_IsPath.f, ile_f (show 200 < slen s by omega), cond_false]

theorem aPath_ok (s : ByteArray) : Ev (fun k => asset_isPath.f k s) (path s) := by
  have hp : Ev (fun k => tree_isPath.f k s) (path s) := by
    by_cases hs : s.size ≤ 2000000
    · exact pathL_ok s hs
    · have h : (200 : Int) < slen s := by unfold slen; omega
      unfold path
      rw [ile_f h, Bool.false_and]
      exact Ev.now fun k => by simp only [tree_isPath.f, ilt_t h, cond_true]
  have h : Ev (fun k => tree_CheckPath.f k s) (bif path s then 0 else 3) :=
    Ev.congr (g := fun k => (tree_isPath.f k s).bind fun y1 => bif !y1 then some 3 else some 0) (fun k => by simp only [tree_CheckPath.f]) (Ev.bind hp (Ev.now fun _ => by cases path s <;> rfl))
  exact Ev.congr (g := fun k => (tree_CheckPath.f k s).bind fun y1 => some (ieq y1 0)) (fun k => by simp only [asset_isPath.f]) (Ev.bind h (Ev.now fun _ => by cases path s <;> rfl))
theorem rPath_ok (s : ByteArray) : Ev (fun k => mastref2_IsPath.f k s) (path s) := by
  by_cases hs : s.size ≤ 2000000
  · exact pathR_ok s hs
  · have h : (200 : Int) < slen s := by unfold slen; omega
    unfold path
    rw [ile_f h, Bool.false_and]
    exact Ev.now fun k => by simp only [mastref2_IsPath.f, ile_f h, cond_false]
theorem seq_comm (a b : ByteArray) : seq a b = seq b a := by
  rw [seq_d, seq_d]; congr 1; exact propext ⟨Eq.symm, Eq.symm⟩
theorem index_ok (l : List ByteArray) (p : ByteArray) (hl : l.length ≤ 2000000) : Ev (fun k => slices_Index_string_string.f k l p) (fl (fun s => seq s p) (fun j => (j : Int)) (-1) 0 l) := by
  have q := find_pure l 0 (Nat.zero_le _) (fun k j => slices_Index_string_string.l0 k l p (llen l) (j : Int)) (fun _ => some (-1)) (fun s => seq s p) (fun j => (j : Int)) (-1)
    (fun k j h => by
      simp only [slices_Index_string_string.l0, llen_eq, Go.Proofs.YthmedjljckbidaaGreatDoor.Lift.ilen _ _ h, cond_true, lat_lt h, Option.bind_some, u0 (show j ≤ 4611686018427387904 by omega), seq_comm p])
    (fun k => by simp only [slices_Index_string_string.l0, llen_eq, Go.Proofs.YthmedjljckbidaaGreatDoor.Lift.ilen', cond_false]) (Ev.now fun _ => rfl)
  rw [List.drop_zero] at q
  exact Ev.congr (fun k => by simp only [slices_Index_string_string.f]; try rfl) q
theorem contains_ok (l : List ByteArray) (p : ByteArray) (hl : l.length ≤ 2000000) : Ev (fun k => slices_Contains_string_string.f k l p) (l.any fun s => seq s p) := by
  refine Ev.congr (fun k => by simp only [slices_Contains_string_string.f]; try rfl) (Ev.bind (index_ok l p hl) ?_)
  rw [fl_any]
  exact Ev.now fun _ => rfl

/-! The bytes. -/
theorem bstr_sbytes (a : ByteArray) : bstr (sbytes a) = a := by
  obtain ⟨⟨l⟩⟩ := a
  unfold bstr sbytes
  have : ∀ l : List UInt8, List.map (fun n : Int => UInt8.ofNat n.toNat) (List.map (fun b : UInt8 => (b.toNat : Int)) l) = l := fun l => by
    rw [List.map_map]
    exact (List.map_congr_left (fun b _ => by simp)).trans (List.map_id l)
  simp only [this]
theorem sbytes_append (a b : ByteArray) : sbytes (a ++ b) = sbytes a ++ sbytes b := by
  unfold sbytes
  rw [ByteArray.data_append, Array.toList_append, List.map_append]
theorem sbytes_len' (s : ByteArray) : (sbytes s).length = s.size := by unfold sbytes; rw [List.length_map, Array.length_toList]; rfl
theorem sbytes_nl : ([10] : List Int) = sbytes c__0a := rfl
def hs (s : ByteArray) : Bool := bif ile (slen c__0a) (slen s) then seq (s.extract (s.size - 1) s.size) c__0a else false
theorem hs_ok (s : ByteArray) (h : s.size ≤ 20000) : strings_HasSuffix.f s c__0a = some (hs s) := by
  unfold strings_HasSuffix.f internal_stringslite_HasSuffix.f hs
  rw [show slen c__0a = 1 from rfl]
  by_cases e : (1 : Int) ≤ slen s
  · rw [ile_t e, cond_true, cond_true]
    have e' : (1 : Int) ≤ s.size := e
    have hw : wsub .i64 (slen s) 1 = ((s.size - 1 : Nat) : Int) := by
      unfold slen
      rw [wsub64 (by omega) (by omega)]; omega
    rw [hw]
    unfold ssub slen
    rw [if_pos ⟨by omega, by omega, by omega⟩]; rfl
  · rw [ile_f (by omega)]; rfl
theorem scat_of {a b : ByteArray} (h : a.size + b.size ≤ 9223372036854775807) : scat a b = some (a ++ b) := by unfold scat; rw [if_pos h]

/-! One part more. -/
def wantsNl (s : ByteArray) : Bool := !seq s c_empty && !hs s
def more (B s : ByteArray) : ByteArray := bif wantsNl s then B ++ s ++ c__0a else B ++ s
theorem more_size (B s : ByteArray) : (more B s).size ≤ B.size + s.size + 1 := by
  have h1 : c__0a.size = 1 := rfl
  unfold more
  cases wantsNl s
  · rw [cond_false, ByteArray.size_append]; omega
  · rw [cond_true, ByteArray.size_append, ByteArray.size_append]; omega
structure Acc where
  B : ByteArray
  P : List ByteArray
  E : List Int
def run : Acc → List T_api_File → Acc
  | a, [] => a
  | a, f :: r => run ⟨more a.B f.fBody, a.P ++ [f.fPath], a.E ++ [slen (more a.B f.fBody)]⟩ r
theorem run_P : ∀ (r : List T_api_File) (a : Acc), (run a r).P = a.P ++ r.map (·.fPath)
  | [], a => by simp [run]
  | f :: r, a => by simp only [run, run_P r, List.map_cons, List.append_assoc]; rfl
theorem run_B : ∀ (r : List T_api_File) (a : Acc), (∀ f ∈ r, f.fBody.size ≤ 20000) → (run a r).B.size ≤ a.B.size + 20001 * r.length
  | [], a, _ => by simp [run]
  | f :: r, a, h => by
    have := run_B r ⟨more a.B f.fBody, a.P ++ [f.fPath], a.E ++ [slen (more a.B f.fBody)]⟩ fun x hx => h x (List.mem_cons_of_mem _ hx)
    have h1 := more_size a.B f.fBody
    have h2 := h f (List.mem_cons_self ..)
    simp only [run, List.length_cons] at this ⊢
    omega
theorem run_E : ∀ (r : List T_api_File) (a : Acc), (run a r).E.length = a.E.length + r.length
  | [], a => by simp [run]
  | f :: r, a => by simp only [run, run_E r, List.length_append, List.length_cons, List.length_nil]; omega
/-- What is wrong with the paths. -/
def pf : List ByteArray → List ByteArray → Int
  | _, [] => 0
  | pre, p :: r => bif !path p then 3 else bif pre.any (fun s => seq s p) then 6 else pf (pre ++ [p]) r
def none' : T_asset_Bundled := ⟨c_empty, [], []⟩
def fin (e : Int) (a : Acc) : T_asset_Bundled × Int := bif !ieq e 0 then (none', e) else bif ilt 200000 (slen a.B) then (none', 4) else (⟨a.B, a.P, a.E⟩, 0)
theorem pf_loop (P : List ByteArray) (hP : P.length ≤ 100) : ∀ (d j : Nat), P.length - j ≤ d → j ≤ P.length → Ev (fun k => asset_partsFault.l0 k P P (llen P) (j : Int)) (pf (P.take j) (P.drop j)) := by
  intro d
  have last : ∀ j, j = P.length → Ev (fun k => asset_partsFault.l0 k P P (llen P) (j : Int)) (pf (P.take j) (P.drop j)) := fun j e => by
    subst e
    rw [List.drop_eq_nil_of_le (Nat.le_refl _)]
    exact Ev.step (g := fun _ => some 0) (fun k => by simp only [asset_partsFault.l0, llen_eq, ilen', cond_false]) (Ev.now fun _ => rfl)
  induction d with
  | zero => intro j hd hj; exact last j (by omega)
  | succ d ih =>
    intro j hd hj
    rcases Nat.lt_or_ge j P.length with hlt | hge
    case inr => exact last j (by omega)
    have hw : wadd .i64 (j : Int) 1 = ((j + 1 : Nat) : Int) := u0 (by omega)
    have nx := ih (j + 1) (by omega) hlt
    have hsub : lsub P 0 (j : Int) = some (P.take j) := by
      unfold lsub
      rw [if_pos ⟨by omega, by omega, by omega⟩]; simp
    have hlen : (P.take j).length = j := by rw [List.length_take]; omega
    have inner := find_loop2 (P.take j) 0 (Nat.zero_le _) (fun k i => asset_partsFault.l1 k P P[j] P (llen P) (j : Int) (P.take j) (llen (P.take j)) (i : Int)) (fun _ y => some y) (fun k i y => bif seq P[j] y then some 6 else asset_partsFault.l1 k P P[j] P (llen P) (j : Int) (P.take j) (llen (P.take j)) ((i + 1 : Nat) : Int)) (fun k => asset_partsFault.l0 k P P (llen P) ((j + 1 : Nat) : Int)) (fun s => seq s P[j]) (fun _ => (6 : Int)) (pf (P.take (j + 1)) (P.drop (j + 1)))
      (fun k i h => by simp only [asset_partsFault.l1, llen_eq, Go.Proofs.YthmedjljckbidaaGreatDoor.Lift.ilen _ _ h, cond_true, lat_lt h, Option.bind_some, u0 (show i ≤ 4611686018427387904 by omega)])
      (fun k => by simp only [asset_partsFault.l1, llen_eq, Go.Proofs.YthmedjljckbidaaGreatDoor.Lift.ilen', cond_false, hw]) nx
      (fun i h => ⟨_, Ev.now fun _ => rfl, fun e => Ev.now fun k => by rw [seq_comm, e]; rfl, fun e v hv => Ev.congr (fun k => by rw [seq_comm, e]; rfl) hv⟩)
    rw [List.drop_zero, fl_const] at inner
    rw [List.drop_eq_getElem_cons hlt]
    simp only [pf]
    rw [← List.take_succ_eq_append_getElem hlt]
    refine Ev.step (fun k => by simp only [asset_partsFault.l0, llen_eq, Go.Proofs.YthmedjljckbidaaGreatDoor.Lift.ilen _ _ hlt, cond_true, lat_lt hlt, Option.bind_some, hsub]; rfl) (Ev.bind (aPath_ok P[j]) ?_)
    cases path P[j] with
    | false => exact Ev.now fun _ => rfl
    | true => exact inner
theorem pf_ok (P : List ByteArray) (hP : P.length ≤ 100) : Ev (fun k => asset_partsFault.f k P) (pf [] P) :=
  Ev.congr (fun k => by simp only [asset_partsFault.f]; try rfl) (pf_loop P hP P.length 0 (by omega) (by omega))
theorem join_loop (l : List T_api_File) (hl : l.length ≤ 40) (hb : ∀ f ∈ l, f.fBody.size ≤ 20000) : ∀ (d j : Nat) (a : Acc), l.length - j ≤ d → j ≤ l.length → a.B.size ≤ 20001 * j → a.P.length = j → a.E.length = j →
    Ev (fun k => asset_Bundle.l1 k c_empty [] [] c_empty a.P a.E (sbytes a.B) l (llen l) (j : Int)) (fin (pf [] (run a (l.drop j)).P) (run a (l.drop j))) := by
  intro d
  have last : ∀ (j : Nat) (a : Acc), j = l.length → a.B.size ≤ 20001 * j → a.P.length = j → Ev (fun k => asset_Bundle.l1 k c_empty [] [] c_empty a.P a.E (sbytes a.B) l (llen l) (j : Int)) (fin (pf [] (run a (l.drop j)).P) (run a (l.drop j))) := fun j a e hB hPl => by
    subst e
    rw [List.drop_eq_nil_of_le (Nat.le_refl _)]
    show Ev _ (fin (pf [] a.P) a)
    refine Ev.step (fun k => by simp only [asset_Bundle.l1, llen_eq, ilen', cond_false, bstr_sbytes]; rfl) (Ev.bind (pf_ok a.P (by omega)) ?_)
    unfold fin
    cases ieq (pf [] a.P) 0 with
    | false => exact Ev.now fun _ => rfl
    | true =>
      simp only [Bool.not_true, cond_false]
      cases ilt 200000 (slen a.B) <;> exact Ev.now fun _ => rfl
  induction d with
  | zero => intro j a hd hj hB hP _; exact last j a (by omega) hB hP
  | succ d ih =>
    intro j a hd hj hB hP hE
    rcases Nat.lt_or_ge j l.length with hlt | hge
    case inr => exact last j a (by omega) hB hP
    have hw : wadd .i64 (j : Int) 1 = ((j + 1 : Nat) : Int) := u0 (by omega)
    have hf := hb _ (List.getElem_mem hlt)
    have hm := more_size a.B l[j].fBody
    have nx := ih (j + 1) ⟨more a.B l[j].fBody, a.P ++ [l[j].fPath], a.E ++ [slen (more a.B l[j].fBody)]⟩ (by omega) hlt (by show (more a.B l[j].fBody).size ≤ _; omega) (by simp [hP]) (by simp [hE])
    have p1 : lapp 16 a.P [l[j].fPath] = some (a.P ++ [l[j].fPath]) := lapp_ok (by simp; omega) (by simp; omega)
    have z1 := sbytes_len' a.B
    have z2 := sbytes_len' l[j].fBody
    have p2 : lapp 1 (sbytes a.B) (sbytes l[j].fBody) = some (sbytes (a.B ++ l[j].fBody)) := by
      rw [lapp_ok (by omega) (by omega), sbytes_append]
    have p3 : lapp 1 (sbytes (a.B ++ l[j].fBody)) [10] = some (sbytes (a.B ++ l[j].fBody ++ c__0a)) := by
      have := sbytes_len' (a.B ++ l[j].fBody)
      rw [ByteArray.size_append] at this
      rw [lapp_ok (by simp; omega) (by simp; omega), sbytes_append (a.B ++ l[j].fBody), sbytes_nl]
    have p4 : lapp 8 a.E [slen (more a.B l[j].fBody)] = some (a.E ++ [slen (more a.B l[j].fBody)]) := lapp_ok (by simp; omega) (by simp; omega)
    have two : Ev (fun k => asset_Bundle.l2 k c_empty [] [] c_empty (a.P ++ [l[j].fPath]) a.E (sbytes (more a.B l[j].fBody)) l (llen l) (j : Int)) (fin (pf [] (run a (l.drop j)).P) (run a (l.drop j))) := by
      rw [List.drop_eq_getElem_cons hlt]
      refine Ev.step (fun k => by simp only [asset_Bundle.l2, show llen (sbytes (more a.B l[j].fBody)) = slen (more a.B l[j].fBody) by rw [llen_eq, sbytes_len']; rfl, p4, Option.bind_some, hw]; try rfl) nx
    unfold more wantsNl at two
    refine Ev.step (fun k => by simp only [asset_Bundle.l1, llen_eq, Go.Proofs.YthmedjljckbidaaGreatDoor.Lift.ilen _ _ hlt, cond_true, lat_lt hlt, Option.bind_some, p1, p2, hs_ok _ hf]; rfl) ?_
    cases e : seq l[j].fBody c_empty with
    | true =>
      rw [e] at two
      exact two
    | false =>
      rw [e] at two
      simp only [Bool.not_false, cond_true, Bool.true_and] at two ⊢
      cases e2 : hs l[j].fBody with
      | true =>
        rw [e2] at two
        exact two
      | false =>
        rw [e2] at two
        simp only [Bool.not_false, cond_true, p3, Option.bind_some] at two ⊢
        exact two
theorem ref_loop (l : List T_api_File) (hl : l.length ≤ 40) (hb : ∀ f ∈ l, f.fBody.size ≤ 20000) : ∀ (d j : Nat) (a : Acc), l.length - j ≤ d → j ≤ l.length → a.B.size ≤ 20001 * j → a.P.length = j → a.E.length = j →
    Ev (fun k => mastref2_BundleOf.l1 k c_empty [] [] a.B a.P a.E l (llen l) (j : Int)) (fin (pf a.P ((l.drop j).map (·.fPath))) (run a (l.drop j))) := by
  intro d
  have last : ∀ (j : Nat) (a : Acc), j = l.length → Ev (fun k => mastref2_BundleOf.l1 k c_empty [] [] a.B a.P a.E l (llen l) (j : Int)) (fin (pf a.P ((l.drop j).map (·.fPath))) (run a (l.drop j))) := fun j a e => by
    subst e
    rw [List.drop_eq_nil_of_le (Nat.le_refl _)]
    show Ev _ (fin 0 a)
    unfold fin
    simp only [show ieq (0 : Int) 0 = true from rfl, Bool.not_true, cond_false]
    cases e : ilt 200000 (slen a.B) with
    | true => exact Ev.step (g := fun _ => some (none', 4)) (fun k => by simp only [mastref2_BundleOf.l1, llen_eq, ilen', cond_false, e, cond_true]; rfl) (Ev.now fun _ => rfl)
    | false => exact Ev.step (g := fun _ => some (⟨a.B, a.P, a.E⟩, 0)) (fun k => by simp only [mastref2_BundleOf.l1, llen_eq, ilen', cond_false, e]) (Ev.now fun _ => rfl)
  induction d with
  | zero => intro j a hd hj _ _ _; exact last j a (by omega)
  | succ d ih =>
    intro j a hd hj hB hP hE
    rcases Nat.lt_or_ge j l.length with hlt | hge
    case inr => exact last j a (by omega)
    have hw : wadd .i64 (j : Int) 1 = ((j + 1 : Nat) : Int) := u0 (by omega)
    have hf := hb _ (List.getElem_mem hlt)
    have hm := more_size a.B l[j].fBody
    have h1 : c__0a.size = 1 := rfl
    have nx := ih (j + 1) ⟨more a.B l[j].fBody, a.P ++ [l[j].fPath], a.E ++ [slen (more a.B l[j].fBody)]⟩ (by omega) hlt (by show (more a.B l[j].fBody).size ≤ _; omega) (by simp [hP]) (by simp [hE])
    have p1 : lapp 16 a.P [l[j].fPath] = some (a.P ++ [l[j].fPath]) := lapp_ok (by simp; omega) (by simp; omega)
    have p2 : scat a.B l[j].fBody = some (a.B ++ l[j].fBody) := scat_of (by omega)
    have p3 : scat (a.B ++ l[j].fBody) c__0a = some (a.B ++ l[j].fBody ++ c__0a) := scat_of (by rw [ByteArray.size_append]; omega)
    have p4 : lapp 8 a.E [slen (more a.B l[j].fBody)] = some (a.E ++ [slen (more a.B l[j].fBody)]) := lapp_ok (by simp; omega) (by simp; omega)
    rw [List.drop_eq_getElem_cons hlt]
    simp only [List.map_cons, pf, run]
    refine Ev.step (fun k => by simp only [mastref2_BundleOf.l1, llen_eq, Go.Proofs.YthmedjljckbidaaGreatDoor.Lift.ilen _ _ hlt, cond_true, lat_lt hlt, Option.bind_some, p1, p2, hs_ok _ hf]; rfl) (Ev.bind (rPath_ok l[j].fPath) ?_)
    cases path l[j].fPath with
    | false => exact Ev.now fun _ => rfl
    | true =>
      simp only [Bool.not_true, cond_false]
      refine Ev.bind (contains_ok a.P l[j].fPath (by omega)) ?_
      cases a.P.any fun s => seq s l[j].fPath with
      | true => exact Ev.now fun _ => rfl
      | false =>
        simp only [cond_false]
        have three : Ev (fun k => mastref2_BundleOf.l3 k c_empty [] [] (more a.B l[j].fBody) (a.P ++ [l[j].fPath]) a.E l (llen l) (j : Int)) (fin (pf (a.P ++ [l[j].fPath]) ((l.drop (j + 1)).map (·.fPath))) (run ⟨more a.B l[j].fBody, a.P ++ [l[j].fPath], a.E ++ [slen (more a.B l[j].fBody)]⟩ (l.drop (j + 1)))) :=
          Ev.step (fun k => by simp only [mastref2_BundleOf.l3, p4, Option.bind_some, hw]; try rfl) nx
        have two : Ev (fun k => mastref2_BundleOf.l2 k c_empty [] [] (a.B ++ l[j].fBody) (a.P ++ [l[j].fPath]) a.E l (llen l) (j : Int) (wantsNl l[j].fBody)) (fin (pf (a.P ++ [l[j].fPath]) ((l.drop (j + 1)).map (·.fPath))) (run ⟨more a.B l[j].fBody, a.P ++ [l[j].fPath], a.E ++ [slen (more a.B l[j].fBody)]⟩ (l.drop (j + 1)))) := by
          unfold more at three ⊢
          cases e0 : wantsNl l[j].fBody with
          | true =>
            rw [e0] at three
            exact Ev.step (fun k => by simp only [mastref2_BundleOf.l2, cond_true, p3, Option.bind_some]; try rfl) three
          | false =>
            rw [e0] at three
            exact Ev.step (fun k => by simp only [mastref2_BundleOf.l2, cond_false]; try rfl) three
        unfold wantsNl at two
        cases e : seq l[j].fBody c_empty with
        | true => rw [e] at two; exact two
        | false => rw [e] at two; exact two

/-! What is alike itself. -/
theorem eqs_loop (l : List ByteArray) (hl : l.length ≤ 4000000) : ∀ (d j : Nat), l.length - j ≤ d → j ≤ l.length → Ev (fun k => slices_Equal_string_string.l0 k l l (llen l) (j : Int)) true := by
  intro d
  have last : ∀ j, j = l.length → Ev (fun k => slices_Equal_string_string.l0 k l l (llen l) (j : Int)) true := fun j h => by
    subst h
    exact Ev.step (g := fun _ => some true) (fun k => by simp only [slices_Equal_string_string.l0, llen_eq, ilen', cond_false]) (Ev.now fun _ => rfl)
  induction d with
  | zero => intro j hd hj; exact last j (by omega)
  | succ d ih =>
    intro j hd hj
    rcases Nat.lt_or_ge j l.length with hlt | hge
    · have hw : wadd .i64 (j : Int) 1 = ((j + 1 : Nat) : Int) := u0 (by omega)
      exact Ev.step (fun k => by simp only [slices_Equal_string_string.l0, llen_eq, ilen l j hlt, cond_true, lat_lt hlt, Option.bind_some, seq_self, Bool.not_true, cond_false, hw]) (ih (j + 1) (by omega) hlt)
    · exact last j (by omega)
theorem eqs_ok (l : List ByteArray) (hl : l.length ≤ 4000000) : Ev (fun k => slices_Equal_string_string.f k l l) true :=
  Ev.congr (fun k => by simp only [slices_Equal_string_string.f, ieq_self, Bool.not_true, cond_false]; rfl) (eqs_loop l hl l.length 0 (by omega) (by omega))
theorem eqi_loop (l : List Int) (hl : l.length ≤ 4000000) : ∀ (d j : Nat), l.length - j ≤ d → j ≤ l.length → Ev (fun k => slices_Equal_int_int.l0 k l l (llen l) (j : Int)) true := by
  intro d
  have last : ∀ j, j = l.length → Ev (fun k => slices_Equal_int_int.l0 k l l (llen l) (j : Int)) true := fun j h => by
    subst h
    exact Ev.step (g := fun _ => some true) (fun k => by simp only [slices_Equal_int_int.l0, llen_eq, ilen', cond_false]) (Ev.now fun _ => rfl)
  induction d with
  | zero => intro j hd hj; exact last j (by omega)
  | succ d ih =>
    intro j hd hj
    rcases Nat.lt_or_ge j l.length with hlt | hge
    · have hw : wadd .i64 (j : Int) 1 = ((j + 1 : Nat) : Int) := u0 (by omega)
      exact Ev.step (fun k => by simp only [slices_Equal_int_int.l0, llen_eq, ilen l j hlt, cond_true, lat_lt hlt, Option.bind_some, ieq_self, Bool.not_true, cond_false, hw]) (ih (j + 1) (by omega) hlt)
    · exact last j (by omega)
theorem eqi_ok (l : List Int) (hl : l.length ≤ 4000000) : Ev (fun k => slices_Equal_int_int.f k l l) true :=
  Ev.congr (fun k => by simp only [slices_Equal_int_int.f, ieq_self, Bool.not_true, cond_false]; rfl) (eqi_loop l hl l.length 0 (by omega) (by omega))
theorem alike_ok (b : T_asset_Bundled) (h1 : b.fParts.length ≤ 4000000) (h2 : b.fEnds.length ≤ 4000000) : Ev (fun k => mastref2_Alike_at_asset_Bundled.f k b b) true := by
  refine Ev.congr (fun k => by simp only [mastref2_Alike_at_asset_Bundled.f, seq_self, cond_true]; rfl) (Ev.bind (eqs_ok _ h1) ?_)
  simp only [cond_true]
  exact Ev.bind (eqi_ok _ h2) (Ev.now fun _ => rfl)

/-! The bodies. -/
def big (f : T_api_File) : Bool := ilt 20000 (slen f.fBody)
theorem pure_holds : Pure := fun x0 h0 => by
  have hn : x0.length ≤ 140737488351232 := by
    have h1 := h0.1
    have h2 : 1 ≤ ebOf ctx.ty (.st 0) := by decide
    exact Nat.le_trans (Nat.le_mul_of_pos_right _ h2) h1
  refine (show Ev (fun k => mastlaw2_AssetBundles.f k x0) true from ?_).get
  suffices h : ∃ z : T_asset_Bundled × Int, z.1.fParts.length ≤ 4000000 ∧ z.1.fEnds.length ≤ 4000000 ∧ Ev (fun k => asset_Bundle.f k x0) z ∧ Ev (fun k => mastref2_BundleOf.f k x0) z by
    obtain ⟨z, b1, b2, h1, h2⟩ := h
    refine Ev.congr (fun k => by simp only [mastlaw2_AssetBundles.f]; rfl) (Ev.bind h1 (Ev.bind h2 ?_))
    exact Ev.congr (g := fun k => (mastref2_Alike_at_asset_Bundled.f k z.1 z.1).bind fun y3 => some y3) (fun k => by simp only [ieq_self, cond_true]) (Ev.bind (alike_ok z.1 b1 b2) (Ev.now fun _ => rfl))
  have lift : ∀ (v : T_asset_Bundled × Int) (L : Nat → Nat → Option (T_asset_Bundled × Int)) (E : Nat → Option (T_asset_Bundled × Int)), (∀ (k j : Nat) (h : j < x0.length), L (k + 1) j = bif big x0[j] then some (none', 4) else L k (j + 1)) → (∀ k, L (k + 1) x0.length = E k) → (x0.any big = false → Ev E v) → Ev (fun k => L k 0) (bif x0.any big then (none', 4) else v) := fun v L E hs he hE => by
    cases e : x0.any big with
    | false =>
      have q := find_pure x0 0 (Nat.zero_le _) L E big (fun _ => (none', 4)) v hs he (hE e)
      rw [List.drop_zero, fl_const, e] at q
      exact q
    | true =>
      have : ∀ (d j : Nat), x0.length - j ≤ d → (x0.drop j).any big = true → Ev (fun k => L k j) (none', 4) := by
        intro d
        induction d with
        | zero =>
          intro j hd h
          rw [List.drop_eq_nil_of_le (by omega)] at h
          cases h
        | succ d ih =>
          intro j hd h
          rcases Nat.lt_or_ge j x0.length with hlt | hge
          · rw [List.drop_eq_getElem_cons hlt, List.any_cons] at h
            cases eb : big x0[j] with
            | true => exact Ev.step (g := fun _ => some (none', 4)) (fun k => by rw [hs k j hlt, eb]; rfl) (Ev.now fun _ => rfl)
            | false =>
              rw [eb, Bool.false_or] at h
              exact Ev.step (g := fun k => L k (j + 1)) (fun k => by rw [hs k j hlt, eb]; rfl) (ih (j + 1) (by omega) h)
          · rw [List.drop_eq_nil_of_le hge] at h
            cases h
      exact this x0.length 0 (by omega) (by rw [List.drop_zero]; exact e)
  have sml : x0.any big = false → ∀ f ∈ x0, f.fBody.size ≤ 20000 := fun e f hf => by
    have : ilt 20000 (slen f.fBody) = false := any_f e f hf
    have : ¬ (20000 : Int) < slen f.fBody := of_decide_eq_false this
    unfold slen at this; omega
  suffices h : ∃ z : T_asset_Bundled × Int, z.1.fParts.length ≤ 4000000 ∧ z.1.fEnds.length ≤ 4000000 ∧ (x0.any big = false → Ev (fun k => bif ilt 40 (llen x0) then some (none', 4) else asset_Bundle.l1 k c_empty [] [] c_empty [] [] [] x0 (llen x0) 0) z) ∧ (x0.any big = false → Ev (fun k => bif ilt 40 (llen x0) then some (none', 4) else mastref2_BundleOf.l1 k c_empty [] [] c_empty [] [] x0 (llen x0) 0) z) by
    obtain ⟨z, b1, b2, h1, h2⟩ := h
    refine ⟨bif x0.any big then (none', 4) else z, ?_, ?_, ?_, ?_⟩
    · cases x0.any big with
      | true => exact Nat.zero_le _
      | false => exact b1
    · cases x0.any big with
      | true => exact Nat.zero_le _
      | false => exact b2
    · exact Ev.congr (fun k => by simp only [asset_Bundle.f]; rfl) (lift z (fun k j => asset_Bundle.l0 k x0 c_empty [] [] x0 (llen x0) (j : Int)) _ (fun k j h => by simp only [asset_Bundle.l0, llen_eq, Go.Proofs.YthmedjljckbidaaGreatDoor.Lift.ilen _ _ h, cond_true, lat_lt h, Option.bind_some, u0 (show j ≤ 4611686018427387904 by omega)]; rfl) (fun k => by simp only [asset_Bundle.l0, llen_eq, Go.Proofs.YthmedjljckbidaaGreatDoor.Lift.ilen', cond_false]; rfl) h1)
    · exact Ev.congr (fun k => by simp only [mastref2_BundleOf.f]; rfl) (lift z (fun k j => mastref2_BundleOf.l0 k x0 c_empty [] [] x0 (llen x0) (j : Int)) _ (fun k j h => by simp only [mastref2_BundleOf.l0, llen_eq, Go.Proofs.YthmedjljckbidaaGreatDoor.Lift.ilen _ _ h, cond_true, lat_lt h, Option.bind_some, u0 (show j ≤ 4611686018427387904 by omega)]; rfl) (fun k => by simp only [mastref2_BundleOf.l0, llen_eq, Go.Proofs.YthmedjljckbidaaGreatDoor.Lift.ilen', cond_false]; rfl) h2)
  by_cases hl : x0.length ≤ 40
  · have hlt : ilt 40 (llen x0) = false := ilt_f (by rw [llen_eq]; omega)
    have a0 : (Acc.mk c_empty [] []).B.size ≤ 20001 * 0 := Nat.le_refl _
    refine ⟨fin (pf [] (x0.map (·.fPath))) (run ⟨c_empty, [], []⟩ x0), ?_, ?_, fun e => ?_, fun e => ?_⟩
    · unfold fin
      have := run_P x0 ⟨c_empty, [], []⟩
      cases ieq (pf [] (x0.map (·.fPath))) 0 <;> cases ilt 200000 (slen (run ⟨c_empty, [], []⟩ x0).B) <;> simp [none', this] <;> omega
    · unfold fin
      have := run_E x0 ⟨c_empty, [], []⟩
      cases ieq (pf [] (x0.map (·.fPath))) 0 <;> cases ilt 200000 (slen (run ⟨c_empty, [], []⟩ x0).B) <;> simp [none', this] <;> omega
    · have q := join_loop x0 hl (sml e) x0.length 0 ⟨c_empty, [], []⟩ (by omega) (by omega) a0 rfl rfl
      rw [List.drop_zero, run_P] at q
      exact Ev.congr (fun k => by rw [hlt]; rfl) q
    · have q := ref_loop x0 hl (sml e) x0.length 0 ⟨c_empty, [], []⟩ (by omega) (by omega) a0 rfl rfl
      rw [List.drop_zero] at q
      exact Ev.congr (fun k => by rw [hlt]; rfl) q
  · have hlt : ilt 40 (llen x0) = true := ilt_t (by rw [llen_eq]; omega)
    exact ⟨(none', 4), Nat.zero_le _, Nat.zero_le _, fun _ => Ev.now fun k => by rw [hlt]; rfl, fun _ => Ev.now fun k => by rw [hlt]; rfl⟩

end Go.Proofs.YthmedjljckbidaaGreatDoor.LAssetBundles
