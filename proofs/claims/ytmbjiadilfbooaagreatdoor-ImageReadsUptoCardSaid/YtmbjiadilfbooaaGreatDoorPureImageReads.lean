/- An image is read as the reference says, for texts of any contents. Conditions: none. -/
import Derived.Test.YtmbjiadilfbooaaGreatDoorLImageReadsOp
import Derived.Lib.SplitLaws
set_option linter.unusedVariables false
set_option linter.unusedSimpArgs false
namespace Go.Proofs.YtmbjiadilfbooaaGreatDoor.LImageReads
open Go Go.Proofs.YtmbjiadilfbooaaGreatDoor.Lift

theorem seq_empty (s : ByteArray) : seq s c_empty = s.data.toList.isEmpty := by
  unfold seq
  rw [ByteArray.toList_eq, ByteArray.toList_eq]
  cases h : s.data.toList <;> rfl
theorem mem_dw {α : Type} {p : α → Bool} : ∀ {l : List α} {x : α}, x ∈ l → p x = false → x ∈ l.dropWhile p
  | a :: l, x, h, hp => by
    rw [List.dropWhile_cons]
    split
    · rename_i ha
      rcases List.mem_cons.1 h with rfl | h
      · rw [hp] at ha; cases ha
      · exact mem_dw h hp
    · exact h
theorem dw_nil {α : Type} {p : α → Bool} : ∀ {l : List α}, (∀ x ∈ l, p x = true) → l.dropWhile p = []
  | [], _ => rfl
  | a :: l, h => by rw [List.dropWhile_cons, if_pos (h a (List.mem_cons_self ..))]; exact dw_nil fun x hx => h x (List.mem_cons_of_mem _ hx)
theorem trim_nil (l cs : List UInt8) : (Lib.trimS l cs).isEmpty = l.all (cs.contains ·) := by
  unfold Lib.trimS Lib.trimLeftS Lib.trimRightS
  cases h : l.all (cs.contains ·) with
  | true =>
    have h := List.all_eq_true.1 h
    rw [dw_nil (l := l.reverse) fun x hx => h x (List.mem_reverse.1 hx)]
    rfl
  | false =>
    obtain ⟨x, hx, hp⟩ : ∃ x ∈ l, cs.contains x = false := by
      rcases List.all_eq_false.1 h with ⟨x, hx, hp⟩
      exact ⟨x, hx, by simpa using hp⟩
    have h1 : x ∈ (l.reverse.dropWhile (cs.contains ·)).reverse := List.mem_reverse.2 (mem_dw (List.mem_reverse.2 hx) hp)
    have h2 := mem_dw h1 hp
    cases e : List.dropWhile (cs.contains ·) (l.reverse.dropWhile (cs.contains ·)).reverse with
    | nil => rw [e] at h2; cases h2
    | cons _ _ => rfl
def pcs (c : UInt8) : List UInt8 → List (List UInt8)
  | [] => [[]]
  | b :: l => if b = c then [] :: pcs c l else match pcs c l with
    | [] => [[b]]
    | p :: r => (b :: p) :: r
theorem splitK_pcs (c : UInt8) : ∀ l : List UInt8, Lib.splitK [c] 0 (l.count c) l = pcs c l
  | [] => rfl
  | b :: l => by
    have ih := splitK_pcs c l
    by_cases h : b = c
    · subst h
      rw [List.count_cons_self]
      have hx : Lib.index (b :: l) [b] = 0 := by
        unfold Lib.index
        rw [if_pos (by simp [List.isPrefixOf])]
      unfold Lib.splitK
      rw [hx]
      simp only [pcs, if_true]
      rw [if_neg (by decide)]
      simp [ih]
    · rw [List.count_cons_of_ne (fun e => h e)]
      have hx : Lib.index (b :: l) [c] = if Lib.index l [c] == -1 then -1 else Lib.index l [c] + 1 := by
        conv => lhs; unfold Lib.index
        rw [if_neg (by simp [List.isPrefixOf]; exact fun e => h e.symm)]
      simp only [pcs, if_neg h]
      cases hn : l.count c with
      | zero =>
        rw [hn] at ih
        rw [← ih]; rfl
      | succ n =>
        rw [hn] at ih
        rw [← ih]
        unfold Lib.splitK
        rw [hx]
        by_cases hm : Lib.index l [c] = -1
        · simp [hm]
        · have hg := Lib.index_ge l [c]
          have e1 : (Lib.index l [c] == -1) = false := beq_eq_false_iff_ne.2 hm
          simp only [e1, Bool.false_eq_true, if_false]
          have e2 : (Lib.index l [c] + 1 == -1) = false := beq_eq_false_iff_ne.2 (by omega)
          simp only [e2, Bool.false_eq_true, if_false]
          have e3 : (Lib.index l [c] + 1).toNat = (Lib.index l [c]).toNat + 1 := by omega
          rw [e3]
          simp [List.take_succ_cons, List.drop_succ_cons]
theorem pcs_none (c : UInt8) : ∀ p : List UInt8, c ∉ p → pcs c p = [p]
  | [], _ => rfl
  | b :: l, h => by
    have h1 : b ≠ c := fun e => h (by rw [e]; exact List.mem_cons_self ..)
    have h2 := pcs_none c l fun e => h (List.mem_cons_of_mem _ e)
    simp only [pcs, if_neg h1, h2]
theorem pcs_cut (c : UInt8) : ∀ (p r : List UInt8), c ∉ p → pcs c (p ++ c :: r) = p :: pcs c r
  | [], r, _ => by simp [pcs]
  | b :: l, r, h => by
    have h1 : b ≠ c := fun e => h (by rw [e]; exact List.mem_cons_self ..)
    have h2 := pcs_cut c l r fun e => h (List.mem_cons_of_mem _ e)
    simp only [List.cons_append, pcs, if_neg h1, h2]
theorem ex_data (s : ByteArray) (a b : Nat) (h : a ≤ b) : (s.extract a b).data.toList = (s.data.toList.drop a).take (b - a) := by
  rw [ByteArray.data_extract, Array.toList_extract]
def digB (c : UInt8) : Bool := bif ile 48 (c.toNat : Int) then ile (c.toNat : Int) 57 else false
/-- Is a piece a number. -/
def dg : List UInt8 → Bool
  | [] => false
  | c :: r => ((c :: r).all digB && decide (r.length ≤ 3)) && (!ieq (c.toNat : Int) 48 || (c :: r == [48]))
theorem seq_zero (p : ByteArray) : seq p c_0 = (p.data.toList == [48]) := by
  unfold seq
  rw [ByteArray.toList_eq, ByteArray.toList_eq]
  rfl
theorem set_dig (c : UInt8) : c_0123456789.data.toList.contains c = digB c := by
  have h : ∀ n : Fin 256, c_0123456789.data.toList.contains (UInt8.ofNat n.val) = digB (UInt8.ofNat n.val) := by decide +kernel
  have := h ⟨c.toNat, c.toNat_lt⟩
  simpa using this
theorem digits_ok (s : ByteArray) (hs : s.size ≤ 2000000) : mastref2_digitsAlone.f s = some (!s.data.toList.isEmpty && s.data.toList.all digB) := by
  have hc : strings_Trim.f s c_0123456789 = some ⟨(Lib.trimS s.data.toList c_0123456789.data.toList).toArray⟩ := by
    unfold strings_Trim.f
    rw [if_pos ⟨by omega, by decide, by decide +kernel⟩]
  unfold mastref2_digitsAlone.f
  rw [seq_empty, hc]
  cases h : s.data.toList.isEmpty with
  | true => rfl
  | false =>
    simp only [Bool.not_false, cond_true, Option.bind_some, Bool.true_and]
    rw [seq_empty]
    show some (Lib.trimS s.data.toList _).isEmpty = _
    rw [trim_nil, show (fun x => c_0123456789.data.toList.contains x) = digB from funext set_dig]
theorem split_sz (sep : ByteArray) : ∀ (k : Nat) (s x : ByteArray), x ∈ Lib.splitB sep 0 k s → x.size ≤ s.size
  | 0, s, x, h => by
    have : x = s := by simpa [Lib.splitB] using h
    rw [this]; exact Nat.le_refl _
  | k + 1, s, x, h => by
    unfold Lib.splitB at h
    split at h
    · have : x = s := by simpa using h
      rw [this]; exact Nat.le_refl _
    · rcases List.mem_cons.1 h with rfl | h
      · rw [ByteArray.size_extract]; omega
      · have := split_sz sep k _ x h
        rw [ByteArray.size_extract] at this; omega
theorem dig_not {c : UInt8} (h : digB c = true) : c ≠ 45 ∧ c ≠ 43 ∧ c ≠ 42 := by
  refine ⟨?_, ?_, ?_⟩ <;> rintro rfl <;> exact absurd h (by decide)
theorem slen_dash : slen c__2d = 1 := rfl
theorem trimDash (p : ByteArray) : strings_TrimPrefix.f p c__2d = some (match p.data.toList with | [] => p | c :: r => if c = 45 then p.extract 1 p.size else p) := by
  unfold strings_TrimPrefix.f internal_stringslite_TrimPrefix.f internal_stringslite_HasPrefix.f
  rw [slen_dash]
  have hl := size_l p
  cases hb : p.data.toList with
  | nil =>
    rw [hb] at hl
    rw [ile_f (show slen p < 1 by show (p.size : Int) < 1; rw [hl]; decide)]
    rfl
  | cons c r =>
    rw [hb] at hl
    have hl1 : 1 ≤ p.size := by rw [hl]; simp
    rw [ile_t (show (1 : Int) ≤ slen p by show (1 : Int) ≤ p.size; omega)]
    have hx : ssub p 0 1 = some (p.extract 0 1) := by
      unfold ssub
      rw [if_pos ⟨by omega, by omega, by omega⟩]; rfl
    have hy : ssub p 1 (slen p) = some (p.extract 1 p.size) := by
      unfold ssub
      rw [show slen p = (p.size : Int) from rfl, if_pos ⟨by omega, by omega, by omega⟩]; rfl
    have hs : seq (p.extract 0 1) c__2d = decide (c = 45) := by
      unfold seq
      rw [ByteArray.toList_eq, ByteArray.toList_eq, ex_data p 0 1 (by omega), hb]
      show ([c] == [45]) = _
      by_cases h : c = 45
      · subst h; rfl
      · rw [decide_eq_false h]; simp [h]
    simp only [cond_true, hx, Option.bind_some, hs]
    by_cases h : c = 45
    · rw [decide_eq_true h, if_pos h]
      simp only [cond_true, hy, Option.bind_some]
    · rw [decide_eq_false h, if_neg h]
      rfl

/-- The number of digits. -/
def hors (n : Int) (l : List UInt8) : Int := l.foldl (fun n c => 10 * n + ((c.toNat : Int) - 48)) n
theorem dig_in {c : UInt8} (h : digB c = true) : 48 ≤ c.toNat ∧ c.toNat ≤ 57 := by
  unfold digB at h
  by_cases q : (48 : Int) ≤ c.toNat
  · rw [ile_t q, cond_true] at h
    have := of_decide_eq_true h
    omega
  · rw [ile_f (by omega)] at h; exact nomatch h
theorem hors_bd : ∀ (l : List UInt8) (n : Int), l.all digB = true → 0 ≤ n → 0 ≤ hors n l ∧ hors n l < (n + 1) * 10 ^ l.length
  | [], n, _, h0 => by unfold hors; simp; omega
  | c :: r, n, h, h0 => by
    rw [List.all_cons, Bool.and_eq_true] at h
    have hc := dig_in h.1
    have ih := hors_bd r (10 * n + ((c.toNat : Int) - 48)) h.2 (by omega)
    have e : hors n (c :: r) = hors (10 * n + ((c.toNat : Int) - 48)) r := rfl
    rw [e]
    refine ⟨ih.1, Int.lt_of_lt_of_le ih.2 ?_⟩
    rw [List.length_cons, Int.pow_succ, Int.mul_comm (10 ^ r.length) 10, ← Int.mul_assoc]
    exact Int.mul_le_mul_of_nonneg_right (by omega) (Int.le_of_lt (Int.pow_pos (by decide)))
theorem dec_hors : ∀ (l : List UInt8) (n : Nat), l.all digB = true → ∃ m : Nat, Lib.decFrom n l = some m ∧ (m : Int) = hors (n : Int) l
  | [], n, _ => ⟨n, rfl, rfl⟩
  | b :: r, n, h => by
    rw [List.all_cons, Bool.and_eq_true] at h
    have hb := dig_in h.1
    obtain ⟨m, h1, h2⟩ := dec_hors r (n * 10 + (b.toNat - 48)) h.2
    refine ⟨m, ?_, ?_⟩
    · unfold Lib.decFrom Lib.digitVal
      rw [if_pos hb]
      exact h1
    · rw [h2]
      show _ = hors (10 * (n : Int) + ((b.toNat : Int) - 48)) r
      congr 1; omega
theorem atoi_hors {p : ByteArray} (h : dg p.data.toList = true) : ∃ n : Nat, strconv_Atoi.f p = some (n : Int) ∧ (n : Int) = hors 0 p.data.toList := by
  cases hb : p.data.toList with
  | nil => rw [hb] at h; exact nomatch h
  | cons c r =>
    rw [hb] at h
    simp only [dg, Bool.and_eq_true] at h
    obtain ⟨⟨h1, h2⟩, _⟩ := h
    have h2 : r.length ≤ 3 := of_decide_eq_true h2
    have hc := dig_not (List.all_eq_true.1 h1 c (List.mem_cons_self ..))
    obtain ⟨m, hm, hm2⟩ := dec_hors (c :: r) 0 h1
    refine ⟨m, ?_, hm2⟩
    unfold strconv_Atoi.f atoiF
    rw [size_l, hb, if_pos (by simp; omega)]
    unfold Lib.atoi
    have e1 : (c == 45) = false := beq_eq_false_iff_ne.2 hc.1
    have e2 : (c == 43) = false := beq_eq_false_iff_ne.2 hc.2.1
    simp only [e1, e2, Bool.false_eq_true, if_false, Lib.decNat, List.isEmpty_cons, hm]
    rfl
theorem dig_sub {c : UInt8} (h : digB c = true) : wcv .i64 (wsub .u8 (c.toNat : Int) 48) = (c.toNat : Int) - 48 := by
  have hc := dig_in h
  have h1 : wsub .u8 (c.toNat : Int) 48 = (c.toNat : Int) - 48 := wrap_u rfl (by omega) (by show (c.toNat : Int) - 48 < 2 ^ 8; omega)
  rw [h1]
  unfold wcv
  exact wrap64 (by omega) (by omega)

/-! Pieces. -/
def prts (c : UInt8) (s : ByteArray) : List ByteArray := Lib.splitB ⟨#[c]⟩ 0 (Lib.countB s ⟨#[c]⟩) s
theorem prts_pcs (c : UInt8) (s : ByteArray) : (prts c s).map (·.data.toList) = pcs c s.data.toList := by
  unfold prts
  rw [Lib.splitB_data]
  show Lib.splitK [c] 0 (Lib.count s.data.toList [c]) s.data.toList = _
  rw [Lib.count_one]
  exact splitK_pcs c _
theorem prts_len (c : UInt8) (s : ByteArray) : (prts c s).length = (pcs c s.data.toList).length := by rw [← prts_pcs, List.length_map]
theorem prts_at (c : UInt8) (s : ByteArray) (i : Nat) (h : i < (prts c s).length) : (prts c s)[i].data.toList = (pcs c s.data.toList)[i]'(by rw [← prts_len]; exact h) := by
  have : ((prts c s).map (·.data.toList))[i]'(by rw [List.length_map]; exact h) = (pcs c s.data.toList)[i]'(by rw [← prts_len]; exact h) := by
    congr 1
    exact prts_pcs c s
  rw [← this, List.getElem_map]
theorem sp10 (s : ByteArray) (h : s.size ≤ 2000000) : strings_Split.f s c__0a = some (prts 10 s) := by
  unfold strings_Split.f splitF
  rw [if_pos ⟨by omega, by decide⟩]; rfl
theorem sp32 (s : ByteArray) (h : s.size ≤ 2000000) : strings_Split.f s c__20 = some (prts 32 s) := by
  unfold strings_Split.f splitF
  rw [if_pos ⟨by omega, by decide⟩]; rfl
theorem prts_sz (c : UInt8) (s x : ByteArray) (h : x ∈ prts c s) : x.size ≤ s.size := split_sz _ _ _ _ h
theorem idx_cut : ∀ (p r : List UInt8), (10 : UInt8) ∉ p → Lib.index (p ++ 10 :: r) [10] = (p.length : Int)
  | [], r, _ => by simp [Lib.index]
  | b :: p, r, h => by
    have h1 : b ≠ 10 := fun e => h (by rw [e]; exact List.mem_cons_self ..)
    have ih := idx_cut p r fun e => h (List.mem_cons_of_mem _ e)
    have h2 : ((10 : UInt8) == b) = false := beq_eq_false_iff_ne.2 fun e => h1 e.symm
    have h3 : ((p.length : Int) == -1) = false := beq_eq_false_iff_ne.2 (by omega)
    simp only [List.cons_append, Lib.index, List.isPrefixOf, h2, Bool.false_and, Bool.false_eq_true, if_false, ih, h3, List.length_cons]
    omega
theorem idx_no : ∀ l : List UInt8, (10 : UInt8) ∉ l → Lib.index l [10] = -1
  | [], _ => rfl
  | b :: p, h => by
    have h1 : b ≠ 10 := fun e => h (by rw [e]; exact List.mem_cons_self ..)
    have ih := idx_no p fun e => h (List.mem_cons_of_mem _ e)
    have h2 : ((10 : UInt8) == b) = false := beq_eq_false_iff_ne.2 fun e => h1 e.symm
    simp [Lib.index, List.isPrefixOf, h2, ih]
theorem ssub_ok (s : ByteArray) (a b : Nat) (h1 : a ≤ b) (h2 : b ≤ s.size) : ssub s (a : Int) (b : Int) = some (s.extract a b) := by
  unfold ssub
  rw [if_pos ⟨by omega, by omega, by omega⟩, Int.toNat_natCast, Int.toNat_natCast]
theorem cut_ok (s : ByteArray) (hs : s.size ≤ 2000000) (p r : List UInt8) (hb : s.data.toList = p ++ 10 :: r) (h : (10 : UInt8) ∉ p) : ∃ a b, strings_Cut.f s c__0a = some (a, b, true) ∧ a.data.toList = p ∧ b.data.toList = r ∧ a.size ≤ s.size ∧ b.size ≤ s.size := by
  have hl := size_l s
  rw [hb] at hl
  simp only [List.length_append, List.length_cons] at hl
  have hi : internal_stringslite_Index.f s c__0a = some (p.length : Int) := by
    unfold internal_stringslite_Index.f
    rw [if_pos (by omega), hb]
    exact congrArg some (idx_cut p r h)
  have h1 : ssub s 0 (p.length : Int) = some (s.extract 0 p.length) := ssub_ok s 0 p.length (by omega) (by omega)
  have h2 : ssub s ((p.length + 1 : Nat) : Int) (slen s) = some (s.extract (p.length + 1) s.size) := ssub_ok s (p.length + 1) s.size (by omega) (by omega)
  refine ⟨s.extract 0 p.length, s.extract (p.length + 1) s.size, ?_, ?_, ?_, ?_, ?_⟩
  · unfold strings_Cut.f internal_stringslite_Cut.f
    have e : wadd .i64 (p.length : Int) (slen c__0a) = ((p.length + 1 : Nat) : Int) := u0 (by omega)
    rw [hi]
    simp only [Option.bind_some, ile_t (show (0 : Int) ≤ (p.length : Int) by omega), cond_true, h1, e, h2]
  · rw [ex_data s 0 p.length (by omega), hb]; simp
  · rw [ex_data s (p.length + 1) s.size (by omega), hb]
    have e : (p ++ 10 :: r).drop (p.length + 1) = r := by
      rw [← List.drop_drop]; simp
    rw [e, List.take_of_length_le (by omega)]
  · rw [ByteArray.size_extract]; omega
  · rw [ByteArray.size_extract]; omega
theorem cut_no (s : ByteArray) (hs : s.size ≤ 2000000) (h : (10 : UInt8) ∉ s.data.toList) : strings_Cut.f s c__0a = some (s, c_empty, false) := by
  have hi : internal_stringslite_Index.f s c__0a = some (-1) := by
    unfold internal_stringslite_Index.f
    rw [if_pos (by omega)]
    exact congrArg some (idx_no _ h)
  unfold strings_Cut.f internal_stringslite_Cut.f
  rw [hi]
  rfl
theorem cut_two : ∀ l : List UInt8, (10 : UInt8) ∉ l ∨ ∃ p r, l = p ++ 10 :: r ∧ (10 : UInt8) ∉ p
  | [] => .inl (by simp)
  | b :: l => by
    by_cases h : b = 10
    · exact .inr ⟨[], l, by rw [h]; rfl, by simp⟩
    · rcases cut_two l with q | ⟨p, r, q1, q2⟩
      · exact .inl fun e => by
          rcases List.mem_cons.1 e with e | e
          · exact h e.symm
          · exact q e
      · exact .inr ⟨b :: p, r, by rw [q1]; rfl, fun e => by
          rcases List.mem_cons.1 e with e | e
          · exact h e.symm
          · exact q2 e⟩

/-! A side. -/
def sd (l : List UInt8) : Int × Bool := bif dg l then (hors 0 l, true) else (0, false)
theorem side_loop (p : ByteArray) (hl : p.data.toList.length ≤ 4) : ∀ (d j : Nat) (n : Int), p.data.toList.length - j ≤ d → j ≤ p.data.toList.length → 0 ≤ n → n < 10 ^ j → Ev (fun k => asset_side.l0 k p n (j : Int)) (bif (p.data.toList.drop j).all digB then (hors n (p.data.toList.drop j), true) else (0, false)) := by
  intro d
  have last : ∀ (j : Nat) (n : Int), p.data.toList.length ≤ j → j ≤ p.data.toList.length → Ev (fun k => asset_side.l0 k p n (j : Int)) (bif (p.data.toList.drop j).all digB then (hors n (p.data.toList.drop j), true) else (0, false)) := fun j n hj hj2 => by
    rw [List.drop_eq_nil_of_le hj]
    refine Ev.step (g := fun _ => some (n, true)) (fun k => ?_) (Ev.now fun _ => rfl)
    simp only [asset_side.l0, slen_l, ilt_f (show (p.data.toList.length : Int) ≤ (j : Int) by omega), cond_false]
  induction d with
  | zero => intro j n hd hj _ _; exact last j n (by omega) hj
  | succ d ih =>
    intro j n hd hj h0 h1
    rcases Nat.lt_or_ge j p.data.toList.length with hlt | hge
    · rw [List.drop_eq_getElem_cons hlt, List.all_cons]
      have hdg : asset_isDigit.f (p.data.toList[j].toNat : Int) = some (digB p.data.toList[j]) := rfl
      cases q : digB p.data.toList[j] with
      | false =>
        refine Ev.step (g := fun _ => some (0, false)) (fun k => ?_) (Ev.now fun _ => rfl)
        simp only [asset_side.l0, slen_l, Go.Proofs.YtmbjiadilfbooaaGreatDoor.Lift.ilen _ _ hlt, cond_true, sat_l hlt, Option.bind_some, hdg, q, Bool.not_false]
      | true =>
        have hc := dig_in q
        have hp : (10 : Int) ^ j ≤ 1000 := by
          have : j ≤ 3 := by omega
          rcases j with _ | _ | _ | _ | j <;> first | decide | omega
        have e : wadd .i64 (wmul .i64 10 n) (wcv .i64 (wsub .u8 (p.data.toList[j].toNat : Int) 48)) = 10 * n + ((p.data.toList[j].toNat : Int) - 48) := by
          rw [dig_sub q, wmul64 (by omega) (by omega), wadd64 (by omega) (by omega)]
        have nx := ih (j + 1) (10 * n + ((p.data.toList[j].toNat : Int) - 48)) (by omega) hlt (by omega) (by rw [Int.pow_succ]; omega)
        refine Ev.step (fun k => ?_) nx
        simp only [asset_side.l0, slen_l, Go.Proofs.YtmbjiadilfbooaaGreatDoor.Lift.ilen _ _ hlt, cond_true, sat_l hlt, Option.bind_some, hdg, q, Bool.not_true, cond_false, e, u0 (show j ≤ 4611686018427387904 by omega)]
    · exact last j n hge hj
theorem side_ok (p : ByteArray) (hs : p.size ≤ 2000000) : Ev (fun k => asset_side.f k p) (sd p.data.toList) := by
  unfold sd
  have hse := seq_empty p
  cases hb : p.data.toList with
  | nil =>
    rw [hb] at hse
    exact Ev.now fun k => by simp only [asset_side.f, hse, List.isEmpty_nil, cond_true]; rfl
  | cons c r =>
    rw [hb] at hse
    have hlen : slen p = ((r.length + 1 : Nat) : Int) := by rw [slen_l, hb, List.length_cons]
    by_cases h4 : r.length ≤ 3
    · have f4 : ilt 4 (slen p) = false := by rw [hlen]; exact ilt_f (by omega)
      have e1 : (bif seq p c_empty then true else ilt 4 (slen p)) = false := by rw [hse, f4]; rfl
      cases h48 : (bif (ieq (c.toNat : Int) 48) then (!seq p c_0) else false) with
      | true =>
        have hd : dg (c :: r) = false := by
          rw [seq_zero, hb] at h48
          simp only [dg]
          cases q : ieq (c.toNat : Int) 48 with
          | false => rw [q] at h48; exact nomatch h48
          | true =>
            rw [q, cond_true] at h48
            have : (c :: r == [48]) = false := by
              cases z : (c :: r == [48]) with
              | false => rfl
              | true => rw [z] at h48; exact nomatch h48
            rw [this]; simp
        rw [hd]
        exact Ev.now fun k => by simp only [asset_side.f, e1, cond_false, sat_0 hb, Option.bind_some, h48, cond_true]
      | false =>
        have hd : dg (c :: r) = (c :: r).all digB := by
          rw [seq_zero, hb] at h48
          simp only [dg, decide_eq_true h4, Bool.and_true]
          cases q : ieq (c.toNat : Int) 48 with
          | false => simp
          | true =>
            rw [q, cond_true] at h48
            have : (c :: r == [48]) = true := by
              cases z : (c :: r == [48]) with
              | true => rfl
              | false => rw [z] at h48; exact nomatch h48
            rw [this]; simp
        rw [hd]
        have := side_loop p (by rw [hb]; simp; omega) p.data.toList.length 0 0 (by omega) (by omega) (by omega) (by decide)
        rw [List.drop_zero, hb] at this
        exact Ev.congr (fun k => by simp only [asset_side.f, e1, cond_false, sat_0 hb, Option.bind_some, h48]; rfl) this
    · have f4 : ilt 4 (slen p) = true := by rw [hlen]; exact ilt_t (by omega)
      have hd : dg (c :: r) = false := by simp only [dg, decide_eq_false h4]; simp
      rw [hd]
      have e1 : (bif seq p c_empty then true else ilt 4 (slen p)) = true := by rw [f4]; cases seq p c_empty <;> rfl
      exact Ev.now fun k => by simp only [asset_side.f, e1, cond_true]; rfl
theorem num_ok (p : ByteArray) (hs : p.size ≤ 2000000) : mastref2_ReadImageOf_c1.f p = some (sd p.data.toList) := by
  unfold mastref2_ReadImageOf_c1.f sd
  rw [digits_ok p hs]
  cases hb : p.data.toList with
  | nil => rfl
  | cons c r =>
    cases ha : (c :: r).all digB with
    | false =>
      have hd : dg (c :: r) = false := by simp only [dg, ha]; simp
      rw [hd]; rfl
    | true =>
      have hc := dig_not (List.all_eq_true.1 ha c (List.mem_cons_self ..))
      have ht : strings_TrimPrefix.f p c__2d = some p := by rw [trimDash, hb]; simp only [if_neg hc.1]
      have hf : mastref2_intForm.f p = some (!ieq (c.toNat : Int) 48 || (c :: r == [48])) := by
        unfold mastref2_intForm.f
        rw [ht]
        simp only [Option.bind_some, digits_ok p hs, hb, ha, List.isEmpty_cons, Bool.not_false, Bool.true_and, cond_true, sat_0 hb, seq_zero]
        cases ieq (c.toNat : Int) 48 <;> cases (c :: r == [48]) <;> rfl
      simp only [List.isEmpty_cons, Bool.not_false, Bool.true_and, Option.bind_some, Bool.not_true, cond_false, hf]
      have hlen : slen p = ((r.length + 1 : Nat) : Int) := by rw [slen_l, hb, List.length_cons]
      cases hz : (!ieq (c.toNat : Int) 48 || (c :: r == [48])) with
      | false =>
        have hd : dg (c :: r) = false := by simp only [dg, hz]; simp
        rw [hd]; rfl
      | true =>
        by_cases h4 : r.length ≤ 3
        · have hd : dg (c :: r) = true := by simp only [dg, ha, hz, decide_eq_true h4]; rfl
          have f4 : ilt 4 (slen p) = false := by rw [hlen]; exact ilt_f (by omega)
          obtain ⟨n, h1, h2⟩ := atoi_hors (p := p) (by rw [hb]; exact hd)
          rw [hb] at h2
          rw [hd, f4, h1, h2]; rfl
        · have hd : dg (c :: r) = false := by simp only [dg, decide_eq_false h4]; simp
          have f4 : ilt 4 (slen p) = true := by rw [hlen]; exact ilt_t (by omega)
          rw [hd, f4]; rfl
theorem hors_nat {l : List UInt8} (h : dg l = true) : 0 ≤ hors 0 l ∧ hors 0 l ≤ 9999 := by
  cases l with
  | nil => exact nomatch h
  | cons c r =>
    simp only [dg, Bool.and_eq_true] at h
    obtain ⟨⟨h1, h2⟩, _⟩ := h
    have h2 : r.length ≤ 3 := of_decide_eq_true h2
    have := hors_bd (c :: r) 0 h1 (by omega)
    have hp : (10 : Int) ^ (c :: r).length ≤ 10000 := by
      rw [List.length_cons]
      generalize r.length = m at h2
      rcases m with _ | _ | _ | _ | m <;> first | decide | omega
    omega

/-! Digits of sixteen. -/
def hx (b : UInt8) : Int := Lib.indexByte c_0123456789abcdef.data.toList b
theorem hx_ok (b : UInt8) : strings_IndexByte.f c_0123456789abcdef (b.toNat : Int) = some (hx b) := by
  unfold strings_IndexByte.f hx
  congr 2
  simp
def hexB (b : UInt8) : Bool := !ilt (hx b) 0
theorem hex_set (c : UInt8) : c_0123456789abcdef.data.toList.contains c = hexB c := by
  have h : ∀ n : Fin 256, c_0123456789abcdef.data.toList.contains (UInt8.ofNat n.val) = hexB (UInt8.ofNat n.val) := by decide +kernel
  have := h ⟨c.toNat, c.toNat_lt⟩
  simpa using this
theorem hex10 : hexB 10 = false := by decide +kernel
theorem trim_hex (s : ByteArray) (hs : s.size ≤ 2000000) : ∃ t, strings_Trim.f s c_0123456789abcdef = some t ∧ seq t c_empty = s.data.toList.all hexB := by
  refine ⟨⟨(Lib.trimS s.data.toList c_0123456789abcdef.data.toList).toArray⟩, ?_, ?_⟩
  · unfold strings_Trim.f
    rw [if_pos ⟨by omega, by decide, by decide +kernel⟩]
  · rw [seq_empty]
    show (Lib.trimS s.data.toList _).isEmpty = _
    rw [trim_nil, show (fun x => c_0123456789abcdef.data.toList.contains x) = hexB from funext hex_set]

/-! An image is checked. -/
def lvBad (x : Int) : Bool := bif ilt x 0 then true else ilt 15 x
def sideB (x : Int) : Bool := bif ile 1 x then ile x 64 else false
def chkI (w h : Int) (lv : List Int) : Int := bif !sideB w then 2 else bif !sideB h then 2 else bif !ieq (llen lv) (wmul .i64 w h) then 1 else bif lv.any lvBad then 2 else 0

theorem chkL_ok (w h : Int) (lv : List Int) (hl : lv.length ≤ 1000000) : Ev (fun k => asset_CheckImage.f k ⟨w, h, lv⟩) (chkI w h lv) := by
  have loop : ∀ (d j : Nat), lv.length - j ≤ d → j ≤ lv.length → Ev (fun k => asset_CheckImage.l0 k lv (llen lv) (j : Int)) (bif (lv.drop j).any lvBad then 2 else 0) := by
    intro d
    have last : ∀ j : Nat, lv.length ≤ j → Ev (fun k => asset_CheckImage.l0 k lv (llen lv) (j : Int)) (bif (lv.drop j).any lvBad then 2 else 0) := fun j hj => by
      rw [List.drop_eq_nil_of_le hj]
      refine Ev.step (g := fun _ => some 0) (fun k => ?_) (Ev.now fun _ => rfl)
      simp only [asset_CheckImage.l0, llen_eq, ilt_f (show (lv.length : Int) ≤ (j : Int) by omega), cond_false]
    induction d with
    | zero => intro j hd hj; exact last j (by omega)
    | succ d ih =>
      intro j hd hj
      rcases Nat.lt_or_ge j lv.length with hlt | hge
      · rw [List.drop_eq_getElem_cons hlt, List.any_cons]
        have st : ∀ k, asset_CheckImage.l0 (k + 1) lv (llen lv) (j : Int) = bif lvBad lv[j] then some 2 else asset_CheckImage.l0 k lv (llen lv) ((j + 1 : Nat) : Int) := fun k => by
          simp only [asset_CheckImage.l0, llen_eq, Go.Proofs.YtmbjiadilfbooaaGreatDoor.Lift.ilen _ _ hlt, cond_true, lat_lt hlt, Option.bind_some, u0 (show j ≤ 4611686018427387904 by omega)]
          rfl
        cases q : lvBad lv[j] with
        | true => exact Ev.step (g := fun _ => some 2) (fun k => by rw [st, q]; rfl) (Ev.now fun _ => rfl)
        | false => exact Ev.step (fun k => by rw [st, q]; rfl) (ih (j + 1) (by omega) hlt)
      · exact last j hge
  have l := loop lv.length 0 (by omega) (by omega)
  rw [List.drop_zero] at l
  have s1 : ∀ x, asset_isSide.f x = some (sideB x) := fun x => rfl
  unfold chkI
  cases h1 : sideB w with
  | false => exact Ev.now fun k => by simp only [asset_CheckImage.f, s1, h1, Option.bind_some, Bool.not_false, cond_true]
  | true =>
    cases h2 : sideB h with
    | false => exact Ev.now fun k => by simp only [asset_CheckImage.f, s1, h1, h2, Option.bind_some, Bool.not_true, cond_false, Bool.not_false, cond_true]
    | true =>
      cases h3 : ieq (llen lv) (wmul .i64 w h) with
      | false => exact Ev.now fun k => by simp only [asset_CheckImage.f, s1, h1, h2, h3, Option.bind_some, Bool.not_true, cond_false, Bool.not_false, cond_true]
      | true => exact Ev.congr (fun k => by simp only [asset_CheckImage.f, s1, h1, h2, h3, Option.bind_some, Bool.not_true, cond_false]; rfl) l

theorem chkR_ok (w h : Int) (lv : List Int) (hl : lv.length ≤ 1000000) : Ev (fun k => mastref2_ImageFault.f k ⟨w, h, lv⟩) (chkI w h lv) := by
  have loop : ∀ (d j : Nat), lv.length - j ≤ d → j ≤ lv.length → Ev (fun k => mastref2_ImageFault.l0 k lv (llen lv) (j : Int)) (bif (lv.drop j).any lvBad then 2 else 0) := by
    intro d
    have last : ∀ j : Nat, lv.length ≤ j → Ev (fun k => mastref2_ImageFault.l0 k lv (llen lv) (j : Int)) (bif (lv.drop j).any lvBad then 2 else 0) := fun j hj => by
      rw [List.drop_eq_nil_of_le hj]
      refine Ev.step (g := fun _ => some 0) (fun k => ?_) (Ev.now fun _ => rfl)
      simp only [mastref2_ImageFault.l0, llen_eq, ilt_f (show (lv.length : Int) ≤ (j : Int) by omega), cond_false]
    induction d with
    | zero => intro j hd hj; exact last j (by omega)
    | succ d ih =>
      intro j hd hj
      rcases Nat.lt_or_ge j lv.length with hlt | hge
      · rw [List.drop_eq_getElem_cons hlt, List.any_cons]
        have st : ∀ k, mastref2_ImageFault.l0 (k + 1) lv (llen lv) (j : Int) = bif lvBad lv[j] then some 2 else mastref2_ImageFault.l0 k lv (llen lv) ((j + 1 : Nat) : Int) := fun k => by
          simp only [mastref2_ImageFault.l0, llen_eq, Go.Proofs.YtmbjiadilfbooaaGreatDoor.Lift.ilen _ _ hlt, cond_true, lat_lt hlt, Option.bind_some, u0 (show j ≤ 4611686018427387904 by omega)]
          rfl
        cases q : lvBad lv[j] with
        | true => exact Ev.step (g := fun _ => some 2) (fun k => by rw [st, q]; rfl) (Ev.now fun _ => rfl)
        | false => exact Ev.step (fun k => by rw [st, q]; rfl) (ih (j + 1) (by omega) hlt)
      · exact last j hge
  have l := loop lv.length 0 (by omega) (by omega)
  rw [List.drop_zero] at l
  have s1 : ∀ x, mastref2_isSide.f x = some (sideB x) := fun x => rfl
  unfold chkI
  cases h1 : sideB w with
  | false => exact Ev.now fun k => by simp only [mastref2_ImageFault.f, s1, h1, Option.bind_some, Bool.not_false, cond_true]
  | true =>
    cases h2 : sideB h with
    | false => exact Ev.now fun k => by simp only [mastref2_ImageFault.f, s1, h1, h2, Option.bind_some, Bool.not_true, cond_false, Bool.not_false, cond_true]
    | true =>
      cases h3 : ieq (llen lv) (wmul .i64 w h) with
      | false => exact Ev.now fun k => by simp only [mastref2_ImageFault.f, s1, h1, h2, h3, Option.bind_some, Bool.not_true, cond_false, Bool.not_false, cond_true]
      | true => exact Ev.congr (fun k => by simp only [mastref2_ImageFault.f, s1, h1, h2, h3, Option.bind_some, Bool.not_true, cond_false]; rfl) l

def zimg : T_asset_Image := ⟨0, 0, []⟩
def resI (w h : Int) (lv : List Int) : T_asset_Image × Int := bif !ieq (chkI w h lv) 0 then (zimg, chkI w h lv) else (⟨w, h, lv⟩, 0)
def orI (w h : Int) (acc : List Int) : Option (List Int) → T_asset_Image × Int
  | none => (zimg, 8)
  | some lv => resI w h (acc ++ lv)

/-! The program goes from byte to byte. -/
def scan (w : Nat) : List UInt8 → Nat → Option (List Int)
  | [], _ => some []
  | b :: r, i => if i % (w + 1) = w then (if b = 10 then scan w r (i + 1) else none) else bif hexB b then (scan w r (i + 1)).map (hx b :: ·) else none
theorem scan_ok (s : ByteArray) (hs : s.data.toList.length ≤ 20000) (w : Nat) (hw : w ≤ 9999) (h : Int) : ∀ (d i : Nat) (acc : List Int), s.data.toList.length - i ≤ d → i ≤ s.data.toList.length → acc.length ≤ i → Ev (fun k => asset_ReadImage.l1 k 0 0 [] s (w : Int) (w : Int) h acc (i : Int)) (orI (w : Int) h acc (scan w (s.data.toList.drop i) i)) := by
  intro d
  have last : ∀ (i : Nat) (acc : List Int), s.data.toList.length ≤ i → acc.length ≤ 20000 → Ev (fun k => asset_ReadImage.l1 k 0 0 [] s (w : Int) (w : Int) h acc (i : Int)) (orI (w : Int) h acc (scan w (s.data.toList.drop i) i)) := fun i acc hi ha => by
    rw [List.drop_eq_nil_of_le hi]
    refine Ev.step (fun k => by simp only [asset_ReadImage.l1, slen_l, ilt_f (show (s.data.toList.length : Int) ≤ (i : Int) by omega), cond_false]; rfl) (Ev.bind (chkL_ok (w : Int) h acc (by omega)) ?_)
    simp only [scan, orI, List.append_nil, resI]
    cases !ieq (chkI (w : Int) h acc) 0 with
    | true => exact Ev.now fun _ => rfl
    | false => exact Ev.now fun _ => rfl
  induction d with
  | zero => intro i acc hd hi ha; exact last i acc (by omega) (by omega)
  | succ d ih =>
    intro i acc hd hi ha
    rcases Nat.lt_or_ge i s.data.toList.length with hlt | hge
    · rw [List.drop_eq_getElem_cons hlt]
      have hsat := sat_l hlt
      have hin := Go.Proofs.YtmbjiadilfbooaaGreatDoor.Lift.ilen _ _ hlt
      generalize s.data.toList[i] = b at hsat
      have e1 : wadd .i64 (w : Int) 1 = ((w + 1 : Nat) : Int) := u0 (by omega)
      have e2 : ieq ((w + 1 : Nat) : Int) 0 = false := ieq_f (by omega)
      have e3 : ieq (irem (i : Int) ((w + 1 : Nat) : Int)) (w : Int) = decide (i % (w + 1) = w) := by
        unfold irem
        rw [← Int.ofNat_tmod, ieq_d]
        congr 1
        exact propext ⟨fun h => by omega, fun h => by omega⟩
      have e4 : ieq (b.toNat : Int) 10 = decide (b = 10) := by
        rw [ieq_d]
        congr 1
        exact propext ⟨fun h => UInt8.toNat_inj.1 (by rw [show (10 : UInt8).toNat = 10 from rfl]; omega), fun h => by rw [h]; rfl⟩
      simp only [scan]
      by_cases q : i % (w + 1) = w
      · rw [if_pos q]
        by_cases q2 : b = 10
        · rw [if_pos q2]
          refine Ev.step (fun k => ?_) (ih (i + 1) acc (by omega) hlt (by omega))
          simp only [asset_ReadImage.l1, slen_l, hin, cond_true, e1, e2, cond_false, e3, decide_eq_true q, hsat, Option.bind_some, e4, decide_eq_true q2, Bool.not_true, u0 (show i ≤ 4611686018427387904 by omega)]
        · rw [if_neg q2]
          refine Ev.step (g := fun _ => some (zimg, 8)) (fun k => ?_) (Ev.now fun _ => rfl)
          simp only [asset_ReadImage.l1, slen_l, hin, cond_true, e1, e2, cond_false, e3, decide_eq_true q, hsat, Option.bind_some, e4, decide_eq_false q2, Bool.not_false]
          rfl
      · rw [if_neg q]
        cases q2 : hexB b with
        | false =>
          have q3 : ilt (hx b) 0 = true := by unfold hexB at q2; simpa using q2
          refine Ev.step (g := fun _ => some (zimg, 8)) (fun k => ?_) (Ev.now fun _ => rfl)
          simp only [asset_ReadImage.l1, slen_l, hin, cond_true, e1, e2, cond_false, e3, decide_eq_false q, hsat, Option.bind_some, hx_ok, q3]
          rfl
        | true =>
          have q3 : ilt (hx b) 0 = false := by unfold hexB at q2; simpa using q2
          have hp : lapp 8 acc [hx b] = some (acc ++ [hx b]) := lapp_ok (by simp only [List.length_singleton]; omega) (by simp only [List.length_singleton]; omega)
          have nx := ih (i + 1) (acc ++ [hx b]) (by omega) hlt (by simp only [List.length_append, List.length_singleton]; omega)
          have e5 : orI (w : Int) h (acc ++ [hx b]) (scan w (s.data.toList.drop (i + 1)) (i + 1)) = orI (w : Int) h acc (bif true then (scan w (s.data.toList.drop (i + 1)) (i + 1)).map (hx b :: ·) else none) := by
            rw [cond_true]
            cases scan w (s.data.toList.drop (i + 1)) (i + 1) with
            | none => rfl
            | some lv => simp only [Option.map_some, orI, List.append_assoc]; rfl
          rw [← e5]
          refine Ev.step (fun k => ?_) nx
          simp only [asset_ReadImage.l1, slen_l, hin, cond_true, e1, e2, cond_false, e3, decide_eq_false q, hsat, Option.bind_some, hx_ok, q3, hp, u0 (show i ≤ 4611686018427387904 by omega)]
    · exact last i acc hge (by omega)

/-! The reference goes from line to line. -/
def rowsOf (w : Nat) : List (List UInt8) → Option (List Int)
  | [] => some []
  | p :: r => if p.length = w ∧ p.all hexB = true then (rowsOf w r).map (p.map hx ++ ·) else none
theorem line_ok (p : ByteArray) (hp : p.data.toList.length ≤ 20000) (w h : Int) (xs : List ByteArray) (i : Int) (X : T_asset_Image × Int) : ∀ (d j : Nat) (acc : List Int), p.data.toList.length - j ≤ d → j ≤ p.data.toList.length → acc.length ≤ 1000000 + j → (∀ a, a = acc ++ (p.data.toList.drop j).map hx → Ev (fun k => mastref2_ReadImageOf.l1 k 0 0 [] w w h a xs (llen xs) (wadd .i64 i 1)) X) → Ev (fun k => mastref2_ReadImageOf.l3 k 0 0 [] w w h acc p (j : Int) xs (llen xs) i) X := by
  intro d
  have last : ∀ (j : Nat) (acc : List Int), p.data.toList.length ≤ j → (∀ a, a = acc ++ (p.data.toList.drop j).map hx → Ev (fun k => mastref2_ReadImageOf.l1 k 0 0 [] w w h a xs (llen xs) (wadd .i64 i 1)) X) → Ev (fun k => mastref2_ReadImageOf.l3 k 0 0 [] w w h acc p (j : Int) xs (llen xs) i) X := fun j acc hj hX => by
    have := hX acc (by rw [List.drop_eq_nil_of_le hj]; simp)
    refine Ev.step (fun k => ?_) this
    simp only [mastref2_ReadImageOf.l3, slen_l, ilt_f (show (p.data.toList.length : Int) ≤ (j : Int) by omega), cond_false]
  induction d with
  | zero => intro j acc hd hj _ hX; exact last j acc (by omega) hX
  | succ d ih =>
    intro j acc hd hj ha hX
    rcases Nat.lt_or_ge j p.data.toList.length with hlt | hge
    · have hpp : lapp 8 acc [hx p.data.toList[j]] = some (acc ++ [hx p.data.toList[j]]) := lapp_ok (by simp only [List.length_singleton]; omega) (by simp only [List.length_singleton]; omega)
      have nx := ih (j + 1) (acc ++ [hx p.data.toList[j]]) (by omega) hlt (by simp only [List.length_append, List.length_singleton]; omega) (fun a e => hX a (by
        rw [e, List.drop_eq_getElem_cons hlt, List.map_cons, List.append_assoc]; rfl))
      refine Ev.step (fun k => ?_) nx
      simp only [mastref2_ReadImageOf.l3, slen_l, Go.Proofs.YtmbjiadilfbooaaGreatDoor.Lift.ilen _ _ hlt, cond_true, sat_l hlt, Option.bind_some, hx_ok, hpp, u0 (show j ≤ 4611686018427387904 by omega)]
    · exact last j acc hge hX
theorem rows_ok (xs : List ByteArray) (hxs : ∀ x ∈ xs, x.data.toList.length ≤ 20000) (hl : xs.length ≤ 20001) (w : Nat) (h : Int) : ∀ (d j : Nat) (acc : List Int), xs.length - j ≤ d → j ≤ xs.length → acc.length + ((xs.drop j).map fun x => x.data.toList.length).sum ≤ 1000000 → Ev (fun k => mastref2_ReadImageOf.l1 k 0 0 [] (w : Int) (w : Int) h acc xs (llen xs) (j : Int)) (orI (w : Int) h acc (rowsOf w ((xs.drop j).map (·.data.toList)))) := by
  intro d
  have last : ∀ (j : Nat) (acc : List Int), xs.length ≤ j → acc.length ≤ 1000000 → Ev (fun k => mastref2_ReadImageOf.l1 k 0 0 [] (w : Int) (w : Int) h acc xs (llen xs) (j : Int)) (orI (w : Int) h acc (rowsOf w ((xs.drop j).map (·.data.toList)))) := fun j acc hj ha => by
    rw [List.drop_eq_nil_of_le hj]
    refine Ev.step (fun k => by simp only [mastref2_ReadImageOf.l1, llen_eq, ilt_f (show (xs.length : Int) ≤ (j : Int) by omega), cond_false]; rfl) (Ev.bind (chkR_ok (w : Int) h acc ha) ?_)
    simp only [List.map_nil, rowsOf, orI, List.append_nil, resI]
    cases !ieq (chkI (w : Int) h acc) 0 with
    | true => exact Ev.now fun _ => rfl
    | false => exact Ev.now fun _ => rfl
  induction d with
  | zero => intro j acc hd hj ha; exact last j acc (by omega) (by omega)
  | succ d ih =>
    intro j acc hd hj ha
    rcases Nat.lt_or_ge j xs.length with hlt | hge
    · rw [List.drop_eq_getElem_cons hlt, List.map_cons, List.sum_cons] at ha
      rw [List.drop_eq_getElem_cons hlt, List.map_cons]
      have hx1 := hxs _ (List.getElem_mem hlt)
      have hlat : lat xs (j : Int) = some xs[j] := lat_lt hlt
      have hin := Go.Proofs.YtmbjiadilfbooaaGreatDoor.Lift.ilen _ _ hlt
      generalize xs[j] = p at hx1 hlat ha
      obtain ⟨t, ht1, ht2⟩ := trim_hex p (by rw [size_l]; omega)
      have bad : Ev (fun k => mastref2_ReadImageOf.l2 k 0 0 [] (w : Int) (w : Int) h acc p xs (llen xs) (j : Int) true) (zimg, 8) := Ev.step (g := fun _ => some (zimg, 8)) (fun k => by simp only [mastref2_ReadImageOf.l2, cond_true]; rfl) (Ev.now fun _ => rfl)
      simp only [rowsOf]
      by_cases q1 : p.data.toList.length = w
      · have e1 : ieq (slen p) (w : Int) = true := by rw [slen_l]; exact ieq_t (by omega)
        cases q2 : p.data.toList.all hexB with
        | false =>
          rw [if_neg (by simp)]
          refine Ev.step (fun k => ?_) bad
          simp only [mastref2_ReadImageOf.l1, llen_eq, hin, cond_true, hlat, Option.bind_some, e1, Bool.not_true, cond_false, ht1, ht2, q2, Bool.not_false]
        | true =>
          rw [if_pos ⟨q1, rfl⟩]
          have good : Ev (fun k => mastref2_ReadImageOf.l2 k 0 0 [] (w : Int) (w : Int) h acc p xs (llen xs) (j : Int) false) (orI (w : Int) h acc ((rowsOf w ((xs.drop (j + 1)).map (·.data.toList))).map (p.data.toList.map hx ++ ·))) := by
            refine Ev.step (fun k => by simp only [mastref2_ReadImageOf.l2, cond_false]; rfl) (line_ok p hx1 (w : Int) h xs (j : Int) _ p.data.toList.length 0 acc (by omega) (by omega) (by omega) fun a ea => ?_)
            rw [List.drop_zero] at ea
            have hal : a.length + ((xs.drop (j + 1)).map fun x => x.data.toList.length).sum ≤ 1000000 := by rw [ea, List.length_append, List.length_map]; omega
            have nx := ih (j + 1) a (by omega) hlt hal
            have e5 : orI (w : Int) h a (rowsOf w ((xs.drop (j + 1)).map (·.data.toList))) = orI (w : Int) h acc ((rowsOf w ((xs.drop (j + 1)).map (·.data.toList))).map (p.data.toList.map hx ++ ·)) := by
              rw [ea]
              cases rowsOf w ((xs.drop (j + 1)).map (·.data.toList)) with
              | none => rfl
              | some lv => simp only [Option.map_some, orI, List.append_assoc]
            rw [← e5, u0 (show j ≤ 4611686018427387904 by omega)]
            exact nx
          refine Ev.step (fun k => ?_) good
          simp only [mastref2_ReadImageOf.l1, llen_eq, hin, cond_true, hlat, Option.bind_some, e1, Bool.not_true, cond_false, ht1, ht2, q2]
      · have e1 : ieq (slen p) (w : Int) = false := by rw [slen_l]; exact ieq_f (by omega)
        rw [if_neg fun h => q1 h.1]
        refine Ev.step (fun k => ?_) bad
        simp only [mastref2_ReadImageOf.l1, llen_eq, hin, cond_true, hlat, Option.bind_some, e1, Bool.not_false]
    · exact last j acc hge (by omega)

/-! Both ways are one. -/
theorem hex_no10 {p : List UInt8} (h : p.all hexB = true) : (10 : UInt8) ∉ p := fun e => by
  have := List.all_eq_true.1 h 10 e
  rw [hex10] at this; cases this
theorem scan_shift (w : Nat) : ∀ (l : List UInt8) (i : Nat), scan w l (i + (w + 1)) = scan w l i
  | [], _ => rfl
  | b :: r, i => by
    have ih := scan_shift w r (i + 1)
    simp only [scan]
    rw [Nat.add_mod_right, show i + (w + 1) + 1 = i + 1 + (w + 1) by omega, ih]
theorem scan_row (w : Nat) : ∀ (p r : List UInt8) (i : Nat), p.all hexB = true → i + p.length = w → scan w (p ++ 10 :: r) i = (scan w r (w + 1)).map (p.map hx ++ ·)
  | [], r, i, _, hi => by
    have hi : i = w := by simpa using hi
    subst hi
    simp only [List.nil_append, scan]
    rw [if_pos (Nat.mod_eq_of_lt (Nat.lt_succ_self _))]
    simp
  | b :: p, r, i, h, hi => by
    rw [List.all_cons, Bool.and_eq_true] at h
    simp only [List.length_cons] at hi
    have ih := scan_row w p r (i + 1) h.2 (by omega)
    simp only [List.cons_append, scan]
    rw [if_neg (by rw [Nat.mod_eq_of_lt (by omega)]; omega), h.1, cond_true, ih, Option.map_map]
    rfl

theorem pcs_ne (c : UInt8) : ∀ l : List UInt8, pcs c l ≠ []
  | [] => by simp [pcs]
  | b :: l => by
    have ih := pcs_ne c l
    simp only [pcs]
    split
    · simp
    · cases h : pcs c l with
      | nil => exact absurd h ih
      | cons p r => simp
theorem scan_head (w : Nat) : ∀ (l : List UInt8) (i : Nat) (lv : List Int), scan w l i = some lv → i ≤ w → w + 1 ≤ i + l.length → ∃ p r, l = p ++ 10 :: r ∧ p.length = w - i ∧ p.all hexB = true
  | [], i, lv, _, hi, hl => by simp at hl; omega
  | b :: r, i, lv, h, hi, hl => by
    simp only [scan] at h
    by_cases q : i = w
    · subst q
      rw [if_pos (Nat.mod_eq_of_lt (Nat.lt_succ_self _))] at h
      split at h
      · rename_i e
        exact ⟨[], r, by rw [e]; rfl, by simp, rfl⟩
      · cases h
    · rw [if_neg (by rw [Nat.mod_eq_of_lt (by omega)]; exact q)] at h
      cases hb : hexB b with
      | false => rw [hb] at h; cases h
      | true =>
        rw [hb, cond_true] at h
        cases hr : scan w r (i + 1) with
        | none => rw [hr] at h; cases h
        | some lv2 =>
          simp only [List.length_cons] at hl
          obtain ⟨p, r2, k1, k2, k3⟩ := scan_head w r (i + 1) lv2 hr (by omega) (by omega)
          exact ⟨b :: p, r2, by rw [k1]; rfl, by rw [List.length_cons, k2]; omega, by rw [List.all_cons, hb, k3]; rfl⟩
/-- What the reference asks, the program finds. -/
theorem rows_scan (w : Nat) : ∀ (n : Nat) (l : List UInt8) (lv : List Int), l.length ≤ n → (pcs 10 l).getLast? = some [] → rowsOf w (pcs 10 l).dropLast = some lv → l.length = ((pcs 10 l).length - 1) * (w + 1) ∧ scan w l 0 = some lv := by
  intro n
  induction n with
  | zero =>
    intro l lv hl _ h2
    have : l = [] := List.eq_nil_of_length_eq_zero (by omega)
    subst this
    simp only [pcs, List.dropLast, rowsOf] at h2
    exact ⟨by simp [pcs], h2⟩
  | succ n ih =>
    intro l lv hl h1 h2
    rcases cut_two l with hno | ⟨p, r, hp, hn⟩
    · rw [pcs_none 10 l hno] at h1 h2 ⊢
      have : l = [] := by simpa using h1
      subst this
      simp only [List.dropLast, rowsOf] at h2
      exact ⟨by simp, h2⟩
    · subst hp
      rw [pcs_cut 10 p r hn] at h1 h2 ⊢
      have hne : pcs 10 r ≠ [] := pcs_ne 10 r
      rw [List.getLast?_cons_of_ne_nil hne] at h1
      rw [List.dropLast_cons_of_ne_nil hne] at h2
      simp only [rowsOf] at h2
      split at h2
      · rename_i hq
        cases hr : rowsOf w (pcs 10 r).dropLast with
        | none => rw [hr] at h2; cases h2
        | some lv2 =>
          rw [hr] at h2
          simp only [List.length_append, List.length_cons] at hl ⊢
          obtain ⟨k1, k2⟩ := ih r lv2 (by omega) h1 hr
          refine ⟨?_, ?_⟩
          · have hlen : 1 ≤ (pcs 10 r).length := List.length_pos_iff.2 hne
            obtain ⟨m, hm⟩ : ∃ m, (pcs 10 r).length = m + 1 := ⟨(pcs 10 r).length - 1, by omega⟩
            rw [hm] at k1 ⊢
            simp only [Nat.add_sub_cancel] at k1 ⊢
            rw [Nat.add_mul, ← k1]; omega
          · have := scan_row w p r 0 hq.2 (by omega)
            rw [this, show w + 1 = 0 + (w + 1) by omega, scan_shift, k2]
            exact h2
      · cases h2
/-- What the program asks, the reference finds. -/
theorem scan_rows (w : Nat) : ∀ (h : Nat) (l : List UInt8) (lv : List Int), l.length = h * (w + 1) → scan w l 0 = some lv → (pcs 10 l).getLast? = some [] ∧ (pcs 10 l).length = h + 1 ∧ rowsOf w (pcs 10 l).dropLast = some lv := by
  intro h
  induction h with
  | zero =>
    intro l lv hl hs
    have : l = [] := List.eq_nil_of_length_eq_zero (by omega)
    subst this
    exact ⟨rfl, rfl, hs⟩
  | succ h ih =>
    intro l lv hl hs
    rw [Nat.add_mul, Nat.one_mul] at hl
    obtain ⟨p, r, hp, hpl, hph⟩ := scan_head w l 0 lv hs (by omega) (by omega)
    subst hp
    simp only [Nat.sub_zero] at hpl
    have hn := hex_no10 hph
    rw [scan_row w p r 0 hph (by omega), show w + 1 = 0 + (w + 1) by omega, scan_shift] at hs
    simp only [List.length_append, List.length_cons] at hl
    cases hr : scan w r 0 with
    | none => rw [hr] at hs; cases hs
    | some lv2 =>
      rw [hr] at hs
      obtain ⟨k1, k2, k3⟩ := ih r lv2 (by omega) hr
      have hne : pcs 10 r ≠ [] := pcs_ne 10 r
      rw [pcs_cut 10 p r hn]
      refine ⟨by rw [List.getLast?_cons_of_ne_nil hne]; exact k1, by rw [List.length_cons, k2], ?_⟩
      rw [List.dropLast_cons_of_ne_nil hne]
      simp only [rowsOf]
      rw [if_pos ⟨hpl, hph⟩, k3]
      exact hs

theorem pcs_count (c : UInt8) : ∀ l : List UInt8, (pcs c l).length ≤ l.length + 1
  | [] => by simp [pcs]
  | b :: l => by
    have ih := pcs_count c l
    simp only [pcs]
    split
    · simp only [List.length_cons]; omega
    · cases h : pcs c l with
      | nil => simp
      | cons p r =>
        rw [h] at ih
        simp only [List.length_cons] at ih ⊢
        omega

theorem pcs_sum (c : UInt8) : ∀ l : List UInt8, ((pcs c l).map List.length).sum ≤ l.length
  | [] => by simp [pcs]
  | b :: l => by
    have ih := pcs_sum c l
    simp only [pcs]
    split
    · simp only [List.map_cons, List.length_nil, List.sum_cons, List.length_cons]; omega
    · cases h : pcs c l with
      | nil => simp
      | cons p r =>
        rw [h] at ih
        simp only [List.map_cons, List.sum_cons, List.length_cons] at ih ⊢
        omega
theorem dl_sum : ∀ l : List (List UInt8), (l.dropLast.map List.length).sum ≤ (l.map List.length).sum
  | [] => Nat.le_refl _
  | [a] => Nat.zero_le _
  | a :: b :: l => by
    have ih := dl_sum (b :: l)
    rw [List.dropLast_cons_of_ne_nil (by simp)]
    simp only [List.map_cons, List.sum_cons] at ih ⊢
    omega
def imgL : List UInt8 := c_image.data.toList
theorem seq_img (y : ByteArray) : seq y c_image = (y.data.toList == imgL) := by
  unfold seq
  rw [ByteArray.toList_eq, ByteArray.toList_eq]; rfl
def hdr (p : List UInt8) : Option (Nat × Nat) :=
  match pcs 32 p with
  | [a, b, c] => bif (a == imgL) && (dg b && dg c) then some ((hors 0 b).toNat, (hors 0 c).toNat) else none
  | _ => none
def progA (p r : List UInt8) : T_asset_Image × Int :=
  match hdr p with
  | none => (zimg, 8)
  | some (w, h) => if r.length = h * (w + 1) then orI w h [] (scan w r 0) else (zimg, 8)
def refA (p : List UInt8) (P : List (List UInt8)) : T_asset_Image × Int :=
  if P.getLast? = some [] then (match hdr p with
  | none => (zimg, 8)
  | some (w, h) => if P.length - 1 = h then orI w h [] (rowsOf w P.dropLast) else (zimg, 8)) else (zimg, 8)
theorem ans_eq (p r : List UInt8) : refA p (pcs 10 r) = progA p r := by
  unfold refA progA
  cases hdr p with
  | none => simp
  | some wh =>
    obtain ⟨w, h⟩ := wh
    simp only
    by_cases A : r.length = h * (w + 1)
    · rw [if_pos A]
      cases hs : scan w r 0 with
      | some lv =>
        obtain ⟨k1, k2, k3⟩ := scan_rows w h r lv A hs
        rw [if_pos k1, if_pos (by omega), k3]
      | none =>
        have e0 : orI (w : Int) (h : Int) [] none = (zimg, 8) := rfl
        rw [e0]
        split
        · rename_i k1
          split
          · cases hr : rowsOf w (pcs 10 r).dropLast with
            | none => exact e0
            | some lv =>
              have := (rows_scan w r.length r lv (Nat.le_refl _) k1 hr).2
              rw [hs] at this; cases this
          · rfl
        · rfl
    · rw [if_neg A]
      split
      · rename_i k1
        split
        · rename_i k2
          cases hr : rowsOf w (pcs 10 r).dropLast with
          | none => rfl
          | some lv =>
            have := (rows_scan w r.length r lv (Nat.le_refl _) k1 hr).1
            rw [k2] at this
            exact absurd this A
        · rfl
      · rfl
theorem three {l : List (List UInt8)} (h : l.length = 3) : ∃ a b c, l = [a, b, c] := by
  match l, h with
  | [a, b, c], _ => exact ⟨a, b, c, rfl⟩
theorem hdr_no {p : List UInt8} (h : (pcs 32 p).length ≠ 3) : hdr p = none := by
  unfold hdr
  split
  · rename_i a b c e; rw [e] at h; exact absurd rfl h
  · rfl
/-- The program. -/
theorem readL (s : ByteArray) (hs : s.size ≤ 1048576) (p r : List UInt8) (hb : s.data.toList = p ++ 10 :: r) (hn : (10 : UInt8) ∉ p) (hl : s.data.toList.length ≤ 20000) : Ev (fun k => asset_ReadImage.f k s) (progA p r) := by
  have e20 : ilt 20000 (slen s) = false := by rw [slen_l]; exact ilt_f (by omega)
  obtain ⟨a, b, hc, ha, hbr, sa, sb⟩ := cut_ok s (by omega) p r hb hn
  have t0 : Ev (fun k => asset_ReadImage.l0 k 0 0 [] b (prts 32 a) true) (zimg, 8) := Ev.step (g := fun _ => some (zimg, 8)) (fun k => by simp only [asset_ReadImage.l0, cond_true]; rfl) (Ev.now fun _ => rfl)
  have hxl : (prts 32 a).length = (pcs 32 p).length := by rw [prts_len, ha]
  by_cases h3 : (pcs 32 p).length = 3
  · obtain ⟨x, y, z, hxyz⟩ := three h3
    have l0 : 0 < (prts 32 a).length := by omega
    have l1 : 1 < (prts 32 a).length := by omega
    have l2 : 2 < (prts 32 a).length := by omega
    have d0 : (prts 32 a)[0].data.toList = x := by rw [prts_at 32 a 0 l0]; simp [ha, hxyz]
    have d1 : (prts 32 a)[1].data.toList = y := by rw [prts_at 32 a 1 l1]; simp [ha, hxyz]
    have d2 : (prts 32 a)[2].data.toList = z := by rw [prts_at 32 a 2 l2]; simp [ha, hxyz]
    have e3 : ieq (llen (prts 32 a)) 3 = true := by rw [llen_eq]; exact ieq_t (by omega)
    have la0 : lat (prts 32 a) 0 = some (prts 32 a)[0] := lat_lt (n := 0) l0
    have la1 : lat (prts 32 a) 1 = some (prts 32 a)[1] := lat_lt (n := 1) l1
    have la2 : lat (prts 32 a) 2 = some (prts 32 a)[2] := lat_lt (n := 2) l2
    have c1 : (prts 32 a)[1].size ≤ 2000000 := by have := prts_sz 32 a _ (List.getElem_mem l1); omega
    have c2 : (prts 32 a)[2].size ≤ 2000000 := by have := prts_sz 32 a _ (List.getElem_mem l2); omega
    have hh : hdr p = bif (x == imgL) && (dg y && dg z) then some ((hors 0 y).toNat, (hors 0 z).toNat) else none := by unfold hdr; rw [hxyz]
    have si := seq_img (prts 32 a)[0]
    rw [d0] at si
    have go : ∀ X, Ev (fun k => asset_ReadImage.l0 k 0 0 [] b (prts 32 a) (!(x == imgL))) X → Ev (fun k => asset_ReadImage.f k s) X := fun X hX => Ev.congr (fun k => by
      simp only [asset_ReadImage.f, e20, cond_false, hc, Option.bind_some, sp32 a (by omega), Bool.not_true, e3, la0, si]) hX
    unfold progA
    rw [hh]
    cases q : (x == imgL) with
    | false =>
      rw [q] at go
      exact go _ t0
    | true =>
      rw [q] at go
      refine go _ (Ev.step (fun k => by simp only [asset_ReadImage.l0, Bool.not_true, cond_false, la1, Option.bind_some]; rfl) (Ev.bind (side_ok _ c1) ?_))
      simp only [la2, Option.bind_some]
      refine Ev.bind (side_ok _ c2) ?_
      rw [d1, d2]
      unfold sd
      cases gy : dg y with
      | false => exact Ev.now fun _ => rfl
      | true =>
        cases gz : dg z with
        | false => exact Ev.now fun _ => rfl
        | true =>
          simp only [cond_true, Bool.not_true, cond_false, Bool.true_and, Bool.and_true]
          obtain ⟨w0, w1⟩ := hors_nat gy
          obtain ⟨h0, h1⟩ := hors_nat gz
          obtain ⟨w, hw⟩ : ∃ w : Nat, hors 0 y = (w : Int) := ⟨(hors 0 y).toNat, by omega⟩
          obtain ⟨h, hh⟩ : ∃ h : Nat, hors 0 z = (h : Int) := ⟨(hors 0 z).toNat, by omega⟩
          rw [hw, hh, Int.toNat_natCast, Int.toNat_natCast]
          have hwb : w ≤ 9999 := by omega
          have hhb : h ≤ 9999 := by omega
          have hprod : h * (w + 1) ≤ 9999 * 10000 := Nat.mul_le_mul hhb (by omega)
          have em : wmul .i64 (h : Int) (wadd .i64 (w : Int) 1) = ((h * (w + 1) : Nat) : Int) := by
            rw [u0 (show w ≤ 4611686018427387904 by omega)]
            have : (h : Int) * ((w + 1 : Nat) : Int) = ((h * (w + 1) : Nat) : Int) := (Int.natCast_mul h (w + 1)).symm
            rw [wmul64 (by rw [this]; omega) (by rw [this]; omega), this]
          have es : ieq (slen b) ((h * (w + 1) : Nat) : Int) = decide (r.length = h * (w + 1)) := by
            rw [slen_l, hbr, ieq_d]
            congr 1
            exact propext ⟨fun e => by omega, fun e => by omega⟩
          rw [em, es]
          by_cases A : r.length = h * (w + 1)
          · rw [decide_eq_true A, if_pos A]
            have hbl : b.data.toList.length ≤ 20000 := by
              rw [hbr]; rw [hb] at hl; simp only [List.length_append, List.length_cons] at hl; omega
            have g := scan_ok b hbl w hwb (h : Int) b.data.toList.length 0 [] (by omega) (by omega) (by simp)
            rw [List.drop_zero, hbr] at g
            exact g
          · rw [decide_eq_false A, if_neg A]
            exact Ev.now fun _ => rfl
  · have e3 : ieq (llen (prts 32 a)) 3 = false := by rw [llen_eq]; exact ieq_f (by omega)
    unfold progA
    rw [hdr_no h3]
    exact Ev.congr (fun k => by simp only [asset_ReadImage.f, e20, cond_false, hc, Option.bind_some, sp32 a (by omega), Bool.not_true, e3, Bool.not_false, cond_true]) t0
/-- The reference. -/
theorem readR (s : ByteArray) (hs : s.size ≤ 1048576) (p r : List UInt8) (hb : s.data.toList = p ++ 10 :: r) (hn : (10 : UInt8) ∉ p) (hl : s.data.toList.length ≤ 20000) : Ev (fun k => mastref2_ReadImageOf.f k s) (refA p (pcs 10 r)) := by
  have e20 : ilt 20000 (slen s) = false := by rw [slen_l]; exact ilt_f (by omega)
  have hpc : pcs 10 s.data.toList = p :: pcs 10 r := by rw [hb]; exact pcs_cut 10 p r hn
  have hne := pcs_ne 10 r
  obtain ⟨n, hPl⟩ : ∃ n, (pcs 10 r).length = n + 1 := ⟨(pcs 10 r).length - 1, by have := List.length_pos_iff.2 hne; omega⟩
  have hyl : (prts 10 s).length = n + 2 := by rw [prts_len, hpc, List.length_cons, hPl]
  have hsum := pcs_sum 10 s.data.toList
  rw [hpc, List.map_cons, List.sum_cons] at hsum
  have hnb : n ≤ 20000 := by
    have := pcs_count 10 r
    rw [hb] at hl; simp only [List.length_append, List.length_cons] at hl
    omega
  have ew : wsub .i64 (llen (prts 10 s)) 1 = ((n + 1 : Nat) : Int) := by rw [llen_eq, hyl, wsub64 (by omega) (by omega)]; omega
  have la : lat (prts 10 s) ((n + 1 : Nat) : Int) = some ((prts 10 s)[n + 1]'(by omega)) := lat_lt (by omega)
  have dl : ((prts 10 s)[n + 1]'(by omega)).data.toList = (pcs 10 r)[n]'(by omega) := by rw [prts_at]; simp [hpc]
  have hlast : (pcs 10 r).getLast? = some ((pcs 10 r)[n]'(by omega)) := by
    have e : (pcs 10 r).length - 1 = n := by omega
    rw [List.getLast?_eq_getElem?, e, List.getElem?_eq_getElem]
  have sl : seq ((prts 10 s)[n + 1]'(by omega)) c_empty = decide ((pcs 10 r).getLast? = some []) := by
    rw [seq_empty, dl, hlast]
    cases h : (pcs 10 r)[n]'(by omega) with
    | nil => simp
    | cons _ _ => simp
  have i1 : ilt ((n + 1 : Nat) : Int) 1 = false := ilt_f (by omega)
  have lb : lat (prts 10 s) 0 = some ((prts 10 s)[0]'(by omega)) := lat_lt (n := 0) (by omega)
  have db : ((prts 10 s)[0]'(by omega)).data.toList = p := by rw [prts_at]; simp [hpc]
  have sz0 : ((prts 10 s)[0]'(by omega)).size ≤ 1048576 := by have := prts_sz 10 s _ (List.getElem_mem (show 0 < (prts 10 s).length by omega)); omega
  generalize ha0 : (prts 10 s)[0]'(by omega) = a at lb db sz0
  unfold refA
  by_cases hL : (pcs 10 r).getLast? = some []
  · rw [decide_eq_true hL] at sl
    rw [if_pos hL]
    have t0 : Ev (fun k => mastref2_ReadImageOf.l0 k 0 0 [] (prts 10 s) ((n + 1 : Nat) : Int) (prts 32 a) true) (zimg, 8) := Ev.step (g := fun _ => some (zimg, 8)) (fun k => by simp only [mastref2_ReadImageOf.l0, cond_true]; rfl) (Ev.now fun _ => rfl)
    have hxl : (prts 32 a).length = (pcs 32 p).length := by rw [prts_len, db]
    by_cases h3 : (pcs 32 p).length = 3
    · obtain ⟨x, y, z, hxyz⟩ := three h3
      have l0 : 0 < (prts 32 a).length := by omega
      have l1 : 1 < (prts 32 a).length := by omega
      have l2 : 2 < (prts 32 a).length := by omega
      have d0 : (prts 32 a)[0].data.toList = x := by rw [prts_at 32 a 0 l0]; simp [db, hxyz]
      have d1 : (prts 32 a)[1].data.toList = y := by rw [prts_at 32 a 1 l1]; simp [db, hxyz]
      have d2 : (prts 32 a)[2].data.toList = z := by rw [prts_at 32 a 2 l2]; simp [db, hxyz]
      have e3 : ieq (llen (prts 32 a)) 3 = true := by rw [llen_eq]; exact ieq_t (by omega)
      have la0 : lat (prts 32 a) 0 = some (prts 32 a)[0] := lat_lt (n := 0) l0
      have la1 : lat (prts 32 a) 1 = some (prts 32 a)[1] := lat_lt (n := 1) l1
      have la2 : lat (prts 32 a) 2 = some (prts 32 a)[2] := lat_lt (n := 2) l2
      have c1 : (prts 32 a)[1].size ≤ 2000000 := by have := prts_sz 32 a _ (List.getElem_mem l1); omega
      have c2 : (prts 32 a)[2].size ≤ 2000000 := by have := prts_sz 32 a _ (List.getElem_mem l2); omega
      have hh : hdr p = bif (x == imgL) && (dg y && dg z) then some ((hors 0 y).toNat, (hors 0 z).toNat) else none := by unfold hdr; rw [hxyz]
      have si := seq_img (prts 32 a)[0]
      rw [d0] at si
      have go : ∀ X, Ev (fun k => mastref2_ReadImageOf.l0 k 0 0 [] (prts 10 s) ((n + 1 : Nat) : Int) (prts 32 a) (!(x == imgL))) X → Ev (fun k => mastref2_ReadImageOf.f k s) X := fun X hX => Ev.congr (fun k => by
        simp only [mastref2_ReadImageOf.f, e20, cond_false, sp10 s (by omega), Option.bind_some, ew, la, sl, Bool.not_true, i1, lb, sp32 a (by omega), e3, la0, si]) hX
      rw [hh]
      cases q : (x == imgL) with
      | false =>
        rw [q] at go
        exact go _ t0
      | true =>
        rw [q] at go
        have n1 := num_ok _ c1
        have n2 := num_ok _ c2
        rw [d1] at n1
        rw [d2] at n2
        refine go _ (Ev.step (g := fun k => bif (bif (bif (!(sd y).2) then true else (!(sd z).2)) then true else (!ieq (wsub .i64 ((n + 1 : Nat) : Int) 1) (sd z).1)) then (some (zimg, 8)) else ((lsub (prts 10 s) 1 ((n + 1 : Nat) : Int)).bind fun y10 => (mastref2_ReadImageOf.l1 k 0 0 [] (sd y).1 (sd y).1 (sd z).1 [] y10 (llen y10) 0))) (fun k => by simp only [mastref2_ReadImageOf.l0, Bool.not_true, cond_false, la1, la2, Option.bind_some, n1, n2]; rfl) ?_)
        unfold sd
        cases gy : dg y with
        | false => exact Ev.now fun _ => rfl
        | true =>
          cases gz : dg z with
          | false => exact Ev.now fun _ => rfl
          | true =>
            simp only [cond_true, Bool.not_true, cond_false, Bool.true_and, Bool.and_true]
            obtain ⟨w0, w1⟩ := hors_nat gy
            obtain ⟨h0, h1⟩ := hors_nat gz
            obtain ⟨w, hw⟩ : ∃ w : Nat, hors 0 y = (w : Int) := ⟨(hors 0 y).toNat, by omega⟩
            obtain ⟨h, hh⟩ : ∃ h : Nat, hors 0 z = (h : Int) := ⟨(hors 0 z).toNat, by omega⟩
            rw [hw, hh, Int.toNat_natCast, Int.toNat_natCast]
            have es : ieq (wsub .i64 ((n + 1 : Nat) : Int) 1) (h : Int) = decide ((pcs 10 r).length - 1 = h) := by
              rw [wsub64 (by omega) (by omega), ieq_d]
              congr 1
              exact propext ⟨fun e => by omega, fun e => by omega⟩
            rw [es]
            by_cases A : (pcs 10 r).length - 1 = h
            · rw [decide_eq_true A, if_pos A]
              have hls : lsub (prts 10 s) 1 ((n + 1 : Nat) : Int) = some (((prts 10 s).take (n + 1)).drop 1) := by
                unfold lsub
                rw [if_pos ⟨by omega, by omega, by omega⟩, Int.toNat_natCast]; rfl
              have hmap : (((prts 10 s).take (n + 1)).drop 1).map (·.data.toList) = (pcs 10 r).dropLast := by
                rw [List.map_drop, List.map_take, prts_pcs, hpc, List.take_succ_cons, List.drop_one, List.tail_cons, List.dropLast_eq_take, hPl, Nat.add_sub_cancel]
              have hlens : ((((prts 10 s).take (n + 1)).drop 1).map fun x => x.data.toList.length) = (pcs 10 r).dropLast.map List.length := by
                rw [← hmap, List.map_map]; rfl
              simp only [Bool.not_true, cond_false, hls, Option.bind_some]
              have hd := dl_sum (pcs 10 r)
              have g := rows_ok (((prts 10 s).take (n + 1)).drop 1) (fun x hx => by
                have hm := List.mem_of_mem_take (List.mem_of_mem_drop hx)
                have := prts_sz 10 s x hm
                have e1 := size_l x
                have e2 := size_l s
                omega) (by rw [List.length_drop, List.length_take]; omega) w (h : Int) (((prts 10 s).take (n + 1)).drop 1).length 0 [] (by omega) (by omega) (by rw [List.drop_zero, hlens, List.length_nil]; omega)
              rw [List.drop_zero, hmap] at g
              exact g
            · rw [decide_eq_false A, if_neg A]
              exact Ev.now fun _ => rfl
    · have e3 : ieq (llen (prts 32 a)) 3 = false := by rw [llen_eq]; exact ieq_f (by omega)
      rw [hdr_no h3]
      exact Ev.congr (fun k => by simp only [mastref2_ReadImageOf.f, e20, cond_false, sp10 s (by omega), Option.bind_some, ew, la, sl, Bool.not_true, i1, lb, sp32 a (by omega), e3, Bool.not_false, cond_true]) t0
  · rw [decide_eq_false hL] at sl
    rw [if_neg hL]
    exact Ev.now fun k => by simp only [mastref2_ReadImageOf.f, e20, cond_false, sp10 s (by omega), Option.bind_some, ew, la, sl, Bool.not_false, cond_true]; rfl
theorem eq_self (l : List Int) (hl : l.length ≤ 2000000) : Ev (fun k => slices_Equal_int_int.f k l l) true := by
  have : ∀ (d j : Nat), l.length - j ≤ d → j ≤ l.length → Ev (fun k => slices_Equal_int_int.l0 k l l (llen l) (j : Int)) true := by
    intro d
    have last : ∀ j : Nat, l.length ≤ j → Ev (fun k => slices_Equal_int_int.l0 k l l (llen l) (j : Int)) true := fun j hj => by
      refine Ev.step (g := fun _ => some true) (fun k => ?_) (Ev.now fun _ => rfl)
      simp only [slices_Equal_int_int.l0, llen_eq, ilt_f (show (l.length : Int) ≤ (j : Int) by omega), cond_false]
    induction d with
    | zero => intro j hd hj; exact last j (by omega)
    | succ d ih =>
      intro j hd hj
      rcases Nat.lt_or_ge j l.length with hlt | hge
      · refine Ev.step (fun k => ?_) (ih (j + 1) (by omega) hlt)
        simp only [slices_Equal_int_int.l0, llen_eq, Go.Proofs.YtmbjiadilfbooaaGreatDoor.Lift.ilen _ _ hlt, cond_true, lat_lt hlt, Option.bind_some, ieq_self, Bool.not_true, cond_false, u0 (show j ≤ 4611686018427387904 by omega)]
      · exact last j hge
  have := this l.length 0 (by omega) (by omega)
  exact Ev.congr (fun k => by simp only [slices_Equal_int_int.f, ieq_self, Bool.not_true, cond_false]; rfl) this
theorem alike_self (m : T_asset_Image) (hl : m.fLevels.length ≤ 2000000) : Ev (fun k => mastref2_Alike_at_asset_Image.f k m m) true :=
  Ev.congr (g := fun k => (slices_Equal_int_int.f k m.fLevels m.fLevels).bind fun y1 => some y1) (fun k => by simp only [mastref2_Alike_at_asset_Image.f, ieq_self, cond_true]) (Ev.bind (eq_self m.fLevels hl) (Ev.now fun _ => rfl))
theorem scan_len (w : Nat) : ∀ (l : List UInt8) (i : Nat) (lv : List Int), scan w l i = some lv → lv.length ≤ l.length
  | [], i, lv, h => by simp only [scan, Option.some.injEq] at h; rw [← h]; exact Nat.le_refl _
  | b :: r, i, lv, h => by
    simp only [scan] at h
    split at h
    · split at h
      · have := scan_len w r (i + 1) lv h
        simp only [List.length_cons]; omega
      · cases h
    · cases hb : hexB b with
      | false => rw [hb] at h; cases h
      | true =>
        rw [hb, cond_true] at h
        obtain ⟨lv2, h1, h2⟩ := Option.map_eq_some_iff.1 h
        have := scan_len w r (i + 1) lv2 h1
        rw [← h2]
        simp only [List.length_cons]; omega
theorem prog_len (p r : List UInt8) (hr : r.length ≤ 20000) : (progA p r).1.fLevels.length ≤ 2000000 := by
  have z : zimg.fLevels.length ≤ 2000000 := by show ([] : List Int).length ≤ _; simp
  unfold progA
  cases hdr p with
  | none => exact z
  | some wh =>
    obtain ⟨w, h⟩ := wh
    simp only
    split
    · cases hs : scan w r 0 with
      | none => exact z
      | some lv =>
        have := scan_len w r 0 lv hs
        simp only [orI, resI, List.nil_append]
        cases !ieq (chkI (w : Int) (h : Int) lv) 0 with
        | true => exact z
        | false => show lv.length ≤ _; omega
    · exact z
theorem pure_holds : Pure := fun s _ => by
  suffices h : ∃ r : T_asset_Image × Int, Ev (fun k => asset_ReadImage.f k s) r ∧ Ev (fun k => mastref2_ReadImageOf.f k s) r ∧ r.1.fLevels.length ≤ 2000000 by
    obtain ⟨r, h1, h2, h3⟩ := h
    refine (Ev.congr (fun k => by simp only [mastlaw2_ImageReads.f]; rfl) (Ev.bind h1 (Ev.bind h2 ?_)) : Ev (fun k => mastlaw2_ImageReads.f k s) true).get
    simp only [ieq_self, cond_true]
    exact Ev.bind (alike_self r.1 h3) (Ev.now fun _ => rfl)
  have z : zimg.fLevels.length ≤ 2000000 := by show ([] : List Int).length ≤ _; simp
  by_cases hl : s.data.toList.length ≤ 20000
  · have hs : s.size ≤ 1048576 := by rw [size_l]; omega
    rcases cut_two s.data.toList with hno | ⟨p, r, hb, hn⟩
    · have e20 : ilt 20000 (slen s) = false := by rw [slen_l]; exact ilt_f (by omega)
      refine ⟨(zimg, 8), ?_, ?_, z⟩
      · have t0 : Ev (fun k => asset_ReadImage.l0 k 0 0 [] c_empty (prts 32 s) true) (zimg, 8) := Ev.step (g := fun _ => some (zimg, 8)) (fun k => by simp only [asset_ReadImage.l0, cond_true]; rfl) (Ev.now fun _ => rfl)
        exact Ev.congr (fun k => by simp only [asset_ReadImage.f, e20, cond_false, cut_no s (by omega) hno, Option.bind_some, sp32 s (by omega), Bool.not_false, cond_true]) t0
      · have hpl : (prts 10 s).length = 1 := by rw [prts_len, pcs_none 10 _ hno]; rfl
        have ew : wsub .i64 (llen (prts 10 s)) 1 = 0 := by rw [llen_eq, hpl]; rfl
        have la : lat (prts 10 s) 0 = some ((prts 10 s)[0]'(by omega)) := lat_lt (n := 0) (by omega)
        have i1 : ilt 0 1 = true := rfl
        exact Ev.now fun k => by
          simp only [mastref2_ReadImageOf.f, e20, cond_false, sp10 s (by omega), Option.bind_some, ew, la, i1]
          cases seq ((prts 10 s)[0]'(by omega)) c_empty <;> rfl
    · refine ⟨progA p r, readL s hs p r hb hn hl, ?_, prog_len p r ?_⟩
      · rw [← ans_eq]
        exact readR s hs p r hb hn hl
      · rw [hb] at hl; simp only [List.length_append, List.length_cons] at hl; omega
  · have e20 : ilt 20000 (slen s) = true := by rw [slen_l]; exact ilt_t (by omega)
    exact ⟨(zimg, 4), Ev.now fun k => by simp only [asset_ReadImage.f, e20, cond_true]; rfl, Ev.now fun k => by simp only [mastref2_ReadImageOf.f, e20, cond_true]; rfl, z⟩

end Go.Proofs.YtmbjiadilfbooaaGreatDoor.LImageReads
