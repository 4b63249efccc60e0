/- strings.Builder: what its methods do to a builder of the call's own. Conditions: as each theorem states them. -/
import Derived.Test.YthmedjljckbidaaDoorLiftY
import Derived.Shelf.Strings.Builder1
set_option linter.unusedVariables false
namespace Go.Proofs.YthmedjljckbidaaDoor.Lift
open Go.Proofs Go.Shelf Go.RowKit
section
variable {P : Program} {ρ : Ren} {w : World}

/-- A slice's capacity. -/
def capV : Value → Nat
  | .slice _ _ k => k
  | _ => 0

/-- Bytes of a string behind what a row of bytes holds: where they come to lie. -/
theorem append_str (w : World) (t u ty e : TypeId) (i : TypeInfo) (ht : P.underlying t = some (.slice e)) (hu : P.underlying u = some .string) (hi : P.info? e = some i) (hz : i.zero = some (.int .u8 0)) (hsize : i.size = 1) (hby : i.bytes = 1)
    (v : Value) (n : Nat) (xs : List Value) (hown : w.ownsRow 0 e 1 v n xs) (s : ByteArray) (h63 : n + s.size ≤ maxLen) (hbytes : n + s.size ≤ 140737488355328) :
    ∃ v' w', (Builtin.append_ #[t, u] ty #[v, .string s]).run P w = .ok v' w' ∧ w'.ownsRow 0 e 1 v' (n + s.size) (xs ++ Lib.strCells s) ∧ w.grownBy w' v.ownBlock ∧ (v'.ownBlock = v.ownBlock ∨ ∃ q, v'.ownBlock = some q ∧ w.heap.size ≤ q) := by
  obtain ⟨v', w', hr, h2, h3, h4⟩ := Lib.run_append_own_string (P := P) w 0 t u ty e i ht hu hi hz hsize hby v n xs hown s h63 hbytes (Nat.zero_le _)
  refine ⟨v', w', hr, h2, h3, ?_⟩
  have hxl : xs.length = n := by simpa using hown.1
  rcases hown.2 with ⟨rfl, rfl⟩ | ⟨g, cap, cur, rfl, hbg, hg, hnc, hcm, hcs, htake⟩
  · have hx : xs = [] := List.eq_nil_of_length_eq_zero hxl
    subst hx
    obtain ⟨v2, w2, hr2, k2, _⟩ := Lib.run_append_own_string (P := P) w w.heap.size t u ty e i ht hu hi hz hsize hby (.slice none 0 0) 0 [] (World.ownsRow_nil w _ e 1) s h63 hbytes (Nat.le_refl _)
    rw [hr] at hr2
    cases hr2
    rcases k2.2 with ⟨rfl, _⟩ | ⟨q, _, _, rfl, hq, _⟩
    · exact .inl rfl
    · exact .inr ⟨q, rfl, hq⟩
  · by_cases hroom : n + s.size ≤ cap
    · have hcs' : cur.size = cap := by simpa using hcs
      have hr2 := Lib.run_append_room_string (P := P) w t u ty e i ht hu hi hsize g n cap cur hg s hroom (by omega)
      rw [hr] at hr2
      cases hr2
      exact .inl rfl
    · have holds : ∀ j u, xs[j]? = some u → w.cell? ((⟨g, 0, none⟩ : Addr).add j) = some u := hown.cells (g := g) rfl
      have hr2 := Lib.run_append_grow_string (P := P) w t u ty e i (.int .u8 0) ht hu hi hz ⟨g, 0, none⟩ n cap xs (by rw [hsize]; simpa using hxl) holds s (by omega) (by omega) (by rw [hby]; exact growslice_fits (by omega) (by omega))
      rw [hr] at hr2
      cases hr2
      exact .inr ⟨_, rfl, Nat.le_refl _⟩

/-- The same in a walk. -/
theorem wp_append_str {ops : Array Oper} {rest : List Oper} {o : Oper} {a : Act} {Q : Exit → Act → World → Prop} (hgd : o.guard = none) (sl x : Operand) (t u : TypeId)
    (ho : o.op = .call { callee := .builtin .append, args := #[sl, x], argTypes := #[t, u] })
    (e : TypeId) (i : TypeInfo) (ht : P.underlying t = some (.slice e)) (hu : P.underlying u = some .string) (hi : P.info? e = some i) (hz : i.zero = some (.int .u8 0)) (hsize : i.size = 1) (hby : i.bytes = 1)
    (v : Value) (n : Nat) (xs : List Value) (hs : a.eval sl = v) (hown : w.ownsRow 0 e 1 v n xs) (s : ByteArray) (hx : a.eval x = .string s) (h63 : n + s.size ≤ maxLen) (hbytes : n + s.size ≤ 140737488355328)
    (h : ∀ v' w', w'.ownsRow 0 e 1 v' (n + s.size) (xs ++ Lib.strCells s) → w.grownBy w' v.ownBlock → (v'.ownBlock = v.ownBlock ∨ ∃ q, v'.ownBlock = some q ∧ w.heap.size ≤ q) → wpList P ops Q rest (a.put o.dst v') w') : wpList P ops Q (o :: rest) a w := by
  refine wpList_plain hgd fun K hK => ?_
  obtain ⟨v', w', hr, h2, h3, h4⟩ := append_str (P := P) w t u o.type e i ht hu hi hz hsize hby v n xs hown s h63 hbytes
  unfold Oper.wp execOp
  simp only [ho, resolve, invoke, builtin, Sem.run_bind, Sem.run_pure, Result.andThen_ok, List.map_toArray, List.map_cons, List.map_nil, hs, hx, hr]
  exact hK _ _ (h v' w' h2 h3 h4)

/-- One byte behind what a row of bytes holds: where it comes to lie. -/
theorem append_one (w : World) (t ty e : TypeId) (i : TypeInfo) (ht : P.underlying t = some (.slice e)) (hi : P.info? e = some i) (hz : i.zero = some (.int .u8 0)) (hsize : i.size = 1) (hby : i.bytes = 1)
    (v : Value) (n : Nat) (xs : List Value) (hown : w.ownsRow 0 e 1 v n xs) (q : Nat) (x : Int) (hq : w.cell? ⟨q, 0, none⟩ = some (.int .u8 x)) (h63 : n + 1 ≤ maxLen) (hbytes : n + 1 ≤ 140737488355328) :
    ∃ v' w', (Builtin.append_ #[t, t] ty #[v, .slice (some ⟨q, 0, none⟩) 1 1]).run P w = .ok v' w' ∧ w'.ownsRow 0 e 1 v' (n + 1) (xs ++ [.int .u8 x]) ∧ w.grownBy w' v.ownBlock ∧ (v'.ownBlock = v.ownBlock ∨ ∃ q, v'.ownBlock = some q ∧ w.heap.size ≤ q) := by
  have hnews : ∀ (j : Nat) (u : Value), [Value.int .u8 x][j]? = some u → w.cell? ((⟨q, 0, none⟩ : Addr).add j) = some u := fun j u hj => by
    match j, hj with
    | 0, hj => cases hj; exact hq
  have h1 : ∀ u ∈ [Value.int .u8 x], u.oneCell' = true := fun u hu => by simp at hu; subst hu; rfl
  obtain ⟨v', w', hr, h2, h3, _⟩ := run_append_own (P := P) w 0 t ty e i (.int .u8 0) 1 1 ht hi hz hsize hby rfl (by decide) v n xs hown ⟨q, 0, none⟩ 1 1 [.int .u8 x] rfl hnews h1 h63 (by omega) (Nat.zero_le _)
  refine ⟨v', w', hr, h2, h3, ?_⟩
  have hxl : xs.length = n := by simpa using hown.1
  rcases hown.2 with ⟨rfl, rfl⟩ | ⟨g, cap, cur, rfl, hbg, hg, hnc, hcm, hcs, htake⟩
  · have hx : xs = [] := List.eq_nil_of_length_eq_zero hxl
    subst hx
    obtain ⟨v2, w2, hr2, k2, _⟩ := run_append_own (P := P) w w.heap.size t ty e i (.int .u8 0) 1 1 ht hi hz hsize hby rfl (by decide) (.slice none 0 0) 0 [] (World.ownsRow_nil w _ e 1) ⟨q, 0, none⟩ 1 1 [.int .u8 x] rfl hnews h1 h63 (by omega) (Nat.le_refl _)
    rw [hr] at hr2
    cases hr2
    rcases k2.2 with ⟨rfl, _⟩ | ⟨q, _, _, rfl, hq, _⟩
    · exact .inl rfl
    · exact .inr ⟨q, rfl, hq⟩
  · by_cases hroom : n + 1 ≤ cap
    · have hcs' : cur.size = cap := by simpa using hcs
      have hr2 := run_append_room (P := P) w t ty e i ht hi g n cap cur hg ⟨q, 0, none⟩ 1 1 [.int .u8 x] (by rw [hsize]; rfl) hnews h1 hroom (by rw [hsize]; simp; omega)
      rw [hr] at hr2
      cases hr2
      exact .inl rfl
    · have holds : ∀ j u, xs[j]? = some u → w.cell? ((⟨g, 0, none⟩ : Addr).add j) = some u := hown.cells (g := g) rfl
      have hr2 := run_append_grow (P := P) w t ty e i (.int .u8 0) ht hi hz ⟨g, 0, none⟩ n cap xs (by rw [hsize]; simpa using hxl) holds ⟨q, 0, none⟩ 1 1 [.int .u8 x] (by rw [hsize]; rfl) hnews (by omega) (by unfold maxLen at h63; omega) (by rw [hby]; exact growslice_fits (by omega) (by omega))
      rw [hr] at hr2
      cases hr2
      exact .inr ⟨_, rfl, Nat.le_refl _⟩

/-- The same in a walk. -/
theorem wp_append_one {ops : Array Oper} {rest : List Oper} {o : Oper} {a : Act} {Q : Exit → Act → World → Prop} (hgd : o.guard = none) (sl x : Operand) (t : TypeId)
    (ho : o.op = .call { callee := .builtin .append, args := #[sl, x], argTypes := #[t, t] })
    (e : TypeId) (i : TypeInfo) (ht : P.underlying t = some (.slice e)) (hi : P.info? e = some i) (hz : i.zero = some (.int .u8 0)) (hsize : i.size = 1) (hby : i.bytes = 1)
    (v : Value) (n : Nat) (xs : List Value) (hs : a.eval sl = v) (hown : w.ownsRow 0 e 1 v n xs) (q : Nat) (m : Int) (hx : a.eval x = .slice (some ⟨q, 0, none⟩) 1 1) (hq : w.cell? ⟨q, 0, none⟩ = some (.int .u8 m)) (h63 : n + 1 ≤ maxLen) (hbytes : n + 1 ≤ 140737488355328)
    (h : ∀ v' w', w'.ownsRow 0 e 1 v' (n + 1) (xs ++ [.int .u8 m]) → w.grownBy w' v.ownBlock → (v'.ownBlock = v.ownBlock ∨ ∃ q, v'.ownBlock = some q ∧ w.heap.size ≤ q) → wpList P ops Q rest (a.put o.dst v') w') : wpList P ops Q (o :: rest) a w := by
  refine wpList_plain hgd fun K hK => ?_
  obtain ⟨v', w', hr, h2, h3, h4⟩ := append_one (P := P) w t o.type e i ht hi hz hsize hby v n xs hown q m hq h63 hbytes
  unfold Oper.wp execOp
  simp only [ho, resolve, invoke, builtin, Sem.run_bind, Sem.run_pure, Result.andThen_ok, List.map_toArray, List.map_cons, List.map_nil, hs, hx, hr]
  exact hK _ _ (h v' w' h2 h3 h4)

theorem heap_setCell (w : World) (b i : Nat) (v : Value) : ∀ k, k ≠ b → (w.setCell ⟨b, i, none⟩ v).heap[k]? = w.heap[k]? := fun k hk => Below.heap_setCell _ _ _ _ (fun e => hk e)
theorem heap_setCell_at {w : World} {b : Nat} {cs : Array Value} {E : TypeId} {f : Nat × Nat} (h : w.heap[b]? = some (.cells cs E f)) (i : Nat) (v : Value) : (w.setCell ⟨b, i, none⟩ v).heap[b]? = some (.cells (cs.setIfInBounds i v) E f) := by
  simp [World.setCell, Array.getElem?_modify, h]

/-- What the check for copies leaves. -/
def CheckPost (T b : Nat) (v : Value) (w : World) : Ending → World → Prop := fun e w' => e = .returned (.tuple #[]) ∧ w'.heap[b]? = some (.cells #[ptr b 0, v] T (0, 0)) ∧ w'.os = w.os ∧ w'.tape = w.tape ∧ w'.output = w.output ∧ w'.heap.size = w.heap.size ∧ ∀ k, k ≠ b → w'.heap[k]? = w.heap[k]?
theorem check_fresh {T b : Nat} {p v : Value} {w : World} (hbk : w.heap[b]? = some (.cells #[p, v] T (0, 0))) : CheckPost T b v w (.returned (.tuple #[])) (w.setCell ⟨b, 0, none⟩ (ptr b 0)) :=
  ⟨rfl, heap_setCell_at hbk 0 _, rfl, rfl, rfl, by simp [World.setCell], heap_setCell w b 0 _⟩
theorem check_used {T b : Nat} {v : Value} {w : World} (hbk : w.heap[b]? = some (.cells #[ptr b 0, v] T (0, 0))) : CheckPost T b v w (.returned (.tuple #[])) w :=
  ⟨rfl, hbk, rfl, rfl, rfl, rfl, fun _ _ => rfl⟩

/-- What WriteString leaves. -/
def WritePost (T E b : Nat) (v : Value) (n : Nat) (bs : List Value) (s : ByteArray) (w : World) : Ending → World → Prop := fun e w' => e = .returned (.tuple #[.int .i64 s.size, .nilIface]) ∧
  ∃ (w1 w2 : World) (v' : Value), w1.heap[b]? = some (.cells #[ptr b 0, v] T (0, 0)) ∧ (w1.os = w.os ∧ w1.tape = w.tape ∧ w1.output = w.output ∧ w1.heap.size = w.heap.size ∧ ∀ k, k ≠ b → w1.heap[k]? = w.heap[k]?) ∧
    w2.ownsRow 0 E 1 v' (n + s.size) (bs ++ Lib.strCells s) ∧ w1.grownBy w2 v.ownBlock ∧ (v'.ownBlock = v.ownBlock ∨ ∃ q, v'.ownBlock = some q ∧ w1.heap.size ≤ q) ∧ w2.heap[b]? = some (.cells #[ptr b 0, v] T (0, 0)) ∧ w' = w2.setCell ⟨b, 1, none⟩ v'

/-- What WriteByte leaves. -/
def BytePost (T E b : Nat) (v : Value) (n : Nat) (bs : List Value) (x : Int) (w : World) : Ending → World → Prop := fun e w' => e = .returned .nilIface ∧
  ∃ (w1 wA w2 : World) (v' : Value), w1.heap[b]? = some (.cells #[ptr b 0, v] T (0, 0)) ∧ (w1.os = w.os ∧ w1.tape = w.tape ∧ w1.output = w.output ∧ w1.heap.size = w.heap.size ∧ ∀ k, k ≠ b → w1.heap[k]? = w.heap[k]?) ∧ Grow w1 wA ∧
    w2.ownsRow 0 E 1 v' (n + 1) (bs ++ [.int .u8 x]) ∧ wA.grownBy w2 v.ownBlock ∧ (v'.ownBlock = v.ownBlock ∨ ∃ q, v'.ownBlock = some q ∧ wA.heap.size ≤ q) ∧ w2.heap[b]? = some (.cells #[ptr b 0, v] T (0, 0)) ∧ w' = w2.setCell ⟨b, 1, none⟩ v'

theorem load_ints {w : World} : ∀ (l : List Int) (a : Addr) (acc : ByteArray), (∀ j n, l[j]? = some n → w.cell? (a.add j) = some (.int .u8 n)) → (loadBytes a acc l.length).run P w = .ok ⟨acc.data ++ (l.map fun n => UInt8.ofNat n.toNat).toArray⟩ w
  | [], a, acc, _ => by obtain ⟨d⟩ := acc; simp [loadBytes]
  | n :: l, a, acc, h => by
    have h0 := h 0 n rfl
    have ha : a.add 0 = a := rfl
    rw [ha] at h0
    have ih := load_ints l (a.add 1) (acc.push n.toNat.toUInt8) (fun j m hj => by
      have := h (j + 1) m (by simpa using hj)
      rw [← this]
      congr 1
      simp [Addr.add, Nat.add_assoc, Nat.add_comm 1])
    have hl : (load a).run P w = .ok (.int .u8 n) w := by simp [load, Sem.run, h0]
    show (loadBytes a acc (l.length + 1)).run P w = _
    unfold loadBytes
    simp only [Sem.run_bind, hl, Result.andThen_ok, ih]
    congr 2
    obtain ⟨d⟩ := acc
    simp [ByteArray.push]

/-- unsafe.String over the head of a row of bytes. -/
theorem unsafe_row (pt it ty e : TypeId) (hp : P.underlying pt = some (.pointer e)) (hc : P.cellsOf e = 1) (g cells : Nat) (hsh : w.shape? g = some (e, cells)) (l : List Int) (h0 : l ≠ []) (hn : l.length ≤ cells) (h63 : l.length ≤ 9223372036854775807)
    (hcell : ∀ j x, l[j]? = some x → w.cell? ((⟨g, 0, none⟩ : Addr).add j) = some (.int .u8 x)) :
    (Builtin.unsafeString_ #[pt, it] ty #[.pointer (some ⟨g, 0, none⟩), .int .i64 l.length]).run P w = .ok (.string (bstr l)) (w.freeze ⟨g, 0, none⟩ l.length) := by
  have hl : l.length ≠ 0 := by simpa using h0
  have hlb := load_ints (P := P) l ⟨g, 0, none⟩ .empty hcell
  have hlies := Lib.liesAt_bytes (P := P) hc (cells / P.cellsOf e) l.length (by rw [hc]; simpa using hn)
  have h63' : ¬ (9223372036854775807 : Int) < (l.length : Int) := by omega
  have hmax : IntKind.i64.max = 9223372036854775807 := rfl
  have hneg : ¬ (l.length : Int) < 0 := by omega
  have hb : (⟨ByteArray.empty.data ++ (l.map fun n => UInt8.ofNat n.toNat).toArray⟩ : ByteArray) = bstr l := by
    simp only [bstr]
    congr 1
    exact Array.empty_append
  rw [hb] at hlb
  have hdef : Builtin.unsafeString_ #[pt, it] ty #[.pointer (some ⟨g, 0, none⟩), .int .i64 l.length] =
      (do
        let n ← asInt (.int .i64 l.length)
        if n < 0 then runtimePanic (.error "unsafe.String: len out of range")
        if n > IntKind.i64.max then unsupported (.unsafePointer "String: a length above the largest int")
        if n = 0 then pure (.string .empty)
        else if ← variablesAt ⟨g, 0, none⟩ (← elemOf pt) n.toNat then do
          let s ← loadBytes ⟨g, 0, none⟩ .empty n.toNat
          freeze ⟨g, 0, none⟩ n.toNat
          pure (.string s)
        else unsupported (.unsafePointer "String: not so many bytes at ptr")) := rfl
  rw [hdef]
  simp [asInt, asIntOf, hmax, h63', hneg, hl, variablesAt, hsh, elemOf, run_underlying hp, hlies, hlb]

set_option maxHeartbeats 1000000 in
set_option maxRecDepth 100000 in
/-- String, of a builder that holds some byte: its row is frozen. -/
theorem bld_string (L : Lays.n169 P ρ) (X : Builder.Extra P ρ) (b g cap : Nat) (p : Value) (cur : Array Value) (l : List Int) (w : World) (hbk : w.heap[b]? = some (.cells #[p, .slice (some ⟨g, 0, none⟩) l.length cap] (ρ.t 72) (0, 0)))
    (hg : w.heap[g]? = some (.cells cur (ρ.t 5) (0, 0))) (hnc : l.length ≤ cap) (hcm : cap ≤ maxLen) (hcs : cur.size = cap) (hcell : ∀ (j : Nat) (x : Int), l[j]? = some x → cur[j]? = some (Value.int .u8 x)) (h0 : l ≠ []) :
    Calls P (ρ.f 169) #[ptr b 0] w fun e w' => e = .returned (.string (bstr l)) ∧ w'.os = w.os ∧ w'.tape = w.tape ∧ w'.output = w.output ∧ w'.heap.size = w.heap.size ∧ ∀ k, k ≠ g → w'.heap[k]? = w.heap[k]? := by
  have hl0 : l.length ≠ 0 := by simpa using h0
  have c1 : w.drew.cell? ⟨b, 1, none⟩ = some (.slice (some ⟨g, 0, none⟩) l.length cap) := by
    have : w.drew.heap[b]? = some (.cells #[p, .slice (some ⟨g, 0, none⟩) l.length cap] (ρ.t 72) (0, 0)) := hbk
    rw [Lib.cell_of_heap this]; rfl
  have hSD : (Builtin.unsafeSliceData_ #[(ρ.t 37)] (ρ.t 127) #[.slice (some ⟨g, 0, none⟩) l.length cap]).run P w.drew = .ok (.pointer (some ⟨g, 0, none⟩)) w.drew :=
    Lib.run_unsafeSliceData_row _ _ _ _ _ _ (by omega)
  have hUS : (Builtin.unsafeString_ #[(ρ.t 127), (ρ.t 3)] (ρ.t 9) #[.pointer (some ⟨g, 0, none⟩), .int .i64 l.length]).run P w.drew = .ok (.string (bstr l)) (w.drew.freeze ⟨g, 0, none⟩ l.length) := by
    have hg' : w.drew.heap[g]? = some (.cells cur (ρ.t 5) (0, 0)) := hg
    refine unsafe_row (w := w.drew) (ρ.t 127) (ρ.t 3) (ρ.t 9) (ρ.t 5) L.t127 X.cellsByte g cur.size (by simp [World.shape?, hg']) l h0 (by omega) (by unfold maxLen at hcm; omega) ?_
    intro j x hx
    rw [add_mk, cell_of hg', Nat.zero_add]
    exact hcell j x hx
  have fin : ∀ w' : World, w' = w.drew.freeze ⟨g, 0, none⟩ l.length → w'.os = w.os ∧ w'.tape = w.tape ∧ w'.output = w.output ∧ w'.heap.size = w.heap.size ∧ ∀ k, k ≠ g → w'.heap[k]? = w.heap[k]? := by
    rintro w' rfl
    unfold World.freeze
    rw [if_neg hl0]
    refine ⟨rfl, rfl, rfl, by simp, fun k hk => ?_⟩
    simp only [Array.getElem?_modify]
    rw [if_neg (Ne.symm hk)]
    rfl
  have mixed := L.mixed
  have t72 := L.t72; have a72 := L.a72; have z72 := L.z72; have v72 := L.v72; have u72 := run_underlying L.t72
  have t70 := L.t70; have a70 := L.a70; have z70 := L.z70; have v70 := L.v70; have u70 := run_underlying L.t70
  have t37 := L.t37; have a37 := L.a37; have z37 := L.z37; have v37 := L.v37; have u37 := run_underlying L.t37
  have t127 := L.t127; have a127 := L.a127; have z127 := L.z127; have v127 := L.v127; have u127 := run_underlying L.t127
  have t3 := L.t3; have a3 := L.a3; have z3 := L.z3; have v3 := L.v3; have u3 := run_underlying L.t3
  have t9 := L.t9; have a9 := L.a9; have z9 := L.z9; have v9 := L.v9; have u9 := run_underlying L.t9
  have t5 := X.t5; have a5 := X.a5; have z5 := X.z5; have v5 := X.v5; have u5 := run_underlying X.t5
  unfold ptr
  go_enter L.f169, Body.n169_ntmps ρ
  go_wp2
  go_region_o
  all_goals (go_wp2; go_ret; exact ⟨rfl, fin _ rfl⟩)
end

section
variable {P : Program} {ρ : Ren} {C : Ctx}

def bldPut {U : Nat → Type} (T E d j : Nat) (zs : List (El U (.int .u8))) (st : St U) : St U :=
  { newObj' d (.row E (.int .u8) zs) st with mem := upd2 (newObj' d (.row E (.int .u8) zs) st).mem d j (some (.bld T (.row d (st.cnt d + 1)))) }

/-- WriteString, as the evaluator asks for it. -/
def bwE (S : Sg) (T E : Nat) : Entry S where
  run args st R := match args with
    | [.l (.ref d j 0), .l (.v .str s)] => match st.mem d j with
      | some (.bld T' y) => cond (Nat.beq T T') (match asRow st E (.int .u8) y with
        | some (bs, st1) => (lapp 1 bs (sbytes s)).bind fun zs => R (.tup [.v (.int .i64) (slen s), .junk]) (bldPut T E d j zs st1)
        | none => none) none
      | _ => none
    | _ => none
  flat := false

/-- String; the builder is not looked at again. -/
def bsE (S : Sg) (T E : Nat) : Entry S where
  run args st R := match args with
    | [.l (.ref d j 0)] => match st.mem d j with
      | some (.bld T' y) => cond (Nat.beq T T') (match asRow st E (.int .u8) y with
        | some (bs, st1) => R (.l (.v .str (bstr bs))) (kill st1 d j)
        | none => none) none
      | _ => none
    | _ => none
  flat := false

/-- WriteByte. -/
def bbE (S : Sg) (T E : Nat) : Entry S where
  run args st R := match args with
    | [.l (.ref d j 0), .l (.v (.int .u8) x)] => match st.mem d j with
      | some (.bld T' y) => cond (Nat.beq T T') (match asRow st E (.int .u8) y with
        | some (bs, st1) => (lapp 1 bs [x]).bind fun zs => R (.l .junk) (bldPut T E d j zs st1)
        | none => none) none
      | _ => none
    | _ => none
  flat := false

/-- How much a builder holds, read where it lies. -/
def blLen {U : Nat → Type} (st : St U) (E d : Nat) : LV U → Option Int
  | .nils => some 0
  | .row d' j' => cond (Nat.beq d d') (match asRow st E (.int .u8) (.row d' j') with
    | some p => some (llen p.1)
    | none => none) none
  | _ => none
/-- Len. -/
def blE (S : Sg) (T E : Nat) : Entry S where
  run args st R := match args with
    | [.l (.ref d j 0)] => match st.mem d j with
      | some (.bld T' y) => cond (Nat.beq T T') (match blLen st E d y with
        | some n => R (.l (.v (.int .i64) n)) st
        | none => none) none
      | _ => none
    | _ => none
  flat := true

theorem blLen_row {U : Nat → Type} {st : St U} {E d : Nat} {y : LV U} {n : Int} (h : blLen st E d y = some n) : ∃ bs st1, asRow st E (.int .u8) y = some (bs, st1) ∧ n = llen bs := by
  unfold blLen at h
  split at h
  · cases h; exact ⟨[], st, rfl, rfl⟩
  · rename_i d' j'
    cases q : Nat.beq d d' with
    | false => rw [q] at h; cases h
    | true =>
      rw [q, cond_true] at h
      cases e : asRow st E (.int .u8) (.row d' j') with
      | none => rw [e] at h; cases h
      | some p => rw [e] at h; cases h; exact ⟨p.1, p.2, rfl, rfl⟩
  · cases h
theorem blLen_same {U : Nat → Type} {st st' : St U} {E d : Nat} (h : ∀ j, SameAt (st'.mem d j) (st.mem d j)) (y : LV U) : blLen st' E d y = blLen st E d y := by
  cases y <;> try rfl
  case row d' j' =>
    simp only [blLen]
    cases q : Nat.beq d d' with
    | false => rfl
    | true =>
      have := Nat.eq_of_beq_eq_true q
      subst this
      simp only [cond_true, asRow]
      rcases h j' with e | ⟨_, _, e1, e2⟩
      · rw [e]
        cases st.mem d j' with
        | none => rfl
        | some o =>
          cases o <;> try rfl
          case row E' u xs =>
            cases qe : Nat.beq E E' with
            | false => simp only [qe, cond_false]
            | true =>
              simp only [qe, cond_true]
              cases castEl (U := U) (a := .sl u) (.sl (.int .u8)) xs <;> rfl
      · rw [e1, e2]

variable {c : Call} {st : St C.S.U} {a : Act} {w : World} {g : Gh}

theorem upd2_bld {α : Type} (m : Nat → Nat → α) (d j k : Nat) (x y z : α) : upd2 (upd2 (upd2 m d j x) d k y) d j z = upd2 (upd2 m d k y) d j z := funext fun e => funext fun i => by
  unfold upd2
  cases (and (Nat.beq e d) (Nat.beq i j)) <;> cases (and (Nat.beq e d) (Nat.beq i k)) <;> rfl

/-- The row of bytes in a builder, taken out of the telling. -/
theorem buf_facts (hr : Rel c st a w g) {E : Nat} {v : Value} {y : LV C.S.U} (hv : RepL g st.mem st.cnt v y) {bs : List (El C.S.U (.int .u8))} {st1 : St C.S.U} (ey : asRow st E (.int .u8) y = some (bs, st1)) :
    Rel c st1 a w g ∧ st1.sl = st.sl ∧ st1.cnt = st.cnt ∧ Memle st.mem st1.mem st.cnt ∧ (∀ z, v.ownBlock = some z → (g.M z = none ∧ (c.base ≤ z ∨ c.X z)) ∧ ∀ d' j' o', st1.mem d' j' = some o' → o'.mut = true → g.β d' j' ≠ some z) ∧
      ((v = .slice none 0 0 ∧ bs = []) ∨ ∃ q cap cur, v = .slice (some ⟨q, 0, none⟩) bs.length cap ∧ w.heap[q]? = some (.cells cur E (0, 0)) ∧ bs.length ≤ cap ∧ cap ≤ maxLen ∧ cur.size = cap ∧ cur.toList.take bs.length = bs.map fun n => Value.int .u8 n) := by
  cases y with
  | nils =>
    cases ey
    have hv : v = .slice none 0 0 := hv
    subst hv
    exact ⟨hr, rfl, rfl, Memle.refl _ _, fun z q => by simp [Value.ownBlock] at q, .inl ⟨rfl, rfl⟩⟩
  | row d' j' =>
    simp only [asRow] at ey
    split at ey
    · rename_i E' u xs em
      cases q : Nat.beq E E' with
      | false => rw [q] at ey; cases ey
      | true =>
      rw [q] at ey
      have := Nat.eq_of_beq_eq_true q
      subst this
      simp only [cond_true] at ey
      split at ey
      · rename_i ys ec
        cases ey
        obtain ⟨e1, e2⟩ := castEl_some (U := C.S.U) (a := .sl u) ec
        cases e1
        have e2 : bs = xs := e2
        subst e2
        have hk := hr.kill d' j'
        have h3 := hv.2.2 _ (.inl ⟨E, _, _, em, rfl⟩)
        refine ⟨hk, rfl, rfl, Memle.kill _ _ _ _, fun z hz => ?_, ?_⟩
        · rcases h3 with ⟨_, _, rfl⟩ | ⟨b, hb, rfl⟩
          · simp [Value.ownBlock] at hz
          · simp only [Value.ownBlock, Option.some.injEq] at hz
            subst hz
            refine ⟨hr.own d' j' _ b em rfl hb, fun d1 j1 o1 q1 m1 hb1 => ?_⟩
            obtain ⟨k1, k2⟩ := kill_sub q1
            exact k2 (hr.apart d1 j1 o1 b d' j' _ k1 m1 hb1 em rfl hb)
        · rcases hr.objs d' j' _ em with ⟨hb, hx⟩ | ⟨b, vs, hb, hh, hl, hmax, hs, hrow, h1⟩
          · rcases h3 with ⟨_, _, rfl⟩ | ⟨b, hb', rfl⟩
            · exact .inl ⟨rfl, hx⟩
            · rw [hb] at hb'; cases hb'
          · rcases h3 with ⟨hb', _, _⟩ | ⟨b', hb', rfl⟩
            · rw [hb] at hb'; cases hb'
            · rw [hb] at hb'; cases hb'
              have hs1 : sz C.S dep (.int .u8) = 1 := rfl
              rw [hs1, Nat.mul_one] at hs
              refine .inr ⟨b, _, vs, rfl, hh, hl, hmax, hs, ?_⟩
              have hvl : vs.toList.length = vs.size := Array.length_toList
              apply List.ext_getElem?
              intro i
              by_cases hi : i < bs.length
              · have := hrow.2 i hi
                rw [hs1, Nat.mul_one] at this
                have hseg : ∃ u, seg vs i 1 = [u] := by
                  have h1 := seg_len (cs := vs) (off := i) (n := 1) (by omega)
                  exact List.length_eq_one_iff.1 h1
                obtain ⟨u, hu⟩ := hseg
                rw [hu] at this
                have hu2 : u = .int .u8 bs[i] := by cases this; rfl
                have h0 : (seg vs i 1)[0]? = some u := by rw [hu]; rfl
                have h2 := seg_get h0
                rw [Nat.add_zero] at h2
                rw [List.getElem?_take_of_lt hi, Array.getElem?_toList, h2, hu2, List.getElem?_map, List.getElem?_eq_getElem hi]
                rfl
              · rw [List.getElem?_eq_none (by rw [List.length_take]; omega), List.getElem?_eq_none (by rw [List.length_map]; omega)]
      · cases ey
    · cases ey
  | _ => cases ey

theorem strCells_bytes (s : ByteArray) : Lib.strCells s = (sbytes s).map fun n => Value.int .u8 n := by
  simp [Lib.strCells, sbytes]

theorem keyless_ref {U : Nat → Type} {d j o : Nat} : keyless (.l (.ref d j o) : AV U) = false := rfl

theorem bwE_sound {T E f : Nat} (hW : ∀ (b : Nat) (p v : Value) (n : Nat) (bs : List Value) (s : ByteArray) (w : World), (p = .pointer none ∨ p = ptr b 0) → w.heap[b]? = some (.cells #[p, v] T (0, 0)) → w.ownsRow 0 E 1 v n bs → v.ownBlock ≠ some b → n + s.size ≤ 140737488355328 → Calls P f #[ptr b 0, .string s] w (WritePost T E b v n bs s w))
    {fn : Func} (hf : P.funcs[f]? = some fn) (hn : (fn.name == "runtime.NumGoroutine") = false) (hb : fn.body.isSome = true) : (bwE C.S T E).Sound P C f := by
  refine ⟨fun ρ' args st R r h c a w g vals hr hv => ?_, fun args st st' hk _ ρ' R => ?_⟩
  · simp only [bwE] at h
    split at h
    · rename_i d j s
      cases hv with
      | cons hu hv =>
      cases hv with
      | cons hs hv =>
      cases hv
      obtain ⟨hj, b, hβ, rfl⟩ := hu
      have hs := RepL.str (C := C) (st := st) hs
      subst hs
      split at h
      · rename_i T' y em
        cases q : Nat.beq T T' with
        | false => rw [q] at h; cases h
        | true =>
        rw [q] at h
        have := Nat.eq_of_beq_eq_true q
        subst this
        simp only [cond_true] at h
        split at h
        · rename_i bs st1 ey
          obtain ⟨zs, hz, h⟩ := Option.bind_eq_some_iff.1 h
          obtain ⟨l1, l2, rfl⟩ := lapp_some hz
          obtain ⟨b', p, v, o1, o2, o3, o4⟩ := hr.objs d j _ em
          rw [hβ] at o1
          cases o1
          obtain ⟨hr1, f1, f2, f3, f4, f5⟩ := buf_facts hr o4 ey
          have em1 := asRow_bld ey em
          have hlb : (sbytes s).length = s.size := sbytes_len s
          have hown : w.ownsRow 0 E 1 v bs.length (bs.map fun n => Value.int .u8 n) := by
            refine ⟨by simp, ?_⟩
            rcases f5 with ⟨rfl, rfl⟩ | ⟨q, cap, cur, rfl, k1, k2, k3, k4, k5⟩
            · exact .inl ⟨rfl, rfl⟩
            · exact .inr ⟨q, cap, cur, rfl, Nat.zero_le _, k1, k2, k3, by rw [Nat.mul_one]; exact k4, by rw [Nat.mul_one]; exact k5⟩
          have hne : v.ownBlock ≠ some b := fun e => (f4 b e).2 d j _ em1 rfl hβ
          refine callOk_of_calls hf hn hb ((hW b p v bs.length _ s w o3 o2 hown hne (by omega)).mono fun e w' he => ?_)
          obtain ⟨rfl, w1, w2, v', p1, ⟨p2, p3, p4, p5, p6⟩, p7, p8, p9, p10, rfl⟩ := he
          refine ⟨_, rfl, _, _, g.new d (st.cnt d + 1) v'.ownBlock (capV v'), h, ?_⟩
          -- its own address
          have y1 : RepL g st1.mem st1.cnt v y := RepL.mono (Ext.refl _ _) f3 (fun d => Nat.le_of_eq (congrFun f2.symm d)) v y o4
          have m1 := Memle.bld st1.mem st1.cnt d j T y
          have R1 := hr1.turn em1 rfl hβ (.bld T y) (w' := w1) ⟨p2, p3, p4, p5, p6⟩ m1 ⟨b, _, _, hβ, p1, .inr rfl, RepL.mono (Ext.refl _ _) m1 (fun _ => Nat.le_refl _) v y y1⟩
          have keys : ∀ d' j' o', upd2 st1.mem d j (some (.bld T y)) d' j' = some o' → o'.mut = true → ∃ o2', st1.mem d' j' = some o2' ∧ o2'.mut = true := fun d' j' o' q m => by
            rcases upd2_cases st1.mem d j (some (.bld T y)) d' j' with ⟨z1, z2, r⟩ | ⟨z1, r⟩
            · subst z1; subst z2; exact ⟨_, em1, rfl⟩
            · exact ⟨o', r.symm.trans q, m⟩
          -- the old row goes
          have R2 := R1.after (X := fun z => v.ownBlock = some z) (w' := w2) ⟨p8.os, p8.tape, p8.output, p8.size, fun k hk hx => p8.block k hk (fun e => hx e.symm)⟩ (fun z hz => ⟨(f4 z hz).1.2, (f4 z hz).1.1, fun d' j' o' q m e => by
            obtain ⟨o2', k1, k2⟩ := keys d' j' o' q m
            exact (f4 z hz).2 d' j' o2' k1 k2 e⟩)
          -- the new one comes
          have hv' : (v' = .slice none 0 0 ∧ bs ++ sbytes s = []) ∨ ∃ q cap cur, v' = .slice (some ⟨q, 0, none⟩) (bs ++ sbytes s).length cap ∧ w2.heap[q]? = some (.cells cur E (0, 0)) ∧ (bs ++ sbytes s).length ≤ cap ∧ cap ≤ maxLen ∧ cur.size = cap ∧ cur.toList.take (bs ++ sbytes s).length = (bs ++ sbytes s).map fun n => Value.int .u8 n := by
            rw [List.length_append, hlb]
            rcases p7.2 with ⟨k1, k2⟩ | ⟨q, cap, cur, k1, _, k3, k4, k5, k6, k7⟩
            · refine .inl ⟨k1, List.eq_nil_of_length_eq_zero (by rw [List.length_append, hlb]; exact k2)⟩
            · refine .inr ⟨q, cap, cur, k1, k3, k4, k5, by rw [Nat.mul_one] at k6; exact k6, ?_⟩
              rw [Nat.mul_one] at k7
              rw [k7, strCells_bytes, List.map_append]
          have hcnt : (upd2 st1.mem d j (some (.bld T y) : Option (Obj' C.S.U))) = (upd2 st1.mem d j (some (.bld T y))) := rfl
          have N := R2.newG d (.row E (.int .u8) (bs ++ sbytes s)) v'.ownBlock (capV v') (fun z hz => by
            rcases p9 with e | ⟨q, e, hq⟩
            · rw [e] at hz
              exact ⟨(f4 z hz).1.1, (f4 z hz).1.2, fun d' j' o' q m e => by
                obtain ⟨o2', k1, k2⟩ := keys d' j' o' q m
                exact (f4 z hz).2 d' j' o2' k1 k2 e⟩
            · rw [e] at hz
              cases hz
              obtain ⟨⟨n1, n2⟩, n3⟩ := R1.newB hq
              exact ⟨n1, n2, n3⟩) (by
            have hβ2 : (g.new d (st1.cnt d + 1) v'.ownBlock (capV v')).β d (st1.cnt d + 1) = v'.ownBlock := upd2_same _ _ _ _
            have hγ2 : (g.new d (st1.cnt d + 1) v'.ownBlock (capV v')).γ d (st1.cnt d + 1) = (capV v') := upd2_same _ _ _ _
            rcases hv' with ⟨rfl, k2⟩ | ⟨q, cap, cur, rfl, k1, k2, k3, k4, k5⟩
            · exact .inl ⟨hβ2, k2⟩
            · refine .inr ⟨q, cur, hβ2, k1, by rw [hγ2]; exact k2, by rw [hγ2]; exact k3, by rw [hγ2]; exact (Nat.mul_one _).symm ▸ k4, ⟨?_, fun i hi => ?_⟩, fun u hu => ?_⟩
              · show (bs ++ sbytes s).length * 1 ≤ cur.size
                omega
              · have : cur[i]? = some (.int .u8 (bs ++ sbytes s)[i]) := by
                  have := congrArg (fun l => l[i]?) k5
                  simp only [List.getElem?_take_of_lt hi, List.getElem?_map, List.getElem?_eq_getElem hi, Array.getElem?_toList] at this
                  exact this
                have hseg : seg cur (i * 1) 1 = [.int .u8 (bs ++ sbytes s)[i]] := by
                  have h1 : i < cur.toList.length := by rw [Array.length_toList]; omega
                  have h2 : cur.toList[i] = .int .u8 (bs ++ sbytes s)[i] := by
                    rw [← Array.getElem?_toList, List.getElem?_eq_getElem h1] at this
                    exact Option.some.inj this
                  unfold seg
                  rw [Nat.mul_one, List.drop_eq_getElem_cons h1, List.take_succ_cons, h2]
                  rfl
                show RepC C.S _ (.int .u8) (seg cur (i * 1) 1) _
                rw [hseg]
                exact .int _ _
              · have hu : u ∈ cur.toList.take ((bs ++ sbytes s).length * 1) := hu
                rw [Nat.mul_one, k5] at hu
                obtain ⟨n, _, rfl⟩ := List.mem_map.1 hu
                rfl)
          have hd1 : st.cnt d = st1.cnt d := congrFun f2.symm d
          rw [hd1]
          have hβn : (g.new d (st1.cnt d + 1) v'.ownBlock (capV v')).β d (st1.cnt d + 1) = v'.ownBlock := upd2_same _ _ _ _
          have hγn : (g.new d (st1.cnt d + 1) v'.ownBlock (capV v')).γ d (st1.cnt d + 1) = (capV v') := upd2_same _ _ _ _
          have hgn := Ext.new g st1.cnt d v'.ownBlock (capV v')
          have hj1 : j ≤ st1.cnt d := by rw [← hd1]; exact hj
          have hnj : ¬ (d = d ∧ j = st1.cnt d + 1) := by omega
          -- the builder's own block
          have e2 : (newObj' d (.row E (.int .u8) (bs ++ sbytes s)) { st1 with mem := upd2 st1.mem d j (some (.bld T y)) }).mem d j = some (.bld T y) := by
            show upd2 (upd2 st1.mem d j (some (.bld T y))) d (st1.cnt d + 1) _ d j = _
            rw [upd2_other _ _ _ _ hnj, upd2_same]
          have m2 := Memle.bld (newObj' d (.row E (.int .u8) (bs ++ sbytes s)) { st1 with mem := upd2 st1.mem d j (some (.bld T y)) }).mem (newObj' d (.row E (.int .u8) (bs ++ sbytes s)) { st1 with mem := upd2 st1.mem d j (some (.bld T y)) }).cnt d j T (.row d (st1.cnt d + 1))
          have hrow : RepL (g.new d (st1.cnt d + 1) v'.ownBlock (capV v')) (newObj' d (.row E (.int .u8) (bs ++ sbytes s)) { st1 with mem := upd2 st1.mem d j (some (.bld T y)) }).mem (newObj' d (.row E (.int .u8) (bs ++ sbytes s)) { st1 with mem := upd2 st1.mem d j (some (.bld T y)) }).cnt v' (.row d (st1.cnt d + 1)) := by
            refine ⟨by show _ ≤ upd st1.cnt d (st1.cnt d + 1) d; rw [upd_same]; exact Nat.le_refl _, ?_, fun n hn => ?_⟩
            · rcases hv' with ⟨rfl, _⟩ | ⟨q, cap, cur, rfl, _⟩ <;> exact ⟨_, _, _, rfl⟩
            · have hm : (newObj' d (.row E (.int .u8) (bs ++ sbytes s)) { st1 with mem := upd2 st1.mem d j (some (.bld T y)) }).mem d (st1.cnt d + 1) = some (.row E (.int .u8) (bs ++ sbytes s)) := upd2_same _ _ _ _
              have hn' : n = (bs ++ sbytes s).length := by
                rcases hn with ⟨_, _, ls, q, l⟩ | ⟨_, ls, q, l⟩
                · rw [hm] at q; cases q; exact l.symm
                · rw [hm] at q; cases q
              subst hn'
              rcases hv' with ⟨rfl, k2⟩ | ⟨q, cap, cur, rfl, _⟩
              · exact .inl ⟨hβn, by rw [k2]; rfl, rfl⟩
              · exact .inr ⟨q, hβn, by rw [hγn]; rfl⟩
          have R3 := N.turn e2 rfl ((hgn.β d j hj1).trans hβ) (.bld T (.row d (st1.cnt d + 1))) (w' := w2.setCell ⟨b, 1, none⟩ v') ⟨rfl, rfl, rfl, by simp [World.setCell], heap_setCell w2 b 1 v'⟩ m2
            ⟨b, ptr b 0, v', (hgn.β d j hj1).trans hβ, heap_setCell_at p10 1 v', .inr rfl, RepL.mono (Ext.refl _ _) m2 (fun _ => Nat.le_refl _) v' _ hrow⟩
          have eqs : bldPut T E d j (bs ++ sbytes s) st1 = { newObj' d (.row E (.int .u8) (bs ++ sbytes s)) { st1 with mem := upd2 st1.mem d j (some (.bld T y)) } with mem := upd2 (newObj' d (.row E (.int .u8) (bs ++ sbytes s)) { st1 with mem := upd2 st1.mem d j (some (.bld T y)) }).mem d j (some (.bld T (.row d (st1.cnt d + 1)))) } := by
            simp only [bldPut, newObj', upd2_bld]
          rw [eqs]
          refine ⟨R3, ⟨[.int .i64 s.size, .nilIface], rfl, .cons (rep_int (st := st) (C := C) _ _) (.cons trivial .nil)⟩, by rw [← f2]; exact hgn, fun e => ?_⟩
          rw [← f2]
          exact cnt_le st1.cnt d e
        · cases h
      · cases h
    · cases h
  · have hk : ∀ x ∈ args, keyless x = true := hk.resolve_left (by simp [bwE])
    have none' : ∀ (st : St C.S.U) {ρ'' : Type} (R : AV C.S.U → St C.S.U → Option ρ''), (bwE C.S T E).run args st R = none := fun st _ R => by
      simp only [bwE]
      split
      · have := hk _ (List.mem_cons_self ..)
        cases this
      · rfl
    rw [none', none']
    rfl

theorem RepL.u8 {g : Gh} {v : Value} {x : Int} (h : RepL g st.mem st.cnt v (.v (.int .u8) x : LV C.S.U)) : v = .int .u8 x := by
  rcases h with ⟨q, _⟩ | ⟨_, q⟩
  · cases q
  · cases q; rfl

theorem bbE_sound {T E f : Nat} (hW : ∀ (b : Nat) (p v : Value) (n : Nat) (bs : List Value) (x : Int) (w : World), (p = .pointer none ∨ p = ptr b 0) → w.heap[b]? = some (.cells #[p, v] T (0, 0)) → w.ownsRow 0 E 1 v n bs → v.ownBlock ≠ some b → n + 1 ≤ 140737488355328 → Calls P f #[ptr b 0, .int .u8 x] w (BytePost T E b v n bs x w))
    {fn : Func} (hf : P.funcs[f]? = some fn) (hn : (fn.name == "runtime.NumGoroutine") = false) (hb : fn.body.isSome = true) : (bbE C.S T E).Sound P C f := by
  refine ⟨fun ρ' args st R r h c a w g vals hr hv => ?_, fun args st st' hk _ ρ' R => ?_⟩
  · simp only [bbE] at h
    split at h
    · rename_i d j x
      cases hv with
      | cons hu hv =>
      cases hv with
      | cons hs hv =>
      cases hv
      obtain ⟨hj, b, hβ, rfl⟩ := hu
      have hs := RepL.u8 (C := C) (st := st) hs
      subst hs
      split at h
      · rename_i T' y em
        cases q : Nat.beq T T' with
        | false => rw [q] at h; cases h
        | true =>
        rw [q] at h
        have := Nat.eq_of_beq_eq_true q
        subst this
        simp only [cond_true] at h
        split at h
        · rename_i bs st1 ey
          obtain ⟨zs, hz, h⟩ := Option.bind_eq_some_iff.1 h
          obtain ⟨l1, l2, rfl⟩ := lapp_some hz
          obtain ⟨b', p, v, o1, o2, o3, o4⟩ := hr.objs d j _ em
          rw [hβ] at o1
          cases o1
          obtain ⟨hr1, f1, f2, f3, f4, f5⟩ := buf_facts hr o4 ey
          have em1 := asRow_bld ey em
          have hlb : ([x] : List Int).length = 1 := rfl
          have hown : w.ownsRow 0 E 1 v bs.length (bs.map fun n => Value.int .u8 n) := by
            refine ⟨by simp, ?_⟩
            rcases f5 with ⟨rfl, rfl⟩ | ⟨q, cap, cur, rfl, k1, k2, k3, k4, k5⟩
            · exact .inl ⟨rfl, rfl⟩
            · exact .inr ⟨q, cap, cur, rfl, Nat.zero_le _, k1, k2, k3, by rw [Nat.mul_one]; exact k4, by rw [Nat.mul_one]; exact k5⟩
          have hne : v.ownBlock ≠ some b := fun e => (f4 b e).2 d j _ em1 rfl hβ
          refine callOk_of_calls hf hn hb ((hW b p v bs.length _ x w o3 o2 hown hne (by simpa using l2)).mono fun e w' he => ?_)
          obtain ⟨rfl, w1, wA, w2, v', p1, ⟨p2, p3, p4, p5, p6⟩, pA, p7, p8, p9, p10, rfl⟩ := he
          refine ⟨_, rfl, _, _, g.new d (st.cnt d + 1) v'.ownBlock (capV v'), h, ?_⟩
          -- its own address
          have y1 : RepL g st1.mem st1.cnt v y := RepL.mono (Ext.refl _ _) f3 (fun d => Nat.le_of_eq (congrFun f2.symm d)) v y o4
          have m1 := Memle.bld st1.mem st1.cnt d j T y
          have R1 := hr1.turn em1 rfl hβ (.bld T y) (w' := w1) ⟨p2, p3, p4, p5, p6⟩ m1 ⟨b, _, _, hβ, p1, .inr rfl, RepL.mono (Ext.refl _ _) m1 (fun _ => Nat.le_refl _) v y y1⟩
          have RA := R1.world pA
          have keys : ∀ d' j' o', upd2 st1.mem d j (some (.bld T y)) d' j' = some o' → o'.mut = true → ∃ o2', st1.mem d' j' = some o2' ∧ o2'.mut = true := fun d' j' o' q m => by
            rcases upd2_cases st1.mem d j (some (.bld T y)) d' j' with ⟨z1, z2, r⟩ | ⟨z1, r⟩
            · subst z1; subst z2; exact ⟨_, em1, rfl⟩
            · exact ⟨o', r.symm.trans q, m⟩
          -- the old row goes
          have R2 := RA.after (X := fun z => v.ownBlock = some z) (w' := w2) ⟨p8.os, p8.tape, p8.output, p8.size, fun k hk hx => p8.block k hk (fun e => hx e.symm)⟩ (fun z hz => ⟨(f4 z hz).1.2, (f4 z hz).1.1, fun d' j' o' q m e => by
            obtain ⟨o2', k1, k2⟩ := keys d' j' o' q m
            exact (f4 z hz).2 d' j' o2' k1 k2 e⟩)
          -- the new one comes
          have hv' : (v' = .slice none 0 0 ∧ bs ++ [x] = []) ∨ ∃ q cap cur, v' = .slice (some ⟨q, 0, none⟩) (bs ++ [x]).length cap ∧ w2.heap[q]? = some (.cells cur E (0, 0)) ∧ (bs ++ [x]).length ≤ cap ∧ cap ≤ maxLen ∧ cur.size = cap ∧ cur.toList.take (bs ++ [x]).length = (bs ++ [x]).map fun n => Value.int .u8 n := by
            rw [List.length_append, hlb]
            rcases p7.2 with ⟨k1, k2⟩ | ⟨q, cap, cur, k1, _, k3, k4, k5, k6, k7⟩
            · refine .inl ⟨k1, List.eq_nil_of_length_eq_zero (by rw [List.length_append, hlb]; exact k2)⟩
            · refine .inr ⟨q, cap, cur, k1, k3, k4, k5, by rw [Nat.mul_one] at k6; exact k6, ?_⟩
              rw [Nat.mul_one] at k7
              rw [k7, List.map_append]; rfl
          have hcnt : (upd2 st1.mem d j (some (.bld T y) : Option (Obj' C.S.U))) = (upd2 st1.mem d j (some (.bld T y))) := rfl
          have N := R2.newG d (.row E (.int .u8) (bs ++ [x])) v'.ownBlock (capV v') (fun z hz => by
            rcases p9 with e | ⟨q, e, hq⟩
            · rw [e] at hz
              exact ⟨(f4 z hz).1.1, (f4 z hz).1.2, fun d' j' o' q m e => by
                obtain ⟨o2', k1, k2⟩ := keys d' j' o' q m
                exact (f4 z hz).2 d' j' o2' k1 k2 e⟩
            · rw [e] at hz
              cases hz
              obtain ⟨⟨n1, n2⟩, n3⟩ := RA.newB hq
              exact ⟨n1, n2, n3⟩) (by
            have hβ2 : (g.new d (st1.cnt d + 1) v'.ownBlock (capV v')).β d (st1.cnt d + 1) = v'.ownBlock := upd2_same _ _ _ _
            have hγ2 : (g.new d (st1.cnt d + 1) v'.ownBlock (capV v')).γ d (st1.cnt d + 1) = (capV v') := upd2_same _ _ _ _
            rcases hv' with ⟨rfl, k2⟩ | ⟨q, cap, cur, rfl, k1, k2, k3, k4, k5⟩
            · exact .inl ⟨hβ2, k2⟩
            · refine .inr ⟨q, cur, hβ2, k1, by rw [hγ2]; exact k2, by rw [hγ2]; exact k3, by rw [hγ2]; exact (Nat.mul_one _).symm ▸ k4, ⟨?_, fun i hi => ?_⟩, fun u hu => ?_⟩
              · show (bs ++ [x]).length * 1 ≤ cur.size
                omega
              · have : cur[i]? = some (.int .u8 (bs ++ [x])[i]) := by
                  have := congrArg (fun l => l[i]?) k5
                  simp only [List.getElem?_take_of_lt hi, List.getElem?_map, List.getElem?_eq_getElem hi, Array.getElem?_toList] at this
                  exact this
                have hseg : seg cur (i * 1) 1 = [.int .u8 (bs ++ [x])[i]] := by
                  have h1 : i < cur.toList.length := by rw [Array.length_toList]; omega
                  have h2 : cur.toList[i] = .int .u8 (bs ++ [x])[i] := by
                    rw [← Array.getElem?_toList, List.getElem?_eq_getElem h1] at this
                    exact Option.some.inj this
                  unfold seg
                  rw [Nat.mul_one, List.drop_eq_getElem_cons h1, List.take_succ_cons, h2]
                  rfl
                show RepC C.S _ (.int .u8) (seg cur (i * 1) 1) _
                rw [hseg]
                exact .int _ _
              · have hu : u ∈ cur.toList.take ((bs ++ [x]).length * 1) := hu
                rw [Nat.mul_one, k5] at hu
                obtain ⟨n, _, rfl⟩ := List.mem_map.1 hu
                rfl)
          have hd1 : st.cnt d = st1.cnt d := congrFun f2.symm d
          rw [hd1]
          have hβn : (g.new d (st1.cnt d + 1) v'.ownBlock (capV v')).β d (st1.cnt d + 1) = v'.ownBlock := upd2_same _ _ _ _
          have hγn : (g.new d (st1.cnt d + 1) v'.ownBlock (capV v')).γ d (st1.cnt d + 1) = (capV v') := upd2_same _ _ _ _
          have hgn := Ext.new g st1.cnt d v'.ownBlock (capV v')
          have hj1 : j ≤ st1.cnt d := by rw [← hd1]; exact hj
          have hnj : ¬ (d = d ∧ j = st1.cnt d + 1) := by omega
          -- the builder's own block
          have e2 : (newObj' d (.row E (.int .u8) (bs ++ [x])) { st1 with mem := upd2 st1.mem d j (some (.bld T y)) }).mem d j = some (.bld T y) := by
            show upd2 (upd2 st1.mem d j (some (.bld T y))) d (st1.cnt d + 1) _ d j = _
            rw [upd2_other _ _ _ _ hnj, upd2_same]
          have m2 := Memle.bld (newObj' d (.row E (.int .u8) (bs ++ [x])) { st1 with mem := upd2 st1.mem d j (some (.bld T y)) }).mem (newObj' d (.row E (.int .u8) (bs ++ [x])) { st1 with mem := upd2 st1.mem d j (some (.bld T y)) }).cnt d j T (.row d (st1.cnt d + 1))
          have hrow : RepL (g.new d (st1.cnt d + 1) v'.ownBlock (capV v')) (newObj' d (.row E (.int .u8) (bs ++ [x])) { st1 with mem := upd2 st1.mem d j (some (.bld T y)) }).mem (newObj' d (.row E (.int .u8) (bs ++ [x])) { st1 with mem := upd2 st1.mem d j (some (.bld T y)) }).cnt v' (.row d (st1.cnt d + 1)) := by
            refine ⟨by show _ ≤ upd st1.cnt d (st1.cnt d + 1) d; rw [upd_same]; exact Nat.le_refl _, ?_, fun n hn => ?_⟩
            · rcases hv' with ⟨rfl, _⟩ | ⟨q, cap, cur, rfl, _⟩ <;> exact ⟨_, _, _, rfl⟩
            · have hm : (newObj' d (.row E (.int .u8) (bs ++ [x])) { st1 with mem := upd2 st1.mem d j (some (.bld T y)) }).mem d (st1.cnt d + 1) = some (.row E (.int .u8) (bs ++ [x])) := upd2_same _ _ _ _
              have hn' : n = (bs ++ [x]).length := by
                rcases hn with ⟨_, _, ls, q, l⟩ | ⟨_, ls, q, l⟩
                · rw [hm] at q; cases q; exact l.symm
                · rw [hm] at q; cases q
              subst hn'
              rcases hv' with ⟨rfl, k2⟩ | ⟨q, cap, cur, rfl, _⟩
              · exact .inl ⟨hβn, by rw [k2]; rfl, rfl⟩
              · exact .inr ⟨q, hβn, by rw [hγn]; rfl⟩
          have R3 := N.turn e2 rfl ((hgn.β d j hj1).trans hβ) (.bld T (.row d (st1.cnt d + 1))) (w' := w2.setCell ⟨b, 1, none⟩ v') ⟨rfl, rfl, rfl, by simp [World.setCell], heap_setCell w2 b 1 v'⟩ m2
            ⟨b, ptr b 0, v', (hgn.β d j hj1).trans hβ, heap_setCell_at p10 1 v', .inr rfl, RepL.mono (Ext.refl _ _) m2 (fun _ => Nat.le_refl _) v' _ hrow⟩
          have eqs : bldPut T E d j (bs ++ [x]) st1 = { newObj' d (.row E (.int .u8) (bs ++ [x])) { st1 with mem := upd2 st1.mem d j (some (.bld T y)) } with mem := upd2 (newObj' d (.row E (.int .u8) (bs ++ [x])) { st1 with mem := upd2 st1.mem d j (some (.bld T y)) }).mem d j (some (.bld T (.row d (st1.cnt d + 1)))) } := by
            simp only [bldPut, newObj', upd2_bld]
          rw [eqs]
          refine ⟨R3, trivial, by rw [← f2]; exact hgn, fun e => ?_⟩
          rw [← f2]
          exact cnt_le st1.cnt d e
        · cases h
      · cases h
    · cases h
  · have hk : ∀ x ∈ args, keyless x = true := hk.resolve_left (by simp [bbE])
    have none' : ∀ (st : St C.S.U) {ρ'' : Type} (R : AV C.S.U → St C.S.U → Option ρ''), (bbE C.S T E).run args st R = none := fun st _ R => by
      simp only [bbE]
      split
      · have := hk _ (List.mem_cons_self ..)
        cases this
      · rfl
    rw [none', none']
    rfl

theorem blE_sound {ρ0 : Ren} (L : Lays.n170 P ρ0) {fn : Func} (hf : P.funcs[ρ0.f 170]? = some fn) (hn : (fn.name == "runtime.NumGoroutine") = false) (hb : fn.body.isSome = true) : (blE C.S (ρ0.t 72) (ρ0.t 5)).Sound P C (ρ0.f 170) := by
  refine ⟨fun ρ' args st R r h c a w g vals hr hv => ?_, fun args st st' _ hs ρ' R => ?_⟩
  · simp only [blE] at h
    split at h
    · rename_i d j
      cases hv with
      | cons hu hv =>
      cases hv
      obtain ⟨hj, b, hβ, rfl⟩ := hu
      split at h
      · rename_i T' y em
        cases q : Nat.beq (ρ0.t 72) T' with
        | false => rw [q] at h; cases h
        | true =>
        rw [q] at h
        have := Nat.eq_of_beq_eq_true q
        subst this
        simp only [cond_true] at h
        split at h
        · rename_i n en
          obtain ⟨bs, st1, ey, rfl⟩ := blLen_row en
          obtain ⟨b', p, v, o1, o2, o3, o4⟩ := hr.objs d j _ em
          rw [hβ] at o1
          cases o1
          obtain ⟨hr1, f1, f2, f3, f4, f5⟩ := buf_facts hr o4 ey
          have em1 := asRow_bld ey em
          have hown : w.ownsRow 0 (ρ0.t 5) 1 v bs.length (bs.map fun n => Value.int .u8 n) := by
            refine ⟨by simp, ?_⟩
            rcases f5 with ⟨rfl, rfl⟩ | ⟨q, cap, cur, rfl, k1, k2, k3, k4, k5⟩
            · exact .inl ⟨rfl, rfl⟩
            · exact .inr ⟨q, cap, cur, rfl, Nat.zero_le _, k1, k2, k3, by rw [Nat.mul_one]; exact k4, by rw [Nat.mul_one]; exact k5⟩
          have hne : v.ownBlock ≠ some b := fun e => (f4 b e).2 d j _ em1 rfl hβ
          have hat : ∀ p', p = p' → Lib.BuilderAt (ρ0.t 72) (ρ0.t 5) 0 b p' (bs.map fun n => Value.int .u8 n) w := fun p' e => ⟨Nat.zero_le _, v, e ▸ o2, by simpa using hown, hne⟩
          have hib : Lib.IsBuilder (ρ0.t 72) (ρ0.t 5) 0 b (bs.map fun n => Value.int .u8 n) w := o3.imp (fun e => hat _ e) (fun e => hat _ e)
          refine callOk_of_calls hf hn hb ((Any.Builder_Len L 0 b _ w hib).mono fun e w' he => ?_)
          obtain ⟨rfl, rfl⟩ := he
          refine ⟨_, rfl, _, _, g, h, hr, ?_, Ext.refl _ _, fun _ => Nat.le_refl _⟩
          rw [List.length_map]
          exact rep_int (st := st) (C := C) _ _
        · cases h
      · cases h
    · cases h
  · by_cases hsh : ∃ d j, args = [.l (.ref d j 0)]
    · obtain ⟨d, j, rfl⟩ := hsh
      have hd : ∀ j', SameAt (st'.mem d j') (st.mem d j') := hs _ (List.mem_cons_self ..) (d, j) (List.mem_cons_self ..)
      simp only [blE]
      rcases hd j with e | ⟨_, _, e1, e2⟩
      · rw [e]
        cases st.mem d j with
        | none => rfl
        | some o =>
          cases o <;> try rfl
          case bld T' y =>
            simp only [blLen_same hd y]
            cases Nat.beq (ρ0.t 72) T' with
            | false => rfl
            | true =>
              simp only [cond_true]
              cases blLen st (ρ0.t 5) d y <;> rfl
      · rw [e1, e2]; rfl
    · have none' : ∀ (st : St C.S.U) {ρ'' : Type} (R : AV C.S.U → St C.S.U → Option ρ''), (blE C.S (ρ0.t 72) (ρ0.t 5)).run args st R = none := fun st _ R => by
        simp only [blE]
        split
        · exact absurd ⟨_, _, rfl⟩ hsh
        · rfl
      rw [none', none']
      rfl

theorem bsE_sound (X : Builder.Extra P ρ) (L : Lays.n169 P ρ) {fn : Func} (hf : P.funcs[ρ.f 169]? = some fn) (hn : (fn.name == "runtime.NumGoroutine") = false) (hb : fn.body.isSome = true) : (bsE C.S (ρ.t 72) (ρ.t 5)).Sound P C (ρ.f 169) := by
  refine ⟨fun ρ' args st R r h c a w g vals hr hv => ?_, fun args st st' hk _ ρ' R => ?_⟩
  · simp only [bsE] at h
    split at h
    · rename_i d j
      cases hv with
      | cons hu hv =>
      cases hv
      obtain ⟨hj, b, hβ, rfl⟩ := hu
      split at h
      · rename_i T' y em
        cases q : Nat.beq (ρ.t 72) T' with
        | false => rw [q] at h; cases h
        | true =>
        rw [q] at h
        have := Nat.eq_of_beq_eq_true q
        subst this
        simp only [cond_true] at h
        split at h
        · rename_i bs st1 ey
          obtain ⟨b', p, v, o1, o2, o3, o4⟩ := hr.objs d j _ em
          rw [hβ] at o1
          cases o1
          obtain ⟨hr1, f1, f2, f3, f4, f5⟩ := buf_facts hr o4 ey
          have Rk := hr1.kill d j
          have done : ∀ w', Rel c (kill st1 d j) a w' g → ∃ z st' g', R z st' = some r ∧ Rel c st' a w' g' ∧ RepA g' st'.mem st'.cnt (.string (bstr bs)) z ∧ Ext g g' st.cnt ∧ ∀ d, st.cnt d ≤ st'.cnt d := fun w' R' =>
            ⟨_, _, g, h, R', .inr ⟨rfl, .str _⟩, Ext.refl _ _, fun e => Nat.le_of_eq (congrFun f2.symm e)⟩
          have emptyOf : bs = [] → ∀ {Q : Ending → World → Prop}, Calls P (ρ.f 169) #[ptr b 0] w (fun e w' => e = .returned (.string ⟨#[]⟩) ∧ Below w.heap.size w w') → Calls P (ρ.f 169) #[ptr b 0] w fun e w' => ∃ v, e = .returned v ∧ ∃ z st' g', R z st' = some r ∧ Rel c st' a w' g' ∧ RepA g' st'.mem st'.cnt v z ∧ Ext g g' st.cnt ∧ ∀ d, st.cnt d ≤ st'.cnt d := fun hbs _ hC => hC.mono fun e w' he => by
            obtain ⟨rfl, hbel⟩ := he
            refine ⟨_, rfl, ?_⟩
            have := done w' (Rk.world (Grow.of_below hbel))
            subst hbs
            exact this
          refine callOk_of_calls hf hn hb ?_
          by_cases hbs : bs = []
          · rcases f5 with ⟨rfl, _⟩ | ⟨q, cap, cur, rfl, k1, k2, k3, k4, k5⟩
            · exact emptyOf hbs (Q := fun _ _ => True) (Any.Builder_String_nil L X w.heap.size b p w o2)
            · rw [hbs] at o2
              by_cases hc0 : cap = 0
              · subst hc0
                exact emptyOf hbs (Q := fun _ _ => True) (Any.Builder_String_noroom L X w.heap.size b q p cur w (Nat.le_refl _) o2 k1)
              · exact emptyOf hbs (Q := fun _ _ => True) (Any.Builder_String_room L X w.heap.size b q cap p w hc0 o2)
          · rcases f5 with ⟨_, k2⟩ | ⟨q, cap, cur, rfl, k1, k2, k3, k4, k5⟩
            · exact absurd k2 hbs
            · have hcell : ∀ (j : Nat) (x : Int), bs[j]? = some x → cur[j]? = some (Value.int .u8 x) := fun i x hx => by
                have hi : i < bs.length := (List.getElem?_eq_some_iff.1 hx).1
                have := congrArg (fun l => l[i]?) k5
                simp only [List.getElem?_take_of_lt hi, List.getElem?_map, Array.getElem?_toList] at this
                rw [this, show bs[i]? = some x from hx]
                rfl
              refine (bld_string L X b q cap p cur bs w o2 k1 k2 k3 k4 hcell hbs).mono fun e w' he => ?_
              obtain ⟨rfl, p2, p3, p4, p5, p6⟩ := he
              refine ⟨_, rfl, done w' (Rk.after (X := fun z => z = q) ⟨p2, p3, p4, by omega, fun k hk hx => p6 k hx⟩ fun z hz => ?_)⟩
              subst hz
              obtain ⟨⟨n1, n2⟩, n3⟩ := f4 z rfl
              exact ⟨n2, n1, fun d' j' o' q m => n3 d' j' o' (kill_sub q).1 m⟩
        · cases h
      · cases h
    · cases h
  · have hk : ∀ x ∈ args, keyless x = true := hk.resolve_left (by simp [bsE])
    have none' : ∀ (st : St C.S.U) {ρ'' : Type} (R : AV C.S.U → St C.S.U → Option ρ''), (bsE C.S (ρ.t 72) (ρ.t 5)).run args st R = none := fun st _ R => by
      simp only [bsE]
      split
      · have := hk _ (List.mem_cons_self ..)
        cases this
      · rfl
    rw [none', none']
    rfl
end
end Go.Proofs.YthmedjljckbidaaDoor.Lift
