/- What comes in as an argument is a value of a kind: a number, a bool, a string, a slice, a struct, a tree. Conditions: each string and each slice takes at most reachBytes. -/
import Derived.WalkKit
import Derived.ProofKit
import Derived.OpenShut
import Derived.SizedLaws
import Derived.Deep.Slices
import Derived.Lib.SmallJoins
import Derived.Test.YtmjfjjnmdljkeaaWWords
import Derived.Test.YtmjfjjnmdljkeaaWLast
namespace Go.Proofs.Ytmjfjjnmdljkeaa.Opening
open Go.ChangeShapes Go.WideShapes Go.ChangeAt Go.RowKit Go.Deep
open Go.Proofs.YtmjfjjnmdljkeaaW.PrintWords

/-- What is read at type t, with at most N steps, is a value of the kind d; G is what is known of it. -/
def Opens (P : Program) (N : Nat) (t : TypeId) {α : Type} (d : Kd α) (G : α → Prop) : Prop :=
  ∀ (H : Type) (enc : TypeId × Value → H) (w : World) (base : Nat) (spare : Nat → Bool) (held : Bool) (fuel : Nat), fuel ≤ N → ∀ (cs : List Value) (x : DataW H × List MemPlace),
    DataW.trod enc P w base spare held fuel t cs = some x → (∀ n ∈ DataW.weights P t x.1, n ≤ reachBytes) → ∃ y : α, d.K w y cs ∧ G y

theorem opens_imp {P : Program} {N : Nat} {t : TypeId} {α : Type} {d : Kd α} {G G' : α → Prop} (h : Opens P N t d G) (hG : ∀ y, G y → G' y) : Opens P N t d G' := fun H enc w base spare held fuel hf cs x hx hw => by
  obtain ⟨y, h1, h2⟩ := h H enc w base spare held fuel hf cs x hx hw
  exact ⟨y, h1, hG y h2⟩
theorem opens_le {P : Program} {N M : Nat} {t : TypeId} {α : Type} {d : Kd α} {G : α → Prop} (h : Opens P N t d G) (hM : M ≤ N) : Opens P M t d G := fun H enc w base spare held fuel hf => h H enc w base spare held fuel (by omega)

theorem opens_int {P : Program} {t : TypeId} {k : IntKind} (ht : P.underlying t = some (.int k)) (N : Nat) : Opens P N t (Kd.int k) (fun n => (Lit.int k n).wf = true) := fun H enc w base spare held fuel hf cs x hx hw => by
  obtain ⟨n, rfl, _, h⟩ := DataW.trod_int ht hx
  exact ⟨n, rfl, h⟩
theorem opens_bool {P : Program} {t : TypeId} (ht : P.underlying t = some .bool) (N : Nat) : Opens P N t Kd.bool (fun _ => True) := fun H enc w base spare held fuel hf cs x hx hw => by
  obtain ⟨b, rfl, _⟩ := DataW.trod_bool ht hx
  exact ⟨b, rfl, trivial⟩
theorem opens_string {P : Program} {t : TypeId} (ht : P.underlying t = some .string) (N : Nat) : Opens P N t Kd.string (fun s => s.size ≤ 140737488351232) := fun H enc w base spare held fuel hf cs x hx hw => by
  obtain ⟨s, rfl, rfl, h⟩ := DataW.trod_string ht hx
  refine ⟨s, rfl, ?_⟩
  have := hw s.data.toList.length (by simp [DataW.weights])
  simpa [reachBytes] using this

theorem weights_all_mem {H : Type} {P : Program} {e : TypeId} : ∀ {ds : List (DataW H)} {d : DataW H}, d ∈ ds → ∀ n ∈ DataW.weights P e d, n ∈ DataW.weightsAll P e ds
  | a :: r, d, h, n, hn => by
    unfold DataW.weightsAll
    rcases List.mem_cons.1 h with rfl | h
    · exact List.mem_append_left _ hn
    · exact List.mem_append_right _ (weights_all_mem h n hn)

theorem add_add_ (a : Addr) (m j : Nat) : (a.add m).add j = a.add (m + j) := by
  obtain ⟨b, o, s⟩ := a
  unfold Addr.add
  by_cases hm : m = 0
  · subst hm
    simp
  · by_cases hj : j = 0
    · subst hj
      simp
    · have : m + j ≠ 0 := by omega
      simp [hm, hj, Nat.add_assoc]

/-- A slice. -/
theorem opens_slice {P : Program} {N : Nat} {t e : TypeId} {α : Type} {d : Kd α} {G : α → Prop} (bytes : Nat) (ht : P.underlying t = some (.slice e)) (hc : P.cellsOf e = d.sz) (hb : P.bytesOf e = bytes) (he : Opens P N e d G) :
    Opens P N t (Kd.slice e d) (fun xs => xs.length * bytes ≤ 140737488351232 ∧ xs.length ≤ 9223372036854775807 ∧ ∀ y ∈ xs, G y) := fun H enc w base spare held fuel hf cs x hx hw => by
  rcases DataW.trod_slice ht hx with ⟨rfl, _⟩ | ⟨a, len, cap, elems, rest, n, rfl, rfl, rfl, hba, hl, hm, hlen, hel, _, _⟩
  · exact ⟨[], ⟨none, 0, rfl, Nat.le_refl _, rfl, by simp, fun h => absurd h (by simp)⟩, by simp, by simp, fun y hy => by cases hy⟩
  · have each : ∀ i, i < len → ∃ y : α, G y ∧ ∃ c, c.length = d.sz ∧ d.K w y c ∧ ∀ j u, c[j]? = some u → w.cell? (a.add (i * d.sz + j)) = some u := fun i hi => by
      have h1 := hel i hi
      rw [List.getElem?_eq_getElem (by omega)] at h1
      obtain ⟨c, h2, h3⟩ := Option.bind_eq_some_iff.1 h1
      obtain ⟨_, h4, h5⟩ := World.cells?_some h2
      obtain ⟨y, h6, h7⟩ := he H enc w base spare held n (by omega) c _ h3 (fun m hm' => hw m (by
        simp only [DataW.weights, ht]
        exact List.mem_cons_of_mem _ (List.mem_append_left _ (weights_all_mem (List.mem_map_of_mem (List.getElem_mem _)) m hm'))))
      refine ⟨y, h7, c, by rw [h4, hc], h6, fun j u hu => ?_⟩
      have hj : j < P.cellsOf e := by have := (List.getElem?_eq_some_iff.1 hu).1; omega
      have h8 := h5 j hj
      rw [hu] at h8
      rw [← h8]
      rw [add_add_]
      rw [hc]
    have hS : ∃ f : Nat → Option α, ∀ i, i < len → ∃ y, f i = some y ∧ G y ∧ ∃ c, c.length = d.sz ∧ d.K w y c ∧ ∀ j u, c[j]? = some u → w.cell? (a.add (i * d.sz + j)) = some u := by
      classical
      refine ⟨fun i => if h : i < len then some (each i h).choose else none, fun i hi => ?_⟩
      exact ⟨(each i hi).choose, by simp [hi], (each i hi).choose_spec⟩
    obtain ⟨f, hf'⟩ := hS
    have hlist : ∀ m, m ≤ len → ∃ l : List α, l.length = m ∧ ∀ i, i < m → f i = l[i]? := by
      intro m
      induction m with
      | zero => exact fun _ => ⟨[], rfl, fun i hi => by omega⟩
      | succ m ih =>
        intro hm'
        obtain ⟨l, h1, h2⟩ := ih (by omega)
        obtain ⟨y, h3, _⟩ := hf' m (by omega)
        refine ⟨l ++ [y], by simp [h1], fun i hi => ?_⟩
        by_cases he' : i = m
        · subst he'
          rw [h3, List.getElem?_append_right (by omega), h1]
          simp
        · rw [List.getElem?_append_left (by omega)]
          exact h2 i (by omega)
    obtain ⟨l, h1, h2⟩ := hlist len (Nat.le_refl _)
    have hmax : cap ≤ 9223372036854775807 := by unfold maxLen at hm; exact hm
    refine ⟨l, ⟨some a, cap, by rw [h1], by omega, rfl, by omega, fun _ => ⟨a, rfl, fun j p hj => ?_⟩⟩, ?_, by omega, fun y hy => ?_⟩
    · have hjl : j < len := by have := (List.getElem?_eq_some_iff.1 hj).1; omega
      obtain ⟨y, h3, _, h4⟩ := hf' j hjl
      have : some y = some p := by rw [← h3, h2 j hjl, hj]
      cases this
      exact h4
    · have := hw ((elems.length + rest.length) * P.bytesOf e) (by simp [DataW.weights, ht])
      rw [hb] at this
      have h9 : l.length * bytes ≤ (elems.length + rest.length) * bytes := Nat.mul_le_mul_right _ (by omega)
      simp only [reachBytes] at this
      omega
    · obtain ⟨i, hi, rfl⟩ := List.getElem_of_mem hy
      obtain ⟨y, h3, h4, _⟩ := hf' i (by omega)
      have : some y = some l[i] := by rw [← h3, h2 i (by omega), List.getElem?_eq_getElem hi]
      cases this
      exact h4

/-- The fields of a struct from some cell on. -/
def Fields (P : Program) (N : Nat) (fs : List Field) (o : Nat) {α : Type} (d : Kd α) (G : α → Prop) : Prop :=
  ∀ (H : Type) (enc : TypeId × Value → H) (w : World) (base : Nat) (spare : Nat → Bool) (held : Bool) (fuel : Nat), fuel ≤ N → ∀ (cs : List Value) (xs : List (DataW H × List MemPlace)), cs.length = o + d.sz →
    (∀ (i : Nat) (f : Field), fs[i]? = some f → ∃ x, xs[i]? = some x ∧ DataW.trod enc P w base spare held fuel f.type ((cs.drop f.offset).take (P.cellsOf f.type)) = some x ∧ ∀ n ∈ DataW.weights P f.type x.1, n ≤ reachBytes) → ∃ y : α, d.K w y (cs.drop o) ∧ G y

theorem fields_one {P : Program} {N : Nat} {f : Field} {o : Nat} {α : Type} {d : Kd α} {G : α → Prop} (ho : f.offset = o) (hc : P.cellsOf f.type = d.sz) (h : Opens P N f.type d G) : Fields P N [f] o d G := fun H enc w base spare held fuel hf cs xs hl hx => by
  obtain ⟨x, _, h1, h2⟩ := hx 0 f rfl
  obtain ⟨y, h3, h4⟩ := h H enc w base spare held fuel hf _ x h1 h2
  rw [ho, hc, List.take_of_length_le (by rw [List.length_drop]; omega)] at h3
  exact ⟨y, h3, h4⟩
theorem fields_cons {P : Program} {N : Nat} {f : Field} {fs : List Field} {o : Nat} {α β : Type} {d : Kd α} {e : Kd β} {G : α → Prop} {G' : β → Prop} (ho : f.offset = o) (hc : P.cellsOf f.type = d.sz) (h : Opens P N f.type d G) (hr : Fields P N fs (o + d.sz) e G') :
    Fields P N (f :: fs) o (Kd.pair d e) (fun y => G y.1 ∧ G' y.2) := fun H enc w base spare held fuel hf cs xs hl hx => by
  obtain ⟨x, _, h1, h2⟩ := hx 0 f rfl
  obtain ⟨y, h3, h4⟩ := h H enc w base spare held fuel hf _ x h1 h2
  have hl' : cs.length = o + d.sz + e.sz := by rw [hl]; show o + (d.sz + e.sz) = _; omega
  obtain ⟨z, h5, h6⟩ := hr H enc w base spare held fuel hf cs (xs.drop 1) hl' (fun i f' hf' => by
    obtain ⟨x', h7, h8⟩ := hx (i + 1) f' (by simpa using hf')
    exact ⟨x', by rw [List.getElem?_drop, Nat.add_comm]; exact h7, h8⟩)
  rw [ho, hc] at h3
  refine ⟨(y, z), ⟨_, _, ?_, h3, h5⟩, h4, h6⟩
  rw [← List.drop_drop, List.take_append_drop]

theorem weights_each_mem {H : Type} {P : Program} : ∀ {ts : List TypeId} {ds : List (DataW H)} (i : Nat) {t : TypeId} {d : DataW H}, ts[i]? = some t → ds[i]? = some d → ∀ n ∈ DataW.weights P t d, n ∈ DataW.weightsEach P ts ds
  | t :: ts, d :: ds, 0, t', d', h1, h2, n, hn => by
    cases h1; cases h2
    unfold DataW.weightsEach
    exact List.mem_append_left _ hn
  | t :: ts, d :: ds, i + 1, t', d', h1, h2, n, hn => by
    unfold DataW.weightsEach
    exact List.mem_append_right _ (weights_each_mem i h1 h2 n hn)

/-- A struct. -/
theorem opens_struct {P : Program} {N : Nat} {t : TypeId} {fs : Array Field} {α β : Type} {d : Kd β} {G : β → Prop} (f : α → β) (g : β → α) (hg : ∀ z, f (g z) = z) (ht : P.underlying t = some (.struct fs)) (hc : P.cellsOf t = d.sz) (h : Fields P N fs.toList 0 d G) :
    Opens P (N + 1) t (Kd.iso d f) (fun x => G (f x)) := fun H enc w base spare held fuel hf cs x hx hw => by
  obtain ⟨xs, n, rfl, rfl, hl, hlen, hfs⟩ := DataW.trod_struct ht hx
  obtain ⟨y, h1, h2⟩ := h H enc w base spare held n (by omega) cs xs (by omega) (fun i fd hfd => by
    have hi : fs[i]? = some fd := by simpa using hfd
    have h3 := hfs i fd hi
    have hil : i < xs.length := by rw [hlen]; exact (Array.getElem?_eq_some_iff.1 hi).1
    rw [List.getElem?_eq_getElem hil] at h3
    refine ⟨_, List.getElem?_eq_getElem hil, h3, fun m hm => hw m ?_⟩
    simp only [DataW.weights, ht]
    exact weights_each_mem i (by simp [hi]) (by simp [List.getElem?_eq_getElem hil]) m hm)
  exact ⟨g y, by show d.K w (f (g y)) cs; rw [hg]; exact h1, by show G (f (g y)); rw [hg]; exact h2⟩

theorem opens_struct' {P : Program} {N : Nat} {t : TypeId} {fs : Array Field} {α β : Type} {d : Kd β} {G : β → Prop} (f : α → β) (g : β → α) (hg : ∀ z, f (g z) = z) (ht : P.underlying t = some (.struct fs)) (hc : P.cellsOf t = d.sz) (h : Fields P N fs.toList 0 d G) :
    Opens P N t (Kd.iso d f) (fun x => G (f x)) := opens_le (opens_struct f g hg ht hc h) (by omega)

/-- An argument. -/
theorem opens_arg {P : Program} {t : TypeId} {α : Type} {d : Kd α} {G : α → Prop} (h : ∀ N, Opens P N t d G) {H : Type} {enc : TypeId × Value → H} {w : World} {base : Nat} {spare : Nat → Bool} {held : Bool} {v : Value} {x : DataW H} {p : List MemPlace}
    (hx : DataW.Trod enc P w base spare held t v x p) (hw : ∀ n ∈ DataW.weights P t x, n ≤ reachBytes) : ∃ y : α, d.K w y v.cells.toList ∧ G y := by
  obtain ⟨fuel, hf⟩ := hx
  exact h fuel H enc w base spare held fuel (Nat.le_refl _) _ _ hf hw

end Go.Proofs.Ytmjfjjnmdljkeaa.Opening
