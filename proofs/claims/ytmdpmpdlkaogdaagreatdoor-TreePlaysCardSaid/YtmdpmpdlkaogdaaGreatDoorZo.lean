/- Arguments, opened: what a row says of what came in, as lists of bytes. -/
import Derived.Test.YtmdpmpdlkaogdaaGreatDoorTl
import Derived.ChangeSlices
import Derived.SliceStrings
namespace Go.Proofs.YtmdpmpdlkaogdaaGreatDoor
open Go Go.RowKit Go.ChangeShapes Go.WideShapes Vc

theorem list_of {α : Type} : ∀ (n : Nat) (R : Nat → α → Prop), (∀ i, i < n → ∃ x, R i x) → ∃ l : List α, l.length = n ∧ ∀ i x, l[i]? = some x → R i x := by
  intro n
  induction n with
  | zero => intro R _; exact ⟨[], rfl, fun i x h => by cases h⟩
  | succ n ih =>
    intro R h
    obtain ⟨x, hx⟩ := h 0 (by omega)
    obtain ⟨l, hl, hr⟩ := ih (fun i => R (i + 1)) (fun i hi => h (i + 1) (by omega))
    refine ⟨x :: l, by simp [hl], fun i y hy => ?_⟩
    cases i with
    | zero => cases hy; exact hx
    | succ i => exact hr i y (by simpa using hy)
theorem add_add (a : Addr) (i j : Nat) : (a.add i).add j = a.add (i + j) := by
  unfold Addr.add
  by_cases hi : i = 0
  · subst hi; simp
  · by_cases hj : j = 0
    · subst hj; simp [hi]
    · simp [hi, hj, Nat.add_assoc]
theorem lt_of_cell {w : World} {a : Addr} {v : Value} (h : w.cell? a = some v) : a.block < w.heap.size := by
  rcases Nat.lt_or_ge a.block w.heap.size with h1 | h1
  · exact h1
  · simp [World.cell?, Array.getElem?_eq_none h1] at h

section
variable {H : Type} {enc : TypeId × Value → H} {P : Program} {w : World} {base : Nat} {spare : Nat → Bool} {held : Bool} {fuel : Nat} {t e : TypeId} {cs : List Value} {x : DataW H × List MemPlace}

/-- A slice, opened: each element reads as its type says. -/
theorem open_els {k : Nat} (ht : P.underlying t = some (.slice e)) (hk : P.cellsOf e = k) (h : DataW.trod enc P w base spare held fuel t cs = some x) :
    cs = [.slice none 0 0] ∨ ∃ (a : Addr) (len cap n : Nat), cs = [.slice (some a) len cap] ∧ len ≤ cap ∧ cap ≤ maxLen ∧ ∀ i, i < len → ∃ csi y, DataW.trod enc P w base spare held n e csi = some y ∧ csi.length = k ∧ ∀ j u, csi[j]? = some u → w.cell? (a.add (i * k + j)) = some u := by
  rcases DataW.trod_slice ht h with ⟨h0, -⟩ | ⟨a, len, cap, elems, rest, n, _, h1, _, hb, hl, hm, hlen, hel, -⟩
  · exact .inl h0
  · refine .inr ⟨a, len, cap, n, h1, hl, hm, fun i hi => ?_⟩
    have := hel i hi
    rw [List.getElem?_eq_getElem (by omega), Option.bind_eq_some_iff] at this
    obtain ⟨csi, hc, hy⟩ := this
    rw [hk] at hc
    obtain ⟨-, hl2, hc2⟩ := World.cells?_some hc
    refine ⟨csi, _, hy, hl2, fun j u hj => ?_⟩
    have hjk : j < k := by rw [← hl2]; exact (List.getElem?_eq_some_iff.1 hj).1
    rw [← add_add, hc2 j hjk]; exact hj
theorem open_byte (he : P.underlying e = some (.int .u8)) (h : DataW.trod enc P w base spare held fuel e cs = some x) : ∃ b : UInt8, cs = [.int .u8 b.toNat] := by
  obtain ⟨n, rfl, -, hw⟩ := DataW.trod_int he h
  have hw' : 0 ≤ n ∧ n < 256 := by
    simp [Lit.wf, IntKind.min, IntKind.max, IntKind.bits, IntKind.signed] at hw
    omega
  refine ⟨UInt8.ofNat n.toNat, ?_⟩
  have : ((UInt8.ofNat n.toNat).toNat : Int) = n := by simp; omega
  rw [this]
theorem open_str (he : P.underlying e = some .string) (h : DataW.trod enc P w base spare held fuel e cs = some x) : ∃ s : List UInt8, cs = [.string (S s)] := by
  obtain ⟨s, rfl, -, -⟩ := DataW.trod_string he h
  exact ⟨s.data.toList, rfl⟩
/-- Bytes. -/
theorem open_bytesA (ht : P.underlying t = some (.slice e)) (he : P.underlying e = some (.int .u8)) (hk : P.cellsOf e = 1) (h : DataW.trod enc P w base spare held fuel t cs = some x) : ∃ v l, cs = [v] ∧ BytA w v l := by
  rcases open_els ht hk h with rfl | ⟨a, len, cap, n, rfl, hl, hm, hel⟩
  · exact ⟨_, [], rfl, (Row.nil w tB 1).arg⟩
  · obtain ⟨l, hll, hlr⟩ := list_of (α := UInt8) len (fun i b => w.cell? (a.add i) = some (.int .u8 b.toNat)) (fun i hi => by
      obtain ⟨csi, y, hy, hl2, hc⟩ := hel i hi
      obtain ⟨b, rfl⟩ := open_byte he hy
      exact ⟨b, by have := hc 0 _ rfl; simpa using this⟩)
    refine ⟨_, l, rfl, some a, cap, by rw [hll], by omega, hm, (fun h => by cases h), fun j u hj => ?_⟩
    simp only [encB, List.getElem?_map, Option.map_eq_some_iff] at hj
    obtain ⟨b, hb, rfl⟩ := hj
    have := hlr j b hb
    exact ⟨a, rfl, by have := lt_of_cell this; rwa [add_block] at this, this⟩
/-- Rows of bytes. -/
theorem open_rowsA {e2 : TypeId} (ht : P.underlying t = some (.slice e)) (hk : P.cellsOf e = 1) (hte : P.underlying e = some (.slice e2)) (he : P.underlying e2 = some (.int .u8)) (hk2 : P.cellsOf e2 = 1) (h : DataW.trod enc P w base spare held fuel t cs = some x) :
    ∃ v, ∃ rows : List (Value × List UInt8), cs = [v] ∧ RowA w v rows.length (rows.map (·.1)) ∧ ∀ p ∈ rows, BytA w p.1 p.2 := by
  rcases open_els ht hk h with rfl | ⟨a, len, cap, n, rfl, hl, hm, hel⟩
  · exact ⟨_, [], rfl, (Row.nil w tB 1).arg, fun p h => by cases h⟩
  · obtain ⟨l, hll, hlr⟩ := list_of (α := Value × List UInt8) len (fun i p => w.cell? (a.add i) = some p.1 ∧ BytA w p.1 p.2) (fun i hi => by
      obtain ⟨csi, y, hy, hl2, hc⟩ := hel i hi
      obtain ⟨v, b, rfl, hb⟩ := open_bytesA hte he hk2 hy
      exact ⟨(v, b), by have := hc 0 _ rfl; simpa using this, hb⟩)
    refine ⟨_, l, rfl, ⟨some a, cap, by rw [hll], by omega, hm, (fun h => by cases h), fun j u hj => ?_⟩, fun p hp => ?_⟩
    · simp only [List.getElem?_map, Option.map_eq_some_iff] at hj
      obtain ⟨p, hp, rfl⟩ := hj
      have := (hlr j p hp).1
      exact ⟨a, rfl, by have := lt_of_cell this; rwa [add_block] at this, this⟩
    · obtain ⟨j, hj⟩ := List.getElem?_of_mem hp
      exact (hlr j p hj).2
end
/-- Cells of elements, one behind another. -/
theorem flatA_get {α : Type} {f : α → List Value} {k : Nat} : ∀ (E : List α), (∀ x ∈ E, (f x).length = k) → ∀ (j : Nat) u, (E.flatMap f)[j]? = some u → ∃ i r x, j = i * k + r ∧ E[i]? = some x ∧ (f x)[r]? = some u := by
  intro E
  induction E with
  | nil => intro _ j u h; cases h
  | cons x E ih =>
    intro hf j u h
    rw [List.flatMap_cons, List.getElem?_append] at h
    split at h
    · exact ⟨0, j, x, by simp, rfl, h⟩
    · rename_i hn
      obtain ⟨i, r, y, h1, h2, h3⟩ := ih (fun y hy => hf y (List.mem_cons_of_mem _ hy)) _ u h
      have := hf x (by simp)
      exact ⟨i + 1, r, y, by rw [Nat.add_mul]; omega, h2, h3⟩
/-- A slice of structs. -/
theorem rowA_of {α : Type} {w : World} {a : Addr} {len cap k : Nat} {f : α → List Value} {E : List α} (hf : ∀ x ∈ E, (f x).length = k) (hl : len ≤ cap) (hm : cap ≤ maxLen) (h : ∀ i x, E[i]? = some x → ∀ j u, (f x)[j]? = some u → w.cell? (a.add (i * k + j)) = some u) : RowA w (.slice (some a) len cap) len (E.flatMap f) := by
  refine ⟨some a, cap, rfl, hl, hm, (fun h => by cases h), fun j u hj => ?_⟩
  obtain ⟨i, r, x, rfl, hi, hr⟩ := flatA_get E hf j u hj
  have := h i x hi r u hr
  exact ⟨a, rfl, by have := lt_of_cell this; rwa [add_block] at this, this⟩
end Go.Proofs.YtmdpmpdlkaogdaaGreatDoor
