/- The calculus' lemmas on slices that grow, bytes and strings, maps with strings for keys. Nothing here speaks of the program. The calculus' lemmas on conversions between strings and bytes. Nothing here speaks of the program. The calculus' lemmas on 32-bit words, arrays and copies. Nothing here speaks of the program. Plain words: sums of bytes in words of 32 bits. No Go here. What the program says of its types, as closed facts. Walks: begin, round, table, turning to the right. The plain laws' words: paths, trees, archives as functions on lists of bytes. No Go here. Walks: package path, its small functions. The calculus' law for a range over a function, and returns behind one. Nothing here speaks of the program. Walks: the library's functions that package path calls, in its own words; Parent, Within, Parts of nothing; strings.SplitSeq at a slash. strings.SplitSeq at a slash: the iterator's contract. -/
import Derived.Test.YtmdpmpdlkaogdaaGreatDoorRa01
import Derived.Lib.AppendZerosOnto
import Derived.Lib.ConvBytes
import Derived.Laws.BytesArg
import Derived.Laws.CopyRow
import Derived.Test.YtmdpmpdlkaogdaaGreatDoorProg
import Derived.KernelRfl
import Derived.Test.YtmdpmpdlkaogdaaGreatDoorSf

namespace Go.Proofs.YtmdpmpdlkaogdaaGreatDoor.Vc
open Go Go.RowKit

/-- Slices of type t have elements of type e: their zero, their cells, their bytes. -/
structure ElT (P : Program) (t e : TypeId) (z : Value) (sz bytes : Nat) : Prop where
  u : P.underlying t = some (.slice e)
  i : (P.info? e).map (fun i => (i.zero, i.size, i.bytes)) = some (some z, sz, bytes)
  c : z.cells.size = sz
  p : 0 < sz

theorem ElT.info {P : Program} {t e : TypeId} {z : Value} {sz bytes : Nat} (h : ElT P t e z sz bytes) : ∃ i, P.info? e = some i ∧ i.zero = some z ∧ i.size = sz ∧ i.bytes = bytes := by
  have hi := h.i
  cases hq : P.info? e with
  | none => simp [hq] at hi
  | some i => simp [hq] at hi; exact ⟨i, rfl, hi.1, hi.2.1, hi.2.2⟩
theorem ElT.szB {P : Program} {t e : TypeId} {z : Value} {sz bytes : Nat} (h : ElT P t e z sz bytes) : Vc.szB P e = some sz := by
  obtain ⟨i, h1, _, h2, _⟩ := h.info
  simp [Vc.szB, h1, h2]

/-- A slice that may be read: its cells. -/
def Row (w : World) (v : Value) (e : TypeId) (sz n : Nat) (xs : List Value) : Prop :=
  xs.length = n * sz ∧ ∃ a cap, v = .slice a n cap ∧ n ≤ cap ∧ cap ≤ maxLen ∧ (a = none → cap = 0) ∧
    ∀ ad, a = some ad → ∃ cur fr, ad.spot = none ∧ w.heap[ad.block]? = some (.cells cur e fr) ∧ ad.off + cap * sz ≤ cur.size ∧ (cur.toList.drop ad.off).take (n * sz) = xs

theorem Row.nil (w : World) (e : TypeId) (sz : Nat) : Row w (.slice none 0 0) e sz 0 [] := ⟨by simp, none, 0, rfl, Nat.le_refl _, by simp [maxLen], fun _ => rfl, fun _ h => by cases h⟩
theorem Row.own {w : World} {B : Nat} {v : Value} {e : TypeId} {sz n : Nat} {xs : List Value} (h : w.ownsRow B e sz v n xs) : Row w v e sz n xs := by
  obtain ⟨h1, ⟨rfl, rfl⟩ | ⟨g, cap, cur, rfl, hb, hg, hn, hm, hc, ht⟩⟩ := h
  · obtain rfl : xs = [] := List.eq_nil_of_length_eq_zero (by simpa using h1)
    exact Row.nil w e sz
  · exact ⟨h1, some ⟨g, 0, none⟩, cap, rfl, hn, hm, (fun h => by cases h), fun ad h => by cases h; exact ⟨cur, _, rfl, hg, by simp [hc], by simpa using ht⟩⟩

theorem Row.cells {w : World} {v : Value} {e : TypeId} {sz n : Nat} {xs : List Value} (h : Row w v e sz n xs) {b o m c : Nat} (hv : v = .slice (some ⟨b, o, none⟩) m c) : ∀ j u, xs[j]? = some u → w.cell? ⟨b, o + j, none⟩ = some u := by
  obtain ⟨h1, a, cap, rfl, hn, hm, ha, hc⟩ := h
  cases hv
  obtain ⟨cur, fr, _, hb, hle, ht⟩ := hc _ rfl
  intro j u hj
  refine cell_of hb ?_
  rw [← ht, List.getElem?_take] at hj
  split at hj
  · rw [List.getElem?_drop] at hj; simpa using hj
  · cases hj
/-- The slice's form: nil and empty, or somewhere. -/
theorem Row.form {w : World} {v : Value} {e : TypeId} {sz n : Nat} {xs : List Value} (h : Row w v e sz n xs) : (v = .slice none 0 0 ∧ n = 0 ∧ xs = []) ∨ ∃ b o cap, v = .slice (some ⟨b, o, none⟩) n cap ∧ n ≤ cap ∧ cap ≤ maxLen ∧ b < w.heap.size ∧ ∀ j u, xs[j]? = some u → w.cell? ⟨b, o + j, none⟩ = some u := by
  have hh := h
  obtain ⟨h1, a, cap, rfl, hn, hm, ha, hc⟩ := h
  cases a with
  | none =>
    obtain rfl := ha rfl
    obtain rfl : n = 0 := by omega
    exact .inl ⟨rfl, rfl, List.eq_nil_of_length_eq_zero (by simpa using h1)⟩
  | some ad =>
    obtain ⟨cur, fr, hs, hb, hle, ht⟩ := hc _ rfl
    obtain ⟨b, o, s⟩ := ad
    obtain rfl : s = none := hs
    exact .inr ⟨b, o, cap, rfl, hn, hm, lt_of_obj hb, hh.cells rfl⟩
theorem Row.len {w : World} {a : Option Addr} {m c : Nat} {e : TypeId} {sz n : Nat} {xs : List Value} (h : Row w (.slice a m c) e sz n xs) : m = n := by
  obtain ⟨_, _, _, h, _⟩ := h; cases h; rfl
theorem Row.size {w : World} {v : Value} {e : TypeId} {sz n : Nat} {xs : List Value} (h : Row w v e sz n xs) : xs.length = n * sz := h.1
theorem Row.keep {w w' : World} {v : Value} {e : TypeId} {sz n : Nat} {xs : List Value} (h : Row w v e sz n xs) (hk : ∀ k, v.ownBlock = some k → w'.heap[k]? = w.heap[k]?) : Row w' v e sz n xs := by
  obtain ⟨h1, a, cap, rfl, hn, hm, ha, hc⟩ := h
  refine ⟨h1, a, cap, rfl, hn, hm, ha, fun ad hd => ?_⟩
  subst hd
  obtain ⟨cur, fr, hs, hb, hr⟩ := hc _ rfl
  exact ⟨cur, fr, hs, (hk _ rfl).trans hb, hr⟩
theorem Row.lt {w : World} {v : Value} {e : TypeId} {sz n : Nat} {xs : List Value} (h : Row w v e sz n xs) : ∀ k, v.ownBlock = some k → k < w.heap.size := by
  obtain ⟨h1, a, cap, rfl, hn, hm, ha, hc⟩ := h
  intro k hk
  cases a with
  | none => cases hk
  | some ad =>
    obtain ⟨cur, fr, hs, hb, hr⟩ := hc _ rfl
    cases hk
    exact lt_of_obj hb
theorem Row.ext {S : Nat → Prop} {w w' : World} {v : Value} {e : TypeId} {sz n : Nat} {xs : List Value} (h : Row w v e sz n xs) (hx : Ext S w w') (hS : ∀ k, v.ownBlock = some k → ¬ S k) : Row w' v e sz n xs :=
  h.keep fun k hk => hx.block k (h.lt k hk) (hS k hk)
theorem Row.ext0 {w w' : World} {v : Value} {e : TypeId} {sz n : Nat} {xs : List Value} (h : Row w v e sz n xs) (hx : Ext none_ w w') : Row w' v e sz n xs := h.ext hx fun _ _ => id
/-- A slice that came in and may be read: its cells, wherever they lie. -/
def RowA (w : World) (v : Value) (n : Nat) (xs : List Value) : Prop :=
  ∃ a cap, v = .slice a n cap ∧ n ≤ cap ∧ cap ≤ maxLen ∧ (a = none → cap = 0) ∧ ∀ (j : Nat) u, xs[j]? = some u → ∃ ad, a = some ad ∧ ad.block < w.heap.size ∧ w.cell? (ad.add j) = some u
theorem add_block (a : Addr) (k : Nat) : (a.add k).block = a.block := by unfold Addr.add; split <;> rfl
theorem Row.arg {w : World} {v : Value} {e : TypeId} {sz n : Nat} {xs : List Value} (h : Row w v e sz n xs) : RowA w v n xs := by
  rcases h.form with ⟨rfl, rfl, rfl⟩ | ⟨b, o, cap, rfl, h1, h2, h3, hc⟩
  · exact ⟨none, 0, rfl, Nat.le_refl _, by simp [maxLen], fun _ => rfl, fun j u h => by cases h⟩
  · exact ⟨_, cap, rfl, h1, h2, (fun h => by cases h), fun j u hj => ⟨_, rfl, h3, by rw [add_at]; exact hc j u hj⟩⟩
theorem RowA.keep {w w' : World} {v : Value} {n : Nat} {xs : List Value} (h : RowA w v n xs) (hs : w.heap.size ≤ w'.heap.size) (hk : ∀ (ad : Addr) (u : Value), u ∈ xs → ad.block < w.heap.size → w.cell? ad = some u → w'.heap[ad.block]? = w.heap[ad.block]?) : RowA w' v n xs := by
  obtain ⟨a, cap, rfl, h1, h2, h3, hc⟩ := h
  refine ⟨a, cap, rfl, h1, h2, h3, fun j u hj => ?_⟩
  obtain ⟨ad, rfl, hb, hcell⟩ := hc j u hj
  refine ⟨ad, rfl, Nat.lt_of_lt_of_le hb hs, ?_⟩
  rw [← hcell]
  exact World.cell?_of_block (hk _ u (List.mem_of_getElem? hj) (by rw [add_block]; exact hb) hcell)
theorem RowA.ext0 {w w' : World} {v : Value} {n : Nat} {xs : List Value} (h : RowA w v n xs) (hx : Ext none_ w w') : RowA w' v n xs := h.keep hx.size fun _ _ _ hb _ => hx.block _ hb id
theorem RowA.form {w : World} {v : Value} {n : Nat} {xs : List Value} (h : RowA w v n xs) : (v = .slice none 0 0 ∧ n = 0) ∨ ∃ ad cap, v = .slice (some ad) n cap ∧ n ≤ cap ∧ cap ≤ maxLen ∧ ∀ (j : Nat) u, xs[j]? = some u → ad.block < w.heap.size ∧ w.cell? (ad.add j) = some u := by
  obtain ⟨a, cap, rfl, h1, h2, h3, hc⟩ := h
  cases a with
  | none => obtain rfl := h3 rfl; obtain rfl : n = 0 := by omega
            exact .inl ⟨rfl, rfl⟩
  | some ad => exact .inr ⟨ad, cap, rfl, h1, h2, fun j u hj => by obtain ⟨ad', e, hb⟩ := hc j u hj; cases e; exact hb⟩
/-- One that has a cell lies at a plain place. -/
theorem RowA.plain {w : World} {v : Value} {n : Nat} {xs : List Value} (h : RowA w v n xs) (h0 : xs ≠ []) : ∃ b o cap, v = .slice (some ⟨b, o, none⟩) n cap ∧ n ≤ cap ∧ cap ≤ maxLen ∧ b < w.heap.size ∧ ∀ (j : Nat) u, xs[j]? = some u → w.cell? ⟨b, o + j, none⟩ = some u := by
  obtain ⟨a, cap, rfl, h1, h2, h3, hc⟩ := h
  obtain ⟨u, hu⟩ : ∃ u, xs[0]? = some u := by
    cases xs with
    | nil => exact absurd rfl h0
    | cons u xs => exact ⟨u, rfl⟩
  obtain ⟨ad, rfl, hb, hcell⟩ := hc 0 u hu
  have hs : ad.spot = none := by
    have : ad.add 0 = ad := by simp [Addr.add]
    rw [this] at hcell
    unfold World.cell? at hcell
    split at hcell
    · split at hcell
      · cases hcell
      · rename_i hh
        cases hsp : ad.spot with
        | none => rfl
        | some x => rw [hsp] at hh; exact absurd rfl hh
    · cases hcell
  obtain ⟨b, o, s⟩ := ad
  obtain rfl : s = none := hs
  refine ⟨b, o, cap, rfl, h1, h2, hb, fun j u hj => ?_⟩
  obtain ⟨ad', e, -, hcj⟩ := hc j u hj
  cases e
  rwa [add_at] at hcj
/-- Cut shorter. -/
theorem RowA.take {w : World} {a : Option Addr} {n cap m k : Nat} {xs : List Value} (h : RowA w (.slice a n cap) n xs) (hm : m ≤ n) : RowA w (.slice a m cap) m (xs.take k) := by
  obtain ⟨a', cap', e, h1, h2, h3, hc⟩ := h
  cases e
  refine ⟨a, cap, rfl, by omega, h2, h3, fun j u hj => hc j u ?_⟩
  rw [List.getElem?_take] at hj
  split at hj
  · exact hj
  · cases hj

/-- The block that a row lies in has elements of its type. -/
theorem Row.kind {w : World} {v : Value} {e : TypeId} {sz n : Nat} {xs : List Value} (h : Row w v e sz n xs) : ∀ k, v.ownBlock = some k → ∃ cur fr, w.heap[k]? = some (.cells cur e fr) := by
  obtain ⟨h1, a, cap, rfl, hn, hm, ha, hc⟩ := h
  intro k hk
  cases a with
  | none => cases hk
  | some ad =>
    obtain ⟨cur, fr, hs, hb, hr⟩ := hc _ rfl
    cases hk
    exact ⟨cur, fr, hb⟩
theorem own_ext {S : Nat → Prop} {w w' : World} {B : Nat} {v : Value} {e : TypeId} {sz n : Nat} {xs : List Value} (h : w.ownsRow B e sz v n xs) (hx : Ext S w w') (hS : ∀ k, v.ownBlock = some k → ¬ S k) : w'.ownsRow B e sz v n xs := by
  obtain ⟨h1, h2 | ⟨g, cap, cur, rfl, hb, hg, hr⟩⟩ := h
  · exact ⟨h1, .inl h2⟩
  · exact ⟨h1, .inr ⟨g, cap, cur, rfl, hb, hx.obj hg (hS g rfl), hr⟩⟩

theorem own_cells {w : World} {B : Nat} {v : Value} {e : TypeId} {sz n : Nat} {xs : List Value} (h : w.ownsRow B e sz v n xs) : v.cells = #[v] ∧ v.oneCell' = true := by
  obtain ⟨h1, ⟨rfl, _⟩ | ⟨g, cap, cur, rfl, _⟩⟩ := h <;> exact ⟨rfl, rfl⟩
theorem own_slice {w : World} {B : Nat} {v : Value} {e : TypeId} {sz n : Nat} {xs : List Value} (h : w.ownsRow B e sz v n xs) : ∃ a cap, v = .slice a n cap ∧ n ≤ cap ∧ cap ≤ maxLen := by
  obtain ⟨h1, ⟨rfl, rfl⟩ | ⟨g, cap, cur, rfl, _, _, h2, h3, _⟩⟩ := h
  · exact ⟨_, _, rfl, Nat.le_refl _, by simp [maxLen]⟩
  · exact ⟨_, _, rfl, h2, h3⟩
/-- The same array, cut shorter. -/
theorem own_take {w : World} {B : Nat} {a : Option Addr} {e : TypeId} {sz n cap m : Nat} {xs : List Value} (h : w.ownsRow B e sz (.slice a n cap) n xs) (hm : m ≤ n) : w.ownsRow B e sz (.slice a m cap) m (xs.take (m * sz)) := by
  obtain ⟨h1, ⟨h2, h3⟩ | ⟨g, cap', cur, h2, hb, hg, hn, hx, hc, ht⟩⟩ := h
  · cases h2
    obtain rfl : m = 0 := by omega
    exact ⟨by simp, .inl ⟨rfl, rfl⟩⟩
  · cases h2
    have hle : m * sz ≤ n * sz := Nat.mul_le_mul_right _ hm
    refine ⟨by rw [List.length_take, h1]; omega, .inr ⟨g, cap, cur, rfl, hb, hg, by omega, hx, hc, ?_⟩⟩
    rw [← ht, List.take_take, Nat.min_eq_left hle]

theorem grow_fits {k cap bytes : Nat} (h : cap < k) (hb : k * bytes ≤ 140737488355328) : Builtin.nextslicecap k cap * bytes ≤ 281474976710656 := growslice_fits h hb

section ops
variable {st : Sty} [Wy st] {Fe : Fence} {mm : Nat} [Wd Fe] {P : Program} {ds : List Deferred} {n : Nat} {Q : Exit → Act → World → Prop} {E : Env} {w : World} {ops : Array Oper} {l : List Oper}
variable {d : Nat} {ty : TypeId} {pos : String} {af : Array Edge}

omit [Wd Fe] in
theorem bltinY {b : Builtin} {args : Array Operand} {tys : Array TypeId} {vs : List Value} {v : Value} {w' : World} (hargs : args.toList.map (opd E) = vs.map some) (hd : Nat.blt d n = true)
    (hr : ∀ cs, (builtin b tys ty cs vs.toArray).run P w = .ok (.value v) w') (k : LY st P ds n ops l Q ((d, v) :: E) w')
    (hy : ∀ ts x S, st = .held ts x S → rdB ts ⟨some d, .call ⟨.builtin b, args, tys⟩, ty, pos, af, none⟩ = false) (hk : st.keeps l w w') : LY st P ds n ops (⟨some d, .call ⟨.builtin b, args, tys⟩, ty, pos, af, none⟩ :: l) Q E w :=
  LY.val v w' hd (fun ac ha => by
    have he : args.map ac.eval = vs.toArray := evals ha hargs
    simp [execOp, resolve, he, invoke, hr]) k hy hk
theorem bltin {b : Builtin} {args : Array Operand} {tys : Array TypeId} {vs : List Value} {v : Value} {w' : World} (hargs : args.toList.map (opd E) = vs.map some) (hd : Nat.blt d n = true)
    (hr : ∀ cs, (builtin b tys ty cs vs.toArray).run P w = .ok (.value v) w') (k : L Fe mm P ds n ops l Q ((d, v) :: E) w') : L Fe mm P ds n ops (⟨some d, .call ⟨.builtin b, args, tys⟩, ty, pos, af, none⟩ :: l) Q E w :=
  bltinY hargs hd hr k (fun _ _ _ h => by cases h) trivial

/-- 'append' onto a slice of the call's own. -/
theorem appY {t e : TypeId} {z : Value} {sz bytes B m c : Nat} {s x : Operand} {v : Value} {ad : Addr} {nn : Nat} {xs news : List Value} (hs : opd E s = some v) (hx : opd E x = some (.slice (some ad) m c)) (hd : Nat.blt d n = true)
    (ht : ElT P t e z sz bytes) (hown : w.ownsRow B e sz v nn xs) (hl : news.length = m * sz) (hnews : ∀ j u, news[j]? = some u → w.cell? (ad.add j) = some u) (h1 : ∀ u ∈ news, u.oneCell' = true)
    (hb : (nn + m) * bytes ≤ 140737488355328) (hm : nn + m ≤ maxLen) (hB : B ≤ w.heap.size)
    (k : ∀ v' w', w'.ownsRow B e sz v' (nn + m) (xs ++ news) → Ext (fun k => v.ownBlock = some k) w w' → (v' = .slice none 0 0 ↔ v = .slice none 0 0 ∧ m = 0) → (v'.ownBlock = v.ownBlock ∨ v'.ownBlock = some w.heap.size) → st.keeps l w w' ∧ LY st P ds n ops l Q ((d, v') :: E) w') : LY st P ds n ops (⟨some d, .call ⟨.builtin .append, #[s, x], #[t, t]⟩, ty, pos, af, none⟩ :: l) Q E w := by
  obtain ⟨i, hi, hz, hsz, hby⟩ := ht.info
  obtain ⟨v', w', hr, ho, hg, hn, hat⟩ := run_append_own_at (P := P) w B t ty e i z sz bytes ht.u hi hz hsz hby ht.c ht.p v nn xs hown ad m c news hl hnews h1 hm hb hB
  obtain ⟨hk, k⟩ := k v' w' ho ((Ext.grown hg).mono fun _ _ h => h.symm) hn hat
  exact bltinY (vs := [v, .slice (some ad) m c]) (by simp [hs, hx]) hd (fun _ => by simp [builtin, hr]) k (fun _ _ _ _ => rfl) hk
theorem app {t e : TypeId} {z : Value} {sz bytes B m c : Nat} {s x : Operand} {v : Value} {ad : Addr} {nn : Nat} {xs news : List Value} (hs : opd E s = some v) (hx : opd E x = some (.slice (some ad) m c)) (hd : Nat.blt d n = true)
    (ht : ElT P t e z sz bytes) (hown : w.ownsRow B e sz v nn xs) (hl : news.length = m * sz) (hnews : ∀ j u, news[j]? = some u → w.cell? (ad.add j) = some u) (h1 : ∀ u ∈ news, u.oneCell' = true)
    (hb : (nn + m) * bytes ≤ 140737488355328) (hm : nn + m ≤ maxLen) (hB : B ≤ w.heap.size)
    (k : ∀ v' w', w'.ownsRow B e sz v' (nn + m) (xs ++ news) → Ext (fun k => v.ownBlock = some k) w w' → (v' = .slice none 0 0 ↔ v = .slice none 0 0 ∧ m = 0) → (v'.ownBlock = v.ownBlock ∨ v'.ownBlock = some w.heap.size) → L Fe mm P ds n ops l Q ((d, v') :: E) w') : L Fe mm P ds n ops (⟨some d, .call ⟨.builtin .append, #[s, x], #[t, t]⟩, ty, pos, af, none⟩ :: l) Q E w :=
  appY (st := .plain Fe mm) hs hx hd ht hown hl hnews h1 hb hm hB fun v' w' a b c d => ⟨trivial, k v' w' a b c d⟩

/-- 'append' of nothing. -/
theorem appN {t e : TypeId} {z : Value} {sz bytes c nn cap : Nat} {s x : Operand} {a : Option Addr} (hs : opd E s = some (.slice a nn cap)) (hx : opd E x = some (.slice none 0 c)) (hd : Nat.blt d n = true) (ht : ElT P t e z sz bytes) (hc : nn ≤ cap)
    (k : LY st P ds n ops l Q ((d, .slice a nn cap) :: E) w) (hS : st.keeps l w w := by first | trivial | exact .inr id) : LY st P ds n ops (⟨some d, .call ⟨.builtin .append, #[s, x], #[t, t]⟩, ty, pos, af, none⟩ :: l) Q E w := by
  obtain ⟨i, hi, hz, hsz, hby⟩ := ht.info
  exact bltinY (vs := [.slice a nn cap, .slice none 0 c]) (by simp [hs, hx]) hd (fun _ => by
    cases a <;> simp [builtin, Builtin.append_, run_underlying ht.u, sizeOf, typeInfo, program, Sem.run, hi, Builtin.lenOf, Builtin.firstCells, hc, storeCells]) k (fun _ _ _ _ => rfl) hS
end ops

theorem own_new {w : World} {B : Nat} {v : Value} {e : TypeId} {sz n : Nat} {xs : List Value} (h : w.ownsRow B e sz v n xs) : ∀ i, v.ownBlock = some i → B ≤ i := by
  intro i hi
  obtain ⟨_, ⟨rfl, _⟩ | ⟨g, c, cu, rfl, hb, _⟩⟩ := h
  · cases hi
  · have : g = i := by simpa [Value.ownBlock] using hi
    omega
/-- A step that turns an own row only. -/
theorem Ext.own {w w1 w2 : World} {S : Nat → Prop} {v : Value} {e : TypeId} {sz n : Nat} {xs : List Value} (h : Ext S w w1) (ho : w1.ownsRow w.heap.size e sz v n xs) (hx : Ext (fun k => v.ownBlock = some k) w1 w2) : Ext S w w2 :=
  h.trans' hx fun i hi hh => by have := own_new ho i hh; omega
theorem own_nil (w : World) (B : Nat) (e : TypeId) (sz : Nat) : w.ownsRow B e sz (.slice none 0 0) 0 [] := ⟨by simp, .inl ⟨rfl, rfl⟩⟩

/-- Bytes as values. -/
def encB (l : List UInt8) : List Value := l.map fun b => .int .u8 b.toNat
def encT (l : List (List UInt8)) : List Value := l.map fun b => .string (S b)
@[simp] theorem encB_length (l : List UInt8) : (encB l).length = l.length := by simp [encB]
@[simp] theorem encT_length (l : List (List UInt8)) : (encT l).length = l.length := by simp [encT]
theorem encB_one (l : List UInt8) : ∀ u ∈ encB l, u.oneCell' = true := by intro u hu; simp [encB] at hu; obtain ⟨b, _, rfl⟩ := hu; rfl
theorem encT_one (l : List (List UInt8)) : ∀ u ∈ encT l, u.oneCell' = true := by intro u hu; simp [encT] at hu; obtain ⟨b, _, rfl⟩ := hu; rfl
theorem encB_inj : ∀ {a b : List UInt8}, encB a = encB b → a = b := by
  intro a
  induction a with
  | nil => intro b h; cases b with | nil => rfl | cons _ _ => cases h
  | cons x a ih =>
    intro b h
    cases b with
    | nil => cases h
    | cons y b =>
      simp only [encB, List.map_cons, List.cons.injEq, Value.int.injEq, true_and] at h
      obtain ⟨h1, h2⟩ := h
      have : x = y := UInt8.toNat_inj.1 (by omega)
      subst this
      rw [ih h2]

section maps
abbrev AL := List (List UInt8 × Value)
def keyB : Value → List UInt8 | .string s => s.data.toList | _ => []
def absM (es : List MapEntry) : AL := es.map fun e => (keyB e.key, e.val)
def aget (al : AL) (k : List UInt8) : Option Value := (al.find? (·.1 == k)).map (·.2)
def aset (al : AL) (k : List UInt8) (v : Value) : AL := if (al.map (·.1)).contains k then al.map (fun p => if p.1 == k then (k, v) else p) else al ++ [(k, v)]
def adel (al : AL) (k : List UInt8) : AL := al.filter (fun p => !(p.1 == k))

structure MapOk (es : List MapEntry) (clock : Nat) : Prop where
  str : ∀ e ∈ es, ∃ s, e.key = .string s
  born : ∀ e ∈ es, e.born < clock
  stamps : (es.map (·.born)).Nodup
  keys : ((absM es).map (·.1)).Nodup

/-- Block r is a map with strings for keys that reads as the list. -/
def MapAt (w : World) (r : Nat) (al : AL) : Prop := ∃ es clock, w.heap[r]? = some (.map es clock) ∧ MapOk es.toList clock ∧ absM es.toList = al

theorem MapAt.new (w : World) : MapAt (w.alloc (.map #[] 0)) w.heap.size [] := ⟨#[], 0, heap_new w _, ⟨by simp, by simp, by simp, by simp [absM]⟩, rfl⟩
theorem MapAt.ext {S : Nat → Prop} {w w' : World} {r : Nat} {al : AL} (h : MapAt w r al) (hx : Ext S w w') (hS : ¬ S r) : MapAt w' r al := by
  obtain ⟨es, c, hr, h⟩ := h
  exact ⟨es, c, hx.obj hr hS, h⟩
theorem MapAt.lt {w : World} {r : Nat} {al : AL} (h : MapAt w r al) : r < w.heap.size := by obtain ⟨es, c, hr, _⟩ := h; exact lt_of_obj hr
theorem MapAt.nodup {w : World} {r : Nat} {al : AL} (h : MapAt w r al) : (al.map (·.1)).Nodup := by obtain ⟨es, c, hr, h, rfl⟩ := h; exact h.keys

theorem keyB_beq (s : ByteArray) (k : List UInt8) : (S k == s) = (s.data.toList == k) := by
  have h1 : (S k == s) = ((S k).data == s.data) := rfl
  rw [h1, Bool.eq_iff_iff]
  simp only [beq_iff_eq]
  constructor
  · intro h; rw [← h]; rfl
  · intro h; apply Array.ext'; rw [h]; rfl

theorem findNow_str (k : List UInt8) : ∀ (es : List MapEntry) (i : Nat), (∀ e ∈ es, ∃ s, e.key = .string s) →
    Instr.findNow .string (.string (S k)) es i = some ((es.findIdx? (fun e => keyB e.key == k)).map fun j => (i + j, ((es[j]?).map (·.val)).getD undef)) := by
  intro es
  induction es with
  | nil => intro i h; rfl
  | cons e es ih =>
    intro i h
    obtain ⟨s, hs⟩ := h e (by simp)
    have hk : keyB e.key = s.data.toList := by rw [hs]; rfl
    simp only [Instr.findNow, Instr.sameNow, hs, keyB_beq, List.findIdx?_cons]
    rw [show keyB (Value.string s) = s.data.toList from rfl]
    cases hb : (s.data.toList == k) with
    | true => simp
    | false =>
      simp only [Bool.false_eq_true, if_false]
      rw [ih (i + 1) (fun e he => h e (by simp [he]))]
      cases List.findIdx? (fun e => keyB e.key == k) es with
      | none => rfl
      | some j => simp; omega

theorem run_checkKey_at {P : Program} {w : World} {kt : TypeId} (hk : P.underlying kt = some .string) (b : Bool) (s : ByteArray) (m : Nat) : (Instr.checkKey b (m + 1) kt (.string s)).run P w = .ok () w := by
  simp [Instr.checkKey, run_underlying hk]
theorem run_checkKey_str {P : Program} {w : World} {kt : TypeId} (hk : P.underlying kt = some .string) (b : Bool) (s : ByteArray) : (Instr.checkKey b 10000 kt (.string s)).run P w = .ok () w := run_checkKey_at hk b s 9999

theorem run_findKey_str {P : Program} {w : World} {kt : TypeId} (hk : P.underlying kt = some .string) {es : List MapEntry} (k : List UInt8) (h : ∀ e ∈ es, ∃ s, e.key = .string s) :
    (Instr.findKey kt (.string (S k)) es).run P w = .ok ((es.findIdx? (fun e => keyB e.key == k)).map fun j => (j, ((es[j]?).map (·.val)).getD undef)) w := by
  simp only [Instr.findKey, Sem.run_bind, run_underlying hk, Result.andThen_ok, findNow_str k es 0 h, Nat.zero_add]
  rfl

theorem aget_idx (k : List UInt8) : ∀ (es : List MapEntry), aget (absM es) k = (es.findIdx? (fun e => keyB e.key == k)).map fun j => ((es[j]?).map (·.val)).getD undef := by
  intro es
  induction es with
  | nil => rfl
  | cons e es ih =>
    simp only [absM, List.map_cons, aget, List.find?_cons, List.findIdx?_cons] at ih ⊢
    cases hb : (keyB e.key == k) with
    | true => simp
    | false =>
      simp only [Bool.false_eq_true, if_false]
      rw [ih]
      cases List.findIdx? (fun e => keyB e.key == k) es <;> simp

theorem run_lookup {P : Program} {w : World} {t kt e r : Nat} {al : AL} {z : Value} (hu : P.underlying t = some (.map kt e)) (hk : P.underlying kt = some .string) (hz : zeroB P e = some z) (hm : MapAt w r al) (k : List UInt8) (ok : Bool) :
    (Instr.lookup t (.map (some r)) (.string (S k)) ok).run P w = .ok (if ok then .tuple #[(aget al k).getD z, .bool (aget al k).isSome] else (aget al k).getD z) w := by
  obtain ⟨es, c, hr, hok, rfl⟩ := hm
  have hzr : (zeroValue e).run P w = .ok z w := by
    unfold zeroB at hz
    cases hi : P.info? e with
    | none => simp [hi] at hz
    | some i => simp [hi] at hz; simp [zeroValue, typeInfo, program, Sem.run, hi, hz]
  have hf := run_findKey_str (P := P) (w := w) hk k hok.str
  have ha := aget_idx k es.toList
  cases hj : List.findIdx? (fun e => keyB e.key == k) es.toList with
  | none =>
    rw [hj] at hf ha
    simp only [Option.map_none] at hf ha
    simp only [Instr.lookup, Sem.run_bind, run_underlying hu, Result.andThen_ok, getObj, Sem.run, hr, Sem.run_pure, run_checkKey_str hk, hf, hzr, ha]
    cases ok <;> rfl
  | some j =>
    rw [hj] at hf ha
    simp only [Option.map_some] at hf ha
    simp only [Instr.lookup, Sem.run_bind, run_underlying hu, Result.andThen_ok, getObj, Sem.run, hr, Sem.run_pure, run_checkKey_str hk, hf, ha]
    cases ok <;> rfl
end maps
end Go.Proofs.YtmdpmpdlkaogdaaGreatDoor.Vc

namespace Go.Proofs.YtmdpmpdlkaogdaaGreatDoor.Vc
open Go Go.RowKit

theorem run_bytes_str {P : Program} {w : World} {t u e : TypeId} {v : Value} {l : List UInt8} (ht : P.underlying t = some (.slice e)) (he : P.underlying e = some (.int .u8)) (hu : P.underlying u = some .string) (hr : Row w v e 1 l.length (encB l)) :
    (convert t u v).run P w = .ok (.string (S l)) w := by
  rcases hr.form with ⟨rfl, h1, _⟩ | ⟨b, o, c, rfl, h1, h2, h3, hcell⟩
  · have hl0 : l = [] := List.eq_nil_of_length_eq_zero h1
    subst hl0
    exact run_convert_bytes_nil w t e ht he 0 0 u hu
  · have h := run_convert_bytes_arg (P := P) w t e ht he b o l.length c (l.map fun x => (x.toNat : Int)) (by simp) (fun i hi => by
      rw [hcell i _ (by simp [encB, hi]; rfl)]
      simp [hi]) u hu
    rw [h]
    have : strOfNums (l.map fun x => (x.toNat : Int)) = S l := by
      apply ByteArray.ext; apply Array.ext'
      rw [strOfNums_data, List.map_map]
      show _ = l
      conv => rhs; rw [← List.map_id l]
      refine List.map_congr_left fun x _ => ?_
      simp
    rw [this]

section ops
variable {st : Sty} [Wy st] {P : Program} {ds : List Deferred} {n : Nat} {Q : Exit → Act → World → Prop} {E : Env} {w : World} {ops : Array Oper} {l : List Oper}
variable {d : Nat} {ty : TypeId} {pos : String} {af : Array Edge}

theorem cvtBS {t u e : TypeId} {x : Operand} {v : Value} {a : List UInt8} (hx : opd E x = some v) (ht : P.underlying t = some (.slice e)) (he : P.underlying e = some (.int .u8)) (hu : P.underlying u = some .string) (hd : Nat.blt d n = true) (hr : Kn st w fun w => Row w v e 1 a.length (encB a))
    (k : LY st P ds n ops l Q ((d, .string (S a)) :: E) w) : LY st P ds n ops (⟨some d, .convert t u x, ty, pos, af, none⟩ :: l) Q E w :=
  LY.rd _ hd (fun ac ha w hs => by simp [execOp, opd_eval ha hx, run_bytes_str ht he hu (hr w hs)]) k

/-- A string's bytes, as a row of the call's own. -/
theorem cvtSB {t u e : TypeId} {td : TypeDesc} {x : Operand} {a : List UInt8} (hx : opd E x = some (.string (S a))) (ht : P.underlying t = some td) (hu : P.underlying u = some (.slice e)) (he : P.underlying e = some (.int .u8)) (hd : Nat.blt d n = true) (hl : a.length ≤ 1000000000)
    (hy : st.act ty) (k : ∀ v w', Row w' v e 1 a.length (encB a) → Ext none_ w w' → v.ownBlock = some w.heap.size → st.keeps l w w' ∧ LY st P ds n ops l Q ((d, v) :: E) w') : LY st P ds n ops (⟨some d, .convert t u x, ty, pos, af, none⟩ :: l) Q E w := by
  have hr := Lib.run_convert_string_bytes (P := P) w t u e (S a) ht hu he
  have hge := grownCap_ge w (S a).size 0 e
  have hle := grownCap_le_maxLen w (S a).size 0 e (by simp only [maxLen, S_size]; omega)
  have hnew := Lib.bytesWorld_at_new w e (S a)
  have hx' : Ext none_ w (Lib.bytesWorld w e (S a)) := ⟨rfl, rfl, rfl, by rw [Lib.bytesWorld_size]; omega, fun k hk _ => Lib.bytesWorld_at_old w e _ k hk⟩
  have hrow : Row (Lib.bytesWorld w e (S a)) (.slice (some ⟨w.heap.size, 0, none⟩) (S a).size (grownCap w (S a).size 0 e)) e 1 a.length (encB a) := by
    refine ⟨by simp, some ⟨w.heap.size, 0, none⟩, _, by rw [S_size], by rw [← S_size]; exact hge, hle, (fun h => by cases h), fun ad had => ?_⟩
    cases had
    refine ⟨_, _, rfl, hnew, ?_, ?_⟩
    · simp [Lib.bytesCells] at hge ⊢; omega
    · simp [Lib.bytesCells, S, encB]
  obtain ⟨hk, k⟩ := k _ _ hrow hx' rfl
  exact LY.val _ _ hd (fun ac ha => by simp [execOp, opd_eval ha hx, hr]) k (fun ts x S h => by subst h; exact hy) hk
/-- A conversion of bytes to bytes: the row is marked as a conversion's. -/
theorem cvtBB {t e : TypeId} {x : Operand} {g nn c : Nat} {cs : Array Value} (hx : opd E x = some (.slice (some ⟨g, 0, none⟩) nn c)) (ht : P.underlying t = some (.slice e)) (he : P.underlying e = some (.int .u8)) (hd : Nat.blt d n = true) (hg : w.heap[g]? = some (.cells cs e (0, 0)))
    (hy : st.act ty) (k : ∀ w', w'.heap[g]? = some (.cells cs e (cs.size, cs.size + 1)) → Ext (fun k => k = g) w w' → st.keeps l w w' ∧ LY st P ds n ops l Q ((d, .slice (some ⟨g, 0, none⟩) nn c) :: E) w') : LY st P ds n ops (⟨some d, .convert t t x, ty, pos, af, none⟩ :: l) Q E w := by
  have hsh : w.shape? g = some (e, cs.size) := by simp [World.shape?, hg]
  have hr : (convert t t (.slice (some ⟨g, 0, none⟩) nn c)).run P w = .ok (.slice (some ⟨g, 0, none⟩) nn c) (w.freeze ⟨g, cs.size, none⟩ 1) := by
    simp [convert, run_underlying ht, run_underlying he, markStringish, hsh]
  have hnew : (w.freeze ⟨g, cs.size, none⟩ 1).heap[g]? = some (.cells cs e (cs.size, cs.size + 1)) := by
    simp [World.freeze, Array.getElem?_modify, hg]
  have hxt : Ext (fun k => k = g) w (w.freeze ⟨g, cs.size, none⟩ 1) := ⟨rfl, rfl, rfl, by simp [World.freeze], fun k hk hn => by
    have : g ≠ k := fun e => hn e.symm
    simp [World.freeze, Array.getElem?_modify, this]⟩
  obtain ⟨hk, k⟩ := k _ hnew hxt
  exact LY.val _ _ hd (fun ac ha => by simp [execOp, opd_eval ha hx, hr]) k (fun ts x S h => by subst h; exact hy) hk
end ops
end Go.Proofs.YtmdpmpdlkaogdaaGreatDoor.Vc

namespace Go.Proofs.YtmdpmpdlkaogdaaGreatDoor.Vc
open Go Go.RowKit

abbrev V32 (x : BitVec 32) : Value := .int .u32 (x.toNat : Int)
def enc32 (l : List (BitVec 32)) : List Value := l.map V32
theorem enc32_get {l : List (BitVec 32)} {i : Nat} {x : BitVec 32} (h : l[i]? = some x) : (enc32 l)[i]? = some (V32 x) := by simp [enc32, h]
theorem enc32_len (l : List (BitVec 32)) : (enc32 l).length = l.length := by simp [enc32]
/-- Turned to the right. -/
def rot (n : Nat) (x : BitVec 32) : BitVec 32 := (x >>> n) ||| (x <<< (32 - n))
theorem wu32 (a : Int) : IntKind.u32.wrap a = ((BitVec.ofInt 32 a).toNat : Int) := by
  simp [IntKind.wrap, IntKind.bits, IntKind.signed, BitVec.toNat_ofInt]; omega
theorem of32 (x : BitVec 32) : BitVec.ofInt 32 (x.toNat : Int) = x := by
  apply BitVec.eq_of_toNat_eq
  rw [BitVec.toNat_ofInt]
  have := x.isLt
  omega
theorem wrap32 (x : BitVec 32) : IntKind.u32.wrap (x.toNat : Int) = x.toNat := by rw [wu32, of32]

section ops
variable {st : Sty} [Wy st] {P : Program} {ds : List Deferred} {n : Nat} {Q : Exit → Act → World → Prop} {E : Env} {w : World} {ops : Array Oper} {l : List Oper}
variable {d : Nat} {ty : TypeId} {pos : String} {af : Array Edge}
section two
variable {x y : Operand} {t yt : TypeId} {a b : BitVec 32} (hx : opd E x = some (V32 a)) (hy : opd E y = some (V32 b)) (hd : Nat.blt d n = true)
include hx hy hd
theorem add32 (k : LY st P ds n ops l Q ((d, V32 (a + b)) :: E) w) : LY st P ds n ops (⟨some d, .binOp .add t x y yt, ty, pos, af, none⟩ :: l) Q E w :=
  addI hx hy hd (by simp [IntKind.wrap, IntKind.bits, IntKind.signed, BitVec.toNat_add]) k
theorem xor32 (k : LY st P ds n ops l Q ((d, V32 (a ^^^ b)) :: E) w) : LY st P ds n ops (⟨some d, .binOp .xor t x y yt, ty, pos, af, none⟩ :: l) Q E w :=
  binI hx hy (fun w => by
    show (pure (.int .u32 (IntKind.u32.wrap ((BitVec.ofInt 32 (a.toNat : Int) ^^^ BitVec.ofInt 32 (b.toNat : Int)).toNat))) : Sem Value).run P w = _
    rw [of32, of32, wrap32]; rfl) hd k
theorem and32 (k : LY st P ds n ops l Q ((d, V32 (a &&& b)) :: E) w) : LY st P ds n ops (⟨some d, .binOp .and t x y yt, ty, pos, af, none⟩ :: l) Q E w :=
  binI hx hy (fun w => by
    show (pure (.int .u32 (IntKind.u32.wrap ((BitVec.ofInt 32 (a.toNat : Int) &&& BitVec.ofInt 32 (b.toNat : Int)).toNat))) : Sem Value).run P w = _
    rw [of32, of32, wrap32]; rfl) hd k
theorem or32 (k : LY st P ds n ops l Q ((d, V32 (a ||| b)) :: E) w) : LY st P ds n ops (⟨some d, .binOp .or t x y yt, ty, pos, af, none⟩ :: l) Q E w :=
  binI hx hy (fun w => by
    show (pure (.int .u32 (IntKind.u32.wrap ((BitVec.ofInt 32 (a.toNat : Int) ||| BitVec.ofInt 32 (b.toNat : Int)).toNat))) : Sem Value).run P w = _
    rw [of32, of32, wrap32]; rfl) hd k
end two
theorem not32 {x : Operand} {t : TypeId} {a : BitVec 32} (hx : opd E x = some (V32 a)) (hd : Nat.blt d n = true) (k : LY st P ds n ops l Q ((d, V32 (~~~a)) :: E) w) : LY st P ds n ops (⟨some d, .unOp .xor t x, ty, pos, af, none⟩ :: l) Q E w :=
  LY.rd _ hd (fun ac ha w _ => by
    have hr : (Op.unary .xor (V32 a)).run P w = .ok (V32 (~~~a)) w := by
      show (pure (.int .u32 (IntKind.u32.wrap ((BitVec.ofInt 32 4294967295 ^^^ BitVec.ofInt 32 (a.toNat : Int)).toNat))) : Sem Value).run P w = _
      rw [of32, show BitVec.ofInt 32 4294967295 = BitVec.allOnes 32 by decide, BitVec.allOnes_xor, wrap32]; rfl
    simp [execOp, opd_eval ha hx, hr]) k
theorem shl32 {x y : Operand} {t yt : TypeId} {κ : IntKind} {a : BitVec 32} {k : Nat} (hx : opd E x = some (V32 a)) (hy : opd E y = some (.int κ k)) (hd : Nat.blt d n = true) (hk : k ≤ 32) (kk : LY st P ds n ops l Q ((d, V32 (a <<< k)) :: E) w) : LY st P ds n ops (⟨some d, .binOp .shl t x y yt, ty, pos, af, none⟩ :: l) Q E w :=
  shlI hx hy hd (by omega) (by
    have h1 : min ((k : Int)).toNat IntKind.u32.bits = k := by simp [IntKind.bits]; omega
    rw [h1]
    simp only [IntKind.wrap, IntKind.bits, IntKind.signed, BitVec.toNat_shiftLeft, Nat.shiftLeft_eq]
    simp) kk
theorem shr32 {x y : Operand} {t yt : TypeId} {κ : IntKind} {a : BitVec 32} {k : Nat} (hx : opd E x = some (V32 a)) (hy : opd E y = some (.int κ k)) (hd : Nat.blt d n = true) (hk : k ≤ 32) (kk : LY st P ds n ops l Q ((d, V32 (a >>> k)) :: E) w) : LY st P ds n ops (⟨some d, .binOp .shr t x y yt, ty, pos, af, none⟩ :: l) Q E w :=
  shrI hx hy hd (by omega) (by
    have h1 : min ((k : Int)).toNat IntKind.u32.bits = k := by simp [IntKind.bits]; omega
    rw [h1]
    simp only [BitVec.toNat_ushiftRight, Nat.shiftRight_eq_div_pow]
    rw [Int.fdiv_eq_ediv_of_nonneg _ (by exact Int.pow_nonneg (by decide))]
    simp) kk
/-- A byte as a word; a word's last byte. -/
theorem b32 {x : Operand} {t u : TypeId} {b : UInt8} {td : TypeDesc} (hx : opd E x = some (.int .u8 b.toNat)) (hu : P.underlying u = some (.int .u32)) (ht : P.underlying t = some td) (hd : Nat.blt d n = true) (k : LY st P ds n ops l Q ((d, V32 (BitVec.ofNat 32 b.toNat)) :: E) w) : LY st P ds n ops (⟨some d, .convert t u x, ty, pos, af, none⟩ :: l) Q E w :=
  cvtI hx hu ht hd (by
    have := b.toNat_lt
    simp [IntKind.wrap, IntKind.bits, IntKind.signed]
    omega) k
theorem b8 {x : Operand} {t u : TypeId} {a : BitVec 32} {td : TypeDesc} (hx : opd E x = some (V32 a)) (hu : P.underlying u = some (.int .u8)) (ht : P.underlying t = some td) (hd : Nat.blt d n = true) (k : LY st P ds n ops l Q ((d, .int .u8 (UInt8.ofNat a.toNat).toNat) :: E) w) : LY st P ds n ops (⟨some d, .convert t u x, ty, pos, af, none⟩ :: l) Q E w :=
  cvtI hx hu ht hd (by simp [IntKind.wrap, IntKind.bits, IntKind.signed]) k

-- arrays
theorem ixp {t e : TypeId} {x i : Operand} {b o m sz : Nat} {κ : IntKind} {j : Int} (hx : opd E x = some (.pointer (some ⟨b, o, none⟩))) (hi : opd E i = some (.int κ j)) (hu : P.underlying t = some (.array m e)) (hs : szB P e = some sz) (hd : Nat.blt d n = true) (h0 : 0 ≤ j) (h1 : j < m)
    (k : LY st P ds n ops l Q ((d, .pointer (some ⟨b, o + j.toNat * sz, none⟩)) :: E) w) : LY st P ds n ops (⟨some d, .indexAddr t x i, ty, pos, af, none⟩ :: l) Q E w :=
  LY.rd _ hd (fun ac ha w _ => by simp [execOp, opd_eval ha hx, opd_eval ha hi, Instr.indexAt, Instr.sureAddr, asIntOf, underlying, program, Sem.run, hu, h0, h1, run_sizeOf hs, add_at]) k
theorem slA {t e : TypeId} {x : Operand} {b o m sz : Nat} (hx : opd E x = some (.pointer (some ⟨b, o, none⟩))) (hu : P.underlying t = some (.array m e)) (hs : szB P e = some sz) (hd : Nat.blt d n = true)
    (k : LY st P ds n ops l Q ((d, .slice (some ⟨b, o, none⟩) m m) :: E) w) : LY st P ds n ops (⟨some d, .slice t x none none none, ty, pos, af, none⟩ :: l) Q E w :=
  LY.rd _ hd (fun ac ha w _ => by simp [execOp, opd_eval ha hx, Instr.sliceAt, Instr.sureAddr, Instr.sliceBounds, underlying, program, Sem.run, hu, run_sizeOf hs, add_at]) k
theorem slAl {t e : TypeId} {x lo : Operand} {b o m sz i : Nat} {κ : IntKind} (hx : opd E x = some (.pointer (some ⟨b, o, none⟩))) (hl : opd E lo = some (.int κ i)) (hu : P.underlying t = some (.array m e)) (hs : szB P e = some sz) (hd : Nat.blt d n = true) (hm : i < m)
    (k : LY st P ds n ops l Q ((d, .slice (some ⟨b, o + i * sz, none⟩) (m - i) (m - i)) :: E) w) : LY st P ds n ops (⟨some d, .slice t x (some lo) none none, ty, pos, af, none⟩ :: l) Q E w :=
  LY.rd _ hd (fun ac ha w _ => by
    have h4 : ¬ m < i := by omega
    have h5 : ¬ m = i := by omega
    simp [execOp, opd_eval ha hx, opd_eval ha hl, Instr.sliceAt, Instr.sureAddr, Instr.sliceBounds, Instr.sliceBound, asIntOf, underlying, program, Sem.run, hu, run_sizeOf hs, h4, h5, add_at]) k
theorem slAh {t e : TypeId} {x hi : Operand} {b o m sz j : Nat} {κ : IntKind} (hx : opd E x = some (.pointer (some ⟨b, o, none⟩))) (hh : opd E hi = some (.int κ j)) (hu : P.underlying t = some (.array m e)) (hs : szB P e = some sz) (hd : Nat.blt d n = true) (hm : j ≤ m)
    (k : LY st P ds n ops l Q ((d, .slice (some ⟨b, o, none⟩) j m) :: E) w) : LY st P ds n ops (⟨some d, .slice t x none (some hi) none, ty, pos, af, none⟩ :: l) Q E w :=
  LY.rd _ hd (fun ac ha w _ => by
    have h4 : ¬ m < j := by omega
    simp [execOp, opd_eval ha hx, opd_eval ha hh, Instr.sliceAt, Instr.sureAddr, Instr.sliceBounds, Instr.sliceBound, asIntOf, underlying, program, Sem.run, hu, run_sizeOf hs, h4, add_at]) k
theorem slAlh {t e : TypeId} {x lo hi : Operand} {b o m sz i j : Nat} {κ κ' : IntKind} (hx : opd E x = some (.pointer (some ⟨b, o, none⟩))) (hl : opd E lo = some (.int κ i)) (hh : opd E hi = some (.int κ' j)) (hu : P.underlying t = some (.array m e)) (hs : szB P e = some sz) (hd : Nat.blt d n = true) (him : i < m) (hij : i ≤ j) (hm : j ≤ m)
    (k : LY st P ds n ops l Q ((d, .slice (some ⟨b, o + i * sz, none⟩) (j - i) (m - i)) :: E) w) : LY st P ds n ops (⟨some d, .slice t x (some lo) (some hi) none, ty, pos, af, none⟩ :: l) Q E w :=
  LY.rd _ hd (fun ac ha w _ => by
    have h5 : ¬ m = i := by omega
    simp [execOp, opd_eval ha hx, opd_eval ha hl, opd_eval ha hh, Instr.sliceAt, Instr.sureAddr, Instr.sliceBounds, Instr.sliceBound, asIntOf, underlying, program, Sem.run, hu, run_sizeOf hs, hm, h5, hij, add_at]) k
/-- 'copy' into a row. -/
theorem cpS {dT sT elem t : TypeId} {x y : Operand} {g o dl dc sl sc : Nat} {ad : Addr} {cur : Array Value} {cs : List Value} (hx : opd E x = some (.slice (some ⟨g, o, none⟩) dl dc)) (hy : opd E y = some (.slice (some ad) sl sc)) (hd : Nat.blt d n = true) (hu : P.underlying dT = some (.slice elem)) (hs : szB P elem = some 1)
    (hg : w.heap[g]? = some (.cells cur t (0, 0))) (hn : cs.length = Nat.min sl dl) (hsrc : ∀ j v, cs[j]? = some v → w.cell? (ad.add j) = some v) (hfit : o + cs.length ≤ cur.size) (h1 : ∀ v ∈ cs, v.oneCell' = true)
    (k : LY st P ds n ops l Q ((d, .int .i64 cs.length) :: E) (w.setRow g (cur.toList.take o ++ cs ++ cur.toList.drop (o + cs.length)).toArray)) (hk : st.keeps l w (w.setRow g (cur.toList.take o ++ cs ++ cur.toList.drop (o + cs.length)).toArray) := by trivial) : LY st P ds n ops (⟨some d, .call ⟨.builtin .copy, #[x, y], #[dT, sT]⟩, ty, pos, af, none⟩ :: l) Q E w := by
  have hr := run_copy_row (P := P) w dT sT ty elem g o dl dc ad sl sc cur t cs hu hs hg hn hsrc hfit h1
  exact bltinY (vs := [.slice (some ⟨g, o, none⟩) dl dc, .slice (some ad) sl sc]) (by simp [hx, hy]) hd (fun _ => by simp [builtin, hr, goInt]) k (fun _ _ _ _ => rfl) hk
end ops
end Go.Proofs.YtmdpmpdlkaogdaaGreatDoor.Vc

namespace Go.Proofs.YtmdpmpdlkaogdaaGreatDoor
namespace Sh
open Vc (rot)
abbrev Wd := BitVec 32
def H0 : List Wd := [0x6a09e667, 0xbb67ae85, 0x3c6ef372, 0xa54ff53a, 0x510e527f, 0x9b05688c, 0x1f83d9ab, 0x5be0cd19]
def K : List Wd := [
  0x428a2f98, 0x71374491, 0xb5c0fbcf, 0xe9b5dba5, 0x3956c25b, 0x59f111f1, 0x923f82a4, 0xab1c5ed5,
  0xd807aa98, 0x12835b01, 0x243185be, 0x550c7dc3, 0x72be5d74, 0x80deb1fe, 0x9bdc06a7, 0xc19bf174,
  0xe49b69c1, 0xefbe4786, 0x0fc19dc6, 0x240ca1cc, 0x2de92c6f, 0x4a7484aa, 0x5cb0a9dc, 0x76f988da,
  0x983e5152, 0xa831c66d, 0xb00327c8, 0xbf597fc7, 0xc6e00bf3, 0xd5a79147, 0x06ca6351, 0x14292967,
  0x27b70a85, 0x2e1b2138, 0x4d2c6dfc, 0x53380d13, 0x650a7354, 0x766a0abb, 0x81c2c92e, 0x92722c85,
  0xa2bfe8a1, 0xa81a664b, 0xc24b8b70, 0xc76c51a3, 0xd192e819, 0xd6990624, 0xf40e3585, 0x106aa070,
  0x19a4c116, 0x1e376c08, 0x2748774c, 0x34b0bcb5, 0x391c0cb3, 0x4ed8aa4a, 0x5b9cca4f, 0x682e6ff3,
  0x748f82ee, 0x78a5636f, 0x84c87814, 0x8cc70208, 0x90befffa, 0xa4506ceb, 0xbef9a3f7, 0xc67178f2]
theorem K_len : K.length = 64 := rfl
theorem H0_len : H0.length = 8 := rfl
def byte (b : List UInt8) (i : Nat) : Wd := BitVec.ofNat 32 (b[i]?.getD 0).toNat
/-- Four bytes, the highest first. -/
def word (b : List UInt8) (i : Nat) : Wd := (((byte b (4 * i) <<< 24) ||| (byte b (4 * i + 1) <<< 16)) ||| (byte b (4 * i + 2) <<< 8)) ||| byte b (4 * i + 3)
def at_ (l : List Wd) (i : Nat) : Wd := l[i]?.getD 0
def sx (x : Wd) : Wd := (rot 7 x ^^^ rot 18 x) ^^^ x >>> 3
def sy (y : Wd) : Wd := (rot 17 y ^^^ rot 19 y) ^^^ y >>> 10
def nw (l : List Wd) (i : Nat) : Wd := ((at_ l (i - 16) + sx (at_ l (i - 15))) + at_ l (i - 7)) + sy (at_ l (i - 2))
/-- A block's words. -/
def sch (b : List UInt8) : Nat → List Wd
  | 0 => []
  | n + 1 => sch b n ++ [if n < 16 then word b n else nw (sch b n) n]
theorem sch_len (b : List UInt8) : ∀ n, (sch b n).length = n
  | 0 => rfl
  | n + 1 => by rw [sch, List.length_append, sch_len b n]; rfl
theorem sch_get (b : List UInt8) {i n : Nat} (h : i < n) : ∀ {m}, n ≤ m → (sch b m)[i]? = (sch b n)[i]? := by
  intro m hm
  induction m with
  | zero => omega
  | succ m ih =>
    by_cases hn : n = m + 1
    · rw [hn]
    · rw [sch, List.getElem?_append_left (by rw [sch_len]; omega)]
      exact ih (by omega)
def big (x : Wd) (i j k : Nat) : Wd := (rot i x ^^^ rot j x) ^^^ rot k x
def one (e f g h k w : Wd) : Wd := (((h + big e 6 11 25) + ((e &&& f) ^^^ (~~~e &&& g))) + k) + w
def two (a b c : Wd) : Wd := big a 2 13 22 + (((a &&& b) ^^^ (a &&& c)) ^^^ (b &&& c))
/-- Eight words. -/
structure St where
  a : Wd
  b : Wd
  c : Wd
  d : Wd
  e : Wd
  f : Wd
  g : Wd
  h : Wd
def St.l (s : St) : List Wd := [s.a, s.b, s.c, s.d, s.e, s.f, s.g, s.h]
def step (s : St) (k w : Wd) : St :=
  let t := one s.e s.f s.g s.h k w
  ⟨t + two s.a s.b s.c, s.a, s.b, s.c, s.d + t, s.e, s.f, s.g⟩
def rounds (b : List UInt8) (s : St) : Nat → St
  | 0 => s
  | n + 1 => step (rounds b s n) (at_ K n) (at_ (sch b 64) n)
def St.add (s t : St) : St := ⟨s.a + t.a, s.b + t.b, s.c + t.c, s.d + t.d, s.e + t.e, s.f + t.f, s.g + t.g, s.h + t.h⟩
/-- One block of 64 bytes. -/
def turn (s : St) (b : List UInt8) : St := s.add (rounds b s 64)
def S0 : St := ⟨0x6a09e667, 0xbb67ae85, 0x3c6ef372, 0xa54ff53a, 0x510e527f, 0x9b05688c, 0x1f83d9ab, 0x5be0cd19⟩
/-- As many whole blocks as there are. -/
def fold (s : St) (b : List UInt8) (i n : Nat) : St := match n with
  | 0 => s
  | n + 1 => fold (turn s (b.drop (64 * i))) b (i + 1) n
theorem turn_take (s : St) (b c : List UInt8) (h : ∀ i, i < 64 → b[i]? = c[i]?) : turn s b = turn s c := by
  have hw : ∀ i, i < 16 → word b i = word c i := fun i hi => by
    unfold word byte
    rw [h (4 * i) (by omega), h (4 * i + 1) (by omega), h (4 * i + 2) (by omega), h (4 * i + 3) (by omega)]
  have hs : ∀ n, sch b n = sch c n := by
    intro n
    induction n with
    | zero => rfl
    | succ n ih =>
      rw [sch, sch, ih]
      by_cases hn : n < 16
      · rw [if_pos hn, if_pos hn, hw n hn]
      · rw [if_neg hn, if_neg hn]
  have hr : ∀ n, rounds b s n = rounds c s n := by
    intro n
    induction n with
    | zero => rfl
    | succ n ih => rw [rounds, rounds, ih, hs]
  unfold turn
  rw [hr]
end Sh
end Go.Proofs.YtmdpmpdlkaogdaaGreatDoor

namespace Go.Proofs.YtmdpmpdlkaogdaaGreatDoor
open Go Go.RowKit Vc
noncomputable abbrev P : Program := Tryz.prog
theorem u_bool : P.underlying 4 = some .bool := Tryz.underlying4
theorem u_int : P.underlying 3 = some (.int .i64) := Tryz.underlying3
theorem u_u8 : P.underlying 5 = some (.int .u8) := Tryz.underlying5
theorem u_str : P.underlying 9 = some .string := Tryz.underlying9
theorem u_bytes : P.underlying 25 = some (.slice 5) := Tryz.underlying25
theorem u_strs : P.underlying 46 = some (.slice 9) := Tryz.underlying46
theorem u_files : P.underlying 22 = some (.slice 45) := Tryz.underlying22
theorem u_pTree : P.underlying 51 = some (.pointer 100) := Tryz.underlying51
theorem u_pNode : P.underlying 102 = some (.pointer 104) := Tryz.underlying102
theorem u_mNode : P.underlying 98 = some (.map 9 102) := Tryz.underlying98
theorem u_mInt : P.underlying 123 = some (.map 9 3) := Tryz.underlying123
theorem el_bytes : ElT P 25 5 (.int .u8 0) 1 1 := ⟨u_bytes, by kernel_rfl, rfl, by decide⟩
theorem el_strs : ElT P 46 9 (.string ⟨#[]⟩) 1 16 := ⟨u_strs, by kernel_rfl, rfl, by decide⟩
theorem el_files : ElT P 22 45 (.agg #[.string ⟨#[]⟩, .bool false, .slice none 0 0]) 3 48 := ⟨u_files, by kernel_rfl, rfl, by decide⟩
theorem sz_bool : szB P 4 = some 1 := by kernel_rfl
theorem sz_int : szB P 3 = some 1 := by kernel_rfl
theorem sz_u8 : szB P 5 = some 1 := by kernel_rfl
theorem sz_str : szB P 9 = some 1 := by kernel_rfl
theorem sz_File : szB P 45 = some 3 := by kernel_rfl
theorem sz_Node : szB P 104 = some 2 := by kernel_rfl
theorem sz_Tree : szB P 100 = some 2 := by kernel_rfl
theorem ag_bool : aggB P 4 = some false := by kernel_rfl
theorem ag_int : aggB P 3 = some false := by kernel_rfl
theorem ag_u8 : aggB P 5 = some false := by kernel_rfl
theorem ag_str : aggB P 9 = some false := by kernel_rfl
theorem ag_bytes : aggB P 25 = some false := by kernel_rfl
theorem ag_strs : aggB P 46 = some false := by kernel_rfl
theorem ag_mNode : aggB P 98 = some false := by kernel_rfl
theorem ag_File : aggB P 45 = some true := by kernel_rfl
theorem ag_Node : aggB P 104 = some true := by kernel_rfl
theorem ag_Tree : aggB P 100 = some true := by kernel_rfl
theorem fl_Tree_0 : fldB P 100 0 = some 0 := by kernel_rfl
theorem fl_Tree_1 : fldB P 100 1 = some 1 := by kernel_rfl
theorem fl_Node_0 : fldB P 104 0 = some 0 := by kernel_rfl
theorem fl_Node_1 : fldB P 104 1 = some 1 := by kernel_rfl
theorem fl_File_0 : fldB P 45 0 = some 0 := by kernel_rfl
theorem fl_File_1 : fldB P 45 1 = some 1 := by kernel_rfl
theorem fl_File_2 : fldB P 45 2 = some 2 := by kernel_rfl
theorem ze_pNode : zeroB P 102 = some (.pointer none) := by kernel_rfl
theorem u_Errno : P.underlying 32 = some (.int .i64) := Tryz.underlying32
theorem ag_Errno : aggB P 32 = some false := by kernel_rfl
theorem sz_Errno : szB P 32 = some 1 := by kernel_rfl
theorem sz_strs : szB P 46 = some 1 := by kernel_rfl
theorem sz_bytes : szB P 25 = some 1 := by kernel_rfl
theorem ze_Errno : zeroB P 32 = some (.int .i64 0) := by kernel_rfl
theorem ze_strs : zeroB P 46 = some (.slice none 0 0) := by kernel_rfl
theorem ze_int : zeroB P 3 = some (.int .i64 0) := by kernel_rfl
theorem u_bss : P.underlying 31 = some (.slice 25) := Tryz.underlying31
theorem ag_Move : aggB P 118 = some true := by kernel_rfl
theorem sz_Move : szB P 118 = some 4 := by kernel_rfl
theorem ze_Move : zeroB P 118 = some (.agg #[.slice none 0 0, .slice none 0 0, .slice none 0 0, .int .i64 0]) := by kernel_rfl
theorem fl_Move_0 : fldB P 118 0 = some 0 := by kernel_rfl
theorem fl_Move_1 : fldB P 118 1 = some 1 := by kernel_rfl
theorem fl_Move_2 : fldB P 118 2 = some 2 := by kernel_rfl
theorem fl_Move_3 : fldB P 118 3 = some 3 := by kernel_rfl
theorem ze_Node : zeroB P 104 = some (.agg #[.bool false, .slice none 0 0]) := by kernel_rfl
end Go.Proofs.YtmdpmpdlkaogdaaGreatDoor

namespace Go.Proofs.YtmdpmpdlkaogdaaGreatDoor
open Go Go.RowKit Vc

abbrev t8 : TypeId := 128
abbrev t64 : TypeId := 130
theorem u_u32 : P.underlying 127 = some (.int .u32) := Tryz.underlying127
theorem u_uint : P.underlying 42 = some (.int .u64) := Tryz.underlying42
theorem u_t8 : P.underlying t8 = some (.array 8 127) := Tryz.underlying128
theorem u_t64 : P.underlying t64 = some (.array 64 127) := Tryz.underlying130
theorem sz_u32 : szB P 127 = some 1 := by kernel_rfl
theorem ag_u32 : aggB P 127 = some false := by kernel_rfl
theorem sz_t8 : szB P t8 = some 8 := by kernel_rfl
theorem ag_t8 : aggB P t8 = some true := by kernel_rfl
theorem sz_t64 : szB P t64 = some 64 := by kernel_rfl
theorem ag_t64 : aggB P t64 = some true := by kernel_rfl
theorem ze_t8 : zeroB P t8 = some (.agg (enc32 (List.replicate 8 0)).toArray) := by kernel_rfl
theorem ze_t64 : zeroB P t64 = some (.agg (enc32 (List.replicate 64 0)).toArray) := by kernel_rfl
theorem one32 (l : List (BitVec 32)) : (enc32 l).toArray.toList.all (·.oneCell') = true := by simp [enc32, List.all_map, Function.comp_def]; intro x _; rfl

theorem run_results_c {P : Program} {w : World} {fn : Func} {t b : Nat} {tt : TypeId} {cs : List Value} {tmps : Array Value} (hr : fn.results = #[.cell t tt]) (ht : tmps.getD t undef = .pointer (some ⟨b, 0, none⟩))
    (h1 : aggB P tt = some true) (hs : szB P tt = some cs.length) (hc : ∀ j u, cs[j]? = some u → w.cell? ⟨b, 0 + j, none⟩ = some u) : (results fn tmps).run P w = .ok (.agg cs.toArray) w := by
  have h := run_loadCells_list (P := P) w ⟨b, 0, none⟩ cs (fun j v hj => by rw [add_at]; exact hc j v hj)
  simp only [Array.getD_eq_getD_getElem?] at ht
  simp [results, hr, ht, asAddr, loadVar, Vc.run_isAgg h1, Vc.run_sizeOf hs, h]
/-- A return of an array that lies in a variable. -/
theorem N.retC {P : Program} {n : Nat} {E : Env} {w : World} {fn : Func} {R : Ending → World → Prop} {t b : Nat} {tt : TypeId} {cs : List Value} (hr : fn.results = #[.cell t tt]) (ht : getE E t = some (.pointer (some ⟨b, 0, none⟩)))
    (h1 : aggB P tt = some true) (hs : szB P tt = some cs.length) (hc : ∀ j u, cs[j]? = some u → w.cell? ⟨b, 0 + j, none⟩ = some u) (h : R (.returned (.agg cs.toArray)) w) : N [] n (bodyPost P fn R .ret) E w :=
  fun _ ha => bodyPost_ret (run_results_c hr (ha.2.2 _ _ ht) h1 hs hc) ha.1 h

theorem ok_begin : FnOk P 86 := ⟨_, Tryz.func86, by kernel_rfl, by kernel_rfl⟩
theorem ok_round : FnOk P 87 := ⟨_, Tryz.func87, by kernel_rfl, by kernel_rfl⟩
theorem ok_table : FnOk P 89 := ⟨_, Tryz.func89, by kernel_rfl, by kernel_rfl⟩
theorem ok_Rot : FnOk P 105 := ⟨_, Tryz.func105, by kernel_rfl, by kernel_rfl⟩
theorem ok_rturn : FnOk P 91 := ⟨_, Tryz.func91, by kernel_rfl, by kernel_rfl⟩

def parts (l : List (BitVec 32)) : Array (Nat × Value) := (l.zipIdx.map fun p => (p.2, V32 p.1)).toArray
theorem c_begin (w : World) : Calls P 86 #[] w fun e w' => e = .returned (.agg (enc32 Sh.S0.l).toArray) ∧ Ext none_ w w' := by
  refine enter (l := []) (n := 2) Tryz.func86 rfl rfl rfl ?_
  refine W.seq ?_
  refine W.reg <| new ze_t8 rfl <| L.nil ?_
  refine N.th ?_
  refine W.seq ?_
  refine W.reg <| bld (vs := parts Sh.S0.l) (v := .agg (enc32 Sh.S0.l).toArray) (by kernel_rfl) rfl (fun _ => by kernel_rfl) <| stR (cells := (enc32 Sh.S0.l).toArray) rfl rfl sz_t8 (one32 _) (heap_new _ _) rfl <| L.nil ?_
  refine N.th ?_
  refine W.ret ?_
  refine N.retC (cs := enc32 Sh.S0.l) rfl rfl ag_t8 sz_t8 (row_cells (setRow_heap _ _ _ _ _ _ (heap_new _ _))) ?_
  exact ⟨rfl, (Ext.alloc none_ _ _).trans' (Ext.setRow (S := fun k => k = w.heap.size) _ (fun _ => rfl) _) (fun i hi e => by omega)⟩
theorem c_round (w : World) : Calls P 87 #[] w fun e w' => e = .returned (.agg (enc32 Sh.K).toArray) ∧ Ext none_ w w' := by
  refine enter (l := []) (n := 2) Tryz.func87 rfl rfl rfl ?_
  refine W.seq ?_
  refine W.reg <| new ze_t64 rfl <| L.nil ?_
  refine N.th ?_
  refine W.seq ?_
  refine W.reg <| bld (vs := parts Sh.K) (v := .agg (enc32 Sh.K).toArray) (by kernel_rfl) rfl (fun _ => by kernel_rfl) <| stR (cells := (enc32 Sh.K).toArray) rfl rfl sz_t64 (one32 _) (heap_new _ _) rfl <| L.nil ?_
  refine N.th ?_
  refine W.ret ?_
  refine N.retC (cs := enc32 Sh.K) rfl rfl ag_t64 sz_t64 (row_cells (setRow_heap _ _ _ _ _ _ (heap_new _ _))) ?_
  exact ⟨rfl, (Ext.alloc none_ _ _).trans' (Ext.setRow (S := fun k => k = w.heap.size) _ (fun _ => rfl) _) (fun i hi e => by omega)⟩
theorem c_table (w : World) : Calls P 89 #[] w fun e w' => e = .returned (.agg (enc32 Sh.K).toArray) ∧ Ext none_ w w' := by
  refine enter (l := []) (n := 2) Tryz.func89 rfl rfl rfl ?_
  refine W.seq ?_
  refine W.reg <| new ze_t64 rfl <| L.nil ?_
  refine N.th ?_
  refine W.seq ?_
  refine W.reg <| bld (vs := parts Sh.K) (v := .agg (enc32 Sh.K).toArray) (by kernel_rfl) rfl (fun _ => by kernel_rfl) <| stR (cells := (enc32 Sh.K).toArray) rfl rfl sz_t64 (one32 _) (heap_new _ _) rfl <| L.nil ?_
  refine N.th ?_
  refine W.ret ?_
  refine N.retC (cs := enc32 Sh.K) rfl rfl ag_t64 sz_t64 (row_cells (setRow_heap _ _ _ _ _ _ (heap_new _ _))) ?_
  exact ⟨rfl, (Ext.alloc none_ _ _).trans' (Ext.setRow (S := fun k => k = w.heap.size) _ (fun _ => rfl) _) (fun i hi e => by omega)⟩

theorem and31 : ∀ n : Nat, n < 32 → 0 < n → IntKind.u64.wrap ((BitVec.ofInt 64 (18446744073709551616 - (n : Int)) &&& BitVec.ofInt 64 31).toNat : Int) = ((32 - n : Nat) : Int) := by decide +kernel
theorem c_Rot (x : BitVec 32) (n : Nat) (h0 : 0 < n) (hn : n < 32) (w : World) : Calls P 105 #[V32 x, .int .i64 (-(n : Int))] w fun e w' => e = .returned (V32 (rot n x)) ∧ w = w' := by
  refine enter (l := [_, _]) (n := 17) Tryz.func105 rfl rfl rfl ?_
  refine W.seq ?_
  refine W.reg <| asg rfl rfl <| L.nil ?_
  refine N.th ?_
  refine W.seq ?_
  refine W.reg <| mv rfl rfl <| cvtI (c := 18446744073709551616 - (n : Int)) rfl u_uint u_int rfl (by simp [IntKind.wrap, IntKind.bits, IntKind.signed]; omega) <|
    binI (v := .int .u64 ((32 - n : Nat) : Int)) rfl rfl (fun w => by
      show (pure (.int .u64 (IntKind.u64.wrap ((BitVec.ofInt 64 (18446744073709551616 - (n : Int)) &&& BitVec.ofInt 64 31).toNat))) : Sem Value).run P w = _
      rw [and31 n hn h0]; rfl) rfl <| asg rfl rfl <| L.nil ?_
  refine N.th ?_
  refine W.seq ?_
  refine W.reg <| mv rfl rfl <| mv rfl rfl <| shl32 (k := 32 - n) rfl rfl rfl (by omega) <| mv rfl rfl <| mv rfl rfl <| subI (c := (n : Int)) rfl rfl rfl (by rw [wu64 (by omega) (by omega)]; omega) <| shr32 (k := n) rfl rfl rfl (by omega) <| or32 rfl rfl rfl <| asg rfl rfl <| L.nil ?_
  refine N.th ?_
  refine W.ret ?_
  refine N.ret1 rfl rfl ?_   -- RETURN
  exact ⟨by unfold rot; rw [BitVec.or_comm], rfl⟩
theorem c_rturn (x : BitVec 32) (n : Nat) (h0 : 0 < n) (hn : n < 32) (w : World) : Calls P 91 #[V32 x, .int .i64 n] w fun e w' => e = .returned (V32 (rot n x)) ∧ Ext none_ w w' := by
  refine enter (l := [_, _]) (n := 13) Tryz.func91 rfl rfl rfl ?_
  refine W.seq ?_
  refine W.reg <| asg rfl rfl <| L.nil ?_
  refine N.th ?_
  refine W.seq ?_
  refine W.draw [] false (fun _ => True) [0, 1, 2, 3, 4, 5, 6, 7, 8] rfl rfl (by kernel_rfl) trivial ?_   -- held
  refine mv rfl rfl <| mv rfl rfl <| shr32 (k := n) rfl rfl rfl (by omega) <| mv rfl rfl <| mv rfl rfl <| subI (c := ((32 - n : Nat) : Int)) rfl rfl rfl (by rw [w64 (by omega) (by omega)]; omega) <| shl32 (k := 32 - n) rfl rfl rfl (by omega) <| or32 rfl rfl rfl <| asg rfl rfl <| L.nilH ?_
  refine N.th ?_
  refine W.ret ?_
  refine N.ret1 rfl rfl ?_   -- RETURN
  exact ⟨rfl, Ext.drew _ _⟩
end Go.Proofs.YtmdpmpdlkaogdaaGreatDoor

namespace Go.Proofs.YtmdpmpdlkaogdaaGreatDoor
namespace Sp
abbrev Bytes := List UInt8

def right (c : UInt8) : Bool := !(c == 34 || c == 92 || c == 42 || c == 63 || c == 58) && (32 < c && c < 127)
/-- What is wrong with a part: 0 or 50. -/
def part (s : Bytes) : Int := if 32 < s.length then 50 else if s.all right then 0 else 50

/-- What stands between the slashes. -/
def split : Bytes → List Bytes
  | [] => [[]]
  | c :: s => if c = 47 then [] :: split s else match split s with | x :: l => (c :: x) :: l | [] => [[c]]

/-- Parts, one after another, behind others of which the first ones stay. -/
def walk (stay : Nat) : List Bytes → List Bytes → List Bytes × Int
  | l, [] => if 12 < l.length then ([], 50) else (l, 0)
  | l, x :: xs =>
    if x = [] then walk stay l xs
    else if x = [46] then walk stay l xs
    else if x = [46, 46] then (if l.length = stay then ([], 51) else walk stay l.dropLast xs)
    else if part x = 0 then walk stay (l ++ [x]) xs else ([], part x)

def glue : List Bytes → Bytes
  | [] => []
  | [x] => x
  | x :: y :: l => x ++ 47 :: glue (y :: l)

def parts (p : Bytes) : List Bytes := if p = [] then [] else split p

def join (dir s : Bytes) : Bytes × Int :=
  if 200 < s.length + (if dir = [] then 0 else dir.length + 1) then ([], 50)
  else if s.head? = some 47 then ([], 51)
  else let r := walk (parts dir).length (parts dir) (split s); if r.2 = 0 then (glue r.1, 0) else ([], r.2)

def clean (s : Bytes) : Bytes × Int := join [] s

/-- Where the last slash stands; -1: nowhere. -/
def lastSlash : Bytes → Int
  | [] => -1
  | c :: s => let k := lastSlash s; if 0 ≤ k then k + 1 else if c = 47 then 0 else -1

def parent (p : Bytes) : Bytes := p.take (max (lastSlash p) 0).toNat
def within (p dir : Bytes) : Bool := dir == [] || p == dir || (dir ++ [47]).isPrefixOf p
end Sp
end Go.Proofs.YtmdpmpdlkaogdaaGreatDoor

namespace Go.Proofs.YtmdpmpdlkaogdaaGreatDoor
open Go Go.RowKit Vc

theorem ok_right : FnOk P 145 := ⟨_, Tryz.func145, by kernel_rfl, by kernel_rfl⟩
theorem ok_part : FnOk P 128 := ⟨_, Tryz.func128, by kernel_rfl, by kernel_rfl⟩

theorem right_int (c : Int) (w : World) :
    Calls P 145 #[.int .u8 c] w fun e w' => e = .returned (.bool (!(c == 34 || c == 92 || c == 42 || c == 63 || c == 58) && (decide (32 < c) && decide (c < 127)))) ∧ w' = w := by
  go_enter Tryz.func145, Tryz.ntmps145
  go_wp2
  all_goals (try go_ret)
  all_goals (refine ⟨?_, rfl⟩)
  all_goals (congr 2; simp_all; try omega)
theorem right_eq (c : UInt8) : (!((c.toNat : Int) == 34 || (c.toNat : Int) == 92 || (c.toNat : Int) == 42 || (c.toNat : Int) == 63 || (c.toNat : Int) == 58) && (decide (32 < (c.toNat : Int)) && decide ((c.toNat : Int) < 127))) = Sp.right c := by
  have e : ∀ (k : Nat) (_ : k < 256), ((c.toNat : Int) == (k : Int)) = (c == UInt8.ofNat k) := by
    intro k hk
    rw [Bool.eq_iff_iff]
    simp only [beq_iff_eq]
    constructor
    · intro h; apply UInt8.toNat_inj.1; simp; omega
    · intro h; rw [h]; simp; omega
  have l1 : decide (32 < (c.toNat : Int)) = decide (32 < c) := by
    rw [decide_eq_decide, UInt8.lt_iff_toNat_lt]; simp; omega
  have l2 : decide ((c.toNat : Int) < 127) = decide (c < 127) := by
    rw [decide_eq_decide, UInt8.lt_iff_toNat_lt]; simp; omega
  unfold Sp.right
  rw [l1, l2]
  have e1 : ((c.toNat : Int) == 34) = (c == 34) := e 34 (by decide)
  have e2 : ((c.toNat : Int) == 92) = (c == 92) := e 92 (by decide)
  have e3 : ((c.toNat : Int) == 42) = (c == 42) := e 42 (by decide)
  have e4 : ((c.toNat : Int) == 63) = (c == 63) := e 63 (by decide)
  have e5 : ((c.toNat : Int) == 58) = (c == 58) := e 58 (by decide)
  rw [e1, e2, e3, e4, e5]
theorem c_right (c : UInt8) (w : World) : Calls P 145 #[.int .u8 c.toNat] w fun e w' => e = .returned (.bool (Sp.right c)) ∧ w = w' :=
  (right_int c.toNat w).mono fun _ _ ⟨h1, h2⟩ => ⟨by rw [h1, right_eq], h2.symm⟩

theorem c_part (s : Sp.Bytes) (hs : s.length ≤ maxLen) (w : World) : Calls P 128 #[.string (S s)] w fun e w' => e = .returned (.int .i64 (Sp.part s)) ∧ w = w' := by
  unfold maxLen at hs
  refine enter (n := 18) Tryz.func128 rfl rfl rfl ?_
  refine W.seq ?_
  refine W.reg <| asg rfl rfl <| L.nil ?_
  refine N.th ?_
  refine W.seq ?_
  refine W.seq ?_
  refine W.reg <| mv rfl rfl <| lenS rfl u_str rfl <| gtrI rfl rfl rfl <| L.nil ?_
  refine N.th ?_
  -- if t6
  refine W.cond rfl (fun h => ?_) (fun h => ?_)
  ·
    refine W.seq ?_
    refine W.reg <| asg rfl rfl <| L.nil ?_
    refine N.th ?_
    refine W.ret ?_
    refine N.rth ?_
    refine N.ret1 rfl rfl ⟨?_, rfl⟩
    have h' : 32 < s.length := by have := of_decide_eq_true h; omega
    rw [Sp.part, if_pos h']
  ·
    have h' : ¬ 32 < s.length := by have := of_decide_eq_false h; omega
    refine W.skip ?_
    refine N.th ?_
    refine W.seq ?_
    refine W.seq ?_
    refine W.reg <| mv rfl rfl <| lenS rfl u_str rfl <| mv rfl rfl <| L.nil ?_
    refine N.th ?_
    refine W.block ?_
    refine W.loop (X := Nat) (fun x => [(0, .string (S s)), (8, .int .i64 s.length), (9, .int .i64 x)]) (fun x w' => w = w' ∧ x ≤ s.length ∧ (s.take x).all Sp.right = true) (fun x => s.length - x) 0 ⟨rfl, rfl, rfl, trivial⟩ ⟨rfl, Nat.zero_le _, by simp⟩ ?_
    rintro x w ⟨rfl, hx, hall⟩
    refine W.seq ?_
    refine W.reg <| lssI rfl rfl rfl <| L.nil ?_
    refine N.th ?_
    refine W.seq ?_
    -- if t10
    refine W.cond rfl (fun h => ?_) (fun h => ?_)
    ·
      have hlt : x < s.length := by have := of_decide_eq_true h; omega
      refine W.skip ?_
      refine N.th ?_
      refine W.seq ?_
      refine W.block ?_
      refine W.seq ?_
      refine W.reg <| mv rfl rfl <| asg rfl rfl <| L.nil ?_
      refine N.th ?_
      refine W.seq ?_
      refine W.reg <| mv rfl rfl <| mv rfl rfl <| idxS (b := s[x]) rfl rfl u_str rfl (by omega) (by simp [hlt]) ?_
      refine call (vs := [_]) rfl rfl ok_right (c_right _ _) ?_
      rintro e w' ⟨rfl, rfl⟩
      refine ⟨_, rfl, ?_⟩
      refine notB rfl rfl <| L.nil ?_
      refine N.th ?_
      have htk : s.take (x + 1) = s.take x ++ [s[x]] := by rw [List.take_succ_eq_append_getElem hlt]
      -- if t16
      refine W.cond rfl (fun h => ?_) (fun h => ?_)
      ·
        refine W.seq ?_
        refine W.reg <| asg rfl rfl <| L.nil ?_
        refine N.th ?_
        refine W.ret ?_
        refine N.rinb <| N.rth <| N.rth <| N.rinb <| N.rth ?_
        refine N.ret1 rfl rfl ⟨?_, rfl⟩
        have hr : Sp.right s[x] = false := by simpa using h
        have : s.all Sp.right = false := by
          rw [List.all_eq_false]; exact ⟨s[x], by simp, by simp [hr]⟩
        rw [Sp.part, if_neg h', this]; rfl
      ·
        have hr : Sp.right s[x] = true := by simpa using h
        refine W.skip ?_
        refine N.inb ?_
        refine N.th ?_
        refine W.reg <| addI rfl rfl rfl (w64 (by omega) (by omega)) <| mv rfl rfl <| L.nil ?_
        refine N.th (N.round (x + 1) ⟨rfl, rfl, rfl, trivial⟩ ⟨rfl, by omega, ?_⟩ (by omega))
        rw [htk, List.all_append, hall]; simp [hr]
    ·
      have hge : s.length ≤ x := by have := of_decide_eq_false h; omega
      refine W.exit ?_
      refine N.xth ?_
      refine N.xth ?_
      refine N.xeq ?_
      refine N.th ?_
      refine W.seq ?_
      refine W.reg <| asg rfl rfl <| L.nil ?_
      refine N.th ?_
      refine W.ret ?_
      refine N.ret1 rfl rfl ⟨?_, rfl⟩
      rw [List.take_of_length_le hge] at hall
      rw [Sp.part, if_neg h', hall]; rfl
end Go.Proofs.YtmdpmpdlkaogdaaGreatDoor

namespace Go.Proofs.YtmdpmpdlkaogdaaGreatDoor.Vc
open Go Go.RowKit

/-- What an iterator over xs is: whoever hands it a loop whose rounds do their part is told all of them, in order, unless a round says 'no more'.
    St: what the iterator itself may do to the world between two rounds; Kp: what a round must leave as it was; Pre: what must stand when it begins. -/
def SeqJ {α : Type} (P : Program) (gf : Nat) (lb : Array Value) (enc : α → Value) (Pre : World → Prop) (Kp St : World → World → Prop) (xs : List α) : Prop :=
  ∀ (l : Nat) (J Jx : List α → World → Prop) (W : World), Pre W → (∀ pre A B, J pre A → St A B → J pre B) → (∀ pre A B, Jx pre A → St A B → Jx pre B) →
    (∀ pre x rest W1, xs = pre ++ x :: rest → J pre W1 → YieldAt Fence.wide 0 P l #[enc x] W1 fun e W' =>
      (e = .returned (.bool true) ∧ J (pre ++ [x]) W' ∧ Kp W1 W') ∨ (e = .returned (.bool false) ∧ Jx (pre ++ [x]) W' ∧ Kp W1 W')) →
    J [] W →
    CallsIn Fence.wide 0 P gf (#[.func (.yield l) #[] #[]] ++ lb) W fun e W' => (∃ v, e = .returned v) ∧ (J xs W' ∨ ∃ pre x rest, xs = pre ++ x :: rest ∧ Jx (pre ++ [x]) W')

/-- How a round may be left: D and l are the blocks of the loop's own book-keeping. -/
def roundQ {α : Type} (l : Nat) (Kp : World → World → Prop) (I : List α → World → Prop) (Ix : Code → List α → World → Prop) (xs : List α) (W : World) : Exit → Act → World → Prop
  | .normal, _, W' => (W'.heap[l]? = W.heap[l]? ∧ W'.heap[l - 1]? = W.heap[l - 1]? ∧ Kp W W') ∧ I xs W'
  | .ret, _, W' => (W'.heap[l]? = W.heap[l]? ∧ W'.heap[l - 1]? = W.heap[l - 1]? ∧ Kp W W') ∧ Ix .ret xs W'
  | .exit id, _, W' => (W'.heap[l]? = W.heap[l]? ∧ W'.heap[l - 1]? = W.heap[l - 1]? ∧ Kp W W') ∧ Ix (.exit id) xs W'
  | _, _, _ => False

theorem Ext.putObj {S : Nat → Prop} (w : World) {r : Nat} (hr : S r) (o : Obj) : Ext S w (w.putObj r o) :=
  ⟨rfl, rfl, rfl, by simp [World.putObj], fun k _ hn => World.putObj_heap_other (fun e => hn (by subst e; exact hr))⟩

variable {mm : Nat} {P : Program} {ds : List Deferred} {n : Nat} {Q : Exit → Act → World → Prop} {E : Env} {w : World}

theorem W.range {α : Type} {g : Operand} {t d id : Nat} {ty : TypeId} {pos : String} {af : Array Edge} {body : Code} {gf : Nat} {fn : Func} {lb : Array Value} {enc : α → Value} {Pre : World → Prop} {Kp St : World → World → Prop} {xs : List α}
    (hg : opd E g = some (.func (.func gf) #[] lb)) (ht : Nat.blt t n = true) (hd : Nat.blt d n = true) (hfn : P.funcs[gf]? = some fn) (hne : (fn.name == "runtime.NumGoroutine") = false) (hbd : fn.body.isNone = false)
    (hseq : SeqJ P gf lb enc Pre Kp St xs)
    (hKt : ∀ {A B C : World}, Kp A B → Kp B C → Kp A C) (hKb : ∀ (W : World) (o : Obj), Kp W (W.putObj (w.heap.size + 1) o))
    (hSt : ∀ A B, St A B → w.heap.size + 1 < A.heap.size → B.heap[w.heap.size]? = A.heap[w.heap.size]? ∧ B.heap[w.heap.size + 1]? = A.heap[w.heap.size + 1]?)
    (hpre : ∀ W, Ext none_ w W → Pre W)
    (I : List α → World → Prop) (Ix : Code → List α → World → Prop) (hI : ∀ pre A B, I pre A → St A B → I pre B) (hIx : ∀ c pre A B, Ix c pre A → St A B → Ix c pre B)
    (hIb : ∀ pre A o, I pre A → I pre (A.putObj (w.heap.size + 1) o)) (hIxb : ∀ c pre A o, Ix c pre A → Ix c pre (A.putObj (w.heap.size + 1) o))
    (h0 : ∀ W, Ext none_ w W → W.heap.size = w.heap.size + 2 → I [] W)
    (hbody : ∀ pre x rest W', xs = pre ++ x :: rest → I pre W' → w.heap.size + 2 ≤ W'.heap.size → W (Fence.wide.inRound (w.heap.size + 1)) 0 P [] n body (roundQ (w.heap.size + 1) Kp I Ix (pre ++ [x]) W') ((d, enc x) :: (t, enc x) :: E) W')
    (hdone : ∀ W', I xs W' → W'.heap[w.heap.size]? = some (.deferred (some [])) → N ({ target := .collected w.heap.size, args := #[] } :: ds) n (Q .normal) E W')
    (hstop : ∀ c pre x rest W', xs = pre ++ x :: rest → Ix c (pre ++ [x]) W' → W'.heap[w.heap.size]? = some (.deferred (some [])) → W Fence.wide mm P ({ target := .collected w.heap.size, args := #[] } :: ds) n c Q E W') :
    W Fence.wide mm P ds n (.rangeFunc g #[t] (.region id #[⟨some d, .assign (.tmp t), ty, pos, af, none⟩] false) body) Q E w := by
  intro a ha
  refine wpIn_rangeFunc ?_
  intro fno hfo
  obtain ⟨rec, hrec⟩ : ∃ rec : LoopState → Option Code → Loop, rec = fun st pe => { state := st, pending := pe, fn := fno, tmps := a.tmps, params := #[t], assign := (.region id #[⟨some d, .assign (.tmp t), ty, pos, af, none⟩] false), body, defers := w.heap.size } := ⟨_, rfl⟩
  obtain ⟨W1, hW1⟩ : ∃ W1, (w.alloc (.deferred (some []))).alloc (.loop (rec .ready none)) = W1 := ⟨_, rfl⟩
  have hL1 : W1.heap[w.heap.size + 1]? = some (.loop (rec .ready none)) := by
    rw [← hW1]; have := heap_new (w.alloc (.deferred (some []))) (.loop (rec .ready none)); rwa [World.size_alloc] at this
  have hK1 : W1.heap[w.heap.size]? = some (.deferred (some [])) := by
    rw [← hW1]; exact (heap_alloc _ _ (by simp)).trans (heap_new w _)
  have hE1 : Ext none_ w W1 := by rw [← hW1]; exact (Ext.alloc _ w _).trans (Ext.alloc _ _ _)
  have hS1 : W1.heap.size = w.heap.size + 2 := by rw [← hW1]; simp
  have hev : a.eval g = .func (.func gf) #[] lb := opd_eval ha hg
  have hne' : ¬ fn.name = "runtime.NumGoroutine" := by simpa using hne
  have hbd' : ¬ fn.body = none := by cases h : fn.body with | none => rw [h] at hbd; cases hbd | some c => simp
  refine ⟨w.heap.size + 1, [{ target := .collected w.heap.size, args := #[] }], W1, { target := .fn (.func gf) lb, args := #[.func (.yield (w.heap.size + 1)) #[] #[]] }, W1, gf,
    #[.func (.yield (w.heap.size + 1)) #[] #[]] ++ lb, W1, ?_, ?_, ?_, ?_, (fun h => by cases h), ?_⟩
  · rw [← hW1, hrec]; exact run_enterLoop_outer _ _ _ _ _
  · simp only [resolve, hev]
    simp [Deferred.ofValue, Act.eval]
  · intro f' _; exact trivial
  · simp [invoke, callFunc, program, Sem.run, hfn, hne', hbd']
  · have hKn : Kp W1 W1 → True := fun _ => trivial
    refine (callsIn_n (hseq (w.heap.size + 1)
      (fun pre W => I pre W ∧ W.heap[w.heap.size + 1]? = some (.loop (rec .ready none)) ∧ W.heap[w.heap.size]? = some (.deferred (some [])) ∧ w.heap.size + 2 ≤ W.heap.size)
      (fun pre W => ∃ c, Ix c pre W ∧ W.heap[w.heap.size + 1]? = some (.loop (rec .done (some c))) ∧ W.heap[w.heap.size]? = some (.deferred (some [])))
      W1 (hpre _ hE1) ?_ ?_ ?_ ⟨h0 _ hE1 hS1, hL1, hK1, Nat.le_of_eq hS1.symm⟩)).mono ?_
    · rintro pre A B ⟨hi, hl, hk, hz⟩ hs
      have hlt := (Array.getElem?_eq_some_iff.1 hl).1
      refine ⟨hI _ _ _ hi hs, (hSt _ _ hs hlt).2.trans hl, (hSt _ _ hs hlt).1.trans hk, ?_⟩
      have : w.heap.size + 1 < B.heap.size := (Array.getElem?_eq_some_iff.1 ((hSt _ _ hs hlt).2.trans hl)).1
      omega
    · rintro pre A B ⟨c, hi, hl, hk⟩ hs
      have hlt := (Array.getElem?_eq_some_iff.1 hl).1
      exact ⟨c, hIx _ _ _ _ hi hs, (hSt _ _ hs hlt).2.trans hl, (hSt _ _ hs hlt).1.trans hk⟩
    · rintro pre x rest W ⟨⟩ ⟨hi, hl, hk, hz⟩
      have hlt : w.heap.size + 1 < W.heap.size := (Array.getElem?_eq_some_iff.1 hl).1
      have hy := run_yield (P := P) (args := #[enc x]) hl (by rw [hrec]; rfl)
      rw [hrec] at hy
      refine ⟨fno, _, _, body, hy, roundIn_of_wpIn trivial ?_⟩
      refine wpIn_region_lit (l := [_]) ?_
      have hfit1 : Fits [] n ((t, enc x) :: E) { tmps := Array.foldl (fun tmps (x : Nat × Value) => match x with | (t, a) => tmps.setIfInBounds t a) a.tmps (#[t].zip #[enc x]), defers := [] } := by
        have h1 := (show Fits [] n E { tmps := a.tmps, defers := [] } from ⟨rfl, ha.2.1, ha.2.2⟩).put (v := enc x) ht
        simpa [Act.put] using h1
      refine asg (st := .plain (Fence.wide.inRound (w.heap.size + 1)) 0) (ds := []) (E := (t, enc x) :: E) (v := enc x) (by simp [opd, getE]) hd ?_ _ hfit1
      refine fun a1 ha1 => wpListIn_nil ?_
      refine ⟨_, run_beginRound hl (by rw [hrec]), ?_⟩
      have hl2 : (W.putObj (w.heap.size + 1) (.loop { rec .ready none with state := .busy })).heap[w.heap.size + 1]? = some (.loop { rec .ready none with state := .busy }) := World.putObj_heap_same hlt
      have hk2 : (W.putObj (w.heap.size + 1) (.loop { rec .ready none with state := .busy })).heap[w.heap.size]? = some (.deferred (some [])) := (World.putObj_heap_other (by omega)).trans hk
      have hw2 : Kp W (W.putObj (w.heap.size + 1) (.loop { rec .ready none with state := .busy })) := hKb _ _
      refine wpIn_mono (hbody pre x rest _ rfl (hIb _ _ _ hi) (by simpa [World.putObj] using hz) a1 ha1) ?_
      have fin : ∀ (jump : Option Code) (W3 : World), (W3.heap[w.heap.size + 1]? = (W.putObj (w.heap.size + 1) (.loop { rec .ready none with state := .busy })).heap[w.heap.size + 1]? ∧ W3.heap[w.heap.size + 1 - 1]? = (W.putObj (w.heap.size + 1) (.loop { rec .ready none with state := .busy })).heap[w.heap.size + 1 - 1]?) →
          (Instr.endRound (w.heap.size + 1) jump).run P W3 = .ok (.bool jump.isNone) (W3.putObj (w.heap.size + 1) (.loop (rec (if jump.isNone then .ready else .done) jump))) ∧
          (W3.putObj (w.heap.size + 1) (.loop (rec (if jump.isNone then .ready else .done) jump))).heap[w.heap.size + 1]? = some (.loop (rec (if jump.isNone then .ready else .done) jump)) ∧
          (W3.putObj (w.heap.size + 1) (.loop (rec (if jump.isNone then .ready else .done) jump))).heap[w.heap.size]? = some (.deferred (some [])) ∧ w.heap.size + 2 ≤ (W3.putObj (w.heap.size + 1) (.loop (rec (if jump.isNone then .ready else .done) jump))).heap.size := fun jump W3 hk3 => by
        have hl3 := hk3.1.trans hl2
        have hd3 := hk3.2.trans hk2
        have := run_endRound (P := P) jump hl3
        rw [hrec] at this ⊢
        have hlt3 := (Array.getElem?_eq_some_iff.1 hl3).1
        exact ⟨this, World.putObj_heap_same hlt3, (World.putObj_heap_other (by omega)).trans hd3, by simp [World.putObj]; omega⟩
      rintro e a3 W3 hp
      cases e with
      | normal =>
        obtain ⟨⟨h1, h2, hkp3⟩, hi3⟩ := hp
        obtain ⟨hr, hl4, hk4, hz4⟩ := fin none W3 ⟨h1, h2⟩
        exact ⟨_, _, hr, .inl ⟨rfl, ⟨hIb _ _ _ hi3, hl4, hk4, hz4⟩, hKt (hKt hw2 hkp3) (hKb _ _)⟩⟩
      | ret =>
        obtain ⟨⟨h1, h2, hkp3⟩, hi3⟩ := hp
        obtain ⟨hr, hl4, hk4, _⟩ := fin (some .ret) W3 ⟨h1, h2⟩
        exact ⟨_, _, hr, .inr ⟨rfl, ⟨.ret, hIxb _ _ _ _ hi3, hl4, hk4⟩, hKt (hKt hw2 hkp3) (hKb _ _)⟩⟩
      | exit id =>
        obtain ⟨⟨h1, h2, hkp3⟩, hi3⟩ := hp
        obtain ⟨hr, hl4, hk4, _⟩ := fin (some (.exit id)) W3 ⟨h1, h2⟩
        exact ⟨_, _, hr, .inr ⟨rfl, ⟨.exit id, hIxb _ _ _ _ hi3, hl4, hk4⟩, hKt (hKt hw2 hkp3) (hKb _ _)⟩⟩
      | goto t => exact hp.elim
      | panic ch => exact hp.elim
      | outgrown => exact hp.elim
    · rintro e W2 ⟨⟨v, rfl⟩, (⟨hi, hl, hk, _⟩ | ⟨pre, x, rest, hxs, c, hi, hl, hk⟩)⟩
      · refine ⟨none, _, by have := run_endLoop (P := P) hl (by rw [hrec]; simp); rw [hrec] at this; exact this, ?_⟩
        exact hdone _ (hIb _ _ _ hi) ((World.putObj_heap_other (by omega)).trans hk) _ ⟨by simp [ha.1], ha.2.1, ha.2.2⟩
      · refine ⟨some c, _, by have := run_endLoop (P := P) hl (by rw [hrec]; simp); rw [hrec] at this; exact this, ?_⟩
        exact hstop c pre x rest _ hxs (hIxb _ _ _ _ hi) ((World.putObj_heap_other (by omega)).trans hk) _ ⟨by simp [ha.1], ha.2.1, ha.2.2⟩
where callsIn_n {P : Program} {f : FuncId} {args : Array Value} {w : World} {R : Ending → World → Prop} {m : Nat} (h : CallsIn Fence.wide 0 P f args w R) : CallsIn Fence.wide m P f args w R := callsIn_wide.2 (callsIn_wide.1 h)

/-- A function whose body may hold a range over a function. -/
theorem enterM {P : Program} {f : FuncId} {fn : Func} {c : Code} {l : List Value} {w : World} {R : Ending → World → Prop} {n : Nat} (hf : P.funcs[f]? = some fn) (hb : fn.body = some c) (hn : fn.ntmps = n) (hl : Nat.ble l.length n = true)
    (h : W Fence.wide 0 P [] n c (bodyPostM Fence.wide 0 P fn R) (argE 0 l) w) : Calls P f l.toArray w R := by
  refine callsIn_wide.1 (callsIn_of_wp_marks (n := 0) hf hb trivial (h _ ⟨rfl, ?_, ?_⟩))
  · have : l.length ≤ n := Nat.le_of_ble_eq_true hl
    simp [hn]; omega
  · intro t v hg
    obtain ⟨_, h2⟩ := getE_argE l 0 t v hg
    rw [Nat.sub_zero] at h2
    simp only [Array.getD_eq_getD_getElem?]
    rw [Array.getElem?_append_left (by have := (List.getElem?_eq_some_iff.1 h2).1; simpa using this)]
    simp [h2]

theorem run_results_c2 {fn : Func} {t u b1 b2 : Nat} {tt tu : TypeId} {v1 v2 : Value} {tmps : Array Value} (hr : fn.results = #[.cell t tt, .cell u tu]) (ht : tmps.getD t undef = .pointer (some ⟨b1, 0, none⟩)) (hu : tmps.getD u undef = .pointer (some ⟨b2, 0, none⟩))
    (h1 : aggB P tt = some false) (h2 : aggB P tu = some false) (c1 : w.cell? ⟨b1, 0, none⟩ = some v1) (c2 : w.cell? ⟨b2, 0, none⟩ = some v2) : (results fn tmps).run P w = .ok (.tuple #[v1, v2]) w := by
  simp only [Array.getD_eq_getD_getElem?] at ht hu
  simp [results, hr, ht, hu, asAddr, loadVar, run_isAgg h1, run_isAgg h2, c1, c2]

/-- A return of two results that lie in variables of their own: ahead of the range, and behind it. -/
theorem N.retC2 {fn : Func} {R : Ending → World → Prop} {t u b1 b2 : Nat} {tt tu : TypeId} {v1 v2 : Value} (hr : fn.results = #[.cell t tt, .cell u tu]) (ht : getE E t = some (.pointer (some ⟨b1, 0, none⟩))) (hu : getE E u = some (.pointer (some ⟨b2, 0, none⟩)))
    (h1 : aggB P tt = some false) (h2 : aggB P tu = some false) (c1 : w.cell? ⟨b1, 0, none⟩ = some v1) (c2 : w.cell? ⟨b2, 0, none⟩ = some v2) (h : R (.returned (.tuple #[v1, v2])) w) : N [] n (bodyPostM Fence.wide 0 P fn R .ret) E w := fun a ha => by
  show LeavesInM Fence.wide 0 P fn a.tmps R a.defers .returning w
  rw [ha.1]
  exact ⟨_, run_results_c2 hr (ha.2.2 _ _ ht) (ha.2.2 _ _ hu) h1 h2 c1 c2, h⟩
theorem N.retMC2 {fn : Func} {R : Ending → World → Prop} {t u b1 b2 D : Nat} {tt tu : TypeId} {v1 v2 : Value} (hr : fn.results = #[.cell t tt, .cell u tu]) (ht : getE E t = some (.pointer (some ⟨b1, 0, none⟩))) (hu : getE E u = some (.pointer (some ⟨b2, 0, none⟩)))
    (h1 : aggB P tt = some false) (h2 : aggB P tu = some false) (c1 : w.cell? ⟨b1, 0, none⟩ = some v1) (c2 : w.cell? ⟨b2, 0, none⟩ = some v2) (hD : w.heap[D]? = some (.deferred (some [])))
    (h : R (.returned (.tuple #[v1, v2])) (w.putObj D (.deferred none))) : N [{ target := .collected D, args := #[] }] n (bodyPostM Fence.wide 0 P fn R .ret) E w := fun a ha => by
  show LeavesInM Fence.wide 0 P fn a.tmps R a.defers .returning w
  rw [ha.1]
  refine ⟨by simp, .inl ⟨_, _, rfl, run_takeDeferred hD, ?_⟩⟩
  have hne : ∀ {b : Nat} {v : Value}, w.cell? ⟨b, 0, none⟩ = some v → (w.putObj D (.deferred none)).cell? ⟨b, 0, none⟩ = some v := by
    intro b v hb
    have hbD : b ≠ D := by intro e; subst e; simp [World.cell?, hD] at hb
    rw [← hb]; exact World.cell?_of_block (World.putObj_heap_other hbD)
  exact ⟨_, run_results_c2 hr (ha.2.2 _ _ ht) (ha.2.2 _ _ hu) h1 h2 (hne c1) (hne c2), h⟩

/-- A round: the call of a loop's yield. -/
theorem yieldC {ops : Array Oper} {l : List Oper} {d lp : Nat} {f x : Operand} {tys : Array TypeId} {ty : TypeId} {pos : String} {af : Array Edge} {v : Value} {R : Ending → World → Prop} (hf : opd E f = some (.func (.yield lp) #[] #[])) (hx : opd E x = some v) (hd : Nat.blt d n = true)
    (hy : YieldAt Fence.wide 0 P lp #[v] w R) (k : ∀ e w', R e w' → ∃ u, e = .returned u ∧ L Fence.wide 0 P ds n ops l Q ((d, u) :: E) w') : L Fence.wide 0 P ds n ops (⟨some d, .call ⟨.value f, #[x], tys⟩, ty, pos, af, none⟩ :: l) Q E w := fun a ha =>
  wpListIn_plain rfl fun K hK => by
    obtain ⟨fn, tmps, assign, body, hrun, hr⟩ := hy
    have hrun' : (execOp a.eval ⟨some d, .call ⟨.value f, #[x], tys⟩, ty, pos, af, none⟩).run P w = .ok (.round lp fn tmps assign body) w := by
      simp [execOp, resolve, opd_eval ha hf, opd_eval ha hx, Deferred.ofValue, invoke, hrun]
    refine ⟨about_any _ _ _, ?_⟩
    rw [semAt_value hrun' (by simp), hrun']
    refine ⟨(fun h => by cases h), hr.mono fun e w' hR => ?_⟩
    obtain ⟨v, rfl, hk⟩ := k e w' hR
    exact hK _ _ (hk _ (ha.put hd))
theorem yieldC0 {ops : Array Oper} {l : List Oper} {lp : Nat} {f x : Operand} {tys : Array TypeId} {ty : TypeId} {pos : String} {af : Array Edge} {v : Value} {R : Ending → World → Prop} (hf : opd E f = some (.func (.yield lp) #[] #[])) (hx : opd E x = some v)
    (hy : YieldAt Fence.wide 0 P lp #[v] w R) (k : ∀ e w', R e w' → ∃ u, e = .returned u ∧ L Fence.wide 0 P ds n ops l Q E w') : L Fence.wide 0 P ds n ops (⟨none, .call ⟨.value f, #[x], tys⟩, ty, pos, af, none⟩ :: l) Q E w := fun a ha =>
  wpListIn_plain rfl fun K hK => by
    obtain ⟨fn, tmps, assign, body, hrun, hr⟩ := hy
    have hrun' : (execOp a.eval ⟨none, .call ⟨.value f, #[x], tys⟩, ty, pos, af, none⟩).run P w = .ok (.round lp fn tmps assign body) w := by
      simp [execOp, resolve, opd_eval ha hf, opd_eval ha hx, Deferred.ofValue, invoke, hrun]
    refine ⟨about_any _ _ _, ?_⟩
    rw [semAt_value hrun' (by simp), hrun']
    refine ⟨(fun h => by cases h), hr.mono fun e w' hR => ?_⟩
    obtain ⟨v, rfl, hk⟩ := k e w' hR
    exact hK _ _ (hk _ ha)
end Go.Proofs.YtmdpmpdlkaogdaaGreatDoor.Vc

namespace Go.Proofs.YtmdpmpdlkaogdaaGreatDoor
open Go Go.RowKit Vc

theorem ok_HasPrefix : FnOk P 62 := ⟨_, Tryz.func62, by kernel_rfl, by kernel_rfl⟩
theorem ok_LastIndexByte : FnOk P 121 := ⟨_, Tryz.func121, by kernel_rfl, by kernel_rfl⟩
theorem ok_Index : FnOk P 154 := ⟨_, Tryz.func154, by kernel_rfl, by kernel_rfl⟩
theorem ok_Join_ : FnOk P 119 := ⟨_, Tryz.func119, by kernel_rfl, by kernel_rfl⟩
theorem ok_splitSeq : FnOk P 144 := ⟨_, Tryz.func144, by kernel_rfl, by kernel_rfl⟩
theorem ok_SplitSeq : FnOk P 127 := ⟨_, Tryz.func127, by kernel_rfl, by kernel_rfl⟩
theorem ok_Parent : FnOk P 103 := ⟨_, Tryz.func103, by kernel_rfl, by kernel_rfl⟩
theorem ok_Within : FnOk P 101 := ⟨_, Tryz.func101, by kernel_rfl, by kernel_rfl⟩

theorem c_HasPrefix (s p : Sp.Bytes) (w : World) : Calls P 62 #[.string (S s), .string (S p)] w fun e w' => e = .returned (.bool (p.isPrefixOf s)) ∧ w = w' :=
  (Tryz.strings_HasPrefix (S s) (S p) w).mono fun _ _ ⟨h1, h2⟩ => ⟨by rw [h1]; rfl, h2.symm⟩

theorem lastSlash_spec (s : Sp.Bytes) : (Sp.lastSlash s = -1 ∧ ∀ j (h : j < s.length), s[j] ≠ 47) ∨ ∃ i : Nat, Sp.lastSlash s = i ∧ (∃ h : i < s.length, s[i] = 47) ∧ ∀ j (h : j < s.length), i < j → s[j] ≠ 47 := by
  induction s with
  | nil => exact .inl ⟨rfl, fun j h => absurd h (Nat.not_lt_zero _)⟩
  | cons c s ih =>
    rcases ih with ⟨h1, h2⟩ | ⟨i, h1, ⟨h2, h3⟩, h4⟩
    · by_cases hc : c = 47
      · refine .inr ⟨0, by simp [Sp.lastSlash, h1, hc], ⟨by simp, by simpa using hc⟩, ?_⟩
        intro j hj hlt
        obtain ⟨j, rfl⟩ : ∃ k, j = k + 1 := ⟨j - 1, by omega⟩
        simpa using h2 j (by simpa using hj)
      · refine .inl ⟨by simp [Sp.lastSlash, h1, hc], ?_⟩
        intro j hj
        cases j with
        | zero => simpa using hc
        | succ j => simpa using h2 j (by simpa using hj)
    · refine .inr ⟨i + 1, by simp [Sp.lastSlash, h1], ⟨by simpa using h2, by simpa using h3⟩, ?_⟩
      intro j hj hlt
      obtain ⟨j, rfl⟩ : ∃ k, j = k + 1 := ⟨j - 1, by omega⟩
      simpa using h4 j (by simpa using hj) (by omega)
theorem lastIndex_eq (s : Sp.Bytes) : Lib.lastIndexByte (S s) 47 = Sp.lastSlash s := by
  have hb : ∀ j (h : j < s.length), ((S s).data[j]!).toNat = s[j].toNat := by intro j h; simp [S, h]
  have hn : ∀ j (h : j < s.length), s[j] = 47 ↔ (((S s).data[j]!).toNat : Int) = 47 := by
    intro j h
    rw [hb j h]
    constructor
    · intro e; rw [e]; rfl
    · intro e; apply UInt8.toNat_inj.1; simp; omega
  unfold Lib.lastIndexByte
  rw [S_size]
  rcases Lib.lastIdx_spec (S s) 47 s.length with ⟨h1, h2⟩ | ⟨i, hi, h1, h2, h3⟩
  · rcases lastSlash_spec s with ⟨g1, g2⟩ | ⟨k, g1, ⟨g2, g3⟩, g4⟩
    · rw [h1, g1]
    · exact absurd ((hn k g2).1 g3) (h2 k g2)
  · rcases lastSlash_spec s with ⟨g1, g2⟩ | ⟨k, g1, ⟨g2, g3⟩, g4⟩
    · exact absurd ((hn i hi).2 h2) (g2 i hi)
    · rw [h1, g1]
      rcases Nat.lt_trichotomy i k with h | h | h
      · exact absurd ((hn k g2).1 g3) (h3 k h g2)
      · rw [h]
      · exact absurd ((hn i hi).2 h2) (g4 i hi h)
theorem c_Last (s : Sp.Bytes) (hs : s.length ≤ 1000000000000) (w : World) : Calls P 121 #[.string (S s), .int .u8 47] w fun e w' => e = .returned (.int .i64 (Sp.lastSlash s)) ∧ w = w' :=
  (Tryz.strings_LastIndexByte (S s) 47 (by simp; omega) w).mono fun _ _ ⟨h1, h2⟩ => ⟨by rw [h1, lastIndex_eq], h2.symm⟩
theorem lastSlash_bd (s : Sp.Bytes) : -1 ≤ Sp.lastSlash s ∧ Sp.lastSlash s < s.length := by
  rcases lastSlash_spec s with ⟨g1, g2⟩ | ⟨k, g1, ⟨g2, g3⟩, g4⟩ <;> omega

theorem c_Parent (s : Sp.Bytes) (hs : s.length ≤ 1000000000000) (w : World) : Calls P 103 #[.string (S s)] w fun e w' => e = .returned (.string (S (Sp.parent s))) ∧ w = w' := by
  have hb := lastSlash_bd s
  refine enter (n := 8) Tryz.func103 rfl rfl rfl ?_
  refine W.seq ?_
  refine W.reg <| asg rfl rfl <| L.nil ?_
  refine N.th ?_
  refine W.seq ?_
  refine W.reg <| mv rfl rfl <| mv rfl rfl <| call (vs := [_, _]) rfl rfl ok_LastIndexByte (c_Last s hs _) ?_
  rintro e w' ⟨rfl, rfl⟩
  refine ⟨_, rfl, ?_⟩
  refine maxI rfl rfl rfl <| slSh rfl rfl u_str rfl (by omega) (by omega) <| asg rfl rfl <| L.nil ?_
  refine N.th ?_
  refine W.ret ?_
  exact N.ret1 rfl rfl ⟨rfl, rfl⟩

theorem within_eq (p d : Sp.Bytes) (h1 : d ≠ []) (h2 : p ≠ d) : Sp.within p d = (d ++ [47]).isPrefixOf p := by simp [Sp.within, h1, h2]
theorem c_Within (p d : Sp.Bytes) (hd : d.length ≤ 1000000000000) (w : World) : Calls P 101 #[.string (S p), .string (S d)] w fun e w' => e = .returned (.bool (Sp.within p d)) ∧ w = w' := by
  refine enter (n := 18) Tryz.func101 rfl rfl rfl ?_
  refine W.seq ?_
  refine W.reg <| asg rfl rfl <| L.nil ?_
  refine N.th ?_
  refine W.seq ?_
  by_cases h1 : d = []
  · refine W.reg <| mv rfl rfl <| eqlS (a := d) (b := []) rfl rfl rfl <| bt (by simp [h1]) <| mv rfl rfl <| L.off rfl rfl rfl rfl rfl <| L.off rfl rfl rfl rfl rfl <| L.off rfl rfl rfl rfl rfl <| pickT rfl rfl rfl <| mv rfl rfl <| L.off rfl rfl rfl rfl rfl <| L.off rfl rfl rfl rfl rfl <| L.off rfl rfl rfl rfl rfl <| L.off rfl rfl rfl rfl rfl <| pickT rfl rfl rfl <| asg rfl rfl <| L.nil ?_
    refine N.th ?_
    refine W.ret ?_
    exact N.ret1 rfl rfl ⟨by simp [Sp.within, h1], rfl⟩
  by_cases h2 : p = d
  · refine W.reg <| mv rfl rfl <| eqlS (a := d) (b := []) rfl rfl rfl <| bf (by simp [h1]) <| mv rfl rfl <| L.on rfl rfl rfl <| mv rfl rfl <| L.on rfl rfl rfl <| mv rfl rfl <| L.on rfl rfl rfl <| eqlS (a := p) (b := d) rfl rfl rfl <| bt (by simp [h2]) <| pickF rfl rfl rfl <| mv rfl rfl <| L.off rfl rfl rfl rfl rfl <| L.off rfl rfl rfl rfl rfl <| L.off rfl rfl rfl rfl rfl <| L.off rfl rfl rfl rfl rfl <| pickT rfl rfl rfl <| asg rfl rfl <| L.nil ?_
    refine N.th ?_
    refine W.ret ?_
    exact N.ret1 rfl rfl ⟨by simp [Sp.within, h2], rfl⟩
  refine W.reg <| mv rfl rfl <| eqlS (a := d) (b := []) rfl rfl rfl <| bf (by simp [h1]) <| mv rfl rfl <| L.on rfl rfl rfl <| mv rfl rfl <| L.on rfl rfl rfl <| mv rfl rfl <| L.on rfl rfl rfl <| eqlS (a := p) (b := d) rfl rfl rfl <| bf (by simp [h2]) <| pickF rfl rfl rfl <| mv rfl rfl <| L.on rfl rfl rfl <| mv rfl rfl <| L.on rfl rfl rfl <| mv rfl rfl <| L.on rfl rfl rfl <| addS (a := d) (b := [47]) rfl rfl rfl (by simp; omega) <| L.on rfl rfl rfl <| call (vs := [_, _]) rfl rfl ok_HasPrefix (c_HasPrefix p (d ++ [47]) _) ?_
  rintro e w' ⟨rfl, rfl⟩
  refine ⟨_, rfl, ?_⟩
  refine pickF rfl rfl rfl <| asg rfl rfl <| L.nil ?_
  refine N.th ?_
  refine W.ret ?_
  exact N.ret1 rfl rfl ⟨by rw [within_eq p d h1 h2], rfl⟩
end Go.Proofs.YtmdpmpdlkaogdaaGreatDoor

namespace Go.Proofs.YtmdpmpdlkaogdaaGreatDoor
open Go Go.RowKit Vc

theorem index_spec (l : Sp.Bytes) : (Lib.indexByte l 47 = -1 ∧ Sp.split l = [l]) ∨ ∃ i : Nat, Lib.indexByte l 47 = i ∧ i < l.length ∧ Sp.split l = l.take i :: Sp.split (l.drop (i + 1)) := by
  induction l with
  | nil => exact .inl ⟨rfl, rfl⟩
  | cons c l ih =>
    by_cases hc : c = 47
    · subst hc
      exact .inr ⟨0, by simp [Lib.indexByte], by simp, by simp [Sp.split]⟩
    · have hb : (c == 47) = false := by simpa using hc
      rcases ih with ⟨h1, h2⟩ | ⟨i, h1, h2, h3⟩
      · exact .inl ⟨by simp [Lib.indexByte, hb, h1], by simp [Sp.split, hc, h2]⟩
      · refine .inr ⟨i + 1, ?_, by simpa using h2, by simp [Sp.split, hc, h3]⟩
        simp [Lib.indexByte, hb, h1]

theorem c_Index (s : Sp.Bytes) (w : World) : Calls P 154 #[.string (S s), .string (S [47])] w fun e w' => e = .returned (.int .i64 (Lib.indexByte s 47)) ∧ w = w' :=
  (Tryz.strings_Index_one (S s) 47 w).mono fun _ _ ⟨h1, h2⟩ => ⟨h1, h2.symm⟩

/-- The three variables that the iterator has caught: what is left, the slash, 0. -/
structure SplitBoxes (b : Nat) (s : Sp.Bytes) (w : World) : Prop where
  s : w.heap[b]? = some (.cells #[.string (S s)] 9)
  sep : w.heap[b + 1]? = some (.cells #[.string (S [47])] 9)
  save : w.heap[b + 2]? = some (.cells #[.int .i64 0] 3)

def splitFn (b : Nat) : Value := .func (.func 152) #[] #[.pointer (some ⟨b + 1, 0, none⟩), .pointer (some ⟨b, 0, none⟩), .pointer (some ⟨b + 2, 0, none⟩)]

theorem c_splitSeq (s : Sp.Bytes) (w : World) : Calls P 144 #[.string (S s), .string (S [47]), .int .i64 0] w fun e w' => e = .returned (splitFn w.heap.size) ∧ SplitBoxes w.heap.size s w' ∧ Ext none_ w w' ∧ w'.heap.size = w.heap.size + 3 := by
  refine enter (n := 8) Tryz.func144 rfl rfl rfl ?_
  refine W.seq ?_
  refine W.reg <| box rfl rfl <| box rfl rfl <| box rfl rfl <| asg rfl rfl <| L.nil ?_
  refine N.th ?_
  refine W.seq ?_
  refine W.reg <| mkf3 rfl rfl rfl rfl <| asg rfl rfl <| L.nil ?_
  refine N.th ?_
  refine W.ret ?_
  refine N.ret1 rfl rfl ⟨?_, ⟨?_, ?_, ?_⟩, ?_, ?_⟩
  · simp [splitFn]
  · exact (heap_alloc _ _ (by simp; omega)).trans ((heap_alloc _ _ (by simp)).trans (heap_new w _))
  · have h := heap_new (w.alloc (.cells (Value.string (S s)).cells 9)) (.cells (Value.string (S [47])).cells 9)
    rw [World.size_alloc] at h
    exact (heap_alloc _ _ (by simp)).trans h
  · have h := heap_new ((w.alloc (.cells (Value.string (S s)).cells 9)).alloc (.cells (Value.string (S [47])).cells 9)) (.cells (Value.int .i64 0).cells 3)
    rw [World.size_alloc, World.size_alloc] at h
    exact h
  · exact ((Ext.alloc _ _ _).trans (Ext.alloc _ _ _)).trans (Ext.alloc _ _ _)
  · simp

theorem c_SplitSeq (s : Sp.Bytes) (w : World) : Calls P 127 #[.string (S s), .string (S [47])] w fun e w' => e = .returned (splitFn w.heap.size) ∧ SplitBoxes w.heap.size s w' ∧ Ext none_ w w' ∧ w'.heap.size = w.heap.size + 3 := by
  refine enter (n := 8) Tryz.func127 rfl rfl rfl ?_
  refine W.seq ?_
  refine W.reg <| asg rfl rfl <| L.nil ?_
  refine N.th ?_
  refine W.seq ?_
  refine W.reg <| mv rfl rfl <| mv rfl rfl <| call (vs := [_, _, _]) rfl rfl ok_splitSeq (c_splitSeq s _) ?_
  rintro e w' ⟨rfl, h⟩
  refine ⟨_, rfl, ?_⟩
  refine asg rfl rfl <| L.nil ?_
  refine N.th ?_
  refine W.ret ?_
  exact N.ret1 rfl rfl ⟨rfl, h⟩

theorem split_seq (b : Nat) (s : Sp.Bytes) (hs : s.length ≤ 1000000000000) : SeqJ P 152 #[.pointer (some ⟨b + 1, 0, none⟩), .pointer (some ⟨b, 0, none⟩), .pointer (some ⟨b + 2, 0, none⟩)] (fun x => .string (S x)) (SplitBoxes b s)
    (fun A B => ∀ k, b ≤ k → k < b + 3 → B.heap[k]? = A.heap[k]?) (fun A B => Ext (fun k => k = b) A B) (Sp.split s) := by
  intro l J Jx wI hpre hJ hJx hy h0
  refine callsIn_wide.2 ?_
  refine enter (l := [.func (.yield l) #[] #[], .pointer (some ⟨b + 1, 0, none⟩), .pointer (some ⟨b, 0, none⟩), .pointer (some ⟨b + 2, 0, none⟩)]) (n := 52) Tryz.func152 rfl rfl rfl ?_
  refine W.seq ?_
  refine W.seq ?_
  refine W.reg <| ld1 rfl ag_str rfl (cell_of hpre.sep rfl) <| lenS rfl u_str rfl <| eqlI rfl rfl rfl <| bf (by decide) <| L.nil ?_
  refine N.th ?_
  refine W.condF rfl ?_
  refine W.skip ?_
  refine N.th ?_
  refine W.seq ?_
  refine W.block ?_
  refine W.loop (X := List Sp.Bytes × Sp.Bytes) (fun x => [(0, .func (.yield l) #[] #[]), (1, .pointer (some ⟨b + 1, 0, none⟩)), (2, .pointer (some ⟨b, 0, none⟩)), (3, .pointer (some ⟨b + 2, 0, none⟩))])
    (fun x w => SplitBoxes b x.2 w ∧ J x.1 w ∧ Sp.split s = x.1 ++ Sp.split x.2 ∧ x.2.length ≤ 1000000000000) (fun x => x.2.length) ([], s) ⟨rfl, rfl, rfl, rfl, trivial⟩ ⟨hpre, h0, rfl, hs⟩ ?_
  rintro ⟨pre, cur⟩ w ⟨hb, hj, hsp, hlen⟩
  dsimp only at hb hj hsp hlen ⊢
  have hs1 : w.cell? ⟨b, 0, none⟩ = some (.string (S cur)) := cell_of hb.s rfl
  have hs2 : w.cell? ⟨b + 1, 0, none⟩ = some (.string (S [47])) := cell_of hb.sep rfl
  have hs3 : w.cell? ⟨b + 2, 0, none⟩ = some (.int .i64 0) := cell_of hb.save rfl
  refine W.block ?_
  refine W.seq ?_
  refine W.reg <| ld1 rfl ag_str rfl hs1 <| ld1 rfl ag_str rfl hs2 <| call (vs := [_, _]) rfl rfl ok_Index (c_Index cur _) ?_
  rintro e w' ⟨rfl, rfl⟩
  refine ⟨_, rfl, ?_⟩
  refine asg rfl rfl <| L.nil ?_
  refine N.th ?_
  refine W.seq ?_
  refine W.seq ?_
  rcases index_spec cur with ⟨hi, hc⟩ | ⟨i, hi, hlt, hc⟩
  · -- no slash is left
    refine W.reg <| mv rfl rfl <| lssI rfl rfl rfl <| bt (by rw [hi]; decide) <| L.nil ?_
    refine N.th ?_
    refine W.condT rfl ?_
    refine W.exit ?_
    refine N.xth <| N.xne rfl <| N.xth <| N.xeq <| N.th ?_
    refine W.reg ?_
    refine mv rfl rfl <| ld1 rfl ag_str rfl hs1 <| yieldC rfl rfl rfl (hy pre cur [] w (by rw [hsp, hc]) hj) ?_
    rintro e w' (⟨rfl, hj', -⟩ | ⟨rfl, hj', -⟩)
    · refine ⟨_, rfl, L.nil ?_⟩
      exact N.end0 rfl ⟨⟨_, rfl⟩, .inl (by rw [hsp, hc]; exact hj')⟩
    · refine ⟨_, rfl, L.nil ?_⟩
      exact N.end0 rfl ⟨⟨_, rfl⟩, .inr ⟨pre, cur, [], by rw [hsp, hc], hj'⟩⟩
  · refine W.reg <| mv rfl rfl <| lssI rfl rfl rfl <| bf (by rw [hi]; simp) <| L.nil ?_
    refine N.th ?_
    refine W.condF rfl ?_
    refine W.skip ?_
    refine N.th ?_
    refine W.seq ?_
    refine W.reg <| ld1 rfl ag_str rfl hs1 <| mv rfl rfl <| ld1 rfl ag_int rfl hs3 <| addI rfl rfl rfl (w64 (by omega) (by omega)) <| slSh rfl rfl u_str rfl (by omega) (by omega) <| asg rfl rfl <| L.nil ?_
    refine N.th ?_
    have htk : List.take (Lib.indexByte cur 47 + 0).toNat cur = cur.take i := by rw [hi]; simp
    rw [htk]
    refine W.seq ?_
    refine W.seq ?_
    refine W.reg ?_
    refine mv rfl rfl <| mv rfl rfl <| yieldC rfl rfl rfl (hy pre (cur.take i) (Sp.split (cur.drop (i + 1))) w (by rw [hsp, hc]) hj) ?_
    rintro e w' (⟨rfl, hj', hk⟩ | ⟨rfl, hj', -⟩)
    · refine ⟨_, rfl, ?_⟩
      refine notB rfl rfl <| L.nil ?_
      refine N.th ?_
      refine W.condF rfl ?_
      refine W.skip ?_
      refine N.th ?_
      have hb' : SplitBoxes b cur w' := ⟨(hk b (by omega) (by omega)).trans hb.s, (hk _ (by omega) (by omega)).trans hb.sep, (hk _ (by omega) (by omega)).trans hb.save⟩
      have hs1' : w'.cell? ⟨b, 0, none⟩ = some (.string (S cur)) := cell_of hb'.s rfl
      have hs2' : w'.cell? ⟨b + 1, 0, none⟩ = some (.string (S [47])) := cell_of hb'.sep rfl
      refine W.reg <| ld1 rfl ag_str rfl hs1' <| mv rfl rfl <| ld1 rfl ag_str rfl hs2' <| lenS rfl u_str rfl <| addI rfl rfl rfl (w64 (by simp; omega) (by simp; omega)) <| slSl rfl rfl u_str rfl (by simp; omega) (by simp; omega) <| st1 rfl rfl sz_str rfl hb'.s rfl <| L.nil ?_
      refine N.inb ?_
      have hdr : List.drop (Lib.indexByte cur 47 + (([47] : List UInt8).length : Int)).toNat cur = cur.drop (i + 1) := by rw [hi]; simp
      rw [hdr]
      refine N.th (N.round (pre ++ [cur.take i], cur.drop (i + 1)) ⟨rfl, rfl, rfl, rfl, trivial⟩ ⟨⟨?_, ?_, ?_⟩, ?_, ?_, ?_⟩ ?_)
      · rw [setCell_heap hb'.s]; rfl
      · rw [setCell_other (by simp)]; exact hb'.sep
      · rw [setCell_other (by simp)]; exact hb'.save
      · exact hJ _ _ _ hj' (Ext.setCell (S := fun k => k = b) _ (fun _ => rfl) _)
      · dsimp only; rw [hsp, hc, List.append_assoc]; rfl
      · simp; omega
      · simp; omega
    · refine ⟨_, rfl, ?_⟩
      refine notB rfl rfl <| L.nil ?_
      refine N.th ?_
      refine W.condT rfl ?_
      refine W.ret ?_
      refine N.rth <| N.rinb <| N.rth <| N.rinb <| N.rth ?_
      exact N.ret0 rfl ⟨⟨_, rfl⟩, .inr ⟨pre, cur.take i, Sp.split (cur.drop (i + 1)), by rw [hsp, hc], hj'⟩⟩
end Go.Proofs.YtmdpmpdlkaogdaaGreatDoor
