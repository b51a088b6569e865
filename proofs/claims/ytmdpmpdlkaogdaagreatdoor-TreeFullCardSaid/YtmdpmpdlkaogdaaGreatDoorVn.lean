/- The calculus' lemmas on slices that grow, bytes and strings, maps with strings for keys. Nothing here speaks of the program. -/
import Derived.Test.YtmdpmpdlkaogdaaGreatDoorVm
import Derived.Lib.AppendZerosOnto
namespace Go.Proofs.YtmdpmpdlkaogdaaGreatDoor.Vc
open Go Go.RowKit

/-- Slices of type t have elements of type e: their zero, their cells, their bytes. -/
structure ElT (P : Program) (t e : TypeId) (z : Value) (sz bytes : Nat) : Prop where
  u : P.underlying t = some (.slice e)
  i : (P.info? e).map (fun i => (i.zero, i.size, i.bytes)) = some (some z, sz, bytes)
  c : z.cells.size = sz
  p : 0 < sz

theorem ElT.info {P : Program} {t e : TypeId} {z : Value} {sz bytes : Nat} (h : ElT P t e z sz bytes) : ∃ i, P.info? e = some i ∧ i.zero = some z ∧ i.size = sz ∧ i.bytes = bytes := by
  have hi := h.i
  cases hq : P.info? e with
  | none => simp [hq] at hi
  | some i => simp [hq] at hi; exact ⟨i, rfl, hi.1, hi.2.1, hi.2.2⟩
theorem ElT.szB {P : Program} {t e : TypeId} {z : Value} {sz bytes : Nat} (h : ElT P t e z sz bytes) : Vc.szB P e = some sz := by
  obtain ⟨i, h1, _, h2, _⟩ := h.info
  simp [Vc.szB, h1, h2]

/-- A slice that may be read: its cells. -/
def Row (w : World) (v : Value) (e : TypeId) (sz n : Nat) (xs : List Value) : Prop :=
  xs.length = n * sz ∧ ∃ a cap, v = .slice a n cap ∧ n ≤ cap ∧ cap ≤ maxLen ∧ (a = none → cap = 0) ∧
    ∀ ad, a = some ad → ∃ cur fr, ad.spot = none ∧ w.heap[ad.block]? = some (.cells cur e fr) ∧ ad.off + cap * sz ≤ cur.size ∧ (cur.toList.drop ad.off).take (n * sz) = xs

theorem Row.nil (w : World) (e : TypeId) (sz : Nat) : Row w (.slice none 0 0) e sz 0 [] := ⟨by simp, none, 0, rfl, Nat.le_refl _, by simp [maxLen], fun _ => rfl, fun _ h => by cases h⟩
theorem Row.own {w : World} {B : Nat} {v : Value} {e : TypeId} {sz n : Nat} {xs : List Value} (h : w.ownsRow B e sz v n xs) : Row w v e sz n xs := by
  obtain ⟨h1, ⟨rfl, rfl⟩ | ⟨g, cap, cur, rfl, hb, hg, hn, hm, hc, ht⟩⟩ := h
  · obtain rfl : xs = [] := List.eq_nil_of_length_eq_zero (by simpa using h1)
    exact Row.nil w e sz
  · exact ⟨h1, some ⟨g, 0, none⟩, cap, rfl, hn, hm, (fun h => by cases h), fun ad h => by cases h; exact ⟨cur, _, rfl, hg, by simp [hc], by simpa using ht⟩⟩

theorem Row.cells {w : World} {v : Value} {e : TypeId} {sz n : Nat} {xs : List Value} (h : Row w v e sz n xs) {b o m c : Nat} (hv : v = .slice (some ⟨b, o, none⟩) m c) : ∀ j u, xs[j]? = some u → w.cell? ⟨b, o + j, none⟩ = some u := by
  obtain ⟨h1, a, cap, rfl, hn, hm, ha, hc⟩ := h
  cases hv
  obtain ⟨cur, fr, _, hb, hle, ht⟩ := hc _ rfl
  intro j u hj
  refine cell_of hb ?_
  rw [← ht, List.getElem?_take] at hj
  split at hj
  · rw [List.getElem?_drop] at hj; simpa using hj
  · cases hj
/-- The slice's form: nil and empty, or somewhere. -/
theorem Row.form {w : World} {v : Value} {e : TypeId} {sz n : Nat} {xs : List Value} (h : Row w v e sz n xs) : (v = .slice none 0 0 ∧ n = 0 ∧ xs = []) ∨ ∃ b o cap, v = .slice (some ⟨b, o, none⟩) n cap ∧ n ≤ cap ∧ cap ≤ maxLen ∧ b < w.heap.size ∧ ∀ j u, xs[j]? = some u → w.cell? ⟨b, o + j, none⟩ = some u := by
  have hh := h
  obtain ⟨h1, a, cap, rfl, hn, hm, ha, hc⟩ := h
  cases a with
  | none =>
    obtain rfl := ha rfl
    obtain rfl : n = 0 := by omega
    exact .inl ⟨rfl, rfl, List.eq_nil_of_length_eq_zero (by simpa using h1)⟩
  | some ad =>
    obtain ⟨cur, fr, hs, hb, hle, ht⟩ := hc _ rfl
    obtain ⟨b, o, s⟩ := ad
    obtain rfl : s = none := hs
    exact .inr ⟨b, o, cap, rfl, hn, hm, lt_of_obj hb, hh.cells rfl⟩
theorem Row.len {w : World} {a : Option Addr} {m c : Nat} {e : TypeId} {sz n : Nat} {xs : List Value} (h : Row w (.slice a m c) e sz n xs) : m = n := by
  obtain ⟨_, _, _, h, _⟩ := h; cases h; rfl
theorem Row.size {w : World} {v : Value} {e : TypeId} {sz n : Nat} {xs : List Value} (h : Row w v e sz n xs) : xs.length = n * sz := h.1
theorem Row.keep {w w' : World} {v : Value} {e : TypeId} {sz n : Nat} {xs : List Value} (h : Row w v e sz n xs) (hk : ∀ k, v.ownBlock = some k → w'.heap[k]? = w.heap[k]?) : Row w' v e sz n xs := by
  obtain ⟨h1, a, cap, rfl, hn, hm, ha, hc⟩ := h
  refine ⟨h1, a, cap, rfl, hn, hm, ha, fun ad hd => ?_⟩
  subst hd
  obtain ⟨cur, fr, hs, hb, hr⟩ := hc _ rfl
  exact ⟨cur, fr, hs, (hk _ rfl).trans hb, hr⟩
theorem Row.lt {w : World} {v : Value} {e : TypeId} {sz n : Nat} {xs : List Value} (h : Row w v e sz n xs) : ∀ k, v.ownBlock = some k → k < w.heap.size := by
  obtain ⟨h1, a, cap, rfl, hn, hm, ha, hc⟩ := h
  intro k hk
  cases a with
  | none => cases hk
  | some ad =>
    obtain ⟨cur, fr, hs, hb, hr⟩ := hc _ rfl
    cases hk
    exact lt_of_obj hb
theorem Row.ext {S : Nat → Prop} {w w' : World} {v : Value} {e : TypeId} {sz n : Nat} {xs : List Value} (h : Row w v e sz n xs) (hx : Ext S w w') (hS : ∀ k, v.ownBlock = some k → ¬ S k) : Row w' v e sz n xs :=
  h.keep fun k hk => hx.block k (h.lt k hk) (hS k hk)
theorem Row.ext0 {w w' : World} {v : Value} {e : TypeId} {sz n : Nat} {xs : List Value} (h : Row w v e sz n xs) (hx : Ext none_ w w') : Row w' v e sz n xs := h.ext hx fun _ _ => id
/-- A slice that came in and may be read: its cells, wherever they lie. -/
def RowA (w : World) (v : Value) (n : Nat) (xs : List Value) : Prop :=
  ∃ a cap, v = .slice a n cap ∧ n ≤ cap ∧ cap ≤ maxLen ∧ (a = none → cap = 0) ∧ ∀ (j : Nat) u, xs[j]? = some u → ∃ ad, a = some ad ∧ ad.block < w.heap.size ∧ w.cell? (ad.add j) = some u
theorem add_block (a : Addr) (k : Nat) : (a.add k).block = a.block := by unfold Addr.add; split <;> rfl
theorem Row.arg {w : World} {v : Value} {e : TypeId} {sz n : Nat} {xs : List Value} (h : Row w v e sz n xs) : RowA w v n xs := by
  rcases h.form with ⟨rfl, rfl, rfl⟩ | ⟨b, o, cap, rfl, h1, h2, h3, hc⟩
  · exact ⟨none, 0, rfl, Nat.le_refl _, by simp [maxLen], fun _ => rfl, fun j u h => by cases h⟩
  · exact ⟨_, cap, rfl, h1, h2, (fun h => by cases h), fun j u hj => ⟨_, rfl, h3, by rw [add_at]; exact hc j u hj⟩⟩
theorem RowA.keep {w w' : World} {v : Value} {n : Nat} {xs : List Value} (h : RowA w v n xs) (hs : w.heap.size ≤ w'.heap.size) (hk : ∀ (ad : Addr) (u : Value), u ∈ xs → ad.block < w.heap.size → w.cell? ad = some u → w'.heap[ad.block]? = w.heap[ad.block]?) : RowA w' v n xs := by
  obtain ⟨a, cap, rfl, h1, h2, h3, hc⟩ := h
  refine ⟨a, cap, rfl, h1, h2, h3, fun j u hj => ?_⟩
  obtain ⟨ad, rfl, hb, hcell⟩ := hc j u hj
  refine ⟨ad, rfl, Nat.lt_of_lt_of_le hb hs, ?_⟩
  rw [← hcell]
  exact World.cell?_of_block (hk _ u (List.mem_of_getElem? hj) (by rw [add_block]; exact hb) hcell)
theorem RowA.ext0 {w w' : World} {v : Value} {n : Nat} {xs : List Value} (h : RowA w v n xs) (hx : Ext none_ w w') : RowA w' v n xs := h.keep hx.size fun _ _ _ hb _ => hx.block _ hb id
theorem RowA.form {w : World} {v : Value} {n : Nat} {xs : List Value} (h : RowA w v n xs) : (v = .slice none 0 0 ∧ n = 0) ∨ ∃ ad cap, v = .slice (some ad) n cap ∧ n ≤ cap ∧ cap ≤ maxLen ∧ ∀ (j : Nat) u, xs[j]? = some u → ad.block < w.heap.size ∧ w.cell? (ad.add j) = some u := by
  obtain ⟨a, cap, rfl, h1, h2, h3, hc⟩ := h
  cases a with
  | none => obtain rfl := h3 rfl; obtain rfl : n = 0 := by omega
            exact .inl ⟨rfl, rfl⟩
  | some ad => exact .inr ⟨ad, cap, rfl, h1, h2, fun j u hj => by obtain ⟨ad', e, hb⟩ := hc j u hj; cases e; exact hb⟩
/-- One that has a cell lies at a plain place. -/
theorem RowA.plain {w : World} {v : Value} {n : Nat} {xs : List Value} (h : RowA w v n xs) (h0 : xs ≠ []) : ∃ b o cap, v = .slice (some ⟨b, o, none⟩) n cap ∧ n ≤ cap ∧ cap ≤ maxLen ∧ b < w.heap.size ∧ ∀ (j : Nat) u, xs[j]? = some u → w.cell? ⟨b, o + j, none⟩ = some u := by
  obtain ⟨a, cap, rfl, h1, h2, h3, hc⟩ := h
  obtain ⟨u, hu⟩ : ∃ u, xs[0]? = some u := by
    cases xs with
    | nil => exact absurd rfl h0
    | cons u xs => exact ⟨u, rfl⟩
  obtain ⟨ad, rfl, hb, hcell⟩ := hc 0 u hu
  have hs : ad.spot = none := by
    have : ad.add 0 = ad := by simp [Addr.add]
    rw [this] at hcell
    unfold World.cell? at hcell
    split at hcell
    · split at hcell
      · cases hcell
      · rename_i hh
        cases hsp : ad.spot with
        | none => rfl
        | some x => rw [hsp] at hh; exact absurd rfl hh
    · cases hcell
  obtain ⟨b, o, s⟩ := ad
  obtain rfl : s = none := hs
  refine ⟨b, o, cap, rfl, h1, h2, hb, fun j u hj => ?_⟩
  obtain ⟨ad', e, -, hcj⟩ := hc j u hj
  cases e
  rwa [add_at] at hcj
/-- Cut shorter. -/
theorem RowA.take {w : World} {a : Option Addr} {n cap m k : Nat} {xs : List Value} (h : RowA w (.slice a n cap) n xs) (hm : m ≤ n) : RowA w (.slice a m cap) m (xs.take k) := by
  obtain ⟨a', cap', e, h1, h2, h3, hc⟩ := h
  cases e
  refine ⟨a, cap, rfl, by omega, h2, h3, fun j u hj => hc j u ?_⟩
  rw [List.getElem?_take] at hj
  split at hj
  · exact hj
  · cases hj

/-- The block that a row lies in has elements of its type. -/
theorem Row.kind {w : World} {v : Value} {e : TypeId} {sz n : Nat} {xs : List Value} (h : Row w v e sz n xs) : ∀ k, v.ownBlock = some k → ∃ cur fr, w.heap[k]? = some (.cells cur e fr) := by
  obtain ⟨h1, a, cap, rfl, hn, hm, ha, hc⟩ := h
  intro k hk
  cases a with
  | none => cases hk
  | some ad =>
    obtain ⟨cur, fr, hs, hb, hr⟩ := hc _ rfl
    cases hk
    exact ⟨cur, fr, hb⟩
theorem own_ext {S : Nat → Prop} {w w' : World} {B : Nat} {v : Value} {e : TypeId} {sz n : Nat} {xs : List Value} (h : w.ownsRow B e sz v n xs) (hx : Ext S w w') (hS : ∀ k, v.ownBlock = some k → ¬ S k) : w'.ownsRow B e sz v n xs := by
  obtain ⟨h1, h2 | ⟨g, cap, cur, rfl, hb, hg, hr⟩⟩ := h
  · exact ⟨h1, .inl h2⟩
  · exact ⟨h1, .inr ⟨g, cap, cur, rfl, hb, hx.obj hg (hS g rfl), hr⟩⟩

theorem own_cells {w : World} {B : Nat} {v : Value} {e : TypeId} {sz n : Nat} {xs : List Value} (h : w.ownsRow B e sz v n xs) : v.cells = #[v] ∧ v.oneCell' = true := by
  obtain ⟨h1, ⟨rfl, _⟩ | ⟨g, cap, cur, rfl, _⟩⟩ := h <;> exact ⟨rfl, rfl⟩
theorem own_slice {w : World} {B : Nat} {v : Value} {e : TypeId} {sz n : Nat} {xs : List Value} (h : w.ownsRow B e sz v n xs) : ∃ a cap, v = .slice a n cap ∧ n ≤ cap ∧ cap ≤ maxLen := by
  obtain ⟨h1, ⟨rfl, rfl⟩ | ⟨g, cap, cur, rfl, _, _, h2, h3, _⟩⟩ := h
  · exact ⟨_, _, rfl, Nat.le_refl _, by simp [maxLen]⟩
  · exact ⟨_, _, rfl, h2, h3⟩
/-- The same array, cut shorter. -/
theorem own_take {w : World} {B : Nat} {a : Option Addr} {e : TypeId} {sz n cap m : Nat} {xs : List Value} (h : w.ownsRow B e sz (.slice a n cap) n xs) (hm : m ≤ n) : w.ownsRow B e sz (.slice a m cap) m (xs.take (m * sz)) := by
  obtain ⟨h1, ⟨h2, h3⟩ | ⟨g, cap', cur, h2, hb, hg, hn, hx, hc, ht⟩⟩ := h
  · cases h2
    obtain rfl : m = 0 := by omega
    exact ⟨by simp, .inl ⟨rfl, rfl⟩⟩
  · cases h2
    have hle : m * sz ≤ n * sz := Nat.mul_le_mul_right _ hm
    refine ⟨by rw [List.length_take, h1]; omega, .inr ⟨g, cap, cur, rfl, hb, hg, by omega, hx, hc, ?_⟩⟩
    rw [← ht, List.take_take, Nat.min_eq_left hle]

theorem grow_fits {k cap bytes : Nat} (h : cap < k) (hb : k * bytes ≤ 140737488355328) : Builtin.nextslicecap k cap * bytes ≤ 281474976710656 := growslice_fits h hb

section ops
variable {st : Sty} [Wy st] {Fe : Fence} {mm : Nat} [Wd Fe] {P : Program} {ds : List Deferred} {n : Nat} {Q : Exit → Act → World → Prop} {E : Env} {w : World} {ops : Array Oper} {l : List Oper}
variable {d : Nat} {ty : TypeId} {pos : String} {af : Array Edge}

omit [Wd Fe] in
theorem bltinY {b : Builtin} {args : Array Operand} {tys : Array TypeId} {vs : List Value} {v : Value} {w' : World} (hargs : args.toList.map (opd E) = vs.map some) (hd : Nat.blt d n = true)
    (hr : ∀ cs, (builtin b tys ty cs vs.toArray).run P w = .ok (.value v) w') (k : LY st P ds n ops l Q ((d, v) :: E) w')
    (hy : ∀ ts x S, st = .held ts x S → rdB ts ⟨some d, .call ⟨.builtin b, args, tys⟩, ty, pos, af, none⟩ = false) (hk : st.keeps l w w') : LY st P ds n ops (⟨some d, .call ⟨.builtin b, args, tys⟩, ty, pos, af, none⟩ :: l) Q E w :=
  LY.val v w' hd (fun ac ha => by
    have he : args.map ac.eval = vs.toArray := evals ha hargs
    simp [execOp, resolve, he, invoke, hr]) k hy hk
theorem bltin {b : Builtin} {args : Array Operand} {tys : Array TypeId} {vs : List Value} {v : Value} {w' : World} (hargs : args.toList.map (opd E) = vs.map some) (hd : Nat.blt d n = true)
    (hr : ∀ cs, (builtin b tys ty cs vs.toArray).run P w = .ok (.value v) w') (k : L Fe mm P ds n ops l Q ((d, v) :: E) w') : L Fe mm P ds n ops (⟨some d, .call ⟨.builtin b, args, tys⟩, ty, pos, af, none⟩ :: l) Q E w :=
  bltinY hargs hd hr k (fun _ _ _ h => by cases h) trivial

/-- 'append' onto a slice of the call's own. -/
theorem appY {t e : TypeId} {z : Value} {sz bytes B m c : Nat} {s x : Operand} {v : Value} {ad : Addr} {nn : Nat} {xs news : List Value} (hs : opd E s = some v) (hx : opd E x = some (.slice (some ad) m c)) (hd : Nat.blt d n = true)
    (ht : ElT P t e z sz bytes) (hown : w.ownsRow B e sz v nn xs) (hl : news.length = m * sz) (hnews : ∀ j u, news[j]? = some u → w.cell? (ad.add j) = some u) (h1 : ∀ u ∈ news, u.oneCell' = true)
    (hb : (nn + m) * bytes ≤ 140737488355328) (hm : nn + m ≤ maxLen) (hB : B ≤ w.heap.size)
    (k : ∀ v' w', w'.ownsRow B e sz v' (nn + m) (xs ++ news) → Ext (fun k => v.ownBlock = some k) w w' → (v' = .slice none 0 0 ↔ v = .slice none 0 0 ∧ m = 0) → (v'.ownBlock = v.ownBlock ∨ v'.ownBlock = some w.heap.size) → st.keeps l w w' ∧ LY st P ds n ops l Q ((d, v') :: E) w') : LY st P ds n ops (⟨some d, .call ⟨.builtin .append, #[s, x], #[t, t]⟩, ty, pos, af, none⟩ :: l) Q E w := by
  obtain ⟨i, hi, hz, hsz, hby⟩ := ht.info
  obtain ⟨v', w', hr, ho, hg, hn, hat⟩ := run_append_own_at (P := P) w B t ty e i z sz bytes ht.u hi hz hsz hby ht.c ht.p v nn xs hown ad m c news hl hnews h1 hm hb hB
  obtain ⟨hk, k⟩ := k v' w' ho ((Ext.grown hg).mono fun _ _ h => h.symm) hn hat
  exact bltinY (vs := [v, .slice (some ad) m c]) (by simp [hs, hx]) hd (fun _ => by simp [builtin, hr]) k (fun _ _ _ _ => rfl) hk
theorem app {t e : TypeId} {z : Value} {sz bytes B m c : Nat} {s x : Operand} {v : Value} {ad : Addr} {nn : Nat} {xs news : List Value} (hs : opd E s = some v) (hx : opd E x = some (.slice (some ad) m c)) (hd : Nat.blt d n = true)
    (ht : ElT P t e z sz bytes) (hown : w.ownsRow B e sz v nn xs) (hl : news.length = m * sz) (hnews : ∀ j u, news[j]? = some u → w.cell? (ad.add j) = some u) (h1 : ∀ u ∈ news, u.oneCell' = true)
    (hb : (nn + m) * bytes ≤ 140737488355328) (hm : nn + m ≤ maxLen) (hB : B ≤ w.heap.size)
    (k : ∀ v' w', w'.ownsRow B e sz v' (nn + m) (xs ++ news) → Ext (fun k => v.ownBlock = some k) w w' → (v' = .slice none 0 0 ↔ v = .slice none 0 0 ∧ m = 0) → (v'.ownBlock = v.ownBlock ∨ v'.ownBlock = some w.heap.size) → L Fe mm P ds n ops l Q ((d, v') :: E) w') : L Fe mm P ds n ops (⟨some d, .call ⟨.builtin .append, #[s, x], #[t, t]⟩, ty, pos, af, none⟩ :: l) Q E w :=
  appY (st := .plain Fe mm) hs hx hd ht hown hl hnews h1 hb hm hB fun v' w' a b c d => ⟨trivial, k v' w' a b c d⟩

/-- 'append' of nothing. -/
theorem appN {t e : TypeId} {z : Value} {sz bytes c nn cap : Nat} {s x : Operand} {a : Option Addr} (hs : opd E s = some (.slice a nn cap)) (hx : opd E x = some (.slice none 0 c)) (hd : Nat.blt d n = true) (ht : ElT P t e z sz bytes) (hc : nn ≤ cap)
    (k : LY st P ds n ops l Q ((d, .slice a nn cap) :: E) w) (hS : st.keeps l w w := by first | trivial | exact .inr id) : LY st P ds n ops (⟨some d, .call ⟨.builtin .append, #[s, x], #[t, t]⟩, ty, pos, af, none⟩ :: l) Q E w := by
  obtain ⟨i, hi, hz, hsz, hby⟩ := ht.info
  exact bltinY (vs := [.slice a nn cap, .slice none 0 c]) (by simp [hs, hx]) hd (fun _ => by
    cases a <;> simp [builtin, Builtin.append_, run_underlying ht.u, sizeOf, typeInfo, program, Sem.run, hi, Builtin.lenOf, Builtin.firstCells, hc, storeCells]) k (fun _ _ _ _ => rfl) hS
end ops

theorem own_new {w : World} {B : Nat} {v : Value} {e : TypeId} {sz n : Nat} {xs : List Value} (h : w.ownsRow B e sz v n xs) : ∀ i, v.ownBlock = some i → B ≤ i := by
  intro i hi
  obtain ⟨_, ⟨rfl, _⟩ | ⟨g, c, cu, rfl, hb, _⟩⟩ := h
  · cases hi
  · have : g = i := by simpa [Value.ownBlock] using hi
    omega
/-- A step that turns an own row only. -/
theorem Ext.own {w w1 w2 : World} {S : Nat → Prop} {v : Value} {e : TypeId} {sz n : Nat} {xs : List Value} (h : Ext S w w1) (ho : w1.ownsRow w.heap.size e sz v n xs) (hx : Ext (fun k => v.ownBlock = some k) w1 w2) : Ext S w w2 :=
  h.trans' hx fun i hi hh => by have := own_new ho i hh; omega
theorem own_nil (w : World) (B : Nat) (e : TypeId) (sz : Nat) : w.ownsRow B e sz (.slice none 0 0) 0 [] := ⟨by simp, .inl ⟨rfl, rfl⟩⟩

/-- Bytes as values. -/
def encB (l : List UInt8) : List Value := l.map fun b => .int .u8 b.toNat
def encT (l : List (List UInt8)) : List Value := l.map fun b => .string (S b)
@[simp] theorem encB_length (l : List UInt8) : (encB l).length = l.length := by simp [encB]
@[simp] theorem encT_length (l : List (List UInt8)) : (encT l).length = l.length := by simp [encT]
theorem encB_one (l : List UInt8) : ∀ u ∈ encB l, u.oneCell' = true := by intro u hu; simp [encB] at hu; obtain ⟨b, _, rfl⟩ := hu; rfl
theorem encT_one (l : List (List UInt8)) : ∀ u ∈ encT l, u.oneCell' = true := by intro u hu; simp [encT] at hu; obtain ⟨b, _, rfl⟩ := hu; rfl
theorem encB_inj : ∀ {a b : List UInt8}, encB a = encB b → a = b := by
  intro a
  induction a with
  | nil => intro b h; cases b with | nil => rfl | cons _ _ => cases h
  | cons x a ih =>
    intro b h
    cases b with
    | nil => cases h
    | cons y b =>
      simp only [encB, List.map_cons, List.cons.injEq, Value.int.injEq, true_and] at h
      obtain ⟨h1, h2⟩ := h
      have : x = y := UInt8.toNat_inj.1 (by omega)
      subst this
      rw [ih h2]

section maps
abbrev AL := List (List UInt8 × Value)
def keyB : Value → List UInt8 | .string s => s.data.toList | _ => []
def absM (es : List MapEntry) : AL := es.map fun e => (keyB e.key, e.val)
def aget (al : AL) (k : List UInt8) : Option Value := (al.find? (·.1 == k)).map (·.2)
def aset (al : AL) (k : List UInt8) (v : Value) : AL := if (al.map (·.1)).contains k then al.map (fun p => if p.1 == k then (k, v) else p) else al ++ [(k, v)]
def adel (al : AL) (k : List UInt8) : AL := al.filter (fun p => !(p.1 == k))

structure MapOk (es : List MapEntry) (clock : Nat) : Prop where
  str : ∀ e ∈ es, ∃ s, e.key = .string s
  born : ∀ e ∈ es, e.born < clock
  stamps : (es.map (·.born)).Nodup
  keys : ((absM es).map (·.1)).Nodup

/-- Block r is a map with strings for keys that reads as the list. -/
def MapAt (w : World) (r : Nat) (al : AL) : Prop := ∃ es clock, w.heap[r]? = some (.map es clock) ∧ MapOk es.toList clock ∧ absM es.toList = al

theorem MapAt.new (w : World) : MapAt (w.alloc (.map #[] 0)) w.heap.size [] := ⟨#[], 0, heap_new w _, ⟨by simp, by simp, by simp, by simp [absM]⟩, rfl⟩
theorem MapAt.ext {S : Nat → Prop} {w w' : World} {r : Nat} {al : AL} (h : MapAt w r al) (hx : Ext S w w') (hS : ¬ S r) : MapAt w' r al := by
  obtain ⟨es, c, hr, h⟩ := h
  exact ⟨es, c, hx.obj hr hS, h⟩
theorem MapAt.lt {w : World} {r : Nat} {al : AL} (h : MapAt w r al) : r < w.heap.size := by obtain ⟨es, c, hr, _⟩ := h; exact lt_of_obj hr
theorem MapAt.nodup {w : World} {r : Nat} {al : AL} (h : MapAt w r al) : (al.map (·.1)).Nodup := by obtain ⟨es, c, hr, h, rfl⟩ := h; exact h.keys

theorem keyB_beq (s : ByteArray) (k : List UInt8) : (S k == s) = (s.data.toList == k) := by
  have h1 : (S k == s) = ((S k).data == s.data) := rfl
  rw [h1, Bool.eq_iff_iff]
  simp only [beq_iff_eq]
  constructor
  · intro h; rw [← h]; rfl
  · intro h; apply Array.ext'; rw [h]; rfl

theorem findNow_str (k : List UInt8) : ∀ (es : List MapEntry) (i : Nat), (∀ e ∈ es, ∃ s, e.key = .string s) →
    Instr.findNow .string (.string (S k)) es i = some ((es.findIdx? (fun e => keyB e.key == k)).map fun j => (i + j, ((es[j]?).map (·.val)).getD undef)) := by
  intro es
  induction es with
  | nil => intro i h; rfl
  | cons e es ih =>
    intro i h
    obtain ⟨s, hs⟩ := h e (by simp)
    have hk : keyB e.key = s.data.toList := by rw [hs]; rfl
    simp only [Instr.findNow, Instr.sameNow, hs, keyB_beq, List.findIdx?_cons]
    rw [show keyB (Value.string s) = s.data.toList from rfl]
    cases hb : (s.data.toList == k) with
    | true => simp
    | false =>
      simp only [Bool.false_eq_true, if_false]
      rw [ih (i + 1) (fun e he => h e (by simp [he]))]
      cases List.findIdx? (fun e => keyB e.key == k) es with
      | none => rfl
      | some j => simp; omega

theorem run_checkKey_at {P : Program} {w : World} {kt : TypeId} (hk : P.underlying kt = some .string) (b : Bool) (s : ByteArray) (m : Nat) : (Instr.checkKey b (m + 1) kt (.string s)).run P w = .ok () w := by
  simp [Instr.checkKey, run_underlying hk]
theorem run_checkKey_str {P : Program} {w : World} {kt : TypeId} (hk : P.underlying kt = some .string) (b : Bool) (s : ByteArray) : (Instr.checkKey b 10000 kt (.string s)).run P w = .ok () w := run_checkKey_at hk b s 9999

theorem run_findKey_str {P : Program} {w : World} {kt : TypeId} (hk : P.underlying kt = some .string) {es : List MapEntry} (k : List UInt8) (h : ∀ e ∈ es, ∃ s, e.key = .string s) :
    (Instr.findKey kt (.string (S k)) es).run P w = .ok ((es.findIdx? (fun e => keyB e.key == k)).map fun j => (j, ((es[j]?).map (·.val)).getD undef)) w := by
  simp only [Instr.findKey, Sem.run_bind, run_underlying hk, Result.andThen_ok, findNow_str k es 0 h, Nat.zero_add]
  rfl

theorem aget_idx (k : List UInt8) : ∀ (es : List MapEntry), aget (absM es) k = (es.findIdx? (fun e => keyB e.key == k)).map fun j => ((es[j]?).map (·.val)).getD undef := by
  intro es
  induction es with
  | nil => rfl
  | cons e es ih =>
    simp only [absM, List.map_cons, aget, List.find?_cons, List.findIdx?_cons] at ih ⊢
    cases hb : (keyB e.key == k) with
    | true => simp
    | false =>
      simp only [Bool.false_eq_true, if_false]
      rw [ih]
      cases List.findIdx? (fun e => keyB e.key == k) es <;> simp

theorem run_lookup {P : Program} {w : World} {t kt e r : Nat} {al : AL} {z : Value} (hu : P.underlying t = some (.map kt e)) (hk : P.underlying kt = some .string) (hz : zeroB P e = some z) (hm : MapAt w r al) (k : List UInt8) (ok : Bool) :
    (Instr.lookup t (.map (some r)) (.string (S k)) ok).run P w = .ok (if ok then .tuple #[(aget al k).getD z, .bool (aget al k).isSome] else (aget al k).getD z) w := by
  obtain ⟨es, c, hr, hok, rfl⟩ := hm
  have hzr : (zeroValue e).run P w = .ok z w := by
    unfold zeroB at hz
    cases hi : P.info? e with
    | none => simp [hi] at hz
    | some i => simp [hi] at hz; simp [zeroValue, typeInfo, program, Sem.run, hi, hz]
  have hf := run_findKey_str (P := P) (w := w) hk k hok.str
  have ha := aget_idx k es.toList
  cases hj : List.findIdx? (fun e => keyB e.key == k) es.toList with
  | none =>
    rw [hj] at hf ha
    simp only [Option.map_none] at hf ha
    simp only [Instr.lookup, Sem.run_bind, run_underlying hu, Result.andThen_ok, getObj, Sem.run, hr, Sem.run_pure, run_checkKey_str hk, hf, hzr, ha]
    cases ok <;> rfl
  | some j =>
    rw [hj] at hf ha
    simp only [Option.map_some] at hf ha
    simp only [Instr.lookup, Sem.run_bind, run_underlying hu, Result.andThen_ok, getObj, Sem.run, hr, Sem.run_pure, run_checkKey_str hk, hf, ha]
    cases ok <;> rfl
end maps
end Go.Proofs.YtmdpmpdlkaogdaaGreatDoor.Vc
