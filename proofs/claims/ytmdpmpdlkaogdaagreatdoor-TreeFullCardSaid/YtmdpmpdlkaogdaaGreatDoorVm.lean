/- The calculus' lemmas on memory: what a world keeps, cells, blocks, slices, append. Nothing here speaks of the program. -/
import Derived.Test.YtmdpmpdlkaogdaaGreatDoorVo
import Derived.Maps.AppendAt
namespace Go.Proofs.YtmdpmpdlkaogdaaGreatDoor.Vc
open Go Go.RowKit

/-- From w to w' new blocks may have come, and old blocks of S may have turned; nothing else. -/
structure Ext (S : Nat → Prop) (w w' : World) : Prop where
  os : w'.os = w.os
  tape : w'.tape = w.tape
  output : w'.output = w.output
  size : w.heap.size ≤ w'.heap.size
  block : ∀ k, k < w.heap.size → ¬ S k → w'.heap[k]? = w.heap[k]?

def none_ : Nat → Prop := fun _ => False

theorem Ext.refl (S : Nat → Prop) (w : World) : Ext S w w := ⟨rfl, rfl, rfl, Nat.le_refl _, fun _ _ _ => rfl⟩
theorem Ext.trans {S : Nat → Prop} {a b c : World} (h : Ext S a b) (k : Ext S b c) : Ext S a c :=
  ⟨k.os.trans h.os, k.tape.trans h.tape, k.output.trans h.output, Nat.le_trans h.size k.size, fun i hi hn => (k.block i (Nat.lt_of_lt_of_le hi h.size) hn).trans (h.block i hi hn)⟩
/-- The second step may turn what S allows, and blocks that are new since a. -/
theorem Ext.trans' {S T : Nat → Prop} {a b c : World} (h : Ext S a b) (k : Ext T b c) (hT : ∀ i, i < a.heap.size → T i → S i) : Ext S a c :=
  ⟨k.os.trans h.os, k.tape.trans h.tape, k.output.trans h.output, Nat.le_trans h.size k.size, fun i hi hn => (k.block i (Nat.lt_of_lt_of_le hi h.size) (fun t => hn (hT i hi t))).trans (h.block i hi hn)⟩
theorem Ext.mono {S T : Nat → Prop} {a b : World} (h : Ext S a b) (hT : ∀ i, i < a.heap.size → S i → T i) : Ext T a b := ⟨h.os, h.tape, h.output, h.size, fun i hi hn => h.block i hi (fun s => hn (hT i hi s))⟩
theorem Ext.none {S : Nat → Prop} {a b : World} (h : Ext none_ a b) : Ext S a b := h.mono fun _ _ => False.elim
theorem Ext.below {a b : World} (h : Ext none_ a b) : Below a.heap.size a b := ⟨h.os, h.tape, h.output, h.size, fun k hk => h.block k hk id⟩
theorem Ext.of_below {a b : World} (h : Below a.heap.size a b) : Ext none_ a b := ⟨h.os, h.tape, h.output, h.size, fun k hk _ => h.block k hk⟩
theorem Ext.drew (S : Nat → Prop) (w : World) : Ext S w w.drew := ⟨rfl, rfl, rfl, Nat.le_refl _, fun _ _ _ => rfl⟩
theorem Ext.drewN (S : Nat → Prop) (w : World) (n : Nat) : Ext S w (w.drewN n) := ⟨rfl, rfl, rfl, Nat.le_refl _, fun _ _ _ => rfl⟩
theorem heap_alloc (w : World) (o : Obj) {k : Nat} (h : k < w.heap.size) : (w.alloc o).heap[k]? = w.heap[k]? := Below.heap_alloc w o k h
theorem heap_new (w : World) (o : Obj) : (w.alloc o).heap[w.heap.size]? = some o := heap_alloc_new w o
theorem Ext.alloc (S : Nat → Prop) (w : World) (o : Obj) : Ext S w (w.alloc o) := ⟨rfl, rfl, rfl, by simp, fun _ hk _ => heap_alloc w o hk⟩
theorem Ext.setCell {S : Nat → Prop} (w : World) {a : Addr} (ha : a.block < w.heap.size → S a.block) (v : Value) : Ext S w (w.setCell a v) :=
  ⟨rfl, rfl, rfl, by simp, fun k hk hn => Below.heap_setCell w a v k (fun e => hn (by subst e; exact ha hk))⟩
theorem Ext.setObj {S : Nat → Prop} (w : World) {r : Nat} (hr : r < w.heap.size → S r) (o : Obj) : Ext S w { w with heap := w.heap.setIfInBounds r o } :=
  ⟨rfl, rfl, rfl, by simp, fun k hk hn => by
    have : r ≠ k := fun e => hn (by subst e; exact hr hk)
    simp [this]⟩
theorem Ext.grown {w w' : World} {row : Option Nat} (h : w.grownBy w' row) : Ext (fun k => some k = row) w w' := ⟨h.os, h.tape, h.output, h.size, fun k hk hn => h.block k hk hn⟩

theorem Ext.obj {S : Nat → Prop} {w w' : World} (h : Ext S w w') {k : Nat} {o : Obj} (hk : w.heap[k]? = some o) (hS : ¬ S k) : w'.heap[k]? = some o :=
  (h.block k (Array.getElem?_eq_some_iff.1 hk).1 hS).trans hk
theorem Ext.block' {j k : Nat} {w w' : World} (h : Ext (fun i => i = j) w w') (hne : k ≠ j) (hk : k < w.heap.size := by omega) : w'.heap[k]? = w.heap[k]? := h.block k hk hne
theorem lt_of_obj {w : World} {k : Nat} {o : Obj} (h : w.heap[k]? = some o) : k < w.heap.size := (Array.getElem?_eq_some_iff.1 h).1

theorem cell_of {w : World} {k i : Nat} {c : Array Value} {e : TypeId} {f : Nat × Nat} {v : Value} (h : w.heap[k]? = some (.cells c e f)) (hc : c[i]? = some v) : w.cell? ⟨k, i, none⟩ = some v := by
  simp [World.cell?, h, hc]
theorem cell1 {w : World} {k : Nat} {e : TypeId} {f : Nat × Nat} {v : Value} (h : w.heap[k]? = some (.cells #[v] e f)) : w.cell? ⟨k, 0, none⟩ = some v := cell_of h rfl
theorem free_of {w : World} {k i : Nat} {c : Array Value} {e : TypeId} (h : w.heap[k]? = some (.cells c e (0, 0))) : w.frozen? ⟨k, i, none⟩ = false := by
  simp [World.frozen?, h]
theorem setCell_heap {w : World} {k i : Nat} {c : Array Value} {e : TypeId} {f : Nat × Nat} (h : w.heap[k]? = some (.cells c e f)) (v : Value) : (w.setCell ⟨k, i, none⟩ v).heap[k]? = some (.cells (c.setIfInBounds i v) e f) := by
  simp [World.setCell, Array.getElem?_modify, h]
theorem set1 {w : World} {k : Nat} {e : TypeId} {f : Nat × Nat} {u : Value} (h : w.heap[k]? = some (.cells #[u] e f)) (v : Value) : (w.setCell ⟨k, 0, none⟩ v).heap[k]? = some (.cells #[v] e f) := by rw [setCell_heap h]; rfl
theorem setCell_other {w : World} {a : Addr} {k : Nat} (h : k ≠ a.block) (v : Value) : (w.setCell a v).heap[k]? = w.heap[k]? := Below.heap_setCell w a v k h

theorem Ext.setRow {S : Nat → Prop} (w : World) {g : Nat} (hg : g < w.heap.size → S g) (cs : Array Value) : Ext S w (w.setRow g cs) :=
  ⟨rfl, rfl, rfl, by simp, fun k hk hn => setRow_other w g k cs (fun e => hn (by subst e; exact hg hk))⟩

section ops
variable {st : Sty} [Wy st] {P : Program} {ds : List Deferred} {n : Nat} {Q : Exit → Act → World → Prop} {E : Env} {w : World} {ops : Array Oper} {l : List Oper}
variable {d : Nat} {ty : TypeId} {pos : String} {af : Array Edge}

theorem add_at (b o k : Nat) : (⟨b, o, none⟩ : Addr).add k = ⟨b, o + k, none⟩ := by unfold Addr.add; split <;> simp_all

theorem fad {s f b o off : Nat} {x : Operand} (hx : opd E x = some (.pointer (some ⟨b, o, none⟩))) (hf : fldB P s f = some off) (hd : Nat.blt d n = true)
    (k : LY st P ds n ops l Q ((d, .pointer (some ⟨b, o + off, none⟩)) :: E) w) : LY st P ds n ops (⟨some d, .fieldAddr s x f, ty, pos, af, none⟩ :: l) Q E w :=
  LY.rd _ hd (fun ac ha w _ => by
    unfold fldB at hf
    split at hf
    · rename_i fs hu
      cases hfd : fs[f]? with
      | none => simp [hfd] at hf
      | some fd =>
        cases hi : P.info? fd.type with
        | none => simp [hfd, hi] at hf
        | some i =>
          simp [hfd, hi] at hf
          obtain ⟨h1, h2⟩ := hf
          simp [execOp, opd_eval ha hx, Instr.fieldAt, underlying, program, Sem.run, hu, hfd, Instr.sureAddr, fieldPlace, sizeOf, typeInfo, hi, h1, add_at, h2]
    · cases hf) k

theorem run_isAgg {t : TypeId} {b : Bool} (h : aggB P t = some b) : (isAgg t).run P w = .ok b w := by
  unfold aggB at h
  cases hu : P.underlying t with
  | none => simp [hu] at h
  | some u =>
    simp [hu] at h
    subst h
    cases u <;> simp [isAgg, underlying, program, Sem.run, hu]

theorem run_sizeOf {t k : Nat} (h : szB P t = some k) : (sizeOf t).run P w = .ok k w := by
  unfold szB at h
  cases hi : P.info? t with
  | none => simp [hi] at h
  | some i => simp [hi] at h; simp [sizeOf, typeInfo, program, Sem.run, hi, h]

theorem ldK {t : TypeId} {x : Operand} {ad : Addr} {v : Value} (hx : opd E x = some (.pointer (some ad))) (ht : aggB P t = some false) (hd : Nat.blt d n = true) (hc : Kn st w fun w => w.cell? ad = some v)
    (k : LY st P ds n ops l Q ((d, v) :: E) w) : LY st P ds n ops (⟨some d, .load t x, ty, pos, af, none⟩ :: l) Q E w :=
  LY.rd _ hd (fun ac ha w hs => by simp [execOp, opd_eval ha hx, Instr.loadAt, Instr.sureAddr, loadVar, run_isAgg ht, hc w hs]) k
theorem ldkK {t : TypeId} {x : Operand} {b o m : Nat} {cs : List Value} (hx : opd E x = some (.pointer (some ⟨b, o, none⟩))) (ht : aggB P t = some true) (hs : szB P t = some m) (hd : Nat.blt d n = true) (hl : cs.length = m)
    (hc : Kn st w fun w => ∀ j v, cs[j]? = some v → w.cell? ⟨b, o + j, none⟩ = some v) (k : LY st P ds n ops l Q ((d, .agg cs.toArray) :: E) w) : LY st P ds n ops (⟨some d, .load t x, ty, pos, af, none⟩ :: l) Q E w :=
  LY.rd _ hd (fun ac ha w hw => by
    have h := run_loadCells_list (P := P) w ⟨b, o, none⟩ cs (fun j v hj => by rw [add_at]; exact hc w hw j v hj)
    rw [hl] at h
    simp [execOp, opd_eval ha hx, Instr.loadAt, Instr.sureAddr, loadVar, run_isAgg ht, run_sizeOf hs, h]) k
section plain
variable {Fe : Fence} {mm : Nat} [Wd Fe]
theorem ld1 {t : TypeId} {x : Operand} {ad : Addr} {v : Value} (hx : opd E x = some (.pointer (some ad))) (ht : aggB P t = some false) (hd : Nat.blt d n = true) (hc : w.cell? ad = some v)
    (k : L Fe mm P ds n ops l Q ((d, v) :: E) w) : L Fe mm P ds n ops (⟨some d, .load t x, ty, pos, af, none⟩ :: l) Q E w := ldK hx ht hd (Kn.here hc) k
theorem ldk {t : TypeId} {x : Operand} {b o m : Nat} {cs : List Value} (hx : opd E x = some (.pointer (some ⟨b, o, none⟩))) (ht : aggB P t = some true) (hs : szB P t = some m) (hd : Nat.blt d n = true) (hl : cs.length = m)
    (hc : ∀ j v, cs[j]? = some v → w.cell? ⟨b, o + j, none⟩ = some v) (k : L Fe mm P ds n ops l Q ((d, .agg cs.toArray) :: E) w) : L Fe mm P ds n ops (⟨some d, .load t x, ty, pos, af, none⟩ :: l) Q E w := ldkK hx ht hs hd hl (Kn.here hc) k
end plain

theorem st1 {t : TypeId} {x y : Operand} {b o : Nat} {c : Array Value} {e : TypeId} {u v : Value} (hx : opd E x = some (.pointer (some ⟨b, o, none⟩))) (hy : opd E y = some v) (hs : szB P t = some 1) (h1 : v.oneCell' = true)
    (hb : w.heap[b]? = some (.cells c e (0, 0))) (hc : c[o]? = some u) (k : LY st P ds n ops l Q E (w.setCell ⟨b, o, none⟩ v)) (hS : st.keeps l w (w.setCell ⟨b, o, none⟩ v) := by trivial) : LY st P ds n ops (⟨none, .store t x y, ty, pos, af, none⟩ :: l) Q E w :=
  LY.act _ (fun ac ha => by
    have hv : v.cells = #[v] := by cases v <;> simp_all [Value.cells, Value.oneCell']
    have hcell := cell_of hb hc
    have hfr : w.frozen? ⟨b, o, none⟩ = false := free_of hb
    simp [execOp, opd_eval ha hx, opd_eval ha hy, Instr.storeAt, Instr.sureAddr, storeVar, run_sizeOf hs, hv, storeCells, add_at, run_store P w _ v _ h1, hcell, hfr]) k (fun _ _ _ _ => rfl) hS

/-- A whole variable of many cells. -/
theorem stR {t : TypeId} {x y : Operand} {g : Nat} {cells old : Array Value} {e : TypeId} (hx : opd E x = some (.pointer (some ⟨g, 0, none⟩))) (hy : opd E y = some (.agg cells)) (hs : szB P t = some cells.size) (h1 : cells.toList.all (·.oneCell') = true)
    (hb : w.heap[g]? = some (.cells old e (0, 0))) (ho : old.size = cells.size) (k : LY st P ds n ops l Q E (w.setRow g cells)) (hS : st.keeps l w (w.setRow g cells) := by trivial) : LY st P ds n ops (⟨none, .store t x y, ty, pos, af, none⟩ :: l) Q E w :=
  LY.act _ (fun ac ha => by
    simp only [execOp, opd_eval ha hx, opd_eval ha hy, Instr.storeAt, Instr.sureAddr, Sem.run_bind, Sem.run_pure, Result.andThen_ok, run_storeVar_row w g e t old cells hb hs ho (by simpa using h1)]) k (fun _ _ _ _ => rfl) hS

/-- A new variable with a value. -/
theorem box {t : TypeId} {x : Operand} {v : Value} (hx : opd E x = some v) (hd : Nat.blt d n = true)
    (k : LY st P ds n ops l Q ((d, .pointer (some ⟨w.heap.size, 0, none⟩)) :: E) (w.alloc (.cells v.cells t))) (hS : st.keeps l w (w.alloc (.cells v.cells t)) := by trivial) : LY st P ds n ops (⟨some d, .box t x, ty, pos, af, none⟩ :: l) Q E w :=
  LY.val _ (w.alloc (.cells v.cells t)) hd (fun ac ha => by simp [execOp, opd_eval ha hx, Instr.box, newVar, newRow, newObj, Sem.run]) k (fun _ _ _ _ => rfl) hS
theorem new {t : TypeId} {z : Value} (hz : zeroB P t = some z) (hd : Nat.blt d n = true)
    (k : LY st P ds n ops l Q ((d, .pointer (some ⟨w.heap.size, 0, none⟩)) :: E) (w.alloc (.cells z.cells t))) (hS : st.keeps l w (w.alloc (.cells z.cells t)) := by trivial) : LY st P ds n ops (⟨some d, .alloc t, ty, pos, af, none⟩ :: l) Q E w :=
  LY.val _ (w.alloc (.cells z.cells t)) hd (fun ac ha => by
    unfold zeroB at hz
    cases hi : P.info? t with
    | none => simp [hi] at hz
    | some i => simp [hi] at hz; simp [execOp, Instr.alloc, zeroValue, typeInfo, program, Sem.run, hi, hz, newVar, newRow, newObj]) k (fun _ _ _ _ => rfl) hS
theorem parts_eval {n : Nat} {E : Env} {ac : Act} (ha : Fits ds n E ac) {parts : Array (Nat × Operand)} {vs : Array (Nat × Value)} (hp : parts.toList.map (fun p => (opd E p.2).map (p.1, ·)) = vs.toList.map some) : parts.map (fun p => (p.1, ac.eval p.2)) = vs := by
  apply Array.ext'
  rw [Array.toList_map]
  have : ∀ (xs : List (Nat × Operand)) (vs : List (Nat × Value)), xs.map (fun p => (opd E p.2).map (p.1, ·)) = vs.map some → xs.map (fun p => (p.1, ac.eval p.2)) = vs := by
    intro xs
    induction xs with
    | nil => intro vs h; cases vs with | nil => rfl | cons _ _ => cases h
    | cons x xs ih =>
      intro vs h
      cases vs with
      | nil => cases h
      | cons v vs =>
        simp only [List.map_cons, List.cons.injEq] at h ⊢
        refine ⟨?_, ih vs h.2⟩
        cases ho : opd E x.2 with
        | none => rw [ho] at h; simp at h
        | some u => rw [ho] at h; simp at h; rw [opd_eval ha ho]; exact h.1
  exact this _ _ hp
/-- A struct, a slice out of parts: as the model reckons it. -/
theorem bld {t : TypeId} {parts : Array (Nat × Operand)} {vs : Array (Nat × Value)} {v : Value} (hp : parts.toList.map (fun p => (opd E p.2).map (p.1, ·)) = vs.toList.map some) (hd : Nat.blt d n = true)
    (hr : ∀ w, (Instr.build t vs).run P w = .ok v w) (k : LY st P ds n ops l Q ((d, v) :: E) w) : LY st P ds n ops (⟨some d, .build t parts, ty, pos, af, none⟩ :: l) Q E w :=
  LY.rd _ hd (fun ac ha w _ => by
    have he : parts.map (fun (p : Nat × Operand) => (p.1, ac.eval p.2)) = vs := parts_eval ha hp
    have : (parts.map fun (x : Nat × Operand) => match x with | (i, x) => (i, ac.eval x)) = vs := he
    simp [execOp, this, hr]) k
theorem bls {t e : TypeId} {m : Nat} {parts : Array (Nat × Operand)} {vs : Array (Nat × Value)} {cs : Array Value} (hp : parts.toList.map (fun p => (opd E p.2).map (p.1, ·)) = vs.toList.map some) (hd : Nat.blt d n = true)
    (hr : ∀ w, (Instr.buildSlice t m vs).run P w = .ok (.slice (some ⟨w.heap.size, 0, none⟩) m m) (w.alloc (.cells cs e))) (k : LY st P ds n ops l Q ((d, .slice (some ⟨w.heap.size, 0, none⟩) m m) :: E) (w.alloc (.cells cs e))) (hS : st.keeps l w (w.alloc (.cells cs e)) := by trivial) : LY st P ds n ops (⟨some d, .buildSlice t m parts, ty, pos, af, none⟩ :: l) Q E w :=
  LY.val _ _ hd (fun ac ha => by
    have he : parts.map (fun (p : Nat × Operand) => (p.1, ac.eval p.2)) = vs := parts_eval ha hp
    have : (parts.map fun (x : Nat × Operand) => match x with | (i, x) => (i, ac.eval x)) = vs := he
    simp [execOp, this, hr]) k (fun _ _ _ _ => rfl) hS
theorem mkm {t : TypeId} (hd : Nat.blt d n = true) (k : LY st P ds n ops l Q ((d, .map (some w.heap.size)) :: E) (w.alloc (.map #[] 0))) (hS : st.keeps l w (w.alloc (.map #[] 0)) := by trivial) : LY st P ds n ops (⟨some d, .makeMap t none, ty, pos, af, none⟩ :: l) Q E w :=
  LY.val _ (w.alloc (.map #[] 0)) hd (fun ac ha => by simp [execOp, Instr.makeMap, newObj, Sem.run]) k (fun _ _ _ _ => rfl) hS
theorem mki {t : TypeId} {u : TypeDesc} {x : Operand} {v : Value} (hx : opd E x = some v) (hu : P.underlying t = some u) (hn : (match u with | .interface _ => true | _ => false) = false) (hd : Nat.blt d n = true) (k : LY st P ds n ops l Q ((d, .iface t v) :: E) w) : LY st P ds n ops (⟨some d, .makeInterface t x, ty, pos, af, none⟩ :: l) Q E w :=
  LY.rd _ hd (fun ac ha w _ => by
    cases u <;> simp_all [execOp, opd_eval ha hx, Instr.makeInterface, underlying, program, Sem.run]) k
theorem mkf0 {f : Fn} (hd : Nat.blt d n = true) (k : LY st P ds n ops l Q ((d, .func f #[] #[]) :: E) w) : LY st P ds n ops (⟨some d, .makeFunc f #[] #[], ty, pos, af, none⟩ :: l) Q E w :=
  LY.rd _ hd (fun ac ha w _ => by simp [execOp, Instr.makeFunc]) k
theorem mkf3 {f : Fn} {x y z : Operand} {v1 v2 v3 : Value} (h1 : opd E x = some v1) (h2 : opd E y = some v2) (h3 : opd E z = some v3) (hd : Nat.blt d n = true) (k : LY st P ds n ops l Q ((d, .func f #[] #[v1, v2, v3]) :: E) w) : LY st P ds n ops (⟨some d, .makeFunc f #[] #[x, y, z], ty, pos, af, none⟩ :: l) Q E w :=
  LY.rd _ hd (fun ac ha w _ => by simp [execOp, Instr.makeFunc, opd_eval ha h1, opd_eval ha h2, opd_eval ha h3]) k
theorem mkf1 {f : Fn} {x : Operand} {v : Value} (hx : opd E x = some v) (hd : Nat.blt d n = true) (k : LY st P ds n ops l Q ((d, .func f #[] #[v]) :: E) w) : LY st P ds n ops (⟨some d, .makeFunc f #[] #[x], ty, pos, af, none⟩ :: l) Q E w :=
  LY.rd _ hd (fun ac ha w _ => by simp [execOp, Instr.makeFunc, opd_eval ha hx]) k
/-- A field of a struct that is a value. -/
theorem fld {s f : Nat} {x : Operand} {cs : Array Value} {v : Value} (hx : opd E x = some (.agg cs)) (hd : Nat.blt d n = true) (hr : ∀ w, (Instr.field s (.agg cs) f).run P w = .ok v w) (k : LY st P ds n ops l Q ((d, v) :: E) w) : LY st P ds n ops (⟨some d, .field s x f, ty, pos, af, none⟩ :: l) Q E w :=
  LY.rd _ hd (fun ac ha w _ => by simp [execOp, opd_eval ha hx, hr]) k

-- slices
theorem ixa {t e : TypeId} {x i : Operand} {b o m c sz : Nat} {κ : IntKind} {j : Int} (hx : opd E x = some (.slice (some ⟨b, o, none⟩) m c)) (hi : opd E i = some (.int κ j)) (hu : P.underlying t = some (.slice e)) (hs : szB P e = some sz) (hd : Nat.blt d n = true) (h0 : 0 ≤ j) (h1 : j < m)
    (k : LY st P ds n ops l Q ((d, .pointer (some ⟨b, o + j.toNat * sz, none⟩)) :: E) w) : LY st P ds n ops (⟨some d, .indexAddr t x i, ty, pos, af, none⟩ :: l) Q E w :=
  LY.rd _ hd (fun ac ha w _ => by simp [execOp, opd_eval ha hx, opd_eval ha hi, Instr.indexAt, asIntOf, underlying, program, Sem.run, hu, h0, h1, run_sizeOf hs, add_at]) k
theorem slV {t e : TypeId} {x lo hi : Operand} {a : Option Addr} {m c sz : Nat} {κ κ' : IntKind} {i j : Int} (hx : opd E x = some (.slice a m c)) (hl : opd E lo = some (.int κ i)) (hh : opd E hi = some (.int κ' j)) (hu : P.underlying t = some (.slice e)) (hs : szB P e = some sz) (hd : Nat.blt d n = true) (h0 : 0 ≤ i) (h1 : i ≤ j) (h2 : j ≤ c)
    (k : LY st P ds n ops l Q ((d, .slice (if c = i.toNat then a else a.map (·.add (i.toNat * sz))) (j.toNat - i.toNat) (c - i.toNat)) :: E) w) : LY st P ds n ops (⟨some d, .slice t x (some lo) (some hi) none, ty, pos, af, none⟩ :: l) Q E w :=
  LY.rd _ hd (fun ac ha w _ => by
    have h3 : 0 ≤ j ∧ j ≤ (c : Int) := ⟨by omega, h2⟩
    have h4 : 0 ≤ i ∧ i ≤ (j.toNat : Int) := ⟨h0, by omega⟩
    simp only [execOp, opd_eval ha hx, opd_eval ha hl, opd_eval ha hh, Option.map_some, Option.map_none, Instr.sliceAt, Instr.slice, Instr.sliceBounds, Instr.sliceBound, asIntOf, underlying, program, Sem.run_bind, Sem.run, Result.andThen_ok, hu, Sem.run_pure, Sem.run_ite, if_pos h3, if_pos h4, run_sizeOf hs]) k
theorem slVl {t e : TypeId} {x lo : Operand} {a : Option Addr} {m c sz : Nat} {κ : IntKind} {i : Int} (hx : opd E x = some (.slice a m c)) (hl : opd E lo = some (.int κ i)) (hu : P.underlying t = some (.slice e)) (hs : szB P e = some sz) (hd : Nat.blt d n = true) (h0 : 0 ≤ i) (h1 : i ≤ m)
    (k : LY st P ds n ops l Q ((d, .slice (if c = i.toNat then a else a.map (·.add (i.toNat * sz))) (m - i.toNat) (c - i.toNat)) :: E) w) : LY st P ds n ops (⟨some d, .slice t x (some lo) none none, ty, pos, af, none⟩ :: l) Q E w :=
  LY.rd _ hd (fun ac ha w _ => by
    have h4 : 0 ≤ i ∧ i ≤ (m : Int) := ⟨h0, h1⟩
    simp only [execOp, opd_eval ha hx, opd_eval ha hl, Option.map_some, Option.map_none, Instr.sliceAt, Instr.slice, Instr.sliceBounds, Instr.sliceBound, asIntOf, underlying, program, Sem.run_bind, Sem.run, Result.andThen_ok, hu, Sem.run_pure, Sem.run_ite, if_pos h4, run_sizeOf hs]) k
theorem slVh {t e : TypeId} {x hi : Operand} {a : Option Addr} {m c sz : Nat} {κ : IntKind} {j : Int} (hx : opd E x = some (.slice a m c)) (hh : opd E hi = some (.int κ j)) (hu : P.underlying t = some (.slice e)) (hs : szB P e = some sz) (hd : Nat.blt d n = true) (h0 : 0 ≤ j) (h1 : j ≤ c)
    (k : LY st P ds n ops l Q ((d, .slice a j.toNat c) :: E) w) : LY st P ds n ops (⟨some d, .slice t x none (some hi) none, ty, pos, af, none⟩ :: l) Q E w :=
  LY.rd _ hd (fun ac ha w _ => by
    have h4 : 0 ≤ j ∧ j ≤ (c : Int) := ⟨h0, h1⟩
    have e1 : (if c = 0 then a else a.map (·.add (0 * sz))) = a := by split; rfl; cases a <;> simp [Addr.add]
    simp only [execOp, opd_eval ha hx, opd_eval ha hh, Option.map_some, Option.map_none, Instr.sliceAt, Instr.slice, Instr.sliceBounds, Instr.sliceBound, asIntOf, underlying, program, Sem.run_bind, Sem.run, Result.andThen_ok, hu, Sem.run_pure, Sem.run_ite, if_pos h4, run_sizeOf hs, e1, Nat.sub_zero]) k
end ops

theorem run_results_ct {P : Program} {w : World} {fn : Func} {t u b : Nat} {tt : TypeId} {cs : List Value} {v : Value} {tmps : Array Value} (hr : fn.results = #[.cell t tt, .tmp u]) (ht : tmps.getD t undef = .pointer (some ⟨b, 0, none⟩)) (hu : tmps.getD u undef = v)
    (h1 : aggB P tt = some true) (hs : szB P tt = some cs.length) (hc : ∀ j u, cs[j]? = some u → w.cell? ⟨b, 0 + j, none⟩ = some u) : (results fn tmps).run P w = .ok (.tuple #[.agg cs.toArray, v]) w := by
  have h := run_loadCells_list (P := P) w ⟨b, 0, none⟩ cs (fun j v hj => by rw [add_at]; exact hc j v hj)
  simp only [Array.getD_eq_getD_getElem?] at ht hu
  simp [results, hr, ht, hu, asAddr, loadVar, run_isAgg h1, run_sizeOf hs, h]
/-- A return of a struct that lies in a variable, and of a plain result. -/
theorem N.retCT {P : Program} {n : Nat} {E : Env} {w : World} {fn : Func} {R : Ending → World → Prop} {t u b : Nat} {tt : TypeId} {cs : List Value} {v : Value} (hr : fn.results = #[.cell t tt, .tmp u]) (ht : getE E t = some (.pointer (some ⟨b, 0, none⟩))) (hu : getE E u = some v)
    (h1 : aggB P tt = some true) (hs : szB P tt = some cs.length) (hc : ∀ j u, cs[j]? = some u → w.cell? ⟨b, 0 + j, none⟩ = some u) (h : R (.returned (.tuple #[.agg cs.toArray, v])) w) : N [] n (bodyPost P fn R .ret) E w :=
  fun _ ha => bodyPost_ret (run_results_ct hr (ha.2.2 _ _ ht) (ha.2.2 _ _ hu) h1 hs hc) ha.1 h
theorem row_cells {w : World} {g : Nat} {cs : List Value} {e : TypeId} {f : Nat × Nat} (h : w.heap[g]? = some (.cells cs.toArray e f)) : ∀ j u, cs[j]? = some u → w.cell? ⟨g, 0 + j, none⟩ = some u := fun j u hj => cell_of h (by simpa using hj)
end Go.Proofs.YtmdpmpdlkaogdaaGreatDoor.Vc
