/- The calculus: appending one element; slices cut with a cap; appending to what has no room. Nothing here speaks of the program. -/
import Derived.Test.YtmdpmpdlkaogdaaGreatDoorVn
namespace Go.Proofs.YtmdpmpdlkaogdaaGreatDoor.Vc
open Go Go.RowKit
section ops
variable {Fe : Fence} {mm : Nat} [Wd Fe] {P : Program} {ds : List Deferred} {n : Nat} {Q : Exit → Act → World → Prop} {E : Env} {w : World} {ops : Array Oper} {l : List Oper}
variable {d1 d2 : Nat} {ty1 ty2 : TypeId} {pos1 pos2 : String} {af1 af2 : Array Edge}

/-- 'append(s, x)' onto a slice of the call's own. -/
theorem push1 {t e : TypeId} {z : Value} {sz bytes B nn : Nat} {s x : Operand} {v v0 : Value} {xs : List Value} {cs : Array Value} (hx : opd E x = some v0) (hd1 : Nat.blt d1 n = true) (hs : opd ((d1, .slice (some ⟨w.heap.size, 0, none⟩) 1 1) :: E) s = some v) (hd2 : Nat.blt d2 n = true)
    (hr : ∀ w, (Instr.buildSlice t 1 #[(0, v0)]).run P w = .ok (.slice (some ⟨w.heap.size, 0, none⟩) 1 1) (w.alloc (.cells cs e))) (ht : ElT P t e z sz bytes) (hl : cs.size = sz) (h1 : cs.toList.all (·.oneCell') = true)
    (hown : w.ownsRow B e sz v nn xs) (hb : (nn + 1) * bytes ≤ 140737488355328) (hm : nn + 1 ≤ maxLen) (hB : B ≤ w.heap.size)
    (k : ∀ v' w', w'.ownsRow B e sz v' (nn + 1) (xs ++ cs.toList) → Ext (fun k => v.ownBlock = some k) w w' → L Fe mm P ds n ops l Q ((d2, v') :: (d1, .slice (some ⟨w.heap.size, 0, none⟩) 1 1) :: E) w') :
    L Fe mm P ds n ops (⟨some d1, .buildSlice t 1 #[(0, x)], ty1, pos1, af1, none⟩ :: ⟨some d2, .call ⟨.builtin .append, #[s, .tmp d1], #[t, t]⟩, ty2, pos2, af2, none⟩ :: l) Q E w := by
  have h0 : opd ((d1, .slice (some ⟨w.heap.size, 0, none⟩) 1 1) :: E) (.tmp d1) = some (.slice (some ⟨w.heap.size, 0, none⟩) 1 1) := by simp [opd, getE]
  refine bls (st := .plain Fe mm) (vs := #[(0, v0)]) (cs := cs) (e := e) (by simp [hx]) hd1 hr <| app hs h0 hd2 ht (own_ext hown (Ext.alloc none_ _ _) fun _ _ => id) (news := cs.toList) (by simp [hl]) (fun j u hj => by
    rw [add_at, Nat.zero_add]; exact cell_of (heap_new _ _) (by simpa using hj)) (fun u hu => List.all_eq_true.1 h1 u hu) hb hm (by simp; omega) fun v' w' ho hx2 _ _ => k v' w' ho ?_
  exact (Ext.alloc _ _ _).trans hx2

/-- A slice cut with a cap: 's[:hi:max]'. -/
theorem slVhm {t e : TypeId} {x hi mx : Operand} {a : Option Addr} {m c sz d : Nat} {κ κ' : IntKind} {j i : Int} {ty : TypeId} {pos : String} {af : Array Edge} (hx : opd E x = some (.slice a m c)) (hh : opd E hi = some (.int κ j)) (hmx : opd E mx = some (.int κ' i)) (hu : P.underlying t = some (.slice e)) (hs : szB P e = some sz) (hd : Nat.blt d n = true) (h0 : 0 ≤ j) (h1 : j ≤ i) (h2 : i ≤ c)
    (k : L Fe mm P ds n ops l Q ((d, .slice a j.toNat i.toNat) :: E) w) : L Fe mm P ds n ops (⟨some d, .slice t x none (some hi) (some mx), ty, pos, af, none⟩ :: l) Q E w :=
  LY.rd (y := .plain Fe mm) _ hd (fun ac ha w _ => by
    have h4 : 0 ≤ j ∧ j ≤ (i.toNat : Int) := ⟨h0, by omega⟩
    have h5 : 0 ≤ i ∧ i ≤ (c : Int) := ⟨by omega, h2⟩
    have e1 : ∀ k : Nat, (if k = 0 then a else a.map (·.add (0 * sz))) = a := fun k => by split; rfl; cases a <;> simp [Addr.add]
    simp only [execOp, opd_eval ha hx, opd_eval ha hh, opd_eval ha hmx, Option.map_some, Option.map_none, Instr.sliceAt, Instr.slice, Instr.sliceBounds, Instr.sliceBound, asIntOf, underlying, program, Sem.run_bind, Sem.run, Result.andThen_ok, hu, Sem.run_pure, Sem.run_ite, if_pos h4, if_pos h5, run_sizeOf hs, e1, Nat.sub_zero]) k
end ops
end Go.Proofs.YtmdpmpdlkaogdaaGreatDoor.Vc
