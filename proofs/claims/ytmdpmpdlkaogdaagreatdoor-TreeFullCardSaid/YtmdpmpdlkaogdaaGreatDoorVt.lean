/- The calculus: appending one element; slices cut with a cap; appending to what has no room. Nothing here speaks of the program. -/
import Derived.Test.YtmdpmpdlkaogdaaGreatDoorVn
import Derived.ArgAppend
namespace Go.Proofs.YtmdpmpdlkaogdaaGreatDoor.Vc
open Go Go.RowKit
section ops
variable {Fe : Fence} {mm : Nat} [Wd Fe] {P : Program} {ds : List Deferred} {n : Nat} {Q : Exit → Act → World → Prop} {E : Env} {w : World} {ops : Array Oper} {l : List Oper}
variable {d1 d2 : Nat} {ty1 ty2 : TypeId} {pos1 pos2 : String} {af1 af2 : Array Edge}

/-- 'append(s, x)' onto a slice of the call's own. -/
theorem push1 {t e : TypeId} {z : Value} {sz bytes B nn : Nat} {s x : Operand} {v v0 : Value} {xs : List Value} {cs : Array Value} (hx : opd E x = some v0) (hd1 : Nat.blt d1 n = true) (hs : opd ((d1, .slice (some ⟨w.heap.size, 0, none⟩) 1 1) :: E) s = some v) (hd2 : Nat.blt d2 n = true)
    (hr : ∀ w, (Instr.buildSlice t 1 #[(0, v0)]).run P w = .ok (.slice (some ⟨w.heap.size, 0, none⟩) 1 1) (w.alloc (.cells cs e))) (ht : ElT P t e z sz bytes) (hl : cs.size = sz) (h1 : cs.toList.all (·.oneCell') = true)
    (hown : w.ownsRow B e sz v nn xs) (hb : (nn + 1) * bytes ≤ 140737488355328) (hm : nn + 1 ≤ maxLen) (hB : B ≤ w.heap.size)
    (k : ∀ v' w', w'.ownsRow B e sz v' (nn + 1) (xs ++ cs.toList) → Ext (fun k => v.ownBlock = some k) w w' → L Fe mm P ds n ops l Q ((d2, v') :: (d1, .slice (some ⟨w.heap.size, 0, none⟩) 1 1) :: E) w') :
    L Fe mm P ds n ops (⟨some d1, .buildSlice t 1 #[(0, x)], ty1, pos1, af1, none⟩ :: ⟨some d2, .call ⟨.builtin .append, #[s, .tmp d1], #[t, t]⟩, ty2, pos2, af2, none⟩ :: l) Q E w := by
  have h0 : opd ((d1, .slice (some ⟨w.heap.size, 0, none⟩) 1 1) :: E) (.tmp d1) = some (.slice (some ⟨w.heap.size, 0, none⟩) 1 1) := by simp [opd, getE]
  refine bls (st := .plain Fe mm) (vs := #[(0, v0)]) (cs := cs) (e := e) (by simp [hx]) hd1 hr <| app hs h0 hd2 ht (own_ext hown (Ext.alloc none_ _ _) fun _ _ => id) (news := cs.toList) (by simp [hl]) (fun j u hj => by
    rw [add_at, Nat.zero_add]; exact cell_of (heap_new _ _) (by simpa using hj)) (fun u hu => List.all_eq_true.1 h1 u hu) hb hm (by simp; omega) fun v' w' ho hx2 _ _ => k v' w' ho ?_
  exact (Ext.alloc _ _ _).trans hx2

end ops
section ops2
variable {st : Sty} [Wy st] {P : Program} {ds : List Deferred} {n : Nat} {Q : Exit → Act → World → Prop} {E : Env} {w : World} {ops : Array Oper} {l : List Oper}
variable {d : Nat} {ty : TypeId} {pos : String} {af : Array Edge}
/-- A slice cut with a cap: 's[:hi:max]'. -/
theorem slVhm {t e : TypeId} {x hi mx : Operand} {a : Option Addr} {m c sz : Nat} {κ κ' : IntKind} {j i : Int} (hx : opd E x = some (.slice a m c)) (hh : opd E hi = some (.int κ j)) (hmx : opd E mx = some (.int κ' i)) (hu : P.underlying t = some (.slice e)) (hs : szB P e = some sz) (hd : Nat.blt d n = true) (h0 : 0 ≤ j) (h1 : j ≤ i) (h2 : i ≤ c)
    (k : LY st P ds n ops l Q ((d, .slice a j.toNat i.toNat) :: E) w) : LY st P ds n ops (⟨some d, .slice t x none (some hi) (some mx), ty, pos, af, none⟩ :: l) Q E w :=
  LY.rd _ hd (fun ac ha w _ => by
    have h4 : 0 ≤ j ∧ j ≤ (i.toNat : Int) := ⟨h0, by omega⟩
    have h5 : 0 ≤ i ∧ i ≤ (c : Int) := ⟨by omega, h2⟩
    have e1 : ∀ k : Nat, (if k = 0 then a else a.map (·.add (0 * sz))) = a := fun k => by split; rfl; cases a <;> simp [Addr.add]
    simp only [execOp, opd_eval ha hx, opd_eval ha hh, opd_eval ha hmx, Option.map_some, Option.map_none, Instr.sliceAt, Instr.slice, Instr.sliceBounds, Instr.sliceBound, asIntOf, underlying, program, Sem.run_bind, Sem.run, Result.andThen_ok, hu, Sem.run_pure, Sem.run_ite, if_pos h4, if_pos h5, run_sizeOf hs, e1, Nat.sub_zero]) k
/-- 'append' onto a slice that has no room: a new row. -/
theorem appG {t e : TypeId} {z : Value} {sz bytes nn cap m c : Nat} {s x : Operand} {b ad : Addr} {olds news : List Value} (hs : opd E s = some (.slice (some b) nn cap)) (hx : opd E x = some (.slice (some ad) m c)) (hd : Nat.blt d n = true) (ht : ElT P t e z sz bytes)
    (hlo : olds.length = nn * sz) (holds : ∀ j u, olds[j]? = some u → w.cell? (b.add j) = some u) (hl : news.length = m * sz) (hnews : ∀ j u, news[j]? = some u → w.cell? (ad.add j) = some u)
    (hg : cap < nn + m) (hb : (nn + m) * bytes ≤ 140737488355328) (hm : nn + m ≤ maxLen)
    (k : ∀ v' w', w'.ownsRow w.heap.size e sz v' (nn + m) (olds ++ news) → Ext none_ w w' → st.keeps l w w' ∧ LY st P ds n ops l Q ((d, v') :: E) w') : LY st P ds n ops (⟨some d, .call ⟨.builtin .append, #[s, x], #[t, t]⟩, ty, pos, af, none⟩ :: l) Q E w := by
  obtain ⟨i, hi, hz, hsz, hby⟩ := ht.info
  obtain ⟨v', w', hr, ho, hgr⟩ := run_append_arg_grows (P := P) w t ty e i z sz bytes ht.u hi hz hsz hby ht.c ht.p b nn cap olds hlo holds ad m c news hl hnews hg hm hb
  obtain ⟨hk, k⟩ := k v' w' ho ((Ext.grown hgr).mono fun _ _ h => by cases h)
  exact bltinY (vs := [.slice (some b) nn cap, .slice (some ad) m c]) (by simp [hs, hx]) hd (fun _ => by simp [builtin, hr]) k (fun _ _ _ _ => rfl) hk
/-- The rest of a slice: its cells lie further on. -/
theorem slVlA {t e : TypeId} {x lo : Operand} {b o m c sz : Nat} {κ : IntKind} {i : Nat} (hx : opd E x = some (.slice (some ⟨b, o, none⟩) m c)) (hl : opd E lo = some (.int κ i)) (hu : P.underlying t = some (.slice e)) (hs : szB P e = some sz) (hd : Nat.blt d n = true) (h1 : i ≤ m)
    (k : ∀ ad : Addr, (i < c → ad = ⟨b, o + i * sz, none⟩) → LY st P ds n ops l Q ((d, .slice (some ad) (m - i) (c - i)) :: E) w) : LY st P ds n ops (⟨some d, .slice t x (some lo) none none, ty, pos, af, none⟩ :: l) Q E w := by
  refine slVl hx hl hu hs hd (by omega) (by omega) ?_
  have := k (if c = i then ⟨b, o, none⟩ else ⟨b, o + i * sz, none⟩) (fun h => by rw [if_neg (by omega)])
  have e1 : (if c = (i : Int).toNat then some (⟨b, o, none⟩ : Addr) else (some ⟨b, o, none⟩ : Option Addr).map (·.add ((i : Int).toNat * sz))) = some (if c = i then ⟨b, o, none⟩ else ⟨b, o + i * sz, none⟩) := by
    simp only [Int.toNat_natCast, Option.map_some, add_at]
    split <;> rfl
  rw [e1]
  simpa using this
end ops2
end Go.Proofs.YtmdpmpdlkaogdaaGreatDoor.Vc
