/- The calculus' lemmas on conversions between strings and bytes. Nothing here speaks of the program. -/
import Derived.Test.YtmdpmpdlkaogdaaGreatDoorVn
import Derived.Lib.ConvBytes
import Derived.Laws.BytesArg
namespace Go.Proofs.YtmdpmpdlkaogdaaGreatDoor.Vc
open Go Go.RowKit

theorem run_bytes_str {P : Program} {w : World} {t u e : TypeId} {v : Value} {l : List UInt8} (ht : P.underlying t = some (.slice e)) (he : P.underlying e = some (.int .u8)) (hu : P.underlying u = some .string) (hr : Row w v e 1 l.length (encB l)) :
    (convert t u v).run P w = .ok (.string (S l)) w := by
  rcases hr.form with ⟨rfl, h1, _⟩ | ⟨b, o, c, rfl, h1, h2, h3, hcell⟩
  · have hl0 : l = [] := List.eq_nil_of_length_eq_zero h1
    subst hl0
    exact run_convert_bytes_nil w t e ht he 0 0 u hu
  · have h := run_convert_bytes_arg (P := P) w t e ht he b o l.length c (l.map fun x => (x.toNat : Int)) (by simp) (fun i hi => by
      rw [hcell i _ (by simp [encB, hi]; rfl)]
      simp [hi]) u hu
    rw [h]
    have : strOfNums (l.map fun x => (x.toNat : Int)) = S l := by
      apply ByteArray.ext; apply Array.ext'
      rw [strOfNums_data, List.map_map]
      show _ = l
      conv => rhs; rw [← List.map_id l]
      refine List.map_congr_left fun x _ => ?_
      simp
    rw [this]

section ops
variable {st : Sty} [Wy st] {P : Program} {ds : List Deferred} {n : Nat} {Q : Exit → Act → World → Prop} {E : Env} {w : World} {ops : Array Oper} {l : List Oper}
variable {d : Nat} {ty : TypeId} {pos : String} {af : Array Edge}

theorem cvtBS {t u e : TypeId} {x : Operand} {v : Value} {a : List UInt8} (hx : opd E x = some v) (ht : P.underlying t = some (.slice e)) (he : P.underlying e = some (.int .u8)) (hu : P.underlying u = some .string) (hd : Nat.blt d n = true) (hr : Kn st w fun w => Row w v e 1 a.length (encB a))
    (k : LY st P ds n ops l Q ((d, .string (S a)) :: E) w) : LY st P ds n ops (⟨some d, .convert t u x, ty, pos, af, none⟩ :: l) Q E w :=
  LY.rd _ hd (fun ac ha w hs => by simp [execOp, opd_eval ha hx, run_bytes_str ht he hu (hr w hs)]) k

/-- A string's bytes, as a row of the call's own. -/
theorem cvtSB {t u e : TypeId} {td : TypeDesc} {x : Operand} {a : List UInt8} (hx : opd E x = some (.string (S a))) (ht : P.underlying t = some td) (hu : P.underlying u = some (.slice e)) (he : P.underlying e = some (.int .u8)) (hd : Nat.blt d n = true) (hl : a.length ≤ 1000000000)
    (hy : st.act ty) (k : ∀ v w', Row w' v e 1 a.length (encB a) → Ext none_ w w' → v.ownBlock = some w.heap.size → st.keeps l w w' ∧ LY st P ds n ops l Q ((d, v) :: E) w') : LY st P ds n ops (⟨some d, .convert t u x, ty, pos, af, none⟩ :: l) Q E w := by
  have hr := Lib.run_convert_string_bytes (P := P) w t u e (S a) ht hu he
  have hge := grownCap_ge w (S a).size 0 e
  have hle := grownCap_le_maxLen w (S a).size 0 e (by simp only [maxLen, S_size]; omega)
  have hnew := Lib.bytesWorld_at_new w e (S a)
  have hx' : Ext none_ w (Lib.bytesWorld w e (S a)) := ⟨rfl, rfl, rfl, by rw [Lib.bytesWorld_size]; omega, fun k hk _ => Lib.bytesWorld_at_old w e _ k hk⟩
  have hrow : Row (Lib.bytesWorld w e (S a)) (.slice (some ⟨w.heap.size, 0, none⟩) (S a).size (grownCap w (S a).size 0 e)) e 1 a.length (encB a) := by
    refine ⟨by simp, some ⟨w.heap.size, 0, none⟩, _, by rw [S_size], by rw [← S_size]; exact hge, hle, (fun h => by cases h), fun ad had => ?_⟩
    cases had
    refine ⟨_, _, rfl, hnew, ?_, ?_⟩
    · simp [Lib.bytesCells] at hge ⊢; omega
    · simp [Lib.bytesCells, S, encB]
  obtain ⟨hk, k⟩ := k _ _ hrow hx' rfl
  exact LY.val _ _ hd (fun ac ha => by simp [execOp, opd_eval ha hx, hr]) k (fun ts x S h => by subst h; exact hy) hk
/-- A conversion of bytes to bytes: the row is marked as a conversion's. -/
theorem cvtBB {t e : TypeId} {x : Operand} {g nn c : Nat} {cs : Array Value} (hx : opd E x = some (.slice (some ⟨g, 0, none⟩) nn c)) (ht : P.underlying t = some (.slice e)) (he : P.underlying e = some (.int .u8)) (hd : Nat.blt d n = true) (hg : w.heap[g]? = some (.cells cs e (0, 0)))
    (hy : st.act ty) (k : ∀ w', w'.heap[g]? = some (.cells cs e (cs.size, cs.size + 1)) → Ext (fun k => k = g) w w' → st.keeps l w w' ∧ LY st P ds n ops l Q ((d, .slice (some ⟨g, 0, none⟩) nn c) :: E) w') : LY st P ds n ops (⟨some d, .convert t t x, ty, pos, af, none⟩ :: l) Q E w := by
  have hsh : w.shape? g = some (e, cs.size) := by simp [World.shape?, hg]
  have hr : (convert t t (.slice (some ⟨g, 0, none⟩) nn c)).run P w = .ok (.slice (some ⟨g, 0, none⟩) nn c) (w.freeze ⟨g, cs.size, none⟩ 1) := by
    simp [convert, run_underlying ht, run_underlying he, markStringish, hsh]
  have hnew : (w.freeze ⟨g, cs.size, none⟩ 1).heap[g]? = some (.cells cs e (cs.size, cs.size + 1)) := by
    simp [World.freeze, Array.getElem?_modify, hg]
  have hxt : Ext (fun k => k = g) w (w.freeze ⟨g, cs.size, none⟩ 1) := ⟨rfl, rfl, rfl, by simp [World.freeze], fun k hk hn => by
    have : g ≠ k := fun e => hn e.symm
    simp [World.freeze, Array.getElem?_modify, this]⟩
  obtain ⟨hk, k⟩ := k _ hnew hxt
  exact LY.val _ _ hd (fun ac ha => by simp [execOp, opd_eval ha hx, hr]) k (fun ts x S h => by subst h; exact hy) hk
end ops
end Go.Proofs.YtmdpmpdlkaogdaaGreatDoor.Vc
