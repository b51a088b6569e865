/- The walk of the document's Sum. Plain laws: the sum, block by block. No Go here. The walk of sha.Sum at one part. Walks: archive.Digest, the document's Of. Walks: archive.put, the document's number. Arguments, opened: what a row says of what came in, as lists of bytes. -/
import Derived.Test.YtmdpmpdlkaogdaaGreatDoorRa08
import Derived.Test.YtmdpmpdlkaogdaaGreatDoorRa04
import Derived.Test.YtmdpmpdlkaogdaaGreatDoorRa06
import Derived.ChangeSlices
import Derived.SliceStrings

namespace Go.Proofs.YtmdpmpdlkaogdaaGreatDoor
namespace Sh
/-- After so many blocks. -/
def fd (p : List UInt8) : Nat → St
  | 0 => S0
  | j + 1 => turn (fd p j) (p.drop (64 * j))
/-- The words' bytes. -/
def dig (s : St) : List UInt8 := (List.range 32).map fun i => UInt8.ofNat ((at_ s.l (i / 4)) >>> (24 - 8 * (i % 4))).toNat
theorem dig_len (s : St) : (dig s).length = 32 := by simp [dig]
def sum (b : List UInt8) : List UInt8 := dig (fd (pad b) ((pad b).length / 64))
theorem byte_drop (p : List UInt8) (d k : Nat) : byte (p.drop d) k = BitVec.ofNat 32 (p[d + k]?.getD 0).toNat := by unfold byte; rw [List.getElem?_drop]
end Sh
open Go Go.RowKit Vc
abbrev t32 : TypeId := 27
theorem u_t32 : P.underlying t32 = some (.array 32 5) := Tryz.underlying27
theorem sz_t32 : szB P t32 = some 32 := by kernel_rfl
theorem ag_t32 : aggB P t32 = some true := by kernel_rfl
theorem ze_t32 : zeroB P t32 = some (.agg (encB (List.replicate 32 0)).toArray) := by kernel_rfl
theorem oneB (l : List UInt8) : (encB l).toArray.toList.all (·.oneCell') = true := by simp [encB, List.all_map, Function.comp_def]; intro x _; rfl
theorem ok_rSum : FnOk P 59 := ⟨_, Tryz.func59, by kernel_rfl, by kernel_rfl⟩
theorem setL {A R : List Value} {x v : Value} : (A ++ x :: R).toArray.setIfInBounds A.length v = (A ++ v :: R).toArray := by
  apply Array.ext'
  simp only [Array.toList_setIfInBounds]
  rw [List.set_append_right _ _ (Nat.le_refl _)]
  simp
/-- A byte more in an array. -/
theorem setB {l : List UInt8} {i n : Nat} {y : UInt8} (hl : l.length = n) (hi : i < n) (hy : l[i]? = some y) : (encB (l.take i) ++ encB (List.replicate (n - i) 0)).toArray.setIfInBounds i (.int .u8 y.toNat) = (encB (l.take (i + 1)) ++ encB (List.replicate (n - (i + 1)) 0)).toArray := by
  have h1 : (encB (l.take i)).length = i := by simp [encB]; omega
  rw [show n - i = (n - (i + 1)) + 1 by omega, List.replicate_succ]
  conv => lhs; arg 2; rw [← h1]
  rw [show encB (0 :: List.replicate (n - (i + 1)) 0) = (.int .u8 ((0 : UInt8).toNat : Int)) :: encB (List.replicate (n - (i + 1)) 0) from rfl, setL, List.take_add_one, hy]
  simp [encB]

theorem st8 {w : World} {h3 i : Nat} {l l' : List (BitVec 32)} {x : BitVec 32} (hb : w.heap[h3]? = some (.cells (enc32 l).toArray t8 (0, 0))) (hl : l.set i x = l') : (w.setCell ⟨h3, i, none⟩ (V32 x)).heap[h3]? = some (.cells (enc32 l').toArray t8 (0, 0)) := by
  rw [setCell_heap hb, ← hl]
  congr 2
  apply Array.ext'
  simp [enc32, List.map_set]

set_option maxHeartbeats 2000000 in
theorem c_rSum {w : World} {v : Value} {b : List UInt8} (hb : BytA w v b) (hl : b.length ≤ 100000000) : Calls P 59 #[v] w fun e w' => e = .returned (.agg (encB (Sh.sum b)).toArray) ∧ Ext none_ w w' := by
  refine enter (l := [_]) (n := 259) Tryz.func59 rfl rfl rfl ?_
  refine W.seq ?_
  refine W.reg <| new ze_t32 rfl <| L.nil ?_
  refine N.th ?_
  obtain ⟨o, ho⟩ : ∃ o, o = w.heap.size := ⟨_, rfl⟩
  obtain ⟨w1, hw1⟩ : ∃ w1, w1 = w.alloc (.cells (encB (List.replicate 32 0)).toArray t32) := ⟨_, rfl⟩
  have ho1 : w1.heap[o]? = some (.cells (encB (List.replicate 32 0)).toArray t32 (0, 0)) := by rw [hw1, ho]; exact heap_new _ _
  have hx1 : Ext none_ w w1 := by rw [hw1]; exact Ext.alloc _ _ _
  rw [show w.alloc (.cells (Value.cells (.agg (encB (List.replicate 32 0)).toArray)) t32) = w1 from hw1.symm, ← ho]
  refine W.seq ?_
  refine W.reg <| bld (vs := parts Sh.S0.l) (v := .agg (enc32 Sh.S0.l).toArray) (by kernel_rfl) rfl (fun _ => by kernel_rfl) <| new ze_t8 rfl <| stR (cells := (enc32 Sh.S0.l).toArray) rfl rfl sz_t8 (one32 _) (heap_new _ _) rfl <| L.nil ?_
  refine N.th ?_
  obtain ⟨h3, hh3⟩ : ∃ h3, h3 = w1.heap.size := ⟨_, rfl⟩
  obtain ⟨w2, hw2⟩ : ∃ w2, w2 = (w1.alloc (.cells (Value.cells (.agg (enc32 (List.replicate 8 0)).toArray)) t8)).setRow w1.heap.size (enc32 Sh.S0.l).toArray := ⟨_, rfl⟩
  have hh2 : w2.heap[h3]? = some (.cells (enc32 (Sh.fd (Sh.pad b) 0).l).toArray t8 (0, 0)) := by rw [hw2, hh3]; exact setRow_heap _ _ _ _ _ _ (heap_new _ _)
  have hx2 : Ext none_ w1 w2 := by rw [hw2]; exact (Ext.alloc none_ _ _).trans' (Ext.setRow (S := fun k => k = w1.heap.size) _ (fun _ => rfl) _) (fun i hi e => by omega)
  rw [show (w1.alloc (.cells (Value.cells (.agg (enc32 (List.replicate 8 0)).toArray)) t8)).setRow w1.heap.size (enc32 Sh.S0.l).toArray = w2 from hw2.symm, ← hh3]
  refine W.seq ?_
  refine W.reg <| call (vs := []) rfl rfl ok_table (c_table w2) ?_
  rintro e w3 ⟨rfl, hx3⟩
  refine ⟨_, rfl, ?_⟩
  refine new ze_t64 rfl <| stR (cells := (enc32 Sh.K).toArray) rfl rfl sz_t64 (one32 _) (heap_new _ _) rfl <| L.nil ?_
  refine N.th ?_
  obtain ⟨k4, hk4⟩ : ∃ k4, k4 = w3.heap.size := ⟨_, rfl⟩
  obtain ⟨w4, hw4⟩ : ∃ w4, w4 = (w3.alloc (.cells (Value.cells (.agg (enc32 (List.replicate 64 0)).toArray)) t64)).setRow w3.heap.size (enc32 Sh.K).toArray := ⟨_, rfl⟩
  have hkk4 : w4.heap[k4]? = some (.cells (enc32 Sh.K).toArray t64 (0, 0)) := by rw [hw4, hk4]; exact setRow_heap _ _ _ _ _ _ (heap_new _ _)
  have hx4 : Ext none_ w3 w4 := by rw [hw4]; exact (Ext.alloc none_ _ _).trans' (Ext.setRow (S := fun k => k = w3.heap.size) _ (fun _ => rfl) _) (fun i hi e => by omega)
  rw [show (w3.alloc (.cells (Value.cells (.agg (enc32 (List.replicate 64 0)).toArray)) t64)).setRow w3.heap.size (enc32 Sh.K).toArray = w4 from hw4.symm, ← hk4]
  have hx04 : Ext none_ w w4 := ((hx1.trans hx2).trans hx3).trans hx4
  have ho4 := ((hx2.trans hx3).trans hx4).obj ho1 id
  have hh4 := (hx3.trans hx4).obj hh2 id
  refine W.seq ?_
  refine W.reg <| mv rfl rfl <| call (vs := [_]) rfl rfl ok_pad (c_pad (hb.ext0 hx04) hl) ?_
  rintro e w5 ⟨pv, rfl, hp5, hx5⟩
  refine ⟨_, rfl, ?_⟩
  refine asg rfl rfl <| L.nil ?_
  refine N.th ?_
  obtain ⟨hpm, hpl⟩ := Sh.pad_len b
  have hp0 : 64 ≤ (Sh.pad b).length := by
    have : (Sh.pad b).length = b.length + 1 + Sh.zeros b.length + 8 := by simp [Sh.pad, Sh.len8_len]; omega
    omega
  have hsum : Sh.sum b = Sh.dig (Sh.fd (Sh.pad b) ((Sh.pad b).length / 64)) := rfl
  rw [hsum]
  generalize Sh.pad b = p at hh4 hp5 hpm hpl hp0 ⊢
  have ho5 := hx5.obj ho4 id
  have hh5 := hx5.obj hh4 id
  have hk5 := hx5.obj hkk4 id
  obtain ⟨pb, po, pc, rfl, -⟩ := byt_at (j := 0) (Row.own hp5).arg (by omega)
  have rdp : ∀ {wz : World}, Byts w4.heap.size wz (.slice (some ⟨pb, po, none⟩) p.length pc) p → ∀ i, i < p.length → wz.cell? ⟨pb, po + i * 1, none⟩ = some (.int .u8 (p[i]?.getD 0).toNat) := fun hz i hi => by
    obtain ⟨_, _, _, e, h⟩ := byt_at (Row.own hz).arg hi
    cases e
    exact h i hi
  have hb3 : h3 < w5.heap.size := lt_of_obj hh5
  have hws : w.heap.size ≤ w1.heap.size := hx1.size
  have hh3w : ¬ h3 < w.heap.size := by omega
  have hok3 : o ≠ h3 := by have := lt_of_obj ho1; omega
  have hkk3 : k4 ≠ h3 := by have := (hx2.trans hx3).size; have := hx3.size; have := lt_of_obj hh2; omega
  have hx05 : Ext none_ w w5 := hx04.trans hx5
  refine W.seq ?_
  refine W.seq ?_
  refine W.reg <| asg rfl rfl <| L.nil ?_
  refine N.th ?_
  refine W.block ?_
  refine W.loop (X := Nat) (fun j => [(6, .int .i64 ((64 * j : Nat) : Int)), (5, .slice (some ⟨pb, po, none⟩) p.length pc), (4, .pointer (some ⟨k4, 0, none⟩)), (3, .pointer (some ⟨h3, 0, none⟩)), (2, .pointer (some ⟨o, 0, none⟩))])
    (fun j w' => 64 * j ≤ p.length ∧ w'.heap[h3]? = some (.cells (enc32 (Sh.fd p j).l).toArray t8 (0, 0)) ∧ w'.heap[k4]? = some (.cells (enc32 Sh.K).toArray t64 (0, 0)) ∧ w'.heap[o]? = some (.cells (encB (List.replicate 32 0)).toArray t32 (0, 0)) ∧ Byts w4.heap.size w' (.slice (some ⟨pb, po, none⟩) p.length pc) p ∧ Ext none_ w w')
    (fun j => p.length - 64 * j) 0 ⟨rfl, rfl, rfl, rfl, rfl, trivial⟩ ⟨by omega, hh5, hk5, ho5, hp5, hx05⟩ ?_
  rintro j w6 ⟨hj, hh6, hk6, ho6, hp6, hx6⟩
  refine W.seq ?_
  refine W.seq ?_
  refine W.reg <| mv rfl rfl <| mv rfl rfl <| lenV (t := 25) rfl u_bytes rfl <| lssI rfl rfl rfl <| L.nil ?_
  refine N.th ?_
  refine W.cond rfl (fun h => ?_) (fun h => ?_)
  · refine W.skip ?_
    refine N.th ?_
    have hj1 : 64 * j + 64 ≤ p.length := by have := of_decide_eq_true h; omega
    have hfd : Sh.fd p (j + 1) = Sh.turn (Sh.fd p j) (p.drop (64 * j)) := rfl
    generalize Sh.fd p j = s at hh6 hfd
    obtain ⟨bl, hbl⟩ : ∃ bl, bl = p.drop (64 * j) := ⟨_, rfl⟩
    rw [← hbl] at hfd
    have hbyte : ∀ k, Sh.byte bl k = BitVec.ofNat 32 (p[64 * j + k]?.getD 0).toNat := fun k => by rw [hbl]; exact Sh.byte_drop _ _ _
    refine W.seq ?_
    refine W.block ?_
    refine W.seq ?_
    refine W.reg <| new ze_t64 rfl <| L.nil ?_
    refine N.th ?_
    obtain ⟨g, hg⟩ : ∃ g, g = w6.heap.size := ⟨_, rfl⟩
    obtain ⟨w7, hw7⟩ : ∃ w7, w7 = w6.alloc (.cells (enc32 (List.replicate 64 0)).toArray t64) := ⟨_, rfl⟩
    have hg7 : w7.heap[g]? = some (.cells (enc32 (Sh.sch bl 0) ++ enc32 (List.replicate (64 - 0) 0)).toArray t64 (0, 0)) := by rw [hw7, hg]; exact heap_new _ _
    have hx7 : Ext none_ w6 w7 := by rw [hw7]; exact Ext.alloc _ _ _
    rw [show w6.alloc (.cells (Value.cells (.agg (enc32 (List.replicate 64 0)).toArray)) t64) = w7 from hw7.symm, ← hg]
    have hG : ∀ i, i < w6.heap.size → i = g → none_ i := fun i hi e => by omega
    have hset : ∀ {i : Nat} (x : BitVec 32), i < 64 → (enc32 (Sh.sch bl i) ++ enc32 (List.replicate (64 - i) 0)).toArray.setIfInBounds i (V32 x) = (enc32 (Sh.sch bl i ++ [x]) ++ enc32 (List.replicate (64 - (i + 1)) 0)).toArray := fun {i} x hi1 => by
      rw [show 64 - i = (64 - (i + 1)) + 1 by omega]
      conv => lhs; arg 2; rw [← Sh.sch_len bl i]
      exact set32 x
    have hin : ∀ {i : Nat}, i < 64 → ∃ u, (enc32 (Sh.sch bl i) ++ enc32 (List.replicate (64 - i) 0)).toArray[0 + i * 1]? = some u := fun {i} hi => ⟨_, Array.getElem?_eq_getElem (by simp [enc32, Sh.sch_len]; omega)⟩
    have stored : ∀ {wz : World} {i : Nat} (x : BitVec 32), i < 64 → wz.heap[g]? = some (.cells (enc32 (Sh.sch bl i) ++ enc32 (List.replicate (64 - i) 0)).toArray t64 (0, 0)) → Sh.sch bl (i + 1) = Sh.sch bl i ++ [x] →
        (wz.setCell ⟨g, 0 + i * 1, none⟩ (V32 x)).heap[g]? = some (.cells (enc32 (Sh.sch bl (i + 1)) ++ enc32 (List.replicate (64 - (i + 1)) 0)).toArray t64 (0, 0)) := fun {wz i} x hi1 hz hx => by
      rw [setCell_heap hz, hx, ← hset x hi1, Nat.zero_add, Nat.mul_one]
    refine W.seq ?_
    refine W.seq ?_
    refine W.reg <| asg rfl rfl <| L.nil ?_
    refine N.th ?_
    refine W.block ?_
    refine W.loop (X := Nat) (fun i => [(8, .int .i64 i), (7, .pointer (some ⟨g, 0, none⟩)), (6, .int .i64 ((64 * j : Nat) : Int)), (5, .slice (some ⟨pb, po, none⟩) p.length pc), (4, .pointer (some ⟨k4, 0, none⟩)), (3, .pointer (some ⟨h3, 0, none⟩)), (2, .pointer (some ⟨o, 0, none⟩))])
      (fun i w' => i ≤ 16 ∧ w'.heap[g]? = some (.cells (enc32 (Sh.sch bl i) ++ enc32 (List.replicate (64 - i) 0)).toArray t64 (0, 0)) ∧ Ext none_ w6 w') (fun i => 16 - i) 0 ⟨rfl, rfl, rfl, rfl, rfl, rfl, rfl, trivial⟩ ⟨by omega, hg7, hx7⟩ ?_
    rintro i w8 ⟨hi, hg8, hx8⟩
    refine W.seq ?_
    refine W.seq ?_
    refine W.reg <| mv rfl rfl <| lssI rfl rfl rfl <| L.nil ?_
    refine N.th ?_
    refine W.cond rfl (fun h => ?_) (fun h => ?_)
    · refine W.skip ?_
      refine N.th ?_
      have hi1 : i < 16 := by have := of_decide_eq_true h; omega
      have hd : Ext none_ w8 w8.drew := Ext.drew _ _
      obtain ⟨u0, hu0⟩ := hin (i := i) (by omega)
      have rdb : ∀ {wz : World}, Ext none_ w6 wz → ∀ k, 64 * j + k < p.length → wz.cell? ⟨pb, po + (64 * j + k) * 1, none⟩ = some (.int .u8 (p[64 * j + k]?.getD 0).toNat) := fun hz k hk => rdp (own_ext hp6 hz fun _ _ => id) _ hk
      refine W.seq ?_
      refine W.block ?_
      refine W.draw [127] true (fun w' => Ext none_ w6 w') [0, 1, 2, 3, 4, 5, 6, 7, 8, 9, 10, 11, 12, 13, 14, 15, 16, 17, 18, 19, 20, 21, 22, 23, 24, 25, 26, 27, 28, 29, 30, 31, 32, 33, 34, 35, 36, 37, 38, 39, 40, 41, 42, 43] rfl rfl (by kernel_rfl) (hx8.trans hd) ?_   -- held
      refine mv rfl rfl <| mv rfl rfl <| mv rfl rfl <| mv rfl rfl <| mulI (c := ((4 * i : Nat) : Int)) rfl rfl rfl (by rw [w64 (by omega) (by omega)]; omega) <| addI (c := ((64 * j + 4 * i : Nat) : Int)) rfl rfl rfl (by rw [w64 (by omega) (by omega)]; omega) <| ixa rfl rfl u_bytes el_bytes.szB rfl (by omega) (by omega) <| ldK (v := .int .u8 (p[64 * j + 4 * i]?.getD 0).toNat) rfl ag_u8 rfl (fun w' h => rdb h (4 * i) (by omega)) <| b32 rfl u_u32 u_u8 rfl <| shl32 (k := 24) rfl rfl rfl (by omega) <|
        mv rfl rfl <| mv rfl rfl <| mv rfl rfl <| mulI (c := ((4 * i : Nat) : Int)) rfl rfl rfl (by rw [w64 (by omega) (by omega)]; omega) <| addI (c := ((64 * j + 4 * i : Nat) : Int)) rfl rfl rfl (by rw [w64 (by omega) (by omega)]; omega) <| addI (c := ((64 * j + (4 * i + 1) : Nat) : Int)) rfl rfl rfl (by rw [w64 (by omega) (by omega)]; omega) <| ixa rfl rfl u_bytes el_bytes.szB rfl (by omega) (by omega) <| ldK (v := .int .u8 (p[64 * j + (4 * i + 1)]?.getD 0).toNat) rfl ag_u8 rfl (fun w' h => rdb h (4 * i + 1) (by omega)) <| b32 rfl u_u32 u_u8 rfl <| shl32 (k := 16) rfl rfl rfl (by omega) <| or32 rfl rfl rfl <|
        mv rfl rfl <| mv rfl rfl <| mv rfl rfl <| mulI (c := ((4 * i : Nat) : Int)) rfl rfl rfl (by rw [w64 (by omega) (by omega)]; omega) <| addI (c := ((64 * j + 4 * i : Nat) : Int)) rfl rfl rfl (by rw [w64 (by omega) (by omega)]; omega) <| addI (c := ((64 * j + (4 * i + 2) : Nat) : Int)) rfl rfl rfl (by rw [w64 (by omega) (by omega)]; omega) <| ixa rfl rfl u_bytes el_bytes.szB rfl (by omega) (by omega) <| ldK (v := .int .u8 (p[64 * j + (4 * i + 2)]?.getD 0).toNat) rfl ag_u8 rfl (fun w' h => rdb h (4 * i + 2) (by omega)) <| b32 rfl u_u32 u_u8 rfl <| shl32 (k := 8) rfl rfl rfl (by omega) <| or32 rfl rfl rfl <|
        mv rfl rfl <| mv rfl rfl <| mv rfl rfl <| mulI (c := ((4 * i : Nat) : Int)) rfl rfl rfl (by rw [w64 (by omega) (by omega)]; omega) <| addI (c := ((64 * j + 4 * i : Nat) : Int)) rfl rfl rfl (by rw [w64 (by omega) (by omega)]; omega) <| addI (c := ((64 * j + (4 * i + 3) : Nat) : Int)) rfl rfl rfl (by rw [w64 (by omega) (by omega)]; omega) <| ixa rfl rfl u_bytes el_bytes.szB rfl (by omega) (by omega) <| ldK (v := .int .u8 (p[64 * j + (4 * i + 3)]?.getD 0).toNat) rfl ag_u8 rfl (fun w' h => rdb h (4 * i + 3) (by omega)) <| b32 rfl u_u32 u_u8 rfl <| or32 rfl rfl rfl <|
        ixp rfl rfl u_t64 sz_u32 rfl (by omega) (by omega) <| st1 rfl rfl sz_u32 rfl (hd.obj hg8 id) hu0 (hS := .inl ⟨rfl, rfl⟩) <| L.nilH ?_
      refine N.inb ?_
      refine N.th ?_
      refine W.reg <| mv rfl rfl <| addI (c := ((i + 1 : Nat) : Int)) rfl rfl rfl (by rw [w64 (by omega) (by omega)]; simp) <| asg rfl rfl <| L.nil ?_
      refine N.th (N.round (x := i + 1) ⟨rfl, rfl, rfl, rfl, rfl, rfl, rfl, trivial⟩ ⟨by omega, ?_, (hx8.trans hd).trans' (Ext.setCell (S := fun k => k = g) _ (fun _ => rfl) _) hG⟩ (by omega))   -- ROUND
      have hword : Sh.word bl i = (((BitVec.ofNat 32 (p[64 * j + 4 * i]?.getD 0).toNat <<< 24) ||| (BitVec.ofNat 32 (p[64 * j + (4 * i + 1)]?.getD 0).toNat <<< 16)) ||| (BitVec.ofNat 32 (p[64 * j + (4 * i + 2)]?.getD 0).toNat <<< 8)) ||| BitVec.ofNat 32 (p[64 * j + (4 * i + 3)]?.getD 0).toNat := by
        unfold Sh.word
        rw [hbyte, hbyte, hbyte, hbyte]
      rw [← hword]
      refine stored (i := i) (Sh.word bl i) (by omega) (hd.obj hg8 id) ?_
      rw [Sh.sch, if_pos hi1]
    refine W.exit ?_
    refine N.xth ?_
    refine N.xth ?_
    refine N.xeq ?_
    refine N.th ?_
    have hi16 : i = 16 := by have := of_decide_eq_false h; omega
    subst hi16
    refine W.seq ?_
    refine W.seq ?_
    refine W.reg <| asg rfl rfl <| L.nil ?_
    refine N.th ?_
    refine W.block ?_
    refine W.loop (X := Nat) (fun i => [(9, .int .i64 i), (7, .pointer (some ⟨g, 0, none⟩)), (6, .int .i64 ((64 * j : Nat) : Int)), (5, .slice (some ⟨pb, po, none⟩) p.length pc), (4, .pointer (some ⟨k4, 0, none⟩)), (3, .pointer (some ⟨h3, 0, none⟩)), (2, .pointer (some ⟨o, 0, none⟩))])
      (fun i w' => 16 ≤ i ∧ i ≤ 64 ∧ w'.heap[g]? = some (.cells (enc32 (Sh.sch bl i) ++ enc32 (List.replicate (64 - i) 0)).toArray t64 (0, 0)) ∧ Ext none_ w6 w') (fun i => 64 - i) 16 ⟨rfl, rfl, rfl, rfl, rfl, rfl, rfl, trivial⟩ ⟨by omega, by omega, hg8, hx8⟩ ?_
    rintro i w9 ⟨hi', hi, hg9, hx9⟩
    refine W.seq ?_
    refine W.seq ?_
    refine W.reg <| mv rfl rfl <| lssI rfl rfl rfl <| L.nil ?_
    refine N.th ?_
    refine W.cond rfl (fun h => ?_) (fun h => ?_)
    · refine W.skip ?_
      refine N.th ?_
      have hi1 : i < 64 := by have := of_decide_eq_true h; omega
      obtain ⟨u0, hu0⟩ := hin (i := i) hi1
      have rdw : ∀ {wz : World} (k : Nat), k < i → wz.heap[g]? = some (.cells (enc32 (Sh.sch bl i) ++ enc32 (List.replicate (64 - i) 0)).toArray t64 (0, 0)) → wz.cell? ⟨g, 0 + k * 1, none⟩ = some (V32 (Sh.at_ (Sh.sch bl i) k)) := fun k hk hz => by
        rw [Nat.zero_add, Nat.mul_one]
        exact cell_of hz (rd32 (by rw [Sh.sch_len]; exact hk))
      have hd : Ext none_ w9 w9.drew := Ext.drew _ _
      have hgd := hd.obj hg9 id
      refine W.seq ?_
      refine W.block ?_
      refine W.seq ?_
      refine W.draw [] false (fun w' => w'.heap[g]? = some (.cells (enc32 (Sh.sch bl i) ++ enc32 (List.replicate (64 - i) 0)).toArray t64 (0, 0))) [0, 1, 2, 3, 4, 5, 6, 7, 8, 9] rfl rfl (by kernel_rfl) hgd ?_   -- held
      refine mv rfl rfl <| subI (c := ((i - 15 : Nat) : Int)) rfl rfl rfl (by rw [w64 (by omega) (by omega)]; omega) <| ixp rfl rfl u_t64 sz_u32 rfl (by omega) (by omega) <| ldK (v := V32 (Sh.at_ (Sh.sch bl i) (i - 15))) rfl ag_u32 rfl (fun w' h => rdw (i - 15) (by omega) h) <| mv rfl rfl <| subI (c := ((i - 2 : Nat) : Int)) rfl rfl rfl (by rw [w64 (by omega) (by omega)]; omega) <| ixp rfl rfl u_t64 sz_u32 rfl (by omega) (by omega) <| ldK (v := V32 (Sh.at_ (Sh.sch bl i) (i - 2))) rfl ag_u32 rfl (fun w' h => rdw (i - 2) (by omega) h) <| asg rfl rfl <| asg rfl rfl <| L.nilH ?_
      refine N.th ?_
      have hd2 : Ext none_ w9 w9.drew.drew := hd.trans (Ext.drew _ _)
      have hgd2 := hd2.obj hg9 id
      refine W.draw [] true (fun w' => w'.heap[g]? = some (.cells (enc32 (Sh.sch bl i) ++ enc32 (List.replicate (64 - i) 0)).toArray t64 (0, 0))) [0, 1, 2, 3, 4, 5, 7, 10, 11, 14, 15, 16, 17, 19, 21, 24, 25, 6, 8, 9, 12, 13, 18, 20, 22, 23, 26, 27, 28, 29] rfl rfl (by kernel_rfl) hgd2 ?_   -- held
      refine mv rfl rfl <| mv rfl rfl <| subI (c := ((i - 16 : Nat) : Int)) rfl rfl rfl (by rw [w64 (by omega) (by omega)]; omega) <| ixp rfl rfl u_t64 sz_u32 rfl (by omega) (by omega) <| ldK (v := V32 (Sh.at_ (Sh.sch bl i) (i - 16))) rfl ag_u32 rfl (fun w' h => rdw (i - 16) (by omega) h) <| mv rfl rfl <| mv rfl rfl <| mv rfl rfl <| shr32 (k := 3) rfl rfl rfl (by omega) <|
        mv rfl rfl <| subI (c := ((i - 7 : Nat) : Int)) rfl rfl rfl (by rw [w64 (by omega) (by omega)]; omega) <| ixp rfl rfl u_t64 sz_u32 rfl (by omega) (by omega) <| ldK (v := V32 (Sh.at_ (Sh.sch bl i) (i - 7))) rfl ag_u32 rfl (fun w' h => rdw (i - 7) (by omega) h) <| mv rfl rfl <| mv rfl rfl <| mv rfl rfl <| shr32 (k := 10) rfl rfl rfl (by omega) ?_
      refine callH (vs := [_, .int .i64 ((7 : Nat) : Int)]) rfl rfl ok_rturn (c_rturn _ 7 (by omega) (by omega) _) ?_
      rintro e w10 ⟨rfl, hx10⟩
      refine ⟨_, rfl, .inr fun h => hx10.obj h id, ?_⟩
      refine callH (vs := [_, .int .i64 ((18 : Nat) : Int)]) rfl rfl ok_rturn (c_rturn _ 18 (by omega) (by omega) _) ?_
      rintro e w11 ⟨rfl, hx11⟩
      refine ⟨_, rfl, .inr fun h => hx11.obj h id, ?_⟩
      refine xor32 rfl rfl rfl <| xor32 rfl rfl rfl <| add32 rfl rfl rfl <| add32 rfl rfl rfl ?_
      refine callH (vs := [_, .int .i64 ((17 : Nat) : Int)]) rfl rfl ok_rturn (c_rturn _ 17 (by omega) (by omega) _) ?_
      rintro e w12 ⟨rfl, hx12⟩
      refine ⟨_, rfl, .inr fun h => hx12.obj h id, ?_⟩
      refine callH (vs := [_, .int .i64 ((19 : Nat) : Int)]) rfl rfl ok_rturn (c_rturn _ 19 (by omega) (by omega) _) ?_
      rintro e w13 ⟨rfl, hx13⟩
      refine ⟨_, rfl, .inr fun h => hx13.obj h id, ?_⟩
      have hx913 : Ext none_ w9 w13 := (((hd2.trans hx10).trans hx11).trans hx12).trans hx13
      have hg13 := hx913.obj hg9 id
      refine xor32 rfl rfl rfl <| xor32 rfl rfl rfl <| add32 rfl rfl rfl <| ixp rfl rfl u_t64 sz_u32 rfl (by omega) (by omega) <| st1 rfl rfl sz_u32 rfl hg13 hu0 (hS := .inl ⟨rfl, rfl⟩) <| L.nilH ?_
      refine N.inb ?_
      refine N.th ?_
      refine W.reg <| mv rfl rfl <| addI (c := ((i + 1 : Nat) : Int)) rfl rfl rfl (by rw [w64 (by omega) (by omega)]; simp) <| asg rfl rfl <| L.nil ?_
      refine N.th (N.round (x := i + 1) ⟨rfl, rfl, rfl, rfl, rfl, rfl, rfl, trivial⟩ ⟨by omega, by omega, ?_, (hx9.trans hx913).trans' (Ext.setCell (S := fun k => k = g) _ (fun _ => rfl) _) hG⟩ (by omega))   -- ROUND
      refine stored (i := i) (Sh.nw (Sh.sch bl i) i) hi1 hg13 ?_
      rw [Sh.sch, if_neg (by omega)]
    refine W.exit ?_
    refine N.xth ?_
    refine N.xth ?_
    refine N.xeq ?_
    refine N.th ?_
    have hi64 : i = 64 := by have := of_decide_eq_false h; omega
    subst hi64
    clear hset hin stored
    have hh9 := hx9.obj hh6 id
    have hd9 : Ext none_ w9 w9.drew := Ext.drew _ _
    refine W.seq ?_
    refine W.draw [] false (fun w' => w'.heap[h3]? = some (.cells (enc32 s.l).toArray t8 (0, 0))) [0, 1, 2, 3, 4, 5, 6, 7, 8, 9, 10, 11, 12, 13, 14, 15, 16, 17, 18, 19, 20, 21, 22, 23] rfl rfl (by kernel_rfl) (hd9.obj hh9 id) ?_   -- held
    refine ixp rfl rfl u_t8 sz_u32 rfl (by omega) (by omega) <| ldK (v := V32 s.a) rfl ag_u32 rfl (fun w' h => cell_of h rfl) <| ixp rfl rfl u_t8 sz_u32 rfl (by omega) (by omega) <| ldK (v := V32 s.b) rfl ag_u32 rfl (fun w' h => cell_of h rfl) <| ixp rfl rfl u_t8 sz_u32 rfl (by omega) (by omega) <| ldK (v := V32 s.c) rfl ag_u32 rfl (fun w' h => cell_of h rfl) <| ixp rfl rfl u_t8 sz_u32 rfl (by omega) (by omega) <| ldK (v := V32 s.d) rfl ag_u32 rfl (fun w' h => cell_of h rfl) <|
      ixp rfl rfl u_t8 sz_u32 rfl (by omega) (by omega) <| ldK (v := V32 s.e) rfl ag_u32 rfl (fun w' h => cell_of h rfl) <| ixp rfl rfl u_t8 sz_u32 rfl (by omega) (by omega) <| ldK (v := V32 s.f) rfl ag_u32 rfl (fun w' h => cell_of h rfl) <| ixp rfl rfl u_t8 sz_u32 rfl (by omega) (by omega) <| ldK (v := V32 s.g) rfl ag_u32 rfl (fun w' h => cell_of h rfl) <| ixp rfl rfl u_t8 sz_u32 rfl (by omega) (by omega) <| ldK (v := V32 s.h) rfl ag_u32 rfl (fun w' h => cell_of h rfl) <|
      asg rfl rfl <| asg rfl rfl <| asg rfl rfl <| asg rfl rfl <| asg rfl rfl <| asg rfl rfl <| asg rfl rfl <| asg rfl rfl <| L.nilH ?_
    refine N.th ?_
    refine W.seq ?_
    refine W.seq ?_
    refine W.reg <| asg rfl rfl <| L.nil ?_
    refine N.th ?_
    refine W.block ?_
    refine W.loop (X := Nat) (fun i => [(20, .int .i64 i), (12, V32 (Sh.rounds bl s i).a), (13, V32 (Sh.rounds bl s i).b), (14, V32 (Sh.rounds bl s i).c), (15, V32 (Sh.rounds bl s i).d), (16, V32 (Sh.rounds bl s i).e), (17, V32 (Sh.rounds bl s i).f), (18, V32 (Sh.rounds bl s i).g), (19, V32 (Sh.rounds bl s i).h),
        (7, .pointer (some ⟨g, 0, none⟩)), (6, .int .i64 ((64 * j : Nat) : Int)), (5, .slice (some ⟨pb, po, none⟩) p.length pc), (4, .pointer (some ⟨k4, 0, none⟩)), (3, .pointer (some ⟨h3, 0, none⟩)), (2, .pointer (some ⟨o, 0, none⟩))])
      (fun i w' => i ≤ 64 ∧ Ext none_ w9 w') (fun i => 64 - i) 0 ⟨rfl, rfl, rfl, rfl, rfl, rfl, rfl, rfl, rfl, rfl, rfl, rfl, rfl, rfl, rfl, trivial⟩ ⟨by omega, hd9⟩ ?_
    rintro i w10 ⟨hi2, hx10⟩
    refine W.seq ?_
    refine W.seq ?_
    refine W.reg <| mv rfl rfl <| lssI rfl rfl rfl <| L.nil ?_
    refine N.th ?_
    refine W.cond rfl (fun h => ?_) (fun h => ?_)
    · refine W.skip ?_
      refine N.th ?_
      have hi1 : i < 64 := by have := of_decide_eq_true h; omega
      have hstep : Sh.rounds bl s (i + 1) = Sh.step (Sh.rounds bl s i) (Sh.at_ Sh.K i) (Sh.at_ (Sh.sch bl 64) i) := rfl
      generalize Sh.rounds bl s i = r at hstep ⊢
      have hk9 := hx9.obj hk6 id
      have rdw : ∀ {wz : World}, Ext none_ w9 wz → wz.cell? ⟨g, 0 + i * 1, none⟩ = some (V32 (Sh.at_ (Sh.sch bl 64) i)) := fun hz => by
        rw [Nat.zero_add, Nat.mul_one]
        exact cell_of (hz.obj hg9 id) (rd32 (by rw [Sh.sch_len]; exact hi1))
      have rdk : ∀ {wz : World}, Ext none_ w9 wz → wz.cell? ⟨k4, 0 + i * 1, none⟩ = some (V32 (Sh.at_ Sh.K i)) := fun hz => by
        rw [Nat.zero_add, Nat.mul_one]
        refine cell_of (hz.obj hk9 id) ?_
        rw [List.getElem?_toArray]
        have : Sh.K[i]? = some (Sh.at_ Sh.K i) := by unfold Sh.at_; rw [List.getElem?_eq_getElem (by rw [Sh.K_len]; exact hi1)]; rfl
        exact enc32_get this
      have hd : Ext none_ w10 w10.drew := Ext.drew _ _
      refine W.seq ?_
      refine W.block ?_
      refine W.seq ?_
      refine W.draw [] false (fun w' => Ext none_ w9 w') [0, 1, 3, 6, 10, 11, 12, 13, 14, 15, 16, 17, 19, 20, 21, 23, 24, 25, 2, 4, 5, 7, 8, 9, 18, 22, 26, 27] rfl rfl (by kernel_rfl) (hx10.trans hd) ?_   -- held
      refine mv rfl rfl <| mv rfl rfl <| mv rfl rfl <| mv rfl rfl <| mv rfl rfl <| mv rfl rfl <| and32 rfl rfl rfl <| mv rfl rfl <| not32 rfl rfl <| mv rfl rfl <| and32 rfl rfl rfl <| xor32 rfl rfl rfl <| mv rfl rfl <| ixp rfl rfl u_t64 sz_u32 rfl (by omega) (by omega) <| ldK (v := V32 (Sh.at_ Sh.K i)) rfl ag_u32 rfl (fun w' h => rdk h) <| mv rfl rfl <| ixp rfl rfl u_t64 sz_u32 rfl (by omega) (by omega) <| ldK (v := V32 (Sh.at_ (Sh.sch bl 64) i)) rfl ag_u32 rfl (fun w' h => rdw h) ?_
      refine callH (vs := [_, .int .i64 ((6 : Nat) : Int)]) rfl rfl ok_rturn (c_rturn _ 6 (by omega) (by omega) _) ?_
      rintro e w11 ⟨rfl, hx11⟩
      refine ⟨_, rfl, .inr fun h => h.trans hx11, ?_⟩
      refine callH (vs := [_, .int .i64 ((11 : Nat) : Int)]) rfl rfl ok_rturn (c_rturn _ 11 (by omega) (by omega) _) ?_
      rintro e w12 ⟨rfl, hx12⟩
      refine ⟨_, rfl, .inr fun h => h.trans hx12, ?_⟩
      refine xor32 rfl rfl rfl ?_
      refine callH (vs := [_, .int .i64 ((25 : Nat) : Int)]) rfl rfl ok_rturn (c_rturn _ 25 (by omega) (by omega) _) ?_
      rintro e w13 ⟨rfl, hx13⟩
      refine ⟨_, rfl, .inr fun h => h.trans hx13, ?_⟩
      refine xor32 rfl rfl rfl <| add32 rfl rfl rfl <| add32 rfl rfl rfl <| add32 rfl rfl rfl <| add32 rfl rfl rfl <| asg rfl rfl <| L.nilH ?_
      refine N.th ?_
      refine W.seq ?_
      refine W.reg <| mv rfl rfl <| call (vs := [_, .int .i64 ((2 : Nat) : Int)]) rfl rfl ok_rturn (c_rturn _ 2 (by omega) (by omega) _) ?_
      rintro e w14 ⟨rfl, hx14⟩
      refine ⟨_, rfl, ?_⟩
      refine mv rfl rfl <| call (vs := [_, .int .i64 ((13 : Nat) : Int)]) rfl rfl ok_rturn (c_rturn _ 13 (by omega) (by omega) _) ?_
      rintro e w15 ⟨rfl, hx15⟩
      refine ⟨_, rfl, ?_⟩
      refine xor32 rfl rfl rfl <| mv rfl rfl <| call (vs := [_, .int .i64 ((22 : Nat) : Int)]) rfl rfl ok_rturn (c_rturn _ 22 (by omega) (by omega) _) ?_
      rintro e w16 ⟨rfl, hx16⟩
      refine ⟨_, rfl, ?_⟩
      refine xor32 rfl rfl rfl <| mv rfl rfl <| mv rfl rfl <| and32 rfl rfl rfl <| mv rfl rfl <| mv rfl rfl <| and32 rfl rfl rfl <| xor32 rfl rfl rfl <| mv rfl rfl <| mv rfl rfl <| and32 rfl rfl rfl <| xor32 rfl rfl rfl <| add32 rfl rfl rfl <| asg rfl rfl <| L.nil ?_
      refine N.th ?_
      refine W.reg <| mv rfl rfl <| mv rfl rfl <| add32 rfl rfl rfl <| mv rfl rfl <| mv rfl rfl <| mv rfl rfl <| mv rfl rfl <| mv rfl rfl <| add32 rfl rfl rfl <| mv rfl rfl <| mv rfl rfl <| mv rfl rfl <| asg rfl rfl <| asg rfl rfl <| asg rfl rfl <| asg rfl rfl <| asg rfl rfl <| asg rfl rfl <| asg rfl rfl <| asg rfl rfl <| L.nil ?_
      refine N.inb ?_
      refine N.th ?_
      refine W.reg <| mv rfl rfl <| addI (c := ((i + 1 : Nat) : Int)) rfl rfl rfl (by rw [w64 (by omega) (by omega)]; simp) <| asg rfl rfl <| L.nil ?_
      refine N.th (N.round (x := i + 1) ?_ ⟨by omega, (((((hx10.trans hd).trans hx11).trans hx12).trans hx13).trans hx14).trans (hx15.trans hx16)⟩ (by omega))   -- ROUND
      rw [hstep]
      exact ⟨rfl, rfl, rfl, rfl, rfl, rfl, rfl, rfl, rfl, rfl, rfl, rfl, rfl, rfl, rfl, trivial⟩
    refine W.exit ?_
    refine N.xth ?_
    refine N.xth ?_
    refine N.xeq ?_
    refine N.th ?_
    have hi64 : i = 64 := by have := of_decide_eq_false h; omega
    subst hi64
    have hturn : Sh.turn s bl = s.add (Sh.rounds bl s 64) := rfl
    generalize Sh.rounds bl s 64 = r at hturn ⊢
    have hx610 := hx9.trans hx10
    have hh10 := hx610.obj hh6 id
    have hx10h : Ext (fun k => k = h3) w6 w10 := hx610.none
    have hh10' : w10.heap[h3]? = some (.cells (enc32 [s.a, s.b, s.c, s.d, s.e, s.f, s.g, s.h]).toArray t8 (0, 0)) := hh10
    refine W.seq ?_
    refine W.reg <| ixp rfl rfl u_t8 sz_u32 rfl (by omega) (by omega) <| ld1 (v := V32 s.a) rfl ag_u32 rfl (cell_of hh10' rfl) <| mv rfl rfl <| add32 rfl rfl rfl <| ixp rfl rfl u_t8 sz_u32 rfl (by omega) (by omega) <| ld1 (v := V32 s.b) rfl ag_u32 rfl (cell_of hh10' rfl) <| mv rfl rfl <| add32 rfl rfl rfl <| ixp rfl rfl u_t8 sz_u32 rfl (by omega) (by omega) <| ld1 (v := V32 s.c) rfl ag_u32 rfl (cell_of hh10' rfl) <| mv rfl rfl <| add32 rfl rfl rfl <| ixp rfl rfl u_t8 sz_u32 rfl (by omega) (by omega) <| ld1 (v := V32 s.d) rfl ag_u32 rfl (cell_of hh10' rfl) <| mv rfl rfl <| add32 rfl rfl rfl ?_
    refine ixp rfl rfl u_t8 sz_u32 rfl (by omega) (by omega) <| st1 rfl rfl sz_u32 rfl hh10' rfl ?_
    generalize hwe1 : World.setCell _ _ _ = we1
    have hhe1 : we1.heap[h3]? = some (.cells (enc32 [s.a + r.a, s.b, s.c, s.d, s.e, s.f, s.g, s.h]).toArray t8 (0, 0)) := by rw [← hwe1]; exact st8 (i := 0) hh10' rfl
    have hxe1 : Ext (fun k => k = h3) w6 we1 := by rw [← hwe1]; exact hx10h.trans (Ext.setCell (S := fun k => k = h3) _ (fun _ => rfl) _)
    refine ixp rfl rfl u_t8 sz_u32 rfl (by omega) (by omega) <| st1 rfl rfl sz_u32 rfl hhe1 rfl ?_
    generalize hwe2 : World.setCell _ _ _ = we2
    have hhe2 : we2.heap[h3]? = some (.cells (enc32 [s.a + r.a, s.b + r.b, s.c, s.d, s.e, s.f, s.g, s.h]).toArray t8 (0, 0)) := by rw [← hwe2]; exact st8 (i := 1) hhe1 rfl
    have hxe2 : Ext (fun k => k = h3) w6 we2 := by rw [← hwe2]; exact hxe1.trans (Ext.setCell (S := fun k => k = h3) _ (fun _ => rfl) _)
    refine ixp rfl rfl u_t8 sz_u32 rfl (by omega) (by omega) <| st1 rfl rfl sz_u32 rfl hhe2 rfl ?_
    generalize hwe3 : World.setCell _ _ _ = we3
    have hhe3 : we3.heap[h3]? = some (.cells (enc32 [s.a + r.a, s.b + r.b, s.c + r.c, s.d, s.e, s.f, s.g, s.h]).toArray t8 (0, 0)) := by rw [← hwe3]; exact st8 (i := 2) hhe2 rfl
    have hxe3 : Ext (fun k => k = h3) w6 we3 := by rw [← hwe3]; exact hxe2.trans (Ext.setCell (S := fun k => k = h3) _ (fun _ => rfl) _)
    refine ixp rfl rfl u_t8 sz_u32 rfl (by omega) (by omega) <| st1 rfl rfl sz_u32 rfl hhe3 rfl ?_
    generalize hwe4 : World.setCell _ _ _ = we4
    have hhe4 : we4.heap[h3]? = some (.cells (enc32 [s.a + r.a, s.b + r.b, s.c + r.c, s.d + r.d, s.e, s.f, s.g, s.h]).toArray t8 (0, 0)) := by rw [← hwe4]; exact st8 (i := 3) hhe3 rfl
    have hxe4 : Ext (fun k => k = h3) w6 we4 := by rw [← hwe4]; exact hxe3.trans (Ext.setCell (S := fun k => k = h3) _ (fun _ => rfl) _)
    refine L.nil ?_
    refine N.th ?_
    refine W.reg <| ixp rfl rfl u_t8 sz_u32 rfl (by omega) (by omega) <| ld1 (v := V32 s.e) rfl ag_u32 rfl (cell_of hhe4 rfl) <| mv rfl rfl <| add32 rfl rfl rfl <| ixp rfl rfl u_t8 sz_u32 rfl (by omega) (by omega) <| ld1 (v := V32 s.f) rfl ag_u32 rfl (cell_of hhe4 rfl) <| mv rfl rfl <| add32 rfl rfl rfl <| ixp rfl rfl u_t8 sz_u32 rfl (by omega) (by omega) <| ld1 (v := V32 s.g) rfl ag_u32 rfl (cell_of hhe4 rfl) <| mv rfl rfl <| add32 rfl rfl rfl <| ixp rfl rfl u_t8 sz_u32 rfl (by omega) (by omega) <| ld1 (v := V32 s.h) rfl ag_u32 rfl (cell_of hhe4 rfl) <| mv rfl rfl <| add32 rfl rfl rfl ?_
    refine ixp rfl rfl u_t8 sz_u32 rfl (by omega) (by omega) <| st1 rfl rfl sz_u32 rfl hhe4 rfl ?_
    generalize hwe5 : World.setCell _ _ _ = we5
    have hhe5 : we5.heap[h3]? = some (.cells (enc32 [s.a + r.a, s.b + r.b, s.c + r.c, s.d + r.d, s.e + r.e, s.f, s.g, s.h]).toArray t8 (0, 0)) := by rw [← hwe5]; exact st8 (i := 4) hhe4 rfl
    have hxe5 : Ext (fun k => k = h3) w6 we5 := by rw [← hwe5]; exact hxe4.trans (Ext.setCell (S := fun k => k = h3) _ (fun _ => rfl) _)
    refine ixp rfl rfl u_t8 sz_u32 rfl (by omega) (by omega) <| st1 rfl rfl sz_u32 rfl hhe5 rfl ?_
    generalize hwe6 : World.setCell _ _ _ = we6
    have hhe6 : we6.heap[h3]? = some (.cells (enc32 [s.a + r.a, s.b + r.b, s.c + r.c, s.d + r.d, s.e + r.e, s.f + r.f, s.g, s.h]).toArray t8 (0, 0)) := by rw [← hwe6]; exact st8 (i := 5) hhe5 rfl
    have hxe6 : Ext (fun k => k = h3) w6 we6 := by rw [← hwe6]; exact hxe5.trans (Ext.setCell (S := fun k => k = h3) _ (fun _ => rfl) _)
    refine ixp rfl rfl u_t8 sz_u32 rfl (by omega) (by omega) <| st1 rfl rfl sz_u32 rfl hhe6 rfl ?_
    generalize hwe7 : World.setCell _ _ _ = we7
    have hhe7 : we7.heap[h3]? = some (.cells (enc32 [s.a + r.a, s.b + r.b, s.c + r.c, s.d + r.d, s.e + r.e, s.f + r.f, s.g + r.g, s.h]).toArray t8 (0, 0)) := by rw [← hwe7]; exact st8 (i := 6) hhe6 rfl
    have hxe7 : Ext (fun k => k = h3) w6 we7 := by rw [← hwe7]; exact hxe6.trans (Ext.setCell (S := fun k => k = h3) _ (fun _ => rfl) _)
    refine ixp rfl rfl u_t8 sz_u32 rfl (by omega) (by omega) <| st1 rfl rfl sz_u32 rfl hhe7 rfl ?_
    generalize hwe8 : World.setCell _ _ _ = we8
    have hhe8 : we8.heap[h3]? = some (.cells (enc32 [s.a + r.a, s.b + r.b, s.c + r.c, s.d + r.d, s.e + r.e, s.f + r.f, s.g + r.g, s.h + r.h]).toArray t8 (0, 0)) := by rw [← hwe8]; exact st8 (i := 7) hhe7 rfl
    have hxe8 : Ext (fun k => k = h3) w6 we8 := by rw [← hwe8]; exact hxe7.trans (Ext.setCell (S := fun k => k = h3) _ (fun _ => rfl) _)
    refine L.nil ?_
    refine N.inb ?_
    refine N.th ?_
    refine W.reg <| mv rfl rfl <| addI (c := ((64 * (j + 1) : Nat) : Int)) rfl rfl rfl (by rw [w64 (by omega) (by omega)]; omega) <| asg rfl rfl <| L.nil ?_
    refine N.th (N.round (x := j + 1) ⟨rfl, rfl, rfl, rfl, rfl, trivial⟩ ⟨by omega, ?_, hxe8.obj hk6 hkk3, hxe8.obj ho6 hok3, own_ext hp6 hxe8 (fun k hk e => ?_), hx6.trans' hxe8 (fun i hi e => by omega)⟩ (by omega))   -- ROUND
    · rw [hfd, hturn]
      exact hhe8
    · subst e
      obtain ⟨ck, fk, hk⟩ := own_kind hp6 _ hk
      rw [hh6] at hk; cases hk
  refine W.exit ?_
  refine N.xth ?_
  refine N.xth ?_
  refine N.xeq ?_
  refine N.th ?_
  have hjl : p.length / 64 = j := by have := of_decide_eq_false h; omega
  rw [hjl]
  generalize Sh.fd p j = s at hh6 ⊢
  refine W.seq ?_
  refine W.reg <| new ze_t32 rfl <| L.nil ?_
  refine N.th ?_
  obtain ⟨q, hq⟩ : ∃ q, q = w6.heap.size := ⟨_, rfl⟩
  obtain ⟨w7, hw7⟩ : ∃ w7, w7 = w6.alloc (.cells (encB (List.replicate 32 0)).toArray t32) := ⟨_, rfl⟩
  have hq7 : w7.heap[q]? = some (.cells (encB ((Sh.dig s).take 0) ++ encB (List.replicate (32 - 0) 0)).toArray t32 (0, 0)) := by rw [hw7, hq]; exact heap_new _ _
  have hx7 : Ext none_ w6 w7 := by rw [hw7]; exact Ext.alloc _ _ _
  rw [show w6.alloc (.cells (Value.cells (.agg (encB (List.replicate 32 0)).toArray)) t32) = w7 from hw7.symm, ← hq]
  have hQ : ∀ i, i < w6.heap.size → i = q → none_ i := fun i hi e => by omega
  refine W.seq ?_
  refine W.seq ?_
  refine W.reg <| asg rfl rfl <| L.nil ?_
  refine N.th ?_
  refine W.block ?_
  refine W.loop (X := Nat) (fun i => [(24, .int .i64 i), (23, .pointer (some ⟨q, 0, none⟩)), (3, .pointer (some ⟨h3, 0, none⟩)), (2, .pointer (some ⟨o, 0, none⟩))])
    (fun i w' => i ≤ 32 ∧ w'.heap[q]? = some (.cells (encB ((Sh.dig s).take i) ++ encB (List.replicate (32 - i) 0)).toArray t32 (0, 0)) ∧ Ext none_ w6 w') (fun i => 32 - i) 0 ⟨rfl, rfl, rfl, rfl, trivial⟩ ⟨by omega, hq7, hx7⟩ ?_
  rintro i w8 ⟨hi, hq8, hx8⟩
  refine W.seq ?_
  refine W.seq ?_
  refine W.reg <| mv rfl rfl <| lssI rfl rfl rfl <| L.nil ?_
  refine N.th ?_
  refine W.cond rfl (fun h => ?_) (fun h => ?_)
  · refine W.skip ?_
    refine N.th ?_
    have hi1 : i < 32 := by have := of_decide_eq_true h; omega
    have hh8 := hx8.obj hh6 id
    obtain ⟨y, hy⟩ : ∃ y : UInt8, y = UInt8.ofNat ((Sh.at_ s.l (i / 4)) >>> (24 - 8 * (i % 4))).toNat := ⟨_, rfl⟩
    have hget : (Sh.dig s)[i]? = some y := by rw [hy]; simp [Sh.dig, hi1]
    obtain ⟨u0, hu0⟩ : ∃ u, (encB ((Sh.dig s).take i) ++ encB (List.replicate (32 - i) 0)).toArray[0 + i * 1]? = some u := ⟨_, Array.getElem?_eq_getElem (by simp [encB, Sh.dig_len]; omega)⟩
    refine W.seq ?_
    refine W.block ?_
    refine W.reg <| mv rfl rfl <| mv rfl rfl <| quoI (c := ((i / 4 : Nat) : Int)) rfl rfl rfl (by decide) (by rw [show ((i : Int).tdiv 4) = ((i / 4 : Nat) : Int) from rfl]; exact w64 (by omega) (by omega)) <| ixp rfl rfl u_t8 sz_u32 rfl (by omega) (by omega) <| ld1 (v := V32 (Sh.at_ s.l (i / 4))) rfl ag_u32 rfl (cell_of hh8 (l_get s (by omega))) <| mv rfl rfl <| remI (c := ((i % 4 : Nat) : Int)) rfl rfl rfl (by decide) rfl <| mulI (c := ((8 * (i % 4) : Nat) : Int)) rfl rfl rfl (by rw [w64 (by omega) (by omega)]; omega) <| subI (c := ((24 - 8 * (i % 4) : Nat) : Int)) rfl rfl rfl (by rw [w64 (by omega) (by omega)]; omega) <| shr32 (k := 24 - 8 * (i % 4)) rfl rfl rfl (by omega) <| b8 rfl u_u8 u_u32 rfl <|
      ixp rfl rfl u_t32 el_bytes.szB rfl (by omega) (by omega) <| st1 rfl rfl sz_u8 rfl hq8 hu0 <| L.nil ?_
    refine N.inb ?_
    refine N.th ?_
    refine W.reg <| mv rfl rfl <| addI (c := ((i + 1 : Nat) : Int)) rfl rfl rfl (by rw [w64 (by omega) (by omega)]; simp) <| asg rfl rfl <| L.nil ?_
    refine N.th (N.round (x := i + 1) ⟨rfl, rfl, rfl, rfl, trivial⟩ ⟨by omega, ?_, hx8.trans' (Ext.setCell (S := fun k => k = q) _ (fun _ => rfl) _) hQ⟩ (by omega))   -- ROUND
    rw [← hy, setCell_heap hq8, ← setB (Sh.dig_len s) hi1 hget]
    have : 0 + ((i : Nat) : Int).toNat * 1 = i := by omega
    rw [this]
  · refine W.exit ?_
    refine N.xth ?_
    refine N.xth ?_
    refine N.xeq ?_
    refine N.th ?_
    have hi32 : i = 32 := by have := of_decide_eq_false h; omega
    subst hi32
    have hq9 : w8.heap[q]? = some (.cells (encB (Sh.dig s)).toArray t32 (0, 0)) := by
      rw [hq8, List.take_of_length_le (by rw [Sh.dig_len]; exact Nat.le_refl _)]
      simp [encB]
    have hlen : (encB (Sh.dig s)).length = 32 := by simp [encB, Sh.dig_len]
    refine W.seq ?_
    refine W.reg <| ldk (cs := encB (Sh.dig s)) rfl ag_t32 sz_t32 rfl hlen (row_cells hq9) <| stR (cells := (encB (Sh.dig s)).toArray) rfl rfl (by rw [sz_t32]; simp [hlen]) (oneB _) (hx8.obj ho6 id) (by simp [encB, Sh.dig_len]) <| L.nil ?_
    refine N.th ?_
    refine W.ret ?_
    refine N.retC (cs := encB (Sh.dig s)) rfl rfl ag_t32 (by rw [sz_t32, hlen]) (row_cells (setRow_heap _ _ _ _ _ _ (hx8.obj ho6 id))) ?_
    exact ⟨rfl, (hx6.trans hx8).trans' (Ext.setRow (S := fun k => k = o) _ (fun _ => rfl) _) (fun i hi e => by omega)⟩
end Go.Proofs.YtmdpmpdlkaogdaaGreatDoor

namespace Go.Proofs.YtmdpmpdlkaogdaaGreatDoor
namespace Sh
def fdl (s : St) (l : List UInt8) : Nat → St
  | 0 => s
  | n + 1 => turn (fdl s l n) (l.drop (64 * n))
/-- What does not fill a block. -/
def rest (b : List UInt8) : List UInt8 := b.drop (64 * (b.length / 64))
theorem rest_len (b : List UInt8) : (rest b).length = b.length % 64 := by unfold rest; rw [List.length_drop]; omega
def stop (k : Nat) : Nat := if 64 < k + 9 then 128 else 64
/-- The last blocks. -/
def last (b : List UInt8) (i : Nat) : List UInt8 := rest b ++ [128] ++ List.replicate (stop (rest b).length - (rest b).length - 9) 0 ++ (len8 (8 * b.length)).take i ++ List.replicate (136 - stop (rest b).length - i) 0
theorem fd_eq (p q : List UInt8) : ∀ m, (∀ i, i < 64 * m → p[i]? = q[i]?) → fd p m = fd q m := by
  intro m
  induction m with
  | zero => intro _; rfl
  | succ m ih =>
    intro h
    rw [fd, fd, ih fun i hi => h i (by omega)]
    refine turn_take _ _ _ fun i hi => ?_
    rw [List.getElem?_drop, List.getElem?_drop]
    exact h _ (by omega)
theorem fd_add (p l : List UInt8) (m : Nat) (h : ∀ i, p[64 * m + i]? = l[i]? ∨ l.length ≤ i) : ∀ n, 64 * n ≤ l.length → fd p (m + n) = fdl (fd p m) l n := by
  intro n
  induction n with
  | zero => intro _; rfl
  | succ n ih =>
    intro hn
    rw [← Nat.add_assoc, fd, fdl, ih (by omega)]
    refine turn_take _ _ _ fun i hi => ?_
    rw [List.getElem?_drop, List.getElem?_drop]
    rcases h (64 * n + i) with e | e
    · rw [← e]; congr 1; omega
    · omega
theorem fdl_eq (s : St) (l k : List UInt8) : ∀ n, (∀ i, i < 64 * n → l[i]? = k[i]?) → fdl s l n = fdl s k n := by
  intro n
  induction n with
  | zero => intro _; rfl
  | succ n ih =>
    intro h
    rw [fdl, fdl, ih fun i hi => h i (by omega)]
    refine turn_take _ _ _ fun i hi => ?_
    rw [List.getElem?_drop, List.getElem?_drop]
    exact h _ (by omega)
theorem sum_eq (b : List UInt8) : sum b = dig (fdl (fd b (b.length / 64)) (last b 8) (stop (rest b).length / 64)) := by
  have hr := rest_len b
  have hsp : b = b.take (64 * (b.length / 64)) ++ rest b := (List.take_append_drop _ _).symm
  have hz : zeros b.length = stop (rest b).length - (rest b).length - 9 := by
    rw [hr]; unfold zeros stop; split <;> omega
  have hst : stop (rest b).length = 64 ∨ stop (rest b).length = 128 := by unfold stop; split <;> simp
  obtain ⟨l, hl⟩ : ∃ l, l = rest b ++ [128] ++ List.replicate (zeros b.length) 0 ++ len8 (8 * b.length) := ⟨_, rfl⟩
  have hpad : pad b = b.take (64 * (b.length / 64)) ++ l := by
    have e : pad b = b ++ ([128] ++ List.replicate (zeros b.length) 0 ++ len8 (8 * b.length)) := by simp [pad]
    rw [e, hl]
    conv => lhs; arg 1; rw [hsp]
    simp only [List.append_assoc]
  have hll : l.length = stop (rest b).length := by
    rw [hl]
    simp only [List.length_append, List.length_cons, List.length_nil, List.length_replicate, len8_len]
    rw [hz]
    have : (rest b).length + 9 ≤ stop (rest b).length := by rw [hr]; unfold stop; split <;> omega
    omega
  have htl : (b.take (64 * (b.length / 64))).length = 64 * (b.length / 64) := by rw [List.length_take]; omega
  have hpl : (pad b).length / 64 = b.length / 64 + stop (rest b).length / 64 := by
    rw [hpad, List.length_append, htl, hll]
    rcases hst with e | e <;> rw [e] <;> omega
  have h1 : fd (pad b) (b.length / 64) = fd b (b.length / 64) := fd_eq _ _ _ fun i hi => by
    rw [hpad, List.getElem?_append_left (by omega), List.getElem?_take, if_pos hi]
  unfold sum
  rw [hpl, fd_add (pad b) l (b.length / 64) (fun i => .inl (by rw [hpad, List.getElem?_append_right (by omega), htl]; congr 1; omega)) _ (by rw [hll]; rcases hst with e | e <;> rw [e] <;> omega), h1]
  congr 1
  refine fdl_eq _ _ _ _ fun i hi => ?_
  have hil : i < l.length := by rw [hll]; rcases hst with e | e <;> rw [e] at hi ⊢ <;> omega
  have hlast : last b 8 = l ++ List.replicate (136 - stop (rest b).length - 8) 0 := by
    unfold last
    rw [hl, hz, List.take_of_length_le (by rw [len8_len]; exact Nat.le_refl _)]
  rw [hlast, List.getElem?_append_left hil]
end Sh
end Go.Proofs.YtmdpmpdlkaogdaaGreatDoor

namespace Go.Proofs.YtmdpmpdlkaogdaaGreatDoor
open Go Go.RowKit Vc
abbrev tKey : TypeId := 28
abbrev t128 : TypeId := 135
theorem sz_Key : szB P tKey = some 32 := by kernel_rfl
theorem ag_Key : aggB P tKey = some true := by kernel_rfl
theorem ze_Key : zeroB P tKey = some (.agg (encB (List.replicate 32 0)).toArray) := by kernel_rfl
theorem u_Key : P.underlying tKey = some (.array 32 5) := Tryz.underlying28
theorem u_t128 : P.underlying t128 = some (.array 128 5) := Tryz.underlying135
theorem ze_t128 : zeroB P t128 = some (.agg (encB (List.replicate 128 0)).toArray) := by kernel_rfl
theorem ok_sSum : FnOk P 58 := ⟨_, Tryz.func58, by kernel_rfl, by kernel_rfl⟩

theorem BytA.st {w w' : World} {bt : Nat} {s : Sh.St} {v : Value} {b : List UInt8} (h : BytA w v b) (hs : StAt w bt s) (hx : Ext (fun k => k = bt) w w') : BytA w' v b :=
  RowA.keep h hx.size fun ad u hu hb hcell => hx.block _ hb fun e => by
    obtain ⟨x, -, rfl⟩ := List.mem_map.1 hu
    unfold World.cell? at hcell
    rw [e, hs] at hcell
    simp only at hcell
    split at hcell
    · cases hcell
    · have hm := Array.mem_of_getElem? hcell
      simp only [List.mem_toArray, List.mem_append, enc32, List.mem_map] at hm
      rcases hm with ⟨y, -, hy⟩ | ⟨y, -, hy⟩ <;> cases hy
theorem RowA.drop {w : World} {a : Option Addr} {cap k : Nat} {l : List UInt8} (h : BytA w (.slice a l.length cap) l) (hk : k ≤ l.length) (hk0 : 0 < k) : ∃ b o, a = some ⟨b, o, none⟩ ∧ ∀ ad : Addr, (k < cap → ad = ⟨b, o + k * 1, none⟩) → BytA w (.slice (some ad) (l.length - k) (cap - k)) (l.drop k) := by
  obtain ⟨b, o, c, e, h1, h2, h3, hc⟩ := RowA.plain h (fun e => by have := congrArg List.length e; simp [encB] at this; subst this; simp at hk; omega)
  cases e
  refine ⟨b, o, rfl, fun ad had => ⟨some ad, cap - k, by rw [List.length_drop], by rw [List.length_drop]; omega, by omega, (fun h => by cases h), fun j u hj => ?_⟩⟩
  rw [encB, List.map_drop, List.getElem?_drop] at hj
  have hlt : k + j < l.length := by have := (List.getElem?_eq_some_iff.1 hj).1; simpa using this
  rw [had (by omega)]
  refine ⟨_, rfl, h3, ?_⟩
  rw [add_at, show o + k * 1 + j = o + (k + j) by omega]
  exact hc (k + j) u hj

section
variable {st : Sty} [Wy st] {P : Program} {ds : List Deferred} {n : Nat} {Q : Exit → Act → World → Prop} {E : Env} {w : World} {ops : Array Oper} {l : List Oper}
variable {d : Nat} {ty : TypeId} {pos : String} {af : Array Edge}
theorem cpN {dT sT elem : TypeId} {x y : Operand} {dl dc : Nat} {ad : Addr} (hx : opd E x = some (.slice (some ad) dl dc)) (hy : opd E y = some (.slice none 0 0)) (hd : Nat.blt d n = true) (hu : P.underlying dT = some (.slice elem)) (hs : szB P elem = some 1)
    (k : LY st P ds n ops l Q ((d, .int .i64 ((0 : Nat) : Int)) :: E) w) (hk : st.keeps l w w := by trivial) : LY st P ds n ops (⟨some d, .call ⟨.builtin .copy, #[x, y], #[dT, sT]⟩, ty, pos, af, none⟩ :: l) Q E w := by
  have hs' : ((P.info? elem).map (·.size)).isSome = true := by
    have h : (P.info? elem).map (·.size) = some 1 := hs
    rw [h]; rfl
  have hr := run_copy_nil (P := P) w dT sT ty elem ad dl dc hu hs'
  exact bltinY (vs := [.slice (some ad) dl dc, .slice none 0 0]) (by simp [hx, hy]) hd (fun _ => by simp [builtin, hr, goInt]) k (fun _ _ _ _ => rfl) hk
end
theorem last_len (b : List UInt8) : (Sh.last b 8).length = 128 ∧ Sh.stop (Sh.rest b).length ≤ 128 ∧ (Sh.rest b).length + 9 ≤ Sh.stop (Sh.rest b).length ∧ (Sh.rest b).length < 64 ∧ (Sh.stop (Sh.rest b).length = 64 ∨ Sh.stop (Sh.rest b).length = 128) := by
  have hr := Sh.rest_len b
  have h1 : Sh.stop (Sh.rest b).length ≤ 128 ∧ (Sh.rest b).length + 9 ≤ Sh.stop (Sh.rest b).length ∧ (Sh.stop (Sh.rest b).length = 64 ∨ Sh.stop (Sh.rest b).length = 128) := by rw [hr]; unfold Sh.stop; split <;> omega
  refine ⟨?_, h1.1, h1.2.1, by omega, h1.2.2⟩
  unfold Sh.last
  simp only [List.length_append, List.length_cons, List.length_nil, List.length_replicate, List.length_take, Sh.len8_len]
  omega
theorem setM (b : List UInt8) {i : Nat} (hi : i < 8) {y : UInt8} (hy : (Sh.len8 (8 * b.length))[i]? = some y) : (encB (Sh.last b i)).toArray.setIfInBounds (Sh.stop (Sh.rest b).length - 8 + i) (.int .u8 y.toNat) = (encB (Sh.last b (i + 1))).toArray := by
  obtain ⟨-, h1, h2, h3, -⟩ := last_len b
  obtain ⟨A, hA⟩ : ∃ A, A = Sh.rest b ++ [128] ++ List.replicate (Sh.stop (Sh.rest b).length - (Sh.rest b).length - 9) 0 ++ (Sh.len8 (8 * b.length)).take i := ⟨_, rfl⟩
  have hAl : (encB A).length = Sh.stop (Sh.rest b).length - 8 + i := by
    rw [hA]
    simp only [encB, List.length_map, List.length_append, List.length_cons, List.length_nil, List.length_replicate, List.length_take, Sh.len8_len]
    omega
  have e1 : Sh.last b i = A ++ 0 :: List.replicate (136 - Sh.stop (Sh.rest b).length - (i + 1)) 0 := by
    rw [hA, ← List.replicate_succ, show 136 - Sh.stop (Sh.rest b).length - (i + 1) + 1 = 136 - Sh.stop (Sh.rest b).length - i by omega]; rfl
  have e2 : Sh.last b (i + 1) = A ++ y :: List.replicate (136 - Sh.stop (Sh.rest b).length - (i + 1)) 0 := by
    rw [hA]
    unfold Sh.last
    rw [List.take_add_one, hy]
    simp
  rw [e1, e2, ← hAl]
  have h : ∀ z : UInt8, encB (A ++ z :: List.replicate (136 - Sh.stop (Sh.rest b).length - (i + 1)) 0) = encB A ++ (.int .u8 z.toNat) :: encB (List.replicate (136 - Sh.stop (Sh.rest b).length - (i + 1)) 0) := fun z => by simp [encB]
  rw [h, h, setL]

set_option maxHeartbeats 2000000 in
theorem c_sSum {w : World} {pv bv : Value} {b : List UInt8} (hp : RowA w pv 1 [bv]) (hb : BytA w bv b) (hl : b.length ≤ 100000000) : Calls P 58 #[pv] w fun e w' => e = .returned (.agg (encB (Sh.sum b)).toArray) ∧ Ext none_ w w' := by
  obtain ⟨pa, po, pc, rfl, -, -, -, hpc⟩ := RowA.plain hp (by simp)
  have hpc0 : ∀ {wz : World}, Ext none_ w wz → wz.cell? ⟨pa, po + 0 * 1, none⟩ = some bv := fun hz => by
    obtain ⟨_, _, _, e, -, -, -, h⟩ := RowA.plain (hp.ext0 hz) (by simp)
    cases e
    exact h 0 _ rfl
  refine enter (l := [_]) (n := 128) Tryz.func58 rfl rfl rfl ?_
  refine W.seq ?_
  refine W.reg <| new ze_Key rfl <| L.nil ?_
  refine N.th ?_
  obtain ⟨o, ho⟩ : ∃ o, o = w.heap.size := ⟨_, rfl⟩
  obtain ⟨w1, hw1⟩ : ∃ w1, w1 = w.alloc (.cells (encB (List.replicate 32 0)).toArray tKey) := ⟨_, rfl⟩
  have ho1 : w1.heap[o]? = some (.cells (encB (List.replicate 32 0)).toArray tKey (0, 0)) := by rw [hw1, ho]; exact heap_new _ _
  have hx1 : Ext none_ w w1 := by rw [hw1]; exact Ext.alloc _ _ _
  rw [show w.alloc (.cells (Value.cells (.agg (encB (List.replicate 32 0)).toArray)) tKey) = w1 from hw1.symm, ← ho]
  refine W.seq ?_
  refine W.reg <| call (vs := []) rfl rfl ok_begin (c_begin w1) ?_
  rintro e w2 ⟨rfl, hx2⟩
  refine ⟨_, rfl, ?_⟩
  refine call (vs := []) rfl rfl ok_round (c_round w2) ?_
  rintro e w3 ⟨rfl, hx3⟩
  refine ⟨_, rfl, ?_⟩
  refine bld (vs := #[(0, .agg (enc32 Sh.S0.l).toArray), (1, .agg (enc32 Sh.K).toArray)]) (v := .agg (enc32 Sh.S0.l ++ enc32 Sh.K).toArray) rfl rfl (fun _ => by kernel_rfl) <| box rfl rfl <| asg rfl rfl <| L.nil ?_
  refine N.th ?_
  obtain ⟨bt, hbt⟩ : ∃ bt, bt = w3.heap.size := ⟨_, rfl⟩
  obtain ⟨w4, hw4⟩ : ∃ w4, w4 = w3.alloc (.cells (enc32 Sh.S0.l ++ enc32 Sh.K).toArray tSt) := ⟨_, rfl⟩
  have hs4 : StAt w4 bt Sh.S0 := by rw [hw4, hbt]; exact heap_new _ _
  have hx4 : Ext none_ w3 w4 := by rw [hw4]; exact Ext.alloc _ _ _
  rw [show w3.alloc (.cells (Value.cells (.agg (enc32 Sh.S0.l ++ enc32 Sh.K).toArray)) tSt) = w4 from hw4.symm, ← hbt]
  have hx04 : Ext none_ w w4 := ((hx1.trans hx2).trans hx3).trans hx4
  have ho4 := ((hx2.trans hx3).trans hx4).obj ho1 id
  have hob : ¬ o = bt := by have := lt_of_obj (hx2.trans hx3 |>.obj ho1 id); omega
  have hwb : w.heap.size ≤ bt := by have := (hx1.trans hx2 |>.trans hx3).size; omega
  have hBt : ∀ i, i < w.heap.size → i = bt → none_ i := fun i hi e => by omega
  refine W.seq ?_
  refine W.reg <| asg rfl rfl <| L.nil ?_
  refine N.th ?_
  refine W.seq ?_
  refine W.reg <| asg rfl rfl <| L.nil ?_
  refine N.th ?_
  refine W.seq ?_
  refine W.seq ?_
  refine W.reg <| mv rfl rfl <| lenV (t := 31) rfl u_bss rfl <| mv rfl rfl <| L.nil ?_
  refine N.th ?_
  refine W.block ?_
  refine W.loop (X := Nat × Sh.St × Value × Nat) (fun x => [(22, .int .i64 x.1), (21, .int .i64 ((1 : Nat) : Int)), (20, .slice (some ⟨pa, po, none⟩) 1 pc), (5, .int .u64 x.2.2.2), (4, x.2.2.1), (3, .pointer (some ⟨bt, 0, none⟩)), (2, .pointer (some ⟨o, 0, none⟩))])
    (fun x w' => StAt w' bt x.2.1 ∧ w'.heap[o]? = some (.cells (encB (List.replicate 32 0)).toArray tKey (0, 0)) ∧ Ext none_ w w' ∧ ((x.1 = 0 ∧ x.2.1 = Sh.S0 ∧ x.2.2.1 = .slice none 0 0 ∧ x.2.2.2 = 0) ∨ (x.1 = 1 ∧ x.2.1 = Sh.fd b (b.length / 64) ∧ Byts w.heap.size w' x.2.2.1 (Sh.rest b) ∧ x.2.2.2 = 8 * b.length)))
    (fun x => 1 - x.1) (0, Sh.S0, .slice none 0 0, 0) ⟨rfl, rfl, rfl, rfl, rfl, rfl, rfl, trivial⟩ ⟨hs4, ho4, hx04, .inl ⟨rfl, rfl, rfl, rfl⟩⟩ ?_
  rintro ⟨i, s, rv, n8⟩ w5 ⟨hs5, ho5, hx5, hcase⟩
  dsimp only at hs5 hcase ⊢
  refine W.seq ?_
  refine W.reg <| lssI rfl rfl rfl <| L.nil ?_
  refine N.th ?_
  refine W.seq ?_
  rcases hcase with ⟨rfl, rfl, rfl, rfl⟩ | ⟨rfl, rfl, hrv, rfl⟩
  · refine W.condT rfl ?_
    refine W.skip ?_
    refine N.th ?_
    refine W.seqM (fun E' w' => ∃ rv' : Value, E' = [(22, .int .i64 ((0 : Nat) : Int)), (21, .int .i64 ((1 : Nat) : Int)), (20, .slice (some ⟨pa, po, none⟩) 1 pc), (5, .int .u64 ((8 * b.length : Nat) : Int)), (4, rv'), (3, .pointer (some ⟨bt, 0, none⟩)), (2, .pointer (some ⟨o, 0, none⟩))] ∧ StAt w' bt (Sh.fd b (b.length / 64)) ∧ w'.heap[o]? = some (.cells (encB (List.replicate 32 0)).toArray tKey (0, 0)) ∧ Ext none_ w w' ∧ Byts w.heap.size w' rv' (Sh.rest b)) ?_ ?_   -- CUT
    · refine W.block ?_
      refine W.seq ?_
      obtain ⟨ba, bc, rfl, hbn, hbm, -, -⟩ := id hb
      refine W.reg <| ixa rfl rfl u_bss sz_bytes rfl (by omega) (by omega) <| ld1 (v := .slice ba b.length bc) rfl ag_bytes rfl (hpc0 hx5) <| asg rfl rfl <| L.nil ?_
      refine N.th ?_
      refine W.seq ?_
      refine W.reg <| mv rfl rfl <| mv rfl rfl <| lenV (t := 25) rfl u_bytes rfl <| cvtI (c := (b.length : Int)) rfl u_u64 u_int rfl (wu64 (by omega) (by omega)) <| mulI (c := ((8 * b.length : Nat) : Int)) rfl rfl rfl (by rw [wu64 (by omega) (by omega)]; omega) <| addI (c := ((8 * b.length : Nat) : Int)) rfl rfl rfl (by rw [wu64 (by omega) (by omega)]; omega) <| asg rfl rfl <| L.nil ?_
      refine N.th ?_
      refine W.seqM (fun E' w' => E' = [(7, .slice ba b.length bc), (22, .int .i64 ((0 : Nat) : Int)), (21, .int .i64 ((1 : Nat) : Int)), (20, .slice (some ⟨pa, po, none⟩) 1 pc), (5, .int .u64 ((8 * b.length : Nat) : Int)), (4, .slice none 0 0), (3, .pointer (some ⟨bt, 0, none⟩)), (2, .pointer (some ⟨o, 0, none⟩))] ∧ w' = w5) ?_ ?_   -- CUT
      · refine W.seq ?_
        refine W.reg <| mv rfl rfl <| lenV (t := 25) rfl u_bytes rfl <| gtrI rfl rfl rfl <| L.nil ?_
        refine N.th ?_
        refine W.condF rfl ?_
        refine W.skip ?_
        exact N.th (N.meet [(7, _), (22, _), (21, _), (20, _), (5, _), (4, _), (3, _), (2, _)] ⟨rfl, rfl, rfl, rfl, rfl, rfl, rfl, rfl, trivial⟩ ⟨rfl, rfl⟩)   -- MEET
      rintro E' w6 ⟨rfl, rfl⟩
      refine W.seq ?_
      refine W.block ?_
      refine W.loop (X := Unit) (fun _ => [(7, .slice ba b.length bc), (22, .int .i64 ((0 : Nat) : Int)), (21, .int .i64 ((1 : Nat) : Int)), (20, .slice (some ⟨pa, po, none⟩) 1 pc), (5, .int .u64 ((8 * b.length : Nat) : Int)), (4, .slice none 0 0), (3, .pointer (some ⟨bt, 0, none⟩)), (2, .pointer (some ⟨o, 0, none⟩))]) (fun _ w' => w' = w6) (fun _ => 0) () ⟨rfl, rfl, rfl, rfl, rfl, rfl, rfl, rfl, trivial⟩ rfl ?_
      rintro - w7 rfl
      refine W.seq ?_
      refine W.seq ?_
      refine W.reg <| mv rfl rfl <| lenV (t := 25) rfl u_bytes rfl <| eqlI rfl rfl rfl <| L.nil ?_
      refine N.th ?_
      refine W.condF rfl ?_
      refine W.exit ?_
      refine N.xth ?_
      refine N.xth ?_
      refine N.xeq ?_
      refine N.th ?_
      refine W.seq ?_
      refine W.block ?_
      refine W.loop (X := Nat × Value) (fun x => [(7, x.2), (22, .int .i64 ((0 : Nat) : Int)), (21, .int .i64 ((1 : Nat) : Int)), (20, .slice (some ⟨pa, po, none⟩) 1 pc), (5, .int .u64 ((8 * b.length : Nat) : Int)), (4, .slice none 0 0), (3, .pointer (some ⟨bt, 0, none⟩)), (2, .pointer (some ⟨o, 0, none⟩))])
        (fun x w' => 64 * x.1 ≤ b.length ∧ BytA w' x.2 (b.drop (64 * x.1)) ∧ StAt w' bt (Sh.fd b x.1) ∧ w'.heap[o]? = some (.cells (encB (List.replicate 32 0)).toArray tKey (0, 0)) ∧ Ext none_ w w') (fun x => b.length - 64 * x.1) (0, .slice ba b.length bc) ⟨rfl, rfl, rfl, rfl, rfl, rfl, rfl, rfl, trivial⟩
        ⟨by omega, hb.ext0 hx5, hs5, ho5, hx5⟩ ?_
      rintro ⟨j, v⟩ w8 ⟨hj, hv8, hs8, ho8, hx8⟩
      dsimp only at hj hv8 hs8 ⊢
      obtain ⟨va, vc, rfl, hvn, hvm, -, -⟩ := id hv8
      have hdl : (b.drop (64 * j)).length = b.length - 64 * j := List.length_drop
      refine W.seq ?_
      refine W.seq ?_
      refine W.reg <| mv rfl rfl <| lenV (t := 25) rfl u_bytes rfl <| geqI rfl rfl rfl <| L.nil ?_
      refine N.th ?_
      refine W.cond rfl (fun h => ?_) (fun h => ?_)
      · refine W.skip ?_
        refine N.th ?_
        have h64 : 64 ≤ (b.drop (64 * j)).length := by have := of_decide_eq_true h; omega
        refine W.seq ?_
        refine W.block ?_
        refine W.reg <| mv rfl rfl <| mv rfl rfl <| call (vs := [_, _]) rfl rfl ok_sturn (c_sturn hs8 hv8 h64) ?_
        rintro e w9 ⟨rfl, hs9, hx9⟩
        refine ⟨_, rfl, ?_⟩
        refine L.nil ?_
        refine N.inb ?_
        refine N.th ?_
        have hv9 := hv8.st hs8 hx9
        obtain ⟨vb, vo, rfl, hvd⟩ := RowA.drop (k := 64) hv9 h64 (by omega)
        refine W.reg <| mv rfl rfl <| slVlA (i := 64) rfl rfl u_bytes el_bytes.szB rfl h64 fun ad had => ?_
        refine asg rfl rfl <| L.nil ?_
        have hnew := hvd ad had
        rw [List.drop_drop, show 64 * j + 64 = 64 * (j + 1) by omega] at hnew
        exact N.th (N.round (x := (j + 1, .slice (some ad) ((b.drop (64 * j)).length - 64) (vc - 64))) ⟨rfl, rfl, rfl, rfl, rfl, rfl, rfl, rfl, trivial⟩ ⟨by dsimp only; omega, hnew, hs9, hx9.obj ho8 hob, hx8.trans' hx9 hBt⟩ (by dsimp only; omega))   -- ROUND
      refine W.exit ?_
      refine N.xth ?_
      refine N.xth ?_
      refine N.xeq ?_
      refine N.th ?_
      have hj64 : j = b.length / 64 := by have := of_decide_eq_false h; omega
      have hrest : b.drop (64 * j) = Sh.rest b := by rw [hj64]; rfl
      rw [hj64] at hs8
      rw [hrest] at hv8 hdl ⊢
      refine W.seq ?_
      refine W.reg <| mv rfl rfl <| lenV (t := 25) rfl u_bytes rfl <| gtrI rfl rfl rfl <| L.nil ?_
      refine N.th ?_
      refine W.cond rfl (fun h => ?_) (fun h => ?_)
      · have hv8' := hv8
        rcases RowA.form hv8 with ⟨-, h0⟩ | ⟨ad, cc, e, h1, h2, hc⟩
        · have := of_decide_eq_true h; omega
        cases e
        refine W.reg <| mv rfl rfl <| mv rfl rfl <| app rfl rfl rfl el_bytes (own_nil _ w.heap.size _ _) (by simp) (fun j u hj => (hc j u hj).2) (encB_one _) (by omega) (by simp only [maxLen]; omega) hx8.size fun v' w9 ho9 hx9' _ _ => ?_
        refine asg rfl rfl <| L.nil ?_
        refine N.inb ?_
        have hx9 : Ext none_ w8 w9 := hx9'.mono fun _ _ h => by cases h
        exact N.th (N.meet [(22, _), (21, _), (20, _), (5, _), (4, v'), (3, _), (2, _)] ⟨rfl, rfl, rfl, rfl, rfl, rfl, rfl, trivial⟩ ⟨v', rfl, hx9.obj hs8 id, hx9.obj ho8 id, hx8.trans hx9, by simpa [Byts] using ho9⟩)   -- MEET
      · refine W.skip ?_
        refine N.inb ?_
        have hr0 : Sh.rest b = [] := List.eq_nil_of_length_eq_zero (by have := of_decide_eq_false h; omega)
        exact N.th (N.meet [(22, _), (21, _), (20, _), (5, _), (4, .slice none 0 0), (3, _), (2, _)] ⟨rfl, rfl, rfl, rfl, rfl, rfl, rfl, trivial⟩ ⟨_, rfl, hs8, ho8, hx8, by rw [hr0]; exact own_nil _ _ _ _⟩)   -- MEET
    rintro E' w6 ⟨rv', rfl, hs6, ho6, hx6, hr6⟩
    refine W.reg <| addI (c := ((1 : Nat) : Int)) rfl rfl rfl rfl <| mv rfl rfl <| L.nil ?_
    exact N.th (N.round (x := (1, Sh.fd b (b.length / 64), rv', 8 * b.length)) ⟨rfl, rfl, rfl, rfl, rfl, rfl, rfl, trivial⟩ ⟨hs6, ho6, hx6, .inr ⟨rfl, rfl, hr6, rfl⟩⟩ (by dsimp only; omega))   -- ROUND
  obtain ⟨hll, hst1, hst2, hr64, hst3⟩ := last_len b
  rw [Sh.sum_eq b]
  generalize Sh.fd b (b.length / 64) = s at hs5 ⊢
  refine W.condF rfl ?_
  refine W.exit ?_
  refine N.xth ?_
  refine N.xth ?_
  refine N.xeq ?_
  refine N.th ?_
  refine W.seq ?_
  refine W.reg <| new ze_t128 rfl <| L.nil ?_
  refine N.th ?_
  obtain ⟨g, hg⟩ : ∃ g, g = w5.heap.size := ⟨_, rfl⟩
  obtain ⟨w6, hw6⟩ : ∃ w6, w6 = w5.alloc (.cells (encB (List.replicate 128 0)).toArray t128) := ⟨_, rfl⟩
  have hg6 : w6.heap[g]? = some (.cells (encB (List.replicate 128 0)).toArray t128 (0, 0)) := by rw [hw6, hg]; exact heap_new _ _
  have hx6 : Ext none_ w5 w6 := by rw [hw6]; exact Ext.alloc _ _ _
  rw [show w5.alloc (.cells (Value.cells (.agg (encB (List.replicate 128 0)).toArray)) t128) = w6 from hw6.symm, ← hg]
  have hG : ∀ i, i < w5.heap.size → i = g → none_ i := fun i hi e => by omega
  have hgb : ¬ g = bt := by have := lt_of_obj hs5; omega
  have hr6 : Byts w.heap.size w6 rv (Sh.rest b) := own_ext hrv hx6 fun _ _ => id
  obtain ⟨ra, rc, rfl, hrn, hrm⟩ := own_slice hr6
  refine W.seqM (fun E' w' => E' = [(10, .int .i64 (Sh.rest b).length), (9, .pointer (some ⟨g, 0, none⟩)), (5, .int .u64 ((8 * b.length : Nat) : Int)), (3, .pointer (some ⟨bt, 0, none⟩)), (2, .pointer (some ⟨o, 0, none⟩))] ∧ w'.heap[g]? = some (.cells (encB (Sh.rest b ++ List.replicate (128 - (Sh.rest b).length) 0)).toArray t128 (0, 0)) ∧ Ext none_ w5 w') ?_ ?_
  · refine W.reg <| slA rfl u_t128 el_bytes.szB rfl <| mv rfl rfl ?_
    rcases (Row.own hr6).form with ⟨e, h0, -⟩ | ⟨rb, ro, rc', e, h1, h2, h3, hc⟩
    · have hr0 : Sh.rest b = [] := List.eq_nil_of_length_eq_zero h0
      rw [e]
      refine cpN rfl rfl rfl u_bytes el_bytes.szB <| asg rfl rfl <| L.nil ?_
      refine N.th (N.meet [(10, _), (9, _), (5, _), (3, _), (2, _)] ⟨rfl, rfl, rfl, rfl, rfl, trivial⟩ ⟨?_, ?_, hx6⟩)
      · rw [hr0]; rfl
      · rw [hr0]; exact hg6
    · cases e
      refine cpS (cs := encB (Sh.rest b)) rfl rfl rfl u_bytes el_bytes.szB hg6 (by rw [show (encB (Sh.rest b)).length = (Sh.rest b).length by simp [encB]]; exact (Nat.min_eq_left (by omega)).symm) (fun j u hj => by rw [add_at]; exact hc j u hj) (by simp [encB]; omega) (encB_one _) <| asg rfl rfl <| L.nil ?_
      generalize hwc : World.setRow _ _ _ = wc
      have hgc : wc.heap[g]? = some (.cells (encB (Sh.rest b ++ List.replicate (128 - (Sh.rest b).length) 0)).toArray t128 (0, 0)) := by
        rw [← hwc, setRow_heap _ _ _ _ _ _ hg6]
        have e1 : (encB (List.replicate 128 (0 : UInt8))).drop (encB (Sh.rest b)).length = encB (List.replicate (128 - (Sh.rest b).length) 0) := by
          unfold encB
          rw [List.length_map, ← List.map_drop, List.drop_replicate]
        have e2 : encB (Sh.rest b ++ List.replicate (128 - (Sh.rest b).length) 0) = encB (Sh.rest b) ++ encB (List.replicate (128 - (Sh.rest b).length) 0) := List.map_append
        rw [e2, ← e1, Nat.zero_add, List.take_zero, List.nil_append]
      have hxc : Ext none_ w5 wc := by rw [← hwc]; exact hx6.trans' (Ext.setRow (S := fun k => k = g) _ (fun _ => rfl) _) hG
      refine N.th (N.meet [(10, _), (9, _), (5, _), (3, _), (2, _)] ⟨rfl, rfl, rfl, rfl, rfl, trivial⟩ ⟨?_, hgc, hxc⟩)
      simp [encB]
  rintro E' w7 ⟨rfl, hg7, hx7⟩
  obtain ⟨u0, hu0⟩ : ∃ u, (encB (Sh.rest b ++ List.replicate (128 - (Sh.rest b).length) 0)).toArray[0 + (Sh.rest b).length * 1]? = some u := ⟨_, Array.getElem?_eq_getElem (by simp [encB]; omega)⟩
  refine W.seq ?_
  refine W.reg <| mv rfl rfl <| ixp rfl rfl u_t128 el_bytes.szB rfl (by omega) (by omega) <| st1 rfl rfl sz_u8 rfl hg7 hu0 <| L.nil ?_
  refine N.th ?_
  generalize hw8 : World.setCell _ _ _ = w8
  have hg8 : w8.heap[g]? = some (.cells (encB (Sh.last b 0)).toArray t128 (0, 0)) := by
    rw [← hw8, setCell_heap hg7]
    have e0 : 0 + (((Sh.rest b).length : Nat) : Int).toNat * 1 = (Sh.rest b).length := by omega
    rw [e0]
    have e1 : encB (Sh.rest b ++ List.replicate (128 - (Sh.rest b).length) 0) = encB (Sh.rest b) ++ (.int .u8 ((0 : UInt8).toNat : Int)) :: encB (List.replicate (127 - (Sh.rest b).length) 0) := by
      rw [show 128 - (Sh.rest b).length = (127 - (Sh.rest b).length) + 1 by omega, List.replicate_succ]
      simp [encB]
    have e2 : encB (Sh.last b 0) = encB (Sh.rest b) ++ (.int .u8 128) :: encB (List.replicate (127 - (Sh.rest b).length) 0) := by
      have e3 : Sh.last b 0 = Sh.rest b ++ 128 :: List.replicate (127 - (Sh.rest b).length) 0 := by
        unfold Sh.last
        rw [List.take_zero, List.append_nil, List.append_assoc, List.append_assoc, List.replicate_append_replicate]
        simp only [List.cons_append, List.nil_append]
        congr 3
        omega
      rw [e3]
      simp [encB]
    rw [e1, e2]
    have e4 : (encB (Sh.rest b)).length = (Sh.rest b).length := by simp [encB]
    conv => lhs; arg 1; arg 1; arg 2; rw [← e4]
    rw [setL]
  have hx8 : Ext none_ w5 w8 := by rw [← hw8]; exact hx7.trans' (Ext.setCell (S := fun k => k = g) _ (fun _ => rfl) _) hG
  clear hu0 hg7 hx7 hw8
  refine W.seq ?_
  refine W.reg <| asg rfl rfl <| L.nil ?_
  refine N.th ?_
  refine W.seqM (fun E' w' => E' = [(11, .int .i64 (Sh.stop (Sh.rest b).length)), (9, .pointer (some ⟨g, 0, none⟩)), (5, .int .u64 ((8 * b.length : Nat) : Int)), (3, .pointer (some ⟨bt, 0, none⟩)), (2, .pointer (some ⟨o, 0, none⟩))] ∧ w' = w8) ?_ ?_   -- CUT
  · refine W.seq ?_
    refine W.reg <| mv rfl rfl <| addI (c := (((Sh.rest b).length + 9 : Nat) : Int)) rfl rfl rfl (by rw [w64 (by omega) (by omega)]; omega) <| gtrI rfl rfl rfl <| L.nil ?_
    refine N.th ?_
    refine W.cond rfl (fun h => ?_) (fun h => ?_)
    · refine W.reg <| asg rfl rfl <| L.nil ?_
      refine N.th (N.meet [(11, _), (9, _), (5, _), (3, _), (2, _)] ⟨rfl, rfl, rfl, rfl, rfl, trivial⟩ ⟨?_, rfl⟩)   -- MEET
      have : Sh.stop (Sh.rest b).length = 128 := by have := of_decide_eq_true h; unfold Sh.stop; rw [if_pos (by omega)]
      rw [this]; rfl
    · refine W.skip ?_
      refine N.th (N.meet [(11, _), (9, _), (5, _), (3, _), (2, _)] ⟨rfl, rfl, rfl, rfl, rfl, trivial⟩ ⟨?_, rfl⟩)   -- MEET
      have : Sh.stop (Sh.rest b).length = 64 := by have := of_decide_eq_false h; unfold Sh.stop; rw [if_neg (by omega)]
      rw [this]; rfl
  rintro E' w9 ⟨rfl, rfl⟩
  refine W.seq ?_
  refine W.seq ?_
  refine W.reg <| mv rfl rfl <| L.nil ?_
  refine N.th ?_
  refine W.block ?_
  refine W.loop (X := Nat) (fun i => [(80, .int .i64 i), (11, .int .i64 (Sh.stop (Sh.rest b).length)), (9, .pointer (some ⟨g, 0, none⟩)), (5, .int .u64 ((8 * b.length : Nat) : Int)), (3, .pointer (some ⟨bt, 0, none⟩)), (2, .pointer (some ⟨o, 0, none⟩))])
    (fun i w' => i ≤ 8 ∧ w'.heap[g]? = some (.cells (encB (Sh.last b i)).toArray t128 (0, 0)) ∧ Ext none_ w5 w') (fun i => 8 - i) 0 ⟨rfl, rfl, rfl, rfl, rfl, rfl, trivial⟩ ⟨by omega, hg8, hx8⟩ ?_
  rintro i w10 ⟨hi, hg10, hx10⟩
  refine W.seq ?_
  refine W.reg <| lssI rfl rfl rfl <| L.nil ?_
  refine N.th ?_
  refine W.seq ?_
  refine W.cond rfl (fun h => ?_) (fun h => ?_)
  · refine W.skip ?_
    refine N.th ?_
    have hi1 : i < 8 := by have := of_decide_eq_true h; omega
    obtain ⟨y, hy⟩ : ∃ y : UInt8, y = UInt8.ofNat (8 * b.length / 2 ^ (8 * (7 - i))) := ⟨_, rfl⟩
    have hget : (Sh.len8 (8 * b.length))[i]? = some y := by rw [hy]; simp [Sh.len8, hi1]
    have hlen10 : (encB (Sh.last b i)).length = 128 := by
      unfold Sh.last
      simp only [encB, List.length_map, List.length_append, List.length_cons, List.length_nil, List.length_replicate, List.length_take, Sh.len8_len]
      omega
    obtain ⟨u0, hu0⟩ : ∃ u, (encB (Sh.last b i)).toArray[0 + (Sh.stop (Sh.rest b).length - 8 + i) * 1]? = some u := ⟨_, Array.getElem?_eq_getElem (by simp [hlen10]; omega)⟩
    refine W.seq ?_
    refine W.block ?_
    refine W.seq ?_
    refine W.reg <| mv rfl rfl <| asg rfl rfl <| L.nil ?_
    refine N.th ?_
    refine W.reg <| mv rfl rfl <| subI (c := ((Sh.stop (Sh.rest b).length - 8 : Nat) : Int)) rfl rfl rfl (by rw [w64 (by omega) (by omega)]; omega) <| mv rfl rfl <| addI (c := ((Sh.stop (Sh.rest b).length - 8 + i : Nat) : Int)) rfl rfl rfl (by rw [w64 (by omega) (by omega)]; omega) <| mv rfl rfl <| mv rfl rfl <| mulI (c := ((8 * i : Nat) : Int)) rfl rfl rfl (by rw [w64 (by omega) (by omega)]; omega) <| subI (c := ((8 * (7 - i) : Nat) : Int)) rfl rfl rfl (by rw [w64 (by omega) (by omega)]; omega) <| cvtI (c := ((8 * (7 - i) : Nat) : Int)) rfl u_uint u_int rfl (wu64 (by omega) (by omega)) <|
      shrI (c := ((8 * b.length / 2 ^ (8 * (7 - i)) : Nat) : Int)) rfl rfl rfl (by omega) (by
        have h1 : min (((8 * (7 - i) : Nat) : Int)).toNat IntKind.u64.bits = 8 * (7 - i) := by simp [IntKind.bits]; omega
        rw [h1, Int.fdiv_eq_ediv_of_nonneg _ (Int.pow_nonneg (by decide))]
        simp) <| cvtI (c := (y.toNat : Int)) rfl u_u8 u_u64 rfl (by rw [hy]; simp [IntKind.wrap, IntKind.bits, IntKind.signed]) <|
      ixp rfl rfl u_t128 el_bytes.szB rfl (by omega) (by omega) <| st1 rfl rfl sz_u8 rfl hg10 hu0 <| L.nil ?_
    refine N.inb ?_
    refine N.th ?_
    refine W.reg <| addI (c := ((i + 1 : Nat) : Int)) rfl rfl rfl (by rw [w64 (by omega) (by omega)]; simp) <| mv rfl rfl <| L.nil ?_
    refine N.th (N.round (x := i + 1) ⟨rfl, rfl, rfl, rfl, rfl, rfl, trivial⟩ ⟨by omega, ?_, hx10.trans' (Ext.setCell (S := fun k => k = g) _ (fun _ => rfl) _) hG⟩ (by omega))   -- ROUND
    rw [setCell_heap hg10, ← setM b hi1 hget]
    have e0 : 0 + (((Sh.stop (Sh.rest b).length - 8 + i : Nat)) : Int).toNat * 1 = Sh.stop (Sh.rest b).length - 8 + i := by omega
    rw [e0]
  refine W.exit ?_
  refine N.xth ?_
  refine N.xth ?_
  refine N.xeq ?_
  refine N.th ?_
  have hi8 : i = 8 := by have := of_decide_eq_false h; omega
  subst hi8
  have hs10 : StAt w10 bt (Sh.fdl s (Sh.last b 8) 0) := hx10.obj hs5 id
  have ho10 := hx10.obj ho5 id
  have hx010 := hx5.trans hx10
  generalize Sh.last b 8 = L8 at hg10 hll hs10 ⊢
  generalize Sh.stop (Sh.rest b).length = sp at hst1 hst2 hst3 ⊢
  refine W.seq ?_
  refine W.seq ?_
  refine W.reg <| asg rfl rfl <| L.nil ?_
  refine N.th ?_
  refine W.block ?_
  refine W.loop (X := Nat) (fun j => [(13, .int .i64 ((64 * j : Nat) : Int)), (11, .int .i64 sp), (9, .pointer (some ⟨g, 0, none⟩)), (3, .pointer (some ⟨bt, 0, none⟩)), (2, .pointer (some ⟨o, 0, none⟩))])
    (fun j w' => 64 * j ≤ sp ∧ StAt w' bt (Sh.fdl s L8 j) ∧ w'.heap[g]? = some (.cells (encB L8).toArray t128 (0, 0)) ∧ w'.heap[o]? = some (.cells (encB (List.replicate 32 0)).toArray tKey (0, 0)) ∧ Ext none_ w w') (fun j => sp - 64 * j) 0 ⟨rfl, rfl, rfl, rfl, rfl, trivial⟩ ⟨by omega, hs10, hg10, ho10, hx010⟩ ?_
  rintro j w11 ⟨hj, hs11, hg11, ho11, hx11⟩
  refine W.seq ?_
  refine W.seq ?_
  refine W.reg <| mv rfl rfl <| mv rfl rfl <| lssI rfl rfl rfl <| L.nil ?_
  refine N.th ?_
  refine W.cond rfl (fun h => ?_) (fun h => ?_)
  · refine W.skip ?_
    refine N.th ?_
    have hj1 : 64 * j + 64 ≤ sp := by have := of_decide_eq_true h; omega
    have hbl : ((L8.drop (64 * j)).take 64).length = 64 := by rw [List.length_take, List.length_drop]; omega
    have hbyt : BytA w11 (.slice (some ⟨g, 0 + 64 * j * 1, none⟩) (64 * j + 64 - 64 * j) (128 - 64 * j)) ((L8.drop (64 * j)).take 64) := by
      refine ⟨some ⟨g, 0 + 64 * j * 1, none⟩, 128 - 64 * j, by rw [hbl]; congr 1; omega, by rw [hbl]; omega, by simp [maxLen]; omega, (fun h => by cases h), fun q u hq => ⟨_, rfl, lt_of_obj hg11, ?_⟩⟩
      rw [add_at]
      refine cell_of hg11 ?_
      have hq64 : q < 64 := by have := (List.getElem?_eq_some_iff.1 hq).1; simp [encB] at this; omega
      rw [encB, List.getElem?_map, List.getElem?_take, if_pos hq64, List.getElem?_drop] at hq
      rw [List.getElem?_toArray, encB, List.getElem?_map, ← hq]
      congr 2
      omega
    refine W.seq ?_
    refine W.block ?_
    refine W.reg <| mv rfl rfl <| mv rfl rfl <| mv rfl rfl <| addI (c := ((64 * j + 64 : Nat) : Int)) rfl rfl rfl (by rw [w64 (by omega) (by omega)]; omega) <| slAlh (i := 64 * j) (j := 64 * j + 64) rfl rfl rfl u_t128 el_bytes.szB rfl (by omega) (by omega) (by omega) <| call (vs := [_, _]) rfl rfl ok_sturn (c_sturn hs11 hbyt (by omega)) ?_
    rintro e w12 ⟨rfl, hs12, hx12⟩
    refine ⟨_, rfl, ?_⟩
    refine L.nil ?_
    refine N.inb ?_
    refine N.th ?_
    refine W.reg <| mv rfl rfl <| addI (c := ((64 * (j + 1) : Nat) : Int)) rfl rfl rfl (by rw [w64 (by omega) (by omega)]; omega) <| asg rfl rfl <| L.nil ?_
    refine N.th (N.round (x := j + 1) ⟨rfl, rfl, rfl, rfl, rfl, trivial⟩ ⟨by omega, ?_, hx12.obj hg11 hgb, hx12.obj ho11 hob, hx11.trans' hx12 hBt⟩ (by omega))   -- ROUND
    have e : Sh.turn (Sh.fdl s L8 j) ((L8.drop (64 * j)).take 64) = Sh.fdl s L8 (j + 1) := Sh.turn_take _ _ _ fun i hi => by rw [List.getElem?_take, if_pos hi]
    rw [← e]
    exact hs12
  refine W.exit ?_
  refine N.xth ?_
  refine N.xth ?_
  refine N.xeq ?_
  refine N.th ?_
  have hjl : sp / 64 = j := by have := of_decide_eq_false h; omega
  rw [hjl]
  generalize Sh.fdl s L8 j = s2 at hs11 ⊢
  refine W.seq ?_
  refine W.reg <| new ze_Key rfl <| L.nil ?_
  refine N.th ?_
  obtain ⟨q, hq⟩ : ∃ q, q = w11.heap.size := ⟨_, rfl⟩
  obtain ⟨w12, hw12⟩ : ∃ w12, w12 = w11.alloc (.cells (encB (List.replicate 32 0)).toArray tKey) := ⟨_, rfl⟩
  have hq12 : w12.heap[q]? = some (.cells (encB ((Sh.dig s2).take 0) ++ encB (List.replicate (32 - 0) 0)).toArray tKey (0, 0)) := by rw [hw12, hq]; exact heap_new _ _
  have hx12 : Ext none_ w11 w12 := by rw [hw12]; exact Ext.alloc _ _ _
  rw [show w11.alloc (.cells (Value.cells (.agg (encB (List.replicate 32 0)).toArray)) tKey) = w12 from hw12.symm, ← hq]
  have hQ : ∀ i, i < w11.heap.size → i = q → none_ i := fun i hi e => by omega
  refine W.seq ?_
  refine W.seq ?_
  refine W.reg <| mv rfl rfl <| L.nil ?_
  refine N.th ?_
  refine W.block ?_
  refine W.loop (X := Nat) (fun i => [(107, .int .i64 i), (14, .pointer (some ⟨q, 0, none⟩)), (3, .pointer (some ⟨bt, 0, none⟩)), (2, .pointer (some ⟨o, 0, none⟩))])
    (fun i w' => i ≤ 32 ∧ w'.heap[q]? = some (.cells (encB ((Sh.dig s2).take i) ++ encB (List.replicate (32 - i) 0)).toArray tKey (0, 0)) ∧ Ext none_ w11 w') (fun i => 32 - i) 0 ⟨rfl, rfl, rfl, rfl, trivial⟩ ⟨by omega, hq12, hx12⟩ ?_
  rintro i w13 ⟨hi, hq13, hx13⟩
  refine W.seq ?_
  refine W.reg <| lssI rfl rfl rfl <| L.nil ?_
  refine N.th ?_
  refine W.seq ?_
  refine W.cond rfl (fun h => ?_) (fun h => ?_)
  · refine W.skip ?_
    refine N.th ?_
    have hi1 : i < 32 := by have := of_decide_eq_true h; omega
    have hs13 : StAt w13 bt s2 := hx13.obj hs11 id
    obtain ⟨y, hy⟩ : ∃ y : UInt8, y = UInt8.ofNat ((Sh.at_ s2.l (i / 4)) >>> (24 - 8 * (i % 4))).toNat := ⟨_, rfl⟩
    have hget : (Sh.dig s2)[i]? = some y := by rw [hy]; simp [Sh.dig, hi1]
    obtain ⟨u0, hu0⟩ : ∃ u, (encB ((Sh.dig s2).take i) ++ encB (List.replicate (32 - i) 0)).toArray[0 + i * 1]? = some u := ⟨_, Array.getElem?_eq_getElem (by simp [encB, Sh.dig_len]; omega)⟩
    refine W.seq ?_
    refine W.block ?_
    refine W.seq ?_
    refine W.reg <| mv rfl rfl <| asg rfl rfl <| L.nil ?_
    refine N.th ?_
    refine W.reg <| mv rfl rfl <| mv rfl rfl <| mv rfl rfl <| quoI (c := ((i / 4 : Nat) : Int)) rfl rfl rfl (by decide) (by rw [show ((i : Int).tdiv 4) = ((i / 4 : Nat) : Int) from rfl]; exact w64 (by omega) (by omega)) <| nilc rfl rfl <| fad rfl fl_St_0 rfl <| ixp rfl rfl u_t8 sz_u32 rfl (by omega) (by omega) <| ld1 (v := V32 (Sh.at_ s2.l (i / 4))) rfl ag_u32 rfl (cell_of hs13 (by rw [show 0 + 0 + ((i / 4 : Nat) : Int).toNat * 1 = i / 4 by omega]; exact rd32 (by simp [Sh.St.l]; omega))) <| mv rfl rfl <| remI (c := ((i % 4 : Nat) : Int)) rfl rfl rfl (by decide) rfl <| mulI (c := ((8 * (i % 4) : Nat) : Int)) rfl rfl rfl (by rw [w64 (by omega) (by omega)]; omega) <| subI (c := ((24 - 8 * (i % 4) : Nat) : Int)) rfl rfl rfl (by rw [w64 (by omega) (by omega)]; omega) <| cvtI (c := ((24 - 8 * (i % 4) : Nat) : Int)) rfl u_uint u_int rfl (wu64 (by omega) (by omega)) <| shr32 (k := 24 - 8 * (i % 4)) rfl rfl rfl (by omega) <| b8 rfl u_u8 u_u32 rfl <|
      ixp rfl rfl u_Key el_bytes.szB rfl (by omega) (by omega) <| st1 rfl rfl sz_u8 rfl hq13 hu0 <| L.nil ?_
    refine N.inb ?_
    refine N.th ?_
    refine W.reg <| addI (c := ((i + 1 : Nat) : Int)) rfl rfl rfl (by rw [w64 (by omega) (by omega)]; simp) <| mv rfl rfl <| L.nil ?_
    refine N.th (N.round (x := i + 1) ⟨rfl, rfl, rfl, rfl, trivial⟩ ⟨by omega, ?_, hx13.trans' (Ext.setCell (S := fun k => k = q) _ (fun _ => rfl) _) hQ⟩ (by omega))   -- ROUND
    rw [← hy, setCell_heap hq13, ← setB (Sh.dig_len s2) hi1 hget]
    have : 0 + ((i : Nat) : Int).toNat * 1 = i := by omega
    rw [this]
  · refine W.exit ?_
    refine N.xth ?_
    refine N.xth ?_
    refine N.xeq ?_
    refine N.th ?_
    have hi32 : i = 32 := by have := of_decide_eq_false h; omega
    subst hi32
    have hq9 : w13.heap[q]? = some (.cells (encB (Sh.dig s2)).toArray tKey (0, 0)) := by
      rw [hq13, List.take_of_length_le (by rw [Sh.dig_len]; exact Nat.le_refl _)]
      simp [encB]
    have hlen : (encB (Sh.dig s2)).length = 32 := by simp [encB, Sh.dig_len]
    refine W.seq ?_
    refine W.reg <| ldk (cs := encB (Sh.dig s2)) rfl ag_Key sz_Key rfl hlen (row_cells hq9) <| stR (cells := (encB (Sh.dig s2)).toArray) rfl rfl (by rw [sz_Key]; simp [hlen]) (oneB _) (hx13.obj ho11 id) (by simp [encB, Sh.dig_len]) <| L.nil ?_
    refine N.th ?_
    refine W.ret ?_
    refine N.retC (cs := encB (Sh.dig s2)) rfl rfl ag_Key (by rw [sz_Key, hlen]) (row_cells (setRow_heap _ _ _ _ _ _ (hx13.obj ho11 id))) ?_
    exact ⟨rfl, (hx11.trans hx13).trans' (Ext.setRow (S := fun k => k = o) _ (fun _ => rfl) _) (fun i hi e => by omega)⟩
end Go.Proofs.YtmdpmpdlkaogdaaGreatDoor

namespace Go.Proofs.YtmdpmpdlkaogdaaGreatDoor
open Go Go.RowKit Vc
theorem ok_Digest : FnOk P 20 := ⟨_, Tryz.func20, by kernel_rfl, by kernel_rfl⟩
theorem ok_r1Of : FnOk P 21 := ⟨_, Tryz.func21, by kernel_rfl, by kernel_rfl⟩
/-- 'append(s, x...)' of bytes that came in onto bytes of the call's own. -/
theorem appB {P : Program} {Q : Exit → Act → World → Prop} {ds : List Deferred} {n : Nat} {E : Env} {w : World} {ops : Array Oper} {l : List Oper} {mm : Nat} {d : Nat} {ty : TypeId} {pos : String} {af : Array Edge} {t : TypeId}
    {B : Nat} {s x : Operand} {v bv : Value} {xs b : List UInt8} (hs : opd E s = some v) (hx : opd E x = some bv) (hown : Byts B w v xs) (hb : BytA w bv b) (ht : ElT P t tB (.int .u8 0) 1 1) (hd : Nat.blt d n = true) (hl : xs.length + b.length ≤ 1000000000) (hB : B ≤ w.heap.size)
    (k : ∀ v' w', Byts B w' v' (xs ++ b) → Ext (fun k => v.ownBlock = some k) w w' → L Fence.wide mm P ds n ops l Q ((d, v') :: E) w') : L Fence.wide mm P ds n ops (⟨some d, .call ⟨.builtin .append, #[s, x], #[t, t]⟩, ty, pos, af, none⟩ :: l) Q E w := by
  rcases hb.form with ⟨rfl, h0⟩ | ⟨ad, c, rfl, h1, h2, hc⟩
  · obtain rfl : b = [] := List.eq_nil_of_length_eq_zero h0
    obtain ⟨a, ca, rfl, hca, -⟩ := own_slice hown
    exact appN (st := .plain Fence.wide mm) hs hx hd ht hca (k _ _ (by simpa using hown) (Ext.refl _ _))
  · exact app hs hx hd ht hown (by simp [encB]) (fun j u hj => (hc j u hj).2) (encB_one b) (by simp only [Nat.mul_one]; omega) (by simp only [maxLen]; omega) hB fun v' w' ho hx' _ _ => k v' w' (by simpa [Byts, encB] using ho) hx'

theorem c_Digest {w : World} {bv : Value} {b : List UInt8} (hb : BytA w bv b) (hl : b.length ≤ 100000000) : Calls P 20 #[bv] w fun e w' => e = .returned (.agg (encB (Sh.sum b)).toArray) ∧ Ext none_ w w' := by
  obtain ⟨a, c, rfl, hn, hm, -, -⟩ := id hb
  refine enter (l := [_]) (n := 6) Tryz.func20 rfl rfl rfl ?_
  refine W.seq ?_
  refine W.reg <| new ze_Key rfl <| L.nil ?_
  refine N.th ?_
  have ho1 : (w.alloc (.cells (encB (List.replicate 32 0)).toArray tKey)).heap[w.heap.size]? = some (.cells (encB (List.replicate 32 0)).toArray tKey (0, 0)) := heap_new _ _
  have hx1 : Ext none_ w (w.alloc (.cells (encB (List.replicate 32 0)).toArray tKey)) := Ext.alloc _ _ _
  refine W.seq ?_
  refine W.reg <| mv rfl rfl <| bls (vs := #[(0, .slice a b.length c)]) (cs := #[.slice a b.length c]) (e := 25) rfl rfl (fun _ => by kernel_rfl) ?_
  generalize hw1 : w.alloc (.cells (Value.cells (.agg (encB (List.replicate 32 0)).toArray)) tKey) = w1
  rw [show w.alloc (.cells (encB (List.replicate 32 0)).toArray tKey) = w1 from hw1] at ho1 hx1
  have hx2 : Ext none_ w1 (w1.alloc (.cells #[.slice a b.length c] 25)) := Ext.alloc _ _ _
  have hc2 : (w1.alloc (.cells #[.slice a b.length c] 25)).cell? ⟨w1.heap.size, 0, none⟩ = some (.slice a b.length c) := cell_of (heap_new _ _) rfl
  have hlt : w1.heap.size < (w1.alloc (.cells #[.slice a b.length c] 25)).heap.size := by simp
  refine call (vs := [_]) rfl rfl ok_sSum (c_sSum (bv := .slice a b.length c) (b := b) ⟨some ⟨w1.heap.size, 0, none⟩, 1, rfl, Nat.le_refl _, by simp [maxLen], (fun h => by cases h), fun j u hj => ?_⟩ ((hb.ext0 hx1).ext0 hx2) hl) ?_
  · rcases j with _ | j
    · cases hj
      exact ⟨_, rfl, hlt, by rw [add_at]; exact hc2⟩
    · cases hj
  rintro e w3 ⟨rfl, hx3⟩
  refine ⟨_, rfl, ?_⟩
  have ho3 := (hx2.trans hx3).obj ho1 id
  have hlen : (encB (Sh.sum b)).length = 32 := by simp [encB, Sh.sum, Sh.dig_len]
  refine stR (cells := (encB (Sh.sum b)).toArray) rfl rfl (by rw [sz_Key]; simp [hlen]) (oneB _) ho3 (by simp [encB, Sh.sum, Sh.dig_len]) <| L.nil ?_
  refine N.th ?_
  refine W.ret ?_
  refine N.retC (cs := encB (Sh.sum b)) rfl rfl ag_Key (by rw [sz_Key, hlen]) (row_cells (setRow_heap _ _ _ _ _ _ ho3)) ?_
  exact ⟨rfl, ((hx1.trans hx2).trans hx3).trans' (Ext.setRow (S := fun k => k = w.heap.size) _ (fun _ => rfl) _) (fun i hi e => by omega)⟩

theorem c_r1Of {w : World} {pv : Value} {vs : List (Value × List UInt8)} (hp : RowA w pv vs.length (vs.map (·.1))) (hb : ∀ p ∈ vs, BytA w p.1 p.2) (hl : (total vs).length ≤ 100000000) (hvl : vs.length ≤ 1000) : Calls P 21 #[pv] w fun e w' => e = .returned (.agg (encB (Sh.sum (total vs))).toArray) ∧ Ext none_ w w' := by
  obtain ⟨a, c, rfl, hn, hm, -, -⟩ := id hp
  refine enter (l := [_]) (n := 19) Tryz.func21 rfl rfl rfl ?_
  refine W.seq ?_
  refine W.reg <| new ze_Key rfl <| L.nil ?_
  refine N.th ?_
  obtain ⟨o, ho⟩ : ∃ o, o = w.heap.size := ⟨_, rfl⟩
  obtain ⟨w1, hw1⟩ : ∃ w1, w1 = w.alloc (.cells (encB (List.replicate 32 0)).toArray tKey) := ⟨_, rfl⟩
  have ho1 : w1.heap[o]? = some (.cells (encB (List.replicate 32 0)).toArray tKey (0, 0)) := by rw [hw1, ho]; exact heap_new _ _
  have hx1 : Ext none_ w w1 := by rw [hw1]; exact Ext.alloc _ _ _
  rw [show w.alloc (.cells (Value.cells (.agg (encB (List.replicate 32 0)).toArray)) tKey) = w1 from hw1.symm, ← ho]
  refine W.seq ?_
  refine W.reg <| asg rfl rfl <| L.nil ?_
  refine N.th ?_
  refine W.seq ?_
  refine W.seq ?_
  refine W.reg <| asg rfl rfl <| L.nil ?_
  refine N.th ?_
  refine W.block ?_
  refine W.loop (X := Nat × Value) (fun x => [(4, .int .i64 x.1), (3, x.2), (2, .pointer (some ⟨o, 0, none⟩)), (0, .slice a vs.length c)])
    (fun x w' => x.1 ≤ vs.length ∧ Byts w1.heap.size w' x.2 (total (vs.take x.1)) ∧ Ext none_ w1 w') (fun x => vs.length - x.1) (0, .slice none 0 0) ⟨rfl, rfl, rfl, rfl, trivial⟩ ⟨by omega, own_nil _ _ _ _, Ext.refl _ _⟩ ?_
  rintro ⟨i, v⟩ w2 ⟨hi, hv, hx2⟩
  dsimp only at hi hv ⊢
  refine W.seq ?_
  refine W.seq ?_
  refine W.reg <| mv rfl rfl <| mv rfl rfl <| lenV (t := 31) rfl u_bss rfl <| lssI rfl rfl rfl <| L.nil ?_
  refine N.th ?_
  refine W.cond rfl (fun h => ?_) (fun h => ?_)
  · refine W.skip ?_
    refine N.th ?_
    have hi1 : i < vs.length := by have := of_decide_eq_true h; omega
    obtain ⟨p, hpe⟩ : ∃ p, vs[i]? = some p := ⟨_, List.getElem?_eq_getElem hi1⟩
    obtain ⟨pa, po, pc, e, -, -, -, hc⟩ := RowA.plain (hp.ext0 (hx1.trans hx2)) (fun e => by rw [List.map_eq_nil_iff] at e; rw [e] at hi1; cases hi1)
    cases e
    have htk : total (vs.take (i + 1)) = total (vs.take i) ++ p.2 := by rw [List.take_add_one, hpe]; exact total_snoc _ _
    have hsz : (total (vs.take i)).length + p.2.length ≤ (total vs).length := by
      rw [← List.length_append, ← htk]
      have e2 : total (vs.take (i + 1)) ++ total (vs.drop (i + 1)) = total vs := by
        rw [show total (vs.take (i + 1)) ++ total (vs.drop (i + 1)) = total (vs.take (i + 1) ++ vs.drop (i + 1)) by simp only [total, List.map_append, List.flatten_append], List.take_append_drop]
      rw [← e2, List.length_append]
      omega
    refine W.seq ?_
    refine W.block ?_
    refine W.reg <| mv rfl rfl <| mv rfl rfl <| mv rfl rfl <| ixa rfl rfl u_bss sz_bytes rfl (by omega) (by omega) <| ld1 (v := p.1) rfl ag_bytes rfl (by
        rw [Int.toNat_natCast, Nat.mul_one]
        exact hc i _ (by simp [hpe])) <| appB rfl rfl hv ((hb p (List.mem_of_getElem? hpe)).ext0 (hx1.trans hx2)) el_bytes rfl (by omega) hx2.size fun v' w3 hv3 hx3 => ?_
    refine asg rfl rfl <| L.nil ?_
    refine N.inb ?_
    refine N.th ?_
    refine W.reg <| mv rfl rfl <| addI (c := ((i + 1 : Nat) : Int)) rfl rfl rfl (by rw [w64 (by omega) (by omega)]; simp) <| asg rfl rfl <| L.nil ?_
    exact N.th (N.round (x := (i + 1, v')) ⟨rfl, rfl, rfl, rfl, trivial⟩ ⟨by dsimp only; omega, by dsimp only; rw [htk]; exact hv3, hx2.own hv hx3⟩ (by dsimp only; omega))   -- ROUND
  refine W.exit ?_
  refine N.xth ?_
  refine N.xth ?_
  refine N.xeq ?_
  refine N.th ?_
  have hil : i = vs.length := by have := of_decide_eq_false h; omega
  rw [hil, List.take_length] at hv
  refine W.seq ?_
  refine W.reg <| mv rfl rfl <| call (vs := [_]) rfl rfl ok_rSum (c_rSum (Row.own hv).arg hl) ?_
  rintro e w3 ⟨rfl, hx3⟩
  refine ⟨_, rfl, ?_⟩
  have ho3 := (hx2.trans hx3).obj ho1 id
  have hlen : (encB (Sh.sum (total vs))).length = 32 := by simp [encB, Sh.sum, Sh.dig_len]
  refine stR (cells := (encB (Sh.sum (total vs))).toArray) rfl rfl (by rw [sz_Key]; simp [hlen]) (oneB _) ho3 (by simp [encB, Sh.sum, Sh.dig_len]) <| L.nil ?_
  refine N.th ?_
  refine W.ret ?_
  refine N.retC (cs := encB (Sh.sum (total vs))) rfl rfl ag_Key (by rw [sz_Key, hlen]) (row_cells (setRow_heap _ _ _ _ _ _ ho3)) ?_
  exact ⟨rfl, ((hx1.trans hx2).trans hx3).trans' (Ext.setRow (S := fun k => k = o) _ (fun _ => rfl) _) (fun i hi e => by omega)⟩
end Go.Proofs.YtmdpmpdlkaogdaaGreatDoor

namespace Go.Proofs.YtmdpmpdlkaogdaaGreatDoor
open Go Go.RowKit Vc
namespace Ar
/-- A number's bytes, the highest first. -/
def num (n k : Nat) : List UInt8 := (List.range k).map fun i => UInt8.ofNat (n / 2 ^ (8 * (k - 1 - i)))
theorem num_len (n k : Nat) : (num n k).length = k := by simp [num]
theorem num_get {n k i : Nat} (h : i < k) : (num n k)[i]? = some (UInt8.ofNat (n / 2 ^ (8 * (k - 1 - i)))) := by simp [num, h]
end Ar
/-- Bytes of the call's own, or those of a text that has no room. -/
def Buf (B : Nat) (w : World) (v : Value) (xs : List UInt8) : Prop := Byts B w v xs ∨ ∃ g fz, v = .slice (some ⟨g, 0, none⟩) xs.length xs.length ∧ B ≤ g ∧ w.heap[g]? = some (.cells (encB xs).toArray tB fz)
/-- Where a row lies that came of another. -/
def From (w : World) (v v' : Value) : Prop := ∀ b, v'.ownBlock = some b → v.ownBlock = some b ∨ w.heap.size ≤ b
theorem From.refl (w : World) (v : Value) : From w v v := fun _ h => .inl h
theorem From.trans {w w1 : World} {u v x : Value} (h : From w u v) (k : From w1 v x) (hs : w.heap.size ≤ w1.heap.size) : From w u x := fun b hb => by
  rcases k b hb with e | e
  · exact h b e
  · exact .inr (by omega)
theorem Ext.from_ {w w1 w2 : World} {v v' : Value} (h : Ext (fun b => v.ownBlock = some b) w w1) (hf : From w v v') (hx : Ext (fun b => v'.ownBlock = some b) w1 w2) : Ext (fun b => v.ownBlock = some b) w w2 :=
  h.trans' hx fun i hi e => by
    rcases hf i e with e | e
    · exact e
    · omega

section ops
variable {mm : Nat} {P : Program} {ds : List Deferred} {n : Nat} {Q : Exit → Act → World → Prop} {E : Env} {w : World} {ops : Array Oper} {l : List Oper}
variable {d1 d2 : Nat} {ty1 ty2 : TypeId} {pos1 pos2 : String} {af1 af2 : Array Edge}
/-- One byte more. -/
theorem pushB {t : TypeId} {B : Nat} {s x : Operand} {v : Value} {xs : List UInt8} {y : UInt8} (hx : opd E x = some (.int .u8 (y.toNat : Int))) (hd1 : Nat.blt d1 n = true) (hs : opd ((d1, .slice (some ⟨w.heap.size, 0, none⟩) 1 1) :: E) s = some v) (hd2 : Nat.blt d2 n = true)
    (hr : ∀ w, (Instr.buildSlice t 1 #[(0, .int .u8 (y.toNat : Int))]).run P w = .ok (.slice (some ⟨w.heap.size, 0, none⟩) 1 1) (w.alloc (.cells #[.int .u8 (y.toNat : Int)] tB))) (ht : ElT P t tB (.int .u8 0) 1 1)
    (hown : Buf B w v xs) (hl : xs.length ≤ 1000000000) (hB : B ≤ w.heap.size)
    (k : ∀ v' w', Byts B w' v' (xs ++ [y]) → Ext (fun k => v.ownBlock = some k) w w' → From w v v' → L Fence.wide mm P ds n ops l Q ((d2, v') :: (d1, .slice (some ⟨w.heap.size, 0, none⟩) 1 1) :: E) w') :
    L Fence.wide mm P ds n ops (⟨some d1, .buildSlice t 1 #[(0, x)], ty1, pos1, af1, none⟩ :: ⟨some d2, .call ⟨.builtin .append, #[s, .tmp d1], #[t, t]⟩, ty2, pos2, af2, none⟩ :: l) Q E w := by
  have h0 : opd ((d1, .slice (some ⟨w.heap.size, 0, none⟩) 1 1) :: E) (.tmp d1) = some (.slice (some ⟨w.heap.size, 0, none⟩) 1 1) := by simp [opd, getE]
  have hxa : Ext none_ w (w.alloc (.cells #[.int .u8 (y.toNat : Int)] tB)) := Ext.alloc _ _ _
  have hxs : (w.alloc (.cells #[.int .u8 (y.toNat : Int)] tB)).heap.size = w.heap.size + 1 := by simp
  have hnews : ∀ j u, (encB [y])[j]? = some u → (w.alloc (.cells #[.int .u8 (y.toNat : Int)] tB)).cell? ((⟨w.heap.size, 0, none⟩ : Addr).add j) = some u := fun j u hj => by
    rw [add_at, Nat.zero_add]
    refine cell_of (heap_new _ _) ?_
    rcases j with _ | j
    · cases hj; rfl
    · cases hj
  refine bls (st := .plain Fence.wide mm) (vs := #[(0, .int .u8 (y.toNat : Int))]) (cs := #[.int .u8 (y.toNat : Int)]) (e := tB) (by simp [hx]) hd1 hr ?_
  rcases hown with hown | ⟨g, fz, rfl, hg, hc⟩
  · refine app hs h0 hd2 ht (own_ext hown hxa fun _ _ => id) (news := encB [y]) (by simp [encB]) hnews (encB_one _) (by simp only [Nat.mul_one]; omega) (by simp only [maxLen]; omega) (by omega) fun v' w' ho hx2 _ hat => k v' w' (by simpa [Byts, encB] using ho) (hxa.none.trans hx2) fun b hb => ?_
    rcases hat with e | e
    · rw [e] at hb; exact .inl hb
    · rw [e] at hb; cases hb; exact .inr (by omega)
  · have hgl := lt_of_obj hc
    refine appG (st := .plain Fence.wide mm) hs h0 hd2 ht (olds := encB xs) (by simp [encB]) (fun j u hj => by rw [add_at, Nat.zero_add]; exact cell_of (hxa.obj hc id) (by simpa using hj)) (news := encB [y]) (by simp [encB]) hnews (by omega) (by simp only [Nat.mul_one]; omega) (by simp only [maxLen]; omega) fun v' w' ho hx2 => ⟨trivial, k v' w' ?_ (hxa.trans hx2).none fun b hb => ?_⟩
    · exact own_more (by simpa [encB] using ho) (by omega)
    · have := own_new ho b hb
      exact .inr (by omega)
end ops
theorem ok_aput : FnOk P 56 := ⟨_, Tryz.func56, by kernel_rfl, by kernel_rfl⟩
theorem ok_number : FnOk P 57 := ⟨_, Tryz.func57, by kernel_rfl, by kernel_rfl⟩
/-- What writing some bytes more answers. -/
def More (B : Nat) (w : World) (v : Value) (xs : List UInt8) (e : Ending) (w' : World) : Prop := ∃ v', e = .returned v' ∧ Byts B w' v' xs ∧ Ext (fun b => v.ownBlock = some b) w w' ∧ From w v v'

theorem c_aput {w : World} {B : Nat} {v : Value} {xs : List UInt8} (n k : Nat) (hv : Byts B w v xs) (hB : B ≤ w.heap.size) (hl : xs.length ≤ 100000000) (hn : n ≤ 1000000000) (hk : k ≤ 8) :
    Calls P 56 #[v, .int .i64 n, .int .i64 k] w (More B w v (xs ++ Ar.num n k)) := by
  refine enter (l := [_, _, _]) (n := 27) Tryz.func56 rfl rfl rfl ?_
  refine W.seq ?_
  refine W.reg <| asg rfl rfl <| L.nil ?_
  refine N.th ?_
  refine W.seq ?_
  refine W.seq ?_
  refine W.reg <| mv rfl rfl <| mv rfl rfl <| L.nil ?_
  refine N.th ?_
  refine W.block ?_
  refine W.loop (X := Nat × Value) (fun x => [(9, .int .i64 x.1), (8, .int .i64 k), (0, x.2), (1, .int .i64 n), (2, .int .i64 k)])
    (fun x w' => x.1 ≤ k ∧ Byts B w' x.2 (xs ++ (Ar.num n k).take x.1) ∧ Ext (fun b => v.ownBlock = some b) w w' ∧ From w v x.2) (fun x => k - x.1) (0, v) ⟨rfl, rfl, rfl, rfl, rfl, trivial⟩ ⟨by omega, by simpa using hv, Ext.refl _ _, From.refl _ _⟩ ?_
  rintro ⟨i, v1⟩ w1 ⟨hi, hv1, hx1, hf1⟩
  dsimp only at hi hv1 hf1 ⊢
  refine W.seq ?_
  refine W.reg <| lssI rfl rfl rfl <| L.nil ?_
  refine N.th ?_
  refine W.seq ?_
  refine W.cond rfl (fun h => ?_) (fun h => ?_)
  · refine W.skip ?_
    refine N.th ?_
    have hi1 : i < k := by have := of_decide_eq_true h; omega
    obtain ⟨y, hy⟩ : ∃ y : UInt8, y = UInt8.ofNat (n / 2 ^ (8 * (k - 1 - i))) := ⟨_, rfl⟩
    have hget : (Ar.num n k)[i]? = some y := by rw [hy]; exact Ar.num_get hi1
    have hlen : (xs ++ (Ar.num n k).take i).length ≤ 100000100 := by simp [Ar.num_len]; omega
    refine W.seq ?_
    refine W.block ?_
    refine W.seq ?_
    refine W.reg <| mv rfl rfl <| asg rfl rfl <| L.nil ?_
    refine N.th ?_
    refine W.reg <| mv rfl rfl <| mv rfl rfl <| cvtI (c := (n : Int)) rfl u_u64 u_int rfl (wu64 (by omega) (by omega)) <| mv rfl rfl <| subI (c := ((k - 1 : Nat) : Int)) rfl rfl rfl (by rw [w64 (by omega) (by omega)]; omega) <| mv rfl rfl <| subI (c := ((k - 1 - i : Nat) : Int)) rfl rfl rfl (by rw [w64 (by omega) (by omega)]; omega) <| mulI (c := ((8 * (k - 1 - i) : Nat) : Int)) rfl rfl rfl (by rw [w64 (by omega) (by omega)]; omega) <| cvtI (c := ((8 * (k - 1 - i) : Nat) : Int)) rfl u_uint u_int rfl (wu64 (by omega) (by omega)) <|
      shrI (c := ((n / 2 ^ (8 * (k - 1 - i)) : Nat) : Int)) rfl rfl rfl (by omega) (by
        have h1 : min (((8 * (k - 1 - i) : Nat) : Int)).toNat IntKind.u64.bits = 8 * (k - 1 - i) := by simp [IntKind.bits]; omega
        rw [h1, Int.fdiv_eq_ediv_of_nonneg _ (Int.pow_nonneg (by decide))]
        simp) <| cvtI (c := (y.toNat : Int)) rfl u_u8 u_u64 rfl (by rw [hy]; simp [IntKind.wrap, IntKind.bits, IntKind.signed]) <|
      pushB rfl rfl rfl rfl (fun _ => by kernel_rfl) el_bytes (.inl hv1) (by omega) (by have := hx1.size; omega) fun v2 w2 hv2 hx2 hf2 => ?_
    refine asg rfl rfl <| L.nil ?_
    refine N.inb ?_
    refine N.th ?_
    refine W.reg <| addI (c := ((i + 1 : Nat) : Int)) rfl rfl rfl (by rw [w64 (by omega) (by omega)]; simp) <| mv rfl rfl <| L.nil ?_
    refine N.th (N.round (x := (i + 1, v2)) ⟨rfl, rfl, rfl, rfl, rfl, trivial⟩ ⟨by dsimp only; omega, ?_, Ext.from_ hx1 hf1 hx2, hf1.trans hf2 hx1.size⟩ (by dsimp only; omega))   -- ROUND
    dsimp only
    rw [List.take_add_one, hget]
    show Byts B w2 v2 (xs ++ (_ ++ [y]))
    rw [← List.append_assoc]
    exact hv2
  · refine W.exit ?_
    refine N.xth ?_
    refine N.xth ?_
    refine N.xeq ?_
    refine N.th ?_
    have hik : i = k := by have := of_decide_eq_false h; omega
    rw [hik, List.take_of_length_le (by rw [Ar.num_len]; exact Nat.le_refl _)] at hv1
    refine W.seq ?_
    refine W.reg <| mv rfl rfl <| asg rfl rfl <| L.nil ?_
    refine N.th ?_
    refine W.ret ?_
    refine N.ret1 rfl rfl ?_   -- RETURN
    exact ⟨v1, rfl, hv1, hx1, hf1⟩

theorem c_number {w : World} {B : Nat} {v : Value} {xs : List UInt8} (n k : Nat) (hv : Byts B w v xs) (hB : B ≤ w.heap.size) (hl : xs.length ≤ 100000000) (_hn : n ≤ 1000000000) (hk : k ≤ 8) :
    Calls P 57 #[v, .int .u64 n, .int .i64 k] w (More B w v (xs ++ Ar.num n k)) := by
  refine enter (l := [_, _, _]) (n := 23) Tryz.func57 rfl rfl rfl ?_
  refine W.seq ?_
  refine W.reg <| asg rfl rfl <| L.nil ?_
  refine N.th ?_
  refine W.seq ?_
  refine W.seq ?_
  refine W.reg <| mv rfl rfl <| subI (c := (k : Int) - 1) rfl rfl rfl (w64 (by omega) (by omega)) <| asg rfl rfl <| L.nil ?_
  refine N.th ?_
  refine W.block ?_
  refine W.loop (X := Nat × Value) (fun x => [(7, .int .i64 ((k : Int) - 1 - x.1)), (0, x.2), (1, .int .u64 n)])
    (fun x w' => x.1 ≤ k ∧ Byts B w' x.2 (xs ++ (Ar.num n k).take x.1) ∧ Ext (fun b => v.ownBlock = some b) w w' ∧ From w v x.2) (fun x => k - x.1) (0, v) ⟨by simp [getE], rfl, rfl, trivial⟩ ⟨by omega, by simpa using hv, Ext.refl _ _, From.refl _ _⟩ ?_
  rintro ⟨i, v1⟩ w1 ⟨hi, hv1, hx1, hf1⟩
  dsimp only at hi hv1 hf1 ⊢
  refine W.seq ?_
  refine W.seq ?_
  refine W.reg <| mv rfl rfl <| geqI rfl rfl rfl <| L.nil ?_
  refine N.th ?_
  refine W.cond rfl (fun h => ?_) (fun h => ?_)
  · refine W.skip ?_
    refine N.th ?_
    have hi1 : i < k := by have := of_decide_eq_true h; omega
    obtain ⟨y, hy⟩ : ∃ y : UInt8, y = UInt8.ofNat (n / 2 ^ (8 * (k - 1 - i))) := ⟨_, rfl⟩
    have hget : (Ar.num n k)[i]? = some y := by rw [hy]; exact Ar.num_get hi1
    have hlen : (xs ++ (Ar.num n k).take i).length ≤ 100000100 := by simp [Ar.num_len]; omega
    refine W.seq ?_
    refine W.block ?_
    refine W.reg <| mv rfl rfl <| mv rfl rfl <| mv rfl rfl <| mulI (c := ((8 * (k - 1 - i) : Nat) : Int)) rfl rfl rfl (by rw [w64 (by omega) (by omega)]; omega) <|
      shrI (c := ((n / 2 ^ (8 * (k - 1 - i)) : Nat) : Int)) rfl rfl rfl (by omega) (by
        have h1 : min (((8 * (k - 1 - i) : Nat) : Int)).toNat IntKind.u64.bits = 8 * (k - 1 - i) := by simp [IntKind.bits]; omega
        rw [h1, Int.fdiv_eq_ediv_of_nonneg _ (Int.pow_nonneg (by decide))]
        simp) <| cvtI (c := (y.toNat : Int)) rfl u_u8 u_u64 rfl (by rw [hy]; simp [IntKind.wrap, IntKind.bits, IntKind.signed]) <|
      pushB rfl rfl rfl rfl (fun _ => by kernel_rfl) el_bytes (.inl hv1) (by omega) (by have := hx1.size; omega) fun v2 w2 hv2 hx2 hf2 => ?_
    refine asg rfl rfl <| L.nil ?_
    refine N.inb ?_
    refine N.th ?_
    refine W.reg <| mv rfl rfl <| subI (c := (k : Int) - 1 - ((i + 1 : Nat) : Int)) rfl rfl rfl (by rw [w64 (by omega) (by omega)]; omega) <| asg rfl rfl <| L.nil ?_
    refine N.th (N.round (x := (i + 1, v2)) ⟨rfl, rfl, rfl, trivial⟩ ⟨by dsimp only; omega, ?_, Ext.from_ hx1 hf1 hx2, hf1.trans hf2 hx1.size⟩ (by dsimp only; omega))   -- ROUND
    dsimp only
    rw [List.take_add_one, hget]
    show Byts B w2 v2 (xs ++ (_ ++ [y]))
    rw [← List.append_assoc]
    exact hv2
  · refine W.exit ?_
    refine N.xth ?_
    refine N.xth ?_
    refine N.xeq ?_
    refine N.th ?_
    have hik : i = k := by have := of_decide_eq_false h; omega
    rw [hik, List.take_of_length_le (by rw [Ar.num_len]; exact Nat.le_refl _)] at hv1
    refine W.seq ?_
    refine W.reg <| mv rfl rfl <| asg rfl rfl <| L.nil ?_
    refine N.th ?_
    refine W.ret ?_
    refine N.ret1 rfl rfl ?_   -- RETURN
    exact ⟨v1, rfl, hv1, hx1, hf1⟩
end Go.Proofs.YtmdpmpdlkaogdaaGreatDoor

namespace Go.Proofs.YtmdpmpdlkaogdaaGreatDoor
open Go Go.RowKit Go.ChangeShapes Go.WideShapes Vc

theorem list_of {α : Type} : ∀ (n : Nat) (R : Nat → α → Prop), (∀ i, i < n → ∃ x, R i x) → ∃ l : List α, l.length = n ∧ ∀ i x, l[i]? = some x → R i x := by
  intro n
  induction n with
  | zero => intro R _; exact ⟨[], rfl, fun i x h => by cases h⟩
  | succ n ih =>
    intro R h
    obtain ⟨x, hx⟩ := h 0 (by omega)
    obtain ⟨l, hl, hr⟩ := ih (fun i => R (i + 1)) (fun i hi => h (i + 1) (by omega))
    refine ⟨x :: l, by simp [hl], fun i y hy => ?_⟩
    cases i with
    | zero => cases hy; exact hx
    | succ i => exact hr i y (by simpa using hy)
theorem add_add (a : Addr) (i j : Nat) : (a.add i).add j = a.add (i + j) := by
  unfold Addr.add
  by_cases hi : i = 0
  · subst hi; simp
  · by_cases hj : j = 0
    · subst hj; simp [hi]
    · simp [hi, hj, Nat.add_assoc]
theorem lt_of_cell {w : World} {a : Addr} {v : Value} (h : w.cell? a = some v) : a.block < w.heap.size := by
  rcases Nat.lt_or_ge a.block w.heap.size with h1 | h1
  · exact h1
  · simp [World.cell?, Array.getElem?_eq_none h1] at h

section
variable {H : Type} {enc : TypeId × Value → H} {P : Program} {w : World} {base : Nat} {spare : Nat → Bool} {held : Bool} {fuel : Nat} {t e : TypeId} {cs : List Value} {x : DataW H × List MemPlace}

/-- A slice, opened: each element reads as its type says. -/
theorem open_els {k : Nat} (ht : P.underlying t = some (.slice e)) (hk : P.cellsOf e = k) (h : DataW.trod enc P w base spare held fuel t cs = some x) :
    cs = [.slice none 0 0] ∨ ∃ (a : Addr) (len cap n : Nat), cs = [.slice (some a) len cap] ∧ len ≤ cap ∧ cap ≤ maxLen ∧ ∀ i, i < len → ∃ csi y, DataW.trod enc P w base spare held n e csi = some y ∧ csi.length = k ∧ ∀ j u, csi[j]? = some u → w.cell? (a.add (i * k + j)) = some u := by
  rcases DataW.trod_slice ht h with ⟨h0, -⟩ | ⟨a, len, cap, elems, rest, n, _, h1, _, hb, hl, hm, hlen, hel, -⟩
  · exact .inl h0
  · refine .inr ⟨a, len, cap, n, h1, hl, hm, fun i hi => ?_⟩
    have := hel i hi
    rw [List.getElem?_eq_getElem (by omega), Option.bind_eq_some_iff] at this
    obtain ⟨csi, hc, hy⟩ := this
    rw [hk] at hc
    obtain ⟨-, hl2, hc2⟩ := World.cells?_some hc
    refine ⟨csi, _, hy, hl2, fun j u hj => ?_⟩
    have hjk : j < k := by rw [← hl2]; exact (List.getElem?_eq_some_iff.1 hj).1
    rw [← add_add, hc2 j hjk]; exact hj
theorem open_byte (he : P.underlying e = some (.int .u8)) (h : DataW.trod enc P w base spare held fuel e cs = some x) : ∃ b : UInt8, cs = [.int .u8 b.toNat] := by
  obtain ⟨n, rfl, -, hw⟩ := DataW.trod_int he h
  have hw' : 0 ≤ n ∧ n < 256 := by
    simp [Lit.wf, IntKind.min, IntKind.max, IntKind.bits, IntKind.signed] at hw
    omega
  refine ⟨UInt8.ofNat n.toNat, ?_⟩
  have : ((UInt8.ofNat n.toNat).toNat : Int) = n := by simp; omega
  rw [this]
theorem open_str (he : P.underlying e = some .string) (h : DataW.trod enc P w base spare held fuel e cs = some x) : ∃ s : List UInt8, cs = [.string (S s)] := by
  obtain ⟨s, rfl, -, -⟩ := DataW.trod_string he h
  exact ⟨s.data.toList, rfl⟩
/-- Bytes. -/
theorem open_bytesA (ht : P.underlying t = some (.slice e)) (he : P.underlying e = some (.int .u8)) (hk : P.cellsOf e = 1) (h : DataW.trod enc P w base spare held fuel t cs = some x) : ∃ v l, cs = [v] ∧ BytA w v l := by
  rcases open_els ht hk h with rfl | ⟨a, len, cap, n, rfl, hl, hm, hel⟩
  · exact ⟨_, [], rfl, (Row.nil w tB 1).arg⟩
  · obtain ⟨l, hll, hlr⟩ := list_of (α := UInt8) len (fun i b => w.cell? (a.add i) = some (.int .u8 b.toNat)) (fun i hi => by
      obtain ⟨csi, y, hy, hl2, hc⟩ := hel i hi
      obtain ⟨b, rfl⟩ := open_byte he hy
      exact ⟨b, by have := hc 0 _ rfl; simpa using this⟩)
    refine ⟨_, l, rfl, some a, cap, by rw [hll], by omega, hm, (fun h => by cases h), fun j u hj => ?_⟩
    simp only [encB, List.getElem?_map, Option.map_eq_some_iff] at hj
    obtain ⟨b, hb, rfl⟩ := hj
    have := hlr j b hb
    exact ⟨a, rfl, by have := lt_of_cell this; rwa [add_block] at this, this⟩
/-- Rows of bytes. -/
theorem open_rowsA {e2 : TypeId} (ht : P.underlying t = some (.slice e)) (hk : P.cellsOf e = 1) (hte : P.underlying e = some (.slice e2)) (he : P.underlying e2 = some (.int .u8)) (hk2 : P.cellsOf e2 = 1) (h : DataW.trod enc P w base spare held fuel t cs = some x) :
    ∃ v, ∃ rows : List (Value × List UInt8), cs = [v] ∧ RowA w v rows.length (rows.map (·.1)) ∧ ∀ p ∈ rows, BytA w p.1 p.2 := by
  rcases open_els ht hk h with rfl | ⟨a, len, cap, n, rfl, hl, hm, hel⟩
  · exact ⟨_, [], rfl, (Row.nil w tB 1).arg, fun p h => by cases h⟩
  · obtain ⟨l, hll, hlr⟩ := list_of (α := Value × List UInt8) len (fun i p => w.cell? (a.add i) = some p.1 ∧ BytA w p.1 p.2) (fun i hi => by
      obtain ⟨csi, y, hy, hl2, hc⟩ := hel i hi
      obtain ⟨v, b, rfl, hb⟩ := open_bytesA hte he hk2 hy
      exact ⟨(v, b), by have := hc 0 _ rfl; simpa using this, hb⟩)
    refine ⟨_, l, rfl, ⟨some a, cap, by rw [hll], by omega, hm, (fun h => by cases h), fun j u hj => ?_⟩, fun p hp => ?_⟩
    · simp only [List.getElem?_map, Option.map_eq_some_iff] at hj
      obtain ⟨p, hp, rfl⟩ := hj
      have := (hlr j p hp).1
      exact ⟨a, rfl, by have := lt_of_cell this; rwa [add_block] at this, this⟩
    · obtain ⟨j, hj⟩ := List.getElem?_of_mem hp
      exact (hlr j p hj).2
end
/-- Cells of elements, one behind another. -/
theorem flatA_get {α : Type} {f : α → List Value} {k : Nat} : ∀ (E : List α), (∀ x ∈ E, (f x).length = k) → ∀ (j : Nat) u, (E.flatMap f)[j]? = some u → ∃ i r x, j = i * k + r ∧ E[i]? = some x ∧ (f x)[r]? = some u := by
  intro E
  induction E with
  | nil => intro _ j u h; cases h
  | cons x E ih =>
    intro hf j u h
    rw [List.flatMap_cons, List.getElem?_append] at h
    split at h
    · exact ⟨0, j, x, by simp, rfl, h⟩
    · rename_i hn
      obtain ⟨i, r, y, h1, h2, h3⟩ := ih (fun y hy => hf y (List.mem_cons_of_mem _ hy)) _ u h
      have := hf x (by simp)
      exact ⟨i + 1, r, y, by rw [Nat.add_mul]; omega, h2, h3⟩
/-- A slice of structs. -/
theorem rowA_of {α : Type} {w : World} {a : Addr} {len cap k : Nat} {f : α → List Value} {E : List α} (hf : ∀ x ∈ E, (f x).length = k) (hl : len ≤ cap) (hm : cap ≤ maxLen) (h : ∀ i x, E[i]? = some x → ∀ j u, (f x)[j]? = some u → w.cell? (a.add (i * k + j)) = some u) : RowA w (.slice (some a) len cap) len (E.flatMap f) := by
  refine ⟨some a, cap, rfl, hl, hm, (fun h => by cases h), fun j u hj => ?_⟩
  obtain ⟨i, r, x, rfl, hi, hr⟩ := flatA_get E hf j u hj
  have := h i x hi r u hr
  exact ⟨a, rfl, by have := lt_of_cell this; rwa [add_block] at this, this⟩
end Go.Proofs.YtmdpmpdlkaogdaaGreatDoor
