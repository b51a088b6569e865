/- ArchiveMany's row and card: of whatever two bytes come in, the law answers true and never panics. -/
import Derived.Test.YtmdpmpdlkaogdaaDoorMn08
import Derived.Test.YtmdpmpdlkaogdaaDoorMn02
import Derived.Laws.OwnMore
import Derived.Test.YtmdpmpdlkaogdaaDoorRows
import Derived.Test.YtmdpmpdlkaogdaaDoorCards
import Derived.Test.YtmdpmpdlkaogdaaDoorTie
import Derived.Test.YtmdpmpdlkaogdaaDoorChecked
import Derived.WalkKit
import Derived.ProofKit
import Derived.OpenShut
import Derived.ShutString
import Derived.ChangeOld
import Derived.Below
import Derived.SizedLaws
import Derived.LaidMore
import Derived.Lay
import Derived.SevenTiedAt
import Derived.Stop.Joined

namespace Go.Proofs.YtmdpmpdlkaogdaaDoor
open Go Go.RowKit Vc
theorem eg_Key : P.eqGuardType P.depth 33 = false := by kernel_rfl
theorem sum_len (b : List UInt8) : (Sh.sum b).length = 32 := by simp [Sh.sum, Sh.dig_len]

/-- Where a number falls. -/
def place (k : Int) (n : Nat) : Nat := (if k.tmod n < 0 then k.tmod n + n else k.tmod n).toNat
theorem place_lt (k : Int) {n : Nat} (hn : 0 < n) : place k n < n := by
  have h1 := Int.tmod_lt_of_pos k (show (0 : Int) < n by omega)
  unfold place
  split <;> omega
theorem place_int (k : Int) {n : Nat} (hn : 0 < n) : ((place k n : Nat) : Int) = if k.tmod n < 0 then k.tmod n + n else k.tmod n := by
  have h1 := Int.natAbs_tmod k n
  have h2 : (k.tmod n).natAbs < n := by rw [h1, Int.natAbs_natCast]; exact Nat.mod_lt _ hn
  unfold place
  split <;> omega
namespace Kn13
def f1 : Tr.T := [([97, 47, 98], (false, [120]))]
def f2 : Tr.T := [([46, 46, 47, 97], (false, []))]
def k1 : Tr.T := [([97], (true, [])), ([97, 47, 98], (false, [120]))]
theorem o1 : Ar.opn (Ar.pk f1) = (some k1, 0) := by
  have h1 : Ar.par ((Ar.pk f1).length + 1) ((Ar.pk f1).drop 4) [] = (some f1, 0) := by kernel_rfl
  have h2 : Tr.of f1 = (some k1, 0) := by kernel_rfl
  have h3 : Tr.files k1 = k1 := List.mergeSort_of_pairwise (by decide)
  rw [Ar.opn_fin ⟨Nat.le_of_ble_eq_true (by kernel_rfl), by kernel_rfl⟩, h1]
  show (match Tr.of f1 with
    | (none, _) => ((none : Option Tr.T), (64 : Int))
    | (some m, _) => (some (Tr.files m), 0)) = _
  rw [h2]
  show (some (Tr.files k1), (0 : Int)) = _
  rw [h3]
theorem o2 : Ar.opn [80, 65, 75, 49] = (none, 64) := by kernel_rfl
theorem o3 : Ar.opn (Ar.pk f2) = (none, 51) := by kernel_rfl
end Kn13
theorem FilesA.one {w : World} {x : FE} {g : Nat} (hg : w.heap[g]? = some (.cells (fcells x).toArray tF (0, 0))) (hb : BytA w x.2.2.1 x.2.2.2) : FilesA w (.slice (some ⟨g, 0, none⟩) 1 1) [x] :=
  ⟨⟨_, 1, rfl, Nat.le_refl _, by simp [maxLen], (fun h => by cases h), fun j u hj => ⟨_, rfl, lt_of_obj hg, by rw [add_at]; exact cell_of hg (by simpa using hj)⟩⟩, by simp [hb]⟩
theorem FilesA.nil (w : World) : FilesA w (.slice none 0 0) [] := ⟨(Row.nil w tF 3).arg, by simp⟩
theorem FilesA.own {B : Nat} {w : World} {v : Value} {E : List FE} (h : w.ownsRow B tF 3 v E.length (E.flatMap fcells)) (hb : ∀ x ∈ E, Byts B w x.2.2.1 x.2.2.2) : FilesAt w v E := ⟨Row.own h, fun x hx => Row.own (hb x hx)⟩
theorem ok_known13 : FnOk P 4 := ⟨_, Tryd.func4, by kernel_rfl, by kernel_rfl⟩
theorem lit_arg {w : World} {g : Nat} {l : List UInt8} {f : Nat × Nat} (hg : w.heap[g]? = some (.cells (encB l).toArray tB f)) (hl : l.length ≤ 1000) : BytA w (.slice (some ⟨g, 0, none⟩) l.length l.length) l :=
  ⟨_, _, rfl, Nat.le_refl _, by simp only [maxLen]; omega, (fun h => by cases h), fun j u hj => ⟨_, rfl, lt_of_obj hg, by rw [add_at]; exact cell_of hg (by simpa using hj)⟩⟩

set_option maxHeartbeats 1000000 in
theorem c_known13 (w : World) : Calls P 4 #[] w fun e w' => e = .returned (.bool true) ∧ Ext none_ w w' := by
  refine enter (l := []) (n := 71) Tryd.func4 rfl rfl rfl ?_
  refine W.seq ?_
  refine W.reg <| asg rfl rfl <| L.nil ?_
  refine N.th ?_
  refine W.seq ?_
  refine W.reg <| bls (vs := #[(0, .int .u8 120)]) (cs := #[.int .u8 120]) (e := tB) rfl rfl (fun _ => by kernel_rfl) <| cvtBB rfl u_bytes u_u8 rfl (heap_new _ _) trivial fun w1 hg1 hx1 => ⟨trivial, ?_⟩
  have hx01 : Ext none_ w w1 := (Ext.alloc none_ _ _).trans' hx1 fun i hi e => by omega
  have hb1 : BytA w1 (.slice (some ⟨w.heap.size, 0, none⟩) 1 1) [120] := lit_arg (l := [120]) hg1 (by simp)
  refine bld (vs := #[(0, .string (S [97, 47, 98])), (2, .slice (some ⟨w.heap.size, 0, none⟩) 1 1)]) (v := .agg (fcells ([97, 47, 98], false, .slice (some ⟨w.heap.size, 0, none⟩) 1 1, [120])).toArray) rfl rfl (fun _ => by kernel_rfl) <|
    bls (vs := #[(0, .agg (fcells ([97, 47, 98], false, .slice (some ⟨w.heap.size, 0, none⟩) 1 1, [120])).toArray)]) (cs := (fcells ([97, 47, 98], false, .slice (some ⟨w.heap.size, 0, none⟩) 1 1, [120])).toArray) (e := tF) rfl rfl (fbuildS ⟨_, _, _, rfl⟩).1 ?_
  have hx2 : Ext none_ w1 (w1.alloc (.cells (fcells ([97, 47, 98], false, .slice (some ⟨w.heap.size, 0, none⟩) 1 1, [120])).toArray tF)) := Ext.alloc _ _ _
  have hF2 := FilesA.one (x := ([97, 47, 98], false, .slice (some ⟨w.heap.size, 0, none⟩) 1 1, [120])) (heap_new w1 (.cells (fcells ([97, 47, 98], false, .slice (some ⟨w.heap.size, 0, none⟩) 1 1, [120])).toArray tF)) (hb1.ext0 hx2)
  generalize w1.alloc _ = w2 at hx2 hF2 ⊢
  refine call (vs := [_]) rfl rfl ok_Pack (c_Pack hF2 (by simp) (Nat.le_of_ble_eq_true (by kernel_rfl)) (by simp)) ?_
  rintro e w3 ⟨v3, rfl, hp3, hx3⟩
  refine ⟨_, rfl, ?_⟩
  refine asg rfl rfl <| L.nil ?_
  refine N.th ?_
  have hp3' : Byts w2.heap.size w3 v3 (Ar.pk Kn13.f1) := hp3
  refine W.seq ?_
  refine W.reg <| mv rfl rfl <| call (vs := [_]) rfl rfl ok_AOpen (c_AOpen (Row.own hp3').arg (Nat.le_of_ble_eq_true (by kernel_rfl))) ?_
  rintro e w4 ⟨hx4, -, hs4⟩
  obtain ⟨v4, E4, rfl, hown4, hb4, hE4⟩ := hs4 Kn13.k1 (by rw [Kn13.o1])
  have hF4 := FilesA.own hown4 hb4
  refine ⟨_, rfl, ?_⟩
  refine mv rfl rfl <| ext rfl rfl rfl <| ext (v := .int .i64 0) rfl rfl rfl <| asg rfl rfl <| asg rfl rfl <| L.nil ?_
  refine N.th ?_
  refine W.seq ?_
  refine W.reg <| bls (vs := #[(0, .int .u8 80), (1, .int .u8 65), (2, .int .u8 75), (3, .int .u8 49)]) (cs := #[.int .u8 80, .int .u8 65, .int .u8 75, .int .u8 49]) (e := tB) rfl rfl (fun _ => by kernel_rfl) <| cvtBB rfl u_bytes u_u8 rfl (heap_new _ _) trivial fun w5 hg5 hx5 => ⟨trivial, ?_⟩
  have hx45 : Ext none_ w4 w5 := (Ext.alloc none_ _ _).trans' hx5 fun i hi e => by omega
  have hb5 : BytA w5 (.slice (some ⟨w4.heap.size, 0, none⟩) 4 4) [80, 65, 75, 49] := lit_arg (l := [80, 65, 75, 49]) hg5 (by simp)
  refine call (vs := [_]) rfl rfl ok_AOpen (c_AOpen hb5 (by simp)) ?_
  rintro e w6 ⟨hx6, hn6, -⟩
  rw [Kn13.o2] at hn6
  rw [hn6 rfl]
  refine ⟨_, rfl, ?_⟩
  refine mv rfl rfl <| ext rfl rfl rfl <| ext (v := .int .i64 64) rfl rfl rfl <| asg rfl rfl <| asg rfl rfl <| L.nil ?_
  refine N.th ?_
  refine W.seq ?_
  refine W.reg <| bld (vs := #[(0, .string (S [46, 46, 47, 97]))]) (v := .agg (fcells ([46, 46, 47, 97], false, .slice none 0 0, [])).toArray) rfl rfl (fun _ => by kernel_rfl) <|
    bls (vs := #[(0, .agg (fcells ([46, 46, 47, 97], false, .slice none 0 0, [])).toArray)]) (cs := (fcells ([46, 46, 47, 97], false, .slice none 0 0, [])).toArray) (e := tF) rfl rfl (fbuildS ⟨_, _, _, rfl⟩).1 ?_
  have hx7 : Ext none_ w6 (w6.alloc (.cells (fcells ([46, 46, 47, 97], false, .slice none 0 0, [])).toArray tF)) := Ext.alloc _ _ _
  have hF7 := FilesA.one (x := ([46, 46, 47, 97], false, .slice none 0 0, [])) (heap_new w6 (.cells (fcells ([46, 46, 47, 97], false, .slice none 0 0, [])).toArray tF)) (Row.nil _ tB 1).arg
  generalize w6.alloc _ = w7 at hx7 hF7 ⊢
  refine call (vs := [_]) rfl rfl ok_Pack (c_Pack hF7 (by simp) (Nat.le_of_ble_eq_true (by kernel_rfl)) (by simp)) ?_
  rintro e w8 ⟨v8, rfl, hp8, hx8⟩
  refine ⟨_, rfl, ?_⟩
  have hp8' : Byts w7.heap.size w8 v8 (Ar.pk Kn13.f2) := hp8
  refine call (vs := [_]) rfl rfl ok_AOpen (c_AOpen (Row.own hp8').arg (Nat.le_of_ble_eq_true (by kernel_rfl))) ?_
  rintro e w9 ⟨hx9, hn9, -⟩
  rw [Kn13.o3] at hn9
  rw [hn9 rfl]
  refine ⟨_, rfl, ?_⟩
  refine mv rfl rfl <| ext rfl rfl rfl <| ext (v := .int .i64 51) rfl rfl rfl <| asg rfl rfl <| asg rfl rfl <| L.nil ?_
  refine N.th ?_
  refine W.seq ?_
  refine W.reg <| call (vs := [_]) rfl rfl ok_Pack (c_Pack (FilesA.nil w9) (by simp) (by simp [Ar.ents]) (by simp)) ?_
  rintro e w10 ⟨v10, rfl, hp10, hx10⟩
  refine ⟨_, rfl, ?_⟩
  have hp10' : Byts w9.heap.size w10 v10 [80, 65, 75, 49, 255] := hp10
  have hF10 : FilesA w10 v4 E4 := (((((hF4.arg.ext0 hx45).ext0 hx6).ext0 hx7).ext0 hx8).ext0 hx9).ext0 hx10
  have hEl : E4.length = 2 := by have := congrArg List.length hE4; simpa [Kn13.k1] using this
  obtain ⟨x, y, rfl⟩ := two_of hEl
  obtain ⟨px, py⟩ : fnd x = ([97], (true, [])) ∧ fnd y = ([97, 47, 98], (false, [120])) := by
    simp [Kn13.k1] at hE4
    exact hE4
  obtain ⟨gb, go, gc, rfl, -, hcell⟩ := hF10.plain (x0 := x) (by simp)
  obtain ⟨hc0, hc1, hc2⟩ := hcell 1 y rfl
  have hy1 : y.1 = [97, 47, 98] := congrArg Prod.fst py
  have hy2 : y.2.2.2 = [120] := congrArg (·.2.2) py
  have hyb := hF10.bytes y (by simp)
  rw [hy1] at hc0
  rw [hy2] at hyb
  refine cvtBS (a := [80, 65, 75, 49, 255]) rfl u_bytes u_u8 u_str rfl (Kn.here (Row.own hp10')) ?_
  refine eqlS (b := [80, 65, 75, 49, 255]) rfl rfl rfl ?_
  (repeat (first | refine mv rfl rfl ?_ | refine asg rfl rfl ?_ | refine L.off rfl rfl rfl rfl rfl ?_ | refine L.offU rfl rfl rfl rfl ?_ | refine L.on rfl rfl rfl ?_ | refine pickT rfl rfl rfl ?_ | refine pickF rfl rfl rfl ?_ | refine ext rfl rfl rfl ?_ | refine nilc rfl rfl ?_ | refine lenV (t := 86) rfl u_strs rfl ?_ | refine lenV (t := 24) rfl u_bytes rfl ?_ | refine lenV (t := 23) rfl u_files rfl ?_ | refine lenS (t := 9) rfl u_str rfl ?_ | refine eqlI rfl rfl rfl ?_ | refine neqI rfl rfl rfl ?_ | refine lssI rfl rfl rfl ?_ | refine leqI rfl rfl rfl ?_ | refine gtrI rfl rfl rfl ?_ | refine geqI rfl rfl rfl ?_))
  refine ixa rfl rfl u_files sz_File rfl (by decide) (by simp) <| L.on rfl rfl rfl <| fad rfl fl_File_0 rfl <| L.on rfl rfl rfl <| ld1 rfl ag_str rfl hc0 <| L.on rfl rfl rfl <| eqlS (b := [97, 47, 98]) rfl rfl rfl ?_
  (repeat (first | refine mv rfl rfl ?_ | refine asg rfl rfl ?_ | refine L.off rfl rfl rfl rfl rfl ?_ | refine L.offU rfl rfl rfl rfl ?_ | refine L.on rfl rfl rfl ?_ | refine pickT rfl rfl rfl ?_ | refine pickF rfl rfl rfl ?_ | refine ext rfl rfl rfl ?_ | refine nilc rfl rfl ?_ | refine lenV (t := 86) rfl u_strs rfl ?_ | refine lenV (t := 24) rfl u_bytes rfl ?_ | refine lenV (t := 23) rfl u_files rfl ?_ | refine lenS (t := 9) rfl u_str rfl ?_ | refine eqlI rfl rfl rfl ?_ | refine neqI rfl rfl rfl ?_ | refine lssI rfl rfl rfl ?_ | refine leqI rfl rfl rfl ?_ | refine gtrI rfl rfl rfl ?_ | refine geqI rfl rfl rfl ?_))
  refine ixa rfl rfl u_files sz_File rfl (by decide) (by simp) <| L.on rfl rfl rfl <| fad rfl fl_File_2 rfl <| L.on rfl rfl rfl <| ld1 rfl ag_bytes rfl hc2 <| L.on rfl rfl rfl <| cvtBA (a := [120]) rfl u_bytes u_u8 u_str rfl (Kn.here hyb) <| L.on rfl rfl rfl <| eqlS (b := [120]) rfl rfl rfl ?_
  (repeat (first | refine mv rfl rfl ?_ | refine asg rfl rfl ?_ | refine L.off rfl rfl rfl rfl rfl ?_ | refine L.offU rfl rfl rfl rfl ?_ | refine L.on rfl rfl rfl ?_ | refine pickT rfl rfl rfl ?_ | refine pickF rfl rfl rfl ?_ | refine ext rfl rfl rfl ?_ | refine nilc rfl rfl ?_ | refine lenV (t := 86) rfl u_strs rfl ?_ | refine lenV (t := 24) rfl u_bytes rfl ?_ | refine lenV (t := 23) rfl u_files rfl ?_ | refine lenS (t := 9) rfl u_str rfl ?_ | refine eqlI rfl rfl rfl ?_ | refine neqI rfl rfl rfl ?_ | refine lssI rfl rfl rfl ?_ | refine leqI rfl rfl rfl ?_ | refine gtrI rfl rfl rfl ?_ | refine geqI rfl rfl rfl ?_))
  refine call (vs := [_]) rfl rfl ok_Digest (c_Digest (b := []) (Row.nil w10 tB 1).arg (by simp)) ?_
  rintro e w11 ⟨rfl, hx11⟩
  refine ⟨_, rfl, ?_⟩
  refine L.on rfl rfl rfl <| call (vs := [_]) rfl rfl ok_r1Of (c_r1Of (vs := []) (Row.nil w11 24 1).arg (by simp) (by simp [total]) (by simp)) ?_
  rintro e w12 ⟨rfl, hx12⟩
  refine ⟨_, rfl, ?_⟩
  refine L.on rfl rfl rfl <| eqlA rfl rfl u_Key u_u8 el_bytes.szB eg_Key (sum_len _) (sum_len _) rfl ?_
  (repeat (first | refine mv rfl rfl ?_ | refine asg rfl rfl ?_ | refine L.off rfl rfl rfl rfl rfl ?_ | refine L.offU rfl rfl rfl rfl ?_ | refine L.on rfl rfl rfl ?_ | refine pickT rfl rfl rfl ?_ | refine pickF rfl rfl rfl ?_ | refine ext rfl rfl rfl ?_ | refine nilc rfl rfl ?_ | refine lenV (t := 86) rfl u_strs rfl ?_ | refine lenV (t := 24) rfl u_bytes rfl ?_ | refine lenV (t := 23) rfl u_files rfl ?_ | refine lenS (t := 9) rfl u_str rfl ?_ | refine eqlI rfl rfl rfl ?_ | refine neqI rfl rfl rfl ?_ | refine lssI rfl rfl rfl ?_ | refine leqI rfl rfl rfl ?_ | refine gtrI rfl rfl rfl ?_ | refine geqI rfl rfl rfl ?_))
  refine L.nil ?_
  refine N.th ?_
  refine W.ret ?_
  refine N.ret1 rfl rfl ⟨?_, ?_⟩   -- RETURN
  · simp [total]
  · exact ((((((((hx01.trans hx2).trans hx3).trans hx4).trans hx45).trans hx6).trans hx7).trans hx8).trans hx9).trans (hx10.trans (hx11.trans hx12))
end Go.Proofs.YtmdpmpdlkaogdaaDoor

namespace Go.Proofs.YtmdpmpdlkaogdaaDoor.Vc
open Go Go.RowKit

section held
variable {P : Program} {ops : Array Oper} {Q : Exit → Act → World → Prop} {S T : World → Prop} {x : Bool}
theorem wpAnyG_mono (h : ∀ w, S w → T w) : ∀ (fuel : Nat) (listed : Array Bool) (a : Act) (w : World), wpAnyG x P ops Q S fuel listed a w → wpAnyG x P ops Q T fuel listed a w
  | 0, _, _, _, k => k
  | fuel + 1, _, _, _, k => ⟨k.1, fun i hi => wpOp_mono (fun a' w' k' => ⟨k'.1.imp (h w') id, wpAnyG_mono h fuel _ a' w' k'.2⟩) (k.2 i hi)⟩
end held

/-- From here on more is known of all worlds. -/
def nextQ (ts : List Nat) (T : World → Prop) (P : Program) (ops : Array Oper) (Q : Exit → Act → World → Prop) (l : List Oper) : Exit → Act → World → Prop
  | .normal, a, w => ∃ S : World → Prop, (∀ w, S w → T w) ∧ S w ∧ wpHeld ts false S P ops Q l a w
  | e, a, w => Q e a w
/-- What is to be shown where two ways part. -/
def forkQ (ts : List Nat) (T : World → Prop) (P : Program) (ops : Array Oper) (Q : Exit → Act → World → Prop) (u1 l1 u2 l2 : List Oper) : Exit → Act → World → Prop
  | .normal, a, w => wpHeld ts false T P ops (nextQ ts T P ops Q l1) u1 a w ∧ wpHeld ts false T P ops (nextQ ts T P ops Q l2) u2 a w
  | e, a, w => Q e a w
/-- Some alone, then all others. -/
def contB (ts : List Nat) (ops : List Oper) (s : List Nat) : List Nat → Array Bool → Bool
  | [], listed => schedB ts false ops s listed
  | i :: r, listed => decide (i < ops.length) && !rdB ts (nth ops i) && decide (Region.ready .any ops.toArray listed = [i]) && contB ts ops s r (listed.setIfInBounds i true)
/-- Readers, then two that part. -/
def forkB (ts : List Nat) (ops : List Oper) (s1 s2 : List Nat) : List Nat → List Nat → List Nat → Array Bool → Bool
  | [], i :: r, j :: t, listed => decide (i < ops.length) && decide (j < ops.length) && !rdB ts (nth ops i) && !rdB ts (nth ops j) && decide (Region.ready .any ops.toArray listed = [i, j]) && contB ts ops s1 r (listed.setIfInBounds i true) && contB ts ops s2 t (listed.setIfInBounds j true) && Nat.beq (r.length + s1.length) (t.length + s2.length)
  | k :: s, u1, u2, listed => decide (k < ops.length) && rdB ts (nth ops k) && (Region.ready .any ops.toArray listed).contains k && Region.free .any ops.toArray listed k && forkB ts ops s1 s2 s u1 u2 (listed.setIfInBounds k true)
  | _, _, _, _ => false

section held
variable {P : Program} {Q : Exit → Act → World → Prop} {T : World → Prop}
theorem wp_exits {o : Oper} {a : Act} {w : World} {K K' : Act → World → Prop} {Q1 Q2 : Exit → Act → World → Prop} (h : ∀ a w, K a w → K' a w) (hq : ∀ e a w, Q1 e a w → e ≠ .normal → Q2 e a w) (hh : o.wp P a w K Q1) : o.wp P a w K' Q2 := by
  have hp : ∀ c a w, Q1 (.panic c) a w → Q2 (.panic c) a w := fun c a w k => hq _ a w k (by simp)
  have hl : LetsOut Q1 → LetsOut Q2 := fun ⟨a, w, k⟩ => ⟨a, w, hq _ a w k (by simp)⟩
  unfold Oper.wp at *
  generalize (execOp a.eval o).run P w = r at *
  cases r with
  | ok n w' =>
    cases n <;> simp only [Oper.upon] at hh ⊢ <;>
      first
        | exact h _ _ hh
        | exact Calls.mono hh (fun e w'' he => by cases e <;> first | exact h _ _ he | exact hp _ _ _ he | exact hl he | exact he)
        | exact Rows.mono hh (fun _ _ he => h _ _ he)
  | halt x w' => cases x <;> simp only [Oper.upon] at hh ⊢ <;> first | exact hp _ _ _ hh | exact hh
theorem nextQ_panic {ts : List Nat} {ops : Array Oper} {l : List Oper} : ∀ e a w, noPanic (nextQ ts T P ops Q l) e a w → e ≠ .normal → noPanic Q e a w := by
  intro e a w h hn
  cases e <;> first | exact h | exact absurd rfl hn
theorem G_one {K : Exit → Act → World → Prop} {ts : List Nat} {ops : List Oper} {i : Nat} {l : List Oper} {fuel : Nat} {listed : Array Bool} {a : Act} {w : World} (hil : i < ops.length) (hrd : rdB ts (nth ops i) = false)
    (hK : ∀ e a w, noPanic K e a w → e ≠ .normal → noPanic Q e a w)
    (hG : ∀ a' w', wpHeld ts false T P ops.toArray K l a' w' → wpAnyG false P ops.toArray (noPanic Q) T fuel (listed.setIfInBounds i true) a' w') (h : wpHeld ts false T P ops.toArray K (nth ops i :: l) a w) :
    wpOp P ops.toArray (noPanic Q) i (fun a' w' => (T w' ∨ (false = true ∧ i + 1 = ops.toArray.size)) ∧ wpAnyG false P ops.toArray (noPanic Q) T fuel (listed.setIfInBounds i true) a' w') a w := by
  have h0 : ops.toArray[i]? = some (nth ops i) := by simpa using nth_get hil
  simp only [wpHeld] at h
  rcases h with ⟨hr2, -⟩ | ⟨-, h⟩
  · rw [hrd] at hr2; cases hr2
  unfold wpOp
  simp only [h0]
  have hc : ∀ w', (T w' ∨ (false = true ∧ l = [])) → (T w' ∨ (false = true ∧ i + 1 = ops.toArray.size)) := fun w' k => k.elim (fun k => .inl k) fun k => absurd k.1 (by decide)
  by_cases hw : Region.wanted (nth ops i) (yielded ops.toArray a.tmps) = true
  · rw [if_pos hw] at h ⊢
    exact .inl (wp_exits (fun a' w' h' => ⟨hc _ h'.1, hG a' w' h'.2⟩) hK h)
  · rw [if_neg hw] at h ⊢
    exact ⟨hc _ h.1, hG _ _ h.2⟩

theorem G_cont {ts : List Nat} {ops : List Oper} {s : List Nat} (hsel : Region.noSelect ops.toArray = true) : ∀ (u : List Nat) (listed : Array Bool) (a : Act) (w : World), Lasts false ops.toArray listed → contB ts ops s u listed = true →
    wpHeld ts false T P ops.toArray (nextQ ts T P ops.toArray Q (pickL s ops)) (pickL u ops) a w → wpAnyG false P ops.toArray (noPanic Q) T (u.length + s.length) listed a w
  | [], listed, a, w, inv, hB, h => by
    obtain ⟨S, h1, h2, h3⟩ : ∃ S : World → Prop, (∀ w, S w → T w) ∧ S w ∧ wpHeld ts false S P ops.toArray Q (pickL s ops) a w := h
    rw [show ([] : List Nat).length + s.length = s.length by simp]
    exact wpAnyG_mono h1 _ _ _ _ (G_of_held hsel s listed a w inv hB h3)
  | i :: r, listed, a, w, inv, hB, h => by
    simp only [contB, Bool.and_eq_true, decide_eq_true_eq, Bool.not_eq_true'] at hB
    obtain ⟨⟨⟨hi, hri⟩, hready⟩, hB⟩ := hB
    have hi' : i ∈ Region.ready .any ops.toArray listed := by rw [hready]; simp
    rw [show (i :: r).length + s.length = r.length + s.length + 1 by simp; omega]
    refine ⟨fun k => (by rw [hready] at k; cases k), fun k hk => ?_⟩
    rw [hready] at hk
    simp only [List.mem_cons, List.not_mem_nil, or_false] at hk
    subst hk
    exact G_one hi hri nextQ_panic (fun a' w' k => G_cont hsel r _ a' w' (inv.set hi') hB k) h

theorem G_of_fork {ts : List Nat} {ops : List Oper} {s1 s2 u1 u2 : List Nat} (hsel : Region.noSelect ops.toArray = true) : ∀ (s : List Nat) (listed : Array Bool) (a : Act) (w : World), Lasts false ops.toArray listed → forkB ts ops s1 s2 s u1 u2 listed = true →
    wpHeld ts false T P ops.toArray (forkQ ts T P ops.toArray Q (pickL u1 ops) (pickL s1 ops) (pickL u2 ops) (pickL s2 ops)) (pickL s ops) a w → wpAnyG false P ops.toArray (noPanic Q) T (s.length + (u1.length + s1.length)) listed a w
  | [], listed, a, w, inv, hB, h => by
    match u1, u2, hB with
    | i :: r, j :: t, hB =>
      simp only [forkB, Bool.and_eq_true, decide_eq_true_eq, Bool.not_eq_true'] at hB
      obtain ⟨⟨⟨⟨⟨⟨⟨hi, hj⟩, hri⟩, hrj⟩, hready⟩, hBi⟩, hBj⟩, hl⟩ := hB
      have hl := Nat.eq_of_beq_eq_true hl
      obtain ⟨k1, k2⟩ : wpHeld ts false T P ops.toArray (nextQ ts T P ops.toArray Q (pickL s1 ops)) (pickL (i :: r) ops) a w ∧ wpHeld ts false T P ops.toArray (nextQ ts T P ops.toArray Q (pickL s2 ops)) (pickL (j :: t) ops) a w := h
      have hi' : i ∈ Region.ready .any ops.toArray listed := by rw [hready]; simp
      have hj' : j ∈ Region.ready .any ops.toArray listed := by rw [hready]; simp
      rw [show ([] : List Nat).length + ((i :: r).length + s1.length) = r.length + s1.length + 1 by simp; omega]
      refine ⟨fun k => (by rw [hready] at k; cases k), fun k hk => ?_⟩
      rw [hready] at hk
      simp only [List.mem_cons, List.not_mem_nil, or_false] at hk
      rcases hk with rfl | rfl
      · exact G_one hi hri nextQ_panic (fun a' w' q => G_cont hsel r _ a' w' (inv.set hi') hBi q) k1
      · rw [hl]
        exact G_one hj hrj nextQ_panic (fun a' w' q => G_cont hsel t _ a' w' (inv.set hj') hBj q) k2
  | k :: s, listed, a, w, inv, hB, h => by
    have hB' : (decide (k < ops.length) && rdB ts (nth ops k) && (Region.ready .any ops.toArray listed).contains k && Region.free .any ops.toArray listed k && forkB ts ops s1 s2 s u1 u2 (listed.setIfInBounds k true)) = true := by
      rcases u1 with _ | ⟨i, r⟩ <;> rcases u2 with _ | ⟨j, t⟩ <;> exact hB
    simp only [Bool.and_eq_true, decide_eq_true_eq] at hB'
    obtain ⟨⟨⟨⟨hil, hrd⟩, hr⟩, hf⟩, hB2⟩ := hB'
    have h0 : ops.toArray[k]? = some (nth ops k) := by simpa using nth_get hil
    simp only [pickL, wpHeld] at h
    rcases h with ⟨-, hS, v, hy, h⟩ | ⟨hrd', -⟩
    · have hr' : k ∈ Region.ready .any ops.toArray listed := by simpa using hr
      have := G_first (Q := noPanic Q) (x := false) h0 (Region.noSelect_spec hsel) (fun _ _ _ h => h) (fun h => by cases h) (s.length + (u1.length + s1.length)) listed a w inv (Region.free_spec h0 hf) hr' hy hS
        (G_of_fork hsel s _ _ _ (inv.set hr') hB2 h)
      rw [show (k :: s).length + (u1.length + s1.length) = s.length + (u1.length + s1.length) + 1 by simp; omega]
      exact this
    · rw [hrd] at hrd'; cases hrd'

/-- A region whose order is open, with two that write: readers, then u1 and s1, or u2 and s2. -/
theorem W.draw2 {ds : List Deferred} {n mm id : Nat} {l : List Oper} {E : Env} {w : World} (ts : List Nat) (T : World → Prop) (s u1 s1 u2 s2 : List Nat) (hm : P.follows .mixedOrders = true) (hs : Nat.beq (s.length + (u1.length + s1.length)) l.length = true) (hsel : Region.noSelect l.toArray = true) (hB : forkB ts l s1 s2 s u1 u2 (Array.replicate l.length false) = true) (hS : T w.drew)
    (h : LY (.held ts false T) P ds n l.toArray (pickL s l) (forkQ ts T P l.toArray Q (pickL u1 l) (pickL s1 l) (pickL u2 l) (pickL s2 l)) E w.drew) : W Fence.wide mm P ds n (.region id l.toArray true) Q E w := fun a ha => by
  have hlen := Nat.eq_of_beq_eq_true hs
  refine wpIn_wide.2 (wp_mono (Q := noPanic Q) (wp_region_any hm ?_) fun e a w q => by cases e <;> first | exact q | exact q.elim)
  have inv : Lasts false l.toArray (Array.replicate l.length false) := ⟨fun hx => (by cases hx), by simp, fun j oj _ hl => by rw [getD_replicate_false] at hl; cases hl⟩
  have H := G_of_fork hsel s _ a w.drew inv hB (h a ha (.inl hS))
  have := wpAny_of_G _ _ _ _ H
  rw [hlen] at this
  simpa using this
theorem L.forkH {ds : List Deferred} {n : Nat} {E : Env} {w : World} {ts : List Nat} {ops : Array Oper} {u1 u2 l1 l2 : List Oper} (k1 : LY (.held ts false T) P ds n ops u1 (nextQ ts T P ops Q l1) E w) (k2 : LY (.held ts false T) P ds n ops u2 (nextQ ts T P ops Q l2) E w) : LY (.held ts false T) P ds n ops [] (forkQ ts T P ops Q u1 l1 u2 l2) E w :=
  fun a ha hS => ⟨k1 a ha (.inl (hS.elim id fun k => absurd k.1 (by decide))), k2 a ha (.inl (hS.elim id fun k => absurd k.1 (by decide)))⟩
theorem L.nextH {ds : List Deferred} {n : Nat} {E : Env} {w : World} {ts : List Nat} {ops : Array Oper} {l : List Oper} (S : World → Prop) (hST : ∀ w, S w → T w) (hS : S w) (k : LY (.held ts false S) P ds n ops l Q E w) : LY (.held ts false T) P ds n ops [] (nextQ ts T P ops Q l) E w :=
  fun a ha _ => ⟨S, hST, hS, k a ha (.inl hS)⟩
end held

section ops
variable {st : Sty} [Wy st] {P : Program} {ds : List Deferred} {n : Nat} {Q : Exit → Act → World → Prop} {E : Env} {w : World} {ops : Array Oper} {l : List Oper}
variable {d : Nat} {ty : TypeId} {pos : String} {af : Array Edge}
/-- Zeros. -/
theorem mks {t e : TypeId} {x y : Operand} {κ κ' : IntKind} {k : Nat} (hx : opd E x = some (.int κ k)) (hy : opd E y = some (.int κ' k)) (ht : ElT P t e (.int .u8 0) 1 1) (hd : Nat.blt d n = true) (hk : k ≤ 16777216)
    (kk : ∀ w', w'.ownsRow w.heap.size e 1 (.slice (some ⟨w.heap.size, 0, none⟩) k k) k (encB (List.replicate k 0)) → Ext none_ w w' → w'.heap.size = w.heap.size + 1 → st.keeps l w w' ∧ LY st P ds n ops l Q ((d, .slice (some ⟨w.heap.size, 0, none⟩) k k) :: E) w') : LY st P ds n ops (⟨some d, .makeSlice t x y, ty, pos, af, none⟩ :: l) Q E w := by
  obtain ⟨i, hi, hz, hsz, hby⟩ := ht.info
  obtain ⟨w', hr, ho, hg⟩ := run_makeSlice_full (P := P) (w := w) w.heap.size t e i (.int .u8 0) 1 ht.u hi hz hsz κ κ' k (by omega) (by rw [hby]; omega) (by simp [maxLen]; omega) (Nat.le_refl _)
  have hm : (madeCells (Value.int .u8 0).cells (k * 1)).toList = encB (List.replicate k 0) := by
    rw [encB, List.map_replicate]
    refine List.eq_replicate_iff.2 ⟨by simp [size_madeCells], fun u hu => ?_⟩
    simp only [madeCells, Array.toList_map, List.mem_map] at hu
    obtain ⟨i, -, rfl⟩ := hu
    simp [Value.cells, Nat.mod_one]
  rw [hm] at ho
  have hr2 := run_makeSlice (P := P) (w := w) t e i (.int .u8 0) ht.u hi hz κ κ' k k (by omega) (by omega) (by rw [hsz]; omega) (by rw [hby]; omega) (by omega)
  rw [hr] at hr2
  have hw' : w'.heap.size = w.heap.size + 1 := by
    injection hr2 with _ h2
    rw [h2]; simp
  obtain ⟨hs, kk⟩ := kk w' ho ((Ext.grown hg).mono fun _ _ h => by cases h) hw'
  exact LY.val _ w' hd (fun ac ha => by simp [execOp, opd_eval ha hx, opd_eval ha hy, hr]) kk (fun _ _ _ _ => rfl) hs
end ops
end Go.Proofs.YtmdpmpdlkaogdaaDoor.Vc

namespace Go.Proofs.YtmdpmpdlkaogdaaDoor.Vc
open Go Go.RowKit
section held
variable {P : Program} {Q : Exit → Act → World → Prop} {S T : World → Prop}
/-- Readers and some that come alone, then what is to come. -/
def prefB (ts : List Nat) (ops : List Oper) (kB : Array Bool → Bool) : List Nat → Array Bool → Bool
  | [], listed => kB listed
  | i :: r, listed => decide (i < ops.length) && (if rdB ts (nth ops i) then (Region.ready .any ops.toArray listed).contains i && Region.free .any ops.toArray listed i else decide (Region.ready .any ops.toArray listed = [i])) && prefB ts ops kB r (listed.setIfInBounds i true)
theorem G_pref {K : Exit → Act → World → Prop} {ts : List Nat} {ops : List Oper} {kB : Array Bool → Bool} {fuel : Nat} (hsel : Region.noSelect ops.toArray = true) (hK : ∀ e a w, noPanic K e a w → e ≠ .normal → noPanic Q e a w)
    (hend : ∀ listed a w, Lasts false ops.toArray listed → kB listed = true → K .normal a w → wpAnyG false P ops.toArray (noPanic Q) S fuel listed a w) :
    ∀ (s : List Nat) (listed : Array Bool) (a : Act) (w : World), Lasts false ops.toArray listed → prefB ts ops kB s listed = true → wpHeld ts false S P ops.toArray K (pickL s ops) a w → wpAnyG false P ops.toArray (noPanic Q) S (s.length + fuel) listed a w
  | [], listed, a, w, inv, hB, h => by
    rw [show ([] : List Nat).length + fuel = fuel by simp]
    exact hend listed a w inv hB h
  | k :: s, listed, a, w, inv, hB, h => by
    simp only [prefB, Bool.and_eq_true, decide_eq_true_eq] at hB
    obtain ⟨⟨hil, hB1⟩, hB2⟩ := hB
    have h0 : ops.toArray[k]? = some (nth ops k) := by simpa using nth_get hil
    rw [show (k :: s).length + fuel = s.length + fuel + 1 by simp; omega]
    cases hrd : rdB ts (nth ops k) with
    | true =>
      rw [if_pos hrd] at hB1
      simp only [Bool.and_eq_true] at hB1
      obtain ⟨hr, hf⟩ := hB1
      simp only [pickL, wpHeld] at h
      rcases h with ⟨-, hS, v, hy, h⟩ | ⟨hrd', -⟩
      · have hr' : k ∈ Region.ready .any ops.toArray listed := by simpa using hr
        exact G_first (Q := noPanic Q) (x := false) h0 (Region.noSelect_spec hsel) (fun _ _ _ h => h) (fun h => by cases h) (s.length + fuel) listed a w inv (Region.free_spec h0 hf) hr' hy hS
          (G_pref hsel hK hend s _ _ _ (inv.set hr') hB2 h)
      · rw [hrd] at hrd'; cases hrd'
    | false =>
      rw [if_neg (by rw [hrd]; decide)] at hB1
      simp only [decide_eq_true_eq] at hB1
      have hk' : k ∈ Region.ready .any ops.toArray listed := by rw [hB1]; simp
      refine ⟨fun q => (by rw [hB1] at q; cases q), fun q hq => ?_⟩
      rw [hB1] at hq
      simp only [List.mem_cons, List.not_mem_nil, or_false] at hq
      subst hq
      exact G_one hil hrd hK (fun a' w' q' => G_pref hsel hK hend s _ a' w' (inv.set hk') hB2 q') h
/-- From here on more is known of all worlds. -/
def segQ (ts : List Nat) (T : World → Prop) (P : Program) (ops : Array Oper) (Q : Exit → Act → World → Prop) (K : (World → Prop) → Exit → Act → World → Prop) (l : List Oper) : Exit → Act → World → Prop
  | .normal, a, w => ∃ S : World → Prop, (∀ w, S w → T w) ∧ S w ∧ wpHeld ts false S P ops (K S) l a w
  | e, a, w => Q e a w
theorem segQ_panic {ts : List Nat} {ops : Array Oper} {l : List Oper} {K : (World → Prop) → Exit → Act → World → Prop} : ∀ e a w, noPanic (segQ ts T P ops Q K l) e a w → e ≠ .normal → noPanic Q e a w := by
  intro e a w h hn
  cases e <;> first | exact h | exact absurd rfl hn
theorem forkQ_panic {ts : List Nat} {ops : Array Oper} {u1 l1 u2 l2 : List Oper} : ∀ e a w, noPanic (forkQ ts T P ops Q u1 l1 u2 l2) e a w → e ≠ .normal → noPanic Q e a w := by
  intro e a w h hn
  cases e <;> first | exact h | exact absurd rfl hn
/-- Two that part. -/
def partB (ts : List Nat) (ops : List Oper) (u1 s1 u2 s2 : List Nat) (listed : Array Bool) : Bool := forkB ts ops s1 s2 [] u1 u2 listed
/-- Readers and some alone; more is known; readers and some alone; two that part. -/
theorem W.draw3 {ds : List Deferred} {n mm id : Nat} {l : List Oper} {E : Env} {w : World} (ts : List Nat) (T : World → Prop) (s s' u1 s1 u2 s2 : List Nat) (hm : P.follows .mixedOrders = true) (hs : Nat.beq (s.length + (s'.length + (u1.length + s1.length))) l.length = true) (hsel : Region.noSelect l.toArray = true)
    (hB : prefB ts l (prefB ts l (partB ts l u1 s1 u2 s2) s') s (Array.replicate l.length false) = true) (hS : T w.drew)
    (h : LY (.held ts false T) P ds n l.toArray (pickL s l) (segQ ts T P l.toArray Q (fun S => forkQ ts S P l.toArray Q (pickL u1 l) (pickL s1 l) (pickL u2 l) (pickL s2 l)) (pickL s' l)) E w.drew) : W Fence.wide mm P ds n (.region id l.toArray true) Q E w := fun a ha => by
  have hlen := Nat.eq_of_beq_eq_true hs
  refine wpIn_wide.2 (wp_mono (Q := noPanic Q) (wp_region_any hm ?_) fun e a w q => by cases e <;> first | exact q | exact q.elim)
  have inv : Lasts false l.toArray (Array.replicate l.length false) := ⟨fun hx => (by cases hx), by simp, fun j oj _ hl => by rw [getD_replicate_false] at hl; cases hl⟩
  have H := G_pref (Q := Q) (fuel := s'.length + (u1.length + s1.length)) hsel segQ_panic (fun listed a w inv hB h => by
    obtain ⟨S, h1, h2, h3⟩ : ∃ S : World → Prop, (∀ w, S w → T w) ∧ S w ∧ wpHeld ts false S P l.toArray (forkQ ts S P l.toArray Q (pickL u1 l) (pickL s1 l) (pickL u2 l) (pickL s2 l)) (pickL s' l) a w := h
    refine wpAnyG_mono h1 _ _ _ _ ?_
    refine G_pref (Q := Q) (fuel := u1.length + s1.length) hsel forkQ_panic (fun listed a w inv hB h => ?_) s' listed a w inv hB h3
    have := G_of_fork (T := S) hsel [] listed a w inv hB h
    rw [show ([] : List Nat).length + (u1.length + s1.length) = u1.length + s1.length by simp] at this
    exact this) s _ a w.drew inv hB (h a ha (.inl hS))
  have := wpAny_of_G _ _ _ _ H
  rw [hlen] at this
  simpa using this
/-- Readers and some alone; more is known; then all others. -/
theorem W.draw1 {ds : List Deferred} {n mm id : Nat} {l : List Oper} {E : Env} {w : World} (ts : List Nat) (T : World → Prop) (s s' : List Nat) (hm : P.follows .mixedOrders = true) (hs : Nat.beq (s.length + s'.length) l.length = true) (hsel : Region.noSelect l.toArray = true)
    (hB : prefB ts l (schedB ts false l s') s (Array.replicate l.length false) = true) (hS : T w.drew)
    (h : LY (.held ts false T) P ds n l.toArray (pickL s l) (segQ ts T P l.toArray Q (fun _ => Q) (pickL s' l)) E w.drew) : W Fence.wide mm P ds n (.region id l.toArray true) Q E w := fun a ha => by
  have hlen := Nat.eq_of_beq_eq_true hs
  refine wpIn_wide.2 (wp_mono (Q := noPanic Q) (wp_region_any hm ?_) fun e a w q => by cases e <;> first | exact q | exact q.elim)
  have inv : Lasts false l.toArray (Array.replicate l.length false) := ⟨fun hx => (by cases hx), by simp, fun j oj _ hl => by rw [getD_replicate_false] at hl; cases hl⟩
  have H := G_pref (Q := Q) (fuel := s'.length) hsel segQ_panic (fun listed a w inv hB h => by
    obtain ⟨S, h1, h2, h3⟩ : ∃ S : World → Prop, (∀ w, S w → T w) ∧ S w ∧ wpHeld ts false S P l.toArray Q (pickL s' l) a w := h
    exact wpAnyG_mono h1 _ _ _ _ (G_of_held hsel s' listed a w inv hB h3)) s _ a w.drew inv hB (h a ha (.inl hS))
  have := wpAny_of_G _ _ _ _ H
  rw [hlen] at this
  simpa using this
theorem L.segH {ds : List Deferred} {n : Nat} {E : Env} {w : World} {ts : List Nat} {ops : Array Oper} {l : List Oper} {K : (World → Prop) → Exit → Act → World → Prop} (S : World → Prop) (hST : ∀ w, S w → T w) (hS : S w) (k : LY (.held ts false S) P ds n ops l (K S) E w) : LY (.held ts false T) P ds n ops [] (segQ ts T P ops Q K l) E w :=
  fun a ha _ => ⟨S, hST, hS, k a ha (.inl hS)⟩
end held
end Go.Proofs.YtmdpmpdlkaogdaaDoor.Vc

namespace Go.Proofs.YtmdpmpdlkaogdaaDoor
namespace Ar
def opc (r : Option Tr.T × Int) : Int := match r.1 with | none => r.2 | some _ => 0
def opl (r : Option Tr.T × Int) : Tr.T := r.1.getD []
theorem opn_len (b : List UInt8) : (opl (opn b)).length ≤ 500 := by
  by_cases h : b.length ≤ 262144 ∧ sign.isPrefixOf b = true
  · rw [opn_fin h]
    obtain ⟨o, c⟩ := par (b.length + 1) (b.drop 4) []
    cases o with
    | none => simp [fin, opl]
    | some l =>
      unfold fin
      dsimp only
      cases hof : Tr.of l with
      | mk o2 c2 =>
      cases o2 with
      | none => simp [opl]
      | some m =>
        have hok : Tr.Ok m := Tr.ofF_ok l [] [] m Tr.Ok.nil (by have := congrArg Prod.fst hof; exact this)
        have := hok.len
        simp only [opl, Option.getD_some]
        rw [Tr.files_len]; exact this
  · rw [opn_bad h]; simp [opl]
theorem ent_len (x : Tr.Bytes × Tr.Nd) : (ent x).length ≤ 11 + x.1.length + x.2.2.length := by
  unfold ent
  split
  · simp [num_len]; omega
  · simp [num_len]; omega
theorem ents_len (a : Nat) : ∀ (l : Tr.T), (∀ x ∈ l, x.1.length + x.2.2.length ≤ a) → (ents l).length ≤ l.length * (11 + a) := by
  intro l
  induction l with
  | nil => intro _; simp [ents]
  | cons x l ih =>
    intro h
    have h1 := ent_len x
    have h2 := h x (by simp)
    have h3 := ih fun y hy => h y (List.mem_cons_of_mem _ hy)
    have h4 : ents (x :: l) = ent x ++ ents l := by simp [ents]
    rw [h4, List.length_append, List.length_cons, Nat.add_mul]
    omega
theorem pk_len (l : Tr.T) : (pk l).length = (ents l).length + 5 := by simp [pk, sign]
end Ar
open Go Go.RowKit Vc
theorem files_bound {E : List FE} {l : Tr.T} (h : fm E = l) (hl : l.length ≤ 500) : E.length ≤ 500 := by rw [← h] at hl; simpa using hl
/-- What both Opens answer. -/
def BothR (w : World) (b : List UInt8) (e : Ending) (w' : World) : Prop := ∃ v E, e = .returned (.tuple #[v, .int .i64 (Ar.opc (Ar.opn b))]) ∧ FilesAt w' v E ∧ fm E = Ar.opl (Ar.opn b) ∧ E.length ≤ 500 ∧ Ext none_ w w'
theorem FilesAt.nil (w : World) : FilesAt w (.slice none 0 0) [] := ⟨Row.nil w tF 3, by simp⟩
theorem b_AOpen {w : World} {v : Value} {b : List UInt8} (hv : BytA w v b) (hl : b.length ≤ 1000000) : Calls P 5 #[v] w (BothR w b) := by
  have hlen := Ar.opn_len b
  refine (c_AOpen hv hl).mono fun e w' h => ?_
  obtain ⟨hx, h1, h2⟩ := h
  unfold BothR
  generalize Ar.opn b = r at *
  obtain ⟨o, c⟩ := r
  cases o with
  | none => exact ⟨_, [], h1 rfl, FilesAt.nil w', rfl, by simp, hx⟩
  | some l =>
    obtain ⟨v, E, rfl, ho, hb, hE⟩ := h2 l rfl
    exact ⟨v, E, rfl, FilesA.own ho hb, hE, files_bound hE hlen, hx⟩
theorem same_files {b : List UInt8} {E1 E2 : List FE} (h1 : fm E1 = Ar.opl (Ar.opn b)) (h2 : fm E2 = Ar.opl (Ar.opn b)) : decide (E1.map fnd = E2.map fnd) = true := by
  rw [decide_eq_true_eq]; exact h1.trans h2.symm
theorem light_ents {E : List FE} (h : E.length ≤ 20 ∧ ∀ x ∈ E, x.1.length ≤ 300 ∧ x.2.2.2.length ≤ 500) : (Ar.ents (fm E)).length ≤ 20000 := by
  have h1 := Ar.ents_len 800 (fm E) (fun x hx => by
    obtain ⟨y, hy, rfl⟩ := List.mem_map.1 hx
    have := h.2 y hy
    show y.1.length + y.2.2.2.length ≤ 800
    omega)
  rw [fm_len] at h1
  have := h.1
  have h2 : E.length * (11 + 800) ≤ 20 * (11 + 800) := Nat.mul_le_mul_right _ this
  omega

end Go.Proofs.YtmdpmpdlkaogdaaDoor

namespace Go.Proofs.YtmdpmpdlkaogdaaDoor
namespace Ar
theorem num_snoc (n k : Nat) : num n (k + 1) = num (n / 256) k ++ [UInt8.ofNat n] := by
  unfold num
  rw [List.range_succ, List.map_append]
  congr 1
  · refine List.map_congr_left fun i hi => ?_
    have hi : i < k := List.mem_range.1 hi
    have h1 : 2 ^ (8 * (k + 1 - 1 - i)) = 256 * 2 ^ (8 * (k - 1 - i)) := by
      rw [show 8 * (k + 1 - 1 - i) = 8 + 8 * (k - 1 - i) by omega, Nat.pow_add]
    rw [h1, Nat.div_div_eq_div_mul]
  · simp
theorem val_num : ∀ (k n : Nat), n < 256 ^ k → val (num n k) = n := by
  intro k
  induction k with
  | zero => intro n h; have : n = 0 := by simpa using h
            subst this; rfl
  | succ k ih =>
    intro n h
    rw [num_snoc, val_snoc, ih (n / 256) (by rw [Nat.pow_succ] at h; exact Nat.div_lt_of_lt_mul (by omega))]
    simp
    omega
/-- What reading makes of an entry. -/
def nrm (x : Tr.Bytes × Tr.Nd) : Tr.Bytes × Tr.Nd := (x.1.take 65535, x.2.1, if x.2.1 then [] else x.2.2)
/-- The entries, one after another; none: refused. -/
def chk : Tr.T → Tr.T → Option Tr.T × Int
  | [], acc => (some acc, 0)
  | x :: l, acc =>
    if ¬ acc.length < 500 then (none, 64)
    else if (Sp.clean (nrm x).1).2 = 51 then (none, 51)
    else if (Sp.clean (nrm x).1).2 ≠ 0 then (none, 64)
    else chk l (acc ++ [nrm x])
theorem take_app {α : Type} {a b : List α} {n : Nat} (h : a.length = n) : (a ++ b).take n = a := by rw [← h]; simp
theorem drop_app {α : Type} {a b : List α} {n : Nat} (h : a.length = n) : (a ++ b).drop n = b := by rw [← h]; simp
theorem par_ent (f : Nat) (x : Tr.Bytes × Tr.Nd) (rest : List UInt8) (acc : Tr.T) (hx : x.2.2.length ≤ 1000000) : par (f + 1) (ent x ++ rest) acc =
    if ¬ acc.length < 500 then (none, 64)
    else if (Sp.clean (nrm x).1).2 = 51 then (none, 51)
    else if (Sp.clean (nrm x).1).2 ≠ 0 then (none, 64)
    else par f rest (acc ++ [nrm x]) := by
  obtain ⟨p, d, c⟩ := x
  obtain ⟨q, hq⟩ : ∃ q, q = p.take 65535 := ⟨_, rfl⟩
  have hql : q.length < 65536 := by rw [hq, List.length_take]; omega
  have hn : nrm (p, d, c) = (q, d, if d then [] else c) := by rw [hq]; rfl
  rw [hn]
  dsimp only at hx ⊢
  have h2 : (num q.length 2).length = 2 := num_len _ _
  have hv2 : val (num q.length 2) = q.length := val_num 2 _ (by simpa using hql)
  cases d with
  | true =>
    have he : ent (p, true, c) ++ rest = 1 :: (num q.length 2 ++ (q ++ rest)) := by rw [hq]; simp [ent]
    rw [he, par, if_neg (by decide)]
    by_cases h1 : acc.length < 500
    · rw [if_neg (fun h => h ⟨by decide, h1⟩), take_app h2, drop_app h2, hv2, take_app rfl, drop_app rfl]
      have h6 : ¬ 500 ≤ acc.length := by omega
      have h7 : ¬ q.length + rest.length < q.length := by omega
      have h12 : ¬ 2 + (q.length + rest.length) < 2 := by omega
      simp [h2, h6, h7, h12]
    · rw [if_pos (fun h => h1 h.2), if_pos h1]
  | false =>
    have he : ent (p, false, c) ++ rest = 0 :: (num q.length 2 ++ (q ++ (num c.length 8 ++ (c ++ rest)))) := by rw [hq]; simp [ent]
    have h8 : (num c.length 8).length = 8 := num_len _ _
    have hv8 : val (num c.length 8) = c.length := val_num 8 _ (by
      have : (256 : Nat) ^ 8 = 18446744073709551616 := by decide
      omega)
    rw [he, par, if_neg (by decide)]
    by_cases h1 : acc.length < 500
    · rw [if_neg (fun h => h ⟨by decide, h1⟩), take_app h2, drop_app h2, hv2, take_app rfl, drop_app rfl, take_app h8, drop_app h8, hv8, take_app rfl, drop_app rfl]
      have h6 : ¬ 500 ≤ acc.length := by omega
      have h7 : ¬ c.length + rest.length < c.length := by omega
      have h9 : ¬ 8 + (c.length + rest.length) < 8 := by omega
      have h10 : ¬ q.length + (8 + (c.length + rest.length)) < q.length := by omega
      have h11 : ¬ 2 + (q.length + (8 + (c.length + rest.length))) < 2 := by omega
      simp [h2, h8, h6, h7, h9, h10, h11]
    · rw [if_pos (fun h => h1 h.2), if_pos h1]
theorem ent_pos (x : Tr.Bytes × Tr.Nd) : 0 < (ent x).length := by simp [ent]
theorem par_ents : ∀ (l : Tr.T) (f : Nat) (acc : Tr.T), (∀ x ∈ l, x.2.2.length ≤ 1000000) → (ents l ++ [255]).length < f → par f (ents l ++ [255]) acc = chk l acc := by
  intro l
  induction l with
  | nil =>
    intro f acc _ hf
    obtain ⟨f, rfl⟩ : ∃ g, f = g + 1 := ⟨f - 1, by omega⟩
    simp [ents, par, chk]
  | cons x l ih =>
    intro f acc hl hf
    obtain ⟨f, rfl⟩ : ∃ g, f = g + 1 := ⟨f - 1, by omega⟩
    have h4 : ents (x :: l) ++ [255] = ent x ++ (ents l ++ [255]) := by simp [ents]
    have h5 := ent_pos x
    rw [h4] at hf ⊢
    rw [par_ent f x _ acc (hl x (by simp)), chk]
    rw [ih f _ (fun y hy => hl y (List.mem_cons_of_mem _ hy)) (by rw [List.length_append] at hf; omega)]
theorem opn_pk {l : Tr.T} (hl : ∀ x ∈ l, x.2.2.length ≤ 1000000) : opn (pk l) = if (pk l).length ≤ 262144 then fin (chk l []) else (none, 64) := by
  have hs : sign.isPrefixOf (pk l) = true := by rw [List.isPrefixOf_iff_prefix]; exact ⟨ents l ++ [255], by simp [pk]⟩
  have hd : (pk l).drop 4 = ents l ++ [255] := by rw [pk, List.append_assoc]; exact drop_app rfl
  split
  · rename_i h
    rw [opn_fin ⟨h, hs⟩, hd, par_ents l _ [] hl (by rw [← hd, List.length_drop]; omega)]
  · rename_i h
    exact opn_bad fun h' => h h'.1
theorem fin_none {c : Int} : fin (none, c) = (none, c) := rfl
theorem fin_of {l : Tr.T} {c : Int} (h : (Tr.of l).1 = none) : fin (some l, c) = (none, 64) := by
  unfold fin
  dsimp only
  generalize Tr.of l = r at h ⊢
  obtain ⟨o, d⟩ := r
  cases h
  rfl
/-- Paths that are one are no archive. -/
theorem twice {a b : Tr.Bytes} (dir other : Bool) (c : Tr.Bytes) (hc : c.length ≤ 10) (ha : a.length ≤ 200) (hb : b.length ≤ 200) (h1 : (Sp.clean a).2 = 0) (h2 : (Sp.clean b).2 = 0) (h : (Sp.clean a).1 = (Sp.clean b).1) : opn (pk [(a, (dir, c)), (b, (other, []))]) = (none, 64) := by
  have hl : ∀ x ∈ [(a, (dir, c)), (b, (other, ([] : Tr.Bytes)))], x.2.2.length ≤ 1000000 := by
    intro x hx
    simp only [List.mem_cons, List.not_mem_nil, or_false] at hx
    rcases hx with rfl | rfl
    · dsimp only; omega
    · simp
  have hlen := ents_len 300 [(a, (dir, c)), (b, (other, ([] : Tr.Bytes)))] (by
    intro x hx
    simp only [List.mem_cons, List.not_mem_nil, or_false] at hx
    rcases hx with rfl | rfl
    · dsimp only; omega
    · simp; omega)
  have hpl := pk_len [(a, (dir, c)), (b, (other, ([] : Tr.Bytes)))]
  simp only [List.length_cons, List.length_nil] at hlen
  rw [opn_pk hl, if_pos (by omega)]
  have ta : a.take 65535 = a := List.take_of_length_le (by omega)
  have tb : b.take 65535 = b := List.take_of_length_le (by omega)
  have n1 : nrm (a, (dir, c)) = (a, dir, if dir then [] else c) := by simp only [nrm, ta]
  have n2 : nrm (b, (other, [])) = (b, other, []) := by simp [nrm, tb]
  have hchk : chk [(a, (dir, c)), (b, (other, []))] [] = (some [(a, dir, if dir then [] else c), (b, other, [])], 0) := by
    simp [chk, n1, n2, h1, h2]
  rw [hchk]
  refine fin_of ?_
  generalize (if dir then [] else c : Tr.Bytes) = c'
  show (Tr.ofF [] [] [(a, dir, c'), (b, other, [])]).1 = none
  have e2 : ∀ m : Tr.T, (Tr.ofF m [(Sp.clean a).1] [(b, other, [])]).1 = none := by
    intro m
    unfold Tr.ofF
    rw [if_neg (by rw [h2]; simp), if_pos (by simp [h])]
  unfold Tr.ofF
  rw [if_neg (by rw [h1]; simp)]
  split
  · rfl
  · split
    · rfl
    · exact e2 _
end Ar
end Go.Proofs.YtmdpmpdlkaogdaaDoor

namespace Go.Proofs.YtmdpmpdlkaogdaaDoor
namespace Tr
/-- A name that stands at the root. -/
def Root (p : Bytes) : Prop := p ≠ [] ∧ Sp.clean p = (p, 0) ∧ Sp.parent p = []
theorem ahead_root (m : T) {p : Bytes} (h : Root p) : ahead m p = some [] := by
  obtain ⟨h0, -, h2⟩ := h
  unfold ahead
  rw [h2]
  cases hl : p.length with
  | zero => exact absurd (List.eq_nil_of_length_eq_zero hl) h0
  | succ n => simp [aheadF]
/-- Files at the root, all of other names, are a tree as they are. -/
theorem of_root (L : T) (hn : (L.map (·.1)).Nodup) (hr : ∀ x ∈ L, Root x.1 ∧ x.2.2.length ≤ 65536 ∧ (x.2.1 = true → x.2.2 = [])) (hl : L.length ≤ 500) (hs : size L ≤ 1048576) : ∀ (rest pre : T), L = pre ++ rest → ofF pre (pre.map (·.1)) rest = (some L, 0) := by
  intro rest
  induction rest with
  | nil => intro pre h; rw [List.append_nil] at h; rw [h]; rfl
  | cons x rest ih =>
    intro pre h
    obtain ⟨k, d, b⟩ := x
    obtain ⟨hroot, hmax, hdir⟩ := hr (k, d, b) (by rw [h]; simp)
    dsimp only at hroot hmax hdir
    obtain ⟨hk0, hcl, -⟩ := id hroot
    rw [h, List.map_append, List.nodup_append] at hn
    have hkpre : k ∉ pre.map (·.1) := fun hm => hn.2.2 k hm k (by simp) rfl
    have hgp : get pre k = none := get_none.2 hkpre
    have hah := ahead_root pre hroot
    have hat : at_ pre k = none := by unfold at_; rw [if_neg hk0, hgp]
    have hsz : size L = size pre + (b.length + size rest) := by rw [h, size_append, size_cons]
    have hln : L.length = pre.length + (rest.length + 1) := by rw [h]; simp
    have hcon : ((pre.map (·.1)).contains k || (d && isDir (at_ pre k))) = false := by
      rw [hat]
      simp only [isDir, Bool.and_false, Bool.or_false]
      rw [← Bool.not_eq_true]
      simpa using hkpre
    unfold ofF
    rw [hcl]
    simp only [ne_eq, not_true_eq_false, if_false]
    rw [if_neg (by rw [hcon]; simp)]
    have hnext : ∀ m', m' = pre ++ [(k, (d, b))] → ofF m' (pre.map (·.1) ++ [k]) rest = (some L, 0) := fun m' e => by
      rw [e]
      have := ih (pre ++ [(k, (d, b))]) (by rw [h]; simp)
      simpa using this
    have hst : step pre k (d, b) = (pre ++ [(k, (d, b))], 0) := by
      cases d with
      | true =>
        have hb : b = [] := hdir rfl
        subst hb
        show mkdir pre k = _
        unfold mkdir
        rw [hcl]
        simp only [ne_eq, not_true_eq_false, if_false]
        rw [hat, hah]
        have hroom : room pre (([] : List Bytes).length + 1) 0 = true := by
          unfold room
          simp only [List.length_nil, Bool.and_eq_true, decide_eq_true_eq]
          omega
        simp only [hroom, Bool.true_eq_false, if_false, List.nil_append]
        rw [show make pre [k] = set pre k (true, []) from rfl, set_new _ hgp]
      | false =>
        show write pre k b = _
        unfold write put
        rw [hcl]
        simp only [ne_eq, not_true_eq_false, if_false]
        rw [hat, hah]
        have hroom : room pre (([] : List Bytes).length + 1) b.length = true := by
          unfold room
          simp only [List.length_nil, Bool.and_eq_true, decide_eq_true_eq]
          omega
        simp only [hroom, Bool.true_eq_false, or_false]
        rw [if_neg (by omega), show make pre [] = pre from rfl, set_new _ hgp]
    rw [hst, if_neg (by simp)]
    exact hnext _ rfl
theorem size_bare : ∀ (l : T), (∀ x ∈ l, x.2.2 = []) → size l = 0 := by
  intro l
  induction l with
  | nil => intro _; rfl
  | cons x l ih =>
    intro h
    rw [size_cons, h x (by simp), ih fun y hy => h y (List.mem_cons_of_mem _ hy)]
    rfl
end Tr
namespace Ar
theorem chk_ok : ∀ (l acc : Tr.T), (∀ x ∈ l, Sp.clean x.1 = (x.1, 0) ∧ nrm x = x) → acc.length + l.length ≤ 500 → chk l acc = (some (acc ++ l), 0) := by
  intro l
  induction l with
  | nil => intro acc _ _; simp [chk]
  | cons x l ih =>
    intro acc h hl
    obtain ⟨h1, h2⟩ := h x (by simp)
    simp only [List.length_cons] at hl
    unfold chk
    rw [if_neg (fun h => h (by omega)), h2, h1, if_neg (by simp), if_neg (by simp), ih _ (fun y hy => h y (List.mem_cons_of_mem _ hy)) (by simp; omega)]
    simp
theorem chk_many : ∀ (l acc : Tr.T), (∀ x ∈ l, Sp.clean x.1 = (x.1, 0) ∧ nrm x = x) → 500 < acc.length + l.length → chk l acc = (none, 64) ∨ 500 < acc.length := by
  intro l
  induction l with
  | nil => intro acc _ h; right; simpa using h
  | cons x l ih =>
    intro acc h hl
    obtain ⟨h1, h2⟩ := h x (by simp)
    simp only [List.length_cons] at hl
    unfold chk
    by_cases hacc : acc.length < 500
    · rw [if_neg (fun h => h hacc), h2, h1, if_neg (by simp), if_neg (by simp)]
      rcases ih (acc ++ [x]) (fun y hy => h y (List.mem_cons_of_mem _ hy)) (by simp; omega) with h3 | h3
      · exact .inl h3
      · simp at h3; omega
    · exact .inl (by rw [if_pos hacc])
/-- Files at the root, packed and opened. -/
theorem opn_root (L : Tr.T) (hn : (L.map (·.1)).Nodup) (hr : ∀ x ∈ L, Tr.Root x.1 ∧ x.2.2.length ≤ 65536 ∧ (x.2.1 = true → x.2.2 = []) ∧ x.1.length ≤ 100) (hs : Tr.size L ≤ 1048576) :
    opc (opn (pk L)) = (if L.length ≤ 500 ∧ (pk L).length ≤ 262144 then 0 else 64) ∧ (L.length ≤ 500 ∧ (pk L).length ≤ 262144 → (opl (opn (pk L))).length = L.length) := by
  have hnrm : ∀ x ∈ L, Sp.clean x.1 = (x.1, 0) ∧ nrm x = x := by
    intro x hx
    obtain ⟨h1, h2, h3, h4⟩ := hr x hx
    refine ⟨h1.2.1, ?_⟩
    obtain ⟨p, d, b⟩ := x
    dsimp only at h3 h4
    unfold nrm
    dsimp only
    rw [List.take_of_length_le (by omega)]
    cases d with
    | true => rw [h3 rfl]; rfl
    | false => rfl
  rw [opn_pk (fun x hx => by have := (hr x hx).2.1; omega)]
  by_cases hp : (pk L).length ≤ 262144
  · rw [if_pos hp]
    by_cases hl : L.length ≤ 500
    · have hof : Tr.of L = (some L, 0) := Tr.of_root L hn (fun x hx => ⟨(hr x hx).1, (hr x hx).2.1, (hr x hx).2.2.1⟩) hl hs L [] rfl
      have hfin : fin (chk L []) = (some (Tr.files L), 0) := by
        rw [chk_ok L [] hnrm (by simpa using hl), List.nil_append]
        unfold fin
        dsimp only
        rw [hof]
      rw [hfin, if_pos ⟨hl, hp⟩]
      exact ⟨rfl, fun _ => by show (Tr.files L).length = _; rw [Tr.files_len]⟩
    · have hch : chk L [] = (none, 64) := (chk_many L [] hnrm (by simp; omega)).resolve_right (by simp)
      rw [hch, if_neg (fun h => hl h.1)]
      exact ⟨rfl, fun h => absurd h.1 hl⟩
  · rw [if_neg hp, if_neg (fun h => hp h.2)]
    exact ⟨rfl, fun h => absurd h.2 hp⟩
def dirF (i : Nat) : Tr.Bytes × Tr.Nd := ([UInt8.ofNat (97 + i % 26), UInt8.ofNat (97 + i / 26)], (true, []))
def rootB (p : Tr.Bytes) : Bool := (p != []) && (Sp.clean p == (p, 0)) && (Sp.parent p == [])
theorem root_of {p : Tr.Bytes} (h : rootB p = true) : Tr.Root p := by
  simp only [rootB, Bool.and_eq_true, bne_iff_ne, beq_iff_eq] at h
  exact ⟨h.1.1, h.1.2, h.2⟩
theorem dirs_ok : (List.range 502).all (fun i => rootB (dirF i).1) = true := by kernel_rfl
theorem dir_root {i : Nat} (h : i < 502) : Tr.Root (dirF i).1 := root_of (List.all_eq_true.1 dirs_ok i (List.mem_range.2 h))
theorem dir_inj {i j : Nat} (hi : i < 502) (hj : j < 502) (h : (dirF i).1 = (dirF j).1) : i = j := by
  simp only [dirF, List.cons.injEq, and_true] at h
  obtain ⟨h1, h2⟩ := h
  have h1 := congrArg UInt8.toNat h1
  have h2 := congrArg UInt8.toNat h2
  simp at h1 h2
  omega
def dirsF (k : Nat) : Tr.T := (List.range k).map dirF
theorem dirs_opn {k : Nat} (hk : k ≤ 502) : opc (opn (pk (dirsF k))) = (if k ≤ 500 then 0 else 64) ∧ (k ≤ 500 → (opl (opn (pk (dirsF k)))).length = k) := by
  have hlen : (dirsF k).length = k := by simp [dirsF]
  have hnd : ((dirsF k).map (·.1)).Nodup := by
    rw [dirsF, List.map_map, List.Nodup, List.pairwise_map]
    refine List.Pairwise.imp_of_mem (R := fun a b => a ≠ b) (fun {i j} hi hj hne h => ?_) List.nodup_range
    have hi := List.mem_range.1 hi
    have hj := List.mem_range.1 hj
    exact hne (dir_inj (by omega) (by omega) h)
  have hsz : Tr.size (dirsF k) = 0 := by
    refine Tr.size_bare _ fun x hx => ?_
    obtain ⟨i, -, rfl⟩ := List.mem_map.1 hx
    rfl
  have hr : ∀ x ∈ dirsF k, Tr.Root x.1 ∧ x.2.2.length ≤ 65536 ∧ (x.2.1 = true → x.2.2 = []) ∧ x.1.length ≤ 100 := by
    intro x hx
    obtain ⟨i, hi, rfl⟩ := List.mem_map.1 hx
    have hi := List.mem_range.1 hi
    exact ⟨dir_root (by omega), by simp [dirF], fun _ => rfl, by simp [dirF]⟩
  have hp := pk_len (dirsF k)
  have he := ents_len 2 (dirsF k) (by
    intro x hx
    obtain ⟨i, hi, rfl⟩ := List.mem_map.1 hx
    simp [dirF])
  rw [hlen] at he
  have hpl : (pk (dirsF k)).length ≤ 262144 := by omega
  have h := opn_root (dirsF k) hnd hr (by omega)
  rw [hlen] at h
  refine ⟨?_, fun hk5 => h.2 ⟨hk5, hpl⟩⟩
  rw [h.1]
  by_cases hk5 : k ≤ 500
  · rw [if_pos ⟨hk5, hpl⟩, if_pos hk5]
  · rw [if_neg (fun h => hk5 h.1), if_neg hk5]
def zero (n : Nat) : Tr.Bytes := List.replicate n 0
def bigF (t : Nat) : Tr.T := [([98, 97], (false, zero 65524)), ([98, 98], (false, zero 65524)), ([98, 99], (false, zero 65524)), ([98, 100], (false, zero (65512 + t)))]
theorem ent_file (p c : Tr.Bytes) (hp : p.length = 2) : (ent (p, (false, c))).length = 13 + c.length := by
  have : p.take 65535 = p := List.take_of_length_le (by omega)
  simp [ent, num_len, this, hp]
  omega
theorem big_len (t : Nat) : (pk (bigF t)).length = 262141 + t := by
  rw [pk_len]
  simp only [ents, bigF, List.map_cons, List.map_nil, List.flatten_cons, List.flatten_nil, List.length_append, List.length_nil]
  rw [ent_file _ _ rfl, ent_file _ _ rfl, ent_file _ _ rfl, ent_file _ _ rfl]
  simp only [zero, List.length_replicate]
  omega
theorem big_opn {t : Nat} (ht : t < 8) : opc (opn (pk (bigF t))) = if 262141 + t ≤ 262144 then 0 else 64 := by
  have hr : ∀ x ∈ bigF t, Tr.Root x.1 ∧ x.2.2.length ≤ 65536 ∧ (x.2.1 = true → x.2.2 = []) ∧ x.1.length ≤ 100 := by
    intro x hx
    simp only [bigF, List.mem_cons, List.not_mem_nil, or_false] at hx
    rcases hx with rfl | rfl | rfl | rfl
    all_goals exact ⟨root_of (by kernel_rfl), by simp only [zero, List.length_replicate]; omega, (fun h => by cases h), by simp⟩
  have hsz : Tr.size (bigF t) ≤ 1048576 := by
    simp only [Tr.size, bigF, List.map_cons, List.map_nil, List.sum_cons, List.sum_nil, zero, List.length_replicate]
    omega
  have h := (opn_root (bigF t) (by simp [bigF]) hr hsz).1
  rw [h, big_len]
  by_cases h4 : 262141 + t ≤ 262144
  · rw [if_pos ⟨by simp [bigF], h4⟩, if_pos h4]
  · rw [if_neg (fun h => h4 h.2), if_neg h4]
end Ar
end Go.Proofs.YtmdpmpdlkaogdaaDoor

namespace Go.Proofs.YtmdpmpdlkaogdaaDoor
open Go Go.RowKit Vc
theorem Buf.arg {B : Nat} {w : World} {v : Value} {xs : List UInt8} (h : Buf B w v xs) (hl : xs.length ≤ 1000) : BytA w v xs := by
  rcases h with h | ⟨g, fz, rfl, -, hc⟩
  · exact (Row.own h).arg
  · exact lit_arg hc hl
section ops
variable {mm : Nat} {P : Program} {ds : List Deferred} {n : Nat} {Q : Exit → Act → World → Prop} {E : Env} {w : World} {ops : Array Oper} {l : List Oper}
variable {d : Nat} {ty : TypeId} {pos : String} {af : Array Edge}
/-- 'append(s, x...)' onto bytes of the call's own, or those of a text. -/
theorem appBuf {t : TypeId} {B : Nat} {s x : Operand} {v bv : Value} {xs b : List UInt8} (hs : opd E s = some v) (hx : opd E x = some bv) (hown : Buf B w v xs) (hb : BytA w bv b) (ht : ElT P t tB (.int .u8 0) 1 1) (hd : Nat.blt d n = true) (hl : xs.length + b.length ≤ 1000000000) (hB : B ≤ w.heap.size)
    (k : ∀ v' w', Buf B w' v' (xs ++ b) → (b ≠ [] → Byts B w' v' (xs ++ b)) → Ext (fun k => v.ownBlock = some k) w w' → L Fence.wide mm P ds n ops l Q ((d, v') :: E) w') : L Fence.wide mm P ds n ops (⟨some d, .call ⟨.builtin .append, #[s, x], #[t, t]⟩, ty, pos, af, none⟩ :: l) Q E w := by
  rcases hown with hown | ⟨g, fz, rfl, hg, hc⟩
  · exact appB hs hx hown hb ht hd hl hB fun v' w' h hx => k v' w' (.inl h) (fun _ => h) hx
  · have hgl := lt_of_obj hc
    rcases hb.form with ⟨rfl, h0⟩ | ⟨ad, c, rfl, h1, h2, hcb⟩
    · obtain rfl : b = [] := List.eq_nil_of_length_eq_zero h0
      exact appN (st := .plain Fence.wide mm) hs hx hd ht (Nat.le_refl _) (k _ _ (.inr ⟨g, fz, by simp, hg, by simpa using hc⟩) (fun h => absurd rfl h) (Ext.refl _ _))
    · by_cases hb0 : b = []
      · subst hb0
        obtain ⟨i, hi, hz, hsz, hby⟩ := ht.info
        have hl0 : (loadCells ad 0).run P w = .ok #[] w := run_loadCells_list (P := P) w ad [] (fun j v hj => by cases hj)
        exact bltin (vs := [.slice (some ⟨g, 0, none⟩) xs.length xs.length, .slice (some ad) 0 c]) (v := .slice (some ⟨g, 0, none⟩) xs.length xs.length) (w' := w) (by simp [hs, hx]) hd (fun _ => by
          simp [builtin, Builtin.append_, run_underlying ht.u, sizeOf, typeInfo, program, Sem.run, hi, Builtin.lenOf, Builtin.firstCells, hl0, storeCells]) (k _ _ (.inr ⟨g, fz, by simp, hg, by simpa using hc⟩) (fun h => absurd rfl h) (Ext.refl _ _))
      · have hbl : 0 < b.length := List.length_pos_iff.2 hb0
        refine appG (st := .plain Fence.wide mm) hs hx hd ht (olds := encB xs) (by simp [encB]) (fun j u hj => by rw [add_at, Nat.zero_add]; exact cell_of hc (by simpa using hj)) (news := encB b) (by simp [encB]) (fun j u hj => (hcb j u hj).2) (by omega) (by simp only [Nat.mul_one]; omega) (by simp only [maxLen]; omega) fun v' w' ho hx2 => ⟨trivial, ?_⟩
        have hB' : Byts B w' v' (xs ++ b) := own_more (by simpa [encB, Byts] using ho) hB
        exact k v' w' (.inl hB') (fun _ => hB') hx2.none
end ops
theorem Byts.buf {B : Nat} {w : World} {v : Value} {xs : List UInt8} (h : Byts B w v xs) : Buf B w v xs := .inl h
theorem ext_buf {S : Nat → Prop} {w w1 w2 : World} {v : Value} {xs : List UInt8} (h : Ext S w w1) (hb : Buf w.heap.size w1 v xs) (hx : Ext (fun k => v.ownBlock = some k) w1 w2) : Ext S w w2 := by
  rcases hb with hb | ⟨g, fz, rfl, hg, -⟩
  · exact h.own hb hx
  · exact h.trans' hx fun i hi e => by
      simp [Value.ownBlock] at e
      omega
end Go.Proofs.YtmdpmpdlkaogdaaDoor

namespace Go.Proofs.YtmdpmpdlkaogdaaDoor
open Go Go.RowKit Vc
theorem flat_set2 (v : Value) (l : List UInt8) : ∀ (K : List FE) (i : Nat) (x : FE), K[i]? = some x → (K.flatMap fcells).set (i * 3 + 2) v = (K.set i (x.1, x.2.1, v, l)).flatMap fcells := by
  intro K
  induction K with
  | nil => intro i x h; cases h
  | cons y K ih =>
    intro i x h
    cases i with
    | zero => cases h; rfl
    | succ i =>
      have := ih i x h
      rw [List.set_cons_succ, List.flatMap_cons, List.flatMap_cons, ← this, Nat.add_mul, Nat.one_mul]
      rfl
theorem own_setF2 {w : World} {B g cap i : Nat} {K : List FE} {x : FE} (h : w.ownsRow B tF 3 (.slice (some ⟨g, 0, none⟩) K.length cap) K.length (K.flatMap fcells)) (hi : K[i]? = some x) (v : Value) (l : List UInt8) :
    (w.setCell ⟨g, i * 3 + 2, none⟩ v).ownsRow B tF 3 (.slice (some ⟨g, 0, none⟩) K.length cap) K.length ((K.set i (x.1, x.2.1, v, l)).flatMap fcells) ∧ ∃ cur, w.heap[g]? = some (.cells cur tF (0, 0)) ∧ cur[i * 3 + 2]? = some x.2.2.1 := by
  have hlt := (List.getElem?_eq_some_iff.1 hi).1
  rcases h.2 with ⟨e, h0⟩ | ⟨g', cap', cur, e, hg, hcur, hn, hcm, hcs, htk⟩
  · cases e
  · cases e
    refine ⟨⟨by rw [← flat_set2 v l K i x hi, List.length_set]; exact h.1, .inr ⟨g, cap, cur.setIfInBounds (i * 3 + 2) v, rfl, hg, setCell_heap hcur _, hn, hcm, by simpa using hcs, ?_⟩⟩, cur, hcur, ?_⟩
    · rw [Array.toList_setIfInBounds, List.take_set, htk, flat_set2 v l K i x hi]
    · have h1 : (cur.toList.take (K.length * 3))[i * 3 + 2]? = (K.flatMap fcells)[i * 3 + 2]? := by rw [htk]
      rw [List.getElem?_take, if_pos (by omega), Array.getElem?_toList] at h1
      rw [h1, flat_get fcells 3 fcells_len (by decide), show (i * 3 + 2) / 3 = i by omega, show (i * 3 + 2) % 3 = 2 by omega, hi]
      rfl
def bigD (j : Nat) : Tr.Bytes × Tr.Nd := ([98, UInt8.ofNat (97 + j)], (false, Ar.zero 65524))
theorem zero_len (n : Nat) : (Ar.zero n).length = n := by simp [Ar.zero]
theorem zero_take {n k : Nat} (h : k ≤ n) : (Ar.zero n).take k = Ar.zero k := by
  unfold Ar.zero
  rw [List.take_replicate, Nat.min_eq_left h]
theorem four_of {α : Type} : ∀ {l : List α}, l.length = 4 → ∃ a b c d, l = [a, b, c, d]
  | [a, b, c, d], _ => ⟨a, b, c, d, rfl⟩

set_option maxHeartbeats 2000000 in
theorem c_ArchiveMany (w : World) (n long : UInt8) :
    Calls P 3 #[.int .u8 n.toNat, .int .u8 long.toNat] w fun e w' => e = .returned (.bool true) ∧ Ext none_ w w' := by
  refine enter (l := [_, _]) (n := 105) Tryd.func3 rfl rfl rfl ?_
  refine W.seq ?_
  refine W.reg <| asg rfl rfl <| L.nil ?_
  refine N.th ?_
  refine W.seq ?_
  refine W.seq ?_
  refine W.reg <| call (vs := []) rfl rfl ok_known13 (c_known13 w) ?_
  rintro e w1 ⟨rfl, hx1⟩
  refine ⟨_, rfl, ?_⟩
  refine notB rfl rfl <| L.nil ?_
  refine N.th ?_
  refine W.condF rfl ?_
  refine W.skip ?_
  refine N.th ?_
  refine W.seq ?_
  obtain ⟨k, hk⟩ : ∃ k, k = 498 + n.toNat % 5 := ⟨_, rfl⟩
  have hk1 : 498 ≤ k ∧ k ≤ 502 := by omega
  refine W.reg <| mv rfl rfl <| remI (c := ((n.toNat % 5 : Nat) : Int)) rfl rfl rfl (by decide) rfl <| cvtI (c := ((n.toNat % 5 : Nat) : Int)) rfl u_int u_u8 rfl (w64 (by omega) (by omega)) <| addI (c := (k : Int)) rfl rfl rfl (by rw [w64 (by omega) (by omega)]; omega) <| asg rfl rfl <| L.nil ?_
  refine N.th ?_
  refine W.seq ?_
  refine W.reg <| asg rfl rfl <| L.nil ?_
  refine N.th ?_
  refine W.seq ?_
  refine W.seq ?_
  refine W.reg <| asg rfl rfl <| L.nil ?_
  refine N.th ?_
  refine W.block ?_
  refine W.loop (X := Nat × List FE × Value) (fun x => [(7, .int .i64 x.1), (6, x.2.2), (5, .int .i64 k), (1, .int .u8 long.toNat)])
    (fun x w' => x.1 ≤ k ∧ x.2.1.length = x.1 ∧ w'.ownsRow w.heap.size tF 3 x.2.2 x.2.1.length (x.2.1.flatMap fcells) ∧ fm x.2.1 = (List.range x.1).map Ar.dirF ∧ (∀ y ∈ x.2.1, y.2.2.1 = .slice none 0 0 ∧ y.2.2.2 = []) ∧ Ext none_ w w') (fun x => k - x.1) (0, [], .slice none 0 0) ⟨rfl, rfl, rfl, rfl, trivial⟩
    ⟨by simp, rfl, own_nil _ _ _ _, rfl, by simp, hx1⟩ ?_
  rintro ⟨i, K, v2⟩ w2 ⟨hi, hKl, hown, hK, hbare, hx2⟩
  dsimp only at hi hKl hown hK hbare ⊢
  refine W.seq ?_
  refine W.seq ?_
  refine W.reg <| mv rfl rfl <| mv rfl rfl <| lssI rfl rfl rfl <| L.nil ?_
  refine N.th ?_
  refine W.cond rfl (fun h => ?_) (fun h => ?_)
  · have hi1 : i < k := by have := of_decide_eq_true h; omega
    refine W.skip ?_
    refine N.th ?_
    refine W.seq ?_
    refine W.block ?_
    obtain ⟨c1, hc1⟩ : ∃ c : UInt8, c = UInt8.ofNat (97 + i % 26) := ⟨_, rfl⟩
    obtain ⟨c2, hc2⟩ : ∃ c : UInt8, c = UInt8.ofNat (97 + i / 26) := ⟨_, rfl⟩
    have hn1 : c1.toNat = 97 + i % 26 := by rw [hc1]; simp; omega
    have hn2 : c2.toNat = 97 + i / 26 := by rw [hc2]; simp; omega
    refine W.reg <| mv rfl rfl <| mv rfl rfl <| remI (c := ((i % 26 : Nat) : Int)) rfl rfl rfl (by decide) rfl <| addI (c := ((97 + i % 26 : Nat) : Int)) rfl rfl rfl (by rw [w64 (by omega) (by omega)]; simp) <| cvtI (c := (c1.toNat : Int)) rfl u_u8 u_int rfl (by rw [wu8 (by omega) (by omega), hn1]) <|
      mv rfl rfl <| quoI (c := ((i / 26 : Nat) : Int)) rfl rfl rfl (by decide) (by
        show IntKind.i64.wrap ((i / 26 : Nat) : Int) = _
        exact w64 (by omega) (by omega)) <| addI (c := ((97 + i / 26 : Nat) : Int)) rfl rfl rfl (by rw [w64 (by omega) (by omega)]; simp) <| cvtI (c := (c2.toNat : Int)) rfl u_u8 u_int rfl (by rw [wu8 (by omega) (by omega), hn2]) <|
      bls (vs := #[(0, .int .u8 (c1.toNat : Int)), (1, .int .u8 (c2.toNat : Int))]) (cs := #[.int .u8 (c1.toNat : Int), .int .u8 (c2.toNat : Int)]) (e := tB) rfl rfl (fun _ => by kernel_rfl) ?_
    have hx3 : Ext none_ w2 (w2.alloc (.cells #[.int .u8 (c1.toNat : Int), .int .u8 (c2.toNat : Int)] tB)) := Ext.alloc _ _ _
    have hg3 := heap_new w2 (.cells #[.int .u8 (c1.toNat : Int), .int .u8 (c2.toNat : Int)] tB)
    generalize w2.alloc _ = w3 at hx3 hg3 ⊢
    have hb3 : BytA w3 (.slice (some ⟨w2.heap.size, 0, none⟩) 2 2) [c1, c2] := lit_arg (l := [c1, c2]) hg3 (by simp)
    obtain ⟨y, hy⟩ : ∃ y : FE, y = ([c1, c2], true, .slice none 0 0, []) := ⟨_, rfl⟩
    obtain ⟨hp1, hp2⟩ := fbuildS (x := y) (by rw [hy]; exact ⟨_, _, _, rfl⟩)
    have hown3 := own_ext hown hx3 fun _ _ => id
    refine cvtBA (a := [c1, c2]) rfl u_bytes u_u8 u_str rfl (Kn.here hb3) <| bld (vs := #[(0, .string (S [c1, c2])), (1, .bool true)]) (v := .agg (fcells y).toArray) rfl rfl (fun _ => by rw [hy]; kernel_rfl) <|
      push1 (cs := (fcells y).toArray) rfl rfl rfl rfl hp1 el_files rfl hp2 hown3 (by omega) (by simp only [maxLen]; omega) (hx2.trans hx3).size fun v5 w5 hown5 hx5 => ?_
    refine asg rfl rfl <| L.nil ?_
    refine N.inb ?_
    refine N.th ?_
    refine W.reg <| mv rfl rfl <| addI (c := ((i + 1 : Nat) : Int)) rfl rfl rfl (by rw [w64 (by omega) (by omega)]; simp) <| asg rfl rfl <| L.nil ?_
    refine N.th (N.round (x := (i + 1, K ++ [y], v5)) ⟨rfl, rfl, rfl, rfl, trivial⟩ ⟨by dsimp only; omega, by simp [hKl], ?_, ?_, ?_, (hx2.trans hx3).own hown3 hx5⟩ (by dsimp only; omega))   -- ROUND
    · dsimp only
      rw [fcells_snoc, List.length_append]; exact hown5
    · dsimp only
      rw [List.range_succ, List.map_append, ← hK]
      simp [fm, hy, Ar.dirF, fnd, hc1, hc2]
    · intro z hz
      rcases List.mem_append.1 hz with hz | hz
      · exact hbare z hz
      · simp at hz
        rw [hz, hy]; exact ⟨rfl, rfl⟩
  · have hik : i = k := by have := of_decide_eq_false h; omega
    subst hik
    refine W.exit ?_
    refine N.xth ?_
    refine N.xth ?_
    refine N.xeq ?_
    refine N.th ?_
    have hfm : fm K = Ar.dirsF i := hK
    have hF2 : FilesA w2 v2 K := ⟨(Row.own hown).arg, fun y hy => by obtain ⟨h1, h2⟩ := hbare y hy; rw [h1, h2]; exact (Row.nil w2 tB 1).arg⟩
    obtain ⟨hopc, hopl⟩ := Ar.dirs_opn (k := i) (by omega)
    have hents := Ar.ents_len 2 (Ar.dirsF i) (by
      intro x hx
      obtain ⟨j, -, rfl⟩ := List.mem_map.1 hx
      simp [Ar.dirF])
    have hdl : (Ar.dirsF i).length = i := by simp [Ar.dirsF]
    rw [hdl] at hents
    have hpl := Ar.pk_len (Ar.dirsF i)
    have hlim : ∀ x ∈ K, x.1.length ≤ 100000 ∧ x.2.2.2.length ≤ 100000 := by
      intro x hx
      have hm : fnd x ∈ Ar.dirsF i := by rw [← hfm]; exact List.mem_map_of_mem hx
      obtain ⟨j, -, hj⟩ := List.mem_map.1 hm
      have h1 : x.1 = (Ar.dirF j).1 := (congrArg Prod.fst hj).symm
      rw [h1, (hbare x hx).2]
      simp [Ar.dirF]
    refine W.seq ?_
    refine W.reg <| mv rfl rfl <| call (vs := [_]) rfl rfl ok_RPack (c_RPack hF2 (by omega) (by rw [hfm]; omega) hlim) ?_
    rintro e w3 ⟨v3, rfl, hp3, hx3⟩
    rw [hfm] at hp3
    refine ⟨_, rfl, ?_⟩
    refine call (vs := [_]) rfl rfl ok_AOpen (b_AOpen (Row.own hp3).arg (by omega)) ?_
    rintro e w4 ⟨v4, E4, rfl, hF4, hE4, hl4, hx4⟩
    refine ⟨_, rfl, ?_⟩
    refine mv rfl rfl <| ext rfl rfl rfl <| ext (v := .int .i64 (Ar.opc (Ar.opn (Ar.pk (Ar.dirsF i))))) rfl rfl rfl <| asg rfl rfl <| asg rfl rfl <| L.nil ?_
    refine N.th ?_
    have hx04 := (hx2.trans hx3).trans hx4
    obtain ⟨a4, c4, rfl, -⟩ := id hF4.row.arg
    generalize hoc : Ar.opc (Ar.opn (Ar.pk (Ar.dirsF i))) = oc at hopc ⊢
    have hE4l : i ≤ 500 → E4.length = i := fun h5 => by
      have := congrArg List.length hE4
      rw [fm_len, hopl h5] at this
      exact this
    refine W.seq ?_
    refine W.seqM (fun E' w' => E' = [(58, .bool false), (1, .int .u8 long.toNat)] ∧ w' = w4) ?_ ?_
    · refine W.reg <| mv rfl rfl <| eqlI rfl rfl rfl <| mv rfl rfl <| leqI rfl rfl rfl <| neqB rfl rfl u_bool rfl <| Vc.bf (by
          rw [hopc]
          by_cases h5 : i ≤ 500
          · simp [h5]; omega
          · simp [h5]; omega) ?_
      by_cases h5 : i ≤ 500
      · rw [if_pos h5] at hopc
        (repeat (first | refine mv rfl rfl ?_ | refine asg rfl rfl ?_ | refine L.off rfl rfl rfl rfl rfl ?_ | refine L.offU rfl rfl rfl rfl ?_ | refine L.on rfl rfl rfl ?_ | refine pickT rfl rfl rfl ?_ | refine pickF rfl rfl rfl ?_ | refine ext rfl rfl rfl ?_ | refine nilc rfl rfl ?_ | refine lenV (t := 86) rfl u_strs rfl ?_ | refine lenV (t := 24) rfl u_bytes rfl ?_ | refine lenV (t := 23) rfl u_files rfl ?_ | refine lenS (t := 9) rfl u_str rfl ?_ | refine eqlI rfl rfl rfl ?_ | refine neqI rfl rfl rfl ?_ | refine lssI rfl rfl rfl ?_ | refine leqI rfl rfl rfl ?_ | refine gtrI rfl rfl rfl ?_ | refine geqI rfl rfl rfl ?_))
        refine Vc.bt (by simp [hopc]) ?_
        (repeat (first | refine mv rfl rfl ?_ | refine asg rfl rfl ?_ | refine L.off rfl rfl rfl rfl rfl ?_ | refine L.offU rfl rfl rfl rfl ?_ | refine L.on rfl rfl rfl ?_ | refine pickT rfl rfl rfl ?_ | refine pickF rfl rfl rfl ?_ | refine ext rfl rfl rfl ?_ | refine nilc rfl rfl ?_ | refine lenV (t := 86) rfl u_strs rfl ?_ | refine lenV (t := 24) rfl u_bytes rfl ?_ | refine lenV (t := 23) rfl u_files rfl ?_ | refine lenS (t := 9) rfl u_str rfl ?_ | refine eqlI rfl rfl rfl ?_ | refine neqI rfl rfl rfl ?_ | refine lssI rfl rfl rfl ?_ | refine leqI rfl rfl rfl ?_ | refine gtrI rfl rfl rfl ?_ | refine geqI rfl rfl rfl ?_))
        refine Vc.bf (by simp [hE4l h5]) ?_
        (repeat (first | refine mv rfl rfl ?_ | refine asg rfl rfl ?_ | refine L.off rfl rfl rfl rfl rfl ?_ | refine L.offU rfl rfl rfl rfl ?_ | refine L.on rfl rfl rfl ?_ | refine pickT rfl rfl rfl ?_ | refine pickF rfl rfl rfl ?_ | refine ext rfl rfl rfl ?_ | refine nilc rfl rfl ?_ | refine lenV (t := 86) rfl u_strs rfl ?_ | refine lenV (t := 24) rfl u_bytes rfl ?_ | refine lenV (t := 23) rfl u_files rfl ?_ | refine lenS (t := 9) rfl u_str rfl ?_ | refine eqlI rfl rfl rfl ?_ | refine neqI rfl rfl rfl ?_ | refine lssI rfl rfl rfl ?_ | refine leqI rfl rfl rfl ?_ | refine gtrI rfl rfl rfl ?_ | refine geqI rfl rfl rfl ?_))
        exact L.nil <| N.th (N.meet [(58, _), (1, _)] ⟨rfl, rfl, trivial⟩ ⟨rfl, rfl⟩)
      · rw [if_neg h5] at hopc
        (repeat (first | refine mv rfl rfl ?_ | refine asg rfl rfl ?_ | refine L.off rfl rfl rfl rfl rfl ?_ | refine L.offU rfl rfl rfl rfl ?_ | refine L.on rfl rfl rfl ?_ | refine pickT rfl rfl rfl ?_ | refine pickF rfl rfl rfl ?_ | refine ext rfl rfl rfl ?_ | refine nilc rfl rfl ?_ | refine lenV (t := 86) rfl u_strs rfl ?_ | refine lenV (t := 24) rfl u_bytes rfl ?_ | refine lenV (t := 23) rfl u_files rfl ?_ | refine lenS (t := 9) rfl u_str rfl ?_ | refine eqlI rfl rfl rfl ?_ | refine neqI rfl rfl rfl ?_ | refine lssI rfl rfl rfl ?_ | refine leqI rfl rfl rfl ?_ | refine gtrI rfl rfl rfl ?_ | refine geqI rfl rfl rfl ?_))
        refine Vc.bf (by simp [hopc]) ?_
        (repeat (first | refine mv rfl rfl ?_ | refine asg rfl rfl ?_ | refine L.off rfl rfl rfl rfl rfl ?_ | refine L.offU rfl rfl rfl rfl ?_ | refine L.on rfl rfl rfl ?_ | refine pickT rfl rfl rfl ?_ | refine pickF rfl rfl rfl ?_ | refine ext rfl rfl rfl ?_ | refine nilc rfl rfl ?_ | refine lenV (t := 86) rfl u_strs rfl ?_ | refine lenV (t := 24) rfl u_bytes rfl ?_ | refine lenV (t := 23) rfl u_files rfl ?_ | refine lenS (t := 9) rfl u_str rfl ?_ | refine eqlI rfl rfl rfl ?_ | refine neqI rfl rfl rfl ?_ | refine lssI rfl rfl rfl ?_ | refine leqI rfl rfl rfl ?_ | refine gtrI rfl rfl rfl ?_ | refine geqI rfl rfl rfl ?_))
        exact L.nil <| N.th (N.meet [(58, _), (1, _)] ⟨rfl, rfl, trivial⟩ ⟨rfl, rfl⟩)
    rintro E' w5 ⟨rfl, rfl⟩
    refine W.condF rfl ?_
    refine W.skip ?_
    refine N.th ?_
    refine W.seq ?_
    refine W.reg <| asg rfl rfl <| L.nil ?_
    refine N.th ?_
    refine W.seq ?_
    refine W.seq ?_
    refine W.reg <| asg rfl rfl <| L.nil ?_
    refine N.th ?_
    refine W.block ?_
    refine W.loop (X := Nat × List FE × Value) (fun x => [(11, .int .i64 x.1), (10, x.2.2), (1, .int .u8 long.toNat)])
      (fun x w' => x.1 ≤ 4 ∧ x.2.1.length = x.1 ∧ w'.ownsRow w.heap.size tF 3 x.2.2 x.2.1.length (x.2.1.flatMap fcells) ∧ fm x.2.1 = (List.range x.1).map bigD ∧ (∀ y ∈ x.2.1, Byts w.heap.size w' y.2.2.1 y.2.2.2) ∧ Ext none_ w w') (fun x => 4 - x.1) (0, [], .slice none 0 0) ⟨rfl, rfl, rfl, trivial⟩
      ⟨by simp, rfl, own_nil _ _ _ _, rfl, by simp, hx04⟩ ?_
    rintro ⟨j, K2, v6⟩ w6 ⟨hj, hK2l, hown6, hK2, hby6, hx6⟩
    dsimp only at hj hK2l hown6 hK2 hby6 ⊢
    refine W.seq ?_
    refine W.seq ?_
    refine W.reg <| mv rfl rfl <| lssI rfl rfl rfl <| L.nil ?_
    refine N.th ?_
    refine W.cond rfl (fun h => ?_) (fun h => ?_)
    · have hj1 : j < 4 := by have := of_decide_eq_true h; omega
      refine W.skip ?_
      refine N.th ?_
      obtain ⟨c, hc⟩ : ∃ c : UInt8, c = UInt8.ofNat (97 + j) := ⟨_, rfl⟩
      have hcn : c.toNat = 97 + j := by rw [hc]; simp; omega
      refine W.seqM (fun E' w' => ∃ y v7, E' = [(11, .int .i64 j), (10, v7), (1, .int .u8 long.toNat)] ∧ w'.ownsRow w.heap.size tF 3 v7 (K2 ++ [y]).length ((K2 ++ [y]).flatMap fcells) ∧ fnd y = bigD j ∧ (∀ z ∈ K2 ++ [y], Byts w.heap.size w' z.2.2.1 z.2.2.2) ∧ Ext none_ w w') ?_ ?_
      · refine W.block ?_
        have hxd : Ext none_ w6 w6.drew := Ext.drew _ _
        have hsd : w6.drew.heap.size = w6.heap.size := rfl
        have hs6 := hx6.size
        have hownd := own_ext hown6 hxd fun _ _ => id
        have hrow : ∀ {w' : World} {g : Nat}, w'.heap[g]? = some (.cells #[.int .u8 (c.toNat : Int)] tB (0, 0)) → BytA w' (.slice (some ⟨g, 0, none⟩) 1 1) [c] := fun hg => lit_arg (l := [c]) hg (by simp)
        -- what the last three come to
        have fin : ∀ {wb : World} {gz : Nat}, Ext none_ w6.drew wb → wb.ownsRow w6.heap.size tB 1 (.slice (some ⟨gz, 0, none⟩) 65524 65524) 65524 (encB (List.replicate 65524 0)) → ∃ y : FE, y = ([98] ++ [c], false, .slice (some ⟨gz, 0, none⟩) 65524 65524, Ar.zero 65524) ∧ Byts w.heap.size wb y.2.2.1 y.2.2.2 := fun {wb gz} hx hz =>
          ⟨_, rfl, by unfold Byts; rw [zero_len]; exact own_low hz hs6⟩
        refine W.draw2 [tB, 9] (fun _ => True) [0, 1, 2, 3] [4] [5, 6, 7, 8, 9, 10, 11] [7, 4] [5, 6, 8, 9, 10, 11] rfl rfl (by kernel_rfl) (by kernel_rfl) trivial ?_
        refine mv rfl rfl <| mv rfl rfl <| addI (c := ((97 + j : Nat) : Int)) rfl rfl rfl (by rw [w64 (by omega) (by omega)]; simp) <| cvtI (c := (c.toNat : Int)) rfl u_u8 u_int rfl (by rw [wu8 (by omega) (by omega), hcn]) <| L.forkH ?_ ?_
        · refine bls (vs := #[(0, .int .u8 (c.toNat : Int))]) (cs := #[.int .u8 (c.toNat : Int)]) (e := tB) rfl rfl (fun _ => by kernel_rfl) (hS := .inr fun _ => trivial) ?_
          have hxa : Ext none_ w6.drew (w6.drew.alloc (.cells #[.int .u8 (c.toNat : Int)] tB)) := Ext.alloc _ _ _
          have hga := heap_new w6.drew (.cells #[.int .u8 (c.toNat : Int)] tB)
          generalize w6.drew.alloc _ = wa at hxa hga ⊢
          refine L.nextH (fun w' => w'.heap[w6.drew.heap.size]? = some (.cells #[.int .u8 (c.toNat : Int)] tB (0, 0))) (fun _ _ => trivial) hga ?_
          refine cvtBA (a := [c]) rfl u_bytes u_u8 u_str rfl (fun w' h => hrow h) <| addS (a := [98]) rfl rfl rfl (by simp) <| mks (k := 65524) rfl rfl el_bytes rfl (by omega) fun wb hzb hxb _ => ⟨.inr fun h => hxb.obj h id, ?_⟩
          have hxab := hxa.trans hxb
          have hsa := hxa.size
          obtain ⟨y, hy, hyb⟩ := fin hxab (own_low hzb (by omega))
          obtain ⟨hp1, hp2⟩ := fbuildS (x := y) (by rw [hy]; exact ⟨_, _, _, rfl⟩)
          refine bld (vs := #[(0, .string (S ([98] ++ [c]))), (2, .slice (some ⟨wa.heap.size, 0, none⟩) 65524 65524)]) (v := .agg (fcells y).toArray) rfl rfl (fun _ => by rw [hy]; kernel_rfl) ?_
          have hownb := own_ext hownd hxab fun _ _ => id
          refine bls (vs := #[(0, .agg (fcells y).toArray)]) (cs := (fcells y).toArray) (e := tF) rfl rfl hp1 (hS := .inr fun h => (Ext.alloc none_ wb _).obj h id) ?_
          have hxc : Ext none_ wb (wb.alloc (.cells (fcells y).toArray tF)) := Ext.alloc _ _ _
          have hgc := heap_new wb (.cells (fcells y).toArray tF)
          generalize wb.alloc _ = wc at hxc hgc ⊢
          have hownc := own_ext hownb hxc fun _ _ => id
          have hxdc := hxab.trans hxc
          refine appY (news := fcells y) rfl rfl rfl el_files hownc (by rfl) (fun j u hj => by rw [add_at, Nat.zero_add]; exact cell_of hgc (by simpa using hj)) (fun u hu => List.all_eq_true.1 hp2 u (by simpa using hu)) (by omega) (by simp only [maxLen]; omega) ((hx6.trans hxd).trans hxdc).size fun v7 w7 hown7 hx7 _ _ => ⟨.inr fun h => hx7.obj h fun e => ?_, ?_⟩
          · have h1 := (Row.own hown6).lt _ e
            omega
          refine asg rfl rfl <| L.nilH ?_
          refine N.inb <| N.th (N.meet [(11, _), (10, _), (1, _)] ⟨rfl, rfl, rfl, trivial⟩ ⟨y, v7, rfl, ?_, ?_, ?_, ((hx6.trans hxd).trans hxdc).own hownc hx7⟩)
          · rw [fcells_snoc, List.length_append]; exact hown7
          · rw [hy]; simp [fnd, bigD, hc]
          · intro z hz
            have hkb : ∀ {z : FE}, Byts w.heap.size wc z.2.2.1 z.2.2.2 → Byts w.heap.size w7 z.2.2.1 z.2.2.2 := fun {z} hz => own_ext hz hx7 fun k hk hk2 => by
              obtain ⟨c1, f1, h1⟩ := own_kind hz k hk
              obtain ⟨c2, f2, h2⟩ := own_kind hownc k hk2
              rw [h1] at h2; cases h2
            rcases List.mem_append.1 hz with hz | hz
            · exact hkb (own_ext (own_ext (hby6 z hz) hxd fun _ _ => id) hxdc fun _ _ => id)
            · simp at hz
              rw [hz]; exact hkb (own_ext hyb hxc fun _ _ => id)
        · refine mks (k := 65524) rfl rfl el_bytes rfl (by omega) fun wa hza hxa hsa => ⟨.inr fun _ => trivial, ?_⟩
          refine bls (vs := #[(0, .int .u8 (c.toNat : Int))]) (cs := #[.int .u8 (c.toNat : Int)]) (e := tB) rfl rfl (fun _ => by kernel_rfl) (hS := .inr fun _ => trivial) ?_
          have hxb : Ext none_ wa (wa.alloc (.cells #[.int .u8 (c.toNat : Int)] tB)) := Ext.alloc _ _ _
          have hgb := heap_new wa (.cells #[.int .u8 (c.toNat : Int)] tB)
          generalize wa.alloc _ = wb at hxb hgb ⊢
          refine L.nextH (fun w' => w'.heap[wa.heap.size]? = some (.cells #[.int .u8 (c.toNat : Int)] tB (0, 0))) (fun _ _ => trivial) hgb ?_
          have hxab := hxa.trans hxb
          obtain ⟨y, hy, hyb⟩ := fin hxab (own_ext hza hxb fun _ _ => id)
          obtain ⟨hp1, hp2⟩ := fbuildS (x := y) (by rw [hy]; exact ⟨_, _, _, rfl⟩)
          refine cvtBA (a := [c]) rfl u_bytes u_u8 u_str rfl (fun w' h => hrow h) <| addS (a := [98]) rfl rfl rfl (by simp) <| bld (vs := #[(0, .string (S ([98] ++ [c]))), (2, .slice (some ⟨w6.drew.heap.size, 0, none⟩) 65524 65524)]) (v := .agg (fcells y).toArray) rfl rfl (fun _ => by rw [hy]; kernel_rfl) ?_
          have hownb := own_ext hownd hxab fun _ _ => id
          refine bls (vs := #[(0, .agg (fcells y).toArray)]) (cs := (fcells y).toArray) (e := tF) rfl rfl hp1 (hS := .inr fun h => (Ext.alloc none_ wb _).obj h id) ?_
          have hxc : Ext none_ wb (wb.alloc (.cells (fcells y).toArray tF)) := Ext.alloc _ _ _
          have hgc := heap_new wb (.cells (fcells y).toArray tF)
          generalize wb.alloc _ = wc at hxc hgc ⊢
          have hownc := own_ext hownb hxc fun _ _ => id
          have hxdc := hxab.trans hxc
          refine appY (news := fcells y) rfl rfl rfl el_files hownc (by rfl) (fun j u hj => by rw [add_at, Nat.zero_add]; exact cell_of hgc (by simpa using hj)) (fun u hu => List.all_eq_true.1 hp2 u (by simpa using hu)) (by omega) (by simp only [maxLen]; omega) ((hx6.trans hxd).trans hxdc).size fun v7 w7 hown7 hx7 _ _ => ⟨.inr fun h => hx7.obj h fun e => ?_, ?_⟩
          · have h1 := (Row.own hown6).lt _ e
            omega
          refine asg rfl rfl <| L.nilH ?_
          refine N.inb <| N.th (N.meet [(11, _), (10, _), (1, _)] ⟨rfl, rfl, rfl, trivial⟩ ⟨y, v7, rfl, ?_, ?_, ?_, ((hx6.trans hxd).trans hxdc).own hownc hx7⟩)
          · rw [fcells_snoc, List.length_append]; exact hown7
          · rw [hy]; simp [fnd, bigD, hc]
          · intro z hz
            have hkb : ∀ {z : FE}, Byts w.heap.size wc z.2.2.1 z.2.2.2 → Byts w.heap.size w7 z.2.2.1 z.2.2.2 := fun {z} hz => own_ext hz hx7 fun k hk hk2 => by
              obtain ⟨c1, f1, h1⟩ := own_kind hz k hk
              obtain ⟨c2, f2, h2⟩ := own_kind hownc k hk2
              rw [h1] at h2; cases h2
            rcases List.mem_append.1 hz with hz | hz
            · exact hkb (own_ext (own_ext (hby6 z hz) hxd fun _ _ => id) hxdc fun _ _ => id)
            · simp at hz
              rw [hz]; exact hkb (own_ext hyb hxc fun _ _ => id)
      rintro E' w7 ⟨y, v7, rfl, hown7, hy7, hby7, hx7⟩
      refine W.reg <| mv rfl rfl <| addI (c := ((j + 1 : Nat) : Int)) rfl rfl rfl (by rw [w64 (by omega) (by omega)]; simp) <| asg rfl rfl <| L.nil ?_
      refine N.th (N.round (x := (j + 1, K2 ++ [y], v7)) ⟨rfl, rfl, rfl, trivial⟩ ⟨by dsimp only; omega, by simp [hK2l], hown7, ?_, hby7, hx7⟩ (by dsimp only; omega))   -- ROUND
      dsimp only
      rw [List.range_succ, List.map_append, ← hK2]
      simp [fm, hy7]
    · have hj4 : j = 4 := by have := of_decide_eq_false h; omega
      subst hj4
      refine W.exit ?_
      refine N.xth ?_
      refine N.xth ?_
      refine N.xeq ?_
      refine N.th ?_
      obtain ⟨y0, y1, y2, y3, rfl⟩ := four_of hK2l
      obtain ⟨e0, e1, e2, e3⟩ : fnd y0 = bigD 0 ∧ fnd y1 = bigD 1 ∧ fnd y2 = bigD 2 ∧ fnd y3 = bigD 3 := by
        have : [fnd y0, fnd y1, fnd y2, fnd y3] = [bigD 0, bigD 1, bigD 2, bigD 3] := hK2
        simpa using this
      obtain ⟨t, ht⟩ : ∃ t, t = long.toNat % 8 := ⟨_, rfl⟩
      have ht8 : t < 8 := by omega
      have hl := long.toNat_lt
      obtain ⟨g, cap, rfl, hgw⟩ : ∃ g cap, v6 = .slice (some ⟨g, 0, none⟩) 4 cap ∧ w.heap.size ≤ g := by
        rcases hown6.2 with ⟨-, h0⟩ | ⟨g, cap, cur, rfl, hg, -⟩
        · simp at h0
        · exact ⟨g, cap, rfl, hg⟩
      have hb3 := hby6 y3 (by simp)
      have hy3b : y3.2.2.2 = Ar.zero 65524 := congrArg (·.2.2) e3
      rw [hy3b] at hb3
      obtain ⟨a3, c3, hv3, hc3, -⟩ := own_slice hb3
      rw [zero_len] at hv3 hc3
      have hb3' : w6.ownsRow w.heap.size tB 1 (.slice a3 65524 c3) 65524 (encB (Ar.zero 65524)) := by
        have := hb3
        unfold Byts at this
        rw [zero_len, hv3] at this
        exact this
      have hxd : Ext none_ w6 w6.drew := Ext.drew _ _
      have hownd := own_ext hown6 hxd fun _ _ => id
      have hFd : FilesA w6.drew (.slice (some ⟨g, 0, none⟩) 4 cap) [y0, y1, y2, y3] := ⟨(Row.own hownd).arg, fun z hz => (Row.own (own_ext (hby6 z hz) hxd fun _ _ => id)).arg⟩
      have hcell3 : w6.drew.cell? ⟨g, 0 + 3 * 3 + 2, none⟩ = some (.slice a3 65524 c3) := by
        have := (hFd.cell (i := 3) (x := y3) rfl).2.2
        rw [hv3] at this
        exact this
      have hnew : w6.ownsRow w.heap.size tB 1 (.slice a3 (65512 + t) c3) (65512 + t) (encB (Ar.zero (65512 + t))) := by
        have h1 := own_take hb3' (m := 65512 + t) (by omega)
        rw [Nat.mul_one, show (encB (Ar.zero 65524)).take (65512 + t) = encB ((Ar.zero 65524).take (65512 + t)) by simp [encB], zero_take (by omega)] at h1
        exact h1
      obtain ⟨hown7, cur, hcur, hcj⟩ := own_setF2 (K := [y0, y1, y2, y3]) (i := 3) (x := y3) hownd rfl (.slice a3 (65512 + t) c3) (Ar.zero (65512 + t))
      refine W.seq ?_
      refine W.draw [3] true (fun w' => w' = w6.drew) [0, 1, 2, 3, 4, 5, 6, 7, 8, 9, 10, 11, 12, 13, 14, 15, 16, 17, 18] rfl rfl (by kernel_rfl) rfl ?_   -- held
      refine mv rfl rfl <| mv rfl rfl <| ixa rfl rfl u_files sz_File rfl (by decide) (by decide) <| fad rfl fl_File_2 rfl <| ldK rfl ag_bytes rfl (fun w' h => by rw [h]; exact hcell3) <| mv rfl rfl <| ixa rfl rfl u_files sz_File rfl (by decide) (by decide) <| fad rfl fl_File_2 rfl <| ldK rfl ag_bytes rfl (fun w' h => by rw [h]; exact hcell3) <|
        lenV rfl u_bytes rfl <| subI (c := ((65512 : Nat) : Int)) rfl rfl rfl (by rfl) <| mv rfl rfl <| remI (c := (t : Int)) rfl rfl rfl (by decide) (by rw [ht]; rfl) <| cvtI (c := (t : Int)) rfl u_int u_u8 rfl (w64 (by omega) (by omega)) <| addI (c := ((65512 + t : Nat) : Int)) rfl rfl rfl (by rw [w64 (by omega) (by omega)]; simp) <|
        slVh rfl rfl u_bytes el_bytes.szB rfl (by omega) (by omega) <| ixa rfl rfl u_files sz_File rfl (by decide) (by decide) <| fad rfl fl_File_2 rfl <| st1 rfl rfl sz_bytes rfl hcur hcj ?_ (.inl ⟨rfl, rfl⟩)
      refine L.nilH ?_
      refine N.th ?_
      show N _ _ _ _ (w6.drew.setCell ⟨g, 3 * 3 + 2, none⟩ (.slice a3 (65512 + t) c3))
      have hx67 : Ext (fun b => b = g) w6.drew (w6.drew.setCell ⟨g, 3 * 3 + 2, none⟩ (.slice a3 (65512 + t) c3)) := Ext.setCell (S := fun b => b = g) _ (fun _ => rfl) _
      generalize w6.drew.setCell _ _ = w7 at hown7 hx67 ⊢
      have hkeep : ∀ {v : Value} {l : List UInt8} {m : Nat}, w6.ownsRow w.heap.size tB 1 v m (encB l) → w7.ownsRow w.heap.size tB 1 v m (encB l) := fun hz => own_ext (own_ext hz hxd fun _ _ => id) hx67 fun k hk hk2 => by
        obtain ⟨c1, f1, h1⟩ := own_kind (own_ext hz hxd fun _ _ => id) k hk
        rw [hk2, hcur] at h1; cases h1
      obtain ⟨y3', hy3'⟩ : ∃ y : FE, y = (y3.1, y3.2.1, .slice a3 (65512 + t) c3, Ar.zero (65512 + t)) := ⟨_, rfl⟩
      have hset : [y0, y1, y2, y3].set 3 (y3.1, y3.2.1, .slice a3 (65512 + t) c3, Ar.zero (65512 + t)) = [y0, y1, y2, y3'] := by rw [hy3']; rfl
      rw [hset] at hown7
      have hfm7 : fm [y0, y1, y2, y3'] = Ar.bigF t := by
        have h3 : fnd y3' = ([98, 100], (false, Ar.zero (65512 + t))) := by
          have a1 : y3.1 = [98, 100] := congrArg Prod.fst e3
          have a2 : y3.2.1 = false := congrArg (·.2.1) e3
          rw [hy3']; simp [fnd, a1, a2]
        show [fnd y0, fnd y1, fnd y2, fnd y3'] = _
        rw [e0, e1, e2, h3]; rfl
      have hF7 : FilesA w7 (.slice (some ⟨g, 0, none⟩) 4 cap) [y0, y1, y2, y3'] := ⟨(Row.own hown7).arg, fun z hz => by
        simp only [List.mem_cons, List.not_mem_nil, or_false] at hz
        rcases hz with rfl | rfl | rfl | rfl
        · exact (Row.own (hkeep (hby6 _ (by simp)))).arg
        · exact (Row.own (hkeep (hby6 _ (by simp)))).arg
        · exact (Row.own (hkeep (hby6 _ (by simp)))).arg
        · rw [hy3']
          dsimp only
          have := (Row.own (hkeep hnew)).arg
          unfold BytA
          rw [zero_len]
          exact this⟩
      have hx07 : Ext none_ w w7 := (hx6.trans hxd).trans' hx67 fun i hi e => by omega
      have hbl := Ar.big_len t
      have hbp := Ar.pk_len (Ar.bigF t)
      have hlim2 : ∀ x ∈ [y0, y1, y2, y3'], x.1.length ≤ 100000 ∧ x.2.2.2.length ≤ 100000 := by
        intro x hx
        have hm : fnd x ∈ Ar.bigF t := by rw [← hfm7]; exact List.mem_map_of_mem hx
        have : (fnd x).1.length ≤ 100000 ∧ (fnd x).2.2.length ≤ 100000 := by
          simp only [Ar.bigF, List.mem_cons, List.not_mem_nil, or_false] at hm
          rcases hm with e | e | e | e <;> rw [e] <;> exact ⟨by simp, by dsimp only; rw [zero_len]; omega⟩
        exact this
      refine W.seq ?_
      refine W.reg <| mv rfl rfl <| call (vs := [_]) rfl rfl ok_RPack (c_RPack hF7 (by simp) (by rw [hfm7]; omega) hlim2) ?_
      rintro e w8 ⟨v8, rfl, hp8, hx8⟩
      rw [hfm7] at hp8
      refine ⟨_, rfl, ?_⟩
      refine asg rfl rfl <| L.nil ?_
      refine N.th ?_
      obtain ⟨a8, c8, rfl, -, -⟩ := own_slice hp8
      refine W.seq ?_
      refine W.reg <| mv rfl rfl <| call (vs := [_]) rfl rfl ok_AOpen (b_AOpen (Row.own hp8).arg (by omega)) ?_
      rintro e w9 ⟨v9, E9, rfl, hF9, hE9, hl9, hx9⟩
      refine ⟨_, rfl, ?_⟩
      refine mv rfl rfl <| ext rfl rfl rfl <| ext (v := .int .i64 (Ar.opc (Ar.opn (Ar.pk (Ar.bigF t))))) rfl rfl rfl <| asg rfl rfl <| L.nil ?_
      refine N.th ?_
      have hbo := Ar.big_opn ht8
      generalize Ar.opc (Ar.opn (Ar.pk (Ar.bigF t))) = oc2 at hbo ⊢
      rw [hbl]
      refine W.seq ?_
      refine W.reg <| mv rfl rfl <| eqlI rfl rfl rfl <| mv rfl rfl <| lenV rfl u_bytes rfl <| leqI rfl rfl rfl <| eqlB rfl rfl u_bool rfl <| Vc.bt (by
        rw [hbo]
        by_cases h4 : 262141 + t ≤ 262144
        · simp [h4]; omega
        · simp [h4]; omega) <| asg rfl rfl <| L.nil ?_
      refine N.th ?_
      refine W.ret ?_
      exact N.ret1 rfl rfl ⟨rfl, (hx07.trans hx8).trans hx9⟩   -- RETURN
end Go.Proofs.YtmdpmpdlkaogdaaDoor

namespace Go.Proofs.YtmdpmpdlkaogdaaDoor.ArchiveManyZ
open Go Go.ChangeShapes Go.WideShapes Go.ChangeAt Go.RowKit Go.Proofs.YtmdpmpdlkaogdaaDoor
open Go.ChangeMaps (open_string shut_string)

theorem own : ownKnob Tryd.prog.godebug = none := by kernel_rfl
theorem laidOut : laidOutB Tryd.prog = true := by kernel_rfl
abbrev lv := Rows.archiveManyRow.laid

set_option maxRecDepth 100000 in
theorem lifted (os : Os) (started : os.Started) (H : Type) (enc : TypeId × Value → H) :
    ReturnsInHanded {} Tryd.checked os 3 .any (fun w args => (Rows.archiveManySpec.pre enc Tryd.prog Tryd.f3 Rows.archiveManyRow.domain false w args ∧ laidMetH Tryd.prog lv w) ∧ sizedMet enc Tryd.prog Tryd.f3 (OpenSpec.ofChange Rows.archiveManySpec) false w args)
      (Rows.archiveManySpec.post enc Tryd.prog Tryd.f3 false true false false) := by
  refine returnsInHanded_of_change_and (C := Tryd.checked) (X := fun w _ => laidMetH Tryd.prog lv w) (fun _ _ _ hh h => h.of_heap hh) own started (by kernel_rfl) Tryd.func3
    (ChangeSpec.witness_shaped (enc := enc) (C := Tryd.checked) (os := os) (X := fun w _ => laidMetH Tryd.prog lv w) false (World.laidAll Tryd.prog os lv) #[.int .u8 0, .int .u8 0] 8 (World.laidAll_os _ _ _)
      (World.shaped_of_ZipB (by kernel_rfl) (by kernel_rfl)) (by kernel_rfl) (by kernel_rfl) (by kernel_rfl)
      (by rw [MakeChecks.laidMetH_plain _ _ _ (by kernel_rfl)]; exact laidMet_laidAll _ (by kernel_rfl) (by kernel_rfl))) ?_
  intro W base args ds gs before hval0 hW _ _ _ _
  have hval : ∀ (j : Nat) t v, Tryd.f3.params[j]? = some t → args[j]? = some v → Value.okWide Tryd.prog W .any base t v := hval0
  have hW' := hW
  obtain ⟨p, q, hA0, hV, rfl, hfz, hnd⟩ := hW
  have hA : DataW.TrodAll enc Tryd.prog W 0 (fun _ => true) true Tryd.f3.params.toList args.toList ds p := hA0
  rw [Tryd.params3] at hA hval
  obtain ⟨v0, vs0, d0, ds0, p0, q0, hargs, rfl, rfl, h0, r0⟩ := trodAll_cons hA
  obtain ⟨v1, vs1, d1, ds1, p1, q1, rfl, rfl, rfl, h1, r1⟩ := trodAll_cons r0
  obtain ⟨rfl, rfl, rfl⟩ := trodAll_nil r1
  obtain rfl : args = #[v0, v1] := by cases args; simp_all
  obtain ⟨rfl, rfl⟩ := trodVars_none hV
  obtain ⟨z0, rfl, rfl, rfl, w0⟩ := open_int Tryd.underlying5 (hval 0 5 v0 rfl rfl) h0
  have hz0 : (0 : Int) ≤ z0 ∧ z0 < 256 := by
    simp [Lit.wf, IntKind.min, IntKind.max, IntKind.bits, IntKind.signed] at w0
    omega
  obtain ⟨a0, rfl⟩ : ∃ t : UInt8, z0 = t.toNat := ⟨UInt8.ofNat z0.toNat, by simp; omega⟩
  obtain ⟨z1, rfl, rfl, rfl, w1⟩ := open_int Tryd.underlying5 (hval 1 5 v1 rfl rfl) h1
  have hz1 : (0 : Int) ≤ z1 ∧ z1 < 256 := by
    simp [Lit.wf, IntKind.min, IntKind.max, IntKind.bits, IntKind.signed] at w1
    omega
  obtain ⟨a1, rfl⟩ : ∃ t : UInt8, z1 = t.toNat := ⟨UInt8.ofNat z1.toNat, by simp; omega⟩
  clear hA0 hval0
  refine (c_ArchiveMany W a0 a1).mono fun e W' ⟨he, hx⟩ => ?_
  subst he
  have bel : Below W.heap.size W W' := hx.below
  exact ⟨_, rfl, _, _, _, [], _, [], hW', trodAll_mk1 (shut_bool Tryd.underlying4 _), (trodAll_cons_mk (shut_int Tryd.underlying5 w0) (trodAll_cons_mk (shut_int Tryd.underlying5 w1) trodAll_mk0)), rfl, bel.frame _, fun h => by cases h⟩

theorem over : Rows.ArchiveManySaid :=
  OpenClaim.holds_of_wide 3 Tryd.f3 rfl rfl rfl rfl rfl rfl rfl ⟨rfl, rfl, rfl, rfl, rfl⟩ rfl rfl rfl rfl rfl (by kernel_rfl) Tryd.func3 (by kernel_rfl)
    (of_decide_eq_true (by kernel_rfl)) (by unfold Func.isWrapper; first | (rw [if_pos (by decide +kernel)]; kernel_rfl) | (rw [if_neg (by decide +kernel)]; exact ⟨rfl, rfl⟩))
    (fun os started H enc _ => lifted os started H enc)

theorem card : Rows.ArchiveManyCardSaid :=
  Claim7.holds_tied_plain_at .later [] [.data, .pinned] true Rows.archiveManyCard.stood.harness true over (fun _ h => by cases h) (by kernel_rfl) (fun _ h => by cases h) archiveMany_row_tie rfl ⟨rfl, rfl⟩ (by kernel_rfl) rfl
    (fun f fn hf hfn => by
      obtain rfl : f = 3 := Option.some.inj ((show Tryd.prog.funcNamed Rows.archiveManyRow.func = some 3 by kernel_rfl).symm.trans hf) |>.symm
      obtain rfl : fn = Tryd.f3 := (Option.some.inj (Tryd.func3.symm.trans hfn)).symm
      exact ⟨by kernel_rfl, fun j t ht => by
        rw [Tryd.params3] at ht
        have hm : t ∈ ([5, 5] : List TypeId) := by simpa using Array.mem_of_getElem? ht
        have hall : (([5, 5] : List TypeId).all fun u => !Tryd.prog.wantsStandIn u) = true := by kernel_rfl
        exact (show Tryd.prog.wantsStandIn t = false by simpa using List.all_eq_true.1 hall t hm)⟩)
    (by kernel_rfl)
end Go.Proofs.YtmdpmpdlkaogdaaDoor.ArchiveManyZ
namespace Go.Proofs.YtmdpmpdlkaogdaaDoor
/-- The statement. -/
theorem archiveMany_card_holds : Rows.ArchiveManyCardSaid := ArchiveManyZ.card
#print axioms archiveMany_card_holds
end Go.Proofs.YtmdpmpdlkaogdaaDoor
