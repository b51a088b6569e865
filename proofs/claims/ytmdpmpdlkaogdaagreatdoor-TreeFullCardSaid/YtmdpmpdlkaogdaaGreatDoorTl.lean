/- The walk of haversacklaw8.known. -/
import Derived.Test.YtmdpmpdlkaogdaaGreatDoorTk
namespace Go.Proofs.YtmdpmpdlkaogdaaGreatDoor
open Go Go.RowKit Vc


theorem ok_known : FnOk P 27 := ⟨_, Tryz.func27, by kernel_rfl, by kernel_rfl⟩

namespace Kn8
def k1 : Tr.T := [([97], (true, [])), ([97,47,98], (false, [120]))]
def k2 : Tr.T := [([99], (true, [])), ([99,47,98], (false, [120]))]
def kv : Tr.Move := ⟨[[97], [97, 47, 98]], [[99], [99, 47, 98]], [], 1⟩
theorem t1 : Tr.write [] [97, 47, 98] [120] = (k1, 0) := by kernel_rfl
theorem t2 : Tr.write k1 [97] [] = (k1, 54) := by kernel_rfl
theorem tb : Tr.below k1 [97] = [[97], [97, 47, 98]] := by
  have h : (k1.map (·.1)).filter (fun k => Sp.within k [97]) = [[97], [97, 47, 98]] := by kernel_rfl
  unfold Tr.below Tr.sort
  rw [h]
  exact List.mergeSort_of_pairwise (by decide)
theorem tp : Tr.plan k1 [97] [99] = (some kv, 0) := by
  have h : Tr.plan k1 [97] [99] = (if (Tr.dests 1 [99] (Tr.below k1 [97])).2 ≠ 0 then (none, (Tr.dests 1 [99] (Tr.below k1 [97])).2) else (some ⟨Tr.below k1 [97], (Tr.dests 1 [99] (Tr.below k1 [97])).1, [], ((Tr.below k1 [97]).map fun k => ((Tr.get k1 k).getD (true, [])).2.length).sum⟩, 0)) := by kernel_rfl
  rw [h, tb]
  exact rfl
theorem t3 : Tr.rename k1 [97] [99] = (k2, 0) := by
  unfold Tr.rename
  rw [tp]
  show (if Tr.room k1 0 0 = false then (k1, (55 : Int)) else (Tr.drop (Tr.copy k1 kv) kv.src, 0)) = (k2, 0)
  exact rfl
theorem t4 : Tr.read k2 [99, 47, 98] = ([120], 0) := by kernel_rfl
theorem t5 : Tr.files k2 = k2 := List.mergeSort_of_pairwise (by decide)
theorem t6 : Tr.exists_ k2 [99] = true := by kernel_rfl
theorem t7 : Tr.exists_ k2 [97] = false := by kernel_rfl
theorem t8 : Tr.size (Tr.copy k1 kv) = Tr.size k1 + kv.bytes := by kernel_rfl
theorem t9 : Tr.size k2 = 1 := by kernel_rfl
end Kn8

theorem two_of {α : Type} : ∀ {l : List α}, l.length = 2 → ∃ x y, l = [x, y]
  | [x, y], _ => ⟨x, y, rfl⟩

theorem c_known (w : World) : Calls P 27 #[] w fun e w' => e = .returned (.bool true) ∧ Ext none_ w w' := by
  refine enter (l := []) (n := 71) Tryz.func27 rfl rfl rfl ?_
  refine W.seq ?_
  refine W.reg <| asg rfl rfl <| L.nil ?_
  refine N.th ?_
  refine W.seq ?_
  refine W.reg <| call (vs := []) rfl rfl ok_New (c_New w) ?_
  rintro e w1 ⟨bt, bm, rfl, hbt, hbm, hT1, hx1⟩
  refine ⟨_, rfl, ?_⟩
  refine asg rfl rfl <| L.nil ?_
  refine N.th ?_
  refine W.seq ?_
  refine W.seq ?_
  have hTwo : ∀ i, i < w.heap.size → Two bt bm i → none_ i := by rintro i hi (e | e) <;> omega
  refine W.reg <| mv rfl rfl <| eqlPN rfl u_pTree rfl <| mv rfl rfl <| L.on rfl rfl rfl <| mv rfl rfl <| L.on rfl rfl rfl <| bls (vs := #[(0, .int .u8 120)]) (cs := #[.int .u8 120]) (e := tB) rfl rfl (fun _ => by kernel_rfl) <| L.on rfl rfl rfl <| cvtBB rfl u_bytes u_u8 rfl (heap_new _ _) trivial fun w2 hg2 hx2 => ⟨trivial, ?_⟩
  have hx12 : Ext none_ w1 w2 := (Ext.alloc none_ _ _).trans' hx2 fun i hi e => by omega
  have hrow : RowB w2 (.slice (some ⟨w1.heap.size, 0, none⟩) 1 1) [120] := ⟨rfl, _, 1, rfl, Nat.le_refl _, by simp [maxLen], (fun h => by cases h), fun ad had => by
    cases had
    exact ⟨_, _, rfl, hg2, Nat.le_refl _, rfl⟩⟩
  have hT2 : Tree none_ w2 bt bm [] := ⟨hT1.ext0 hx12, by simp, by simp [Tr.size]⟩
  refine L.on rfl rfl rfl <| call (vs := [_, .string (S [97, 47, 98]), _]) rfl rfl ok_Write (c_Write [97, 47, 98] hT2 hrow.arg (by simp)) ?_
  rintro e w3 ⟨rfl, hT3, hx3⟩
  refine ⟨_, rfl, ?_⟩
  rw [Kn8.t1] at hT3 ⊢
  have hT3' : Tree none_ w3 bt bm Kn8.k1 := ⟨hT3, by decide, by decide⟩
  refine L.on rfl rfl rfl <| neqI rfl rfl rfl <| pickF rfl rfl rfl <| mv rfl rfl <| L.on rfl rfl rfl <| mv rfl rfl <| L.on rfl rfl rfl <| call (vs := [_, .string (S [97]), _]) rfl rfl ok_Write (c_Write (b := []) [97] hT3' (Row.nil _ tB 1).arg (by simp)) ?_
  rintro e w4 ⟨rfl, hT4, hx4⟩
  refine ⟨_, rfl, ?_⟩
  rw [Kn8.t2] at hT4 ⊢
  have hT4' : Tree none_ w4 bt bm Kn8.k1 := ⟨hT4, by decide, by decide⟩
  refine L.on rfl rfl rfl <| neqI rfl rfl rfl <| pickF rfl rfl rfl <| mv rfl rfl <| L.on rfl rfl rfl <| mv rfl rfl <| L.on rfl rfl rfl <| call (vs := [_, .string (S [97]), .string (S [99])]) rfl rfl ok_Rename (c_Rename [97] [99] hT4' (by intro p hp; simp [Kn8.k1] at hp; rcases hp with rfl | rfl <;> decide) (fun x e h => by rw [Kn8.tp] at h; cases h; exact Kn8.t8)) ?_
  rintro e w5 ⟨rfl, hT5, hx5⟩
  refine ⟨_, rfl, ?_⟩
  rw [Kn8.t3] at hT5 ⊢
  have hT5' : Tree none_ w5 bt bm Kn8.k2 := ⟨hT5, by decide, by decide⟩
  refine L.on rfl rfl rfl <| neqI rfl rfl rfl <| pickF rfl rfl rfl <| L.nil ?_
  refine N.th ?_
  refine W.condF rfl ?_
  refine W.skip ?_
  refine N.th ?_
  refine W.seq ?_
  have hx05 : Ext none_ w w5 := (hx1.trans hx12).trans' (hx3.trans (hx4.trans hx5)) hTwo
  refine W.reg <| mv rfl rfl <| call (vs := [_, .string (S [99, 47, 98])]) rfl rfl ok_Read (c_Read [99, 47, 98] hT5') ?_
  rintro e w6 ⟨rv, rfl, hrv, hx6⟩
  refine ⟨_, rfl, ?_⟩
  rw [Kn8.t4] at hrv ⊢
  refine mv rfl rfl <| ext (v := rv) rfl rfl rfl <| ext (v := .int .i64 0) rfl rfl rfl <| asg rfl rfl <| asg rfl rfl <| L.nil ?_
  refine N.th ?_
  refine W.seq ?_
  have hT6 := hT5.ext0 hx6
  refine W.reg <| mv rfl rfl <| call (vs := [_]) rfl rfl ok_Files (c_Files hT6 (by decide) (by decide)) ?_
  rintro e w7 ⟨fv, E, rfl, hE, hfv, hfb, hx7⟩
  refine ⟨_, rfl, ?_⟩
  rw [Kn8.t5] at hE
  have hrv7 := own_ext hrv hx7 fun _ _ => id
  have hT7 := hT6.ext0 hx7
  refine asg rfl rfl <| L.nil ?_
  refine N.th ?_
  refine W.seq ?_
  have hEl := congrArg List.length hE
  simp only [List.length_map] at hEl
  obtain ⟨x, y, rfl⟩ := two_of (show E.length = 2 from hEl)
  simp only [Kn8.k2, List.map_cons, List.map_nil, fnd, List.cons.injEq, Prod.mk.injEq, and_true] at hE
  obtain ⟨⟨hx_1, hx_2, hx_3⟩, -⟩ := hE
  have hF : FilesAt w7 fv [x, y] := ⟨Row.own hfv, fun z hz => Row.own (hfb z hz)⟩
  obtain ⟨fa, fc, rfl, hfn, hfm⟩ := own_slice hfv
  rcases hF.row.form with ⟨-, h0, -⟩ | ⟨b, o, c, h0, -⟩
  · simp at h0
  cases h0
  obtain ⟨hc0, hc1, -⟩ := hF.cell (i := 0) (x := x) rfl
  rw [hx_1] at hc0
  rw [hx_2] at hc1
  refine W.reg <| mv rfl rfl <| cvtBS (a := [120]) rfl u_bytes u_u8 u_str rfl (Kn.here (Row.own hrv7)) <| eqlS (a := [120]) (b := [120]) rfl rfl rfl <| mv rfl rfl <| L.on rfl rfl rfl <| mv rfl rfl <| L.on rfl rfl rfl <| eqlI rfl rfl rfl <| pickT rfl rfl rfl <| mv rfl rfl <| L.on rfl rfl rfl <| mv rfl rfl <| L.on rfl rfl rfl <| lenV rfl u_files rfl <| L.on rfl rfl rfl <| eqlI rfl rfl rfl <| pickT rfl rfl rfl <| mv rfl rfl <| L.on rfl rfl rfl <| mv rfl rfl <| L.on rfl rfl rfl <| ixa rfl rfl u_files sz_File rfl (by omega) (by simp) <| L.on rfl rfl rfl <| fad rfl fl_File_0 rfl <| L.on rfl rfl rfl <| ld1 rfl ag_str rfl hc0 <| L.on rfl rfl rfl <| eqlS (a := [99]) (b := [99]) rfl rfl rfl <| pickT rfl rfl rfl <| mv rfl rfl <| L.on rfl rfl rfl <| mv rfl rfl <| L.on rfl rfl rfl <| ixa rfl rfl u_files sz_File rfl (by omega) (by simp) <| L.on rfl rfl rfl <| fad rfl fl_File_1 rfl <| L.on rfl rfl rfl <| ld1 rfl ag_bool rfl hc1 <| pickT rfl rfl rfl <| mv rfl rfl <| L.on rfl rfl rfl <| mv rfl rfl <| L.on rfl rfl rfl <| call (vs := [_, .string (S [99])]) rfl rfl ok_Exists (c_Exists [99] hT7) ?_
  rintro e w8 ⟨rfl, hx8⟩
  refine ⟨_, rfl, ?_⟩
  rw [Kn8.t6]
  have hT8 := hT7.ext0 hx8
  refine pickT rfl rfl rfl <| mv rfl rfl <| L.on rfl rfl rfl <| mv rfl rfl <| L.on rfl rfl rfl <| call (vs := [_, .string (S [97])]) rfl rfl ok_Exists (c_Exists [97] hT8) ?_
  rintro e w9 ⟨rfl, hx9⟩
  refine ⟨_, rfl, ?_⟩
  rw [Kn8.t7]
  have hT9 := hT8.ext0 hx9
  refine L.on rfl rfl rfl <| notB rfl rfl <| pickT rfl rfl rfl <| mv rfl rfl <| L.on rfl rfl rfl <| mv rfl rfl <| L.on rfl rfl rfl <| call (vs := [_]) rfl rfl ok_Size (c_Size hT9) ?_
  rintro e w10 ⟨rfl, rfl⟩
  refine ⟨_, rfl, ?_⟩
  rw [Kn8.t9]
  refine L.on rfl rfl rfl <| eqlI rfl rfl rfl <| pickT rfl rfl rfl <| asg rfl rfl <| L.nil ?_
  refine N.th ?_
  refine W.ret ?_
  refine N.ret1 rfl rfl ?_   -- RETURN
  exact ⟨rfl, hx05.trans (hx6.trans (hx7.trans (hx8.trans hx9)))⟩
end Go.Proofs.YtmdpmpdlkaogdaaGreatDoor
