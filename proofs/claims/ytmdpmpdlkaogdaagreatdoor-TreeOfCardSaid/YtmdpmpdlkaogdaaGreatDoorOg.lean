/- The walk of tree.Of. -/
import Derived.Test.YtmdpmpdlkaogdaaGreatDoorRf
import Derived.Test.YtmdpmpdlkaogdaaGreatDoorRy
import Derived.Test.YtmdpmpdlkaogdaaGreatDoorOp
namespace Go.Proofs.YtmdpmpdlkaogdaaGreatDoor
open Go Go.RowKit Vc

theorem ze_File : zeroB P tF = some (.agg #[.string (S []), .bool false, .slice none 0 0]) := by kernel_rfl
theorem ok_Of : FnOk P 46 := ⟨_, Tryz.func46, by kernel_rfl, by kernel_rfl⟩
/-- Each seen once. -/
def cnt (l : List Tr.Bytes) : AL := l.map fun k => (k, .int .i64 1)
theorem cnt_keys (l : List Tr.Bytes) : (cnt l).map (·.1) = l := by simp [cnt, Function.comp_def]
theorem cnt_none {l : List Tr.Bytes} {k : Tr.Bytes} (h : k ∉ l) : aget (cnt l) k = none := (Tr.get_none (α := Value)).2 (by rw [cnt_keys]; exact h)
theorem cnt_some {l : List Tr.Bytes} {k : Tr.Bytes} (h : k ∈ l) : aget (cnt l) k = some (.int .i64 1) := by
  cases hg : aget (cnt l) k with
  | none => exact absurd h (by have := (Tr.get_none (α := Value)).1 hg; rwa [cnt_keys] at this)
  | some v =>
    obtain ⟨j, -, e⟩ := List.mem_map.1 (Tr.get_mem (α := Value) hg)
    cases e; rfl
theorem cnt_new {l : List Tr.Bytes} {k : Tr.Bytes} (h : k ∉ l) : aset (cnt l) k (.int .i64 1) = cnt (l ++ [k]) := by
  have := Tr.set_new (α := Value) (.int .i64 1) (cnt_none h)
  simp only [cnt, List.map_append, List.map_cons, List.map_nil]
  exact this
theorem aget_aset (al : AL) (k : Tr.Bytes) (v : Value) : aget (aset al k v) k = some v := by
  have := Tr.get_set (α := Value) al k k v
  rw [if_pos rfl] at this
  exact this
theorem FilesA.cells {w : World} {b o n c i : Nat} {E : List FE} {x : FE} (h : FilesA w (.slice (some ⟨b, o, none⟩) n c) E) (hi : E[i]? = some x) : ∀ j u, (fcells x)[j]? = some u → w.cell? ⟨b, o + i * 3 + j, none⟩ = some u := by
  obtain ⟨h0, h1, h2⟩ := h.cell hi
  rintro (_ | _ | _ | j) u hj
  · cases hj; exact h0
  · cases hj; exact h1
  · cases hj; exact h2
  · cases hj
theorem drop_fm {E : List FE} {i : Nat} {x : FE} (h : E[i]? = some x) : fm (E.drop i) = (x.1, (x.2.1, x.2.2.2)) :: fm (E.drop (i + 1)) := by
  obtain ⟨hi, rfl⟩ := List.getElem?_eq_some_iff.1 h
  rw [List.drop_eq_getElem_cons hi]; rfl

/-- What Of answers. -/
def OfR (w : World) (E : List FE) (e : Ending) (w' : World) : Prop := Ext none_ w w' ∧ ((Tr.of (fm E)).1 = none → e = .returned (.tuple #[.pointer none, .int .i64 (Tr.of (fm E)).2])) ∧
  ∀ m, (Tr.of (fm E)).1 = some m → Tr.Ok m ∧ ∃ bt bm, e = .returned (.tuple #[pT bt, .int .i64 0]) ∧ w.heap.size ≤ bt ∧ w.heap.size ≤ bm ∧ TreeAt none_ w' bt bm m (Tr.size m)
theorem OfR.fail {w w' : World} {E : List FE} {c : Int} (hx : Ext none_ w w') (h : Tr.of (fm E) = (none, c)) : OfR w E (.returned (.tuple #[.pointer none, .int .i64 c])) w' := by
  refine ⟨hx, fun _ => by rw [h], fun m hm => ?_⟩
  rw [h] at hm; cases hm

theorem c_Of {w : World} {v : Value} {E : List FE} (hv : FilesA w v E) (hl : ∀ x ∈ E, x.2.2.2.length ≤ 100000000) : Calls P 46 #[v] w (OfR w E) := by
  obtain ⟨a, c, rfl, hn, hmx, -, -⟩ := id hv.row
  simp only [maxLen] at hmx
  refine enter (l := [_]) (n := 68) Tryz.func46 rfl rfl rfl ?_
  refine W.seq ?_
  refine W.reg <| asg rfl rfl <| asg rfl rfl <| L.nil ?_
  refine N.th ?_
  refine W.seq ?_
  refine W.reg <| call (vs := []) rfl rfl ok_New (c_New w) ?_
  rintro e w1 ⟨bt, bm, rfl, hbt, hbm, hT1, hx1⟩
  refine ⟨_, rfl, ?_⟩
  refine asg rfl rfl <| L.nil ?_
  refine N.th ?_
  have hs1 := hx1.size
  have hTlt := hT1.lt
  have hTwo : ∀ i, i < w.heap.size → Two bt bm i → none_ i := by rintro i hi (e | e) <;> omega
  refine W.seq ?_
  refine W.reg <| mkm rfl <| asg rfl rfl <| L.nil ?_
  refine N.th ?_
  obtain ⟨w2, hw2⟩ : ∃ w2, w2 = w1.alloc (.map #[] 0) := ⟨_, rfl⟩
  obtain ⟨r, hr⟩ : ∃ r, r = w1.heap.size := ⟨_, rfl⟩
  have hM2 : MapAt w2 r [] := by rw [hw2, hr]; exact MapAt.new w1
  have hx12 : Ext none_ w1 w2 := by rw [hw2]; exact Ext.alloc _ _ _
  rw [← hw2, ← hr]
  refine W.seq ?_
  refine W.seq ?_
  refine W.reg <| mv rfl rfl <| lenV rfl u_files rfl <| mv rfl rfl <| L.nil ?_
  refine N.th ?_
  refine W.block ?_
  refine W.loop (X := Nat × Tr.T × List Tr.Bytes) (fun x => [(15, .int .i64 x.1), (13, .slice a E.length c), (14, .int .i64 E.length), (4, pT bt), (5, .map (some r))])
    (fun x w' => x.1 ≤ E.length ∧ Tr.Ok x.2.1 ∧ TreeAt none_ w' bt bm x.2.1 (Tr.size x.2.1) ∧ MapAt w' r (cnt x.2.2) ∧ Ext none_ w w' ∧ Tr.ofF x.2.1 x.2.2 (fm (E.drop x.1)) = Tr.of (fm E)) (fun x => E.length - x.1) (0, [], []) ⟨rfl, rfl, rfl, rfl, rfl, trivial⟩
    ⟨by omega, Tr.Ok.nil, hT1.ext0 hx12, hM2, hx1.trans hx12, rfl⟩ ?_
  rintro ⟨i, m, seen⟩ w4 ⟨hi, hok, hT4, hM4, hx4, hof⟩
  dsimp only at hi hok hT4 hM4 hof ⊢
  refine W.seq ?_
  refine W.reg <| lssI rfl rfl rfl <| L.nil ?_
  refine N.th ?_
  refine W.seq ?_
  refine W.cond rfl (fun h => ?_) (fun h => ?_)
  · refine W.skip ?_
    refine N.th ?_
    have hi1 : i < E.length := by simp at h; omega
    obtain ⟨x, hxe⟩ : ∃ x, E[i]? = some x := ⟨_, List.getElem?_eq_getElem hi1⟩
    have hxm := List.mem_of_getElem? hxe
    obtain ⟨b, o, c', hv', -, -⟩ := hv.plain hxm
    cases hv'
    have hxl := hl x hxm
    rw [drop_fm hxe] at hof
    obtain ⟨va, vc, hbv, -⟩ := hv.bytes x hxm
    refine W.seqM (fun E' w' => E' = [(15, .int .i64 i), (13, .slice (some ⟨b, o, none⟩) E.length c), (14, .int .i64 E.length), (4, pT bt), (5, .map (some r))] ∧ ∃ m' seen', Tr.Ok m' ∧ TreeAt none_ w' bt bm m' (Tr.size m') ∧ MapAt w' r (cnt seen') ∧ Ext none_ w w' ∧ Tr.ofF m' seen' (fm (E.drop (i + 1))) = Tr.of (fm E)) ?_ ?_
    · refine W.block ?_
      refine W.seq ?_
      refine W.reg <| ixa rfl rfl u_files sz_File rfl (by omega) (by omega) <| ldk (cs := fcells x) rfl ag_File sz_File rfl rfl (fun j u hj => (hv.ext0 hx4).cells hxe j u hj) <| new ze_File rfl <|
        stR (cells := (fcells x).toArray) rfl rfl sz_File (by rw [show fcells x = [.string (S x.1), .bool x.2.1, x.2.2.1] from rfl, hbv]; rfl) (heap_new _ _) rfl <| L.nil ?_
      refine N.th ?_
      obtain ⟨w5, hw5⟩ : ∃ w5, w5 = (w4.alloc (.cells (Value.cells (.agg #[.string (S []), .bool false, .slice none 0 0])) tF)).setRow w4.heap.size (fcells x).toArray := ⟨_, rfl⟩
      obtain ⟨f, hf⟩ : ∃ f, f = w4.heap.size := ⟨_, rfl⟩
      have hx45 : Ext none_ w4 w5 := by rw [hw5]; exact (Ext.alloc none_ _ _).trans' (Ext.setRow (S := fun k => k = w4.heap.size) _ (fun _ => rfl) _) (fun i hi e => by omega)
      have hf5 : w5.heap[f]? = some (.cells (fcells x).toArray tF (0, 0)) := by rw [hw5, hf]; exact setRow_heap _ _ _ _ _ _ (heap_new _ _)
      rw [show (w4.alloc (.cells (Value.cells (.agg #[.string (S []), .bool false, .slice none 0 0])) tF)).setRow w4.heap.size (fcells x).toArray = w5 from hw5.symm, ← hf]
      refine W.seq ?_
      refine W.reg <| fad rfl fl_File_0 rfl <| ld1 rfl ag_str rfl (cell_of hf5 rfl) <| call (vs := [_]) rfl rfl ok_Clean (c_Clean x.1 w5) ?_
      rintro e w6 ⟨rfl, hx6⟩
      refine ⟨_, rfl, ?_⟩
      refine mv rfl rfl <| ext rfl rfl rfl <| ext rfl rfl rfl <| asg rfl rfl <| asg rfl rfl <| L.nil ?_
      refine N.th ?_
      obtain ⟨q, ec, hq⟩ : ∃ q ec, Sp.clean x.1 = (q, ec) := ⟨_, _, rfl⟩
      rw [hq]
      dsimp only
      have hx46 := hx45.trans hx6
      refine W.seq ?_
      refine W.seq ?_
      refine W.reg <| mv rfl rfl <| neqI rfl rfl rfl <| L.nil ?_
      refine N.th ?_
      refine W.cond rfl (fun h => ?_) (fun h => ?_)
      · refine W.seq ?_
        refine W.reg <| mv rfl rfl <| asg rfl rfl <| asg rfl rfl <| L.nil ?_
        refine N.th ?_
        refine W.ret ?_
        refine N.rth <| N.rinb <| N.rth <| N.rth <| N.rinb <| N.rth ?_
        refine N.ret2 rfl rfl rfl ?_   -- RETURN
        have h0 : ec ≠ 0 := by simpa using h
        refine OfR.fail (hx4.trans hx46) ?_
        rw [← hof]
        unfold Tr.ofF
        rw [hq, if_pos h0]
      have h0 : ec = 0 := by simpa using h
      subst h0
      refine W.skip ?_
      refine N.th ?_
      have hT6 := hT4.ext0 hx46
      refine W.seq ?_
      refine W.reg <| mv rfl rfl <| mv rfl rfl <| call (vs := [_, _]) rfl rfl ok_at (c_at q hT6) ?_
      rintro e w7 ⟨nv, rfl, hnv, hx7⟩
      refine ⟨_, rfl, ?_⟩
      refine asg rfl rfl <| L.nil ?_
      refine N.th ?_
      have hx47 := hx46.trans hx7
      have hM7 := hM4.ext hx47 id
      have hT7 := hT4.ext0 hx47
      have hf7 := (hx6.trans hx7).obj hf5 id
      refine W.seq ?_
      refine W.seq ?_
      have kdr : ∀ {wz : World}, MapAt wz r (cnt seen) → Kd wz (fun k => k = r) := fun hMz k hk ce e fr he => by
        subst hk
        obtain ⟨es, ck, h1, -⟩ := hMz
        rw [h1] at he; cases he
      have hrt : ¬ r = bt := fun e => by
        subst e
        obtain ⟨es, ck, h1, -⟩ := hM7
        rw [hT7.cell] at h1; cases h1
      have hrm : ¬ r = bm := by omega
      have hrf : f ≠ r := fun e => by
        subst e
        obtain ⟨es, ck, h1, -⟩ := hM7
        rw [hf7] at h1; cases h1
      by_cases hseen : q ∈ seen
      · refine W.reg <| mv rfl rfl <| mv rfl rfl <| lku rfl rfl u_mInt u_str ze_int rfl hM7 ?_
        rw [cnt_some hseen]
        refine addI (c := 2) rfl rfl rfl rfl <| mup rfl rfl rfl u_mInt u_str hM7 fun w8 hM8 hx8 _ => ?_
        refine L.nil ?_
        refine N.th ?_
        refine W.seqM (fun E' w' => getE E' 52 = some (.bool true) ∧ w' = w8) ?_ ?_
        · refine W.reg <| mv rfl rfl <| mv rfl rfl <| lku rfl rfl u_mInt u_str ze_int rfl hM8 ?_
          rw [aget_aset]
          refine gtrI rfl rfl rfl ?_
          refine Vc.bt rfl ?_
          (repeat (first | refine mv rfl rfl ?_ | refine asg rfl rfl ?_ | refine L.off rfl rfl rfl rfl rfl ?_ | refine L.offU rfl rfl rfl rfl ?_ | refine L.on rfl rfl rfl ?_ | refine pickT rfl rfl rfl ?_ | refine pickF rfl rfl rfl ?_ | refine ext rfl rfl rfl ?_ | refine nilc rfl rfl ?_ | refine lenV (t := 46) rfl u_strs rfl ?_ | refine lenV (t := 25) rfl u_bytes rfl ?_ | refine lenV (t := 22) rfl u_files rfl ?_ | refine lenS (t := 9) rfl u_str rfl ?_ | refine eqlI rfl rfl rfl ?_ | refine neqI rfl rfl rfl ?_ | refine lssI rfl rfl rfl ?_ | refine leqI rfl rfl rfl ?_ | refine gtrI rfl rfl rfl ?_ | refine geqI rfl rfl rfl ?_))
          exact L.nil <| N.th (N.meet [(52, .bool true)] ⟨rfl, trivial⟩ ⟨rfl, rfl⟩)
        rintro E' w9 ⟨he, rfl⟩
        refine W.condT he ?_
        refine W.seq ?_
        refine W.reg <| asg rfl rfl <| asg rfl rfl <| L.nil ?_
        refine N.th ?_
        refine W.ret ?_
        refine N.rth <| N.rinb <| N.rth <| N.rth <| N.rinb <| N.rth ?_
        refine N.ret2 rfl rfl rfl ?_   -- RETURN
        refine OfR.fail ((hx4.trans hx47).trans' hx8 fun i hi e => by have := hx1.size; omega) ?_
        rw [← hof]
        unfold Tr.ofF
        rw [hq]
        simp [hseen]
      · refine W.reg <| mv rfl rfl <| mv rfl rfl <| lku rfl rfl u_mInt u_str ze_int rfl hM7 ?_
        rw [cnt_none hseen]
        refine addI (c := 1) rfl rfl rfl rfl <| mup rfl rfl rfl u_mInt u_str hM7 fun w8 hM8 hx8 _ => ?_
        rw [cnt_new hseen] at hM8
        refine L.nil ?_
        refine N.th ?_
        have hT8 : TreeAt none_ w8 bt bm m (Tr.size m) := hT7.ext hx8 (kdr hM7) (fun e => hrt e.symm) (fun e => hrm e.symm)
        have hf8 := hx8.obj hf7 hrf
        have hx08 : Ext none_ w w8 := (hx4.trans hx47).trans' hx8 fun i hi e => by have := hx1.size; omega
        have hnv8 : PtrAt none_ w8 nv (Tr.at_ m q) := hnv.ext hx8 (kdr hM7)
        refine W.seqM (fun E' w' => E' = [(52, .bool (x.2.1 && Tr.isDir (Tr.at_ m q))), (7, .pointer (some ⟨f, 0, none⟩)), (8, .string (S q)), (15, .int .i64 i), (13, .slice (some ⟨b, o, none⟩) E.length c), (14, .int .i64 E.length), (4, pT bt), (5, .map (some r))] ∧ w' = w8) ?_ ?_
        · refine W.reg <| mv rfl rfl <| mv rfl rfl <| lku rfl rfl u_mInt u_str ze_int rfl hM8 ?_
          rw [cnt_some (by simp : q ∈ seen ++ [q])]
          refine gtrI rfl rfl rfl ?_
          refine Vc.bf rfl ?_
          (repeat (first | refine mv rfl rfl ?_ | refine asg rfl rfl ?_ | refine L.off rfl rfl rfl rfl rfl ?_ | refine L.offU rfl rfl rfl rfl ?_ | refine L.on rfl rfl rfl ?_ | refine pickT rfl rfl rfl ?_ | refine pickF rfl rfl rfl ?_ | refine ext rfl rfl rfl ?_ | refine nilc rfl rfl ?_ | refine lenV (t := 46) rfl u_strs rfl ?_ | refine lenV (t := 25) rfl u_bytes rfl ?_ | refine lenV (t := 22) rfl u_files rfl ?_ | refine lenS (t := 9) rfl u_str rfl ?_ | refine eqlI rfl rfl rfl ?_ | refine neqI rfl rfl rfl ?_ | refine lssI rfl rfl rfl ?_ | refine leqI rfl rfl rfl ?_ | refine gtrI rfl rfl rfl ?_ | refine geqI rfl rfl rfl ?_))
          refine fad rfl fl_File_1 rfl <| L.on rfl rfl rfl <| ld1 (v := .bool x.2.1) rfl ag_bool rfl (cell_of hf8 rfl) ?_
          cases hd : x.2.1 with
          | false =>
            (repeat (first | refine mv rfl rfl ?_ | refine asg rfl rfl ?_ | refine L.off rfl rfl rfl rfl rfl ?_ | refine L.offU rfl rfl rfl rfl ?_ | refine L.on rfl rfl rfl ?_ | refine pickT rfl rfl rfl ?_ | refine pickF rfl rfl rfl ?_ | refine ext rfl rfl rfl ?_ | refine nilc rfl rfl ?_ | refine lenV (t := 46) rfl u_strs rfl ?_ | refine lenV (t := 25) rfl u_bytes rfl ?_ | refine lenV (t := 22) rfl u_files rfl ?_ | refine lenS (t := 9) rfl u_str rfl ?_ | refine eqlI rfl rfl rfl ?_ | refine neqI rfl rfl rfl ?_ | refine lssI rfl rfl rfl ?_ | refine leqI rfl rfl rfl ?_ | refine gtrI rfl rfl rfl ?_ | refine geqI rfl rfl rfl ?_))
            exact L.nil <| N.th (N.meet [(52, .bool false), (7, _), (8, _), (15, _), (13, _), (14, _), (4, _), (5, _)] ⟨rfl, rfl, rfl, rfl, rfl, rfl, rfl, rfl, trivial⟩ ⟨rfl, rfl⟩)
          | true =>
            (repeat (first | refine mv rfl rfl ?_ | refine asg rfl rfl ?_ | refine L.off rfl rfl rfl rfl rfl ?_ | refine L.offU rfl rfl rfl rfl ?_ | refine L.on rfl rfl rfl ?_ | refine pickT rfl rfl rfl ?_ | refine pickF rfl rfl rfl ?_ | refine ext rfl rfl rfl ?_ | refine nilc rfl rfl ?_ | refine lenV (t := 46) rfl u_strs rfl ?_ | refine lenV (t := 25) rfl u_bytes rfl ?_ | refine lenV (t := 22) rfl u_files rfl ?_ | refine lenS (t := 9) rfl u_str rfl ?_ | refine eqlI rfl rfl rfl ?_ | refine neqI rfl rfl rfl ?_ | refine lssI rfl rfl rfl ?_ | refine leqI rfl rfl rfl ?_ | refine gtrI rfl rfl rfl ?_ | refine geqI rfl rfl rfl ?_))
            cases hox : Tr.at_ m q with
            | none =>
              rw [hox] at hnv8
              cases hnv8
              refine neqPN rfl u_pNode rfl ?_
              refine Vc.bf rfl ?_
              (repeat (first | refine mv rfl rfl ?_ | refine asg rfl rfl ?_ | refine L.off rfl rfl rfl rfl rfl ?_ | refine L.offU rfl rfl rfl rfl ?_ | refine L.on rfl rfl rfl ?_ | refine pickT rfl rfl rfl ?_ | refine pickF rfl rfl rfl ?_ | refine ext rfl rfl rfl ?_ | refine nilc rfl rfl ?_ | refine lenV (t := 46) rfl u_strs rfl ?_ | refine lenV (t := 25) rfl u_bytes rfl ?_ | refine lenV (t := 22) rfl u_files rfl ?_ | refine lenS (t := 9) rfl u_str rfl ?_ | refine eqlI rfl rfl rfl ?_ | refine neqI rfl rfl rfl ?_ | refine lssI rfl rfl rfl ?_ | refine leqI rfl rfl rfl ?_ | refine gtrI rfl rfl rfl ?_ | refine geqI rfl rfl rfl ?_))
              exact L.nil <| N.th (N.meet [(52, .bool false), (7, _), (8, _), (15, _), (13, _), (14, _), (4, _), (5, _)] ⟨rfl, rfl, rfl, rfl, rfl, rfl, rfl, rfl, trivial⟩ ⟨rfl, rfl⟩)
            | some y =>
              rw [hox] at hnv8
              obtain ⟨nb, sl, rfl, hnb, hav, hrow⟩ := hnv8
              refine neqPN rfl u_pNode rfl ?_
              refine Vc.bt rfl ?_
              (repeat (first | refine mv rfl rfl ?_ | refine asg rfl rfl ?_ | refine L.off rfl rfl rfl rfl rfl ?_ | refine L.offU rfl rfl rfl rfl ?_ | refine L.on rfl rfl rfl ?_ | refine pickT rfl rfl rfl ?_ | refine pickF rfl rfl rfl ?_ | refine ext rfl rfl rfl ?_ | refine nilc rfl rfl ?_ | refine lenV (t := 46) rfl u_strs rfl ?_ | refine lenV (t := 25) rfl u_bytes rfl ?_ | refine lenV (t := 22) rfl u_files rfl ?_ | refine lenS (t := 9) rfl u_str rfl ?_ | refine eqlI rfl rfl rfl ?_ | refine neqI rfl rfl rfl ?_ | refine lssI rfl rfl rfl ?_ | refine leqI rfl rfl rfl ?_ | refine gtrI rfl rfl rfl ?_ | refine geqI rfl rfl rfl ?_))
              refine fad rfl fl_Node_0 rfl <| L.on rfl rfl rfl <| ld1 (v := .bool y.1) rfl ag_bool rfl (cell_of hnb rfl) ?_
              (repeat (first | refine mv rfl rfl ?_ | refine asg rfl rfl ?_ | refine L.off rfl rfl rfl rfl rfl ?_ | refine L.offU rfl rfl rfl rfl ?_ | refine L.on rfl rfl rfl ?_ | refine pickT rfl rfl rfl ?_ | refine pickF rfl rfl rfl ?_ | refine ext rfl rfl rfl ?_ | refine nilc rfl rfl ?_ | refine lenV (t := 46) rfl u_strs rfl ?_ | refine lenV (t := 25) rfl u_bytes rfl ?_ | refine lenV (t := 22) rfl u_files rfl ?_ | refine lenS (t := 9) rfl u_str rfl ?_ | refine eqlI rfl rfl rfl ?_ | refine neqI rfl rfl rfl ?_ | refine lssI rfl rfl rfl ?_ | refine leqI rfl rfl rfl ?_ | refine gtrI rfl rfl rfl ?_ | refine geqI rfl rfl rfl ?_))
              exact L.nil <| N.th (N.meet [(52, .bool y.1), (7, _), (8, _), (15, _), (13, _), (14, _), (4, _), (5, _)] ⟨rfl, rfl, rfl, rfl, rfl, rfl, rfl, rfl, trivial⟩ ⟨rfl, rfl⟩)
        rintro E' w9 ⟨rfl, rfl⟩
        refine W.cond rfl (fun h => ?_) (fun h => ?_)
        · refine W.seq ?_
          refine W.reg <| asg rfl rfl <| asg rfl rfl <| L.nil ?_
          refine N.th ?_
          refine W.ret ?_
          refine N.rth <| N.rinb <| N.rth <| N.rth <| N.rinb <| N.rth ?_
          refine N.ret2 rfl rfl rfl ?_   -- RETURN
          refine OfR.fail hx08 ?_
          rw [← hof]
          unfold Tr.ofF
          rw [hq]
          dsimp only
          rw [h]
          simp
        refine W.skip ?_
        refine N.th ?_
        have hof' : (if (Tr.step m q (x.2.1, x.2.2.2)).2 ≠ 0 then (none, (Tr.step m q (x.2.1, x.2.2.2)).2) else Tr.ofF (Tr.step m q (x.2.1, x.2.2.2)).1 (seen ++ [q]) (fm (E.drop (i + 1)))) = Tr.of (fm E) := by
          rw [← hof]
          conv => rhs; unfold Tr.ofF
          rw [hq]
          dsimp only
          rw [h]
          simp [hseen]
        have hMT : ∀ {wz}, Ext (Two bt bm) w9 wz → MapAt wz r (cnt (seen ++ [q])) := fun hz => hM8.ext hz (fun e => e.elim hrt hrm)
        refine W.seqM (fun E' w' => E' = [(9, .int .i64 (Tr.step m q (x.2.1, x.2.2.2)).2), (15, .int .i64 i), (13, .slice (some ⟨b, o, none⟩) E.length c), (14, .int .i64 E.length), (4, pT bt), (5, .map (some r))] ∧ TreeAt none_ w' bt bm (Tr.step m q (x.2.1, x.2.2.2)).1 (Tr.size (Tr.step m q (x.2.1, x.2.2.2)).1) ∧ MapAt w' r (cnt (seen ++ [q])) ∧ Ext none_ w w') ?_ ?_   -- CUT
        · refine W.seq ?_
          refine W.reg <| fad rfl fl_File_1 rfl <| ld1 (v := .bool x.2.1) rfl ag_bool rfl (cell_of hf8 rfl) <| L.nil ?_
          refine N.th ?_
          have hT9 : Tree none_ w9 bt bm m := ⟨hT8, hok.len, hok.bytes⟩
          cases hd : x.2.1 with
          | true =>
            refine W.condT rfl ?_
            refine W.reg <| mv rfl rfl <| mv rfl rfl <| call (vs := [_, _]) rfl rfl ok_Mkdir (c_Mkdir q hT9) ?_
            rintro e w10 ⟨rfl, hT10, hx10⟩
            refine ⟨_, rfl, ?_⟩
            refine asg rfl rfl <| L.nil ?_
            exact N.th (N.meet [(9, _), (15, _), (13, _), (14, _), (4, _), (5, _)] ⟨rfl, rfl, rfl, rfl, rfl, rfl, trivial⟩ ⟨rfl, hT10, hMT hx10, hx08.trans' hx10 hTwo⟩)   -- MEET
          | false =>
            refine W.condF rfl ?_
            refine W.reg <| mv rfl rfl <| mv rfl rfl <| fad rfl fl_File_2 rfl <| ld1 (v := x.2.2.1) rfl ag_bytes rfl (cell_of hf8 rfl) <| call (vs := [_, _, _]) rfl rfl ok_Write (c_Write q hT9 ((hv.ext0 hx08).bytes x hxm) hxl) ?_
            rintro e w10 ⟨rfl, hT10, hx10⟩
            refine ⟨_, rfl, ?_⟩
            refine asg rfl rfl <| L.nil ?_
            exact N.th (N.meet [(9, _), (15, _), (13, _), (14, _), (4, _), (5, _)] ⟨rfl, rfl, rfl, rfl, rfl, rfl, trivial⟩ ⟨rfl, hT10, hMT hx10, hx08.trans' hx10 hTwo⟩)   -- MEET
        rintro E' w10 ⟨rfl, hT10, hM10, hx10⟩
        refine W.seq ?_
        refine W.reg <| mv rfl rfl <| neqI rfl rfl rfl <| L.nil ?_
        refine N.th ?_
        refine W.cond rfl (fun h => ?_) (fun h => ?_)
        · refine W.seq ?_
          refine W.reg <| mv rfl rfl <| asg rfl rfl <| asg rfl rfl <| L.nil ?_
          refine N.th ?_
          refine W.ret ?_
          refine N.rinb <| N.rth <| N.rth <| N.rinb <| N.rth ?_
          refine N.ret2 rfl rfl rfl ?_   -- RETURN
          have h1 : (Tr.step m q (x.2.1, x.2.2.2)).2 ≠ 0 := by simpa using h
          refine OfR.fail hx10 ?_
          rw [← hof', if_pos h1]
        · refine W.skip ?_
          refine N.inb ?_
          have h1 : ¬ (Tr.step m q (x.2.1, x.2.2.2)).2 ≠ 0 := by simpa using h
          rw [if_neg h1] at hof'
          exact N.th (N.meet [(15, _), (13, _), (14, _), (4, _), (5, _)] ⟨rfl, rfl, rfl, rfl, rfl, trivial⟩ ⟨rfl, _, _, hok.step _ _, hT10, hM10, hx10, hof'⟩)   -- MEET
    rintro E' w5 ⟨rfl, m', seen', hok', hT5, hM5, hx5, hof5⟩
    refine W.reg <| addI (c := ((i + 1 : Nat) : Int)) rfl rfl rfl (by rw [w64 (by omega) (by omega)]; simp) <| mv rfl rfl <| L.nil ?_
    exact N.th (N.round (x := (i + 1, m', seen')) ⟨rfl, rfl, rfl, rfl, rfl, trivial⟩ ⟨by dsimp only; omega, hok', hT5, hM5, hx5, hof5⟩ (by dsimp only; omega))   -- ROUND
  · refine W.exit ?_
    refine N.xth ?_
    refine N.xth ?_
    refine N.xeq ?_
    refine N.th ?_
    refine W.seq ?_
    refine W.reg <| mv rfl rfl <| asg rfl rfl <| asg rfl rfl <| L.nil ?_
    refine N.th ?_
    refine W.ret ?_
    refine N.ret2 rfl rfl rfl ?_   -- RETURN
    have hi1 : i = E.length := by simp at h; omega
    rw [hi1, List.drop_length] at hof
    have hof2 : Tr.of (fm E) = (some m, 0) := hof.symm
    refine ⟨hx4, fun h => ?_, fun m' hm' => ?_⟩
    · rw [hof2] at h; cases h
    · rw [hof2] at hm'
      cases hm'
      exact ⟨hok, bt, bm, rfl, hbt, hbm, hT4⟩
end Go.Proofs.YtmdpmpdlkaogdaaGreatDoor
