/- Walks: the document's Remove, copied. -/
import Derived.Test.YtmdpmpdlkaogdaaGreatDoorRy
import Derived.Test.YtmdpmpdlkaogdaaGreatDoorLb
namespace Go.Proofs.YtmdpmpdlkaogdaaGreatDoor
open Go Go.RowKit Vc

theorem ze_F : zeroB P tF = some (.agg #[.string (S []), .bool false, .slice none 0 0]) := by kernel_rfl
theorem ok_Rcopied : FnOk P 104 := ⟨_, Tryz.func104, by kernel_rfl, by kernel_rfl⟩

theorem fm_cut {E : List FE} {m : Tr.T} (p : Tr.Bytes) (hE : fm E = Tr.files m) (hn : (m.map (·.1)).Nodup) : fm (E.filter fun x => !Sp.within x.1 p) = Tr.files (Tr.drop m (Tr.below m p)) := by
  have h1 : fm (E.filter fun x => !Sp.within x.1 p) = (Tr.files m).filter fun x => !Sp.within x.1 p := by
    rw [← hE]
    unfold fm
    rw [List.filter_map]; rfl
  rw [h1]
  refine Tr.files_eq_of (Tr.filter_sorted (Tr.files_sorted hn) _) (Tr.nodup_drop _ hn) fun k => ?_
  rw [Tr.get_filter (Tr.files_nodup hn) (fun k => !Sp.within k p), Tr.files_get hn, Tr.get_cut]
  cases Sp.within k p <;> simp
theorem Sp.within_len {k p : Sp.Bytes} (h : Sp.within k p = true) : p.length ≤ k.length := by
  by_cases hp : p = []
  · rw [hp]; simp
  · obtain ⟨r, rfl, -⟩ := (Sp.within_iff hp).1 h
    simp
theorem RTAt.get {w : World} {rt b o n c i : Nat} {E : List FE} {x : FE} (h : RTAt w rt (.slice (some ⟨b, o, none⟩) n c) E) (hi : E[i]? = some x) : w.cell? ⟨b, o + i * 3 + 0, none⟩ = some (.string (S x.1)) ∧ w.cell? ⟨b, o + i * 3 + 1, none⟩ = some (.bool x.2.1) ∧ w.cell? ⟨b, o + i * 3 + 2, none⟩ = some x.2.2.1 := h.files.cell hi

theorem c_RRemove {w : World} {rt : Nat} {lv : Value} {E : List FE} {m : Tr.T} (s : Tr.Bytes) (h : RTAt w rt lv E) (hE : fm E = Tr.files m) (hok : Tr.Ok m) :
    Calls P 50 #[pT rt, .string (S s)] w (DoesR rt w (Tr.remove m s)) := by
  have hEl := len_of hE
  have hml := hok.len
  refine enter (l := [_, _]) (n := 60) Tryz.func50 rfl rfl rfl ?_
  refine W.seq ?_
  refine W.reg <| asg rfl rfl <| L.nil ?_
  refine N.th ?_
  refine W.seq ?_
  refine W.reg <| mv rfl rfl <| call (vs := [_]) rfl rfl ok_RClean (c_RClean s w) ?_
  rintro e w1 ⟨rfl, hx1⟩
  refine ⟨_, rfl, ?_⟩
  refine mv rfl rfl <| ext rfl rfl rfl <| ext rfl rfl rfl <| asg rfl rfl <| asg rfl rfl <| L.nil ?_
  refine N.th ?_
  have hR1 := h.ext0 hx1
  refine W.seq ?_
  refine W.block ?_
  refine W.seq ?_
  refine W.reg <| mv rfl rfl <| neqI rfl rfl rfl <| asg rfl rfl <| L.nil ?_
  refine N.th ?_
  refine W.cond rfl (fun h => ?_) (fun h => ?_)
  · refine W.seq ?_
    refine W.reg <| mv rfl rfl <| asg rfl rfl <| L.nil ?_
    refine N.th ?_
    refine W.ret ?_
    refine N.rinb <| N.rth ?_
    refine N.ret1 rfl rfl ?_   -- RETURN
    have h0 : (Sp.clean s).2 ≠ 0 := by simpa using h
    unfold Tr.remove; rw [if_pos h0]
    exact ⟨rfl, ⟨_, _, hR1, hE⟩, hx1.none⟩
  have h0 : ¬ (Sp.clean s).2 ≠ 0 := by simpa using h
  refine W.seq ?_
  refine W.reg <| mv rfl rfl <| eqlS (a := (Sp.clean s).1) (b := []) rfl rfl rfl <| asg rfl rfl <| L.nil ?_
  refine N.th ?_
  refine W.cond rfl (fun h => ?_) (fun h => ?_)
  · refine W.seq ?_
    refine W.reg <| asg rfl rfl <| L.nil ?_
    refine N.th ?_
    refine W.ret ?_
    refine N.rinb <| N.rth ?_
    refine N.ret1 rfl rfl ?_   -- RETURN
    have hp : (Sp.clean s).1 = [] := by simpa using h
    unfold Tr.remove; rw [if_neg h0]; dsimp only; rw [if_pos hp]
    exact ⟨rfl, ⟨_, _, hR1, hE⟩, hx1.none⟩
  have hp : (Sp.clean s).1 ≠ [] := by simpa using h
  refine W.seq ?_
  refine W.reg <| mv rfl rfl <| mv rfl rfl <| call (vs := [_, _]) rfl rfl ok_Rat (c_Rat (Sp.clean s).1 hR1 (by omega)) ?_
  rintro e w1' ⟨k, rfl, hk, rfl⟩
  refine ⟨_, rfl, ?_⟩
  refine lssI rfl rfl rfl <| asg rfl rfl <| L.nil ?_
  refine N.th ?_
  rcases hk.of hE hok.nodup with ⟨rfl, hg⟩ | ⟨i0, x0, rfl, hxe0, hg⟩
  · refine W.condT rfl ?_
    refine W.seq ?_
    refine W.reg <| asg rfl rfl <| L.nil ?_
    refine N.th ?_
    refine W.ret ?_
    refine N.rinb <| N.rth ?_
    refine N.ret1 rfl rfl ?_   -- RETURN
    unfold Tr.remove; rw [if_neg h0]; dsimp only; rw [if_neg hp, if_pos (by rw [hg]; rfl)]
    exact ⟨rfl, ⟨_, _, hR1, hE⟩, hx1.none⟩
  refine W.cond rfl (fun h => ?_) (fun h => ?_)
  · have := of_decide_eq_true h; omega
  refine W.skip ?_
  refine N.inb ?_
  refine N.th ?_
  have hres : Tr.remove m s = (Tr.drop m (Tr.below m (Sp.clean s).1), 0) := by
    unfold Tr.remove; rw [if_neg h0]; dsimp only; rw [if_neg hp, if_neg (by rw [hg]; simp)]
  rw [hres]
  obtain ⟨a, c, rfl, -⟩ := hR1.slice
  refine W.seq ?_
  refine W.reg <| asg rfl rfl <| L.nil ?_
  refine N.th ?_
  refine W.seq ?_
  refine W.seq ?_
  refine W.reg <| asg rfl rfl <| L.nil ?_
  refine N.th ?_
  refine W.block ?_
  obtain ⟨p, hpp⟩ : ∃ p, p = (Sp.clean s).1 := ⟨_, rfl⟩
  rw [← hpp]
  refine W.loop (X := Nat × List FE × Value) (fun x => [(8, .int .i64 x.1), (7, x.2.2), (5, .string (S p)), (0, pT rt)])
    (fun x w' => x.1 ≤ E.length ∧ x.2.1 = (E.take x.1).filter (fun x => !Sp.within x.1 p) ∧ w'.ownsRow w1.heap.size tF 3 x.2.2 x.2.1.length (x.2.1.flatMap fcells) ∧ Ext none_ w1 w') (fun x => E.length - x.1) (0, [], .slice none 0 0) ⟨rfl, rfl, rfl, rfl, trivial⟩
    ⟨by omega, rfl, own_nil _ _ _ _, Ext.refl _ _⟩ ?_
  rintro ⟨j, K, vl⟩ w2 ⟨hj, hK, hown, hx2⟩
  dsimp only at hj hK hown ⊢
  have hR2 := hR1.ext0 hx2
  refine W.seq ?_
  refine W.seq ?_
  refine W.reg <| mv rfl rfl <| mv rfl rfl <| nilc rfl rfl <| fad rfl fl_RT_0 rfl <| ld1 rfl ag_files rfl hR2.c0 <| lenV rfl u_files rfl <| lssI rfl rfl rfl <| L.nil ?_
  refine N.th ?_
  refine W.cond rfl (fun h => ?_) (fun h => ?_)
  · refine W.skip ?_
    refine N.th ?_
    have hj1 : j < E.length := by simp at h; omega
    obtain ⟨x, hxe⟩ : ∃ x, E[j]? = some x := ⟨_, List.getElem?_eq_getElem hj1⟩
    have hxm := List.mem_of_getElem? hxe
    obtain ⟨b, o, rfl, -, -⟩ := hR2.some_ hxe
    have htk : E.take (j + 1) = E.take j ++ [x] := by rw [List.take_add_one, hxe]; rfl
    have hKl : K.length ≤ 500 := by
      have := List.length_filter_le (fun x : FE => !Sp.within x.1 p) (E.take j)
      rw [hK]
      have h2 : (E.take j).length ≤ E.length := by simp; omega
      omega
    refine W.seqM (fun E' w' => ∃ (K' : List FE) (vl' : Value), E' = [(8, .int .i64 j), (7, vl'), (5, .string (S p)), (0, pT rt)] ∧ K' = (E.take (j + 1)).filter (fun x => !Sp.within x.1 p) ∧ w'.ownsRow w1.heap.size tF 3 vl' K'.length (K'.flatMap fcells) ∧ Ext none_ w1 w') ?_ ?_   -- CUT
    · refine W.block ?_
      refine W.seq ?_
      refine W.reg <| mv rfl rfl <| nilc rfl rfl <| fad rfl fl_RT_0 rfl <| ld1 rfl ag_files rfl hR2.c0 <| mv rfl rfl <| ixa rfl rfl u_files sz_File rfl (by omega) (by omega) <| fad rfl fl_File_0 rfl <| ld1 rfl ag_str rfl (hR2.get hxe).1 <| mv rfl rfl <| call (vs := [_, _]) rfl rfl ok_RWithin (c_RWithin x.1 p w2) ?_
      rintro e w3 ⟨rfl, rfl⟩
      refine ⟨_, rfl, ?_⟩
      refine notB rfl rfl <| L.nil ?_
      refine N.th ?_
      refine W.cond rfl (fun h => ?_) (fun h => ?_)
      · obtain ⟨hb1, hb2⟩ := fbuild (hR2.files.bytes x hxm)
        refine W.reg <| mv rfl rfl <| mv rfl rfl <| nilc rfl rfl <| fad rfl fl_RT_0 rfl <| ld1 rfl ag_files rfl hR2.c0 <| mv rfl rfl <| ixa rfl rfl u_files sz_File rfl (by omega) (by omega) <| ldk (cs := fcells x) rfl ag_File sz_File rfl rfl (fun i u hi => hR2.files.cells hxe i u hi) <|
          push1 (cs := (fcells x).toArray) rfl rfl rfl rfl hb1 el_files rfl hb2 hown (by omega) (by simp only [maxLen]; omega) hx2.size fun v' w4 hown4 hx4 => ?_
        refine asg rfl rfl <| L.nil ?_
        refine N.inb ?_
        refine N.th (N.meet [(8, _), (7, v'), (5, _), (0, _)] ⟨rfl, rfl, rfl, rfl, trivial⟩ ⟨K ++ [x], v', rfl, ?_, ?_, hx2.own hown hx4⟩)   -- MEET
        · rw [htk, List.filter_append, hK]; simp [h]
        · rw [fcells_snoc, List.length_append]; exact hown4
      · refine W.skip ?_
        refine N.inb ?_
        refine N.th (N.meet [(8, _), (7, vl), (5, _), (0, _)] ⟨rfl, rfl, rfl, rfl, trivial⟩ ⟨K, vl, rfl, ?_, hown, hx2⟩)   -- MEET
        rw [htk, List.filter_append, hK]; simp [h]
    rintro E' w3 ⟨K', vl', rfl, hK', hown', hx3⟩
    refine W.reg <| mv rfl rfl <| addI (c := ((j + 1 : Nat) : Int)) rfl rfl rfl (by rw [w64 (by omega) (by omega)]; simp) <| asg rfl rfl <| L.nil ?_
    exact N.th (N.round (x := (j + 1, K', vl')) ⟨rfl, rfl, rfl, rfl, trivial⟩ ⟨by dsimp only; omega, hK', hown', hx3⟩ (by dsimp only; omega))   -- ROUND
  · refine W.exit ?_
    refine N.xth ?_
    refine N.xth ?_
    refine N.xeq ?_
    refine N.th ?_
    have hjl : j = E.length := by simp at h; omega
    rw [hjl, List.take_length] at hK
    have hFl : FilesAt w2 vl K := FilesAt.own hown fun z hz => hR2.files.bytes z (by rw [hK] at hz; exact (List.mem_filter.1 hz).1)
    obtain ⟨va, vc, rfl, -, -⟩ := own_slice hown
    refine W.seq ?_
    refine W.reg <| mv rfl rfl <| mv rfl rfl <| nilc rfl rfl <| fad rfl fl_RT_0 rfl <| st1 rfl rfl sz_files rfl hR2.cell rfl <| L.nil ?_
    refine N.th ?_
    refine W.seq ?_
    refine W.reg <| asg rfl rfl <| L.nil ?_
    refine N.th ?_
    refine W.ret ?_
    refine N.ret1 rfl rfl ?_   -- RETURN
    have hxs : Ext (fun k => k = rt) w2 (w2.setCell ⟨rt, 0, none⟩ (.slice va K.length vc)) := Ext.setCell (S := fun k => k = rt) _ (fun _ => rfl) _
    refine ⟨rfl, ⟨.slice va K.length vc, K, ⟨by rw [setCell_heap hR2.cell]; rfl, hFl.ext hxs (rt_kd hR2)⟩, ?_⟩, (hx1.trans hx2).none.trans hxs⟩
    rw [hK, hpp]
    exact fm_cut _ hE hok.nodup

/-- What stands at or below a path, as it would at another. -/
def mvE (p q : Tr.Bytes) (E : List FE) : List (Tr.Bytes × Tr.Nd) := ((fm E).filter fun x => Sp.within x.1 p).map fun x => (Sp.moved p.length q x.1, x.2)
theorem c_Rcopied {w : World} {rt : Nat} {lv : Value} {E : List FE} (p q : Tr.Bytes) (h : RTAt w rt lv E) (hl : E.length ≤ 1000000) (hq : q.length ≤ 1000000) (hk : ∀ x ∈ E, x.1.length ≤ 1000000 ∧ x.2.2.2.length ≤ 100000000) :
    Calls P 104 #[pT rt, .string (S p), .string (S q)] w fun e w' => ∃ v K, e = .returned v ∧ FilesAt w' v K ∧ fm K = mvE p q E ∧ (∀ k, v.ownBlock = some k → w.heap.size ≤ k) ∧ Ext none_ w w' := by
  refine enter (l := [_, _, _]) (n := 53) Tryz.func104 rfl rfl rfl ?_
  obtain ⟨a, c, rfl, -⟩ := h.slice
  refine W.seq ?_
  refine W.reg <| asg rfl rfl <| L.nil ?_
  refine N.th ?_
  refine W.seq ?_
  refine W.reg <| asg rfl rfl <| L.nil ?_
  refine N.th ?_
  refine W.seq ?_
  refine W.seq ?_
  refine W.reg <| asg rfl rfl <| L.nil ?_
  refine N.th ?_
  refine W.block ?_
  refine W.loop (X := Nat × List FE × Value) (fun x => [(8, .int .i64 x.1), (7, x.2.2), (1, .string (S p)), (2, .string (S q)), (0, pT rt)])
    (fun x w' => x.1 ≤ E.length ∧ x.2.1.length ≤ x.1 ∧ fm x.2.1 = mvE p q (E.take x.1) ∧ w'.ownsRow w.heap.size tF 3 x.2.2 x.2.1.length (x.2.1.flatMap fcells) ∧ (∀ y ∈ x.2.1, RowB w' y.2.2.1 y.2.2.2) ∧ Ext none_ w w') (fun x => E.length - x.1) (0, [], .slice none 0 0) ⟨rfl, rfl, rfl, rfl, rfl, trivial⟩
    ⟨by omega, by simp, rfl, own_nil _ _ _ _, by simp, Ext.refl _ _⟩ ?_
  rintro ⟨j, K, vl⟩ w2 ⟨hj, hKl, hK, hown, hKb, hx2⟩
  dsimp only at hj hKl hK hown hKb ⊢
  have hR2 := h.ext0 hx2
  refine W.seq ?_
  refine W.seq ?_
  refine W.reg <| mv rfl rfl <| mv rfl rfl <| nilc rfl rfl <| fad rfl fl_RT_0 rfl <| ld1 rfl ag_files rfl hR2.c0 <| lenV rfl u_files rfl <| lssI rfl rfl rfl <| L.nil ?_
  refine N.th ?_
  refine W.cond rfl (fun h => ?_) (fun h => ?_)
  · refine W.skip ?_
    refine N.th ?_
    have hj1 : j < E.length := by simp at h; omega
    obtain ⟨x, hxe⟩ : ∃ x, E[j]? = some x := ⟨_, List.getElem?_eq_getElem hj1⟩
    have hxm := List.mem_of_getElem? hxe
    obtain ⟨b, o, rfl, -, -⟩ := hR2.some_ hxe
    obtain ⟨hxk, hxb⟩ := hk x hxm
    have htk : E.take (j + 1) = E.take j ++ [x] := by rw [List.take_add_one, hxe]; rfl
    refine W.seqM (fun E' w' => ∃ (K' : List FE) (vl' : Value), E' = [(8, .int .i64 j), (7, vl'), (1, .string (S p)), (2, .string (S q)), (0, pT rt)] ∧ K'.length ≤ j + 1 ∧ fm K' = mvE p q (E.take (j + 1)) ∧ w'.ownsRow w.heap.size tF 3 vl' K'.length (K'.flatMap fcells) ∧ (∀ y ∈ K', RowB w' y.2.2.1 y.2.2.2) ∧ Ext none_ w w') ?_ ?_   -- CUT
    · refine W.block ?_
      refine W.seq ?_
      refine W.reg <| mv rfl rfl <| nilc rfl rfl <| fad rfl fl_RT_0 rfl <| ld1 rfl ag_files rfl hR2.c0 <| mv rfl rfl <| ixa rfl rfl u_files sz_File rfl (by omega) (by omega) <| fad rfl fl_File_0 rfl <| ld1 rfl ag_str rfl (hR2.get hxe).1 <| mv rfl rfl <| call (vs := [_, _]) rfl rfl ok_RWithin (c_RWithin x.1 p w2) ?_
      rintro e w3 ⟨rfl, rfl⟩
      refine ⟨_, rfl, ?_⟩
      refine L.nil ?_
      refine N.th ?_
      refine W.cond rfl (fun h => ?_) (fun h => ?_)
      · obtain ⟨⟨sa, sc, hbv, -⟩, hbr⟩ : (∃ sa sc, x.2.2.1 = .slice sa x.2.2.2.length sc ∧ True) ∧ RowB w2 x.2.2.1 x.2.2.2 := by
          have hb := hR2.files.bytes x hxm
          obtain ⟨-, a, c, e, -⟩ := id hb
          exact ⟨⟨a, c, e, trivial⟩, hb⟩
        have hpl : p.length ≤ x.1.length := Sp.within_len h
        refine W.seq ?_
        refine W.reg <| mv rfl rfl <| nilc rfl rfl <| fad rfl fl_RT_0 rfl <| ld1 rfl ag_files rfl hR2.c0 <| mv rfl rfl <| ixa rfl rfl u_files sz_File rfl (by omega) (by omega) <| ldk (cs := fcells x) rfl ag_File sz_File rfl rfl (fun i u hi => hR2.files.cells hxe i u hi) <| new ze_F rfl <|
          stR (cells := (fcells x).toArray) rfl rfl sz_File (by rw [show fcells x = [.string (S x.1), .bool x.2.1, x.2.2.1] from rfl, hbv]; rfl) (heap_new _ _) rfl <| L.nil ?_
        refine N.th ?_
        obtain ⟨w5, hw5⟩ : ∃ w5, w5 = (w2.alloc (.cells (Value.cells (.agg #[.string (S []), .bool false, .slice none 0 0])) tF)).setRow w2.heap.size (fcells x).toArray := ⟨_, rfl⟩
        obtain ⟨f, hf⟩ : ∃ f, f = w2.heap.size := ⟨_, rfl⟩
        have hx25 : Ext none_ w2 w5 := by rw [hw5]; exact (Ext.alloc none_ _ _).trans' (Ext.setRow (S := fun k => k = w2.heap.size) _ (fun _ => rfl) _) (fun i hi e => by omega)
        have hf5 : w5.heap[f]? = some (.cells #[.string (S x.1), .bool x.2.1, x.2.2.1] tF (0, 0)) := by rw [hw5, hf]; exact setRow_heap _ _ _ _ _ _ (heap_new _ _)
        rw [show (w2.alloc (.cells (Value.cells (.agg #[.string (S []), .bool false, .slice none 0 0])) tF)).setRow w2.heap.size (fcells x).toArray = w5 from hw5.symm, ← hf]
        have hF : ∀ i, i < w2.heap.size → i = f → none_ i := fun i hi e => by omega
        refine W.seq ?_
        refine W.reg <| mv rfl rfl <| fad rfl fl_File_0 rfl <| ld1 rfl ag_str rfl (cell_of hf5 rfl) <| mv rfl rfl <| lenS rfl u_str rfl <| slSl rfl rfl u_str rfl (by omega) (by omega) <| addS (a := q) (b := x.1.drop p.length) rfl rfl rfl (by simp; omega) <| fad rfl fl_File_0 rfl <| st1 rfl rfl sz_str rfl hf5 rfl <| L.nil ?_
        refine N.th ?_
        obtain ⟨w6, hw6⟩ : ∃ w6, w6 = w5.setCell ⟨f, 0, none⟩ (.string (S (q ++ x.1.drop p.length))) := ⟨_, rfl⟩
        have hf6 : w6.heap[f]? = some (.cells #[.string (S (q ++ x.1.drop p.length)), .bool x.2.1, x.2.2.1] tF (0, 0)) := by rw [hw6, setCell_heap hf5]; rfl
        have hx56 : Ext (fun k => k = f) w5 w6 := by rw [hw6]; exact Ext.setCell (S := fun k => k = f) _ (fun _ => rfl) _
        have hx26 : Ext none_ w2 w6 := hx25.trans' hx56 hF
        rw [show w5.setCell ⟨f, 0 + 0, none⟩ (.string (S (q ++ x.1.drop p.length))) = w6 from hw6.symm]
        refine W.seq ?_
        refine W.reg <| fad rfl fl_File_2 rfl <| ld1 (v := x.2.2.1) rfl ag_bytes rfl (cell_of hf6 rfl) <| cpyB rfl (hbr.ext0 hx26).arg el_bytes rfl (by omega) fun cv w7 hcv hx7 => ?_
        obtain ⟨ca, cc, rfl, -, -⟩ := own_slice hcv
        have hf7 := hx7.obj hf6 id
        refine fad rfl fl_File_2 rfl <| st1 rfl rfl sz_bytes rfl hf7 rfl <| L.nil ?_
        refine N.th ?_
        obtain ⟨y, hy⟩ : ∃ y : FE, y = (q ++ x.1.drop p.length, x.2.1, .slice ca x.2.2.2.length cc, x.2.2.2) := ⟨_, rfl⟩
        obtain ⟨w8, hw8⟩ : ∃ w8, w8 = w7.setCell ⟨f, 0 + 2, none⟩ (.slice ca x.2.2.2.length cc) := ⟨_, rfl⟩
        have hf8 : w8.heap[f]? = some (.cells (fcells y).toArray tF (0, 0)) := by rw [hw8, setCell_heap hf7, hy]; rfl
        have hx78 : Ext (fun k => k = f) w7 w8 := by rw [hw8]; exact Ext.setCell (S := fun k => k = f) _ (fun _ => rfl) _
        have hx27 := hx26.trans hx7
        have hx28 : Ext none_ w2 w8 := hx27.trans' hx78 hF
        rw [show w7.setCell ⟨f, 0 + 2, none⟩ (.slice ca x.2.2.2.length cc) = w8 from hw8.symm]
        have hcv8 : RowB w8 (.slice ca x.2.2.2.length cc) x.2.2.2 := Row.own (own_ext hcv hx78 fun k hk e => by
          have := own_new hcv k hk
          have := hx26.size
          have := lt_of_obj hf6
          omega)
        have hown8 := own_ext hown hx28 fun _ _ => id
        obtain ⟨hb1, hb2⟩ := fbuild (x := y) (l := x.2.2.2) (by rw [hy]; exact hcv8)
        refine W.reg <| mv rfl rfl <| ldk (cs := fcells y) rfl ag_File sz_File rfl rfl (fun i u hi => row_cells hf8 i u hi) <|
          push1 (cs := (fcells y).toArray) rfl rfl rfl rfl hb1 el_files rfl hb2 hown8 (by omega) (by simp only [maxLen]; omega) (hx2.trans hx28).size fun v' w9 hown9 hx9 => ?_
        refine asg rfl rfl <| L.nil ?_
        refine N.inb ?_
        have hkb : ∀ {z : FE}, RowB w8 z.2.2.1 z.2.2.2 → RowB w9 z.2.2.1 z.2.2.2 := fun {z} hz => hz.ext hx9 fun k hk hk2 => by
          obtain ⟨c1, f1, h1⟩ := hz.kind k hk
          obtain ⟨c2, f2, h2⟩ := own_kind hown8 k hk2
          rw [h1] at h2; cases h2
        refine N.th (N.meet [(8, _), (7, v'), (1, _), (2, _), (0, _)] ⟨rfl, rfl, rfl, rfl, rfl, trivial⟩ ⟨K ++ [y], v', rfl, by simp; omega, ?_, ?_, ?_, (hx2.trans hx28).own hown8 hx9⟩)   -- MEET
        · unfold mvE fm at hK ⊢
          rw [htk, List.map_append, List.map_append, List.filter_append, List.map_append, hK, hy]
          simp [fnd, h, Sp.moved]
        · rw [fcells_snoc, List.length_append]; exact hown9
        · intro z hz
          rcases List.mem_append.1 hz with hz | hz
          · exact hkb ((hKb z hz).ext0 hx28)
          · simp at hz
            rw [hz]
            refine hkb ?_
            rw [hy]
            exact hcv8
      · refine W.skip ?_
        refine N.inb ?_
        refine N.th (N.meet [(8, _), (7, vl), (1, _), (2, _), (0, _)] ⟨rfl, rfl, rfl, rfl, rfl, trivial⟩ ⟨K, vl, rfl, by omega, ?_, hown, hKb, hx2⟩)   -- MEET
        unfold mvE fm at hK ⊢
        rw [htk, List.map_append, List.filter_append, List.map_append, hK]
        simp [fnd, h]
    rintro E' w3 ⟨K', vl', rfl, hKl', hK', hown', hKb', hx3⟩
    refine W.reg <| mv rfl rfl <| addI (c := ((j + 1 : Nat) : Int)) rfl rfl rfl (by rw [w64 (by omega) (by omega)]; simp) <| asg rfl rfl <| L.nil ?_
    exact N.th (N.round (x := (j + 1, K', vl')) ⟨rfl, rfl, rfl, rfl, rfl, trivial⟩ ⟨by dsimp only; omega, hKl', hK', hown', hKb', hx3⟩ (by dsimp only; omega))   -- ROUND
  · refine W.exit ?_
    refine N.xth ?_
    refine N.xth ?_
    refine N.xeq ?_
    refine N.th ?_
    have hjl : j = E.length := by simp at h; omega
    rw [hjl, List.take_length] at hK
    refine W.seq ?_
    refine W.reg <| mv rfl rfl <| asg rfl rfl <| L.nil ?_
    refine N.th ?_
    refine W.ret ?_
    refine N.ret1 rfl rfl ?_   -- RETURN
    exact ⟨vl, K, rfl, FilesAt.own hown hKb, hK, own_new hown, hx2⟩
end Go.Proofs.YtmdpmpdlkaogdaaGreatDoor
