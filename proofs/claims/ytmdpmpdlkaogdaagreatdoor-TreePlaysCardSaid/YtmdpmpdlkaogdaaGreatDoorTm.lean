/- The walk of (*tree.Tree).Clone. -/
import Derived.Test.YtmdpmpdlkaogdaaGreatDoorTl
namespace Go.Proofs.YtmdpmpdlkaogdaaGreatDoor
open Go Go.RowKit Vc
variable {A : Nat → Prop}

theorem c_TClone {w : World} {bt bm : Nat} {m : Tr.T} {sz : Int} (ht : TreeAt A w bt bm m sz) :
    Calls P 39 #[pT bt] w fun e w' => ∃ ct cm m', e = .returned (pT ct) ∧ w.heap.size ≤ ct ∧ w.heap.size ≤ cm ∧ TreeAt A w' ct cm m' sz ∧ m'.Perm m ∧ Ext none_ w w' := by
  have hnd := ht.nodup
  refine enter (l := [_]) (n := 34) Tryz.func39 rfl rfl rfl ?_
  refine W.seq ?_
  refine W.reg <| asg rfl rfl <| L.nil ?_
  refine N.th ?_
  refine W.seq ?_
  refine W.reg <| call (vs := []) rfl rfl ok_New (c_New w) ?_
  rintro e w1 ⟨ct, cm, rfl, hct, hcm, hC0, hx1⟩
  refine ⟨_, rfl, ?_⟩
  have hC1 : TreeAt A w1 ct cm [] 0 := hC0.nil_any (ht.lowAt hx1.size)
  refine asg rfl rfl <| L.nil ?_
  refine N.th ?_
  refine W.seq ?_
  have hT1 := ht.ext0 hx1
  refine W.reg <| mv rfl rfl <| mv rfl rfl <| nilc rfl rfl <| fad rfl fl_Tree_1 rfl <| ld1 rfl ag_int rfl hT1.c1 <| nilc rfl rfl <| fad rfl fl_Tree_1 rfl <| st1 rfl rfl sz_int rfl hC1.cell rfl <| L.nil ?_
  obtain ⟨w2, hw2⟩ : ∃ w2, w2 = w1.setCell ⟨ct, 0 + 1, none⟩ (.int .i64 sz) := ⟨_, rfl⟩
  rw [← hw2]
  have hxs : Ext (fun k => k = ct) w1 w2 := by rw [hw2]; exact Ext.setCell (S := fun k => k = ct) _ (fun _ => rfl) _
  have hC2 : TreeAt A w2 ct cm [] sz := by
    obtain ⟨al, h1, h2⟩ := hC1.reps
    refine ⟨by rw [hw2, setCell_heap hC1.cell]; rfl, ⟨al, h1.ext hxs (fun e => hC1.ne e.symm), h2.ext hxs (fun i hi => hC1.kd i (.inl hi))⟩, hC1.lowAt hxs.size⟩
  have hx2 : Ext none_ w w2 := hx1.trans' hxs fun i hi e => by omega
  have hT2 := ht.ext0 hx2
  refine N.th ?_
  refine W.seq ?_
  refine W.seq ?_
  obtain ⟨al, hal, hr⟩ := hT2.reps
  refine W.reg <| mv rfl rfl <| nilc rfl rfl <| fad rfl fl_Tree_0 rfl <| ld1 rfl ag_mNode rfl hT2.c0 <| rng rfl u_mNode rfl hal fun w3 hi3 hx3 hs3 => ?_
  refine L.nil ?_
  refine N.th ?_
  refine W.block ?_
  obtain ⟨G, hG⟩ : ∃ G : Tr.Bytes × Value → Tr.Bytes × Tr.Nd, G = fun p => (p.1, (Tr.get m p.1).getD (true, [])) := ⟨_, rfl⟩
  have hGal : al.map G = m := by
    have h1 : al.map G = (al.map (·.1)).map fun k => (k, (Tr.get m k).getD (true, [])) := by rw [hG, List.map_map]; rfl
    rw [h1, hr.keys, List.map_map]; exact get_map_self hnd
  have hlt2 := hT2.lt
  have hltC := hC2.lt
  have hltT := ht.lt
  refine W.loop (X := AL × Tr.T) (fun x => [(19, .pointer (some ⟨w2.heap.size, 0, none⟩)), (3, pT ct), (0, pT bt)])
    (fun x w' => IterAt w' w2.heap.size bm al x.1 ∧ TreeAt A w' ct cm x.2 sz ∧ (x.2 ++ x.1.map G).Perm m ∧ Ext none_ w w' ∧ Ext (fun k => k = cm ∨ k = w2.heap.size) w2 w') (fun x => x.1.length) (al, []) ⟨rfl, rfl, rfl, trivial⟩
    ⟨hi3, hC2.ext0 hx3, by rw [hGal]; simp, hx2.trans hx3, hx3.none⟩ ?_
  rintro ⟨left, acc⟩ w4 ⟨hi, hC, hperm, hx, hx24⟩
  dsimp only at hi hC hperm ⊢
  refine W.seq ?_
  refine W.reg <| nxt rfl rfl hi ?_ ?_
  · rintro rfl
    refine ext rfl rfl rfl <| L.nil ?_
    refine N.th ?_
    refine W.seq ?_
    refine W.condF rfl ?_
    refine W.exit ?_
    refine N.xth ?_
    refine N.xth ?_
    refine N.xeq ?_
    refine N.th ?_
    refine W.seq ?_
    refine W.reg <| mv rfl rfl <| asg rfl rfl <| L.nil ?_
    refine N.th ?_
    refine W.ret ?_
    refine N.ret1 rfl rfl ?_   -- RETURN
    exact ⟨ct, cm, acc, rfl, hct, hcm, hC, by simpa using hperm, hx⟩
  · rintro l1 q l2 w5 rfl hi5 hx5 hs5 hcur
    refine ext rfl rfl rfl <| L.nil ?_
    refine N.th ?_
    refine W.seq ?_
    refine W.condT rfl ?_
    refine W.skip ?_
    refine N.th ?_
    refine W.block ?_
    refine W.seq ?_
    have hx05 : Ext none_ w w5 := hx.trans' hx5 fun i hi e => by have := hx2.size; omega
    have hC5 : TreeAt A w5 ct cm acc sz := by
      refine hC.ext hx5 ?_ (fun e => by omega) (fun e => by omega)
      rintro k rfl c' e' fr h
      obtain ⟨es, c, seen, h1, -⟩ := hi
      rw [h1] at h; cases h
    obtain ⟨x, hgx, nb, sl, hq2, hnb, hav, hrow⟩ := hr.at_ hnd (hi.sub q (by simp))
    refine W.reg <| ent rfl rfl hcur <| ext (v := .string (S q.1)) rfl rfl rfl <| ext (v := q.2) rfl rfl rfl <| asg rfl rfl <| asg rfl rfl <| L.nil ?_
    refine N.th ?_
    refine W.seq ?_
    rw [hq2]
    have hx25 : Ext (fun k => k = cm ∨ k = w2.heap.size) w2 w5 := hx24.trans (hx5.mono fun _ _ h => .inr h)
    have hkd : Kd w2 (fun k => k = cm ∨ k = w2.heap.size) := by
      rintro k (rfl | rfl) c' e' fr h
      · obtain ⟨_, ⟨_, _, h1, _⟩, _⟩ := hC2.reps
        rw [h1] at h; cases h
      · have := lt_of_obj h; omega
    obtain ⟨nb', sl', hpe, hnb5, hav5, hrow5⟩ := NodeAt.ext (A := A) (x := x) ⟨nb, sl, rfl, hnb, hav, hrow⟩ hx25 hkd
    cases hpe
    obtain ⟨-, sa, sc, rfl, hsn, hsm, -, -⟩ := id hrow5
    refine W.reg <| mv rfl rfl <| nilc rfl rfl <| ldk (cs := [.bool x.1, .slice sa x.2.length sc]) rfl ag_Node sz_Node rfl rfl (row_cells hnb5) <| new ze_Node rfl <| stR (cells := #[.bool x.1, .slice sa x.2.length sc]) rfl rfl sz_Node rfl (heap_new _ _) rfl <| L.nil ?_
    obtain ⟨w6, hw6⟩ : ∃ w6, w6 = (w5.alloc (.cells (Value.cells (.agg #[.bool false, .slice none 0 0])) tN)).setRow w5.heap.size #[.bool x.1, .slice sa x.2.length sc] := ⟨_, rfl⟩
    have hx6 : Ext none_ w5 w6 := by rw [hw6]; exact (Ext.alloc none_ _ _).trans' (Ext.setRow (S := fun k => k = w5.heap.size) _ (fun _ => rfl) _) (fun i hi e => by omega)
    have hnew : w6.heap[w5.heap.size]? = some (.cells #[.bool x.1, .slice sa x.2.length sc] tN (0, 0)) := by rw [hw6]; exact setRow_heap _ _ _ _ _ _ (heap_new _ _)
    rw [← hw6]
    refine N.th ?_
    obtain ⟨cl, hcl, hcr⟩ := hC5.reps
    refine W.reg <| mv rfl rfl <| nilc rfl rfl <| fad rfl fl_Tree_0 rfl <| ld1 rfl ag_mNode rfl (hC5.ext0 hx6).c0 <| mv rfl rfl <| mup rfl rfl rfl u_mNode u_str (hcl.ext hx6 id) fun w7 hm7 hx7 hs7 => ?_
    have hC7 : TreeAt A w7 ct cm (Tr.set acc q.1 x) sz :=
      TreeAt.mapSet (x := x) (hcl.ext hx6 id) (hcr.ext hx6 (Kd.none _)) (hC5.ext0 hx6).cell ⟨_, _, rfl, hnew, hav5, hrow5.ext0 hx6⟩ hm7 hx7 ((hC5.ext0 hx6).lowAt (Nat.le_refl _))
    have hnone : Tr.get acc q.1 = none := by
      refine Tr.get_none.2 fun hk => ?_
      have hn2 := (hperm.map (·.1)).nodup_iff.2 hnd
      rw [List.map_append, List.nodup_append] at hn2
      refine hn2.2.2 q.1 hk q.1 ?_ rfl
      rw [List.map_map]
      exact List.mem_map.2 ⟨q, by simp, by rw [hG]; rfl⟩
    have hset : Tr.set acc q.1 x = acc ++ [(q.1, x)] := by
      unfold Tr.set
      rw [if_neg (by have := Tr.get_none.1 hnone; simpa using this)]
    refine L.nil ?_
    refine N.inb ?_
    refine N.th (N.round (x := (l1 ++ l2, Tr.set acc q.1 x)) ⟨rfl, rfl, rfl, trivial⟩ ⟨?_, hC7, ?_, ?_, ?_⟩ (by simp))   -- ROUND
    · exact (hi5.ext hx6 id id).ext hx7 (fun e => by omega) (fun e => by omega)
    · refine List.Perm.trans ?_ hperm
      have hGq : G q = (q.1, x) := by rw [hG]; simp [hgx]
      rw [hset]
      simp only [List.map_append, List.map_cons, List.append_assoc, hGq, List.cons_append, List.nil_append]
      exact List.Perm.append_left _ List.perm_middle.symm
    · exact (hx05.trans hx6).trans' hx7 fun i hi e => by omega
    · exact (hx25.trans hx6.none).trans (hx7.mono fun _ _ h => .inl h)
end Go.Proofs.YtmdpmpdlkaogdaaGreatDoor
