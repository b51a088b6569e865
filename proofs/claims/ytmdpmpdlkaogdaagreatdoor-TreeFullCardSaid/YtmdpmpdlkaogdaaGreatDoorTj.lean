/- Walks: (*tree.Tree).Files, Clone. -/
import Derived.Test.YtmdpmpdlkaogdaaGreatDoorTi
namespace Go.Proofs.YtmdpmpdlkaogdaaGreatDoor
open Go Go.RowKit Vc
variable {A : Nat → Prop}

theorem ok_Files : FnOk P 31 := ⟨_, Tryz.func31, by kernel_rfl, by kernel_rfl⟩
theorem ok_TClone : FnOk P 39 := ⟨_, Tryz.func39, by kernel_rfl, by kernel_rfl⟩

/-- A list of files that may be read. -/
structure FilesAt (w : World) (v : Value) (E : List FE) : Prop where
  row : Row w v tF 3 E.length (E.flatMap fcells)
  bytes : ∀ x ∈ E, RowB w x.2.2.1 x.2.2.2

theorem get_map_self {m : Tr.T} (hn : (m.map (·.1)).Nodup) : m.map (fun p => (p.1, (Tr.get m p.1).getD (true, []))) = m := by
  conv => rhs; rw [← List.map_id m]
  refine List.map_congr_left fun p hp => ?_
  rw [Tr.mem_get hn hp]; rfl
theorem Vc.IterAt.sub {w : World} {it r : Nat} {al left : AL} (h : IterAt w it r al left) : ∀ p ∈ left, p ∈ al := by
  obtain ⟨es, c, seen, -, -, -, rfl, rfl⟩ := h
  intro p hp
  obtain ⟨e, he, rfl⟩ := List.mem_map.1 hp
  exact List.mem_map.2 ⟨e, (List.mem_filter.1 he).1, rfl⟩
theorem Vc.IterAt.itlt {w : World} {it r : Nat} {al left : AL} (h : IterAt w it r al left) : it < w.heap.size := by
  obtain ⟨es, c, seen, hi, -⟩ := h
  exact lt_of_obj hi
theorem Reps.at_ {w : World} {al : AL} {m : Tr.T} (h : Reps A w al m) (hn : (m.map (·.1)).Nodup) {p : Tr.Bytes × Value} (hp : p ∈ al) : ∃ x, Tr.get m p.1 = some x ∧ NodeAt A w p.2 x := by
  have ha : aget al p.1 = some p.2 := Tr.mem_get (α := Value) (m := al) (by rw [h.keys]; exact hn) hp
  have := h.look p.1
  rw [ha] at this
  cases hg : Tr.get m p.1 with
  | none =>
    have h2 := h.isSome p.1
    rw [ha, hg] at h2; cases h2
  | some x => rw [hg] at this; exact ⟨x, rfl, this⟩

theorem fcells_snoc (E : List FE) (x : FE) : (E ++ [x]).flatMap fcells = E.flatMap fcells ++ fcells x := by simp
theorem files_eq {E : List FE} {m : Tr.T} (h : (E.map fnd).Perm m) (hn : (m.map (·.1)).Nodup) : (sortE E).map fnd = Tr.files m := by
  have h1 : (sortE E).map fnd = (E.map fnd).mergeSort fun x y => decide (x.1 ≤ y.1) := List.map_mergeSort fun a _ b _ => rfl
  rw [h1]
  unfold Tr.files
  refine List.Perm.eq_of_pairwise (le := fun x y => decide (x.1 ≤ y.1) = true) ?_ (List.pairwise_mergeSort (fun a b c => Tr.le_tr a.1 b.1 c.1) (fun a b => Tr.le_tot a.1 b.1) _) (List.pairwise_mergeSort (fun a b c => Tr.le_tr a.1 b.1 c.1) (fun a b => Tr.le_tot a.1 b.1) _)
    ((List.mergeSort_perm _ _).trans (h.trans (List.mergeSort_perm _ _).symm))
  intro a b ha hb h1 h2
  have hab := Tr.le_as _ _ h1 h2
  have ha' : a ∈ m := h.mem_iff.1 ((List.mergeSort_perm _ _).mem_iff.1 ha)
  have hb' : b ∈ m := (List.mergeSort_perm _ _).mem_iff.1 hb
  have e1 := Tr.mem_get hn (show (a.1, a.2) ∈ m from ha')
  have e2 := Tr.mem_get hn (show (b.1, b.2) ∈ m from hb')
  rw [hab] at e1
  rw [e1] at e2
  exact Prod.ext hab (Option.some.inj e2)

theorem c_Files {w : World} {bt bm : Nat} {m : Tr.T} {sz : Int} (ht : TreeAt A w bt bm m sz) (hm1 : m.length ≤ 100000) (hm2 : Tr.size m ≤ 100000000) :
    Calls P 31 #[pT bt] w fun e w' => ∃ (v : Value) (E : List FE), e = .returned v ∧ E.map fnd = Tr.files m ∧ w'.ownsRow w.heap.size tF 3 v E.length (E.flatMap fcells) ∧ (∀ x ∈ E, Byts w.heap.size w' x.2.2.1 x.2.2.2) ∧ Ext none_ w w' := by
  have hnd := ht.nodup
  refine enter (l := [_]) (n := 33) Tryz.func31 rfl rfl rfl ?_
  refine W.seq ?_
  refine W.reg <| asg rfl rfl <| L.nil ?_
  refine N.th ?_
  refine W.seq ?_
  refine W.reg <| asg rfl rfl <| L.nil ?_
  refine N.th ?_
  refine W.seq ?_
  refine W.seq ?_
  obtain ⟨al, hal, hr⟩ := ht.reps
  refine W.reg <| mv rfl rfl <| nilc rfl rfl <| fad rfl fl_Tree_0 rfl <| ld1 rfl ag_mNode rfl ht.c0 <| rng rfl u_mNode rfl hal fun w1 hi1 hx1 hs1 => ?_
  refine L.nil ?_
  refine N.th ?_
  refine W.block ?_
  obtain ⟨G, hG⟩ : ∃ G : Tr.Bytes × Value → Tr.Bytes × Tr.Nd, G = fun p => (p.1, (Tr.get m p.1).getD (true, [])) := ⟨_, rfl⟩
  have hGal : al.map G = m := by
    have h1 : al.map G = (al.map (·.1)).map fun k => (k, (Tr.get m k).getD (true, [])) := by rw [hG, List.map_map]; rfl
    rw [h1, hr.keys, List.map_map]; exact get_map_self hnd
  refine W.loop (X := AL × List FE × Value) (fun x => [(10, .pointer (some ⟨w.heap.size, 0, none⟩)), (3, x.2.2), (0, pT bt)])
    (fun x w' => IterAt w' w.heap.size bm al x.1 ∧ w'.ownsRow w.heap.size tF 3 x.2.2 x.2.1.length (x.2.1.flatMap fcells) ∧ (x.2.1.map fnd ++ x.1.map G).Perm m ∧ x.2.1.length + x.1.length ≤ m.length ∧ Ext none_ w w' ∧ x.2.2.ownBlock ≠ some w.heap.size ∧
      (∀ y ∈ x.2.1, Byts w.heap.size w' y.2.2.1 y.2.2.2)) (fun x => x.1.length) (al, [], .slice none 0 0) ⟨rfl, rfl, rfl, trivial⟩
    ⟨hi1, own_nil _ _ _ _, by rw [hGal]; simp, by simp [hr.length], hx1, by simp [Value.ownBlock], by simp⟩ ?_
  rintro ⟨left, acc, v⟩ w2 ⟨hi, hown, hperm, hlen, hx, hne, hbs⟩
  dsimp only at hi hown hperm hlen hne hbs ⊢
  refine W.seq ?_
  refine W.reg <| nxt rfl rfl hi ?_ ?_
  · rintro rfl
    refine ext rfl rfl rfl <| L.nil ?_
    refine N.th ?_
    refine W.seq ?_
    refine W.condF rfl ?_
    refine W.exit ?_
    refine N.xth ?_
    refine N.xth ?_
    refine N.xeq ?_
    refine N.th ?_
    refine W.seq ?_
    have hp : (acc.map fnd).Perm m := by simpa using hperm
    have hkn : (acc.map (·.1)).Nodup := by
      have := (hp.map (·.1)).nodup_iff.2 hnd
      rwa [List.map_map] at this
    refine W.reg <| mv rfl rfl <| call (vs := [_, _]) rfl rfl ok_SortFunc (c_SortFunc hown hkn (fun x hx => (own_cells (hbs x hx)).2) (by omega)) ?_
    rintro e w3 ⟨rfl, hs3, hx3⟩
    refine ⟨_, rfl, ?_⟩
    refine L.nil ?_
    refine N.th ?_
    refine W.seq ?_
    refine W.reg <| mv rfl rfl <| asg rfl rfl <| L.nil ?_
    refine N.th ?_
    refine W.ret ?_
    refine N.ret1 rfl rfl ?_   -- RETURN
    have hsl : (sortE acc).length = acc.length := List.length_mergeSort acc
    refine ⟨_, sortE acc, rfl, files_eq hp hnd, by rw [hsl]; exact hs3, fun x hx' => ?_, hx.own hown hx3⟩
    have hxa : x ∈ acc := (List.mergeSort_perm acc _).mem_iff.1 hx'
    refine own_ext (hbs x hxa) hx3 fun k hk hk2 => ?_
    obtain ⟨c1, f1, h1⟩ := own_kind (hbs x hxa) k hk
    obtain ⟨c2, f2, h2⟩ := own_kind hown k hk2
    rw [h1] at h2; cases h2
  · rintro l1 q l2 w3 rfl hi3 hx3 hs3 hcur
    refine ext rfl rfl rfl <| L.nil ?_
    refine N.th ?_
    refine W.seq ?_
    refine W.condT rfl ?_
    refine W.skip ?_
    refine N.th ?_
    refine W.block ?_
    refine W.seq ?_
    refine W.reg <| ent rfl rfl hcur <| ext (v := .string (S q.1)) rfl rfl rfl <| ext (v := q.2) rfl rfl rfl <| asg rfl rfl <| asg rfl rfl <| L.nil ?_
    refine N.th ?_
    have hx03 : Ext none_ w w3 := hx.trans' hx3 fun i hi hh => by omega
    have hown3 := own_ext hown hx3 fun k hk e => hne (e ▸ hk)
    have hbs3 : ∀ y ∈ acc, Byts w.heap.size w3 y.2.2.1 y.2.2.2 := fun y hy => own_ext (hbs y hy) hx3 fun k hk e => by
      subst e
      obtain ⟨c1, f1, h1⟩ := own_kind (hbs y hy) _ hk
      obtain ⟨es, c, seen, h2, -⟩ := hi
      rw [h1] at h2; cases h2
    obtain ⟨x, hgx, nb, sl, hq2, hnb, hav, hrow⟩ := hr.at_ hnd (hi.sub q (by simp))
    have hnb3 := hx03.obj hnb id
    have hrow3 := hrow.ext0 hx03
    have hxl : x.2.length ≤ 100000000 := by have := old_le m q.1; simp [Tr.old, hgx] at this; omega
    simp only [List.length_append, List.length_cons] at hlen
    obtain ⟨va, vc, rfl, hvn, hvm⟩ := own_slice hown
    rw [hq2]
    have hdr := Ext.drew none_ w3
    have hrowd := hrow3.ext0 hdr
    have hnbd := hdr.obj hnb3 id
    refine W.draw [] false (fun w' => Ext none_ w3.drew w' ∨ ∃ w5, Ext none_ w3.drew w5 ∧ Ext (fun k => (Value.slice va acc.length vc).ownBlock = some k) w5 w') [0, 1, 2, 3, 4, 5, 6, 7, 8, 9, 10, 11, 12, 13, 14] rfl rfl (by kernel_rfl) (.inl (Ext.refl _ _)) ?_   -- held
    have keep : ∀ {w'}, (Ext none_ w3.drew w' ∨ ∃ w5, Ext none_ w3.drew w5 ∧ Ext (fun k => (Value.slice va acc.length vc).ownBlock = some k) w5 w') → w'.heap[nb]? = some (.cells #[.bool x.1, sl] tN (0, 0)) := by
      rintro w' (h | ⟨w5, h1, h2⟩)
      · exact h.obj hnbd id
      · refine h2.obj (h1.obj hnbd id) fun e => ?_
        obtain ⟨c2, f2, h3⟩ := own_kind hown3 nb e
        rw [hnb3] at h3; cases h3
    refine mv rfl rfl <| mv rfl rfl <| mv rfl rfl <| nilc rfl rfl <| fad rfl fl_Node_0 rfl <| ldK (v := .bool x.1) rfl ag_bool rfl (fun w' h => cell_of (keep h) rfl) <| mv rfl rfl <| nilc rfl rfl <| fad rfl fl_Node_1 rfl <| ldK (v := sl) rfl ag_bytes rfl (fun w' h => cell_of (keep h) rfl) <|
      callH (vs := [_]) rfl rfl ok_Clone (c_Clone hrowd.arg (by omega)) ?_
    rintro e w5 ⟨cv, rfl, hcv, hx5, -⟩
    refine ⟨_, rfl, .inr fun h => ?_, ?_⟩
    · rcases h with h | ⟨w5', h1, h2⟩
      · exact .inl (h.trans hx5)
      · exact .inl (hx5)
    obtain ⟨ca, cc, rfl, -, -⟩ := own_slice hcv
    obtain ⟨y, hy⟩ : ∃ y : FE, y = (q.1, x.1, .slice ca x.2.length cc, x.2) := ⟨_, rfl⟩
    have hx05 : Ext none_ w w5 := hx03.trans (hdr.trans hx5)
    have hown5 : w5.ownsRow w.heap.size tF 3 (.slice va acc.length vc) acc.length (acc.flatMap fcells) := own_ext hown3 (hdr.trans hx5) fun _ _ => id
    refine bld (vs := #[(0, .string (S q.1)), (1, .bool x.1), (2, .slice ca x.2.length cc)]) (v := .agg (fcells y).toArray) rfl rfl (fun _ => by rw [hy]; kernel_rfl) <| ?_
    refine bls (vs := #[(0, .agg (fcells y).toArray)]) (cs := (fcells y).toArray) (e := tF) rfl rfl (fun _ => by rw [hy]; kernel_rfl) (hS := .inr fun _ => .inl (hx5.trans (Ext.alloc none_ _ _))) <| ?_
    refine appY rfl rfl rfl el_files (own_ext hown5 (Ext.alloc none_ _ _) fun _ _ => id) (news := fcells y) rfl (fun j u hj => by rw [add_at]; exact row_cells (heap_new _ _) j u hj) (fun u hu => by
        rw [hy] at hu
        simp only [fcells, List.mem_cons, List.not_mem_nil, or_false] at hu
        rcases hu with rfl | rfl | rfl <;> rfl) (by omega) (by simp only [maxLen]; omega) (by have := hx05.size; simp; omega) fun v' w6 hown6 hx6 _ hat => ⟨.inr fun h => .inr ⟨_, hx5.trans (Ext.alloc _ _ _), hx6⟩, ?_⟩
    refine asg rfl rfl <| L.nilH ?_
    refine N.inb ?_
    have hx5a : Ext none_ w5 (w5.alloc (.cells (fcells y).toArray tF)) := Ext.alloc _ _ _
    have hx06 : Ext none_ w w6 := (hx05.trans hx5a).trans' hx6 fun i hi hh => by have := own_new hown3 i hh; omega
    have hkeepB : ∀ {z : FE}, Byts w.heap.size w5 z.2.2.1 z.2.2.2 → Byts w.heap.size w6 z.2.2.1 z.2.2.2 := fun {z} hz => own_ext (own_ext hz hx5a fun _ _ => id) hx6 fun k hk hk2 => by
      obtain ⟨c1, f1, h1⟩ := own_kind hz k hk
      obtain ⟨c2, f2, h2⟩ := own_kind hown5 k hk2
      rw [h1] at h2; cases h2
    refine N.th (N.round (x := (l1 ++ l2, acc ++ [y], v')) ⟨rfl, rfl, rfl, trivial⟩ ⟨?_, ?_, ?_, by simp; omega, hx06, ?_, ?_⟩ (by simp))   -- ROUND
    · refine ((hi3.ext (hdr.trans hx5) id id).ext hx5a id id).ext hx6 hne (fun e => ?_)
      have := own_new hown3 _ e
      have := ht.lt.2
      omega
    · rw [fcells_snoc, List.length_append]; exact hown6
    · refine List.Perm.trans ?_ hperm
      have hGq : G q = fnd y := by rw [hG, hy]; simp [fnd, hgx]
      simp only [List.map_append, List.map_cons, List.map_nil, List.append_assoc, hGq, List.cons_append, List.nil_append]
      exact List.Perm.append_left _ List.perm_middle.symm
    · rcases hat with e | e
      · rw [e]; exact hne
      · rw [e]
        intro e'
        have := hi3.itlt
        have := (hdr.trans hx5).size
        simp at e'
        omega
    · intro z hz
      rcases List.mem_append.1 hz with hz | hz
      · exact hkeepB (own_ext (hbs3 z hz) (hdr.trans hx5) fun _ _ => id)
      · simp at hz
        rw [hz]
        refine hkeepB ?_
        rw [hy]
        refine own_more hcv ?_
        have := hx03.size
        exact this
end Go.Proofs.YtmdpmpdlkaogdaaGreatDoor
