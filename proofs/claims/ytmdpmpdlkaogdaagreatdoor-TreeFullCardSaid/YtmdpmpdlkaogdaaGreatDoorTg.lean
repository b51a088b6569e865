/- Walks: (*tree.Tree).copy, Rename, Copy. -/
import Derived.Test.YtmdpmpdlkaogdaaGreatDoorTf
namespace Go.Proofs.YtmdpmpdlkaogdaaGreatDoor
open Go Go.RowKit Vc
variable {A : Nat → Prop}

theorem ok_copy : FnOk P 82 := ⟨_, Tryz.func82, by kernel_rfl, by kernel_rfl⟩
theorem ok_Rename : FnOk P 43 := ⟨_, Tryz.func43, by kernel_rfl, by kernel_rfl⟩
theorem ok_Copy : FnOk P 45 := ⟨_, Tryz.func45, by kernel_rfl, by kernel_rfl⟩

theorem copyL_cons (m : Tr.T) (k d : Tr.Bytes) (l r : List Tr.Bytes) : Tr.copyL m (k :: l) (d :: r) = Tr.copyL (Tr.set m d ((Tr.get m k).getD (true, []))) l r := rfl
theorem copyL_nil (m : Tr.T) (r : List Tr.Bytes) : Tr.copyL m [] r = m := by cases r <;> rfl
theorem isSome_set {m : Tr.T} {k d : Tr.Bytes} {x : Tr.Nd} (h : (Tr.get m k).isSome = true) : (Tr.get (Tr.set m d x) k).isSome = true := by
  rw [Tr.get_set]; split
  · rfl
  · exact h
theorem isSome_make {m : Tr.T} {k : Tr.Bytes} {l : List Tr.Bytes} (h : (Tr.get m k).isSome = true) : (Tr.get (Tr.make m l) k).isSome = true := by
  rw [Tr.get_make]; split
  · rfl
  · exact h
/-- Strings of a call's own stay where a tree turns. -/
theorem strs_tree {w w' : World} {B bt bm : Nat} {v : Value} {l : List Tr.Bytes} {m : Tr.T} {sz : Int} (h : Strs B w v l) (ht : TreeAt A w bt bm m sz) (hx : Ext (Two bt bm) w w') : Strs B w' v l :=
  strs_keep h hx (by
    rintro k (rfl | rfl) c fr hc
    · rw [ht.cell] at hc; cases hc
    · obtain ⟨_, ⟨_, _, hm, _⟩, _⟩ := ht.reps
      rw [hm] at hc; cases hc)

theorem c_copy {w : World} {B bt bm : Nat} {m : Tr.T} {sz : Int} {v : Value} {x : Tr.Move} (ht : TreeAt A w bt bm m sz) (hv : MoveV w B v x) (hin : ∀ k ∈ x.src, (Tr.get m k).isSome = true) (hl : x.dst.length = x.src.length) (_hll : x.src.length ≤ 1000000) (hs0 : 0 ≤ sz) (hs1 : sz ≤ 1000000000000) (hb : x.bytes ≤ 1000000000000) :
    Calls P 82 #[pT bt, v] w fun e w' => e = .returned (.tuple #[]) ∧ TreeAt A w' bt bm (Tr.copy m x) (sz + x.bytes) ∧ Ext (Two bt bm) w w' := by
  obtain ⟨fv, tv, lv, rfl, hfv, htv, hlv⟩ := hv
  refine enter (l := [_, _]) (n := 46) Tryz.func82 rfl rfl rfl ?_
  refine W.seq ?_
  refine W.reg <| box rfl rfl <| L.nil ?_
  obtain ⟨w1, hw1⟩ : ∃ w1, w1 = w.alloc (.cells (Value.cells (.agg #[fv, tv, lv, .int .i64 x.bytes])) tM) := ⟨_, rfl⟩
  have hx1 : Ext none_ w w1 := by rw [hw1]; exact Ext.alloc _ _ _
  have hg1 : w1.heap[w.heap.size]? = some (.cells #[fv, tv, lv, .int .i64 x.bytes] tM (0, 0)) := by rw [hw1]; exact heap_new _ _
  show N [] 46 _ _ (w.alloc (.cells (Value.cells (.agg #[fv, tv, lv, .int .i64 x.bytes])) tM))
  rw [← hw1]
  refine N.th ?_
  refine W.seq ?_
  have hT1 := ht.ext0 hx1
  refine W.reg <| mv rfl rfl <| fad rfl fl_Move_2 rfl <| ld1 rfl ag_strs rfl (cell_of hg1 (i := 2) (v := lv) rfl) <| call (vs := [_, _]) rfl rfl ok_make (c_make x.lack lv hT1 (Row.own (Strs.ext0' hlv hx1))) ?_
  rintro e w2 ⟨rfl, hT2, hx2⟩
  refine ⟨_, rfl, ?_⟩
  refine L.nil ?_
  refine N.th ?_
  refine W.seq ?_
  refine W.seq ?_
  have hneT : ¬ Two bt bm w.heap.size := by
    have := ht.lt
    rintro (e | e) <;> omega
  have hg2 := hx2.obj hg1 hneT
  have hfv2 := strs_tree (Strs.ext0' hfv hx1) hT1 hx2
  have htv2 := strs_tree (Strs.ext0' htv hx1) hT1 hx2
  obtain ⟨fa, fc, rfl, hfn, hfm⟩ := own_slice hfv
  obtain ⟨ta, tc, rfl, htn, htm⟩ := own_slice htv
  simp only [maxLen] at hfm htm
  refine W.reg <| fad rfl fl_Move_0 rfl <| ld1 rfl ag_strs rfl (cell_of hg2 (i := 0) (v := .slice fa x.src.length fc) rfl) <| lenV rfl u_strs rfl <| mv rfl rfl <| L.nil ?_
  refine N.th ?_
  refine W.block ?_
  refine W.loop (X := List Tr.Bytes × List Tr.Bytes × List Tr.Bytes × List Tr.Bytes × Tr.T) (fun y => [(14, .int .i64 y.1.length), (13, .int .i64 x.src.length), (12, .slice fa x.src.length fc), (0, pT bt), (3, .pointer (some ⟨w.heap.size, 0, none⟩))])
    (fun y w' => x.src = y.1 ++ y.2.1 ∧ x.dst = y.2.2.1 ++ y.2.2.2.1 ∧ y.1.length = y.2.2.1.length ∧ TreeAt A w' bt bm y.2.2.2.2 sz ∧ Tr.copyL (Tr.make m x.lack) x.src x.dst = Tr.copyL y.2.2.2.2 y.2.1 y.2.2.2.1 ∧ (∀ k ∈ x.src, (Tr.get y.2.2.2.2 k).isSome = true) ∧ Ext (Two bt bm) w2 w') (fun y => y.2.1.length) ([], x.src, [], x.dst, Tr.make m x.lack) ⟨rfl, rfl, rfl, rfl, rfl, trivial⟩
    ⟨rfl, rfl, rfl, hT2, rfl, fun k hk => isSome_make (hin k hk), Ext.refl _ _⟩ ?_
  rintro ⟨pre, rest, preD, restD, mm⟩ w3 ⟨hls, hld, hle, hT3, hcp, hin3, hx3⟩
  dsimp only at hls hld hle hT3 hcp hin3 ⊢
  have hneT2 : ¬ Two bt bm w.heap.size := hneT
  have hg3 := hx3.obj hg2 hneT
  refine W.seq ?_
  refine W.reg <| lssI rfl rfl rfl <| L.nil ?_
  refine N.th ?_
  refine W.seq ?_
  refine W.cond rfl (fun h => ?_) (fun h => ?_)
  · refine W.skip ?_
    refine N.th ?_
    cases rest with
    | nil => rw [hls] at h; simp at h
    | cons k rest =>
    have hpl : pre.length + 1 ≤ x.src.length := by rw [hls]; simp
    cases restD with
    | nil =>
      have h1 := congrArg List.length hls
      have h2 := congrArg List.length hld
      simp at h1 h2; omega
    | cons d restD =>
    have hfv3 := strs_tree hfv2 hT2 hx3
    have htv3 := strs_tree htv2 hT2 hx3
    have hplD : preD.length + 1 ≤ x.dst.length := by rw [hld]; simp
    refine W.seq ?_
    refine W.block ?_
    refine W.seq ?_
    rcases (Row.own hfv3).form with ⟨h0, h1, _⟩ | ⟨b, o, c, h0, h1, h2, h3, hcell⟩
    · omega
    cases h0
    rcases (Row.own htv3).form with ⟨h0, h1', _⟩ | ⟨b', o', c', h0, h1', h2', h3', hcell'⟩
    · omega
    cases h0
    have hck : w3.cell? ⟨b, o + pre.length, none⟩ = some (.string (S k)) := hcell pre.length _ (by rw [hls]; simp [encT])
    have hcd : w3.cell? ⟨b', o' + pre.length, none⟩ = some (.string (S d)) := hcell' pre.length _ (by rw [hle, hld]; simp [encT])
    refine W.reg <| mv rfl rfl <| ixa rfl rfl u_strs sz_str rfl (by omega) (by omega) <| ld1 rfl ag_str rfl (by rw [Nat.mul_one]; exact hck) <| asg rfl rfl <| asg rfl rfl <| L.nil ?_
    refine N.th ?_
    refine W.seq ?_
    obtain ⟨y, hy⟩ := Option.isSome_iff_exists.1 (hin3 k (by rw [hls]; simp))
    obtain ⟨al, hal3, hr3⟩ := hT3.reps
    have hlook := hr3.look k
    rw [hy] at hlook
    obtain ⟨nb, sl, hvp, hnb, hav, hrow⟩ := hlook
    obtain ⟨-, sa, sc, rfl, hsn, hsm, -, -⟩ := id hrow
    refine W.reg <| mv rfl rfl <| nilc rfl rfl <| fad rfl fl_Tree_0 rfl <| ld1 rfl ag_mNode rfl hT3.c0 <| mv rfl rfl <| lku rfl rfl u_mNode u_str ze_pNode rfl hal3 <| ?_
    rw [hvp]
    refine nilc rfl rfl <| ldk (cs := [.bool y.1, .slice sa y.2.length sc]) rfl ag_Node sz_Node rfl rfl (row_cells hnb) <| new ze_Node rfl <| stR (cells := #[.bool y.1, .slice sa y.2.length sc]) rfl rfl sz_Node rfl (heap_new _ _) rfl <| L.nil ?_
    obtain ⟨w4, hw4⟩ : ∃ w4, w4 = (w3.alloc (.cells (Value.cells (.agg #[.bool false, .slice none 0 0])) tN)).setRow w3.heap.size #[.bool y.1, .slice sa y.2.length sc] := ⟨_, rfl⟩
    have hx4 : Ext none_ w3 w4 := by rw [hw4]; exact (Ext.alloc none_ _ _).trans' (Ext.setRow (S := fun k => k = w3.heap.size) _ (fun _ => rfl) _) (fun i hi e => by omega)
    have hnew : w4.heap[w3.heap.size]? = some (.cells #[.bool y.1, .slice sa y.2.length sc] tN (0, 0)) := by rw [hw4]; exact setRow_heap _ _ _ _ _ _ (heap_new _ _)
    rw [← hw4]
    refine N.th ?_
    have hT4 := hT3.ext0 hx4
    have hdr := Ext.drew none_ w4
    have hg4 := hdr.obj (hx4.obj hg3 id) id
    have hx4d := hx4.trans hdr
    have hcd4 : w4.drew.cell? ⟨b', o' + pre.length, none⟩ = some (.string (S d)) := by rw [← hcd]; exact World.cell?_of_block (hx4d.block b' h3' id)
    refine W.draw [] true (fun w' => w' = w4.drew) [0, 1, 2, 3, 4, 5, 6, 7, 8, 9] rfl rfl (by kernel_rfl) rfl ?_   -- held
    refine mv rfl rfl <| nilc rfl rfl <| fad rfl fl_Tree_0 rfl <| ldK rfl ag_mNode rfl (fun w' e => e ▸ (hT4.ext0 hdr).c0) <| fad rfl fl_Move_1 rfl <| ldK (v := .slice (some ⟨b', o', none⟩) x.dst.length tc) rfl ag_strs rfl (fun w' e => e ▸ cell_of hg4 (i := 1) rfl) <| mv rfl rfl <|
      ixa rfl rfl u_strs sz_str rfl (by omega) (by omega) <| ldK rfl ag_str rfl (fun w' e => by rw [Nat.mul_one, e]; exact hcd4) <| mupY rfl rfl rfl u_mNode u_str (hal3.ext hx4d id) fun w5 hm5 hx5 hs5 => ⟨.inl ⟨rfl, rfl⟩, ?_⟩
    have hT5 : TreeAt A w5 bt bm (Tr.set mm d y) sz :=
      TreeAt.mapSet (x := y) (hal3.ext hx4d id) (hr3.ext hx4d (Kd.none _)) ((hT4.ext0 hdr).cell) ⟨_, _, rfl, hdr.obj hnew id, hav, (hrow.ext0 hx4d)⟩ hm5 hx5 ((hT4.ext0 hdr).lowAt (Nat.le_refl _))
    refine L.nilH ?_
    refine N.inb ?_
    refine N.th ?_
    refine W.reg <| addI (c := (pre.length : Int) + 1) rfl rfl rfl (w64 (by omega) (by omega)) <| mv rfl rfl <| L.nil ?_
    refine N.th (N.round (x := (pre ++ [k], rest, preD ++ [d], restD, Tr.set mm d y)) ⟨?_, rfl, rfl, rfl, rfl, trivial⟩ ⟨by simp [hls], by simp [hld], by simp [hle], hT5, ?_, fun j hj => isSome_set (hin3 j hj), hx3.trans (hx4d.none.trans (hx5.mono fun _ _ h => .inr h))⟩ (by simp))   -- ROUND
    · simp [getE]
    · rw [hcp, copyL_cons, hy]; rfl
  · refine W.exit ?_
    refine N.xth ?_
    refine N.xth ?_
    refine N.xeq ?_
    refine N.th ?_
    cases rest with
    | cons k rest => rw [hls] at h; simp at h; omega
    | nil =>
    have hcp' : Tr.copy m x = mm := by unfold Tr.copy; rw [hcp, copyL_nil]
    have hdr := Ext.drew none_ w3
    have hgd := hdr.obj hg3 id
    have hTd := hT3.ext0 hdr
    refine W.draw [] true (fun w' => w' = w3.drew) [0, 1, 2, 3, 4, 5, 6, 7, 8, 9] rfl rfl (by kernel_rfl) rfl ?_   -- held
    refine mv rfl rfl <| nilc rfl rfl <| fad rfl fl_Tree_1 rfl <| ldK rfl ag_int rfl (fun w' e => e ▸ hTd.c1) <| fad rfl fl_Move_3 rfl <| ldK (v := .int .i64 x.bytes) rfl ag_int rfl (fun w' e => e ▸ cell_of hgd (i := 3) rfl) <| addI (c := sz + x.bytes) rfl rfl rfl (w64 (by omega) (by omega)) <| nilc rfl rfl <| fad rfl fl_Tree_1 rfl <|
      st1 rfl rfl sz_int rfl hTd.cell rfl (hS := .inl ⟨rfl, rfl⟩) <| L.nilH ?_
    have hxs : Ext (fun k => k = bt) w3.drew (w3.drew.setCell ⟨bt, 0 + 1, none⟩ (.int .i64 (sz + x.bytes))) := Ext.setCell (S := fun k => k = bt) _ (fun _ => rfl) _
    refine N.end0 rfl ?_
    obtain ⟨al3, hm3, hr3⟩ := hTd.reps
    refine ⟨rfl, ⟨?_, ⟨al3, ?_, ?_⟩, hTd.lowAt hxs.size⟩, ?_⟩
    · rw [setCell_heap hTd.cell]; rfl
    · exact hm3.ext hxs (fun e => hTd.ne e.symm)
    · rw [hcp']; exact hr3.ext hxs (fun i hi => hTd.kd i (.inl hi))
    · exact hx1.none.trans (hx2.trans (hx3.trans (hdr.none.trans (hxs.mono fun _ _ h => .inl h))))

theorem dests_len (n : Nat) (q : Tr.Bytes) : ∀ l, (Tr.dests n q l).2 = 0 → (Tr.dests n q l).1.length = l.length := by
  intro l
  induction l with
  | nil => intro _; rfl
  | cons k l ih =>
    intro h
    rw [dests_cons] at h ⊢
    split
    · rename_i hc; rw [if_pos hc] at h; exact absurd h hc
    · rename_i hc
      rw [if_neg hc] at h
      split
      · rename_i hd; rw [if_pos hd] at h; exact absurd h hd
      · rename_i hd
        simp [ih (by simpa using hd)]
theorem plan_spec {m : Tr.T} {s d : Tr.Bytes} {x : Tr.Move} {e : Int} (h : Tr.plan m s d = (some x, e)) : e = 0 ∧ x.src = Tr.below m (Sp.clean s).1 ∧ (Tr.dests (Sp.clean s).1.length (Sp.clean d).1 x.src) = (x.dst, 0) ∧ Tr.ahead m (Sp.clean d).1 = some x.lack ∧
    x.bytes = (x.src.map fun k => ((Tr.get m k).getD (true, [])).2.length).sum ∧ (Sp.clean s).2 = 0 ∧ (Sp.clean d).2 = 0 ∧ (Tr.at_ m (Sp.clean s).1).isSome ∧ (Sp.clean s).1 ≠ [] ∧ Sp.within (Sp.clean d).1 (Sp.clean s).1 = false ∧ Tr.at_ m (Sp.clean d).1 = none := by
  unfold Tr.plan at h
  split at h
  · cases h
  rename_i h1
  split at h
  · cases h
  rename_i h2
  dsimp only at h
  split at h
  · cases h
  rename_i h3
  split at h
  · cases h
  rename_i h4
  split at h
  · cases h
  rename_i h5
  split at h
  · cases h
  rename_i lack h6
  split at h
  · cases h
  rename_i h7
  cases h
  have hk : Tr.at_ m (Sp.clean d).1 = none := by
    cases hh : Tr.at_ m (Sp.clean d).1 with
    | none => rfl
    | some x => rw [hh] at h5; simp at h5
  have hj : (Tr.at_ m (Sp.clean s).1).isSome = true := by
    cases hh : Tr.at_ m (Sp.clean s).1 with
    | none => rw [hh] at h3; simp at h3
    | some x => rfl
  refine ⟨rfl, rfl, Prod.ext rfl (by simpa using h7), h6, rfl, by simpa using h1, by simpa using h2, hj, fun e => h4 (.inl e), ?_, hk⟩
  cases hw : Sp.within (Sp.clean d).1 (Sp.clean s).1 with
  | false => rfl
  | true => exact absurd (.inr hw) h4
theorem isSome_copyL : ∀ (l r : List Tr.Bytes) {m : Tr.T} {k : Tr.Bytes}, (Tr.get m k).isSome = true → (Tr.get (Tr.copyL m l r) k).isSome = true := by
  intro l
  induction l with
  | nil => intro r m k h; rw [copyL_nil]; exact h
  | cons a l ih =>
    intro r m k h
    cases r with
    | nil => exact h
    | cons b r => rw [copyL_cons]; exact ih r (isSome_set h)
theorem nodup_copyL : ∀ (l r : List Tr.Bytes) {m : Tr.T}, (m.map (·.1)).Nodup → ((Tr.copyL m l r).map (·.1)).Nodup := by
  intro l
  induction l with
  | nil => intro r m h; rw [copyL_nil]; exact h
  | cons a l ih =>
    intro r m h
    cases r with
    | nil => exact h
    | cons b r => rw [copyL_cons]; exact ih r (Tr.nodup_set _ _ h)

theorem plan_none {m : Tr.T} {s d : Tr.Bytes} {ee : Int} (hP : Tr.plan m s d = (none, ee)) : ee ≠ 0 := by
  intro e0
  subst e0
  have h := hP
  unfold Tr.plan at h
  split at h
  · rename_i h1; exact h1 (congrArg Prod.snd h)
  split at h
  · rename_i h1; exact h1 (congrArg Prod.snd h)
  dsimp only at h
  split at h
  · cases h
  split at h
  · cases h
  split at h
  · cases h
  split at h
  · cases h
  split at h
  · rename_i h1; exact h1 (congrArg Prod.snd h)
  · cases h

theorem c_Rename {w : World} {bt bm : Nat} {m : Tr.T} (s d : Tr.Bytes) (ht : Tree A w bt bm m) (hkl : ∀ p ∈ m, p.1.length ≤ 100000) (hsz : ∀ x e, Tr.plan m s d = (some x, e) → Tr.size (Tr.copy m x) = Tr.size m + x.bytes) :
    Calls P 43 #[pT bt, .string (S s), .string (S d)] w (Does A bt bm w (Tr.rename m s d)) := by
  have hm1 := ht.len
  have hm2 := ht.bytes
  refine enter (l := [_, _, _]) (n := 32) Tryz.func43 rfl rfl rfl ?_
  refine W.seq ?_
  refine W.reg <| asg rfl rfl <| L.nil ?_
  refine N.th ?_
  refine W.seq ?_
  refine W.reg <| mv rfl rfl <| mv rfl rfl <| mv rfl rfl <| call (vs := [_, _, _]) rfl rfl ok_plan (c_plan s d ht hkl) ?_
  rintro e w1 ⟨hx1, hpl⟩
  have hT1 := ht.at_.ext0 hx1
  cases hP : Tr.plan m s d with
  | mk o ee =>
  rw [hP] at hpl
  cases o with
  | none =>
    obtain rfl := hpl
    refine ⟨_, rfl, ?_⟩
    have hee : ee ≠ 0 := plan_none hP
    refine mv rfl rfl <| ext (v := moveZ) rfl rfl rfl <| ext (v := .int .i64 ee) rfl rfl rfl <| new ze_Move rfl <| stR rfl rfl sz_Move rfl (heap_new _ _) rfl <| asg rfl rfl <| L.nil ?_
    refine N.th ?_
    refine W.seq ?_
    refine W.seq ?_
    refine W.reg <| mv rfl rfl <| neqI rfl rfl rfl <| L.nil ?_
    refine N.th ?_
    refine W.cond rfl (fun h => ?_) (fun h => by simp at h; exact absurd h hee)
    refine W.seq ?_
    refine W.reg <| mv rfl rfl <| asg rfl rfl <| L.nil ?_
    refine N.th ?_
    refine W.ret ?_
    refine N.rth ?_
    refine N.ret1 rfl rfl ?_   -- RETURN
    unfold Tr.rename; rw [hP]
    have hx2 : Ext none_ w1 ((w1.alloc (.cells (Value.cells (.agg #[.slice none 0 0, .slice none 0 0, .slice none 0 0, .int .i64 0])) tM)).setRow w1.heap.size #[.slice none 0 0, .slice none 0 0, .slice none 0 0, .int .i64 0]) :=
      (Ext.alloc none_ _ _).trans' (Ext.setRow (S := fun k => k = w1.heap.size) _ (fun _ => rfl) _) (fun i hi e => by omega)
    exact ⟨rfl, hT1.ext0 hx2, (hx1.trans hx2).none⟩
  | some x =>
    obtain ⟨v, rfl, hv⟩ := hpl
    refine ⟨_, rfl, ?_⟩
    obtain ⟨rfl, hsrc, hdst, hlack, hbytes, -⟩ := plan_spec hP
    have hsz' := hsz x 0 hP
    have hin : ∀ k ∈ x.src, (Tr.get m k).isSome = true := fun k hk => below_in (hsrc ▸ hk)
    have hdl : x.dst.length = x.src.length := by have := dests_len _ _ _ (show (Tr.dests (Sp.clean s).1.length (Sp.clean d).1 x.src).2 = 0 by rw [hdst]); rw [hdst] at this; exact this
    have hsl : x.src.length ≤ 500 := by rw [hsrc]; have := Tr.len_below m (Sp.clean s).1; omega
    have hbb : x.bytes ≤ 500 * 1048576 := by
      have h1 := bytes_le m x.src
      have : x.src.length * Tr.size m ≤ 500 * 1048576 := Nat.mul_le_mul hsl hm2
      omega
    have hlk := Tr.ahead_len hlack
    have hcd := clean_len d
    obtain ⟨fv, tv, lv, rfl, hfv, htv, hlv⟩ := hv
    obtain ⟨la, lc, rfl, hln, hlm⟩ := own_slice hlv
    refine mv rfl rfl <| ext (v := .agg #[fv, tv, .slice la x.lack.length lc, .int .i64 x.bytes]) rfl rfl rfl <| ext (v := .int .i64 0) rfl rfl rfl <| new ze_Move rfl <| stR rfl rfl sz_Move ?_ (heap_new _ _) rfl <| asg rfl rfl <| L.nil ?_
    · show (Value.oneCell' fv && (Value.oneCell' tv && (true && (true && true)))) = true
      rw [(own_cells hfv).2, (own_cells htv).2]; rfl
    obtain ⟨w2, hw2⟩ : ∃ w2, w2 = (w1.alloc (.cells (Value.cells (.agg #[.slice none 0 0, .slice none 0 0, .slice none 0 0, .int .i64 0])) tM)).setRow w1.heap.size #[fv, tv, .slice la x.lack.length lc, .int .i64 x.bytes] := ⟨_, rfl⟩
    have hx2 : Ext none_ w1 w2 := by rw [hw2]; exact (Ext.alloc none_ _ _).trans' (Ext.setRow (S := fun k => k = w1.heap.size) _ (fun _ => rfl) _) (fun i hi e => by omega)
    have hg2 : w2.heap[w1.heap.size]? = some (.cells [fv, tv, .slice la x.lack.length lc, .int .i64 x.bytes].toArray tM (0, 0)) := by rw [hw2]; exact setRow_heap _ _ _ _ _ _ (heap_new _ _)
    rw [← hw2]
    refine N.th ?_
    refine W.seq ?_
    refine W.seq ?_
    refine W.reg <| mv rfl rfl <| neqI rfl rfl rfl <| L.nil ?_
    refine N.th ?_
    refine W.condF rfl ?_
    refine W.skip ?_
    refine N.th ?_
    refine W.seq ?_
    refine W.seq ?_
    have hT2 := hT1.ext0 hx2
    refine W.reg <| mv rfl rfl <| fad rfl fl_Move_2 rfl <| ld1 rfl ag_strs rfl (cell_of hg2 (i := 2) (v := .slice la x.lack.length lc) rfl) <| lenV rfl u_strs rfl <| call (vs := [_, _, _]) rfl rfl ok_room (c_room hT2 (by omega) (by omega) (by omega)) ?_
    rintro e w3 ⟨rfl, rfl⟩
    refine ⟨_, rfl, ?_⟩
    refine notB rfl rfl <| L.nil ?_
    refine N.th ?_
    refine W.cond rfl (fun h => ?_) (fun h => ?_)
    · refine W.seq ?_
      refine W.reg <| asg rfl rfl <| L.nil ?_
      refine N.th ?_
      refine W.ret ?_
      refine N.rth ?_
      refine N.ret1 rfl rfl ?_   -- RETURN
      unfold Tr.rename; rw [hP]
      dsimp only
      rw [if_pos (by unfold Tr.room; simpa only [Bool.not_eq_true'] using h)]
      exact ⟨rfl, hT2, (hx1.trans hx2).none⟩
    · refine W.skip ?_
      refine N.th ?_
      refine W.seq ?_
      refine W.reg <| mv rfl rfl <| ldk (cs := [fv, tv, .slice la x.lack.length lc, .int .i64 x.bytes]) rfl ag_Move sz_Move rfl rfl (row_cells hg2) <| call (vs := [_, _]) rfl rfl ok_copy (c_copy (B := w.heap.size) (x := x) hT2 ⟨fv, tv, _, rfl, Strs.ext0' hfv hx2, Strs.ext0' htv hx2, Strs.ext0' hlv hx2⟩ hin hdl (by omega) (by omega) (by omega) (by omega)) ?_
      rintro e w4 ⟨rfl, hT4, hx4⟩
      refine ⟨_, rfl, ?_⟩
      refine L.nil ?_
      refine N.th ?_
      refine W.seq ?_
      have hneT : ¬ Two bt bm w1.heap.size := by
        have := hT1.lt
        rintro (e | e) <;> omega
      have hg4 := hx4.obj hg2 hneT
      have hfv4 := strs_tree (Strs.ext0' hfv hx2) hT2 hx4
      refine W.reg <| mv rfl rfl <| fad rfl fl_Move_0 rfl <| ld1 rfl ag_strs rfl (cell_of hg4 (i := 0) (v := fv) rfl) <| call (vs := [_, _]) rfl rfl ok_drop (c_drop x.src fv hT4 (Row.own hfv4) (fun k hk => isSome_copyL _ _ (isSome_make (hin k hk))) (hsrc ▸ Tr.nodup_below hT2.nodup) (by omega) (by omega) (by omega)) ?_
      rintro e w5 ⟨rfl, hT5, hx5⟩
      refine ⟨_, rfl, ?_⟩
      refine L.nil ?_
      refine N.th ?_
      refine W.seq ?_
      refine W.reg <| asg rfl rfl <| L.nil ?_
      refine N.th ?_
      refine W.ret ?_
      refine N.ret1 rfl rfl ?_   -- RETURN
      have hr : Tr.room m x.lack.length 0 = true := by unfold Tr.room; simpa only [Bool.not_eq_false'] using h
      unfold Tr.rename; rw [hP]
      dsimp only
      rw [if_neg (by rw [hr]; simp)]
      refine ⟨rfl, ?_, (hx1.trans hx2).none.trans (hx4.trans hx5)⟩
      dsimp only
      rw [show ((Tr.size (Tr.drop (Tr.copy m x) x.src) : Nat) : Int) = (Tr.size m : Int) + x.bytes - Tr.size (Tr.copy m x) + Tr.size (Tr.drop (Tr.copy m x) x.src) by omega]
      exact hT5
theorem c_Copy {w : World} {bt bm : Nat} {m : Tr.T} (s d : Tr.Bytes) (ht : Tree A w bt bm m) (hkl : ∀ p ∈ m, p.1.length ≤ 100000) (hsz : ∀ x e, Tr.plan m s d = (some x, e) → Tr.size (Tr.copy m x) = Tr.size m + x.bytes) :
    Calls P 45 #[pT bt, .string (S s), .string (S d)] w (Does A bt bm w (Tr.cpy m s d)) := by
  have hm1 := ht.len
  have hm2 := ht.bytes
  refine enter (l := [_, _, _]) (n := 34) Tryz.func45 rfl rfl rfl ?_
  refine W.seq ?_
  refine W.reg <| asg rfl rfl <| L.nil ?_
  refine N.th ?_
  refine W.seq ?_
  refine W.reg <| mv rfl rfl <| mv rfl rfl <| mv rfl rfl <| call (vs := [_, _, _]) rfl rfl ok_plan (c_plan s d ht hkl) ?_
  rintro e w1 ⟨hx1, hpl⟩
  have hT1 := ht.at_.ext0 hx1
  cases hP : Tr.plan m s d with
  | mk o ee =>
  rw [hP] at hpl
  cases o with
  | none =>
    obtain rfl := hpl
    refine ⟨_, rfl, ?_⟩
    have hee : ee ≠ 0 := plan_none hP
    refine mv rfl rfl <| ext (v := moveZ) rfl rfl rfl <| ext (v := .int .i64 ee) rfl rfl rfl <| new ze_Move rfl <| stR rfl rfl sz_Move rfl (heap_new _ _) rfl <| asg rfl rfl <| L.nil ?_
    refine N.th ?_
    refine W.seq ?_
    refine W.seq ?_
    refine W.reg <| mv rfl rfl <| neqI rfl rfl rfl <| L.nil ?_
    refine N.th ?_
    refine W.cond rfl (fun h => ?_) (fun h => by simp at h; exact absurd h hee)
    refine W.seq ?_
    refine W.reg <| mv rfl rfl <| asg rfl rfl <| L.nil ?_
    refine N.th ?_
    refine W.ret ?_
    refine N.rth ?_
    refine N.ret1 rfl rfl ?_   -- RETURN
    unfold Tr.cpy; rw [hP]
    have hx2 : Ext none_ w1 ((w1.alloc (.cells (Value.cells (.agg #[.slice none 0 0, .slice none 0 0, .slice none 0 0, .int .i64 0])) tM)).setRow w1.heap.size #[.slice none 0 0, .slice none 0 0, .slice none 0 0, .int .i64 0]) :=
      (Ext.alloc none_ _ _).trans' (Ext.setRow (S := fun k => k = w1.heap.size) _ (fun _ => rfl) _) (fun i hi e => by omega)
    exact ⟨rfl, hT1.ext0 hx2, (hx1.trans hx2).none⟩
  | some x =>
    obtain ⟨v, rfl, hv⟩ := hpl
    refine ⟨_, rfl, ?_⟩
    obtain ⟨rfl, hsrc, hdst, hlack, hbytes, -⟩ := plan_spec hP
    have hsz' := hsz x 0 hP
    have hin : ∀ k ∈ x.src, (Tr.get m k).isSome = true := fun k hk => below_in (hsrc ▸ hk)
    have hdl : x.dst.length = x.src.length := by have := dests_len _ _ _ (show (Tr.dests (Sp.clean s).1.length (Sp.clean d).1 x.src).2 = 0 by rw [hdst]); rw [hdst] at this; exact this
    have hsl : x.src.length ≤ 500 := by rw [hsrc]; have := Tr.len_below m (Sp.clean s).1; omega
    have hbb : x.bytes ≤ 500 * 1048576 := by
      have h1 := bytes_le m x.src
      have : x.src.length * Tr.size m ≤ 500 * 1048576 := Nat.mul_le_mul hsl hm2
      omega
    have hlk := Tr.ahead_len hlack
    have hcd := clean_len d
    obtain ⟨fv, tv, lv, rfl, hfv, htv, hlv⟩ := hv
    obtain ⟨la, lc, rfl, hln, hlm⟩ := own_slice hlv
    refine mv rfl rfl <| ext (v := .agg #[fv, tv, .slice la x.lack.length lc, .int .i64 x.bytes]) rfl rfl rfl <| ext (v := .int .i64 0) rfl rfl rfl <| new ze_Move rfl <| stR rfl rfl sz_Move ?_ (heap_new _ _) rfl <| asg rfl rfl <| L.nil ?_
    · show (Value.oneCell' fv && (Value.oneCell' tv && (true && (true && true)))) = true
      rw [(own_cells hfv).2, (own_cells htv).2]; rfl
    obtain ⟨w2, hw2⟩ : ∃ w2, w2 = (w1.alloc (.cells (Value.cells (.agg #[.slice none 0 0, .slice none 0 0, .slice none 0 0, .int .i64 0])) tM)).setRow w1.heap.size #[fv, tv, .slice la x.lack.length lc, .int .i64 x.bytes] := ⟨_, rfl⟩
    have hx2 : Ext none_ w1 w2 := by rw [hw2]; exact (Ext.alloc none_ _ _).trans' (Ext.setRow (S := fun k => k = w1.heap.size) _ (fun _ => rfl) _) (fun i hi e => by omega)
    have hg2 : w2.heap[w1.heap.size]? = some (.cells [fv, tv, .slice la x.lack.length lc, .int .i64 x.bytes].toArray tM (0, 0)) := by rw [hw2]; exact setRow_heap _ _ _ _ _ _ (heap_new _ _)
    rw [← hw2]
    refine N.th ?_
    refine W.seq ?_
    refine W.seq ?_
    refine W.reg <| mv rfl rfl <| neqI rfl rfl rfl <| L.nil ?_
    refine N.th ?_
    refine W.condF rfl ?_
    refine W.skip ?_
    refine N.th ?_
    refine W.seq ?_
    refine W.seq ?_
    have hT2 := hT1.ext0 hx2
    obtain ⟨fa, fc, rfl, hfn, hfm⟩ := own_slice hfv
    refine W.reg <| mv rfl rfl <| fad rfl fl_Move_2 rfl <| ld1 rfl ag_strs rfl (cell_of hg2 (i := 2) (v := .slice la x.lack.length lc) rfl) <| lenV rfl u_strs rfl <| fad rfl fl_Move_0 rfl <| ld1 rfl ag_strs rfl (cell_of hg2 (i := 0) (v := .slice fa x.src.length fc) rfl) <| lenV rfl u_strs rfl <| addI (c := (x.lack.length : Int) + x.src.length) rfl rfl rfl (w64 (by omega) (by omega)) <|
      fad rfl fl_Move_3 rfl <| ld1 rfl ag_int rfl (cell_of hg2 (i := 3) (v := .int .i64 x.bytes) rfl) <| call (vs := [_, _, _]) rfl rfl ok_room (c_room hT2 (by omega) (by omega) (by omega)) ?_
    rintro e w3 ⟨rfl, rfl⟩
    refine ⟨_, rfl, ?_⟩
    refine notB rfl rfl <| L.nil ?_
    refine N.th ?_
    refine W.cond rfl (fun h => ?_) (fun h => ?_)
    · refine W.seq ?_
      refine W.reg <| asg rfl rfl <| L.nil ?_
      refine N.th ?_
      refine W.ret ?_
      refine N.rth ?_
      refine N.ret1 rfl rfl ?_   -- RETURN
      unfold Tr.cpy; rw [hP]
      dsimp only
      rw [if_pos (by unfold Tr.room; simpa only [Bool.not_eq_true'] using h)]
      exact ⟨rfl, hT2, (hx1.trans hx2).none⟩
    · refine W.skip ?_
      refine N.th ?_
      refine W.seq ?_
      refine W.reg <| mv rfl rfl <| ldk (cs := [.slice fa x.src.length fc, tv, .slice la x.lack.length lc, .int .i64 x.bytes]) rfl ag_Move sz_Move rfl rfl (row_cells hg2) <| call (vs := [_, _]) rfl rfl ok_copy (c_copy (B := w.heap.size) (x := x) hT2 ⟨_, tv, _, rfl, Strs.ext0' hfv hx2, Strs.ext0' htv hx2, Strs.ext0' hlv hx2⟩ hin hdl (by omega) (by omega) (by omega) (by omega)) ?_
      rintro e w4 ⟨rfl, hT4, hx4⟩
      refine ⟨_, rfl, ?_⟩
      refine L.nil ?_
      refine N.th ?_
      refine W.seq ?_
      refine W.reg <| asg rfl rfl <| L.nil ?_
      refine N.th ?_
      refine W.ret ?_
      refine N.ret1 rfl rfl ?_   -- RETURN
      have hr : Tr.room m ((x.lack.length : Int) + x.src.length) x.bytes = true := by unfold Tr.room; simpa only [Bool.not_eq_false'] using h
      unfold Tr.cpy; rw [hP]
      dsimp only
      rw [if_neg (by rw [hr]; simp)]
      refine ⟨rfl, ?_, (hx1.trans hx2).none.trans hx4⟩
      dsimp only
      rw [hsz']
      exact hT4
end Go.Proofs.YtmdpmpdlkaogdaaGreatDoor
