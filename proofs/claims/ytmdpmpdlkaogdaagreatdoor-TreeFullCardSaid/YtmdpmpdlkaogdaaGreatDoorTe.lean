/- Walks: (*tree.Tree).below, drop, Remove. -/
import Derived.Test.YtmdpmpdlkaogdaaGreatDoorTd
import Derived.Lib.OwnBridge
import Derived.Sort.OwnSorted
namespace Go.Proofs.YtmdpmpdlkaogdaaGreatDoor
open Go Go.RowKit Vc
variable {A : Nat → Prop}

theorem ok_Sort : FnOk P 102 := ⟨_, Tryz.func102, by kernel_rfl, by kernel_rfl⟩
theorem ok_below : FnOk P 72 := ⟨_, Tryz.func72, by kernel_rfl, by kernel_rfl⟩
theorem ok_drop : FnOk P 71 := ⟨_, Tryz.func71, by kernel_rfl, by kernel_rfl⟩
theorem ok_Remove : FnOk P 34 := ⟨_, Tryz.func34, by kernel_rfl, by kernel_rfl⟩

theorem Ext.growN (w : World) (os : Array Obj) : Vc.Ext none_ w (Sort.grow w os) := ⟨rfl, rfl, rfl, by simp [Sort.grow], fun k hk _ => by simp [Sort.grow, Array.getElem?_append_left hk]⟩
theorem c_Sort {w : World} {B : Nat} {v : Value} {l : List Tr.Bytes} (h : Strs B w v l) (hl : l.length ≤ 1000000000) :
    Calls P 102 #[v] w fun e w' => e = .returned (.tuple #[]) ∧ Strs B w' v (Tr.sort l) ∧ Ext (fun k => v.ownBlock = some k) w w' := by
  by_cases hv : v = .slice none 0 0
  · subst hv
    have hl0 : l = [] := by
      obtain ⟨_, ⟨_, h⟩ | ⟨g, c, cu, h, _⟩⟩ := h
      · exact List.eq_nil_of_length_eq_zero h
      · cases h
    subst hl0
    refine (Tryz.slices_Sort_string_none none 0 w).mono ?_
    rintro e w' ⟨rfl, rfl⟩
    have h0 : Tr.sort [] = [] := by simp [Tr.sort]
    rw [h0]
    exact ⟨rfl, own_nil _ _ _ _, Ext.refl _ _⟩
  · have h' : w.ownsRow B 9 1 v l.length (l.map encStr) := h
    obtain ⟨g, cap, rfl, hb, hg, hn, hm, -, hH⟩ := Lib.holds_of_ownsRow h' hv
    refine (Tryz.slices_Sort_string g 0 cap l w hH hg (by omega)).mono ?_
    rintro e w' ⟨rfl, n, os, rfl⟩
    have hlen : (Tr.sort l).length = l.length := List.length_mergeSort l
    refine ⟨rfl, ?_, (Ext.grown (grownBy_sorted (w := w) (g := g) (n := n) (os := os) _)).mono fun k _ hk => hk.symm⟩
    have := Lib.ownsRow_putRow (q := n) (k := l.length) (ys := Tr.sort l) h' hlen (Nat.le_refl _)
    rw [List.take_of_length_le (Nat.le_of_eq hlen)] at this
    unfold Strs
    rw [hlen]
    exact own_ext this (Ext.growN _ os) fun _ _ => id

theorem c_below {w : World} {bt bm : Nat} {m : Tr.T} {sz : Int} (p : Tr.Bytes) (ht : TreeAt A w bt bm m sz) (hp : p.length ≤ 1000000) (hm : m.length ≤ 1000000) :
    Calls P 72 #[pT bt, .string (S p)] w fun e w' => ∃ v, e = .returned v ∧ Strs w.heap.size w' v (Tr.below m p) ∧ Ext none_ w w' := by
  refine enter (l := [_, _]) (n := 26) Tryz.func72 rfl rfl rfl ?_
  refine W.seq ?_
  refine W.reg <| asg rfl rfl <| L.nil ?_
  refine N.th ?_
  refine W.seq ?_
  refine W.reg <| asg rfl rfl <| L.nil ?_
  refine N.th ?_
  refine W.seq ?_
  refine W.seq ?_
  obtain ⟨al, hal, hr⟩ := ht.reps
  refine W.reg <| mv rfl rfl <| nilc rfl rfl <| fad rfl fl_Tree_0 rfl <| ld1 rfl ag_mNode rfl ht.c0 <| rng rfl u_mNode rfl hal fun w1 hi1 hx1 hs1 => ?_
  refine L.nil ?_
  refine N.th ?_
  refine W.block ?_
  refine W.loop (X := AL × List Tr.Bytes × Value) (fun x => [(11, .pointer (some ⟨w.heap.size, 0, none⟩)), (5, x.2.2), (1, .string (S p)), (0, pT bt)])
    (fun x w' => IterAt w' w.heap.size bm al x.1 ∧ Strs w.heap.size w' x.2.2 x.2.1 ∧ (x.2.1 ++ (x.1.map (·.1)).filter fun k => Sp.within k p).Perm ((m.map (·.1)).filter fun k => Sp.within k p) ∧ x.2.1.length + x.1.length ≤ m.length ∧ Ext none_ w w' ∧ x.2.2.ownBlock ≠ some w.heap.size) (fun x => x.1.length) (al, [], .slice none 0 0) ⟨rfl, rfl, rfl, rfl, trivial⟩
    ⟨hi1, own_nil _ _ _ _, by rw [hr.keys]; simp, by simp [hr.length], hx1, by simp [Value.ownBlock]⟩ ?_
  rintro ⟨left, acc, v⟩ w2 ⟨hi, hown, hperm, hlen, hx, hne⟩
  dsimp only at hi hown hperm hlen hne ⊢
  refine W.seq ?_
  refine W.reg <| nxt rfl rfl hi ?_ ?_
  · rintro rfl
    refine ext rfl rfl rfl <| L.nil ?_
    refine N.th ?_
    refine W.seq ?_
    refine W.condF rfl ?_
    refine W.exit ?_
    refine N.xth ?_
    refine N.xth ?_
    refine N.xeq ?_
    refine N.th ?_
    refine W.seq ?_
    refine W.reg <| mv rfl rfl <| call (vs := [_]) rfl rfl ok_Sort (c_Sort hown (by omega)) ?_
    rintro e w3 ⟨rfl, hs3, hx3⟩
    refine ⟨_, rfl, ?_⟩
    refine L.nil ?_
    refine N.th ?_
    refine W.seq ?_
    refine W.reg <| mv rfl rfl <| asg rfl rfl <| L.nil ?_
    refine N.th ?_
    refine W.ret ?_
    refine N.ret1 rfl rfl ?_   -- RETURN
    refine ⟨_, rfl, ?_, hx.own hown hx3⟩
    rw [Tr.below, ← Tr.sort_perm (by simpa using hperm)]
    exact hs3
  · rintro l1 q l2 w3 rfl hi3 hx3 hs3 hcur
    refine ext rfl rfl rfl <| L.nil ?_
    refine N.th ?_
    refine W.seq ?_
    refine W.condT rfl ?_
    refine W.skip ?_
    refine N.th ?_
    refine W.block ?_
    refine W.seq ?_
    refine W.reg <| ent rfl rfl hcur <| ext rfl rfl rfl <| asg rfl rfl <| L.nil ?_
    refine N.th ?_
    refine W.seq ?_
    have hx03 : Ext none_ w w3 := hx.trans' hx3 fun i hi hh => by omega
    have hown3 : Strs w.heap.size w3 v acc := own_ext hown hx3 fun k hk e => hne (e ▸ hk)
    refine W.reg <| mv rfl rfl <| mv rfl rfl <| call (vs := [_, _]) rfl rfl ok_Within (c_Within q.1 p (by omega) w3) ?_
    rintro e w4 ⟨rfl, rfl⟩
    refine ⟨_, rfl, ?_⟩
    refine L.nil ?_
    refine N.th ?_
    simp only [List.length_append, List.length_cons] at hlen
    simp only [List.map_append, List.map_cons, List.filter_append] at hperm
    refine W.cond rfl (fun h => ?_) (fun h => ?_)
    · rw [List.filter_cons, if_pos h] at hperm
      refine W.reg <| mv rfl rfl <| mv rfl rfl <| bls (vs := #[(0, .string (S q.1))]) (cs := #[.string (S q.1)]) (e := 9) rfl rfl (fun _ => by kernel_rfl) <|
        app rfl rfl rfl el_strs (own_ext hown3 (Ext.alloc none_ _ _) fun _ _ => id) (news := [.string (S q.1)]) rfl (fun j u hj => by
            cases j with
            | zero => cases hj; exact cell1 (heap_new _ _)
            | succ j => cases hj) (by simp [Value.oneCell']) (by omega) (by simp only [maxLen]; omega) (by have := hx03.size; simp; omega) fun v' w5 hown5 hx5 _ hat => ?_
      refine asg rfl rfl <| L.nil ?_
      refine N.inb ?_
      have hx05 : Ext none_ w w5 := (hx03.trans (Ext.alloc none_ _ _)).trans' hx5 fun i hi hh => by have := own_new hown3 i hh; omega
      refine N.th (N.round (x := (l1 ++ l2, acc ++ [q.1], v')) ⟨rfl, rfl, rfl, rfl, trivial⟩ ⟨?_, by simpa [Strs, encT] using hown5, ?_, by simp; omega, hx05, ?_⟩ (by simp))   -- ROUND
      · refine (hi3.ext (Ext.alloc none_ _ _) id id).ext hx5 hne (fun e => ?_)
        have := own_new hown3 _ e
        have := ht.lt.2
        omega
      · refine List.Perm.trans ?_ hperm
        simp only [List.map_append, List.filter_append, List.append_assoc, List.cons_append, List.nil_append]
        exact List.Perm.append_left acc List.perm_middle.symm
      · rcases hat with e | e
        · rw [e]; exact hne
        · rw [e]
          intro e'
          have := hx03.size
          have h1 := hs1
          simp at e'
          obtain ⟨_, _, _, hit, _⟩ := hi3
          have := lt_of_obj hit
          omega
    · rw [List.filter_cons, if_neg (by simp [h])] at hperm
      refine W.skip ?_
      refine N.inb ?_
      refine N.th (N.round (x := (l1 ++ l2, acc, v)) ⟨rfl, rfl, rfl, rfl, trivial⟩ ⟨hi3, hown3, by simpa using hperm, by simp; omega, hx03, hne⟩ (by simp))   -- ROUND

theorem c_drop {w : World} {bt bm : Nat} {m : Tr.T} {sz : Int} (l : List Tr.Bytes) (v : Value) (ht : TreeAt A w bt bm m sz) (hv : Row w v 9 1 l.length (encT l)) (hin : ∀ k ∈ l, (Tr.get m k).isSome = true) (hnd : l.Nodup) (hs0 : 0 ≤ sz - Tr.size m) (hs1 : sz ≤ 1000000000000) (hll : l.length ≤ 1000000) :
    Calls P 71 #[pT bt, v] w fun e w' => e = .returned (.tuple #[]) ∧ TreeAt A w' bt bm (Tr.drop m l) (sz - Tr.size m + Tr.size (Tr.drop m l)) ∧ Ext (Two bt bm) w w' := by
  obtain ⟨-, a, cap, rfl, hn, hmx, -, -⟩ := id hv
  refine enter (l := [_, _]) (n := 35) Tryz.func71 rfl rfl rfl ?_
  refine W.seq ?_
  refine W.reg <| mv rfl rfl <| lenV rfl u_strs rfl <| mv rfl rfl <| L.nil ?_
  refine N.th ?_
  refine W.block ?_
  refine W.loop (X := List Tr.Bytes × List Tr.Bytes) (fun x => [(8, .int .i64 x.1.length), (7, .int .i64 l.length), (6, .slice a l.length cap), (0, pT bt)])
    (fun x w' => l = x.1 ++ x.2 ∧ TreeAt A w' bt bm (Tr.drop m x.1) (sz - Tr.size m + Tr.size (Tr.drop m x.1)) ∧ Tr.size (Tr.drop m x.1) ≤ Tr.size m ∧ Ext (Two bt bm) w w') (fun x => x.2.length) ([], l) ⟨rfl, rfl, rfl, rfl, trivial⟩
    ⟨rfl, by simpa [Tr.drop] using ht, by simp [Tr.drop], Ext.refl _ _⟩ ?_
  rintro ⟨pre, rest⟩ w1 ⟨hl, ht1, hle, hx1⟩
  dsimp only at hl ht1 hle ⊢
  refine W.seq ?_
  refine W.reg <| lssI rfl rfl rfl <| L.nil ?_
  refine N.th ?_
  refine W.seq ?_
  refine W.cond rfl (fun h => ?_) (fun h => ?_)
  · refine W.skip ?_
    refine N.th ?_
    refine W.seq ?_
    refine W.block ?_
    refine W.seq ?_
    cases rest with
    | nil => simp [hl] at h
    | cons k rest =>
    have hpl : pre.length + 1 ≤ l.length := by rw [hl]; simp
    have hv1 : Row w1 (.slice a l.length cap) 9 1 l.length (encT l) := hv.ext hx1 (fun k hk => by
      obtain ⟨cur, fr, hc⟩ := hv.kind k hk
      rintro (rfl | rfl)
      · rw [ht.cell] at hc; cases hc
      · obtain ⟨_, ⟨_, _, hm, _⟩, _⟩ := ht.reps
        rw [hm] at hc; cases hc)
    rcases hv1.form with ⟨h0, h1, _⟩ | ⟨b, o, c, h0, h1, h2, h3, hcell⟩
    · omega
    cases h0
    have hd : w1.cell? ⟨b, o + pre.length, none⟩ = some (.string (S k)) := hcell pre.length _ (by rw [hl]; simp [encT])
    have hkpre : k ∉ pre := by
      intro hk
      rw [hl, List.nodup_append] at hnd
      exact hnd.2.2 k hk k (by simp) rfl
    have hgk : ∀ (p : List Tr.Bytes) (mm : Tr.T), k ∉ p → Tr.get (Tr.drop mm p) k = Tr.get mm k := by
      intro p
      induction p with
      | nil => intro mm _; rfl
      | cons q p ih =>
        intro mm hk
        have : ¬ k = q := fun e => hk (by simp [e])
        show Tr.get (Tr.drop (Tr.del mm q) p) k = _
        rw [ih _ (fun h => hk (by simp [h])), Tr.get_del, if_neg this]
    obtain ⟨x, hx⟩ := Option.isSome_iff_exists.1 (hin k (by rw [hl]; simp))
    have hxp : Tr.get (Tr.drop m pre) k = some x := by rw [hgk pre m hkpre, hx]
    have hsd := Tr.size_del ht1.nodup k
    have hold : Tr.old (Tr.drop m pre) k = x.2.length := by simp [Tr.old, hxp]
    obtain ⟨al, hal, hr⟩ := ht1.reps
    have hlook := hr.look k
    rw [hxp] at hlook
    obtain ⟨nb, sl, hvp, hnb, hav, hrow⟩ := hlook
    obtain ⟨-, sa, sc, rfl, hsn, hsm, -, -⟩ := id hrow
    refine W.reg <| ixa rfl rfl u_strs sz_str rfl (by omega) (by omega) <| ld1 rfl ag_str rfl (by rw [Nat.mul_one]; exact hd) <| asg rfl rfl <| L.nil ?_
    refine N.th ?_
    refine W.seq ?_
    have hdr := Ext.drew none_ w1
    refine W.draw [] true (fun w' => w' = w1.drew) [0, 1, 2, 3, 4, 5, 6, 7, 8, 9, 10, 11, 12, 13, 14, 15, 16, 17] rfl rfl (by kernel_rfl) rfl ?_   -- held
    have hT := ht1.ext0 hdr
    refine mv rfl rfl <| nilc rfl rfl <| fad rfl fl_Tree_1 rfl <| ldK rfl ag_int rfl (fun w' e => e ▸ hT.c1) <| mv rfl rfl <| nilc rfl rfl <| fad rfl fl_Tree_0 rfl <| ldK rfl ag_mNode rfl (fun w' e => e ▸ hT.c0) <| mv rfl rfl <|
      lkuK rfl rfl u_mNode u_str ze_pNode rfl (fun w' e => e ▸ hal.ext hdr id) <| ?_
    rw [hvp]
    have hc1 : w1.drew.cell? ⟨nb, 1, none⟩ = some (.slice sa x.2.length sc) := cell_of (hdr.obj hnb id) rfl
    refine nilc rfl rfl <| fad rfl fl_Node_1 rfl <| ldK rfl ag_bytes rfl (fun w' e => e ▸ hc1) <| lenV rfl u_bytes rfl <| subI (c := sz - Tr.size m + Tr.size (Tr.del (Tr.drop m pre) k)) rfl rfl rfl (by rw [w64 (by omega) (by omega)]; omega) <| nilc rfl rfl <| fad rfl fl_Tree_1 rfl <|
      st1 rfl rfl sz_int rfl hT.cell rfl (hS := .inl ⟨rfl, rfl⟩) <| L.nilH ?_
    refine N.th ?_
    obtain ⟨w2, hw2⟩ : ∃ w2, w2 = w1.drew.setCell ⟨bt, 0 + 1, none⟩ (.int .i64 (sz - Tr.size m + Tr.size (Tr.del (Tr.drop m pre) k))) := ⟨_, rfl⟩
    have hxs : Ext (fun k => k = bt) w1.drew w2 := by rw [hw2]; exact Ext.setCell (S := fun k => k = bt) _ (fun _ => rfl) _
    have hc2 : w2.heap[bt]? = some (.cells #[.map (some bm), .int .i64 (sz - Tr.size m + Tr.size (Tr.del (Tr.drop m pre) k))] tT (0, 0)) := by rw [hw2, setCell_heap hT.cell]; rfl
    have hal2 : MapAt w2 bm al := (hal.ext hdr id).ext hxs (fun e => hT.ne e.symm)
    have hr2 : Reps A w2 al (Tr.drop m pre) := (hr.ext hdr (Kd.none _)).ext hxs (fun i hi => hT.kd i (.inl hi))
    have hT2 : TreeAt A w2 bt bm (Tr.drop m pre) (sz - Tr.size m + Tr.size (Tr.del (Tr.drop m pre) k)) := ⟨hc2, ⟨al, hal2, hr2⟩, hT.lowAt hxs.size⟩
    rw [← hw2]
    refine W.reg <| mv rfl rfl <| nilc rfl rfl <| fad rfl fl_Tree_0 rfl <| ld1 rfl ag_mNode rfl hT2.c0 <| mv rfl rfl <| del rfl rfl rfl u_mNode u_str hal2 fun w3 hal3 hx3 hs3 => ?_
    refine L.nil ?_
    refine N.inb ?_
    refine N.th ?_
    refine W.reg <| addI (c := (pre.length : Int) + 1) rfl rfl rfl (w64 (by omega) (by omega)) <| mv rfl rfl <| L.nil ?_
    have hdp : Tr.drop m (pre ++ [k]) = Tr.del (Tr.drop m pre) k := by simp [Tr.drop]
    have hT3 : TreeAt A w3 bt bm (Tr.del (Tr.drop m pre) k) (sz - Tr.size m + Tr.size (Tr.del (Tr.drop m pre) k)) :=
      ⟨hx3.obj hc2 hT2.ne, ⟨_, hal3, (hr2.del k).ext hx3 (fun i hi => hT2.kd i (.inr hi))⟩, hT2.lowAt hx3.size⟩
    refine N.th (N.round (x := (pre ++ [k], rest)) ⟨?_, rfl, rfl, rfl, trivial⟩ ⟨by simp [hl], ?_, ?_, ?_⟩ (by simp))   -- ROUND
    · simp [getE]
    · dsimp only; rw [hdp]; exact hT3
    · dsimp only; rw [hdp]; omega
    · exact hx1.trans ((hdr.none).trans ((hxs.mono fun _ _ h => .inl h).trans (hx3.mono fun _ _ h => .inr h)))
  · refine W.exit ?_
    refine N.xth ?_
    refine N.xth ?_
    refine N.xeq ?_
    refine N.end0 rfl ?_
    cases rest with
    | cons d rest => rw [hl] at h; simp at h; omega
    | nil =>
    obtain rfl : l = pre := by simpa using hl
    exact ⟨rfl, ht1, hx1⟩
end Go.Proofs.YtmdpmpdlkaogdaaGreatDoor
