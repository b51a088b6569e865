/- Walks: (*tree.Tree).Remove, plan. Walks: (*tree.Tree).copy, Rename, Copy. Walks: cmp.Compare, the order of files, slices.SortFunc at files. slices.SortFunc at files: what it leaves. Walks: (*tree.Tree).Files, Clone. Walks: haversackhelp.Files, haversacklaw8.name. The walk of haversacklaw8.known. -/
import Derived.Test.YtmdpmpdlkaogdaaGreatDoorRa05
import Derived.Test.YtmdpmpdlkaogdaaGreatDoorSg
import Derived.Test.YtmdpmpdlkaogdaaGreatDoorRa02

namespace Go.Proofs.YtmdpmpdlkaogdaaGreatDoor
open Go Go.RowKit Vc
variable {A : Nat → Prop}

theorem ok_plan : FnOk P 81 := ⟨_, Tryz.func81, by kernel_rfl, by kernel_rfl⟩

theorem drop_size_le (l : List Tr.Bytes) : ∀ (m : Tr.T), (m.map (·.1)).Nodup → Tr.size (Tr.drop m l) ≤ Tr.size m := by
  induction l with
  | nil => intro m _; exact Nat.le_refl _
  | cons k l ih =>
    intro m h
    have h1 := ih (Tr.del m k) (Tr.nodup_del k h)
    have h2 := Tr.size_del h k
    show Tr.size (Tr.drop (Tr.del m k) l) ≤ _
    omega

theorem below_in {m : Tr.T} {p k : Tr.Bytes} (h : k ∈ Tr.below m p) : (Tr.get m k).isSome = true := by
  have := (Tr.mem_below.1 h).1
  cases hg : Tr.get m k with
  | none => exact absurd this (Tr.get_none.1 hg)
  | some x => rfl

theorem c_Remove {w : World} {bt bm : Nat} {m : Tr.T} (s : Tr.Bytes) (ht : Tree A w bt bm m) :
    Calls P 34 #[pT bt, .string (S s)] w (Does A bt bm w (Tr.remove m s)) := by
  have hm1 := ht.len
  have hm2 := ht.bytes
  refine enter (l := [_, _]) (n := 31) Tryz.func34 rfl rfl rfl ?_
  refine W.seq ?_
  refine W.reg <| asg rfl rfl <| L.nil ?_
  refine N.th ?_
  refine W.seq ?_
  refine W.reg <| mv rfl rfl <| call (vs := [_]) rfl rfl ok_Clean (c_Clean s w) ?_
  rintro e w1 ⟨rfl, hx1⟩
  refine ⟨_, rfl, ?_⟩
  have hcl := clean_len s
  refine mv rfl rfl <| ext rfl rfl rfl <| ext rfl rfl rfl <| asg rfl rfl <| asg rfl rfl <| L.nil ?_
  refine N.th ?_
  refine W.seq ?_
  refine W.block ?_
  refine W.seq ?_
  have hT1 := ht.at_.ext0 hx1
  refine W.reg <| mv rfl rfl <| neqI rfl rfl rfl <| asg rfl rfl <| L.nil ?_
  refine N.th ?_
  refine W.cond rfl (fun h => ?_) (fun h => ?_)
  · refine W.seq ?_
    refine W.reg <| mv rfl rfl <| asg rfl rfl <| L.nil ?_
    refine N.th ?_
    refine W.ret ?_
    refine N.rinb <| N.rth ?_
    refine N.ret1 rfl rfl ?_   -- RETURN
    have h0 : (Sp.clean s).2 ≠ 0 := by simpa using h
    unfold Tr.remove; rw [if_pos h0]
    exact ⟨rfl, hT1, hx1.none⟩
  have h0 : ¬ (Sp.clean s).2 ≠ 0 := by simpa using h
  refine W.seq ?_
  refine W.reg <| mv rfl rfl <| eqlS (a := (Sp.clean s).1) (b := []) rfl rfl rfl <| asg rfl rfl <| L.nil ?_
  refine N.th ?_
  refine W.cond rfl (fun h => ?_) (fun h => ?_)
  · refine W.seq ?_
    refine W.reg <| asg rfl rfl <| L.nil ?_
    refine N.th ?_
    refine W.ret ?_
    refine N.rinb <| N.rth ?_
    refine N.ret1 rfl rfl ?_   -- RETURN
    have hp : (Sp.clean s).1 = [] := by simpa using h
    unfold Tr.remove; rw [if_neg h0]; dsimp only; rw [if_pos hp]
    exact ⟨rfl, hT1, hx1.none⟩
  have hp : (Sp.clean s).1 ≠ [] := by simpa using h
  refine W.seq ?_
  obtain ⟨al, hal, hr⟩ := hT1.reps
  have hlook := hr.look (Sp.clean s).1
  obtain ⟨q, hq, hqn⟩ : ∃ q, (aget al (Sp.clean s).1).getD (.pointer none) = .pointer q ∧ q.isNone = (Tr.get m (Sp.clean s).1).isNone := by
    cases hg : Tr.get m (Sp.clean s).1 with
    | none => rw [hg] at hlook; exact ⟨none, hlook, rfl⟩
    | some x =>
      rw [hg] at hlook
      obtain ⟨b, sl, hb, -⟩ := hlook
      exact ⟨_, hb, rfl⟩
  refine W.reg <| mv rfl rfl <| nilc rfl rfl <| fad rfl fl_Tree_0 rfl <| ld1 rfl ag_mNode rfl hT1.c0 <| mv rfl rfl <| lku rfl rfl u_mNode u_str ze_pNode rfl hal <| ?_
  rw [hq]
  refine eqlPN rfl u_pNode rfl <| asg rfl rfl <| L.nil ?_
  refine N.th ?_
  refine W.cond rfl (fun h => ?_) (fun h => ?_)
  · refine W.seq ?_
    refine W.reg <| asg rfl rfl <| L.nil ?_
    refine N.th ?_
    refine W.ret ?_
    refine N.rinb <| N.rth ?_
    refine N.ret1 rfl rfl ?_   -- RETURN
    unfold Tr.remove; rw [if_neg h0]; dsimp only; rw [if_neg hp, if_pos (by rw [← hqn]; exact h)]
    exact ⟨rfl, hT1, hx1.none⟩
  · refine W.skip ?_
    refine N.inb ?_
    refine N.th ?_
    refine W.seq ?_
    refine W.reg <| mv rfl rfl <| mv rfl rfl <| mv rfl rfl <| call (vs := [_, _]) rfl rfl ok_below (c_below (Sp.clean s).1 hT1 (by omega) (by omega)) ?_
    rintro e w2 ⟨lv, rfl, hlv, hx2⟩
    refine ⟨_, rfl, ?_⟩
    have hT2 := hT1.ext0 hx2
    have hlb := Tr.len_below m (Sp.clean s).1
    refine call (vs := [_, _]) rfl rfl ok_drop (c_drop (Tr.below m (Sp.clean s).1) lv hT2 (Row.own hlv) (fun k hk => below_in hk) (Tr.nodup_below hT2.nodup) (by omega) (by omega) (by omega)) ?_
    rintro e w3 ⟨rfl, hT3, hx3⟩
    refine ⟨_, rfl, ?_⟩
    refine L.nil ?_
    refine N.th ?_
    refine W.seq ?_
    refine W.reg <| asg rfl rfl <| L.nil ?_
    refine N.th ?_
    refine W.ret ?_
    refine N.ret1 rfl rfl ?_   -- RETURN
    unfold Tr.remove; rw [if_neg h0]; dsimp only; rw [if_neg hp, if_neg (by rw [← hqn, h]; simp)]
    refine ⟨rfl, ?_, (hx1.trans hx2).none.trans hx3⟩
    dsimp only
    have : ((Tr.size m : Int) - Tr.size m + Tr.size (Tr.drop m (Tr.below m (Sp.clean s).1))) = (Tr.size (Tr.drop m (Tr.below m (Sp.clean s).1)) : Int) := by omega
    rw [← this]; exact hT3

/-- A move as it lies in a value. -/
def MoveV (w : World) (B : Nat) (v : Value) (x : Tr.Move) : Prop := ∃ fv tv lv, v = .agg #[fv, tv, lv, .int .i64 x.bytes] ∧ Strs B w fv x.src ∧ Strs B w tv x.dst ∧ Strs B w lv x.lack
def moveZ : Value := .agg #[.slice none 0 0, .slice none 0 0, .slice none 0 0, .int .i64 0]

theorem own_kind {w : World} {B : Nat} {v : Value} {e : TypeId} {sz n : Nat} {xs : List Value} (h : w.ownsRow B e sz v n xs) : ∀ k, v.ownBlock = some k → ∃ cur fr, w.heap[k]? = some (.cells cur e fr) := (Row.own h).kind
abbrev tM : TypeId := 118

theorem own_more {w : World} {B C : Nat} {v : Value} {e : TypeId} {sz n : Nat} {xs : List Value} (h : w.ownsRow B e sz v n xs) (hC : C ≤ B) : w.ownsRow C e sz v n xs := by
  obtain ⟨h1, h2 | ⟨g, c, cu, hv, hb, hr⟩⟩ := h
  · exact ⟨h1, .inl h2⟩
  · exact ⟨h1, .inr ⟨g, c, cu, hv, by omega, hr⟩⟩
/-- Strings stay where another kind of variable turns. -/
theorem strs_keep {w w' : World} {B : Nat} {v : Value} {l : List Tr.Bytes} {S : Nat → Prop} (h : Strs B w v l) (hx : Ext S w w') (hk : ∀ k, S k → ∀ c fr, w.heap[k]? ≠ some (.cells c 9 fr)) : Strs B w' v l :=
  own_ext h hx fun k hv hS => by obtain ⟨c, fr, hc⟩ := own_kind h k hv; exact hk k hS c fr hc

theorem Strs.ext0' {w w' : World} {B : Nat} {v : Value} {l : List Tr.Bytes} (h : Strs B w v l) (hx : Ext none_ w w') : Strs B w' v l := own_ext h hx fun _ _ => id
theorem bytes_le (m : Tr.T) (l : List Tr.Bytes) : ((l.map fun k => ((Tr.get m k).getD (true, [])).2.length).sum) ≤ l.length * Tr.size m := by
  induction l with
  | nil => simp
  | cons k l ih =>
    have := old_le m k
    unfold Tr.old at this
    simp only [List.map_cons, List.sum_cons, List.length_cons, Nat.add_mul, Nat.one_mul]
    omega

theorem dests_cons (n : Nat) (q k : Tr.Bytes) (l : List Tr.Bytes) : Tr.dests n q (k :: l) = if (Sp.clean (q ++ k.drop n)).2 ≠ 0 then ([], (Sp.clean (q ++ k.drop n)).2) else if (Tr.dests n q l).2 ≠ 0 then ([], (Tr.dests n q l).2) else ((Sp.clean (q ++ k.drop n)).1 :: (Tr.dests n q l).1, 0) := rfl

/-- What plan hands back. -/
def Plans (w : World) (r : Option Tr.Move × Int) (e : Ending) (w' : World) : Prop := Ext none_ w w' ∧ match r.1 with
  | none => e = .returned (.tuple #[moveZ, .int .i64 r.2])
  | some x => ∃ v, e = .returned (.tuple #[v, .int .i64 0]) ∧ MoveV w' w.heap.size v x

theorem within_len {p d : Tr.Bytes} (h : Sp.within p d = true) : d.length ≤ p.length := by
  unfold Sp.within at h
  simp only [Bool.or_eq_true, beq_iff_eq] at h
  rcases h with (h | h) | h
  · subst h; simp
  · subst h; exact Nat.le_refl _
  · have := List.IsPrefix.length_le (List.isPrefixOf_iff_prefix.1 h)
    simp at this; omega

theorem c_plan {w : World} {bt bm : Nat} {m : Tr.T} (s d : Tr.Bytes) (ht : Tree A w bt bm m) (hkl : ∀ p ∈ m, p.1.length ≤ 100000) :
    Calls P 81 #[pT bt, .string (S s), .string (S d)] w (Plans w (Tr.plan m s d)) := by
  have hm1 := ht.len
  have hm2 := ht.bytes
  refine enter (l := [_, _, _]) (n := 112) Tryz.func81 rfl rfl rfl ?_
  refine W.seq ?_
  refine W.reg <| new ze_Move rfl <| asg rfl rfl <| L.nil ?_
  refine N.th ?_
  obtain ⟨w0, hw0⟩ : ∃ w0, w0 = w.alloc (.cells (Value.cells (.agg #[.slice none 0 0, .slice none 0 0, .slice none 0 0, .int .i64 0])) tM) := ⟨_, rfl⟩
  have hx0 : Ext none_ w w0 := by rw [hw0]; exact Ext.alloc _ _ _
  have hz0 : w0.heap[w.heap.size]? = some (.cells [(.slice none 0 0 : Value), .slice none 0 0, .slice none 0 0, .int .i64 0].toArray tM (0, 0)) := by rw [hw0]; exact heap_new _ _
  have hs0 : w0.heap.size = w.heap.size + 1 := by rw [hw0]; simp
  show W Fence.wide 0 P [] 112 _ _ _ (w.alloc (.cells (Value.cells (.agg #[.slice none 0 0, .slice none 0 0, .slice none 0 0, .int .i64 0])) tM))
  rw [← hw0]
  have hT0 := ht.at_.ext0 hx0
  -- how it fails
  have fail : ∀ {w1 w2 : World} {c : Int} {x : Tr.T} {E : Env}, Ext none_ w0 w1 → w2 = w1.setRow w.heap.size #[.slice none 0 0, .slice none 0 0, .slice none 0 0, .int .i64 0] → getE E 6 = some (.pointer (some ⟨w.heap.size, 0, none⟩)) → getE E 7 = some (.int .i64 c) → Tr.plan m s d = (none, c) →
      N [] 112 (bodyPost P Tryz.f81 (Plans w (Tr.plan m s d)) .ret) E w2 := by
    intro w1 w2 c x E hx1 e1 h6 h7 hp
    subst e1
    have hz1 := hx1.obj hz0 id
    refine N.retCT (cs := [.slice none 0 0, .slice none 0 0, .slice none 0 0, .int .i64 0]) rfl h6 h7 ag_Move sz_Move (row_cells (setRow_heap _ _ _ _ _ _ hz1)) ?_
    rw [hp]
    refine ⟨(hx0.trans hx1).trans' (Ext.setRow (S := fun k => k = w.heap.size) _ (fun _ => rfl) _) (fun i hi e => by omega), rfl⟩
  refine W.seq ?_
  refine W.reg <| mv rfl rfl <| call (vs := [_]) rfl rfl ok_Clean (c_Clean s w0) ?_
  rintro e w1 ⟨rfl, hx1⟩
  refine ⟨_, rfl, ?_⟩
  have hcs := clean_len s
  have hcd := clean_len d
  refine mv rfl rfl <| ext rfl rfl rfl <| ext rfl rfl rfl <| asg rfl rfl <| asg rfl rfl <| L.nil ?_
  refine N.th ?_
  refine W.seq ?_
  refine W.seq ?_
  refine W.reg <| mv rfl rfl <| neqI rfl rfl rfl <| L.nil ?_
  refine N.th ?_
  refine W.cond rfl (fun h => ?_) (fun h => ?_)
  · refine W.seq ?_
    refine W.reg <| bld (vs := #[]) (v := moveZ) rfl rfl (fun _ => by kernel_rfl) <| mv rfl rfl <| stR rfl rfl sz_Move rfl (hx1.obj hz0 id) rfl <| asg rfl rfl <| L.nil ?_
    refine N.th ?_
    refine W.ret ?_
    refine N.rth ?_
    have h0 : (Sp.clean s).2 ≠ 0 := by simpa using h
    exact fail (x := m) hx1 rfl rfl rfl (by unfold Tr.plan; rw [if_pos h0])
  have h0 : ¬ (Sp.clean s).2 ≠ 0 := by simpa using h
  refine W.skip ?_
  refine N.th ?_
  refine W.seq ?_
  refine W.reg <| mv rfl rfl <| call (vs := [_]) rfl rfl ok_Clean (c_Clean d w1) ?_
  rintro e w2 ⟨rfl, hx2⟩
  refine ⟨_, rfl, ?_⟩
  refine mv rfl rfl <| ext rfl rfl rfl <| ext rfl rfl rfl <| asg rfl rfl <| asg rfl rfl <| L.nil ?_
  refine N.th ?_
  refine W.seq ?_
  refine W.block ?_
  refine W.seq ?_
  have hx02 := hx1.trans hx2
  refine W.reg <| mv rfl rfl <| neqI rfl rfl rfl <| asg rfl rfl <| L.nil ?_
  refine N.th ?_
  refine W.cond rfl (fun h => ?_) (fun h => ?_)
  · refine W.seq ?_
    refine W.reg <| bld (vs := #[]) (v := moveZ) rfl rfl (fun _ => by kernel_rfl) <| mv rfl rfl <| stR rfl rfl sz_Move rfl (hx02.obj hz0 id) rfl <| asg rfl rfl <| L.nil ?_
    refine N.th ?_
    refine W.ret ?_
    refine N.rinb <| N.rth ?_
    have h1 : (Sp.clean d).2 ≠ 0 := by simpa using h
    exact fail (x := m) hx02 rfl rfl rfl (by unfold Tr.plan; rw [if_neg h0, if_pos h1])
  have h1 : ¬ (Sp.clean d).2 ≠ 0 := by simpa using h
  have hplan : Tr.plan m s d = (if (Tr.at_ m (Sp.clean s).1).isNone then (none, 52) else
      if (Sp.clean s).1 = [] ∨ Sp.within (Sp.clean d).1 (Sp.clean s).1 = true then (none, 54) else
      if (Tr.at_ m (Sp.clean d).1).isSome then (none, 53) else
      match Tr.ahead m (Sp.clean d).1 with
      | none => (none, 54)
      | some lack => if (Tr.dests (Sp.clean s).1.length (Sp.clean d).1 (Tr.below m (Sp.clean s).1)).2 ≠ 0 then (none, (Tr.dests (Sp.clean s).1.length (Sp.clean d).1 (Tr.below m (Sp.clean s).1)).2) else
        (some ⟨Tr.below m (Sp.clean s).1, (Tr.dests (Sp.clean s).1.length (Sp.clean d).1 (Tr.below m (Sp.clean s).1)).1, lack, ((Tr.below m (Sp.clean s).1).map fun k => ((Tr.get m k).getD (true, [])).2.length).sum⟩, 0)) := by
    unfold Tr.plan; rw [if_neg h0, if_neg h1]; rfl
  refine W.seq ?_
  have hT2 := hT0.ext0 hx02
  refine W.reg <| mv rfl rfl <| mv rfl rfl <| call (vs := [_, _]) rfl rfl ok_at (c_at (Sp.clean s).1 hT2) ?_
  rintro e w3 ⟨v1, rfl, hv1, hx3⟩
  refine ⟨_, rfl, ?_⟩
  have ptr : ∀ {w : World} {v : Value} {o : Option Tr.Nd}, PtrAt A w v o → ∃ q, v = .pointer q ∧ q.isNone = o.isNone := by
    intro w v o h
    cases o with
    | none => exact ⟨none, h, rfl⟩
    | some x => obtain ⟨b, sl, hb, -⟩ := h; exact ⟨_, hb, rfl⟩
  obtain ⟨q1, rfl, hq1⟩ := ptr hv1
  have hx03 := hx02.trans hx3
  refine eqlPN rfl u_pNode rfl <| asg rfl rfl <| L.nil ?_
  refine N.th ?_
  refine W.cond rfl (fun h => ?_) (fun h => ?_)
  · refine W.seq ?_
    refine W.reg <| bld (vs := #[]) (v := moveZ) rfl rfl (fun _ => by kernel_rfl) <| stR rfl rfl sz_Move rfl (hx03.obj hz0 id) rfl <| asg rfl rfl <| L.nil ?_
    refine N.th ?_
    refine W.ret ?_
    refine N.rinb <| N.rth ?_
    exact fail (x := m) hx03 rfl rfl rfl (by rw [hplan, if_pos (by rw [← hq1]; exact h)])
  rw [if_neg (by rw [← hq1, h]; simp)] at hplan
  refine W.seqM (fun E w' => ∃ b, E = [(39, .bool b), (0, pT bt), (1, .string (S (Sp.clean s).1)), (2, .string (S (Sp.clean d).1)), (6, .pointer (some ⟨w.heap.size, 0, none⟩))] ∧ w' = w3 ∧ (b = true ↔ ((Sp.clean s).1 = [] ∨ Sp.within (Sp.clean d).1 (Sp.clean s).1 = true))) ?_ ?_   -- CUT
  · refine W.reg <| mv rfl rfl <| eqlS (a := (Sp.clean s).1) (b := []) rfl rfl rfl <| ?_
    by_cases hp : (Sp.clean s).1 = []
    · refine Vc.bt (by simpa using hp) ?_
      refine mv rfl rfl <| L.off rfl rfl rfl rfl rfl <| L.off rfl rfl rfl rfl rfl <| L.off rfl rfl rfl rfl rfl <| pickT rfl rfl rfl <| asg rfl rfl <| L.nil ?_
      exact N.th (N.meet [(39, .bool true), (0, _), (1, _), (2, _), (6, _)] ⟨rfl, rfl, rfl, rfl, rfl, trivial⟩ ⟨true, rfl, rfl, by simp [hp]⟩)
    · refine Vc.bf (by simpa using hp) ?_
      refine mv rfl rfl <| L.on rfl rfl rfl <| mv rfl rfl <| L.on rfl rfl rfl <| mv rfl rfl <| L.on rfl rfl rfl <| call (vs := [_, _]) rfl rfl ok_Within (c_Within (Sp.clean d).1 (Sp.clean s).1 (by omega) w3) ?_
      rintro e w4 ⟨rfl, rfl⟩
      refine ⟨_, rfl, ?_⟩
      refine pickF rfl rfl rfl <| asg rfl rfl <| L.nil ?_
      exact N.th (N.meet [(39, .bool _), (0, _), (1, _), (2, _), (6, _)] ⟨rfl, rfl, rfl, rfl, rfl, trivial⟩ ⟨_, rfl, rfl, by simp [hp]⟩)
  rintro E w3' ⟨b, rfl, rfl, hb⟩
  refine W.cond rfl (fun h => ?_) (fun h => ?_)
  · refine W.seq ?_
    refine W.reg <| bld (vs := #[]) (v := moveZ) rfl rfl (fun _ => by kernel_rfl) <| stR rfl rfl sz_Move rfl (hx03.obj hz0 id) rfl <| asg rfl rfl <| L.nil ?_
    refine N.th ?_
    refine W.ret ?_
    refine N.rinb <| N.rth ?_
    exact fail (x := m) hx03 rfl rfl rfl (by rw [hplan, if_pos (hb.1 h)])
  have hnb : ¬ ((Sp.clean s).1 = [] ∨ Sp.within (Sp.clean d).1 (Sp.clean s).1 = true) := fun k => by rw [hb.2 k] at h; cases h
  rw [if_neg hnb] at hplan
  have hp0 : (Sp.clean s).1 ≠ [] := fun e => hnb (.inl e)
  refine W.seq ?_
  have hT3 := hT2.ext0 hx3
  refine W.reg <| mv rfl rfl <| mv rfl rfl <| call (vs := [_, _]) rfl rfl ok_at (c_at (Sp.clean d).1 hT3) ?_
  rintro e w4 ⟨v2, rfl, hv2, hx4⟩
  refine ⟨_, rfl, ?_⟩
  obtain ⟨q2, rfl, hq2⟩ := ptr hv2
  have hx04 := hx03.trans hx4
  refine neqPN rfl u_pNode rfl <| asg rfl rfl <| L.nil ?_
  refine N.th ?_
  have hsome : ∀ {o : Option Tr.Nd}, o.isSome = !o.isNone := by intro o; cases o <;> rfl
  refine W.cond rfl (fun h => ?_) (fun h => ?_)
  · refine W.seq ?_
    refine W.reg <| bld (vs := #[]) (v := moveZ) rfl rfl (fun _ => by kernel_rfl) <| stR rfl rfl sz_Move rfl (hx04.obj hz0 id) rfl <| asg rfl rfl <| L.nil ?_
    refine N.th ?_
    refine W.ret ?_
    refine N.rinb <| N.rth ?_
    exact fail (x := m) hx04 rfl rfl rfl (by rw [hplan, if_pos (by rw [hsome, ← hq2]; exact h)])
  rw [if_neg (by rw [hsome, ← hq2, h]; simp)] at hplan
  refine W.skip ?_
  refine N.inb ?_
  refine N.th ?_
  refine W.seq ?_
  have hT4 := hT3.ext0 hx4
  refine W.reg <| mv rfl rfl <| mv rfl rfl <| call (vs := [_, _]) rfl rfl ok_below (c_below (Sp.clean s).1 hT4 (by omega) (by omega)) ?_
  rintro e w5 ⟨fv, rfl, hfv, hx5⟩
  refine ⟨_, rfl, ?_⟩
  have hT5 := hT4.ext0 hx5
  have hx05 := hx04.trans hx5
  have hs5 := hx05.size
  obtain ⟨fa, fc, rfl, hfn, hfm⟩ := own_slice hfv
  obtain ⟨L5, hL5⟩ : ∃ L5, L5 = Tr.below m (Sp.clean s).1 := ⟨_, rfl⟩
  rw [← hL5] at hplan hfv hfn ⊢
  have hL5l : L5.length ≤ 500 := by have := Tr.len_below m (Sp.clean s).1; rw [hL5]; omega
  obtain ⟨w6, hw6⟩ : ∃ w6, w6 = (w5.alloc (.cells (Value.cells (.agg #[.slice none 0 0, .slice none 0 0, .slice none 0 0, .int .i64 0])) tM)).setRow w5.heap.size #[.slice fa L5.length fc, .slice none 0 0, .slice none 0 0, .int .i64 0] := ⟨_, rfl⟩
  have hx6 : Ext none_ w5 w6 := by rw [hw6]; exact (Ext.alloc none_ _ _).trans' (Ext.setRow (S := fun k => k = w5.heap.size) _ (fun _ => rfl) _) (fun i hi e => by omega)
  have hg6 : w6.heap[w5.heap.size]? = some (.cells #[.slice fa L5.length fc, .slice none 0 0, .slice none 0 0, .int .i64 0] tM (0, 0)) := by rw [hw6]; exact setRow_heap _ _ _ _ _ _ (heap_new _ _)
  have hs6 : w6.heap.size = w5.heap.size + 1 := by rw [hw6]; simp
  refine bld (vs := #[(0, .slice fa L5.length fc)]) (v := .agg #[.slice fa L5.length fc, .slice none 0 0, .slice none 0 0, .int .i64 0]) rfl rfl (fun _ => by kernel_rfl) <| new ze_Move rfl <| stR rfl rfl sz_Move rfl (heap_new _ _) rfl <| L.nil ?_
  rw [← hw6]
  refine N.th ?_
  refine W.seq ?_
  refine W.seq ?_
  have hT6 := hT5.ext0 hx6
  refine W.reg <| mv rfl rfl <| mv rfl rfl <| call (vs := [_, _]) rfl rfl ok_ahead (c_ahead (Sp.clean d).1 (by omega) hT6) ?_
  rintro e w7 ⟨hx7, hah⟩
  have hx07 := hx05.trans (hx6.trans hx7)
  have hg7 := hx7.obj hg6 id
  cases hA : Tr.ahead m (Sp.clean d).1 with
  | none =>
    rw [hA] at hah hplan
    obtain rfl := hah
    refine ⟨_, rfl, ?_⟩
    refine mv rfl rfl <| ext rfl rfl rfl <| ext rfl rfl rfl <| fad rfl fl_Move_2 rfl <| st1 rfl rfl sz_strs rfl hg7 rfl <| asg rfl rfl <| L.nil ?_
    refine N.th ?_
    refine W.seq ?_
    refine W.reg <| mv rfl rfl <| neqI rfl rfl rfl <| L.nil ?_
    refine N.th ?_
    refine W.condT rfl ?_
    refine W.seq ?_
    have hxs : Ext none_ w0 (w7.setCell ⟨w5.heap.size, 0 + 2, none⟩ (.slice none 0 0)) := hx07.trans' (Ext.setCell (S := fun k => k = w5.heap.size) _ (fun _ => rfl) _) (fun i hi e => by omega)
    refine W.reg <| bld (vs := #[]) (v := moveZ) rfl rfl (fun _ => by kernel_rfl) <| mv rfl rfl <| stR rfl rfl sz_Move rfl (hxs.obj hz0 id) rfl <| asg rfl rfl <| L.nil ?_
    refine N.th ?_
    refine W.ret ?_
    refine N.rth ?_
    exact fail (x := m) hxs rfl rfl rfl hplan
  | some lack =>
  rw [hA] at hah hplan
  obtain ⟨lv, rfl, hlv⟩ := hah
  refine ⟨_, rfl, ?_⟩
  have hlk := Tr.ahead_len hA
  obtain ⟨w8, hw8⟩ : ∃ w8, w8 = w7.setCell ⟨w5.heap.size, 0 + 2, none⟩ lv := ⟨_, rfl⟩
  have hx8 : Ext (fun k => k = w5.heap.size) w7 w8 := by rw [hw8]; exact Ext.setCell (S := fun k => k = w5.heap.size) _ (fun _ => rfl) _
  have hg8 : w8.heap[w5.heap.size]? = some (.cells #[.slice fa L5.length fc, .slice none 0 0, lv, .int .i64 0] tM (0, 0)) := by rw [hw8, setCell_heap hg7]; rfl
  have hs7 := hx7.size
  have hs8 := hx8.size
  refine mv rfl rfl <| ext (v := lv) rfl rfl rfl <| ext (v := .int .i64 0) rfl rfl rfl <| fad rfl fl_Move_2 rfl <| st1 rfl rfl sz_strs (own_cells hlv).2 hg7 rfl <| asg rfl rfl <| L.nil ?_
  rw [← hw8]
  refine N.th ?_
  refine W.seq ?_
  refine W.reg <| mv rfl rfl <| neqI rfl rfl rfl <| L.nil ?_
  refine N.th ?_
  refine W.condF rfl ?_
  refine W.skip ?_
  refine N.th ?_
  refine W.seq ?_
  refine W.seq ?_
  have hmk : ∀ {wx : World} {c : Array Value}, wx.heap[w5.heap.size]? = some (.cells c tM (0, 0)) → (∀ k, k = w5.heap.size → ∀ c fr, wx.heap[k]? ≠ some (.cells c 9 fr)) ∧ Kd wx (fun k => k = w5.heap.size) := by
    intro wx c hc
    refine ⟨?_, ?_⟩
    · rintro k rfl c' fr h; rw [hc] at h; cases h
    · rintro k rfl c' e' fr h; rw [hc] at h; cases h; exact ⟨by decide, by decide⟩
  have hT8 : TreeAt A w8 bt bm m (Tr.size m) := (hT6.ext0 hx7).ext hx8 (hmk hg7).2 (fun e => by have := hT5.lt.1; omega) (fun e => by have := hT5.lt.2; omega)
  have hlv8 : Strs w.heap.size w8 lv lack := own_more (strs_keep hlv hx8 (hmk hg7).1) (by omega)
  have hfv8 : Strs w.heap.size w8 (.slice fa L5.length fc) L5 := own_more (strs_keep (own_ext (own_ext hfv hx6 fun _ _ => id) hx7 fun _ _ => id) hx8 (hmk hg7).1) (by have := hx04.size; omega)
  have hx08 : Ext none_ w0 w8 := hx07.trans' hx8 (fun i hi e => by omega)
  refine W.reg <| fad rfl fl_Move_0 rfl <| ld1 rfl ag_strs rfl (cell_of hg8 (i := 0) (v := .slice fa L5.length fc) rfl) <| lenV rfl u_strs rfl <| mv rfl rfl <| L.nil ?_
  refine N.th ?_
  refine W.block ?_
  obtain ⟨D, hD⟩ : ∃ D : List Tr.Bytes → List Tr.Bytes × Int, D = Tr.dests (Sp.clean s).1.length (Sp.clean d).1 := ⟨_, rfl⟩
  rw [← hD] at hplan
  refine W.loop (X := List Tr.Bytes × List Tr.Bytes × List Tr.Bytes × Value) (fun x => [(72, .int .i64 x.1.length), (71, .int .i64 L5.length), (70, .slice fa L5.length fc), (0, pT bt), (1, .string (S (Sp.clean s).1)), (2, .string (S (Sp.clean d).1)), (9, .pointer (some ⟨w5.heap.size, 0, none⟩)), (6, .pointer (some ⟨w.heap.size, 0, none⟩))])
    (fun x w' => L5 = x.1 ++ x.2.1 ∧ w'.heap[w5.heap.size]? = some (.cells #[.slice fa L5.length fc, x.2.2.2, lv, .int .i64 ((x.1.map fun k => ((Tr.get m k).getD (true, [])).2.length).sum : Nat)] tM (0, 0)) ∧ Strs w8.heap.size w' x.2.2.2 x.2.2.1 ∧ x.2.2.1.length = x.1.length ∧
      D L5 = (if (D x.2.1).2 ≠ 0 then ([], (D x.2.1).2) else (x.2.2.1 ++ (D x.2.1).1, 0)) ∧ Ext (fun k => k = w5.heap.size) w8 w') (fun x => x.2.1.length) ([], L5, [], .slice none 0 0) ⟨rfl, rfl, rfl, rfl, rfl, rfl, rfl, rfl, trivial⟩
    ⟨rfl, by simpa using hg8, own_nil _ _ _ _, rfl, ?_, Ext.refl _ _⟩ ?_
  · dsimp only
    split
    · rename_i hne
      have : (D L5).1 = [] := by
        rw [hD] at hne ⊢
        cases L5 with
        | nil => rfl
        | cons k l =>
          rw [dests_cons] at hne ⊢
          split
          · rfl
          · split
            · rfl
            · rename_i a b; rw [if_neg a, if_neg b] at hne; exact absurd rfl hne
      exact Prod.ext this rfl
    · rename_i hz
      exact Prod.ext (by simp) (by simpa using hz)
  rintro ⟨pre, rest, acc, tv⟩ w9 ⟨hl, hg9, htv, hal, hds, hx9⟩
  dsimp only at hl hg9 htv hal hds ⊢
  have hx09 : Ext none_ w0 w9 := hx08.trans' hx9 (fun i hi e => by omega)
  refine W.seq ?_
  refine W.reg <| lssI rfl rfl rfl <| L.nil ?_
  refine N.th ?_
  refine W.seq ?_
  have hT9 : TreeAt A w9 bt bm m (Tr.size m) := hT8.ext hx9 (hmk hg8).2 (fun e => by have := hT5.lt.1; omega) (fun e => by have := hT5.lt.2; omega)
  have hfv9 : Strs w.heap.size w9 (.slice fa L5.length fc) L5 := strs_keep hfv8 hx9 (hmk hg8).1
  refine W.cond rfl (fun h => ?_) (fun h => ?_)
  · refine W.skip ?_
    refine N.th ?_
    cases rest with
    | nil => rw [hl] at h; simp at h
    | cons k rest =>
    have hpl : pre.length + 1 ≤ L5.length := by rw [hl]; simp
    rcases (Row.own hfv9).form with ⟨h0, h1, _⟩ | ⟨b, o, c, h0, h1, h2, h3, hcell⟩
    · omega
    cases h0
    have hck : w9.cell? ⟨b, o + pre.length, none⟩ = some (.string (S k)) := hcell pre.length _ (by rw [hl]; simp [encT])
    have hkb : k ∈ Tr.below m (Sp.clean s).1 := by rw [← hL5, hl]; simp
    have hkw := within_len (Tr.mem_below.1 hkb).2
    obtain ⟨p, hpm, hpk⟩ := List.mem_map.1 (Tr.mem_below.1 hkb).1
    have hk1 : k.length ≤ 100000 := by rw [← hpk]; exact hkl p hpm
    refine W.seq ?_
    refine W.block ?_
    refine W.seq ?_
    refine W.reg <| ixa rfl rfl u_strs sz_str rfl (by omega) (by omega) <| ld1 rfl ag_str rfl (by rw [Nat.mul_one]; exact hck) <| asg rfl rfl <| L.nil ?_
    refine N.th ?_
    refine W.seq ?_
    refine W.reg <| mv rfl rfl <| mv rfl rfl <| mv rfl rfl <| lenS rfl u_str rfl <| slSl rfl rfl u_str rfl (by omega) (by omega) <| addS rfl rfl rfl (by simp; omega) <| call (vs := [_]) rfl rfl ok_Clean (c_Clean _ w9) ?_
    rintro e w10 ⟨rfl, hx10⟩
    refine ⟨_, rfl, ?_⟩
    rw [show ((Sp.clean s).1.length : Int).toNat = (Sp.clean s).1.length from by simp]
    obtain ⟨C, hC⟩ : ∃ C, C = Sp.clean ((Sp.clean d).1 ++ k.drop (Sp.clean s).1.length) := ⟨_, rfl⟩
    rw [← hC]
    have hDk : D (k :: rest) = if C.2 ≠ 0 then ([], C.2) else if (D rest).2 ≠ 0 then ([], (D rest).2) else (C.1 :: (D rest).1, 0) := by rw [hD, dests_cons, ← hC]
    refine mv rfl rfl <| ext rfl rfl rfl <| ext rfl rfl rfl <| asg rfl rfl <| asg rfl rfl <| L.nil ?_
    refine N.th ?_
    refine W.seq ?_
    refine W.seq ?_
    have hx010 : Ext none_ w0 w10 := hx09.trans hx10
    refine W.reg <| mv rfl rfl <| neqI rfl rfl rfl <| L.nil ?_
    refine N.th ?_
    refine W.cond rfl (fun h => ?_) (fun h => ?_)
    · refine W.seq ?_
      refine W.reg <| bld (vs := #[]) (v := moveZ) rfl rfl (fun _ => by kernel_rfl) <| mv rfl rfl <| stR rfl rfl sz_Move rfl (hx010.obj hz0 id) rfl <| asg rfl rfl <| L.nil ?_
      refine N.th ?_
      refine W.ret ?_
      refine N.rth <| N.rinb <| N.rth <| N.rth <| N.rinb <| N.rth ?_
      have hc0 : C.2 ≠ 0 := by simpa using h
      rw [hDk, if_pos hc0, if_pos (by exact hc0)] at hds
      exact fail (x := m) hx010 rfl rfl rfl (by rw [hplan]; dsimp only; rw [hds, if_pos (by exact hc0)])
    have hc0 : ¬ C.2 ≠ 0 := by simpa using h
    rw [hDk, if_neg hc0] at hds
    refine W.skip ?_
    refine N.th ?_
    refine W.seq ?_
    have hg10 := hx10.obj hg9 id
    have htv10 := own_ext htv hx10 fun _ _ => id
    refine W.reg <| fad rfl fl_Move_1 rfl <| ld1 rfl ag_strs rfl (cell_of hg10 (i := 1) (v := tv) rfl) <| mv rfl rfl <| bls (vs := #[(0, .string (S C.1))]) (cs := #[.string (S C.1)]) (e := 9) rfl rfl (fun _ => by kernel_rfl) <|
      app rfl rfl rfl el_strs (own_ext htv10 (Ext.alloc none_ _ _) fun _ _ => id) (news := [.string (S C.1)]) rfl (fun j u hj => by
            cases j with
            | zero => cases hj; exact cell1 (heap_new _ _)
            | succ j => cases hj) (by simp [Value.oneCell']) (by omega) (by simp only [maxLen]; omega) (by have := hx9.size; have := hx10.size; simp; omega) fun tv' w11 htv11 hx11 _ _ => ?_
    have hneG : ¬ (tv.ownBlock = some w5.heap.size) := fun e => by have := own_new htv _ e; omega
    have hg11 := hx11.obj ((Ext.alloc none_ w10 _).obj hg10 id) hneG
    refine fad rfl fl_Move_1 rfl <| st1 rfl rfl sz_strs (own_cells htv11).2 hg11 rfl <| L.nil ?_
    obtain ⟨w12, hw12⟩ : ∃ w12, w12 = w11.setCell ⟨w5.heap.size, 0 + 1, none⟩ tv' := ⟨_, rfl⟩
    rw [← hw12]
    have hx12 : Ext (fun k => k = w5.heap.size) w11 w12 := by rw [hw12]; exact Ext.setCell (S := fun k => k = w5.heap.size) _ (fun _ => rfl) _
    have hg12 : w12.heap[w5.heap.size]? = some (.cells #[.slice (some ⟨b, o, none⟩) L5.length fc, tv', lv, .int .i64 ((pre.map fun k => ((Tr.get m k).getD (true, [])).2.length).sum : Nat)] tM (0, 0)) := by rw [hw12, setCell_heap hg11]; rfl
    have hx8_11 : Ext (fun k => k = w5.heap.size) w8 w11 := ((hx9.trans hx10.none).trans (Ext.alloc _ _ _)).own (own_ext htv10 (Ext.alloc none_ _ _) fun _ _ => id) hx11
    have hx8_12 := hx8_11.trans hx12
    have hT12 : TreeAt A w12 bt bm m (Tr.size m) := hT8.ext hx8_12 (hmk hg8).2 (fun e => by have := hT5.lt.1; omega) (fun e => by have := hT5.lt.2; omega)
    refine N.th ?_
    have htv12 : Strs w8.heap.size w12 tv' (acc ++ [C.1]) := strs_keep (by simpa [Strs, encT] using htv11) hx12 (hmk hg11).1
    obtain ⟨x, hx⟩ := Option.isSome_iff_exists.1 (below_in hkb)
    have hxl : x.2.length ≤ 1048576 := by have := old_le m k; simp [Tr.old, hx] at this; omega
    have hbs : ((pre.map fun k => ((Tr.get m k).getD (true, [])).2.length).sum) ≤ 500 * 1048576 := by
      have h1 := bytes_le m pre
      have : pre.length * Tr.size m ≤ 500 * 1048576 := Nat.mul_le_mul (by omega) hm2
      omega
    obtain ⟨al, hal12, hr12⟩ := hT12.reps
    have hlook := hr12.look k
    rw [hx] at hlook
    obtain ⟨nb, sl, hvp, hnb, hav, hrow⟩ := hlook
    obtain ⟨-, sa, sc, rfl, hsn, hsm, -, -⟩ := id hrow
    have hdr := Ext.drew none_ w12
    have hTd := hT12.ext0 hdr
    have hgd := hdr.obj hg12 id
    obtain ⟨N0, hN0⟩ : ∃ N0, N0 = ((pre.map fun k => ((Tr.get m k).getD (true, [])).2.length).sum) := ⟨_, rfl⟩
    rw [← hN0] at hgd hbs
    have hc3 : w12.drew.cell? ⟨w5.heap.size, 3, none⟩ = some (.int .i64 (N0 : Nat)) := cell_of hgd rfl
    refine W.draw [] true (fun w' => w' = w12.drew) [0, 1, 2, 3, 4, 5, 6, 7, 8, 9, 10, 11, 12, 13, 14] rfl rfl (by kernel_rfl) rfl ?_   -- held
    refine fad rfl fl_Move_3 rfl <| ldK rfl ag_int rfl (fun w' e => e ▸ hc3) <| mv rfl rfl <| nilc rfl rfl <| fad rfl fl_Tree_0 rfl <| ldK rfl ag_mNode rfl (fun w' e => e ▸ hTd.c0) <| mv rfl rfl <| lkuK rfl rfl u_mNode u_str ze_pNode rfl (fun w' e => e ▸ hal12.ext hdr id) <| ?_
    rw [hvp]
    have hc1 : w12.drew.cell? ⟨nb, 1, none⟩ = some (.slice sa x.2.length sc) := cell_of (hdr.obj hnb id) rfl
    refine nilc rfl rfl <| fad rfl fl_Node_1 rfl <| ldK rfl ag_bytes rfl (fun w' e => e ▸ hc1) <| lenV rfl u_bytes rfl <| addI (c := ((N0 + x.2.length : Nat) : Int)) rfl rfl rfl (by rw [w64 (by omega) (by omega)]; simp) <| fad rfl fl_Move_3 rfl <|
      st1 rfl rfl sz_int rfl hgd rfl (hS := .inl ⟨rfl, rfl⟩) <| L.nilH ?_
    obtain ⟨w13, hw13⟩ : ∃ w13, w13 = w12.drew.setCell ⟨w5.heap.size, 0 + 3, none⟩ (.int .i64 ((N0 + x.2.length : Nat) : Int)) := ⟨_, rfl⟩
    rw [← hw13]
    have hx13 : Ext (fun k => k = w5.heap.size) w12.drew w13 := by rw [hw13]; exact Ext.setCell (S := fun k => k = w5.heap.size) _ (fun _ => rfl) _
    have hg13 : w13.heap[w5.heap.size]? = some (.cells #[.slice (some ⟨b, o, none⟩) L5.length fc, tv', lv, .int .i64 ((N0 + x.2.length : Nat) : Int)] tM (0, 0)) := by rw [hw13, setCell_heap hgd]; rfl
    refine N.inb ?_
    refine N.th ?_
    refine W.reg <| addI (c := (pre.length : Int) + 1) rfl rfl rfl (w64 (by omega) (by omega)) <| mv rfl rfl <| L.nil ?_
    refine N.th (N.round (x := (pre ++ [k], rest, acc ++ [C.1], tv')) ⟨?_, rfl, rfl, rfl, rfl, rfl, rfl, rfl, trivial⟩ ⟨by simp [hl], ?_, strs_keep (Strs.ext0' htv12 hdr) hx13 (hmk hgd).1, by simp [hal], ?_, (hx8_12.trans (Ext.drew _ _)).trans hx13⟩ (by simp))   -- ROUND
    · simp [getE]
    · dsimp only; rw [hg13, List.map_append, List.sum_append, ← hN0]; simp [hx]
    · dsimp only
      rw [hds]
      by_cases hz : (D rest).2 ≠ 0
      · rw [if_pos hz, if_pos hz, if_pos (by exact hz)]
      · rw [if_neg hz, if_neg hz, if_neg (by simp)]
        simp
  · refine W.exit ?_
    refine N.xth ?_
    refine N.xth ?_
    refine N.xeq ?_
    refine N.th ?_
    refine W.seq ?_
    cases rest with
    | cons k rest => rw [hl] at h; simp at h; omega
    | nil =>
    obtain rfl : L5 = pre := by simpa using hl
    have hd0 : D L5 = (acc, 0) := by
      rw [hds, hD]; simp [Tr.dests]
    rw [hd0] at hplan
    dsimp only at hplan
    rw [if_neg (by simp)] at hplan
    obtain ⟨N0, hN0⟩ : ∃ N0, N0 = ((L5.map fun k => ((Tr.get m k).getD (true, [])).2.length).sum) := ⟨_, rfl⟩
    rw [← hN0] at hg9 hplan
    refine W.reg <| ldk rfl ag_Move sz_Move rfl (cs := [.slice fa L5.length fc, tv, lv, .int .i64 (N0 : Nat)]) rfl (row_cells hg9) <| stR rfl rfl sz_Move ?_ (hx09.obj hz0 id) rfl <| asg rfl rfl <| L.nil ?_
    · show (true && (Value.oneCell' tv && (Value.oneCell' lv && (true && true)))) = true
      rw [(own_cells htv).2, (own_cells hlv).2]; rfl
    refine N.th ?_
    refine W.ret ?_
    have hzz := hx09.obj hz0 id
    refine N.retCT (cs := [.slice fa L5.length fc, tv, lv, .int .i64 (N0 : Nat)]) rfl rfl rfl ag_Move sz_Move (row_cells (setRow_heap _ _ _ _ _ _ hzz)) ?_
    rw [hplan]
    have hmz : ∀ k, k = w.heap.size → ∀ c fr, w9.heap[k]? ≠ some (.cells c 9 fr) := by
      rintro k rfl c fr h; rw [hzz] at h; cases h
    have hxr : Ext (fun k => k = w.heap.size) w9 (w9.setRow w.heap.size [.slice fa L5.length fc, tv, lv, .int .i64 (N0 : Nat)].toArray) := Ext.setRow (S := fun k => k = w.heap.size) _ (fun _ => rfl) _
    refine ⟨(hx0.trans hx09).trans' hxr (fun i hi e => by omega), _, rfl, _, _, _, rfl, strs_keep hfv9 hxr hmz, own_more (strs_keep htv hxr hmz) ?_, strs_keep (strs_keep hlv8 hx9 (hmk hg8).1) hxr hmz⟩
    have := hx08.size; omega
end Go.Proofs.YtmdpmpdlkaogdaaGreatDoor

namespace Go.Proofs.YtmdpmpdlkaogdaaGreatDoor
open Go Go.RowKit Vc
variable {A : Nat → Prop}

theorem ok_copy : FnOk P 82 := ⟨_, Tryz.func82, by kernel_rfl, by kernel_rfl⟩
theorem ok_Rename : FnOk P 43 := ⟨_, Tryz.func43, by kernel_rfl, by kernel_rfl⟩
theorem ok_Copy : FnOk P 45 := ⟨_, Tryz.func45, by kernel_rfl, by kernel_rfl⟩

theorem copyL_cons (m : Tr.T) (k d : Tr.Bytes) (l r : List Tr.Bytes) : Tr.copyL m (k :: l) (d :: r) = Tr.copyL (Tr.set m d ((Tr.get m k).getD (true, []))) l r := rfl
theorem copyL_nil (m : Tr.T) (r : List Tr.Bytes) : Tr.copyL m [] r = m := by cases r <;> rfl
theorem isSome_set {m : Tr.T} {k d : Tr.Bytes} {x : Tr.Nd} (h : (Tr.get m k).isSome = true) : (Tr.get (Tr.set m d x) k).isSome = true := by
  rw [Tr.get_set]; split
  · rfl
  · exact h
theorem isSome_make {m : Tr.T} {k : Tr.Bytes} {l : List Tr.Bytes} (h : (Tr.get m k).isSome = true) : (Tr.get (Tr.make m l) k).isSome = true := by
  rw [Tr.get_make]; split
  · rfl
  · exact h
/-- Strings of a call's own stay where a tree turns. -/
theorem strs_tree {w w' : World} {B bt bm : Nat} {v : Value} {l : List Tr.Bytes} {m : Tr.T} {sz : Int} (h : Strs B w v l) (ht : TreeAt A w bt bm m sz) (hx : Ext (Two bt bm) w w') : Strs B w' v l :=
  strs_keep h hx (by
    rintro k (rfl | rfl) c fr hc
    · rw [ht.cell] at hc; cases hc
    · obtain ⟨_, ⟨_, _, hm, _⟩, _⟩ := ht.reps
      rw [hm] at hc; cases hc)

theorem c_copy {w : World} {B bt bm : Nat} {m : Tr.T} {sz : Int} {v : Value} {x : Tr.Move} (ht : TreeAt A w bt bm m sz) (hv : MoveV w B v x) (hin : ∀ k ∈ x.src, (Tr.get m k).isSome = true) (hl : x.dst.length = x.src.length) (_hll : x.src.length ≤ 1000000) (hs0 : 0 ≤ sz) (hs1 : sz ≤ 1000000000000) (hb : x.bytes ≤ 1000000000000) :
    Calls P 82 #[pT bt, v] w fun e w' => e = .returned (.tuple #[]) ∧ TreeAt A w' bt bm (Tr.copy m x) (sz + x.bytes) ∧ Ext (Two bt bm) w w' := by
  obtain ⟨fv, tv, lv, rfl, hfv, htv, hlv⟩ := hv
  refine enter (l := [_, _]) (n := 46) Tryz.func82 rfl rfl rfl ?_
  refine W.seq ?_
  refine W.reg <| box rfl rfl <| L.nil ?_
  obtain ⟨w1, hw1⟩ : ∃ w1, w1 = w.alloc (.cells (Value.cells (.agg #[fv, tv, lv, .int .i64 x.bytes])) tM) := ⟨_, rfl⟩
  have hx1 : Ext none_ w w1 := by rw [hw1]; exact Ext.alloc _ _ _
  have hg1 : w1.heap[w.heap.size]? = some (.cells #[fv, tv, lv, .int .i64 x.bytes] tM (0, 0)) := by rw [hw1]; exact heap_new _ _
  show N [] 46 _ _ (w.alloc (.cells (Value.cells (.agg #[fv, tv, lv, .int .i64 x.bytes])) tM))
  rw [← hw1]
  refine N.th ?_
  refine W.seq ?_
  have hT1 := ht.ext0 hx1
  refine W.reg <| mv rfl rfl <| fad rfl fl_Move_2 rfl <| ld1 rfl ag_strs rfl (cell_of hg1 (i := 2) (v := lv) rfl) <| call (vs := [_, _]) rfl rfl ok_make (c_make x.lack lv hT1 (Row.own (Strs.ext0' hlv hx1))) ?_
  rintro e w2 ⟨rfl, hT2, hx2⟩
  refine ⟨_, rfl, ?_⟩
  refine L.nil ?_
  refine N.th ?_
  refine W.seq ?_
  refine W.seq ?_
  have hneT : ¬ Two bt bm w.heap.size := by
    have := ht.lt
    rintro (e | e) <;> omega
  have hg2 := hx2.obj hg1 hneT
  have hfv2 := strs_tree (Strs.ext0' hfv hx1) hT1 hx2
  have htv2 := strs_tree (Strs.ext0' htv hx1) hT1 hx2
  obtain ⟨fa, fc, rfl, hfn, hfm⟩ := own_slice hfv
  obtain ⟨ta, tc, rfl, htn, htm⟩ := own_slice htv
  simp only [maxLen] at hfm htm
  refine W.reg <| fad rfl fl_Move_0 rfl <| ld1 rfl ag_strs rfl (cell_of hg2 (i := 0) (v := .slice fa x.src.length fc) rfl) <| lenV rfl u_strs rfl <| mv rfl rfl <| L.nil ?_
  refine N.th ?_
  refine W.block ?_
  refine W.loop (X := List Tr.Bytes × List Tr.Bytes × List Tr.Bytes × List Tr.Bytes × Tr.T) (fun y => [(14, .int .i64 y.1.length), (13, .int .i64 x.src.length), (12, .slice fa x.src.length fc), (0, pT bt), (3, .pointer (some ⟨w.heap.size, 0, none⟩))])
    (fun y w' => x.src = y.1 ++ y.2.1 ∧ x.dst = y.2.2.1 ++ y.2.2.2.1 ∧ y.1.length = y.2.2.1.length ∧ TreeAt A w' bt bm y.2.2.2.2 sz ∧ Tr.copyL (Tr.make m x.lack) x.src x.dst = Tr.copyL y.2.2.2.2 y.2.1 y.2.2.2.1 ∧ (∀ k ∈ x.src, (Tr.get y.2.2.2.2 k).isSome = true) ∧ Ext (Two bt bm) w2 w') (fun y => y.2.1.length) ([], x.src, [], x.dst, Tr.make m x.lack) ⟨rfl, rfl, rfl, rfl, rfl, trivial⟩
    ⟨rfl, rfl, rfl, hT2, rfl, fun k hk => isSome_make (hin k hk), Ext.refl _ _⟩ ?_
  rintro ⟨pre, rest, preD, restD, mm⟩ w3 ⟨hls, hld, hle, hT3, hcp, hin3, hx3⟩
  dsimp only at hls hld hle hT3 hcp hin3 ⊢
  have hneT2 : ¬ Two bt bm w.heap.size := hneT
  have hg3 := hx3.obj hg2 hneT
  refine W.seq ?_
  refine W.reg <| lssI rfl rfl rfl <| L.nil ?_
  refine N.th ?_
  refine W.seq ?_
  refine W.cond rfl (fun h => ?_) (fun h => ?_)
  · refine W.skip ?_
    refine N.th ?_
    cases rest with
    | nil => rw [hls] at h; simp at h
    | cons k rest =>
    have hpl : pre.length + 1 ≤ x.src.length := by rw [hls]; simp
    cases restD with
    | nil =>
      have h1 := congrArg List.length hls
      have h2 := congrArg List.length hld
      simp at h1 h2; omega
    | cons d restD =>
    have hfv3 := strs_tree hfv2 hT2 hx3
    have htv3 := strs_tree htv2 hT2 hx3
    have hplD : preD.length + 1 ≤ x.dst.length := by rw [hld]; simp
    refine W.seq ?_
    refine W.block ?_
    refine W.seq ?_
    rcases (Row.own hfv3).form with ⟨h0, h1, _⟩ | ⟨b, o, c, h0, h1, h2, h3, hcell⟩
    · omega
    cases h0
    rcases (Row.own htv3).form with ⟨h0, h1', _⟩ | ⟨b', o', c', h0, h1', h2', h3', hcell'⟩
    · omega
    cases h0
    have hck : w3.cell? ⟨b, o + pre.length, none⟩ = some (.string (S k)) := hcell pre.length _ (by rw [hls]; simp [encT])
    have hcd : w3.cell? ⟨b', o' + pre.length, none⟩ = some (.string (S d)) := hcell' pre.length _ (by rw [hle, hld]; simp [encT])
    refine W.reg <| mv rfl rfl <| ixa rfl rfl u_strs sz_str rfl (by omega) (by omega) <| ld1 rfl ag_str rfl (by rw [Nat.mul_one]; exact hck) <| asg rfl rfl <| asg rfl rfl <| L.nil ?_
    refine N.th ?_
    refine W.seq ?_
    obtain ⟨y, hy⟩ := Option.isSome_iff_exists.1 (hin3 k (by rw [hls]; simp))
    obtain ⟨al, hal3, hr3⟩ := hT3.reps
    have hlook := hr3.look k
    rw [hy] at hlook
    obtain ⟨nb, sl, hvp, hnb, hav, hrow⟩ := hlook
    obtain ⟨-, sa, sc, rfl, hsn, hsm, -, -⟩ := id hrow
    refine W.reg <| mv rfl rfl <| nilc rfl rfl <| fad rfl fl_Tree_0 rfl <| ld1 rfl ag_mNode rfl hT3.c0 <| mv rfl rfl <| lku rfl rfl u_mNode u_str ze_pNode rfl hal3 <| ?_
    rw [hvp]
    refine nilc rfl rfl <| ldk (cs := [.bool y.1, .slice sa y.2.length sc]) rfl ag_Node sz_Node rfl rfl (row_cells hnb) <| new ze_Node rfl <| stR (cells := #[.bool y.1, .slice sa y.2.length sc]) rfl rfl sz_Node rfl (heap_new _ _) rfl <| L.nil ?_
    obtain ⟨w4, hw4⟩ : ∃ w4, w4 = (w3.alloc (.cells (Value.cells (.agg #[.bool false, .slice none 0 0])) tN)).setRow w3.heap.size #[.bool y.1, .slice sa y.2.length sc] := ⟨_, rfl⟩
    have hx4 : Ext none_ w3 w4 := by rw [hw4]; exact (Ext.alloc none_ _ _).trans' (Ext.setRow (S := fun k => k = w3.heap.size) _ (fun _ => rfl) _) (fun i hi e => by omega)
    have hnew : w4.heap[w3.heap.size]? = some (.cells #[.bool y.1, .slice sa y.2.length sc] tN (0, 0)) := by rw [hw4]; exact setRow_heap _ _ _ _ _ _ (heap_new _ _)
    rw [← hw4]
    refine N.th ?_
    have hT4 := hT3.ext0 hx4
    have hdr := Ext.drew none_ w4
    have hg4 := hdr.obj (hx4.obj hg3 id) id
    have hx4d := hx4.trans hdr
    have hcd4 : w4.drew.cell? ⟨b', o' + pre.length, none⟩ = some (.string (S d)) := by rw [← hcd]; exact World.cell?_of_block (hx4d.block b' h3' id)
    refine W.draw [] true (fun w' => w' = w4.drew) [0, 1, 2, 3, 4, 5, 6, 7, 8, 9] rfl rfl (by kernel_rfl) rfl ?_   -- held
    refine mv rfl rfl <| nilc rfl rfl <| fad rfl fl_Tree_0 rfl <| ldK rfl ag_mNode rfl (fun w' e => e ▸ (hT4.ext0 hdr).c0) <| fad rfl fl_Move_1 rfl <| ldK (v := .slice (some ⟨b', o', none⟩) x.dst.length tc) rfl ag_strs rfl (fun w' e => e ▸ cell_of hg4 (i := 1) rfl) <| mv rfl rfl <|
      ixa rfl rfl u_strs sz_str rfl (by omega) (by omega) <| ldK rfl ag_str rfl (fun w' e => by rw [Nat.mul_one, e]; exact hcd4) <| mupY rfl rfl rfl u_mNode u_str (hal3.ext hx4d id) fun w5 hm5 hx5 hs5 => ⟨.inl ⟨rfl, rfl⟩, ?_⟩
    have hT5 : TreeAt A w5 bt bm (Tr.set mm d y) sz :=
      TreeAt.mapSet (x := y) (hal3.ext hx4d id) (hr3.ext hx4d (Kd.none _)) ((hT4.ext0 hdr).cell) ⟨_, _, rfl, hdr.obj hnew id, hav, (hrow.ext0 hx4d)⟩ hm5 hx5 ((hT4.ext0 hdr).lowAt (Nat.le_refl _))
    refine L.nilH ?_
    refine N.inb ?_
    refine N.th ?_
    refine W.reg <| addI (c := (pre.length : Int) + 1) rfl rfl rfl (w64 (by omega) (by omega)) <| mv rfl rfl <| L.nil ?_
    refine N.th (N.round (x := (pre ++ [k], rest, preD ++ [d], restD, Tr.set mm d y)) ⟨?_, rfl, rfl, rfl, rfl, trivial⟩ ⟨by simp [hls], by simp [hld], by simp [hle], hT5, ?_, fun j hj => isSome_set (hin3 j hj), hx3.trans (hx4d.none.trans (hx5.mono fun _ _ h => .inr h))⟩ (by simp))   -- ROUND
    · simp [getE]
    · rw [hcp, copyL_cons, hy]; rfl
  · refine W.exit ?_
    refine N.xth ?_
    refine N.xth ?_
    refine N.xeq ?_
    refine N.th ?_
    cases rest with
    | cons k rest => rw [hls] at h; simp at h; omega
    | nil =>
    have hcp' : Tr.copy m x = mm := by unfold Tr.copy; rw [hcp, copyL_nil]
    have hdr := Ext.drew none_ w3
    have hgd := hdr.obj hg3 id
    have hTd := hT3.ext0 hdr
    refine W.draw [] true (fun w' => w' = w3.drew) [0, 1, 2, 3, 4, 5, 6, 7, 8, 9] rfl rfl (by kernel_rfl) rfl ?_   -- held
    refine mv rfl rfl <| nilc rfl rfl <| fad rfl fl_Tree_1 rfl <| ldK rfl ag_int rfl (fun w' e => e ▸ hTd.c1) <| fad rfl fl_Move_3 rfl <| ldK (v := .int .i64 x.bytes) rfl ag_int rfl (fun w' e => e ▸ cell_of hgd (i := 3) rfl) <| addI (c := sz + x.bytes) rfl rfl rfl (w64 (by omega) (by omega)) <| nilc rfl rfl <| fad rfl fl_Tree_1 rfl <|
      st1 rfl rfl sz_int rfl hTd.cell rfl (hS := .inl ⟨rfl, rfl⟩) <| L.nilH ?_
    have hxs : Ext (fun k => k = bt) w3.drew (w3.drew.setCell ⟨bt, 0 + 1, none⟩ (.int .i64 (sz + x.bytes))) := Ext.setCell (S := fun k => k = bt) _ (fun _ => rfl) _
    refine N.end0 rfl ?_
    obtain ⟨al3, hm3, hr3⟩ := hTd.reps
    refine ⟨rfl, ⟨?_, ⟨al3, ?_, ?_⟩, hTd.lowAt hxs.size⟩, ?_⟩
    · rw [setCell_heap hTd.cell]; rfl
    · exact hm3.ext hxs (fun e => hTd.ne e.symm)
    · rw [hcp']; exact hr3.ext hxs (fun i hi => hTd.kd i (.inl hi))
    · exact hx1.none.trans (hx2.trans (hx3.trans (hdr.none.trans (hxs.mono fun _ _ h => .inl h))))

theorem dests_len (n : Nat) (q : Tr.Bytes) : ∀ l, (Tr.dests n q l).2 = 0 → (Tr.dests n q l).1.length = l.length := by
  intro l
  induction l with
  | nil => intro _; rfl
  | cons k l ih =>
    intro h
    rw [dests_cons] at h ⊢
    split
    · rename_i hc; rw [if_pos hc] at h; exact absurd h hc
    · rename_i hc
      rw [if_neg hc] at h
      split
      · rename_i hd; rw [if_pos hd] at h; exact absurd h hd
      · rename_i hd
        simp [ih (by simpa using hd)]
theorem plan_spec {m : Tr.T} {s d : Tr.Bytes} {x : Tr.Move} {e : Int} (h : Tr.plan m s d = (some x, e)) : e = 0 ∧ x.src = Tr.below m (Sp.clean s).1 ∧ (Tr.dests (Sp.clean s).1.length (Sp.clean d).1 x.src) = (x.dst, 0) ∧ Tr.ahead m (Sp.clean d).1 = some x.lack ∧
    x.bytes = (x.src.map fun k => ((Tr.get m k).getD (true, [])).2.length).sum ∧ (Sp.clean s).2 = 0 ∧ (Sp.clean d).2 = 0 ∧ (Tr.at_ m (Sp.clean s).1).isSome ∧ (Sp.clean s).1 ≠ [] ∧ Sp.within (Sp.clean d).1 (Sp.clean s).1 = false ∧ Tr.at_ m (Sp.clean d).1 = none := by
  unfold Tr.plan at h
  split at h
  · cases h
  rename_i h1
  split at h
  · cases h
  rename_i h2
  dsimp only at h
  split at h
  · cases h
  rename_i h3
  split at h
  · cases h
  rename_i h4
  split at h
  · cases h
  rename_i h5
  split at h
  · cases h
  rename_i lack h6
  split at h
  · cases h
  rename_i h7
  cases h
  have hk : Tr.at_ m (Sp.clean d).1 = none := by
    cases hh : Tr.at_ m (Sp.clean d).1 with
    | none => rfl
    | some x => rw [hh] at h5; simp at h5
  have hj : (Tr.at_ m (Sp.clean s).1).isSome = true := by
    cases hh : Tr.at_ m (Sp.clean s).1 with
    | none => rw [hh] at h3; simp at h3
    | some x => rfl
  refine ⟨rfl, rfl, Prod.ext rfl (by simpa using h7), h6, rfl, by simpa using h1, by simpa using h2, hj, fun e => h4 (.inl e), ?_, hk⟩
  cases hw : Sp.within (Sp.clean d).1 (Sp.clean s).1 with
  | false => rfl
  | true => exact absurd (.inr hw) h4
theorem isSome_copyL : ∀ (l r : List Tr.Bytes) {m : Tr.T} {k : Tr.Bytes}, (Tr.get m k).isSome = true → (Tr.get (Tr.copyL m l r) k).isSome = true := by
  intro l
  induction l with
  | nil => intro r m k h; rw [copyL_nil]; exact h
  | cons a l ih =>
    intro r m k h
    cases r with
    | nil => exact h
    | cons b r => rw [copyL_cons]; exact ih r (isSome_set h)
theorem nodup_copyL : ∀ (l r : List Tr.Bytes) {m : Tr.T}, (m.map (·.1)).Nodup → ((Tr.copyL m l r).map (·.1)).Nodup := by
  intro l
  induction l with
  | nil => intro r m h; rw [copyL_nil]; exact h
  | cons a l ih =>
    intro r m h
    cases r with
    | nil => exact h
    | cons b r => rw [copyL_cons]; exact ih r (Tr.nodup_set _ _ h)

theorem plan_none {m : Tr.T} {s d : Tr.Bytes} {ee : Int} (hP : Tr.plan m s d = (none, ee)) : ee ≠ 0 := by
  intro e0
  subst e0
  have h := hP
  unfold Tr.plan at h
  split at h
  · rename_i h1; exact h1 (congrArg Prod.snd h)
  split at h
  · rename_i h1; exact h1 (congrArg Prod.snd h)
  dsimp only at h
  split at h
  · cases h
  split at h
  · cases h
  split at h
  · cases h
  split at h
  · cases h
  split at h
  · rename_i h1; exact h1 (congrArg Prod.snd h)
  · cases h

theorem c_Rename {w : World} {bt bm : Nat} {m : Tr.T} (s d : Tr.Bytes) (ht : Tree A w bt bm m) (hkl : ∀ p ∈ m, p.1.length ≤ 100000) (hsz : ∀ x e, Tr.plan m s d = (some x, e) → Tr.size (Tr.copy m x) = Tr.size m + x.bytes) :
    Calls P 43 #[pT bt, .string (S s), .string (S d)] w (Does A bt bm w (Tr.rename m s d)) := by
  have hm1 := ht.len
  have hm2 := ht.bytes
  refine enter (l := [_, _, _]) (n := 32) Tryz.func43 rfl rfl rfl ?_
  refine W.seq ?_
  refine W.reg <| asg rfl rfl <| L.nil ?_
  refine N.th ?_
  refine W.seq ?_
  refine W.reg <| mv rfl rfl <| mv rfl rfl <| mv rfl rfl <| call (vs := [_, _, _]) rfl rfl ok_plan (c_plan s d ht hkl) ?_
  rintro e w1 ⟨hx1, hpl⟩
  have hT1 := ht.at_.ext0 hx1
  cases hP : Tr.plan m s d with
  | mk o ee =>
  rw [hP] at hpl
  cases o with
  | none =>
    obtain rfl := hpl
    refine ⟨_, rfl, ?_⟩
    have hee : ee ≠ 0 := plan_none hP
    refine mv rfl rfl <| ext (v := moveZ) rfl rfl rfl <| ext (v := .int .i64 ee) rfl rfl rfl <| new ze_Move rfl <| stR rfl rfl sz_Move rfl (heap_new _ _) rfl <| asg rfl rfl <| L.nil ?_
    refine N.th ?_
    refine W.seq ?_
    refine W.seq ?_
    refine W.reg <| mv rfl rfl <| neqI rfl rfl rfl <| L.nil ?_
    refine N.th ?_
    refine W.cond rfl (fun h => ?_) (fun h => by simp at h; exact absurd h hee)
    refine W.seq ?_
    refine W.reg <| mv rfl rfl <| asg rfl rfl <| L.nil ?_
    refine N.th ?_
    refine W.ret ?_
    refine N.rth ?_
    refine N.ret1 rfl rfl ?_   -- RETURN
    unfold Tr.rename; rw [hP]
    have hx2 : Ext none_ w1 ((w1.alloc (.cells (Value.cells (.agg #[.slice none 0 0, .slice none 0 0, .slice none 0 0, .int .i64 0])) tM)).setRow w1.heap.size #[.slice none 0 0, .slice none 0 0, .slice none 0 0, .int .i64 0]) :=
      (Ext.alloc none_ _ _).trans' (Ext.setRow (S := fun k => k = w1.heap.size) _ (fun _ => rfl) _) (fun i hi e => by omega)
    exact ⟨rfl, hT1.ext0 hx2, (hx1.trans hx2).none⟩
  | some x =>
    obtain ⟨v, rfl, hv⟩ := hpl
    refine ⟨_, rfl, ?_⟩
    obtain ⟨rfl, hsrc, hdst, hlack, hbytes, -⟩ := plan_spec hP
    have hsz' := hsz x 0 hP
    have hin : ∀ k ∈ x.src, (Tr.get m k).isSome = true := fun k hk => below_in (hsrc ▸ hk)
    have hdl : x.dst.length = x.src.length := by have := dests_len _ _ _ (show (Tr.dests (Sp.clean s).1.length (Sp.clean d).1 x.src).2 = 0 by rw [hdst]); rw [hdst] at this; exact this
    have hsl : x.src.length ≤ 500 := by rw [hsrc]; have := Tr.len_below m (Sp.clean s).1; omega
    have hbb : x.bytes ≤ 500 * 1048576 := by
      have h1 := bytes_le m x.src
      have : x.src.length * Tr.size m ≤ 500 * 1048576 := Nat.mul_le_mul hsl hm2
      omega
    have hlk := Tr.ahead_len hlack
    have hcd := clean_len d
    obtain ⟨fv, tv, lv, rfl, hfv, htv, hlv⟩ := hv
    obtain ⟨la, lc, rfl, hln, hlm⟩ := own_slice hlv
    refine mv rfl rfl <| ext (v := .agg #[fv, tv, .slice la x.lack.length lc, .int .i64 x.bytes]) rfl rfl rfl <| ext (v := .int .i64 0) rfl rfl rfl <| new ze_Move rfl <| stR rfl rfl sz_Move ?_ (heap_new _ _) rfl <| asg rfl rfl <| L.nil ?_
    · show (Value.oneCell' fv && (Value.oneCell' tv && (true && (true && true)))) = true
      rw [(own_cells hfv).2, (own_cells htv).2]; rfl
    obtain ⟨w2, hw2⟩ : ∃ w2, w2 = (w1.alloc (.cells (Value.cells (.agg #[.slice none 0 0, .slice none 0 0, .slice none 0 0, .int .i64 0])) tM)).setRow w1.heap.size #[fv, tv, .slice la x.lack.length lc, .int .i64 x.bytes] := ⟨_, rfl⟩
    have hx2 : Ext none_ w1 w2 := by rw [hw2]; exact (Ext.alloc none_ _ _).trans' (Ext.setRow (S := fun k => k = w1.heap.size) _ (fun _ => rfl) _) (fun i hi e => by omega)
    have hg2 : w2.heap[w1.heap.size]? = some (.cells [fv, tv, .slice la x.lack.length lc, .int .i64 x.bytes].toArray tM (0, 0)) := by rw [hw2]; exact setRow_heap _ _ _ _ _ _ (heap_new _ _)
    rw [← hw2]
    refine N.th ?_
    refine W.seq ?_
    refine W.seq ?_
    refine W.reg <| mv rfl rfl <| neqI rfl rfl rfl <| L.nil ?_
    refine N.th ?_
    refine W.condF rfl ?_
    refine W.skip ?_
    refine N.th ?_
    refine W.seq ?_
    refine W.seq ?_
    have hT2 := hT1.ext0 hx2
    refine W.reg <| mv rfl rfl <| fad rfl fl_Move_2 rfl <| ld1 rfl ag_strs rfl (cell_of hg2 (i := 2) (v := .slice la x.lack.length lc) rfl) <| lenV rfl u_strs rfl <| call (vs := [_, _, _]) rfl rfl ok_room (c_room hT2 (by omega) (by omega) (by omega)) ?_
    rintro e w3 ⟨rfl, rfl⟩
    refine ⟨_, rfl, ?_⟩
    refine notB rfl rfl <| L.nil ?_
    refine N.th ?_
    refine W.cond rfl (fun h => ?_) (fun h => ?_)
    · refine W.seq ?_
      refine W.reg <| asg rfl rfl <| L.nil ?_
      refine N.th ?_
      refine W.ret ?_
      refine N.rth ?_
      refine N.ret1 rfl rfl ?_   -- RETURN
      unfold Tr.rename; rw [hP]
      dsimp only
      rw [if_pos (by unfold Tr.room; simpa only [Bool.not_eq_true'] using h)]
      exact ⟨rfl, hT2, (hx1.trans hx2).none⟩
    · refine W.skip ?_
      refine N.th ?_
      refine W.seq ?_
      refine W.reg <| mv rfl rfl <| ldk (cs := [fv, tv, .slice la x.lack.length lc, .int .i64 x.bytes]) rfl ag_Move sz_Move rfl rfl (row_cells hg2) <| call (vs := [_, _]) rfl rfl ok_copy (c_copy (B := w.heap.size) (x := x) hT2 ⟨fv, tv, _, rfl, Strs.ext0' hfv hx2, Strs.ext0' htv hx2, Strs.ext0' hlv hx2⟩ hin hdl (by omega) (by omega) (by omega) (by omega)) ?_
      rintro e w4 ⟨rfl, hT4, hx4⟩
      refine ⟨_, rfl, ?_⟩
      refine L.nil ?_
      refine N.th ?_
      refine W.seq ?_
      have hneT : ¬ Two bt bm w1.heap.size := by
        have := hT1.lt
        rintro (e | e) <;> omega
      have hg4 := hx4.obj hg2 hneT
      have hfv4 := strs_tree (Strs.ext0' hfv hx2) hT2 hx4
      refine W.reg <| mv rfl rfl <| fad rfl fl_Move_0 rfl <| ld1 rfl ag_strs rfl (cell_of hg4 (i := 0) (v := fv) rfl) <| call (vs := [_, _]) rfl rfl ok_drop (c_drop x.src fv hT4 (Row.own hfv4) (fun k hk => isSome_copyL _ _ (isSome_make (hin k hk))) (hsrc ▸ Tr.nodup_below hT2.nodup) (by omega) (by omega) (by omega)) ?_
      rintro e w5 ⟨rfl, hT5, hx5⟩
      refine ⟨_, rfl, ?_⟩
      refine L.nil ?_
      refine N.th ?_
      refine W.seq ?_
      refine W.reg <| asg rfl rfl <| L.nil ?_
      refine N.th ?_
      refine W.ret ?_
      refine N.ret1 rfl rfl ?_   -- RETURN
      have hr : Tr.room m x.lack.length 0 = true := by unfold Tr.room; simpa only [Bool.not_eq_false'] using h
      unfold Tr.rename; rw [hP]
      dsimp only
      rw [if_neg (by rw [hr]; simp)]
      refine ⟨rfl, ?_, (hx1.trans hx2).none.trans (hx4.trans hx5)⟩
      dsimp only
      rw [show ((Tr.size (Tr.drop (Tr.copy m x) x.src) : Nat) : Int) = (Tr.size m : Int) + x.bytes - Tr.size (Tr.copy m x) + Tr.size (Tr.drop (Tr.copy m x) x.src) by omega]
      exact hT5
theorem c_Copy {w : World} {bt bm : Nat} {m : Tr.T} (s d : Tr.Bytes) (ht : Tree A w bt bm m) (hkl : ∀ p ∈ m, p.1.length ≤ 100000) (hsz : ∀ x e, Tr.plan m s d = (some x, e) → Tr.size (Tr.copy m x) = Tr.size m + x.bytes) :
    Calls P 45 #[pT bt, .string (S s), .string (S d)] w (Does A bt bm w (Tr.cpy m s d)) := by
  have hm1 := ht.len
  have hm2 := ht.bytes
  refine enter (l := [_, _, _]) (n := 34) Tryz.func45 rfl rfl rfl ?_
  refine W.seq ?_
  refine W.reg <| asg rfl rfl <| L.nil ?_
  refine N.th ?_
  refine W.seq ?_
  refine W.reg <| mv rfl rfl <| mv rfl rfl <| mv rfl rfl <| call (vs := [_, _, _]) rfl rfl ok_plan (c_plan s d ht hkl) ?_
  rintro e w1 ⟨hx1, hpl⟩
  have hT1 := ht.at_.ext0 hx1
  cases hP : Tr.plan m s d with
  | mk o ee =>
  rw [hP] at hpl
  cases o with
  | none =>
    obtain rfl := hpl
    refine ⟨_, rfl, ?_⟩
    have hee : ee ≠ 0 := plan_none hP
    refine mv rfl rfl <| ext (v := moveZ) rfl rfl rfl <| ext (v := .int .i64 ee) rfl rfl rfl <| new ze_Move rfl <| stR rfl rfl sz_Move rfl (heap_new _ _) rfl <| asg rfl rfl <| L.nil ?_
    refine N.th ?_
    refine W.seq ?_
    refine W.seq ?_
    refine W.reg <| mv rfl rfl <| neqI rfl rfl rfl <| L.nil ?_
    refine N.th ?_
    refine W.cond rfl (fun h => ?_) (fun h => by simp at h; exact absurd h hee)
    refine W.seq ?_
    refine W.reg <| mv rfl rfl <| asg rfl rfl <| L.nil ?_
    refine N.th ?_
    refine W.ret ?_
    refine N.rth ?_
    refine N.ret1 rfl rfl ?_   -- RETURN
    unfold Tr.cpy; rw [hP]
    have hx2 : Ext none_ w1 ((w1.alloc (.cells (Value.cells (.agg #[.slice none 0 0, .slice none 0 0, .slice none 0 0, .int .i64 0])) tM)).setRow w1.heap.size #[.slice none 0 0, .slice none 0 0, .slice none 0 0, .int .i64 0]) :=
      (Ext.alloc none_ _ _).trans' (Ext.setRow (S := fun k => k = w1.heap.size) _ (fun _ => rfl) _) (fun i hi e => by omega)
    exact ⟨rfl, hT1.ext0 hx2, (hx1.trans hx2).none⟩
  | some x =>
    obtain ⟨v, rfl, hv⟩ := hpl
    refine ⟨_, rfl, ?_⟩
    obtain ⟨rfl, hsrc, hdst, hlack, hbytes, -⟩ := plan_spec hP
    have hsz' := hsz x 0 hP
    have hin : ∀ k ∈ x.src, (Tr.get m k).isSome = true := fun k hk => below_in (hsrc ▸ hk)
    have hdl : x.dst.length = x.src.length := by have := dests_len _ _ _ (show (Tr.dests (Sp.clean s).1.length (Sp.clean d).1 x.src).2 = 0 by rw [hdst]); rw [hdst] at this; exact this
    have hsl : x.src.length ≤ 500 := by rw [hsrc]; have := Tr.len_below m (Sp.clean s).1; omega
    have hbb : x.bytes ≤ 500 * 1048576 := by
      have h1 := bytes_le m x.src
      have : x.src.length * Tr.size m ≤ 500 * 1048576 := Nat.mul_le_mul hsl hm2
      omega
    have hlk := Tr.ahead_len hlack
    have hcd := clean_len d
    obtain ⟨fv, tv, lv, rfl, hfv, htv, hlv⟩ := hv
    obtain ⟨la, lc, rfl, hln, hlm⟩ := own_slice hlv
    refine mv rfl rfl <| ext (v := .agg #[fv, tv, .slice la x.lack.length lc, .int .i64 x.bytes]) rfl rfl rfl <| ext (v := .int .i64 0) rfl rfl rfl <| new ze_Move rfl <| stR rfl rfl sz_Move ?_ (heap_new _ _) rfl <| asg rfl rfl <| L.nil ?_
    · show (Value.oneCell' fv && (Value.oneCell' tv && (true && (true && true)))) = true
      rw [(own_cells hfv).2, (own_cells htv).2]; rfl
    obtain ⟨w2, hw2⟩ : ∃ w2, w2 = (w1.alloc (.cells (Value.cells (.agg #[.slice none 0 0, .slice none 0 0, .slice none 0 0, .int .i64 0])) tM)).setRow w1.heap.size #[fv, tv, .slice la x.lack.length lc, .int .i64 x.bytes] := ⟨_, rfl⟩
    have hx2 : Ext none_ w1 w2 := by rw [hw2]; exact (Ext.alloc none_ _ _).trans' (Ext.setRow (S := fun k => k = w1.heap.size) _ (fun _ => rfl) _) (fun i hi e => by omega)
    have hg2 : w2.heap[w1.heap.size]? = some (.cells [fv, tv, .slice la x.lack.length lc, .int .i64 x.bytes].toArray tM (0, 0)) := by rw [hw2]; exact setRow_heap _ _ _ _ _ _ (heap_new _ _)
    rw [← hw2]
    refine N.th ?_
    refine W.seq ?_
    refine W.seq ?_
    refine W.reg <| mv rfl rfl <| neqI rfl rfl rfl <| L.nil ?_
    refine N.th ?_
    refine W.condF rfl ?_
    refine W.skip ?_
    refine N.th ?_
    refine W.seq ?_
    refine W.seq ?_
    have hT2 := hT1.ext0 hx2
    obtain ⟨fa, fc, rfl, hfn, hfm⟩ := own_slice hfv
    refine W.reg <| mv rfl rfl <| fad rfl fl_Move_2 rfl <| ld1 rfl ag_strs rfl (cell_of hg2 (i := 2) (v := .slice la x.lack.length lc) rfl) <| lenV rfl u_strs rfl <| fad rfl fl_Move_0 rfl <| ld1 rfl ag_strs rfl (cell_of hg2 (i := 0) (v := .slice fa x.src.length fc) rfl) <| lenV rfl u_strs rfl <| addI (c := (x.lack.length : Int) + x.src.length) rfl rfl rfl (w64 (by omega) (by omega)) <|
      fad rfl fl_Move_3 rfl <| ld1 rfl ag_int rfl (cell_of hg2 (i := 3) (v := .int .i64 x.bytes) rfl) <| call (vs := [_, _, _]) rfl rfl ok_room (c_room hT2 (by omega) (by omega) (by omega)) ?_
    rintro e w3 ⟨rfl, rfl⟩
    refine ⟨_, rfl, ?_⟩
    refine notB rfl rfl <| L.nil ?_
    refine N.th ?_
    refine W.cond rfl (fun h => ?_) (fun h => ?_)
    · refine W.seq ?_
      refine W.reg <| asg rfl rfl <| L.nil ?_
      refine N.th ?_
      refine W.ret ?_
      refine N.rth ?_
      refine N.ret1 rfl rfl ?_   -- RETURN
      unfold Tr.cpy; rw [hP]
      dsimp only
      rw [if_pos (by unfold Tr.room; simpa only [Bool.not_eq_true'] using h)]
      exact ⟨rfl, hT2, (hx1.trans hx2).none⟩
    · refine W.skip ?_
      refine N.th ?_
      refine W.seq ?_
      refine W.reg <| mv rfl rfl <| ldk (cs := [.slice fa x.src.length fc, tv, .slice la x.lack.length lc, .int .i64 x.bytes]) rfl ag_Move sz_Move rfl rfl (row_cells hg2) <| call (vs := [_, _]) rfl rfl ok_copy (c_copy (B := w.heap.size) (x := x) hT2 ⟨_, tv, _, rfl, Strs.ext0' hfv hx2, Strs.ext0' htv hx2, Strs.ext0' hlv hx2⟩ hin hdl (by omega) (by omega) (by omega) (by omega)) ?_
      rintro e w4 ⟨rfl, hT4, hx4⟩
      refine ⟨_, rfl, ?_⟩
      refine L.nil ?_
      refine N.th ?_
      refine W.seq ?_
      refine W.reg <| asg rfl rfl <| L.nil ?_
      refine N.th ?_
      refine W.ret ?_
      refine N.ret1 rfl rfl ?_   -- RETURN
      have hr : Tr.room m ((x.lack.length : Int) + x.src.length) x.bytes = true := by unfold Tr.room; simpa only [Bool.not_eq_false'] using h
      unfold Tr.cpy; rw [hP]
      dsimp only
      rw [if_neg (by rw [hr]; simp)]
      refine ⟨rfl, ?_, (hx1.trans hx2).none.trans hx4⟩
      dsimp only
      rw [hsz']
      exact hT4
end Go.Proofs.YtmdpmpdlkaogdaaGreatDoor

namespace Go.Proofs.YtmdpmpdlkaogdaaGreatDoor
open Go Go.RowKit Vc

theorem ok_isNaN : FnOk P 99 := ⟨_, Tryz.func99, by kernel_rfl, by kernel_rfl⟩
theorem ok_Compare : FnOk P 69 := ⟨_, Tryz.func69, by kernel_rfl, by kernel_rfl⟩
theorem ok_SortFunc : FnOk P 67 := ⟨_, Tryz.func67, by kernel_rfl, by kernel_rfl⟩

theorem c_isNaN (s : Tr.Bytes) (w : World) : Calls P 99 #[.string (S s)] w fun e w' => e = .returned (.bool false) ∧ w = w' := by
  go_enter Tryz.func99, Tryz.ntmps99
  go_wp2
  all_goals (try go_ret)
  all_goals (refine ⟨?_, rfl⟩)
  all_goals simp

def cmpB (a b : Tr.Bytes) : Int := if Op.bytesLess a b then -1 else if (!(Op.bytesLess a b || a == b)) then 1 else 0
theorem bytesLess_lt (a b : Tr.Bytes) : Op.bytesLess a b = decide (a < b) := Go.Proofs.bytesLess_eq a b

theorem c_Compare (a b : Tr.Bytes) (w : World) : Calls P 69 #[.string (S a), .string (S b)] w fun e w' => e = .returned (.int .i64 (cmpB a b)) ∧ w = w' := by
  refine enter (l := [_, _]) (n := 20) Tryz.func69 rfl rfl rfl ?_
  refine W.seq ?_
  refine W.reg <| asg rfl rfl <| L.nil ?_
  refine N.th ?_
  refine W.seq ?_
  refine W.reg <| mv rfl rfl <| call (vs := [_]) rfl rfl ok_isNaN (c_isNaN a w) ?_
  rintro e w1 ⟨rfl, rfl⟩
  refine ⟨_, rfl, ?_⟩
  refine asg rfl rfl <| L.nil ?_
  refine N.th ?_
  refine W.seq ?_
  refine W.reg <| mv rfl rfl <| call (vs := [_]) rfl rfl ok_isNaN (c_isNaN b w) ?_
  rintro e w1 ⟨rfl, rfl⟩
  refine ⟨_, rfl, ?_⟩
  refine asg rfl rfl <| L.nil ?_
  refine N.th ?_
  refine W.seq ?_
  refine W.seq ?_
  refine W.reg <| mv rfl rfl <| L.nil ?_
  refine N.th ?_
  refine W.condF rfl ?_
  refine W.skip ?_
  refine N.th ?_
  refine W.seq ?_
  refine W.seq ?_
  refine W.reg <| mv rfl rfl <| L.nil ?_
  refine N.th ?_
  refine W.condF rfl ?_
  refine W.skip ?_
  refine N.th ?_
  refine W.seq ?_
  refine W.seq ?_
  refine W.reg <| mv rfl rfl <| mv rfl rfl <| lssS rfl rfl rfl <| L.nil ?_
  refine N.th ?_
  unfold cmpB
  refine W.cond rfl (fun h => ?_) (fun h => ?_)
  · refine W.seq ?_
    refine W.reg <| asg rfl rfl <| L.nil ?_
    refine N.th ?_
    refine W.ret ?_
    refine N.rth ?_
    refine N.ret1 rfl rfl ?_   -- RETURN
    rw [if_pos h]; exact ⟨rfl, rfl⟩
  · refine W.skip ?_
    refine N.th ?_
    refine W.seq ?_
    refine W.seq ?_
    refine W.reg <| mv rfl rfl <| mv rfl rfl <| gtrS rfl rfl rfl <| L.nil ?_
    refine N.th ?_
    rw [if_neg (by rw [h]; simp)]
    refine W.cond rfl (fun h => ?_) (fun h => ?_)
    · refine W.seq ?_
      refine W.reg <| asg rfl rfl <| L.nil ?_
      refine N.th ?_
      refine W.ret ?_
      refine N.rth ?_
      refine N.ret1 rfl rfl ?_   -- RETURN
      rw [if_pos h]; exact ⟨rfl, rfl⟩
    · refine W.skip ?_
      refine N.th ?_
      refine W.seq ?_
      refine W.reg <| asg rfl rfl <| L.nil ?_
      refine N.th ?_
      refine W.ret ?_
      refine N.ret1 rfl rfl ?_   -- RETURN
      rw [if_neg (by rw [h]; simp)]; exact ⟨rfl, rfl⟩

/-- A file as it lies in a list: its path, is it a directory, its bytes: where, and what they are. -/
abbrev FE := Tr.Bytes × Bool × Value × Tr.Bytes
def fcells (x : FE) : List Value := [.string (S x.1), .bool x.2.1, x.2.2.1]
def fnd (x : FE) : Tr.Bytes × Tr.Nd := (x.1, (x.2.1, x.2.2.2))
abbrev tF : TypeId := 45

theorem c_cmp (x y : FE) (w : World) : Calls P 68 #[.agg (fcells x).toArray, .agg (fcells y).toArray] w fun e w' => e = .returned (.int .i64 (cmpB x.1 y.1)) ∧ w' = (w.alloc (.cells (fcells x).toArray tF)).alloc (.cells (fcells y).toArray tF) := by
  refine enter (l := [_, _]) (n := 10) Tryz.func68 rfl rfl rfl ?_
  refine W.seq ?_
  refine W.reg <| box rfl rfl <| box rfl rfl <| asg rfl rfl <| L.nil ?_
  refine N.th ?_
  refine W.seq ?_
  have h1 : ((w.alloc (.cells (fcells x).toArray tF)).alloc (.cells (fcells y).toArray tF)).cell? ⟨w.heap.size, 0, none⟩ = some (.string (S x.1)) := cell_of ((heap_alloc _ _ (by simp)).trans (heap_new _ _)) rfl
  have h2 : ((w.alloc (.cells (fcells x).toArray tF)).alloc (.cells (fcells y).toArray tF)).cell? ⟨(w.alloc (.cells (fcells x).toArray tF)).heap.size, 0, none⟩ = some (.string (S y.1)) := cell_of (heap_new _ _) rfl
  refine W.reg <| fad rfl fl_File_0 rfl <| ld1 rfl ag_str rfl h1 <| fad rfl fl_File_0 rfl <| ld1 rfl ag_str rfl h2 <| call (vs := [_, _]) rfl rfl ok_Compare (c_Compare _ _ _) ?_
  rintro e w1 ⟨rfl, rfl⟩
  refine ⟨_, rfl, ?_⟩
  refine asg rfl rfl <| L.nil ?_
  refine N.th ?_
  refine W.ret ?_
  refine N.ret1 rfl rfl ?_   -- RETURN
  exact ⟨rfl, rfl⟩
end Go.Proofs.YtmdpmpdlkaogdaaGreatDoor

namespace Go.Proofs.YtmdpmpdlkaogdaaGreatDoor
open Go Go.RowKit Vc Go.Sort

theorem ok_cmp : FnOk P 68 := ⟨_, Tryz.func68, by kernel_rfl, by kernel_rfl⟩

theorem flat_get {α β : Type} (f : α → List β) (k : Nat) (hk : ∀ x, (f x).length = k) (hk0 : 0 < k) : ∀ (l : List α) (t : Nat), (l.flatMap f)[t]? = (l[t / k]?).bind fun x => (f x)[t % k]? := by
  intro l
  induction l with
  | nil => intro t; simp
  | cons x l ih =>
    intro t
    rw [List.flatMap_cons]
    by_cases ht : t < k
    · rw [List.getElem?_append_left (by rw [hk]; exact ht), Nat.div_eq_of_lt ht, Nat.mod_eq_of_lt ht]; rfl
    · obtain ⟨u, rfl⟩ : ∃ u, t = k + u := ⟨t - k, by omega⟩
      rw [List.getElem?_append_right (by rw [hk]; omega), hk, Nat.add_sub_cancel_left, ih, Nat.add_div_left _ hk0, Nat.add_mod_left, List.getElem?_cons_succ]
theorem flat_len {α β : Type} (f : α → List β) (k : Nat) (hk : ∀ x, (f x).length = k) (l : List α) : (l.flatMap f).length = l.length * k := by
  induction l with
  | nil => simp
  | cons x l ih => rw [List.flatMap_cons, List.length_append, hk, ih, List.length_cons, Nat.succ_mul]; omega
theorem flatK_eq {α : Type} [Inhabited α] (enc : α → List Value) (k : Nat) (hk : ∀ x, (enc x).length = k) (hk0 : 0 < k) (d : List α) : flatK enc k d.toArray = (d.flatMap enc).toArray := by
  apply Array.ext'
  apply List.ext_getElem?
  intro t
  rw [flat_get enc k hk hk0]
  by_cases ht : t < d.length * k
  · have h1 : t / k < d.length := Nat.div_lt_of_lt_mul (by rw [Nat.mul_comm]; exact ht)
    have h2 : t % k < k := Nat.mod_lt _ hk0
    simp [flatK, ht, h1, hk, h2]
  · have h1 : d.length ≤ t / k := (Nat.le_div_iff_mul_le hk0).2 (by omega)
    simp [flatK, ht, h1]

theorem fcells_len (x : FE) : (fcells x).length = 3 := rfl
theorem ltOf_cmp (a b : Tr.Bytes) : decide (cmpB a b < 0) = decide (a < b) := by
  unfold cmpB
  rw [bytesLess_lt]
  by_cases h : a < b
  · simp [h]
  · simp [h]; split <;> omega

theorem putCells_take (D cur : Array Value) (h : D.size ≤ cur.size) : (Sort.putCells id 0 D cur).toList.take D.size = D.toList := by
  apply List.ext_getElem?
  intro j
  rw [List.getElem?_take, Array.getElem?_toList, Array.getElem?_toList]
  by_cases hj : j < D.size
  · have hjc : j < cur.size := by omega
    simp only [if_pos hj, Sort.putCells, Array.getElem?_mapIdx, Array.getElem?_eq_getElem hjc, Option.map_some]
    rw [if_pos (by omega)]
    simp [hj]
  · simp [hj]

def sortE (E : List FE) : List FE := E.mergeSort fun x y => decide (x.1 ≤ y.1)

theorem path_inj {E : List FE} (hn : (E.map (·.1)).Nodup) {a b : FE} (ha : a ∈ E) (hb : b ∈ E) (hab : a.1 = b.1) : a = b := by
  induction E with
  | nil => cases ha
  | cons c E ih =>
    rw [List.map_cons, List.nodup_cons] at hn
    obtain ⟨h1, h2⟩ := hn
    rcases List.mem_cons.1 ha with e | ha
    · rcases List.mem_cons.1 hb with e' | hb
      · rw [e, e']
      · exact absurd (List.mem_map.2 ⟨b, hb, by rw [← hab, e]⟩) h1
    · rcases List.mem_cons.1 hb with e' | hb
      · exact absurd (List.mem_map.2 ⟨a, ha, by rw [hab, e']⟩) h1
      · exact ih h2 ha hb

theorem c_SortFunc {w : World} {B : Nat} {v : Value} {E : List FE} (h : w.ownsRow B tF 3 v E.length (E.flatMap fcells)) (hn : (E.map (·.1)).Nodup) (hone : ∀ x ∈ E, x.2.2.1.oneCell' = true) (hl : E.length ≤ 1000000000) :
    Calls P 67 #[v, .func (.func 68) #[] #[]] w fun e w' => e = .returned (.tuple #[]) ∧ w'.ownsRow B tF 3 v E.length ((sortE E).flatMap fcells) ∧ Ext (fun k => v.ownBlock = some k) w w' := by
  by_cases hE : E = []
  · subst hE
    obtain ⟨a, cap, rfl, -, -⟩ := own_slice h
    refine (AnyF.slices_SortFunc_none Tryz.laysSF a cap _ w).mono ?_
    rintro e w' ⟨rfl, rfl⟩
    refine ⟨rfl, ?_, Ext.refl _ _⟩
    rw [show sortE [] = [] by simp [sortE]]; exact h
  · obtain ⟨hlen, ⟨rfl, h0⟩ | ⟨g, cap, cur, rfl, hb, hg, hnc, hm, hs, ht⟩⟩ := h
    · exact absurd (List.eq_nil_of_length_eq_zero h0) hE
    obtain ⟨x0, hx0⟩ := List.exists_mem_of_ne_nil E hE
    have inst : Inhabited {x // x ∈ E} := ⟨⟨x0, hx0⟩⟩
    have hsz : E.attach.toArray.size = E.length := by simp
    have hfl : flatK (fun x : {x // x ∈ E} => fcells x.1) 3 E.attach.toArray = (E.flatMap fcells).toArray := by
      rw [flatK_eq _ 3 (fun _ => rfl) (by omega)]
      congr 1
      conv => rhs; rw [← List.attach_map_subtype_val E, List.flatMap_map]
    have hrow : Row w (.slice (some ⟨g, 0, none⟩) E.length cap) tF 3 E.length (E.flatMap fcells) := Row.own ⟨hlen, .inr ⟨g, cap, cur, rfl, hb, hg, hnc, hm, hs, ht⟩⟩
    have hlt : ∀ x y : {x // x ∈ E}, ltOf (fun x y : {x // x ∈ E} => cmpB x.1.1 y.1.1) x y = decide (x.1.1 < y.1.1) := fun x y => ltOf_cmp _ _
    have hso : Sort.SWO (ltOf fun x y : {x // x ∈ E} => cmpB x.1.1 y.1.1) := by
      refine ⟨fun x => ?_, fun x y z h1 h2 => ?_, fun x y z h1 h2 => ?_⟩
      · rw [hlt]; simp
      · rw [hlt] at *; simp only [decide_eq_true_eq] at *; exact List.lt_trans h1 h2
      · rw [hlt] at *; simp only [decide_eq_false_iff_not, List.not_lt] at *; exact List.le_trans h2 h1
    have hcon := AnyQ.slices_SortFunc_total Tryz.laysSF 3 (fun w => Vc.run_isAgg ag_File) (fun w => Vc.run_sizeOf sz_File) (fun x : {x // x ∈ E} => fcells x.1) (fun _ => rfl)
      (fun x u hu => by
        simp only [fcells, List.mem_cons, List.not_mem_nil, or_false] at hu
        rcases hu with rfl | rfl | rfl
        · rfl
        · rfl
        · exact hone _ x.2) (fun x y => cmpB x.1.1 y.1.1) hso 68 #[] g 0 cap E.attach.toArray w
      (fun args w => by
        obtain ⟨fn, h1, h2, h3⟩ := ok_cmp
        have hne' : ¬ fn.name = "runtime.NumGoroutine" := by simpa using h2
        have hbd' : ¬ fn.body = none := by cases h : fn.body with | none => rw [h] at h3; cases h3 | some c => simp
        simp [callFunc, program, Sem.run, h1, hne', hbd'])
      (fun m os dk _ x y => (c_cmp x.1 y.1 _).mono fun e w' ⟨h1, h2⟩ => ⟨h1, 0, #[.cells (fcells x.1).toArray tF, .cells (fcells y.1).toArray tF], by rw [h2, Sort.alloc_eq_grow, Sort.alloc_eq_grow, Sort.grow_grow]; rfl⟩)
      (fun j hj => by
        rw [hfl] at hj ⊢
        refine ⟨?_, by simp [World.frozen?, hg]⟩
        have hj' : j < (E.flatMap fcells).length := by simpa using hj
        have := hrow.cells rfl j _ (List.getElem?_eq_getElem hj')
        rw [this]
        simp
        rw [List.getElem?_eq_getElem hj']
        rfl)
      (lt_of_obj hg) (by rw [hsz]; omega)
      (fun x y h1 h2 => by
        rw [hlt] at h1 h2
        simp only [decide_eq_false_iff_not, List.not_lt] at h1 h2
        have hp : x.1.1 = y.1.1 := List.le_antisymm h2 h1
        apply Subtype.ext
        exact path_inj hn x.2 y.2 hp)
    rw [hsz] at hcon
    refine hcon.mono ?_
    rintro e w' ⟨rfl, n, os, rfl⟩
    have hfs : flatK (fun x : {x // x ∈ E} => fcells x.1) 3 (E.attach.toArray.toList.mergeSort fun x y => !(ltOf fun x y : {x // x ∈ E} => cmpB x.1.1 y.1.1) y x).toArray = ((sortE E).flatMap fcells).toArray := by
      rw [flatK_eq _ 3 (fun _ => rfl) (by omega)]
      congr 1
      have : (E.attach.toArray.toList.mergeSort fun x y => !(ltOf fun x y : {x // x ∈ E} => cmpB x.1.1 y.1.1) y x).map Subtype.val = sortE E := by
        rw [List.map_mergeSort (s := fun x y => decide (x.1 ≤ y.1))]
        · show (E.attach.map Subtype.val).mergeSort _ = _
          rw [List.attach_map_subtype_val]; rfl
        · intro a _ b _
          rw [hlt]
          by_cases h : b.1.1 < a.1.1
          · have : ¬ a.1.1 ≤ b.1.1 := by rw [List.not_le]; exact h
            simp [h, this]
          · have : a.1.1 ≤ b.1.1 := List.not_lt.1 h
            simp [h, this]
      rw [← this, List.flatMap_map]
    unfold sortWorldK putRowK
    rw [hfs]
    have hsl : (sortE E).length = E.length := List.length_mergeSort E
    obtain ⟨D, hD⟩ : ∃ D, D = ((sortE E).flatMap fcells).toArray := ⟨_, rfl⟩
    have hDl : D.size = E.length * 3 := by rw [hD]; simp [flat_len fcells 3 fcells_len, hsl]
    have hDc : D.size ≤ cur.size := by rw [hDl, hs]; omega
    rw [← hD]
    have hgl := lt_of_obj hg
    have hh : (Sort.grow (Sort.putRow id (Sort.ahead w n) g 0 D) os).heap[g]? = some (.cells (Sort.putCells id 0 D cur) tF (0, 0)) := by
      rw [show (Sort.grow (Sort.putRow id (Sort.ahead w n) g 0 D) os).heap = (Sort.putRow id (Sort.ahead w n) g 0 D).heap ++ os from rfl, Array.getElem?_append_left (by simpa [Sort.putRow, Sort.mapBlock, Sort.ahead] using hgl)]
      simp [Sort.putRow, Sort.mapBlock, Sort.ahead, Array.getElem?_modify, hg, Sort.onCells]
    refine ⟨rfl, ⟨by rw [flat_len fcells 3 fcells_len, hsl], .inr ⟨g, cap, _, rfl, hb, hh, hnc, hm, by simpa [Sort.putCells] using hs, ?_⟩⟩, ?_⟩
    · rw [← hDl, putCells_take D cur hDc, hD]
    · refine ⟨rfl, rfl, rfl, by simp [Sort.grow, Sort.putRow, Sort.mapBlock, Sort.ahead], fun k hk hne => ?_⟩
      rw [show (Sort.grow (Sort.putRow id (Sort.ahead w n) g 0 D) os).heap = (Sort.putRow id (Sort.ahead w n) g 0 D).heap ++ os from rfl, Array.getElem?_append_left (by simpa [Sort.putRow, Sort.mapBlock, Sort.ahead] using hk)]
      have : g ≠ k := fun e => hne (by rw [e]; rfl)
      simp [Sort.putRow, Sort.mapBlock, Sort.ahead, Array.getElem?_modify, this]
end Go.Proofs.YtmdpmpdlkaogdaaGreatDoor

namespace Go.Proofs.YtmdpmpdlkaogdaaGreatDoor
open Go Go.RowKit Vc
variable {A : Nat → Prop}

theorem ok_Files : FnOk P 31 := ⟨_, Tryz.func31, by kernel_rfl, by kernel_rfl⟩
theorem ok_TClone : FnOk P 39 := ⟨_, Tryz.func39, by kernel_rfl, by kernel_rfl⟩

/-- A list of files that may be read. -/
structure FilesAt (w : World) (v : Value) (E : List FE) : Prop where
  row : Row w v tF 3 E.length (E.flatMap fcells)
  bytes : ∀ x ∈ E, RowB w x.2.2.1 x.2.2.2

theorem get_map_self {m : Tr.T} (hn : (m.map (·.1)).Nodup) : m.map (fun p => (p.1, (Tr.get m p.1).getD (true, []))) = m := by
  conv => rhs; rw [← List.map_id m]
  refine List.map_congr_left fun p hp => ?_
  rw [Tr.mem_get hn hp]; rfl
theorem Vc.IterAt.sub {w : World} {it r : Nat} {al left : AL} (h : IterAt w it r al left) : ∀ p ∈ left, p ∈ al := by
  obtain ⟨es, c, seen, -, -, -, rfl, rfl⟩ := h
  intro p hp
  obtain ⟨e, he, rfl⟩ := List.mem_map.1 hp
  exact List.mem_map.2 ⟨e, (List.mem_filter.1 he).1, rfl⟩
theorem Vc.IterAt.itlt {w : World} {it r : Nat} {al left : AL} (h : IterAt w it r al left) : it < w.heap.size := by
  obtain ⟨es, c, seen, hi, -⟩ := h
  exact lt_of_obj hi
theorem Reps.at_ {w : World} {al : AL} {m : Tr.T} (h : Reps A w al m) (hn : (m.map (·.1)).Nodup) {p : Tr.Bytes × Value} (hp : p ∈ al) : ∃ x, Tr.get m p.1 = some x ∧ NodeAt A w p.2 x := by
  have ha : aget al p.1 = some p.2 := Tr.mem_get (α := Value) (m := al) (by rw [h.keys]; exact hn) hp
  have := h.look p.1
  rw [ha] at this
  cases hg : Tr.get m p.1 with
  | none =>
    have h2 := h.isSome p.1
    rw [ha, hg] at h2; cases h2
  | some x => rw [hg] at this; exact ⟨x, rfl, this⟩

theorem fcells_snoc (E : List FE) (x : FE) : (E ++ [x]).flatMap fcells = E.flatMap fcells ++ fcells x := by simp
theorem files_eq {E : List FE} {m : Tr.T} (h : (E.map fnd).Perm m) (hn : (m.map (·.1)).Nodup) : (sortE E).map fnd = Tr.files m := by
  have h1 : (sortE E).map fnd = (E.map fnd).mergeSort fun x y => decide (x.1 ≤ y.1) := List.map_mergeSort fun a _ b _ => rfl
  rw [h1]
  unfold Tr.files
  refine List.Perm.eq_of_pairwise (le := fun x y => decide (x.1 ≤ y.1) = true) ?_ (List.pairwise_mergeSort (fun a b c => Tr.le_tr a.1 b.1 c.1) (fun a b => Tr.le_tot a.1 b.1) _) (List.pairwise_mergeSort (fun a b c => Tr.le_tr a.1 b.1 c.1) (fun a b => Tr.le_tot a.1 b.1) _)
    ((List.mergeSort_perm _ _).trans (h.trans (List.mergeSort_perm _ _).symm))
  intro a b ha hb h1 h2
  have hab := Tr.le_as _ _ h1 h2
  have ha' : a ∈ m := h.mem_iff.1 ((List.mergeSort_perm _ _).mem_iff.1 ha)
  have hb' : b ∈ m := (List.mergeSort_perm _ _).mem_iff.1 hb
  have e1 := Tr.mem_get hn (show (a.1, a.2) ∈ m from ha')
  have e2 := Tr.mem_get hn (show (b.1, b.2) ∈ m from hb')
  rw [hab] at e1
  rw [e1] at e2
  exact Prod.ext hab (Option.some.inj e2)

theorem c_Files {w : World} {bt bm : Nat} {m : Tr.T} {sz : Int} (ht : TreeAt A w bt bm m sz) (hm1 : m.length ≤ 100000) (hm2 : Tr.size m ≤ 100000000) :
    Calls P 31 #[pT bt] w fun e w' => ∃ (v : Value) (E : List FE), e = .returned v ∧ E.map fnd = Tr.files m ∧ w'.ownsRow w.heap.size tF 3 v E.length (E.flatMap fcells) ∧ (∀ x ∈ E, Byts w.heap.size w' x.2.2.1 x.2.2.2) ∧ Ext none_ w w' := by
  have hnd := ht.nodup
  refine enter (l := [_]) (n := 33) Tryz.func31 rfl rfl rfl ?_
  refine W.seq ?_
  refine W.reg <| asg rfl rfl <| L.nil ?_
  refine N.th ?_
  refine W.seq ?_
  refine W.reg <| asg rfl rfl <| L.nil ?_
  refine N.th ?_
  refine W.seq ?_
  refine W.seq ?_
  obtain ⟨al, hal, hr⟩ := ht.reps
  refine W.reg <| mv rfl rfl <| nilc rfl rfl <| fad rfl fl_Tree_0 rfl <| ld1 rfl ag_mNode rfl ht.c0 <| rng rfl u_mNode rfl hal fun w1 hi1 hx1 hs1 => ?_
  refine L.nil ?_
  refine N.th ?_
  refine W.block ?_
  obtain ⟨G, hG⟩ : ∃ G : Tr.Bytes × Value → Tr.Bytes × Tr.Nd, G = fun p => (p.1, (Tr.get m p.1).getD (true, [])) := ⟨_, rfl⟩
  have hGal : al.map G = m := by
    have h1 : al.map G = (al.map (·.1)).map fun k => (k, (Tr.get m k).getD (true, [])) := by rw [hG, List.map_map]; rfl
    rw [h1, hr.keys, List.map_map]; exact get_map_self hnd
  refine W.loop (X := AL × List FE × Value) (fun x => [(10, .pointer (some ⟨w.heap.size, 0, none⟩)), (3, x.2.2), (0, pT bt)])
    (fun x w' => IterAt w' w.heap.size bm al x.1 ∧ w'.ownsRow w.heap.size tF 3 x.2.2 x.2.1.length (x.2.1.flatMap fcells) ∧ (x.2.1.map fnd ++ x.1.map G).Perm m ∧ x.2.1.length + x.1.length ≤ m.length ∧ Ext none_ w w' ∧ x.2.2.ownBlock ≠ some w.heap.size ∧
      (∀ y ∈ x.2.1, Byts w.heap.size w' y.2.2.1 y.2.2.2)) (fun x => x.1.length) (al, [], .slice none 0 0) ⟨rfl, rfl, rfl, trivial⟩
    ⟨hi1, own_nil _ _ _ _, by rw [hGal]; simp, by simp [hr.length], hx1, by simp [Value.ownBlock], by simp⟩ ?_
  rintro ⟨left, acc, v⟩ w2 ⟨hi, hown, hperm, hlen, hx, hne, hbs⟩
  dsimp only at hi hown hperm hlen hne hbs ⊢
  refine W.seq ?_
  refine W.reg <| nxt rfl rfl hi ?_ ?_
  · rintro rfl
    refine ext rfl rfl rfl <| L.nil ?_
    refine N.th ?_
    refine W.seq ?_
    refine W.condF rfl ?_
    refine W.exit ?_
    refine N.xth ?_
    refine N.xth ?_
    refine N.xeq ?_
    refine N.th ?_
    refine W.seq ?_
    have hp : (acc.map fnd).Perm m := by simpa using hperm
    have hkn : (acc.map (·.1)).Nodup := by
      have := (hp.map (·.1)).nodup_iff.2 hnd
      rwa [List.map_map] at this
    refine W.reg <| mv rfl rfl <| call (vs := [_, _]) rfl rfl ok_SortFunc (c_SortFunc hown hkn (fun x hx => (own_cells (hbs x hx)).2) (by omega)) ?_
    rintro e w3 ⟨rfl, hs3, hx3⟩
    refine ⟨_, rfl, ?_⟩
    refine L.nil ?_
    refine N.th ?_
    refine W.seq ?_
    refine W.reg <| mv rfl rfl <| asg rfl rfl <| L.nil ?_
    refine N.th ?_
    refine W.ret ?_
    refine N.ret1 rfl rfl ?_   -- RETURN
    have hsl : (sortE acc).length = acc.length := List.length_mergeSort acc
    refine ⟨_, sortE acc, rfl, files_eq hp hnd, by rw [hsl]; exact hs3, fun x hx' => ?_, hx.own hown hx3⟩
    have hxa : x ∈ acc := (List.mergeSort_perm acc _).mem_iff.1 hx'
    refine own_ext (hbs x hxa) hx3 fun k hk hk2 => ?_
    obtain ⟨c1, f1, h1⟩ := own_kind (hbs x hxa) k hk
    obtain ⟨c2, f2, h2⟩ := own_kind hown k hk2
    rw [h1] at h2; cases h2
  · rintro l1 q l2 w3 rfl hi3 hx3 hs3 hcur
    refine ext rfl rfl rfl <| L.nil ?_
    refine N.th ?_
    refine W.seq ?_
    refine W.condT rfl ?_
    refine W.skip ?_
    refine N.th ?_
    refine W.block ?_
    refine W.seq ?_
    refine W.reg <| ent rfl rfl hcur <| ext (v := .string (S q.1)) rfl rfl rfl <| ext (v := q.2) rfl rfl rfl <| asg rfl rfl <| asg rfl rfl <| L.nil ?_
    refine N.th ?_
    have hx03 : Ext none_ w w3 := hx.trans' hx3 fun i hi hh => by omega
    have hown3 := own_ext hown hx3 fun k hk e => hne (e ▸ hk)
    have hbs3 : ∀ y ∈ acc, Byts w.heap.size w3 y.2.2.1 y.2.2.2 := fun y hy => own_ext (hbs y hy) hx3 fun k hk e => by
      subst e
      obtain ⟨c1, f1, h1⟩ := own_kind (hbs y hy) _ hk
      obtain ⟨es, c, seen, h2, -⟩ := hi
      rw [h1] at h2; cases h2
    obtain ⟨x, hgx, nb, sl, hq2, hnb, hav, hrow⟩ := hr.at_ hnd (hi.sub q (by simp))
    have hnb3 := hx03.obj hnb id
    have hrow3 := hrow.ext0 hx03
    have hxl : x.2.length ≤ 100000000 := by have := old_le m q.1; simp [Tr.old, hgx] at this; omega
    simp only [List.length_append, List.length_cons] at hlen
    obtain ⟨va, vc, rfl, hvn, hvm⟩ := own_slice hown
    rw [hq2]
    have hdr := Ext.drew none_ w3
    have hrowd := hrow3.ext0 hdr
    have hnbd := hdr.obj hnb3 id
    refine W.draw [] false (fun w' => Ext none_ w3.drew w' ∨ ∃ w5, Ext none_ w3.drew w5 ∧ Ext (fun k => (Value.slice va acc.length vc).ownBlock = some k) w5 w') [0, 1, 2, 3, 4, 5, 6, 7, 8, 9, 10, 11, 12, 13, 14] rfl rfl (by kernel_rfl) (.inl (Ext.refl _ _)) ?_   -- held
    have keep : ∀ {w'}, (Ext none_ w3.drew w' ∨ ∃ w5, Ext none_ w3.drew w5 ∧ Ext (fun k => (Value.slice va acc.length vc).ownBlock = some k) w5 w') → w'.heap[nb]? = some (.cells #[.bool x.1, sl] tN (0, 0)) := by
      rintro w' (h | ⟨w5, h1, h2⟩)
      · exact h.obj hnbd id
      · refine h2.obj (h1.obj hnbd id) fun e => ?_
        obtain ⟨c2, f2, h3⟩ := own_kind hown3 nb e
        rw [hnb3] at h3; cases h3
    refine mv rfl rfl <| mv rfl rfl <| mv rfl rfl <| nilc rfl rfl <| fad rfl fl_Node_0 rfl <| ldK (v := .bool x.1) rfl ag_bool rfl (fun w' h => cell_of (keep h) rfl) <| mv rfl rfl <| nilc rfl rfl <| fad rfl fl_Node_1 rfl <| ldK (v := sl) rfl ag_bytes rfl (fun w' h => cell_of (keep h) rfl) <|
      callH (vs := [_]) rfl rfl ok_Clone (c_Clone hrowd.arg (by omega)) ?_
    rintro e w5 ⟨cv, rfl, hcv, hx5, -⟩
    refine ⟨_, rfl, .inr fun h => ?_, ?_⟩
    · rcases h with h | ⟨w5', h1, h2⟩
      · exact .inl (h.trans hx5)
      · exact .inl (hx5)
    obtain ⟨ca, cc, rfl, -, -⟩ := own_slice hcv
    obtain ⟨y, hy⟩ : ∃ y : FE, y = (q.1, x.1, .slice ca x.2.length cc, x.2) := ⟨_, rfl⟩
    have hx05 : Ext none_ w w5 := hx03.trans (hdr.trans hx5)
    have hown5 : w5.ownsRow w.heap.size tF 3 (.slice va acc.length vc) acc.length (acc.flatMap fcells) := own_ext hown3 (hdr.trans hx5) fun _ _ => id
    refine bld (vs := #[(0, .string (S q.1)), (1, .bool x.1), (2, .slice ca x.2.length cc)]) (v := .agg (fcells y).toArray) rfl rfl (fun _ => by rw [hy]; kernel_rfl) <| ?_
    refine bls (vs := #[(0, .agg (fcells y).toArray)]) (cs := (fcells y).toArray) (e := tF) rfl rfl (fun _ => by rw [hy]; kernel_rfl) (hS := .inr fun _ => .inl (hx5.trans (Ext.alloc none_ _ _))) <| ?_
    refine appY rfl rfl rfl el_files (own_ext hown5 (Ext.alloc none_ _ _) fun _ _ => id) (news := fcells y) rfl (fun j u hj => by rw [add_at]; exact row_cells (heap_new _ _) j u hj) (fun u hu => by
        rw [hy] at hu
        simp only [fcells, List.mem_cons, List.not_mem_nil, or_false] at hu
        rcases hu with rfl | rfl | rfl <;> rfl) (by omega) (by simp only [maxLen]; omega) (by have := hx05.size; simp; omega) fun v' w6 hown6 hx6 _ hat => ⟨.inr fun h => .inr ⟨_, hx5.trans (Ext.alloc _ _ _), hx6⟩, ?_⟩
    refine asg rfl rfl <| L.nilH ?_
    refine N.inb ?_
    have hx5a : Ext none_ w5 (w5.alloc (.cells (fcells y).toArray tF)) := Ext.alloc _ _ _
    have hx06 : Ext none_ w w6 := (hx05.trans hx5a).trans' hx6 fun i hi hh => by have := own_new hown3 i hh; omega
    have hkeepB : ∀ {z : FE}, Byts w.heap.size w5 z.2.2.1 z.2.2.2 → Byts w.heap.size w6 z.2.2.1 z.2.2.2 := fun {z} hz => own_ext (own_ext hz hx5a fun _ _ => id) hx6 fun k hk hk2 => by
      obtain ⟨c1, f1, h1⟩ := own_kind hz k hk
      obtain ⟨c2, f2, h2⟩ := own_kind hown5 k hk2
      rw [h1] at h2; cases h2
    refine N.th (N.round (x := (l1 ++ l2, acc ++ [y], v')) ⟨rfl, rfl, rfl, trivial⟩ ⟨?_, ?_, ?_, by simp; omega, hx06, ?_, ?_⟩ (by simp))   -- ROUND
    · refine ((hi3.ext (hdr.trans hx5) id id).ext hx5a id id).ext hx6 hne (fun e => ?_)
      have := own_new hown3 _ e
      have := ht.lt.2
      omega
    · rw [fcells_snoc, List.length_append]; exact hown6
    · refine List.Perm.trans ?_ hperm
      have hGq : G q = fnd y := by rw [hG, hy]; simp [fnd, hgx]
      simp only [List.map_append, List.map_cons, List.map_nil, List.append_assoc, hGq, List.cons_append, List.nil_append]
      exact List.Perm.append_left _ List.perm_middle.symm
    · rcases hat with e | e
      · rw [e]; exact hne
      · rw [e]
        intro e'
        have := hi3.itlt
        have := (hdr.trans hx5).size
        simp at e'
        omega
    · intro z hz
      rcases List.mem_append.1 hz with hz | hz
      · exact hkeepB (own_ext (hbs3 z hz) (hdr.trans hx5) fun _ _ => id)
      · simp at hz
        rw [hz]
        refine hkeepB ?_
        rw [hy]
        refine own_more hcv ?_
        have := hx03.size
        exact this
end Go.Proofs.YtmdpmpdlkaogdaaGreatDoor

namespace Go.Proofs.YtmdpmpdlkaogdaaGreatDoor
open Go Go.RowKit Vc

theorem ok_HFiles : FnOk P 24 := ⟨_, Tryz.func24, by kernel_rfl, by kernel_rfl⟩
theorem ok_name : FnOk P 30 := ⟨_, Tryz.func30, by kernel_rfl, by kernel_rfl⟩

def nameD : List Tr.Bytes := [[], [97, 47], [98, 47, 99, 47], [98, 47, 100, 47]]
def nameB (k : UInt8) : Tr.Bytes := (nameD[k.toNat / 64]?.getD [] ++ [102]) ++ [UInt8.ofNat (97 + k.toNat % 26)]
theorem nameB_len (k : UInt8) : (nameB k).length ≤ 6 := by
  have : k.toNat / 64 < 4 := by have := k.toNat_lt; omega
  unfold nameB nameD
  rcases hk : k.toNat / 64 with _ | _ | _ | _ | j
  · simp
  · simp
  · simp
  · simp
  · omega

theorem c_name (k : UInt8) (w : World) : Calls P 30 #[.int .u8 k.toNat] w fun e w' => e = .returned (.string (S (nameB k))) ∧ Ext none_ w w' := by
  have hk := k.toNat_lt
  refine enter (l := [_]) (n := 17) Tryz.func30 rfl rfl rfl ?_
  refine W.seq ?_
  refine W.reg <| asg rfl rfl <| L.nil ?_
  refine N.th ?_
  refine W.seq ?_
  refine W.reg <| bls (vs := #[(0, .string (S [])), (1, .string (S [97, 47])), (2, .string (S [98, 47, 99, 47])), (3, .string (S [98, 47, 100, 47]))]) (cs := #[.string (S []), .string (S [97, 47]), .string (S [98, 47, 99, 47]), .string (S [98, 47, 100, 47])]) (e := 9) rfl rfl (fun _ => by kernel_rfl) <| mv rfl rfl <|
    quoI (c := ((k.toNat / 64 : Nat) : Int)) rfl rfl rfl (by decide) (by rw [show ((k.toNat : Int).tdiv 64) = ((k.toNat / 64 : Nat) : Int) from rfl]; exact wu8 (by omega) (by omega)) <| ?_
  obtain ⟨w1, hw1⟩ : ∃ w1, w1 = w.alloc (.cells #[.string (S []), .string (S [97, 47]), .string (S [98, 47, 99, 47]), .string (S [98, 47, 100, 47])] 9) := ⟨_, rfl⟩
  have hb : w1.heap[w.heap.size]? = some (.cells #[.string (S []), .string (S [97, 47]), .string (S [98, 47, 99, 47]), .string (S [98, 47, 100, 47])] 9 (0, 0)) := by rw [hw1]; exact heap_new _ _
  have hx1 : Ext none_ w w1 := by rw [hw1]; exact Ext.alloc _ _ _
  rw [← hw1]
  have hcell : w1.cell? ⟨w.heap.size, 0 + (k.toNat / 64) * 1, none⟩ = some (.string (S (nameD[k.toNat / 64]?.getD []))) := by
    have : k.toNat / 64 < 4 := by omega
    rcases hk2 : k.toNat / 64 with _ | _ | _ | _ | j
    · exact cell_of hb rfl
    · exact cell_of hb rfl
    · exact cell_of hb rfl
    · exact cell_of hb rfl
    · omega
  have hnl : (nameD[k.toNat / 64]?.getD []).length ≤ 4 := by
    have := nameB_len k
    unfold nameB at this
    simp at this; omega
  refine ixa rfl rfl u_strs sz_str rfl (by omega) (by omega) <| ld1 rfl ag_str rfl hcell <| asg rfl rfl <| L.nil ?_
  refine N.th ?_
  refine W.seq ?_
  have hc : (UInt8.ofNat (97 + k.toNat % 26)).toNat = 97 + k.toNat % 26 := by simp; omega
  refine W.reg <| mv rfl rfl <| addS (b := [102]) rfl rfl rfl (by simp; omega) <| mv rfl rfl <| remI (c := ((k.toNat % 26 : Nat) : Int)) rfl rfl rfl (by decide) rfl <|
    addI (c := ((97 + k.toNat % 26 : Nat) : Int)) rfl rfl rfl (by rw [wu8 (by omega) (by omega)]; omega) <| bls (vs := #[(0, .int .u8 ((97 + k.toNat % 26 : Nat) : Int))]) (cs := #[.int .u8 ((97 + k.toNat % 26 : Nat) : Int)]) (e := tB) rfl rfl (fun _ => by kernel_rfl) <|
    cvtBS (a := [UInt8.ofNat (97 + k.toNat % 26)]) rfl u_bytes u_u8 u_str rfl (Kn.here ?_) <| addS rfl rfl rfl (by simp; omega) <| asg rfl rfl <| L.nil ?_
  · refine ⟨rfl, some ⟨w1.heap.size, 0, none⟩, 1, rfl, Nat.le_refl _, by simp [maxLen], (fun h => by cases h), fun ad had => ?_⟩
    cases had
    refine ⟨_, _, rfl, heap_new _ _, Nat.le_refl _, ?_⟩
    simp [encB]; omega
  refine N.th ?_
  refine W.ret ?_
  refine N.ret1 rfl rfl ?_   -- RETURN
  exact ⟨rfl, hx1.trans (Ext.alloc _ _ _)⟩

theorem FilesAt.ext {S : Nat → Prop} {w w' : World} {v : Value} {E : List FE} (h : FilesAt w v E) (hx : Ext S w w') (hS : ∀ k, S k → ∀ c e fr, w.heap[k]? = some (.cells c e fr) → e ≠ tF ∧ e ≠ tB) : FilesAt w' v E :=
  ⟨h.row.ext hx fun k hk hk2 => by obtain ⟨c, fr, hc⟩ := h.row.kind k hk; exact (hS k hk2 _ _ _ hc).1 rfl,
   fun x hm => (h.bytes x hm).ext hx fun k hk hk2 => by obtain ⟨c, fr, hc⟩ := (h.bytes x hm).kind k hk; exact (hS k hk2 _ _ _ hc).2 rfl⟩
theorem FilesAt.ext0 {w w' : World} {v : Value} {E : List FE} (h : FilesAt w v E) (hx : Ext none_ w w') : FilesAt w' v E := h.ext hx fun _ h => h.elim
theorem FilesAt.cell {w : World} {b o n c i : Nat} {E : List FE} {x : FE} (h : FilesAt w (.slice (some ⟨b, o, none⟩) n c) E) (hi : E[i]? = some x) : w.cell? ⟨b, o + i * 3 + 0, none⟩ = some (.string (S x.1)) ∧ w.cell? ⟨b, o + i * 3 + 1, none⟩ = some (.bool x.2.1) ∧ w.cell? ⟨b, o + i * 3 + 2, none⟩ = some x.2.2.1 := by
  have hg : ∀ j, j < 3 → (E.flatMap fcells)[i * 3 + j]? = (fcells x)[j]? := fun j hj => by
    rw [flat_get fcells 3 fcells_len (by omega), show (i * 3 + j) / 3 = i by omega, show (i * 3 + j) % 3 = j by omega, hi]; rfl
  refine ⟨?_, ?_, ?_⟩
  · rw [Nat.add_assoc]; exact h.row.cells rfl _ _ (hg 0 (by omega))
  · rw [Nat.add_assoc]; exact h.row.cells rfl _ _ (hg 1 (by omega))
  · rw [Nat.add_assoc]; exact h.row.cells rfl _ _ (hg 2 (by omega))

theorem fnd_eq (x y : FE) : decide (fnd x = fnd y) = (x.1 == y.1 && (x.2.1 == y.2.1 && x.2.2.2 == y.2.2.2)) := by
  rw [Bool.eq_iff_iff]
  simp [fnd, Prod.ext_iff]

theorem c_HFiles {w : World} {v1 v2 : Value} {E1 E2 : List FE} (h1 : FilesAt w v1 E1) (h2 : FilesAt w v2 E2) (hl1 : E1.length ≤ 1000000000) (_hl2 : E2.length ≤ 1000000000) :
    Calls P 24 #[v1, v2] w fun e w' => e = .returned (.bool (decide (E1.map fnd = E2.map fnd))) ∧ Ext none_ w w' := by
  obtain ⟨-, a1, c1, rfl, hn1, hm1, -, -⟩ := id h1.row
  obtain ⟨-, a2, c2, rfl, hn2, hm2, -, -⟩ := id h2.row
  refine enter (l := [_, _]) (n := 56) Tryz.func24 rfl rfl rfl ?_
  refine W.seq ?_
  refine W.reg <| asg rfl rfl <| L.nil ?_
  refine N.th ?_
  refine W.seq ?_
  refine W.seq ?_
  refine W.reg <| mv rfl rfl <| lenV rfl u_files rfl <| mv rfl rfl <| lenV rfl u_files rfl <| neqI rfl rfl rfl <| L.nil ?_
  refine N.th ?_
  refine W.cond rfl (fun h => ?_) (fun h => ?_)
  · refine W.seq ?_
    refine W.reg <| asg rfl rfl <| L.nil ?_
    refine N.th ?_
    refine W.ret ?_
    refine N.rth ?_
    refine N.ret1 rfl rfl ?_   -- RETURN
    have hne : E1.map fnd ≠ E2.map fnd := fun e => by
      have := congrArg List.length e
      simp at this h
      omega
    exact ⟨by rw [decide_eq_false hne], Ext.refl _ _⟩
  have hll : E1.length = E2.length := by simp at h; omega
  refine W.skip ?_
  refine N.th ?_
  refine W.seq ?_
  refine W.seq ?_
  refine W.reg <| asg rfl rfl <| L.nil ?_
  refine N.th ?_
  refine W.block ?_
  refine W.loop (X := Nat) (fun i => [(5, .int .i64 i), (0, .slice a1 E1.length c1), (1, .slice a2 E2.length c2)]) (fun i w' => i ≤ E1.length ∧ (E1.take i).map fnd = (E2.take i).map fnd ∧ Ext none_ w w') (fun i => E1.length - i) 0 ⟨rfl, rfl, rfl, trivial⟩ ⟨by omega, rfl, Ext.refl _ _⟩ ?_
  rintro i w1 ⟨hi, heq, hx⟩
  refine W.seq ?_
  refine W.seq ?_
  refine W.reg <| mv rfl rfl <| mv rfl rfl <| lenV rfl u_files rfl <| lssI rfl rfl rfl <| L.nil ?_
  refine N.th ?_
  refine W.cond rfl (fun h => ?_) (fun h => ?_)
  · refine W.skip ?_
    refine N.th ?_
    have hi1 : i < E1.length := by simp at h; omega
    obtain ⟨x, hxe⟩ : ∃ x, E1[i]? = some x := ⟨_, List.getElem?_eq_getElem hi1⟩
    obtain ⟨y, hye⟩ : ∃ y, E2[i]? = some y := ⟨_, List.getElem?_eq_getElem (by omega)⟩
    have hxm : x ∈ E1 := List.mem_of_getElem? hxe
    have hym : y ∈ E2 := List.mem_of_getElem? hye
    rcases h1.row.form with ⟨h0, h3, _⟩ | ⟨b1, o1, c1', h0, -⟩
    · omega
    rcases h2.row.form with ⟨h0', h3, _⟩ | ⟨b2, o2, c2', h0', -⟩
    · omega
    cases h0; cases h0'
    have hA := h1.ext0 (hx.trans (Ext.drew none_ w1))
    have hB := h2.ext0 (hx.trans (Ext.drew none_ w1))
    have k1 : ∀ w', Ext none_ w1.drew w' → _ := fun w' h => (hA.ext0 h).cell hxe
    have k2 : ∀ w', Ext none_ w1.drew w' → _ := fun w' h => (hB.ext0 h).cell hye
    have hneq : (E1.map fnd = E2.map fnd) → fnd x = fnd y := fun e => by
      have := congrArg (fun l => l[i]?) e
      simpa [hxe, hye] using this
    refine W.seq ?_
    refine W.block ?_
    refine W.seqM (fun E w' => ∃ b, E = [(55, .bool b), (5, .int .i64 i), (0, .slice (some ⟨b1, o1, none⟩) E1.length c1), (1, .slice (some ⟨b2, o2, none⟩) E2.length c2)] ∧ w' = w1.drew ∧ b = !decide (fnd x = fnd y)) ?_ ?_
    · refine W.draw [9] false (fun w' => Ext none_ w1.drew w') [0, 1, 2, 3, 4, 5, 6, 7, 8, 9, 10, 11, 12, 13, 14, 15, 16, 17, 18, 19, 20, 21, 22, 23, 24, 25, 26, 27, 28, 29, 30, 31, 32, 33, 34, 35, 36, 37, 38] rfl rfl (by kernel_rfl) (Ext.refl _ _) ?_   -- held
      refine mv rfl rfl <| mv rfl rfl <| ixa rfl rfl u_files sz_File rfl (by omega) (by omega) <| fad rfl fl_File_0 rfl <| ldK (v := .string (S x.1)) rfl ag_str rfl (fun w' h => (k1 w' h).1) <| mv rfl rfl <| mv rfl rfl <| ixa rfl rfl u_files sz_File rfl (by omega) (by omega) <| fad rfl fl_File_0 rfl <| ldK (v := .string (S y.1)) rfl ag_str rfl (fun w' h => (k2 w' h).1) <| neqS rfl rfl rfl <| ?_
      rw [fnd_eq]
      cases hp : (x.1 == y.1) with
      | false =>
        refine mv rfl rfl <| L.off rfl rfl rfl rfl rfl <| L.off rfl rfl rfl rfl rfl <| L.off rfl rfl rfl rfl rfl <| L.off rfl rfl rfl rfl rfl <| L.off rfl rfl rfl rfl rfl <| L.off rfl rfl rfl rfl rfl <| L.off rfl rfl rfl rfl rfl <| L.off rfl rfl rfl rfl rfl <| L.off rfl rfl rfl rfl rfl <| L.off rfl rfl rfl rfl rfl <| L.off rfl rfl rfl rfl rfl <| pickT rfl rfl rfl <| mv rfl rfl <|
          L.off rfl rfl rfl rfl rfl <| L.off rfl rfl rfl rfl rfl <| L.off rfl rfl rfl rfl rfl <| L.off rfl rfl rfl rfl rfl <| L.off rfl rfl rfl rfl rfl <| L.off rfl rfl rfl rfl rfl <| L.off rfl rfl rfl rfl rfl <| L.off rfl rfl rfl rfl rfl <| L.off rfl rfl rfl rfl rfl <| L.off rfl rfl rfl rfl rfl <| L.off rfl rfl rfl rfl rfl <| L.off rfl rfl rfl rfl rfl <| L.off rfl rfl rfl rfl rfl <| pickT rfl rfl rfl <| L.nilH ?_
        exact N.th (N.meet [(55, .bool true), (5, _), (0, _), (1, _)] ⟨rfl, rfl, rfl, rfl, trivial⟩ ⟨true, rfl, rfl, rfl⟩)
      | true =>
        refine mv rfl rfl <| L.on rfl rfl rfl <| mv rfl rfl <| L.on rfl rfl rfl <| mv rfl rfl <| L.on rfl rfl rfl <| ixa rfl rfl u_files sz_File rfl (by omega) (by omega) <| L.on rfl rfl rfl <| fad rfl fl_File_1 rfl <| L.on rfl rfl rfl <| ldK (v := .bool x.2.1) rfl ag_bool rfl (fun w' h => (k1 w' h).2.1) <| L.on rfl rfl rfl <| mv rfl rfl <| L.on rfl rfl rfl <| mv rfl rfl <| L.on rfl rfl rfl <| ixa rfl rfl u_files sz_File rfl (by omega) (by omega) <| L.on rfl rfl rfl <| fad rfl fl_File_1 rfl <| L.on rfl rfl rfl <| ldK (v := .bool y.2.1) rfl ag_bool rfl (fun w' h => (k2 w' h).2.1) <| L.on rfl rfl rfl <| neqB rfl rfl u_bool rfl <| pickF rfl rfl rfl <| ?_
        cases hq : (x.2.1 == y.2.1) with
        | false =>
          refine mv rfl rfl <| L.off rfl rfl rfl rfl rfl <| L.off rfl rfl rfl rfl rfl <| L.off rfl rfl rfl rfl rfl <| L.off rfl rfl rfl rfl rfl <| L.off rfl rfl rfl rfl rfl <| L.off rfl rfl rfl rfl rfl <| L.off rfl rfl rfl rfl rfl <| L.off rfl rfl rfl rfl rfl <| L.off rfl rfl rfl rfl rfl <| L.off rfl rfl rfl rfl rfl <| L.off rfl rfl rfl rfl rfl <| L.off rfl rfl rfl rfl rfl <| L.off rfl rfl rfl rfl rfl <| pickT rfl rfl rfl <| L.nilH ?_
          exact N.th (N.meet [(55, .bool true), (5, _), (0, _), (1, _)] ⟨rfl, rfl, rfl, rfl, trivial⟩ ⟨true, rfl, rfl, rfl⟩)
        | true =>
          refine mv rfl rfl <| L.on rfl rfl rfl <| mv rfl rfl <| L.on rfl rfl rfl <| mv rfl rfl <| L.on rfl rfl rfl <| ixa rfl rfl u_files sz_File rfl (by omega) (by omega) <| L.on rfl rfl rfl <| fad rfl fl_File_2 rfl <| L.on rfl rfl rfl <| ldK (v := x.2.2.1) rfl ag_bytes rfl (fun w' h => (k1 w' h).2.2) <| L.on rfl rfl rfl <| cvtBS (a := x.2.2.2) rfl u_bytes u_u8 u_str rfl (fun w' h => (hA.ext0 h).bytes x hxm) <| L.on rfl rfl rfl <| mv rfl rfl <| L.on rfl rfl rfl <| mv rfl rfl <| L.on rfl rfl rfl <| ixa rfl rfl u_files sz_File rfl (by omega) (by omega) <| L.on rfl rfl rfl <| fad rfl fl_File_2 rfl <| L.on rfl rfl rfl <| ldK (v := y.2.2.1) rfl ag_bytes rfl (fun w' h => (k2 w' h).2.2) <| L.on rfl rfl rfl <| cvtBS (a := y.2.2.2) rfl u_bytes u_u8 u_str rfl (fun w' h => (hB.ext0 h).bytes y hym) <| L.on rfl rfl rfl <| neqS rfl rfl rfl <| pickF rfl rfl rfl <| L.nilH ?_
          exact N.th (N.meet [(55, .bool (!(x.2.2.2 == y.2.2.2))), (5, _), (0, _), (1, _)] ⟨rfl, rfl, rfl, rfl, trivial⟩ ⟨_, rfl, rfl, rfl⟩)
    rintro E w2 ⟨b, rfl, rfl, hb⟩
    refine W.cond rfl (fun h => ?_) (fun h => ?_)
    · refine W.seq ?_
      refine W.reg <| asg rfl rfl <| L.nil ?_
      refine N.th ?_
      refine W.ret ?_
      refine N.rinb <| N.rth <| N.rth <| N.rinb <| N.rth ?_
      refine N.ret1 rfl rfl ?_   -- RETURN
      have hne : E1.map fnd ≠ E2.map fnd := fun e => by rw [hb] at h; simp [hneq e] at h
      exact ⟨by rw [decide_eq_false hne], hx.trans (Ext.drew _ _)⟩
    · refine W.skip ?_
      refine N.inb ?_
      refine N.th ?_
      refine W.reg <| mv rfl rfl <| addI (c := (i : Int) + 1) rfl rfl rfl (w64 (by omega) (by omega)) <| asg rfl rfl <| L.nil ?_
      have hf : fnd x = fnd y := by rw [hb] at h; simpa using h
      refine N.th (N.round (x := i + 1) ⟨?_, rfl, rfl, trivial⟩ ⟨by omega, ?_, hx.trans (Ext.drew _ _)⟩ (by omega))   -- ROUND
      · simp [getE]
      · rw [List.take_add_one, List.take_add_one, hxe, hye]
        simp [heq, hf]
  · refine W.exit ?_
    refine N.xth ?_
    refine N.xth ?_
    refine N.xeq ?_
    refine N.th ?_
    refine W.seq ?_
    refine W.reg <| asg rfl rfl <| L.nil ?_
    refine N.th ?_
    refine W.ret ?_
    refine N.ret1 rfl rfl ?_   -- RETURN
    have hi1 : i = E1.length := by simp at h; omega
    have he : E1.map fnd = E2.map fnd := by
      rw [hi1, List.take_length, hll, List.take_length] at heq; exact heq
    exact ⟨by rw [decide_eq_true he], hx⟩
end Go.Proofs.YtmdpmpdlkaogdaaGreatDoor

namespace Go.Proofs.YtmdpmpdlkaogdaaGreatDoor
open Go Go.RowKit Vc


theorem ok_known : FnOk P 27 := ⟨_, Tryz.func27, by kernel_rfl, by kernel_rfl⟩

namespace Kn8
def k1 : Tr.T := [([97], (true, [])), ([97,47,98], (false, [120]))]
def k2 : Tr.T := [([99], (true, [])), ([99,47,98], (false, [120]))]
def kv : Tr.Move := ⟨[[97], [97, 47, 98]], [[99], [99, 47, 98]], [], 1⟩
theorem t1 : Tr.write [] [97, 47, 98] [120] = (k1, 0) := by kernel_rfl
theorem t2 : Tr.write k1 [97] [] = (k1, 54) := by kernel_rfl
theorem tb : Tr.below k1 [97] = [[97], [97, 47, 98]] := by
  have h : (k1.map (·.1)).filter (fun k => Sp.within k [97]) = [[97], [97, 47, 98]] := by kernel_rfl
  unfold Tr.below Tr.sort
  rw [h]
  exact List.mergeSort_of_pairwise (by decide)
theorem tp : Tr.plan k1 [97] [99] = (some kv, 0) := by
  have h : Tr.plan k1 [97] [99] = (if (Tr.dests 1 [99] (Tr.below k1 [97])).2 ≠ 0 then (none, (Tr.dests 1 [99] (Tr.below k1 [97])).2) else (some ⟨Tr.below k1 [97], (Tr.dests 1 [99] (Tr.below k1 [97])).1, [], ((Tr.below k1 [97]).map fun k => ((Tr.get k1 k).getD (true, [])).2.length).sum⟩, 0)) := by kernel_rfl
  rw [h, tb]
  exact rfl
theorem t3 : Tr.rename k1 [97] [99] = (k2, 0) := by
  unfold Tr.rename
  rw [tp]
  show (if Tr.room k1 0 0 = false then (k1, (55 : Int)) else (Tr.drop (Tr.copy k1 kv) kv.src, 0)) = (k2, 0)
  exact rfl
theorem t4 : Tr.read k2 [99, 47, 98] = ([120], 0) := by kernel_rfl
theorem t5 : Tr.files k2 = k2 := List.mergeSort_of_pairwise (by decide)
theorem t6 : Tr.exists_ k2 [99] = true := by kernel_rfl
theorem t7 : Tr.exists_ k2 [97] = false := by kernel_rfl
theorem t8 : Tr.size (Tr.copy k1 kv) = Tr.size k1 + kv.bytes := by kernel_rfl
theorem t9 : Tr.size k2 = 1 := by kernel_rfl
end Kn8

theorem two_of {α : Type} : ∀ {l : List α}, l.length = 2 → ∃ x y, l = [x, y]
  | [x, y], _ => ⟨x, y, rfl⟩

theorem c_known (w : World) : Calls P 27 #[] w fun e w' => e = .returned (.bool true) ∧ Ext none_ w w' := by
  refine enter (l := []) (n := 71) Tryz.func27 rfl rfl rfl ?_
  refine W.seq ?_
  refine W.reg <| asg rfl rfl <| L.nil ?_
  refine N.th ?_
  refine W.seq ?_
  refine W.reg <| call (vs := []) rfl rfl ok_New (c_New w) ?_
  rintro e w1 ⟨bt, bm, rfl, hbt, hbm, hT1, hx1⟩
  refine ⟨_, rfl, ?_⟩
  refine asg rfl rfl <| L.nil ?_
  refine N.th ?_
  refine W.seq ?_
  refine W.seq ?_
  have hTwo : ∀ i, i < w.heap.size → Two bt bm i → none_ i := by rintro i hi (e | e) <;> omega
  refine W.reg <| mv rfl rfl <| eqlPN rfl u_pTree rfl <| mv rfl rfl <| L.on rfl rfl rfl <| mv rfl rfl <| L.on rfl rfl rfl <| bls (vs := #[(0, .int .u8 120)]) (cs := #[.int .u8 120]) (e := tB) rfl rfl (fun _ => by kernel_rfl) <| L.on rfl rfl rfl <| cvtBB rfl u_bytes u_u8 rfl (heap_new _ _) trivial fun w2 hg2 hx2 => ⟨trivial, ?_⟩
  have hx12 : Ext none_ w1 w2 := (Ext.alloc none_ _ _).trans' hx2 fun i hi e => by omega
  have hrow : RowB w2 (.slice (some ⟨w1.heap.size, 0, none⟩) 1 1) [120] := ⟨rfl, _, 1, rfl, Nat.le_refl _, by simp [maxLen], (fun h => by cases h), fun ad had => by
    cases had
    exact ⟨_, _, rfl, hg2, Nat.le_refl _, rfl⟩⟩
  have hT2 : Tree none_ w2 bt bm [] := ⟨hT1.ext0 hx12, by simp, by simp [Tr.size]⟩
  refine L.on rfl rfl rfl <| call (vs := [_, .string (S [97, 47, 98]), _]) rfl rfl ok_Write (c_Write [97, 47, 98] hT2 hrow.arg (by simp)) ?_
  rintro e w3 ⟨rfl, hT3, hx3⟩
  refine ⟨_, rfl, ?_⟩
  rw [Kn8.t1] at hT3 ⊢
  have hT3' : Tree none_ w3 bt bm Kn8.k1 := ⟨hT3, by decide, by decide⟩
  refine L.on rfl rfl rfl <| neqI rfl rfl rfl <| pickF rfl rfl rfl <| mv rfl rfl <| L.on rfl rfl rfl <| mv rfl rfl <| L.on rfl rfl rfl <| call (vs := [_, .string (S [97]), _]) rfl rfl ok_Write (c_Write (b := []) [97] hT3' (Row.nil _ tB 1).arg (by simp)) ?_
  rintro e w4 ⟨rfl, hT4, hx4⟩
  refine ⟨_, rfl, ?_⟩
  rw [Kn8.t2] at hT4 ⊢
  have hT4' : Tree none_ w4 bt bm Kn8.k1 := ⟨hT4, by decide, by decide⟩
  refine L.on rfl rfl rfl <| neqI rfl rfl rfl <| pickF rfl rfl rfl <| mv rfl rfl <| L.on rfl rfl rfl <| mv rfl rfl <| L.on rfl rfl rfl <| call (vs := [_, .string (S [97]), .string (S [99])]) rfl rfl ok_Rename (c_Rename [97] [99] hT4' (by intro p hp; simp [Kn8.k1] at hp; rcases hp with rfl | rfl <;> decide) (fun x e h => by rw [Kn8.tp] at h; cases h; exact Kn8.t8)) ?_
  rintro e w5 ⟨rfl, hT5, hx5⟩
  refine ⟨_, rfl, ?_⟩
  rw [Kn8.t3] at hT5 ⊢
  have hT5' : Tree none_ w5 bt bm Kn8.k2 := ⟨hT5, by decide, by decide⟩
  refine L.on rfl rfl rfl <| neqI rfl rfl rfl <| pickF rfl rfl rfl <| L.nil ?_
  refine N.th ?_
  refine W.condF rfl ?_
  refine W.skip ?_
  refine N.th ?_
  refine W.seq ?_
  have hx05 : Ext none_ w w5 := (hx1.trans hx12).trans' (hx3.trans (hx4.trans hx5)) hTwo
  refine W.reg <| mv rfl rfl <| call (vs := [_, .string (S [99, 47, 98])]) rfl rfl ok_Read (c_Read [99, 47, 98] hT5') ?_
  rintro e w6 ⟨rv, rfl, hrv, hx6⟩
  refine ⟨_, rfl, ?_⟩
  rw [Kn8.t4] at hrv ⊢
  refine mv rfl rfl <| ext (v := rv) rfl rfl rfl <| ext (v := .int .i64 0) rfl rfl rfl <| asg rfl rfl <| asg rfl rfl <| L.nil ?_
  refine N.th ?_
  refine W.seq ?_
  have hT6 := hT5.ext0 hx6
  refine W.reg <| mv rfl rfl <| call (vs := [_]) rfl rfl ok_Files (c_Files hT6 (by decide) (by decide)) ?_
  rintro e w7 ⟨fv, E, rfl, hE, hfv, hfb, hx7⟩
  refine ⟨_, rfl, ?_⟩
  rw [Kn8.t5] at hE
  have hrv7 := own_ext hrv hx7 fun _ _ => id
  have hT7 := hT6.ext0 hx7
  refine asg rfl rfl <| L.nil ?_
  refine N.th ?_
  refine W.seq ?_
  have hEl := congrArg List.length hE
  simp only [List.length_map] at hEl
  obtain ⟨x, y, rfl⟩ := two_of (show E.length = 2 from hEl)
  simp only [Kn8.k2, List.map_cons, List.map_nil, fnd, List.cons.injEq, Prod.mk.injEq, and_true] at hE
  obtain ⟨⟨hx_1, hx_2, hx_3⟩, -⟩ := hE
  have hF : FilesAt w7 fv [x, y] := ⟨Row.own hfv, fun z hz => Row.own (hfb z hz)⟩
  obtain ⟨fa, fc, rfl, hfn, hfm⟩ := own_slice hfv
  rcases hF.row.form with ⟨-, h0, -⟩ | ⟨b, o, c, h0, -⟩
  · simp at h0
  cases h0
  obtain ⟨hc0, hc1, -⟩ := hF.cell (i := 0) (x := x) rfl
  rw [hx_1] at hc0
  rw [hx_2] at hc1
  refine W.reg <| mv rfl rfl <| cvtBS (a := [120]) rfl u_bytes u_u8 u_str rfl (Kn.here (Row.own hrv7)) <| eqlS (a := [120]) (b := [120]) rfl rfl rfl <| mv rfl rfl <| L.on rfl rfl rfl <| mv rfl rfl <| L.on rfl rfl rfl <| eqlI rfl rfl rfl <| pickT rfl rfl rfl <| mv rfl rfl <| L.on rfl rfl rfl <| mv rfl rfl <| L.on rfl rfl rfl <| lenV rfl u_files rfl <| L.on rfl rfl rfl <| eqlI rfl rfl rfl <| pickT rfl rfl rfl <| mv rfl rfl <| L.on rfl rfl rfl <| mv rfl rfl <| L.on rfl rfl rfl <| ixa rfl rfl u_files sz_File rfl (by omega) (by simp) <| L.on rfl rfl rfl <| fad rfl fl_File_0 rfl <| L.on rfl rfl rfl <| ld1 rfl ag_str rfl hc0 <| L.on rfl rfl rfl <| eqlS (a := [99]) (b := [99]) rfl rfl rfl <| pickT rfl rfl rfl <| mv rfl rfl <| L.on rfl rfl rfl <| mv rfl rfl <| L.on rfl rfl rfl <| ixa rfl rfl u_files sz_File rfl (by omega) (by simp) <| L.on rfl rfl rfl <| fad rfl fl_File_1 rfl <| L.on rfl rfl rfl <| ld1 rfl ag_bool rfl hc1 <| pickT rfl rfl rfl <| mv rfl rfl <| L.on rfl rfl rfl <| mv rfl rfl <| L.on rfl rfl rfl <| call (vs := [_, .string (S [99])]) rfl rfl ok_Exists (c_Exists [99] hT7) ?_
  rintro e w8 ⟨rfl, hx8⟩
  refine ⟨_, rfl, ?_⟩
  rw [Kn8.t6]
  have hT8 := hT7.ext0 hx8
  refine pickT rfl rfl rfl <| mv rfl rfl <| L.on rfl rfl rfl <| mv rfl rfl <| L.on rfl rfl rfl <| call (vs := [_, .string (S [97])]) rfl rfl ok_Exists (c_Exists [97] hT8) ?_
  rintro e w9 ⟨rfl, hx9⟩
  refine ⟨_, rfl, ?_⟩
  rw [Kn8.t7]
  have hT9 := hT8.ext0 hx9
  refine L.on rfl rfl rfl <| notB rfl rfl <| pickT rfl rfl rfl <| mv rfl rfl <| L.on rfl rfl rfl <| mv rfl rfl <| L.on rfl rfl rfl <| call (vs := [_]) rfl rfl ok_Size (c_Size hT9) ?_
  rintro e w10 ⟨rfl, rfl⟩
  refine ⟨_, rfl, ?_⟩
  rw [Kn8.t9]
  refine L.on rfl rfl rfl <| eqlI rfl rfl rfl <| pickT rfl rfl rfl <| asg rfl rfl <| L.nil ?_
  refine N.th ?_
  refine W.ret ?_
  refine N.ret1 rfl rfl ?_   -- RETURN
  exact ⟨rfl, hx05.trans (hx6.trans (hx7.trans (hx8.trans hx9)))⟩
end Go.Proofs.YtmdpmpdlkaogdaaGreatDoor
