/- Walks: (*tree.Tree).Remove, plan. -/
import Derived.Test.YtmdpmpdlkaogdaaGreatDoorTe
namespace Go.Proofs.YtmdpmpdlkaogdaaGreatDoor
open Go Go.RowKit Vc
variable {A : Nat → Prop}

theorem ok_plan : FnOk P 81 := ⟨_, Tryz.func81, by kernel_rfl, by kernel_rfl⟩

theorem drop_size_le (l : List Tr.Bytes) : ∀ (m : Tr.T), (m.map (·.1)).Nodup → Tr.size (Tr.drop m l) ≤ Tr.size m := by
  induction l with
  | nil => intro m _; exact Nat.le_refl _
  | cons k l ih =>
    intro m h
    have h1 := ih (Tr.del m k) (Tr.nodup_del k h)
    have h2 := Tr.size_del h k
    show Tr.size (Tr.drop (Tr.del m k) l) ≤ _
    omega

theorem below_in {m : Tr.T} {p k : Tr.Bytes} (h : k ∈ Tr.below m p) : (Tr.get m k).isSome = true := by
  have := (Tr.mem_below.1 h).1
  cases hg : Tr.get m k with
  | none => exact absurd this (Tr.get_none.1 hg)
  | some x => rfl

theorem c_Remove {w : World} {bt bm : Nat} {m : Tr.T} (s : Tr.Bytes) (ht : Tree A w bt bm m) :
    Calls P 34 #[pT bt, .string (S s)] w (Does A bt bm w (Tr.remove m s)) := by
  have hm1 := ht.len
  have hm2 := ht.bytes
  refine enter (l := [_, _]) (n := 31) Tryz.func34 rfl rfl rfl ?_
  refine W.seq ?_
  refine W.reg <| asg rfl rfl <| L.nil ?_
  refine N.th ?_
  refine W.seq ?_
  refine W.reg <| mv rfl rfl <| call (vs := [_]) rfl rfl ok_Clean (c_Clean s w) ?_
  rintro e w1 ⟨rfl, hx1⟩
  refine ⟨_, rfl, ?_⟩
  have hcl := clean_len s
  refine mv rfl rfl <| ext rfl rfl rfl <| ext rfl rfl rfl <| asg rfl rfl <| asg rfl rfl <| L.nil ?_
  refine N.th ?_
  refine W.seq ?_
  refine W.block ?_
  refine W.seq ?_
  have hT1 := ht.at_.ext0 hx1
  refine W.reg <| mv rfl rfl <| neqI rfl rfl rfl <| asg rfl rfl <| L.nil ?_
  refine N.th ?_
  refine W.cond rfl (fun h => ?_) (fun h => ?_)
  · refine W.seq ?_
    refine W.reg <| mv rfl rfl <| asg rfl rfl <| L.nil ?_
    refine N.th ?_
    refine W.ret ?_
    refine N.rinb <| N.rth ?_
    refine N.ret1 rfl rfl ?_   -- RETURN
    have h0 : (Sp.clean s).2 ≠ 0 := by simpa using h
    unfold Tr.remove; rw [if_pos h0]
    exact ⟨rfl, hT1, hx1.none⟩
  have h0 : ¬ (Sp.clean s).2 ≠ 0 := by simpa using h
  refine W.seq ?_
  refine W.reg <| mv rfl rfl <| eqlS (a := (Sp.clean s).1) (b := []) rfl rfl rfl <| asg rfl rfl <| L.nil ?_
  refine N.th ?_
  refine W.cond rfl (fun h => ?_) (fun h => ?_)
  · refine W.seq ?_
    refine W.reg <| asg rfl rfl <| L.nil ?_
    refine N.th ?_
    refine W.ret ?_
    refine N.rinb <| N.rth ?_
    refine N.ret1 rfl rfl ?_   -- RETURN
    have hp : (Sp.clean s).1 = [] := by simpa using h
    unfold Tr.remove; rw [if_neg h0]; dsimp only; rw [if_pos hp]
    exact ⟨rfl, hT1, hx1.none⟩
  have hp : (Sp.clean s).1 ≠ [] := by simpa using h
  refine W.seq ?_
  obtain ⟨al, hal, hr⟩ := hT1.reps
  have hlook := hr.look (Sp.clean s).1
  obtain ⟨q, hq, hqn⟩ : ∃ q, (aget al (Sp.clean s).1).getD (.pointer none) = .pointer q ∧ q.isNone = (Tr.get m (Sp.clean s).1).isNone := by
    cases hg : Tr.get m (Sp.clean s).1 with
    | none => rw [hg] at hlook; exact ⟨none, hlook, rfl⟩
    | some x =>
      rw [hg] at hlook
      obtain ⟨b, sl, hb, -⟩ := hlook
      exact ⟨_, hb, rfl⟩
  refine W.reg <| mv rfl rfl <| nilc rfl rfl <| fad rfl fl_Tree_0 rfl <| ld1 rfl ag_mNode rfl hT1.c0 <| mv rfl rfl <| lku rfl rfl u_mNode u_str ze_pNode rfl hal <| ?_
  rw [hq]
  refine eqlPN rfl u_pNode rfl <| asg rfl rfl <| L.nil ?_
  refine N.th ?_
  refine W.cond rfl (fun h => ?_) (fun h => ?_)
  · refine W.seq ?_
    refine W.reg <| asg rfl rfl <| L.nil ?_
    refine N.th ?_
    refine W.ret ?_
    refine N.rinb <| N.rth ?_
    refine N.ret1 rfl rfl ?_   -- RETURN
    unfold Tr.remove; rw [if_neg h0]; dsimp only; rw [if_neg hp, if_pos (by rw [← hqn]; exact h)]
    exact ⟨rfl, hT1, hx1.none⟩
  · refine W.skip ?_
    refine N.inb ?_
    refine N.th ?_
    refine W.seq ?_
    refine W.reg <| mv rfl rfl <| mv rfl rfl <| mv rfl rfl <| call (vs := [_, _]) rfl rfl ok_below (c_below (Sp.clean s).1 hT1 (by omega) (by omega)) ?_
    rintro e w2 ⟨lv, rfl, hlv, hx2⟩
    refine ⟨_, rfl, ?_⟩
    have hT2 := hT1.ext0 hx2
    have hlb := Tr.len_below m (Sp.clean s).1
    refine call (vs := [_, _]) rfl rfl ok_drop (c_drop (Tr.below m (Sp.clean s).1) lv hT2 (Row.own hlv) (fun k hk => below_in hk) (Tr.nodup_below hT2.nodup) (by omega) (by omega) (by omega)) ?_
    rintro e w3 ⟨rfl, hT3, hx3⟩
    refine ⟨_, rfl, ?_⟩
    refine L.nil ?_
    refine N.th ?_
    refine W.seq ?_
    refine W.reg <| asg rfl rfl <| L.nil ?_
    refine N.th ?_
    refine W.ret ?_
    refine N.ret1 rfl rfl ?_   -- RETURN
    unfold Tr.remove; rw [if_neg h0]; dsimp only; rw [if_neg hp, if_neg (by rw [← hqn, h]; simp)]
    refine ⟨rfl, ?_, (hx1.trans hx2).none.trans hx3⟩
    dsimp only
    have : ((Tr.size m : Int) - Tr.size m + Tr.size (Tr.drop m (Tr.below m (Sp.clean s).1))) = (Tr.size (Tr.drop m (Tr.below m (Sp.clean s).1)) : Int) := by omega
    rw [← this]; exact hT3

/-- A move as it lies in a value. -/
def MoveV (w : World) (B : Nat) (v : Value) (x : Tr.Move) : Prop := ∃ fv tv lv, v = .agg #[fv, tv, lv, .int .i64 x.bytes] ∧ Strs B w fv x.src ∧ Strs B w tv x.dst ∧ Strs B w lv x.lack
def moveZ : Value := .agg #[.slice none 0 0, .slice none 0 0, .slice none 0 0, .int .i64 0]

theorem own_kind {w : World} {B : Nat} {v : Value} {e : TypeId} {sz n : Nat} {xs : List Value} (h : w.ownsRow B e sz v n xs) : ∀ k, v.ownBlock = some k → ∃ cur fr, w.heap[k]? = some (.cells cur e fr) := (Row.own h).kind
abbrev tM : TypeId := 118

theorem own_more {w : World} {B C : Nat} {v : Value} {e : TypeId} {sz n : Nat} {xs : List Value} (h : w.ownsRow B e sz v n xs) (hC : C ≤ B) : w.ownsRow C e sz v n xs := by
  obtain ⟨h1, h2 | ⟨g, c, cu, hv, hb, hr⟩⟩ := h
  · exact ⟨h1, .inl h2⟩
  · exact ⟨h1, .inr ⟨g, c, cu, hv, by omega, hr⟩⟩
/-- Strings stay where another kind of variable turns. -/
theorem strs_keep {w w' : World} {B : Nat} {v : Value} {l : List Tr.Bytes} {S : Nat → Prop} (h : Strs B w v l) (hx : Ext S w w') (hk : ∀ k, S k → ∀ c fr, w.heap[k]? ≠ some (.cells c 9 fr)) : Strs B w' v l :=
  own_ext h hx fun k hv hS => by obtain ⟨c, fr, hc⟩ := own_kind h k hv; exact hk k hS c fr hc

theorem Strs.ext0' {w w' : World} {B : Nat} {v : Value} {l : List Tr.Bytes} (h : Strs B w v l) (hx : Ext none_ w w') : Strs B w' v l := own_ext h hx fun _ _ => id
theorem bytes_le (m : Tr.T) (l : List Tr.Bytes) : ((l.map fun k => ((Tr.get m k).getD (true, [])).2.length).sum) ≤ l.length * Tr.size m := by
  induction l with
  | nil => simp
  | cons k l ih =>
    have := old_le m k
    unfold Tr.old at this
    simp only [List.map_cons, List.sum_cons, List.length_cons, Nat.add_mul, Nat.one_mul]
    omega

theorem dests_cons (n : Nat) (q k : Tr.Bytes) (l : List Tr.Bytes) : Tr.dests n q (k :: l) = if (Sp.clean (q ++ k.drop n)).2 ≠ 0 then ([], (Sp.clean (q ++ k.drop n)).2) else if (Tr.dests n q l).2 ≠ 0 then ([], (Tr.dests n q l).2) else ((Sp.clean (q ++ k.drop n)).1 :: (Tr.dests n q l).1, 0) := rfl

/-- What plan hands back. -/
def Plans (w : World) (r : Option Tr.Move × Int) (e : Ending) (w' : World) : Prop := Ext none_ w w' ∧ match r.1 with
  | none => e = .returned (.tuple #[moveZ, .int .i64 r.2])
  | some x => ∃ v, e = .returned (.tuple #[v, .int .i64 0]) ∧ MoveV w' w.heap.size v x

theorem within_len {p d : Tr.Bytes} (h : Sp.within p d = true) : d.length ≤ p.length := by
  unfold Sp.within at h
  simp only [Bool.or_eq_true, beq_iff_eq] at h
  rcases h with (h | h) | h
  · subst h; simp
  · subst h; exact Nat.le_refl _
  · have := List.IsPrefix.length_le (List.isPrefixOf_iff_prefix.1 h)
    simp at this; omega

theorem c_plan {w : World} {bt bm : Nat} {m : Tr.T} (s d : Tr.Bytes) (ht : Tree A w bt bm m) (hkl : ∀ p ∈ m, p.1.length ≤ 100000) :
    Calls P 81 #[pT bt, .string (S s), .string (S d)] w (Plans w (Tr.plan m s d)) := by
  have hm1 := ht.len
  have hm2 := ht.bytes
  refine enter (l := [_, _, _]) (n := 112) Tryz.func81 rfl rfl rfl ?_
  refine W.seq ?_
  refine W.reg <| new ze_Move rfl <| asg rfl rfl <| L.nil ?_
  refine N.th ?_
  obtain ⟨w0, hw0⟩ : ∃ w0, w0 = w.alloc (.cells (Value.cells (.agg #[.slice none 0 0, .slice none 0 0, .slice none 0 0, .int .i64 0])) tM) := ⟨_, rfl⟩
  have hx0 : Ext none_ w w0 := by rw [hw0]; exact Ext.alloc _ _ _
  have hz0 : w0.heap[w.heap.size]? = some (.cells [(.slice none 0 0 : Value), .slice none 0 0, .slice none 0 0, .int .i64 0].toArray tM (0, 0)) := by rw [hw0]; exact heap_new _ _
  have hs0 : w0.heap.size = w.heap.size + 1 := by rw [hw0]; simp
  show W Fence.wide 0 P [] 112 _ _ _ (w.alloc (.cells (Value.cells (.agg #[.slice none 0 0, .slice none 0 0, .slice none 0 0, .int .i64 0])) tM))
  rw [← hw0]
  have hT0 := ht.at_.ext0 hx0
  -- how it fails
  have fail : ∀ {w1 w2 : World} {c : Int} {x : Tr.T} {E : Env}, Ext none_ w0 w1 → w2 = w1.setRow w.heap.size #[.slice none 0 0, .slice none 0 0, .slice none 0 0, .int .i64 0] → getE E 6 = some (.pointer (some ⟨w.heap.size, 0, none⟩)) → getE E 7 = some (.int .i64 c) → Tr.plan m s d = (none, c) →
      N [] 112 (bodyPost P Tryz.f81 (Plans w (Tr.plan m s d)) .ret) E w2 := by
    intro w1 w2 c x E hx1 e1 h6 h7 hp
    subst e1
    have hz1 := hx1.obj hz0 id
    refine N.retCT (cs := [.slice none 0 0, .slice none 0 0, .slice none 0 0, .int .i64 0]) rfl h6 h7 ag_Move sz_Move (row_cells (setRow_heap _ _ _ _ _ _ hz1)) ?_
    rw [hp]
    refine ⟨(hx0.trans hx1).trans' (Ext.setRow (S := fun k => k = w.heap.size) _ (fun _ => rfl) _) (fun i hi e => by omega), rfl⟩
  refine W.seq ?_
  refine W.reg <| mv rfl rfl <| call (vs := [_]) rfl rfl ok_Clean (c_Clean s w0) ?_
  rintro e w1 ⟨rfl, hx1⟩
  refine ⟨_, rfl, ?_⟩
  have hcs := clean_len s
  have hcd := clean_len d
  refine mv rfl rfl <| ext rfl rfl rfl <| ext rfl rfl rfl <| asg rfl rfl <| asg rfl rfl <| L.nil ?_
  refine N.th ?_
  refine W.seq ?_
  refine W.seq ?_
  refine W.reg <| mv rfl rfl <| neqI rfl rfl rfl <| L.nil ?_
  refine N.th ?_
  refine W.cond rfl (fun h => ?_) (fun h => ?_)
  · refine W.seq ?_
    refine W.reg <| bld (vs := #[]) (v := moveZ) rfl rfl (fun _ => by kernel_rfl) <| mv rfl rfl <| stR rfl rfl sz_Move rfl (hx1.obj hz0 id) rfl <| asg rfl rfl <| L.nil ?_
    refine N.th ?_
    refine W.ret ?_
    refine N.rth ?_
    have h0 : (Sp.clean s).2 ≠ 0 := by simpa using h
    exact fail (x := m) hx1 rfl rfl rfl (by unfold Tr.plan; rw [if_pos h0])
  have h0 : ¬ (Sp.clean s).2 ≠ 0 := by simpa using h
  refine W.skip ?_
  refine N.th ?_
  refine W.seq ?_
  refine W.reg <| mv rfl rfl <| call (vs := [_]) rfl rfl ok_Clean (c_Clean d w1) ?_
  rintro e w2 ⟨rfl, hx2⟩
  refine ⟨_, rfl, ?_⟩
  refine mv rfl rfl <| ext rfl rfl rfl <| ext rfl rfl rfl <| asg rfl rfl <| asg rfl rfl <| L.nil ?_
  refine N.th ?_
  refine W.seq ?_
  refine W.block ?_
  refine W.seq ?_
  have hx02 := hx1.trans hx2
  refine W.reg <| mv rfl rfl <| neqI rfl rfl rfl <| asg rfl rfl <| L.nil ?_
  refine N.th ?_
  refine W.cond rfl (fun h => ?_) (fun h => ?_)
  · refine W.seq ?_
    refine W.reg <| bld (vs := #[]) (v := moveZ) rfl rfl (fun _ => by kernel_rfl) <| mv rfl rfl <| stR rfl rfl sz_Move rfl (hx02.obj hz0 id) rfl <| asg rfl rfl <| L.nil ?_
    refine N.th ?_
    refine W.ret ?_
    refine N.rinb <| N.rth ?_
    have h1 : (Sp.clean d).2 ≠ 0 := by simpa using h
    exact fail (x := m) hx02 rfl rfl rfl (by unfold Tr.plan; rw [if_neg h0, if_pos h1])
  have h1 : ¬ (Sp.clean d).2 ≠ 0 := by simpa using h
  have hplan : Tr.plan m s d = (if (Tr.at_ m (Sp.clean s).1).isNone then (none, 52) else
      if (Sp.clean s).1 = [] ∨ Sp.within (Sp.clean d).1 (Sp.clean s).1 = true then (none, 54) else
      if (Tr.at_ m (Sp.clean d).1).isSome then (none, 53) else
      match Tr.ahead m (Sp.clean d).1 with
      | none => (none, 54)
      | some lack => if (Tr.dests (Sp.clean s).1.length (Sp.clean d).1 (Tr.below m (Sp.clean s).1)).2 ≠ 0 then (none, (Tr.dests (Sp.clean s).1.length (Sp.clean d).1 (Tr.below m (Sp.clean s).1)).2) else
        (some ⟨Tr.below m (Sp.clean s).1, (Tr.dests (Sp.clean s).1.length (Sp.clean d).1 (Tr.below m (Sp.clean s).1)).1, lack, ((Tr.below m (Sp.clean s).1).map fun k => ((Tr.get m k).getD (true, [])).2.length).sum⟩, 0)) := by
    unfold Tr.plan; rw [if_neg h0, if_neg h1]; rfl
  refine W.seq ?_
  have hT2 := hT0.ext0 hx02
  refine W.reg <| mv rfl rfl <| mv rfl rfl <| call (vs := [_, _]) rfl rfl ok_at (c_at (Sp.clean s).1 hT2) ?_
  rintro e w3 ⟨v1, rfl, hv1, hx3⟩
  refine ⟨_, rfl, ?_⟩
  have ptr : ∀ {w : World} {v : Value} {o : Option Tr.Nd}, PtrAt A w v o → ∃ q, v = .pointer q ∧ q.isNone = o.isNone := by
    intro w v o h
    cases o with
    | none => exact ⟨none, h, rfl⟩
    | some x => obtain ⟨b, sl, hb, -⟩ := h; exact ⟨_, hb, rfl⟩
  obtain ⟨q1, rfl, hq1⟩ := ptr hv1
  have hx03 := hx02.trans hx3
  refine eqlPN rfl u_pNode rfl <| asg rfl rfl <| L.nil ?_
  refine N.th ?_
  refine W.cond rfl (fun h => ?_) (fun h => ?_)
  · refine W.seq ?_
    refine W.reg <| bld (vs := #[]) (v := moveZ) rfl rfl (fun _ => by kernel_rfl) <| stR rfl rfl sz_Move rfl (hx03.obj hz0 id) rfl <| asg rfl rfl <| L.nil ?_
    refine N.th ?_
    refine W.ret ?_
    refine N.rinb <| N.rth ?_
    exact fail (x := m) hx03 rfl rfl rfl (by rw [hplan, if_pos (by rw [← hq1]; exact h)])
  rw [if_neg (by rw [← hq1, h]; simp)] at hplan
  refine W.seqM (fun E w' => ∃ b, E = [(39, .bool b), (0, pT bt), (1, .string (S (Sp.clean s).1)), (2, .string (S (Sp.clean d).1)), (6, .pointer (some ⟨w.heap.size, 0, none⟩))] ∧ w' = w3 ∧ (b = true ↔ ((Sp.clean s).1 = [] ∨ Sp.within (Sp.clean d).1 (Sp.clean s).1 = true))) ?_ ?_   -- CUT
  · refine W.reg <| mv rfl rfl <| eqlS (a := (Sp.clean s).1) (b := []) rfl rfl rfl <| ?_
    by_cases hp : (Sp.clean s).1 = []
    · refine Vc.bt (by simpa using hp) ?_
      refine mv rfl rfl <| L.off rfl rfl rfl rfl rfl <| L.off rfl rfl rfl rfl rfl <| L.off rfl rfl rfl rfl rfl <| pickT rfl rfl rfl <| asg rfl rfl <| L.nil ?_
      exact N.th (N.meet [(39, .bool true), (0, _), (1, _), (2, _), (6, _)] ⟨rfl, rfl, rfl, rfl, rfl, trivial⟩ ⟨true, rfl, rfl, by simp [hp]⟩)
    · refine Vc.bf (by simpa using hp) ?_
      refine mv rfl rfl <| L.on rfl rfl rfl <| mv rfl rfl <| L.on rfl rfl rfl <| mv rfl rfl <| L.on rfl rfl rfl <| call (vs := [_, _]) rfl rfl ok_Within (c_Within (Sp.clean d).1 (Sp.clean s).1 (by omega) w3) ?_
      rintro e w4 ⟨rfl, rfl⟩
      refine ⟨_, rfl, ?_⟩
      refine pickF rfl rfl rfl <| asg rfl rfl <| L.nil ?_
      exact N.th (N.meet [(39, .bool _), (0, _), (1, _), (2, _), (6, _)] ⟨rfl, rfl, rfl, rfl, rfl, trivial⟩ ⟨_, rfl, rfl, by simp [hp]⟩)
  rintro E w3' ⟨b, rfl, rfl, hb⟩
  refine W.cond rfl (fun h => ?_) (fun h => ?_)
  · refine W.seq ?_
    refine W.reg <| bld (vs := #[]) (v := moveZ) rfl rfl (fun _ => by kernel_rfl) <| stR rfl rfl sz_Move rfl (hx03.obj hz0 id) rfl <| asg rfl rfl <| L.nil ?_
    refine N.th ?_
    refine W.ret ?_
    refine N.rinb <| N.rth ?_
    exact fail (x := m) hx03 rfl rfl rfl (by rw [hplan, if_pos (hb.1 h)])
  have hnb : ¬ ((Sp.clean s).1 = [] ∨ Sp.within (Sp.clean d).1 (Sp.clean s).1 = true) := fun k => by rw [hb.2 k] at h; cases h
  rw [if_neg hnb] at hplan
  have hp0 : (Sp.clean s).1 ≠ [] := fun e => hnb (.inl e)
  refine W.seq ?_
  have hT3 := hT2.ext0 hx3
  refine W.reg <| mv rfl rfl <| mv rfl rfl <| call (vs := [_, _]) rfl rfl ok_at (c_at (Sp.clean d).1 hT3) ?_
  rintro e w4 ⟨v2, rfl, hv2, hx4⟩
  refine ⟨_, rfl, ?_⟩
  obtain ⟨q2, rfl, hq2⟩ := ptr hv2
  have hx04 := hx03.trans hx4
  refine neqPN rfl u_pNode rfl <| asg rfl rfl <| L.nil ?_
  refine N.th ?_
  have hsome : ∀ {o : Option Tr.Nd}, o.isSome = !o.isNone := by intro o; cases o <;> rfl
  refine W.cond rfl (fun h => ?_) (fun h => ?_)
  · refine W.seq ?_
    refine W.reg <| bld (vs := #[]) (v := moveZ) rfl rfl (fun _ => by kernel_rfl) <| stR rfl rfl sz_Move rfl (hx04.obj hz0 id) rfl <| asg rfl rfl <| L.nil ?_
    refine N.th ?_
    refine W.ret ?_
    refine N.rinb <| N.rth ?_
    exact fail (x := m) hx04 rfl rfl rfl (by rw [hplan, if_pos (by rw [hsome, ← hq2]; exact h)])
  rw [if_neg (by rw [hsome, ← hq2, h]; simp)] at hplan
  refine W.skip ?_
  refine N.inb ?_
  refine N.th ?_
  refine W.seq ?_
  have hT4 := hT3.ext0 hx4
  refine W.reg <| mv rfl rfl <| mv rfl rfl <| call (vs := [_, _]) rfl rfl ok_below (c_below (Sp.clean s).1 hT4 (by omega) (by omega)) ?_
  rintro e w5 ⟨fv, rfl, hfv, hx5⟩
  refine ⟨_, rfl, ?_⟩
  have hT5 := hT4.ext0 hx5
  have hx05 := hx04.trans hx5
  have hs5 := hx05.size
  obtain ⟨fa, fc, rfl, hfn, hfm⟩ := own_slice hfv
  obtain ⟨L5, hL5⟩ : ∃ L5, L5 = Tr.below m (Sp.clean s).1 := ⟨_, rfl⟩
  rw [← hL5] at hplan hfv hfn ⊢
  have hL5l : L5.length ≤ 500 := by have := Tr.len_below m (Sp.clean s).1; rw [hL5]; omega
  obtain ⟨w6, hw6⟩ : ∃ w6, w6 = (w5.alloc (.cells (Value.cells (.agg #[.slice none 0 0, .slice none 0 0, .slice none 0 0, .int .i64 0])) tM)).setRow w5.heap.size #[.slice fa L5.length fc, .slice none 0 0, .slice none 0 0, .int .i64 0] := ⟨_, rfl⟩
  have hx6 : Ext none_ w5 w6 := by rw [hw6]; exact (Ext.alloc none_ _ _).trans' (Ext.setRow (S := fun k => k = w5.heap.size) _ (fun _ => rfl) _) (fun i hi e => by omega)
  have hg6 : w6.heap[w5.heap.size]? = some (.cells #[.slice fa L5.length fc, .slice none 0 0, .slice none 0 0, .int .i64 0] tM (0, 0)) := by rw [hw6]; exact setRow_heap _ _ _ _ _ _ (heap_new _ _)
  have hs6 : w6.heap.size = w5.heap.size + 1 := by rw [hw6]; simp
  refine bld (vs := #[(0, .slice fa L5.length fc)]) (v := .agg #[.slice fa L5.length fc, .slice none 0 0, .slice none 0 0, .int .i64 0]) rfl rfl (fun _ => by kernel_rfl) <| new ze_Move rfl <| stR rfl rfl sz_Move rfl (heap_new _ _) rfl <| L.nil ?_
  rw [← hw6]
  refine N.th ?_
  refine W.seq ?_
  refine W.seq ?_
  have hT6 := hT5.ext0 hx6
  refine W.reg <| mv rfl rfl <| mv rfl rfl <| call (vs := [_, _]) rfl rfl ok_ahead (c_ahead (Sp.clean d).1 (by omega) hT6) ?_
  rintro e w7 ⟨hx7, hah⟩
  have hx07 := hx05.trans (hx6.trans hx7)
  have hg7 := hx7.obj hg6 id
  cases hA : Tr.ahead m (Sp.clean d).1 with
  | none =>
    rw [hA] at hah hplan
    obtain rfl := hah
    refine ⟨_, rfl, ?_⟩
    refine mv rfl rfl <| ext rfl rfl rfl <| ext rfl rfl rfl <| fad rfl fl_Move_2 rfl <| st1 rfl rfl sz_strs rfl hg7 rfl <| asg rfl rfl <| L.nil ?_
    refine N.th ?_
    refine W.seq ?_
    refine W.reg <| mv rfl rfl <| neqI rfl rfl rfl <| L.nil ?_
    refine N.th ?_
    refine W.condT rfl ?_
    refine W.seq ?_
    have hxs : Ext none_ w0 (w7.setCell ⟨w5.heap.size, 0 + 2, none⟩ (.slice none 0 0)) := hx07.trans' (Ext.setCell (S := fun k => k = w5.heap.size) _ (fun _ => rfl) _) (fun i hi e => by omega)
    refine W.reg <| bld (vs := #[]) (v := moveZ) rfl rfl (fun _ => by kernel_rfl) <| mv rfl rfl <| stR rfl rfl sz_Move rfl (hxs.obj hz0 id) rfl <| asg rfl rfl <| L.nil ?_
    refine N.th ?_
    refine W.ret ?_
    refine N.rth ?_
    exact fail (x := m) hxs rfl rfl rfl hplan
  | some lack =>
  rw [hA] at hah hplan
  obtain ⟨lv, rfl, hlv⟩ := hah
  refine ⟨_, rfl, ?_⟩
  have hlk := Tr.ahead_len hA
  obtain ⟨w8, hw8⟩ : ∃ w8, w8 = w7.setCell ⟨w5.heap.size, 0 + 2, none⟩ lv := ⟨_, rfl⟩
  have hx8 : Ext (fun k => k = w5.heap.size) w7 w8 := by rw [hw8]; exact Ext.setCell (S := fun k => k = w5.heap.size) _ (fun _ => rfl) _
  have hg8 : w8.heap[w5.heap.size]? = some (.cells #[.slice fa L5.length fc, .slice none 0 0, lv, .int .i64 0] tM (0, 0)) := by rw [hw8, setCell_heap hg7]; rfl
  have hs7 := hx7.size
  have hs8 := hx8.size
  refine mv rfl rfl <| ext (v := lv) rfl rfl rfl <| ext (v := .int .i64 0) rfl rfl rfl <| fad rfl fl_Move_2 rfl <| st1 rfl rfl sz_strs (own_cells hlv).2 hg7 rfl <| asg rfl rfl <| L.nil ?_
  rw [← hw8]
  refine N.th ?_
  refine W.seq ?_
  refine W.reg <| mv rfl rfl <| neqI rfl rfl rfl <| L.nil ?_
  refine N.th ?_
  refine W.condF rfl ?_
  refine W.skip ?_
  refine N.th ?_
  refine W.seq ?_
  refine W.seq ?_
  have hmk : ∀ {wx : World} {c : Array Value}, wx.heap[w5.heap.size]? = some (.cells c tM (0, 0)) → (∀ k, k = w5.heap.size → ∀ c fr, wx.heap[k]? ≠ some (.cells c 9 fr)) ∧ Kd wx (fun k => k = w5.heap.size) := by
    intro wx c hc
    refine ⟨?_, ?_⟩
    · rintro k rfl c' fr h; rw [hc] at h; cases h
    · rintro k rfl c' e' fr h; rw [hc] at h; cases h; exact ⟨by decide, by decide⟩
  have hT8 : TreeAt A w8 bt bm m (Tr.size m) := (hT6.ext0 hx7).ext hx8 (hmk hg7).2 (fun e => by have := hT5.lt.1; omega) (fun e => by have := hT5.lt.2; omega)
  have hlv8 : Strs w.heap.size w8 lv lack := own_more (strs_keep hlv hx8 (hmk hg7).1) (by omega)
  have hfv8 : Strs w.heap.size w8 (.slice fa L5.length fc) L5 := own_more (strs_keep (own_ext (own_ext hfv hx6 fun _ _ => id) hx7 fun _ _ => id) hx8 (hmk hg7).1) (by have := hx04.size; omega)
  have hx08 : Ext none_ w0 w8 := hx07.trans' hx8 (fun i hi e => by omega)
  refine W.reg <| fad rfl fl_Move_0 rfl <| ld1 rfl ag_strs rfl (cell_of hg8 (i := 0) (v := .slice fa L5.length fc) rfl) <| lenV rfl u_strs rfl <| mv rfl rfl <| L.nil ?_
  refine N.th ?_
  refine W.block ?_
  obtain ⟨D, hD⟩ : ∃ D : List Tr.Bytes → List Tr.Bytes × Int, D = Tr.dests (Sp.clean s).1.length (Sp.clean d).1 := ⟨_, rfl⟩
  rw [← hD] at hplan
  refine W.loop (X := List Tr.Bytes × List Tr.Bytes × List Tr.Bytes × Value) (fun x => [(72, .int .i64 x.1.length), (71, .int .i64 L5.length), (70, .slice fa L5.length fc), (0, pT bt), (1, .string (S (Sp.clean s).1)), (2, .string (S (Sp.clean d).1)), (9, .pointer (some ⟨w5.heap.size, 0, none⟩)), (6, .pointer (some ⟨w.heap.size, 0, none⟩))])
    (fun x w' => L5 = x.1 ++ x.2.1 ∧ w'.heap[w5.heap.size]? = some (.cells #[.slice fa L5.length fc, x.2.2.2, lv, .int .i64 ((x.1.map fun k => ((Tr.get m k).getD (true, [])).2.length).sum : Nat)] tM (0, 0)) ∧ Strs w8.heap.size w' x.2.2.2 x.2.2.1 ∧ x.2.2.1.length = x.1.length ∧
      D L5 = (if (D x.2.1).2 ≠ 0 then ([], (D x.2.1).2) else (x.2.2.1 ++ (D x.2.1).1, 0)) ∧ Ext (fun k => k = w5.heap.size) w8 w') (fun x => x.2.1.length) ([], L5, [], .slice none 0 0) ⟨rfl, rfl, rfl, rfl, rfl, rfl, rfl, rfl, trivial⟩
    ⟨rfl, by simpa using hg8, own_nil _ _ _ _, rfl, ?_, Ext.refl _ _⟩ ?_
  · dsimp only
    split
    · rename_i hne
      have : (D L5).1 = [] := by
        rw [hD] at hne ⊢
        cases L5 with
        | nil => rfl
        | cons k l =>
          rw [dests_cons] at hne ⊢
          split
          · rfl
          · split
            · rfl
            · rename_i a b; rw [if_neg a, if_neg b] at hne; exact absurd rfl hne
      exact Prod.ext this rfl
    · rename_i hz
      exact Prod.ext (by simp) (by simpa using hz)
  rintro ⟨pre, rest, acc, tv⟩ w9 ⟨hl, hg9, htv, hal, hds, hx9⟩
  dsimp only at hl hg9 htv hal hds ⊢
  have hx09 : Ext none_ w0 w9 := hx08.trans' hx9 (fun i hi e => by omega)
  refine W.seq ?_
  refine W.reg <| lssI rfl rfl rfl <| L.nil ?_
  refine N.th ?_
  refine W.seq ?_
  have hT9 : TreeAt A w9 bt bm m (Tr.size m) := hT8.ext hx9 (hmk hg8).2 (fun e => by have := hT5.lt.1; omega) (fun e => by have := hT5.lt.2; omega)
  have hfv9 : Strs w.heap.size w9 (.slice fa L5.length fc) L5 := strs_keep hfv8 hx9 (hmk hg8).1
  refine W.cond rfl (fun h => ?_) (fun h => ?_)
  · refine W.skip ?_
    refine N.th ?_
    cases rest with
    | nil => rw [hl] at h; simp at h
    | cons k rest =>
    have hpl : pre.length + 1 ≤ L5.length := by rw [hl]; simp
    rcases (Row.own hfv9).form with ⟨h0, h1, _⟩ | ⟨b, o, c, h0, h1, h2, h3, hcell⟩
    · omega
    cases h0
    have hck : w9.cell? ⟨b, o + pre.length, none⟩ = some (.string (S k)) := hcell pre.length _ (by rw [hl]; simp [encT])
    have hkb : k ∈ Tr.below m (Sp.clean s).1 := by rw [← hL5, hl]; simp
    have hkw := within_len (Tr.mem_below.1 hkb).2
    obtain ⟨p, hpm, hpk⟩ := List.mem_map.1 (Tr.mem_below.1 hkb).1
    have hk1 : k.length ≤ 100000 := by rw [← hpk]; exact hkl p hpm
    refine W.seq ?_
    refine W.block ?_
    refine W.seq ?_
    refine W.reg <| ixa rfl rfl u_strs sz_str rfl (by omega) (by omega) <| ld1 rfl ag_str rfl (by rw [Nat.mul_one]; exact hck) <| asg rfl rfl <| L.nil ?_
    refine N.th ?_
    refine W.seq ?_
    refine W.reg <| mv rfl rfl <| mv rfl rfl <| mv rfl rfl <| lenS rfl u_str rfl <| slSl rfl rfl u_str rfl (by omega) (by omega) <| addS rfl rfl rfl (by simp; omega) <| call (vs := [_]) rfl rfl ok_Clean (c_Clean _ w9) ?_
    rintro e w10 ⟨rfl, hx10⟩
    refine ⟨_, rfl, ?_⟩
    rw [show ((Sp.clean s).1.length : Int).toNat = (Sp.clean s).1.length from by simp]
    obtain ⟨C, hC⟩ : ∃ C, C = Sp.clean ((Sp.clean d).1 ++ k.drop (Sp.clean s).1.length) := ⟨_, rfl⟩
    rw [← hC]
    have hDk : D (k :: rest) = if C.2 ≠ 0 then ([], C.2) else if (D rest).2 ≠ 0 then ([], (D rest).2) else (C.1 :: (D rest).1, 0) := by rw [hD, dests_cons, ← hC]
    refine mv rfl rfl <| ext rfl rfl rfl <| ext rfl rfl rfl <| asg rfl rfl <| asg rfl rfl <| L.nil ?_
    refine N.th ?_
    refine W.seq ?_
    refine W.seq ?_
    have hx010 : Ext none_ w0 w10 := hx09.trans hx10
    refine W.reg <| mv rfl rfl <| neqI rfl rfl rfl <| L.nil ?_
    refine N.th ?_
    refine W.cond rfl (fun h => ?_) (fun h => ?_)
    · refine W.seq ?_
      refine W.reg <| bld (vs := #[]) (v := moveZ) rfl rfl (fun _ => by kernel_rfl) <| mv rfl rfl <| stR rfl rfl sz_Move rfl (hx010.obj hz0 id) rfl <| asg rfl rfl <| L.nil ?_
      refine N.th ?_
      refine W.ret ?_
      refine N.rth <| N.rinb <| N.rth <| N.rth <| N.rinb <| N.rth ?_
      have hc0 : C.2 ≠ 0 := by simpa using h
      rw [hDk, if_pos hc0, if_pos (by exact hc0)] at hds
      exact fail (x := m) hx010 rfl rfl rfl (by rw [hplan]; dsimp only; rw [hds, if_pos (by exact hc0)])
    have hc0 : ¬ C.2 ≠ 0 := by simpa using h
    rw [hDk, if_neg hc0] at hds
    refine W.skip ?_
    refine N.th ?_
    refine W.seq ?_
    have hg10 := hx10.obj hg9 id
    have htv10 := own_ext htv hx10 fun _ _ => id
    refine W.reg <| fad rfl fl_Move_1 rfl <| ld1 rfl ag_strs rfl (cell_of hg10 (i := 1) (v := tv) rfl) <| mv rfl rfl <| bls (vs := #[(0, .string (S C.1))]) (cs := #[.string (S C.1)]) (e := 9) rfl rfl (fun _ => by kernel_rfl) <|
      app rfl rfl rfl el_strs (own_ext htv10 (Ext.alloc none_ _ _) fun _ _ => id) (news := [.string (S C.1)]) rfl (fun j u hj => by
            cases j with
            | zero => cases hj; exact cell1 (heap_new _ _)
            | succ j => cases hj) (by simp [Value.oneCell']) (by omega) (by simp only [maxLen]; omega) (by have := hx9.size; have := hx10.size; simp; omega) fun tv' w11 htv11 hx11 _ _ => ?_
    have hneG : ¬ (tv.ownBlock = some w5.heap.size) := fun e => by have := own_new htv _ e; omega
    have hg11 := hx11.obj ((Ext.alloc none_ w10 _).obj hg10 id) hneG
    refine fad rfl fl_Move_1 rfl <| st1 rfl rfl sz_strs (own_cells htv11).2 hg11 rfl <| L.nil ?_
    obtain ⟨w12, hw12⟩ : ∃ w12, w12 = w11.setCell ⟨w5.heap.size, 0 + 1, none⟩ tv' := ⟨_, rfl⟩
    rw [← hw12]
    have hx12 : Ext (fun k => k = w5.heap.size) w11 w12 := by rw [hw12]; exact Ext.setCell (S := fun k => k = w5.heap.size) _ (fun _ => rfl) _
    have hg12 : w12.heap[w5.heap.size]? = some (.cells #[.slice (some ⟨b, o, none⟩) L5.length fc, tv', lv, .int .i64 ((pre.map fun k => ((Tr.get m k).getD (true, [])).2.length).sum : Nat)] tM (0, 0)) := by rw [hw12, setCell_heap hg11]; rfl
    have hx8_11 : Ext (fun k => k = w5.heap.size) w8 w11 := ((hx9.trans hx10.none).trans (Ext.alloc _ _ _)).own (own_ext htv10 (Ext.alloc none_ _ _) fun _ _ => id) hx11
    have hx8_12 := hx8_11.trans hx12
    have hT12 : TreeAt A w12 bt bm m (Tr.size m) := hT8.ext hx8_12 (hmk hg8).2 (fun e => by have := hT5.lt.1; omega) (fun e => by have := hT5.lt.2; omega)
    refine N.th ?_
    have htv12 : Strs w8.heap.size w12 tv' (acc ++ [C.1]) := strs_keep (by simpa [Strs, encT] using htv11) hx12 (hmk hg11).1
    obtain ⟨x, hx⟩ := Option.isSome_iff_exists.1 (below_in hkb)
    have hxl : x.2.length ≤ 1048576 := by have := old_le m k; simp [Tr.old, hx] at this; omega
    have hbs : ((pre.map fun k => ((Tr.get m k).getD (true, [])).2.length).sum) ≤ 500 * 1048576 := by
      have h1 := bytes_le m pre
      have : pre.length * Tr.size m ≤ 500 * 1048576 := Nat.mul_le_mul (by omega) hm2
      omega
    obtain ⟨al, hal12, hr12⟩ := hT12.reps
    have hlook := hr12.look k
    rw [hx] at hlook
    obtain ⟨nb, sl, hvp, hnb, hav, hrow⟩ := hlook
    obtain ⟨-, sa, sc, rfl, hsn, hsm, -, -⟩ := id hrow
    have hdr := Ext.drew none_ w12
    have hTd := hT12.ext0 hdr
    have hgd := hdr.obj hg12 id
    obtain ⟨N0, hN0⟩ : ∃ N0, N0 = ((pre.map fun k => ((Tr.get m k).getD (true, [])).2.length).sum) := ⟨_, rfl⟩
    rw [← hN0] at hgd hbs
    have hc3 : w12.drew.cell? ⟨w5.heap.size, 3, none⟩ = some (.int .i64 (N0 : Nat)) := cell_of hgd rfl
    refine W.draw [] true (fun w' => w' = w12.drew) [0, 1, 2, 3, 4, 5, 6, 7, 8, 9, 10, 11, 12, 13, 14] rfl rfl (by kernel_rfl) rfl ?_   -- held
    refine fad rfl fl_Move_3 rfl <| ldK rfl ag_int rfl (fun w' e => e ▸ hc3) <| mv rfl rfl <| nilc rfl rfl <| fad rfl fl_Tree_0 rfl <| ldK rfl ag_mNode rfl (fun w' e => e ▸ hTd.c0) <| mv rfl rfl <| lkuK rfl rfl u_mNode u_str ze_pNode rfl (fun w' e => e ▸ hal12.ext hdr id) <| ?_
    rw [hvp]
    have hc1 : w12.drew.cell? ⟨nb, 1, none⟩ = some (.slice sa x.2.length sc) := cell_of (hdr.obj hnb id) rfl
    refine nilc rfl rfl <| fad rfl fl_Node_1 rfl <| ldK rfl ag_bytes rfl (fun w' e => e ▸ hc1) <| lenV rfl u_bytes rfl <| addI (c := ((N0 + x.2.length : Nat) : Int)) rfl rfl rfl (by rw [w64 (by omega) (by omega)]; simp) <| fad rfl fl_Move_3 rfl <|
      st1 rfl rfl sz_int rfl hgd rfl (hS := .inl ⟨rfl, rfl⟩) <| L.nilH ?_
    obtain ⟨w13, hw13⟩ : ∃ w13, w13 = w12.drew.setCell ⟨w5.heap.size, 0 + 3, none⟩ (.int .i64 ((N0 + x.2.length : Nat) : Int)) := ⟨_, rfl⟩
    rw [← hw13]
    have hx13 : Ext (fun k => k = w5.heap.size) w12.drew w13 := by rw [hw13]; exact Ext.setCell (S := fun k => k = w5.heap.size) _ (fun _ => rfl) _
    have hg13 : w13.heap[w5.heap.size]? = some (.cells #[.slice (some ⟨b, o, none⟩) L5.length fc, tv', lv, .int .i64 ((N0 + x.2.length : Nat) : Int)] tM (0, 0)) := by rw [hw13, setCell_heap hgd]; rfl
    refine N.inb ?_
    refine N.th ?_
    refine W.reg <| addI (c := (pre.length : Int) + 1) rfl rfl rfl (w64 (by omega) (by omega)) <| mv rfl rfl <| L.nil ?_
    refine N.th (N.round (x := (pre ++ [k], rest, acc ++ [C.1], tv')) ⟨?_, rfl, rfl, rfl, rfl, rfl, rfl, rfl, trivial⟩ ⟨by simp [hl], ?_, strs_keep (Strs.ext0' htv12 hdr) hx13 (hmk hgd).1, by simp [hal], ?_, (hx8_12.trans (Ext.drew _ _)).trans hx13⟩ (by simp))   -- ROUND
    · simp [getE]
    · dsimp only; rw [hg13, List.map_append, List.sum_append, ← hN0]; simp [hx]
    · dsimp only
      rw [hds]
      by_cases hz : (D rest).2 ≠ 0
      · rw [if_pos hz, if_pos hz, if_pos (by exact hz)]
      · rw [if_neg hz, if_neg hz, if_neg (by simp)]
        simp
  · refine W.exit ?_
    refine N.xth ?_
    refine N.xth ?_
    refine N.xeq ?_
    refine N.th ?_
    refine W.seq ?_
    cases rest with
    | cons k rest => rw [hl] at h; simp at h; omega
    | nil =>
    obtain rfl : L5 = pre := by simpa using hl
    have hd0 : D L5 = (acc, 0) := by
      rw [hds, hD]; simp [Tr.dests]
    rw [hd0] at hplan
    dsimp only at hplan
    rw [if_neg (by simp)] at hplan
    obtain ⟨N0, hN0⟩ : ∃ N0, N0 = ((L5.map fun k => ((Tr.get m k).getD (true, [])).2.length).sum) := ⟨_, rfl⟩
    rw [← hN0] at hg9 hplan
    refine W.reg <| ldk rfl ag_Move sz_Move rfl (cs := [.slice fa L5.length fc, tv, lv, .int .i64 (N0 : Nat)]) rfl (row_cells hg9) <| stR rfl rfl sz_Move ?_ (hx09.obj hz0 id) rfl <| asg rfl rfl <| L.nil ?_
    · show (true && (Value.oneCell' tv && (Value.oneCell' lv && (true && true)))) = true
      rw [(own_cells htv).2, (own_cells hlv).2]; rfl
    refine N.th ?_
    refine W.ret ?_
    have hzz := hx09.obj hz0 id
    refine N.retCT (cs := [.slice fa L5.length fc, tv, lv, .int .i64 (N0 : Nat)]) rfl rfl rfl ag_Move sz_Move (row_cells (setRow_heap _ _ _ _ _ _ hzz)) ?_
    rw [hplan]
    have hmz : ∀ k, k = w.heap.size → ∀ c fr, w9.heap[k]? ≠ some (.cells c 9 fr) := by
      rintro k rfl c fr h; rw [hzz] at h; cases h
    have hxr : Ext (fun k => k = w.heap.size) w9 (w9.setRow w.heap.size [.slice fa L5.length fc, tv, lv, .int .i64 (N0 : Nat)].toArray) := Ext.setRow (S := fun k => k = w.heap.size) _ (fun _ => rfl) _
    refine ⟨(hx0.trans hx09).trans' hxr (fun i hi e => by omega), _, rfl, _, _, _, rfl, strs_keep hfv9 hxr hmz, own_more (strs_keep htv hxr hmz) ?_, strs_keep (strs_keep hlv8 hx9 (hmk hg8).1) hxr hmz⟩
    have := hx08.size; omega
end Go.Proofs.YtmdpmpdlkaogdaaGreatDoor
