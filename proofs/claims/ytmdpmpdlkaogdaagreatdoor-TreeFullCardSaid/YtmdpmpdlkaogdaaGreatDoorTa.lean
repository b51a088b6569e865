/- Walks: package tree, its small functions. -/
import Derived.Test.YtmdpmpdlkaogdaaGreatDoorHp
namespace Go.Proofs.YtmdpmpdlkaogdaaGreatDoor
open Go Go.RowKit Vc
variable {A : Nat → Prop}

theorem ok_New : FnOk P 28 := ⟨_, Tryz.func28, by kernel_rfl, by kernel_rfl⟩
theorem ok_at : FnOk P 73 := ⟨_, Tryz.func73, by kernel_rfl, by kernel_rfl⟩
theorem ok_ahead : FnOk P 74 := ⟨_, Tryz.func74, by kernel_rfl, by kernel_rfl⟩
theorem ok_room : FnOk P 75 := ⟨_, Tryz.func75, by kernel_rfl, by kernel_rfl⟩
theorem ok_make : FnOk P 76 := ⟨_, Tryz.func76, by kernel_rfl, by kernel_rfl⟩

theorem c_New (w : World) : Calls P 28 #[] w fun e w' => ∃ bt bm, e = .returned (pT bt) ∧ w.heap.size ≤ bt ∧ w.heap.size ≤ bm ∧ TreeAt none_ w' bt bm [] 0 ∧ Ext none_ w w' := by
  refine enter (l := []) (n := 4) Tryz.func28 rfl rfl rfl ?_
  refine W.seq ?_
  refine W.reg <| asg rfl rfl <| L.nil ?_
  refine N.th ?_
  refine W.seq ?_
  refine W.reg <| mkm rfl <| bld (vs := #[(0, _)]) (v := .agg #[.map (some w.heap.size), .int .i64 0]) rfl rfl (fun _ => by kernel_rfl) <| box rfl rfl <| asg rfl rfl <| L.nil ?_
  refine N.th ?_
  refine W.ret ?_
  refine N.ret1 rfl rfl ?_   -- RETURN
  refine ⟨_, w.heap.size, rfl, by simp, Nat.le_refl _, ⟨heap_new _ _, ⟨[], ⟨#[], 0, ?_, ⟨by simp, by simp, by simp, by simp [absM]⟩, rfl⟩, trivial⟩, fun _ h => h.elim⟩, (Ext.alloc _ _ _).trans (Ext.alloc _ _ _)⟩
  exact (heap_alloc _ _ (by simp)).trans (heap_new w _)

theorem c_at {w : World} {bt bm : Nat} {m : Tr.T} {sz : Int} (p : Tr.Bytes) (ht : TreeAt A w bt bm m sz) : Calls P 73 #[pT bt, .string (S p)] w fun e w' => ∃ v, e = .returned v ∧ PtrAt A w' v (Tr.at_ m p) ∧ Ext none_ w w' := by
  refine enter (l := [_, _]) (n := 15) Tryz.func73 rfl rfl rfl ?_
  refine W.seq ?_
  refine W.reg <| asg rfl rfl <| L.nil ?_
  refine N.th ?_
  refine W.seq ?_
  refine W.seq ?_
  refine W.reg <| mv rfl rfl <| eqlS (a := p) (b := []) rfl rfl rfl <| L.nil ?_
  refine N.th ?_
  refine W.cond rfl (fun h => ?_) (fun h => ?_)
  · refine W.seq ?_
    refine W.reg <| bld (vs := #[(0, .bool true)]) (v := .agg #[.bool true, .slice none 0 0]) rfl rfl (fun _ => by kernel_rfl) <| box rfl rfl <| asg rfl rfl <| L.nil ?_
    refine N.th ?_
    refine W.ret ?_
    refine N.rth ?_
    refine N.ret1 rfl rfl ?_   -- RETURN
    have hp : p = [] := by simpa using h
    subst hp
    exact ⟨_, rfl, ⟨_, _, rfl, heap_new _ _, (fun k h => by cases h), Row.nil _ _ _⟩, Ext.alloc _ _ _⟩
  · refine W.skip ?_
    refine N.th ?_
    refine W.seq ?_
    obtain ⟨al, hm, hr⟩ := ht.reps
    refine W.reg <| mv rfl rfl <| nilc rfl rfl <| fad rfl fl_Tree_0 rfl <| ld1 rfl ag_mNode rfl ht.c0 <| mv rfl rfl <| lku rfl rfl u_mNode u_str ze_pNode rfl hm <| asg rfl rfl <| L.nil ?_
    refine N.th ?_
    refine W.ret ?_
    refine N.ret1 rfl rfl ?_   -- RETURN
    have hp : p ≠ [] := by simpa using h
    refine ⟨_, rfl, ?_, Ext.refl _ _⟩
    unfold Tr.at_; rw [if_neg hp]
    exact hr.look p

theorem c_room {w : World} {bt bm : Nat} {m : Tr.T} {sz : Int} {a b : Int} (ht : TreeAt A w bt bm m sz) (h1 : m.length ≤ 100000) (h2 : -1000000000000 ≤ sz) (h3 : sz ≤ 1000000000000) :
    Calls P 75 #[pT bt, .int .i64 a, .int .i64 b] w fun e w' => e = .returned (.bool (decide (a ≤ 500 - m.length) && decide (b ≤ 1048576 - sz))) ∧ w = w' := by
  refine enter (l := [_, _, _]) (n := 24) Tryz.func75 rfl rfl rfl ?_
  refine W.seq ?_
  refine W.reg <| asg rfl rfl <| L.nil ?_
  refine N.th ?_
  refine W.seq ?_
  obtain ⟨es, c, hb, hl⟩ := ht.len
  refine W.reg <| mv rfl rfl <| mv rfl rfl <| nilc rfl rfl <| fad rfl fl_Tree_0 rfl <| ld1 rfl ag_mNode rfl ht.c0 <| lenM rfl u_mNode (Kn.here hb) rfl <| subI (c := 500 - es.size) rfl rfl rfl (w64 (by omega) (by omega)) <| leqI rfl rfl rfl <| ?_
  by_cases hc : a ≤ 500 - (es.size : Int)
  · refine Vc.bt (by simpa using hc) ?_
    refine mv rfl rfl <| L.on rfl rfl rfl <| mv rfl rfl <| L.on rfl rfl rfl <| mv rfl rfl <| L.on rfl rfl rfl <| nilc rfl rfl <| L.on rfl rfl rfl <| fad rfl fl_Tree_1 rfl <| L.on rfl rfl rfl <| ld1 rfl ag_int rfl ht.c1 <| L.on rfl rfl rfl <| subI rfl rfl rfl (w64 (by omega) (by omega)) <| L.on rfl rfl rfl <| leqI rfl rfl rfl <| pickT rfl rfl rfl <| asg rfl rfl <| L.nil ?_
    refine N.th ?_
    refine W.ret ?_
    refine N.ret1 rfl rfl ?_   -- RETURN
    refine ⟨?_, rfl⟩
    rw [← hl, show decide (a ≤ 500 - (es.size : Int)) = true by simpa using hc, Bool.true_and]
  · refine Vc.bf (by simpa using hc) ?_
    refine mv rfl rfl <| L.off rfl rfl rfl rfl rfl <| L.off rfl rfl rfl rfl rfl <| L.off rfl rfl rfl rfl rfl <| L.off rfl rfl rfl rfl rfl <| L.off rfl rfl rfl rfl rfl <| L.off rfl rfl rfl rfl rfl <| L.off rfl rfl rfl rfl rfl <| pickF rfl rfl rfl <| asg rfl rfl <| L.nil ?_
    refine N.th ?_
    refine W.ret ?_
    refine N.ret1 rfl rfl ?_   -- RETURN
    refine ⟨?_, rfl⟩
    rw [← hl, show decide (a ≤ 500 - (es.size : Int)) = false by simpa using hc, Bool.false_and]

/-- One directory more. -/
theorem TreeAt.mapSet {w w' : World} {bt bm : Nat} {m : Tr.T} {sz : Int} {k : Tr.Bytes} {v : Value} {x : Tr.Nd} {al : AL} (hm : MapAt w bm al) (hr : Reps A w al m) (hc : w.heap[bt]? = some (.cells #[.map (some bm), .int .i64 sz] tT (0, 0))) (hv : NodeAt A w v x)
    (hm' : MapAt w' bm (aset al k v)) (hx : Ext (fun i => i = bm) w w') (hlow : ∀ k, A k → k < w.heap.size) : TreeAt A w' bt bm (Tr.set m k x) sz := by
  have hT : TreeAt A w bt bm m sz := ⟨hc, ⟨al, hm, hr⟩, hlow⟩
  have hkd : Kd w (fun i => i = bm) := fun i hi => hT.kd i (.inr hi)
  exact ⟨hx.obj hc hT.ne, ⟨_, hm', (hr.put k hv).ext hx hkd⟩, hT.lowAt hx.size⟩

theorem c_make {w : World} {bt bm : Nat} {m : Tr.T} {sz : Int} (l : List Tr.Bytes) (v : Value) (ht : TreeAt A w bt bm m sz) (hv : Row w v 9 1 l.length (encT l)) :
    Calls P 76 #[pT bt, v] w fun e w' => e = .returned (.tuple #[]) ∧ TreeAt A w' bt bm (Tr.make m l) sz ∧ Ext (Two bt bm) w w' := by
  obtain ⟨-, a, cap, rfl, hn, hmx, -, -⟩ := id hv
  have hlm : l.length ≤ maxLen := by omega
  simp only [maxLen] at hlm
  refine enter (l := [_, _]) (n := 20) Tryz.func76 rfl rfl rfl ?_
  refine W.seq ?_
  refine W.reg <| mv rfl rfl <| lenV rfl u_strs rfl <| mv rfl rfl <| L.nil ?_
  refine N.th ?_
  refine W.block ?_
  refine W.loop (X := List Tr.Bytes × List Tr.Bytes) (fun x => [(8, .int .i64 x.1.length), (7, .int .i64 l.length), (6, .slice a l.length cap), (0, pT bt)])
    (fun x w' => l = x.1 ++ x.2 ∧ TreeAt A w' bt bm (Tr.make m x.1) sz ∧ Ext (Two bt bm) w w') (fun x => x.2.length) ([], l) ⟨rfl, rfl, rfl, rfl, trivial⟩ ⟨rfl, ht, Ext.refl _ _⟩ ?_
  rintro ⟨pre, rest⟩ w1 ⟨hl, ht1, hx1⟩
  dsimp only at hl ht1 ⊢
  refine W.seq ?_
  refine W.reg <| lssI rfl rfl rfl <| L.nil ?_
  refine N.th ?_
  refine W.seq ?_
  refine W.cond rfl (fun h => ?_) (fun h => ?_)
  · refine W.skip ?_
    refine N.th ?_
    refine W.seq ?_
    refine W.block ?_
    refine W.seq ?_
    cases rest with
    | nil => simp [hl] at h
    | cons d rest =>
    have hpl : pre.length + 1 ≤ l.length := by rw [hl]; simp
    have hv1 : Row w1 (.slice a l.length cap) 9 1 l.length (encT l) := hv.ext hx1 (fun k hk => by
      obtain ⟨cur, fr, hc⟩ := hv.kind k hk
      rintro (rfl | rfl)
      · rw [ht.cell] at hc; cases hc
      · obtain ⟨_, ⟨_, _, hm, _⟩, _⟩ := ht.reps
        rw [hm] at hc; cases hc)
    rcases hv1.form with ⟨h0, h1, _⟩ | ⟨b, o, c, h0, h1, h2, h3, hcell⟩
    · rw [hl] at h1; simp at h1
    cases h0
    have hd : w1.cell? ⟨b, o + pre.length, none⟩ = some (.string (S d)) := hcell pre.length _ (by rw [hl]; simp [encT])
    obtain ⟨al, hm, hr⟩ := ht1.reps
    refine W.reg <| ixa rfl rfl u_strs sz_str rfl (by omega) (by simp [hl]; omega) <| ld1 rfl ag_str rfl (by rw [Nat.mul_one]; exact hd) <| asg rfl rfl <| L.nil ?_
    refine N.th ?_
    refine W.reg <| mv rfl rfl <| nilc rfl rfl <| fad rfl fl_Tree_0 rfl <| ld1 rfl ag_mNode rfl ht1.c0 <| mv rfl rfl <| bld (vs := #[(0, .bool true)]) (v := .agg #[.bool true, .slice none 0 0]) rfl rfl (fun _ => by kernel_rfl) <| box rfl rfl <|
      mup rfl rfl rfl u_mNode u_str (hm.ext (Ext.alloc none_ _ _) id) fun w2 hm2 hx2 hs2 => ?_
    have hT2 : TreeAt A w2 bt bm (Tr.set (Tr.make m pre) d (true, [])) sz :=
      TreeAt.mapSet (hm.ext (Ext.alloc none_ _ _) id) (hr.ext (Ext.alloc none_ _ _) (Kd.none _)) ((heap_alloc _ _ ht1.lt.1).trans ht1.cell) ⟨_, _, rfl, heap_new _ _, (fun k h => by cases h), Row.nil _ _ _⟩ hm2 hx2 (ht1.lowAt (by simp))
    refine L.nil ?_
    refine N.inb ?_
    refine N.th ?_
    refine W.reg <| addI (c := (pre.length : Int) + 1) rfl rfl rfl (w64 (by omega) (by omega)) <| mv rfl rfl <| L.nil ?_
    refine N.th (N.round (x := (pre ++ [d], rest)) ⟨?_, rfl, rfl, rfl, trivial⟩ ?_ ?_)   -- ROUND
    · simp [getE]
    · refine ⟨by simp [hl], ?_, ?_⟩
      · rw [show Tr.make m (pre ++ [d]) = Tr.set (Tr.make m pre) d (true, []) by simp [Tr.make]]; exact hT2
      · exact hx1.trans ((Ext.alloc _ _ _).trans (hx2.mono fun _ _ h => .inr h))
    · simp
  · refine W.exit ?_
    refine N.xth ?_
    refine N.xth ?_
    refine N.xeq ?_
    refine N.end0 rfl ?_
    cases rest with
    | cons d rest => simp [hl] at h; omega
    | nil =>
    obtain rfl : l = pre := by simpa using hl
    exact ⟨rfl, ht1, hx1⟩

theorem parent_lt {d : Tr.Bytes} (h : d ≠ []) : (Sp.parent d).length < d.length := by
  have := lastSlash_bd d
  have hp : 0 < d.length := List.length_pos_iff.2 h
  simp only [Sp.parent, List.length_take]
  omega
theorem parent_le (d : Tr.Bytes) : (Sp.parent d).length ≤ d.length := by simp only [Sp.parent, List.length_take]; omega
theorem aheadF_more (m : Tr.T) : ∀ (n : Nat) (d : Tr.Bytes), d.length ≤ n → ∀ k, n ≤ k → Tr.aheadF m k d = Tr.aheadF m n d := by
  intro n
  induction n with
  | zero =>
    intro d hd k _
    have : d = [] := List.eq_nil_of_length_eq_zero (by omega)
    subst this
    cases k <;> simp [Tr.aheadF]
  | succ n ih =>
    intro d hd k hk
    cases k with
    | zero => omega
    | succ k =>
      by_cases h0 : d = []
      · subst h0; simp [Tr.aheadF]
      · have := parent_lt h0
        simp only [Tr.aheadF, if_neg h0]
        rw [ih _ (by omega) k (by omega)]
theorem aheadF_step (m : Tr.T) {n : Nat} {d : Tr.Bytes} (hd : d.length ≤ n) (h0 : d ≠ []) : Tr.aheadF m n d = match Tr.get m d with
    | none => (Tr.aheadF m n (Sp.parent d)).map (d :: ·)
    | some x => if x.1 then Tr.aheadF m n (Sp.parent d) else none := by
  cases n with
  | zero => exact absurd (List.eq_nil_of_length_eq_zero (by omega)) h0
  | succ n =>
    have := parent_lt h0
    rw [aheadF_more m n (Sp.parent d) (by omega) (n + 1) (by omega)]
    simp only [Tr.aheadF, if_neg h0]
    cases Tr.get m d <;> rfl

theorem c_ahead {w : World} {bt bm : Nat} {m : Tr.T} {sz : Int} (p : Tr.Bytes) (hp : p.length ≤ 1000000) (ht : TreeAt A w bt bm m sz) :
    Calls P 74 #[pT bt, .string (S p)] w fun e w' => Ext none_ w w' ∧ match Tr.ahead m p with
      | none => e = .returned (.tuple #[.slice none 0 0, .int .i64 54])
      | some l => ∃ v, e = .returned (.tuple #[v, .int .i64 0]) ∧ Strs w.heap.size w' v l := by
  refine enter (l := [_, _]) (n := 35) Tryz.func74 rfl rfl rfl ?_
  refine W.seq ?_
  refine W.reg <| asg rfl rfl <| asg rfl rfl <| L.nil ?_
  refine N.th ?_
  refine W.seq ?_
  refine W.reg <| asg rfl rfl <| L.nil ?_
  refine N.th ?_
  refine W.seq ?_
  refine W.seq ?_
  refine W.reg <| mv rfl rfl <| call (vs := [_]) rfl rfl ok_Parent (c_Parent p (by omega) w) ?_
  rintro e w0 ⟨rfl, rfl⟩
  refine ⟨_, rfl, ?_⟩
  refine asg rfl rfl <| L.nil ?_
  refine N.th ?_
  refine W.block ?_
  refine W.loop (X := Tr.Bytes × List Tr.Bytes × Value) (fun x => [(7, .string (S x.1)), (6, x.2.2), (0, pT bt)])
    (fun x w' => x.1.length ≤ p.length ∧ x.2.1.length + x.1.length ≤ p.length ∧ Tr.ahead m p = (Tr.aheadF m p.length x.1).map (x.2.1 ++ ·) ∧ Strs w.heap.size w' x.2.2 x.2.1 ∧ Ext none_ w w') (fun x => x.1.length) (Sp.parent p, [], .slice none 0 0) ⟨rfl, rfl, rfl, trivial⟩
    ⟨parent_le p, by simpa using parent_le p, by simp [Tr.ahead], ⟨rfl, .inl ⟨rfl, rfl⟩⟩, Ext.refl _ _⟩ ?_
  rintro ⟨d, acc, v⟩ w1 ⟨hd, hacc, heq, hown, hx⟩
  dsimp only at hd hacc heq hown ⊢
  have ht1 := ht.ext0 hx
  refine W.seq ?_
  refine W.seq ?_
  refine W.reg <| mv rfl rfl <| neqS (a := d) (b := []) rfl rfl rfl <| L.nil ?_
  refine N.th ?_
  refine W.cond rfl (fun h => ?_) (fun h => ?_)
  · refine W.skip ?_
    refine N.th ?_
    have h0 : d ≠ [] := by simpa using h
    have hlt := parent_lt h0
    have hst := aheadF_step m hd h0
    refine W.seqM (fun E w2 => ∃ acc' v', E = [(7, .string (S d)), (6, v'), (0, pT bt)] ∧ acc'.length + d.length ≤ p.length + 1 ∧ Tr.ahead m p = (Tr.aheadF m p.length (Sp.parent d)).map (acc' ++ ·) ∧ Strs w.heap.size w2 v' acc' ∧ Ext none_ w w2) ?_ ?_   -- CUT
    · refine W.block ?_
      refine W.seq ?_
      obtain ⟨al, hm, hr⟩ := ht1.reps
      refine W.reg <| mv rfl rfl <| nilc rfl rfl <| fad rfl fl_Tree_0 rfl <| ld1 rfl ag_mNode rfl ht1.c0 <| mv rfl rfl <| lku rfl rfl u_mNode u_str ze_pNode rfl hm <| asg rfl rfl <| L.nil ?_
      refine N.th ?_
      refine W.block ?_
      refine W.seq ?_
      have hlook := hr.look d
      revert hlook
      generalize (aget al d).getD (.pointer none) = u
      cases hg : Tr.get m d with
      | none =>
        rintro rfl
        rw [hg] at hst
        simp only at hst
        refine W.reg <| mv rfl rfl <| eqlPN rfl u_pNode rfl <| asg rfl rfl <| L.nil ?_
        refine N.th ?_
        refine W.condT rfl ?_
        refine W.reg <| mv rfl rfl <| mv rfl rfl <| bls (vs := #[(0, .string (S d))]) (cs := #[.string (S d)]) (e := 9) rfl rfl (fun _ => by kernel_rfl) <|
          app rfl rfl rfl el_strs (own_ext hown (Ext.alloc none_ _ _) fun _ _ => id) (news := [.string (S d)]) rfl (fun j u hj => by
            cases j with
            | zero => cases hj; exact cell1 (heap_new _ _)
            | succ j => cases hj) (by simp [Value.oneCell']) (by omega) (by simp only [maxLen]; omega) (by have := hx.size; simp; omega) fun v' w2 hown2 hx2 _ _ => ?_
        refine asg rfl rfl <| L.nil ?_
        refine N.inb ?_
        refine N.inb ?_
        refine N.th (N.meet [(7, .string (S d)), (6, v'), (0, pT bt)] ⟨rfl, rfl, rfl, trivial⟩ ⟨acc ++ [d], v', rfl, ?_, ?_, ?_, ?_⟩)   -- MEET
        · simp; omega
        · rw [heq, hst]
          cases Tr.aheadF m p.length (Sp.parent d) with
          | none => rfl
          | some r => simp
        · simpa [Strs, encT] using hown2
        · refine (hx.trans (Ext.alloc none_ _ _)).trans' hx2 fun i hi hh => ?_
          obtain ⟨_, ⟨rfl, _⟩ | ⟨g, c, cu, rfl, hb, _⟩⟩ := hown
          · cases hh
          · have : g = i := by simpa [Value.ownBlock] using hh
            omega
      | some x =>
        rintro ⟨b, sl, rfl, hb, hav, hrow⟩
        rw [hg] at hst
        simp only at hst
        refine W.reg <| mv rfl rfl <| eqlPN rfl u_pNode rfl <| asg rfl rfl <| L.nil ?_
        refine N.th ?_
        refine W.condF rfl ?_
        refine W.seq ?_
        have hc0 : w1.cell? ⟨b, 0, none⟩ = some (.bool x.1) := cell_of hb rfl
        refine W.reg <| mv rfl rfl <| nilc rfl rfl <| fad rfl fl_Node_0 rfl <| ld1 rfl ag_bool rfl hc0 <| notB rfl rfl <| asg rfl rfl <| L.nil ?_
        refine N.th ?_
        refine W.cond rfl (fun h => ?_) (fun h => ?_)
        · refine W.seq ?_
          refine W.reg <| asg rfl rfl <| asg rfl rfl <| L.nil ?_
          refine N.th ?_
          refine W.ret ?_
          refine N.rinb <| N.rinb <| N.rth <| N.rth <| N.rinb <| N.rth ?_
          refine N.ret2 rfl rfl rfl ?_   -- RETURN
          have hx1 : x.1 = false := by simpa using h
          refine ⟨hx, ?_⟩
          rw [heq, hst, hx1]
          rfl
        · refine W.skip ?_
          refine N.inb ?_
          refine N.inb ?_
          have hx1 : x.1 = true := by simpa using h
          refine N.th (N.meet [(7, .string (S d)), (6, v), (0, pT bt)] ⟨rfl, rfl, rfl, trivial⟩ ⟨acc, v, rfl, ?_, ?_, hown, hx⟩)   -- MEET
          · omega
          · rw [heq, hst, hx1]; rfl
    rintro E w2 ⟨acc', v', rfl, hacc', heq', hown', hx'⟩
    refine W.reg <| mv rfl rfl <| call (vs := [_]) rfl rfl ok_Parent (c_Parent d (by omega) w2) ?_
    rintro e w3 ⟨rfl, rfl⟩
    refine ⟨_, rfl, ?_⟩
    refine asg rfl rfl <| L.nil ?_
    refine N.th (N.round (x := (Sp.parent d, acc', v')) ⟨rfl, rfl, rfl, trivial⟩ ⟨by dsimp only; omega, by dsimp only; omega, heq', hown', hx'⟩ ?_)   -- ROUND
    simpa using hlt
  · refine W.exit ?_
    refine N.xth ?_
    refine N.xth ?_
    refine N.xeq ?_
    refine N.th ?_
    refine W.seq ?_
    refine W.reg <| mv rfl rfl <| asg rfl rfl <| asg rfl rfl <| L.nil ?_
    refine N.th ?_
    refine W.ret ?_
    refine N.ret2 rfl rfl rfl ?_   -- RETURN
    have h0 : d = [] := by simpa using h
    refine ⟨hx, ?_⟩
    subst h0
    rw [heq, show Tr.aheadF m p.length [] = some [] by cases p.length <;> simp [Tr.aheadF]]
    exact ⟨v, rfl, by simpa using hown⟩
end Go.Proofs.YtmdpmpdlkaogdaaGreatDoor
