/- Walks: (*tree.Tree).put, Write, Append. -/
import Derived.Test.YtmdpmpdlkaogdaaGreatDoorTb
import Derived.Test.YtmdpmpdlkaogdaaGreatDoorTq
namespace Go.Proofs.YtmdpmpdlkaogdaaGreatDoor
open Go Go.RowKit Vc
variable {A : Nat → Prop}

theorem ok_put : FnOk P 65 := ⟨_, Tryz.func65, by kernel_rfl, by kernel_rfl⟩

theorem glue_len32 (l : List Sp.Bytes) (h : ∀ x ∈ l, x.length ≤ 32) : (Sp.glue l).length ≤ l.length * 33 := by
  induction l with
  | nil => simp [Sp.glue]
  | cons x l ih =>
    have hx := h x (by simp)
    have := ih fun y hy => h y (by simp [hy])
    cases l with
    | nil => simp [Sp.glue]; omega
    | cons y l => simp [Sp.glue] at this ⊢; omega
theorem walk_spec (stay : Nat) : ∀ (xs l : List Sp.Bytes), (∀ x ∈ l, x.length ≤ 32) → (∀ x ∈ (Sp.walk stay l xs).1, x.length ≤ 32) ∧ (Sp.walk stay l xs).1.length ≤ 12 := by
  intro xs
  induction xs with
  | nil =>
    intro l h
    unfold Sp.walk
    split
    · simp
    · exact ⟨h, by dsimp only; omega⟩
  | cons x xs ih =>
    intro l h
    unfold Sp.walk
    split
    · exact ih l h
    · split
      · exact ih l h
      · split
        · split
          · simp
          · exact ih _ fun y hy => h y (List.dropLast_subset l hy)
        · split
          · rename_i hp
            refine ih _ fun y hy => ?_
            rcases List.mem_append.1 hy with hy | hy
            · exact h y hy
            · simp at hy
              subst hy
              unfold Sp.part at hp
              split at hp
              · cases hp
              · omega
          · simp
theorem clean_len (s : Sp.Bytes) : (Sp.clean s).1.length ≤ 396 := by
  by_cases h : 200 < s.length
  · rw [clean_long h]; simp
  · by_cases hs : s.head? = some 47
    · rw [clean_abs h hs]; simp
    · rw [clean_walk h hs]
      split
      · have h := walk_spec 0 (Sp.split s) [] (by simp)
        have := glue_len32 _ h.1
        have := h.2
        dsimp only
        omega
      · simp

/-- A tree within its bounds. -/
structure Tree (A : Nat → Prop) (w : World) (bt bm : Nat) (m : Tr.T) : Prop where
  at_ : TreeAt A w bt bm m (Tr.size m)
  len : m.length ≤ 500
  bytes : Tr.size m ≤ 1048576
theorem Tree.ext0 {w w' : World} {bt bm : Nat} {m : Tr.T} (h : Tree A w bt bm m) (hx : Ext none_ w w') : Tree A w' bt bm m := ⟨h.at_.ext0 hx, h.len, h.bytes⟩
theorem old_le (m : Tr.T) (k : Tr.Bytes) : Tr.old m k ≤ Tr.size m := by
  unfold Tr.old
  cases h : Tr.get m k with
  | none => simp
  | some x =>
    have := Tr.get_mem h
    simp only [Option.getD_some]
    have h2 : x.2.length ∈ m.map (·.2.2.length) := List.mem_map.2 ⟨_, this, rfl⟩
    unfold Tr.size
    clear h this
    generalize m.map (·.2.2.length) = L at h2
    induction L with
    | nil => cases h2
    | cons a l ih =>
      simp only [List.sum_cons]
      rcases List.mem_cons.1 h2 with h | h
      · omega
      · have := ih h; omega

theorem put_err {m : Tr.T} {s b : Tr.Bytes} {more : Bool} (h : (Sp.clean s).2 ≠ 0) : Tr.put m s b more = (m, (Sp.clean s).2) := by unfold Tr.put; rw [if_pos h]
theorem put_dir {m : Tr.T} {s b : Tr.Bytes} {more : Bool} {x : Tr.Nd} (h : ¬ (Sp.clean s).2 ≠ 0) (hx : Tr.at_ m (Sp.clean s).1 = some x) (hd : x.1 = true) : Tr.put m s b more = (m, 54) := by
  unfold Tr.put; rw [if_neg h]; simp only [hx, hd, if_true]
theorem put_kind {m : Tr.T} {s b : Tr.Bytes} {more : Bool} (h : ¬ (Sp.clean s).2 ≠ 0) (ha : Tr.ahead m (Sp.clean s).1 = none) : Tr.put m s b more = (m, 54) := by
  unfold Tr.put; rw [if_neg h]
  dsimp only
  cases Tr.at_ m (Sp.clean s).1 with
  | none => simp only [ha]
  | some x => simp only [ha]; split <;> rfl
/-- What is to be written, and how many are new. -/
def putB (ox : Option Tr.Nd) (b : Tr.Bytes) (more : Bool) : Tr.Bytes := match ox with | some x => if more then x.2 ++ b else b | none => b
def putN (ox : Option Tr.Nd) (lack : List Tr.Bytes) : Nat := match ox with | some _ => 0 | none => lack.length + 1
theorem put_ok {m : Tr.T} {s b : Tr.Bytes} {more : Bool} {ox : Option Tr.Nd} {lack : List Tr.Bytes} (h : ¬ (Sp.clean s).2 ≠ 0) (hx : Tr.at_ m (Sp.clean s).1 = ox) (hd : ∀ x, ox = some x → x.1 = false) (ha : Tr.ahead m (Sp.clean s).1 = some lack) :
    (Sp.clean s).1 ≠ [] ∧ Tr.put m s b more = if 65536 < (putB ox b more).length ∨ Tr.room m (putN ox lack) (((putB ox b more).length : Int) - Tr.old m (Sp.clean s).1) = false then (m, 55) else (Tr.set (Tr.make m lack) (Sp.clean s).1 (false, putB ox b more), 0) := by
  have hp : (Sp.clean s).1 ≠ [] := by
    intro e
    rw [e] at hx
    simp [Tr.at_] at hx
    have := hd _ hx.symm
    cases this
  refine ⟨hp, ?_⟩
  have hg : Tr.get m (Sp.clean s).1 = ox := by unfold Tr.at_ at hx; rwa [if_neg hp] at hx
  unfold Tr.put
  rw [if_neg h]
  dsimp only
  cases ox with
  | none =>
    simp only [hx, ha, putB, putN, Tr.old, hg, Option.getD_none, List.length_nil, Int.natCast_add, Int.natCast_zero, Int.sub_zero]
    rfl
  | some x =>
    have hx1 := hd x rfl
    simp only [hx, ha, putB, putN, Tr.old, hg, Option.getD_some, hx1, Bool.false_eq_true, if_false]
    rfl

theorem c_put {w : World} {bt bm : Nat} {m : Tr.T} {bv : Value} {b : Tr.Bytes} (s : Tr.Bytes) (more : Bool) (ht : Tree A w bt bm m) (hb : BytA w bv b) (hbl : b.length ≤ 100000000) :
    Calls P 65 #[pT bt, .string (S s), bv, .bool more] w fun e w' => e = .returned (.int .i64 (Tr.put m s b more).2) ∧ TreeAt A w' bt bm (Tr.put m s b more).1 (Tr.size (Tr.put m s b more).1) ∧ Ext (Two bt bm) w w' := by
  have hm1 := ht.len
  have hm2 := ht.bytes
  refine enter (l := [_, _, _, _]) (n := 96) Tryz.func65 rfl rfl rfl ?_
  refine W.seq ?_
  refine W.reg <| asg rfl rfl <| L.nil ?_
  refine N.th ?_
  refine W.seq ?_
  refine W.reg <| mv rfl rfl <| call (vs := [_]) rfl rfl ok_Clean (c_Clean s w) ?_
  rintro e w1 ⟨rfl, hx1⟩
  refine ⟨_, rfl, ?_⟩
  have hcl := clean_len s
  refine mv rfl rfl <| ext rfl rfl rfl <| ext rfl rfl rfl <| asg rfl rfl <| asg rfl rfl <| L.nil ?_
  refine N.th ?_
  refine W.seq ?_
  refine W.seq ?_
  refine W.reg <| mv rfl rfl <| neqI rfl rfl rfl <| L.nil ?_
  refine N.th ?_
  refine W.cond rfl (fun h => ?_) (fun h => ?_)
  · refine W.seq ?_
    refine W.reg <| mv rfl rfl <| asg rfl rfl <| L.nil ?_
    refine N.th ?_
    refine W.ret ?_
    refine N.rth ?_
    refine N.ret1 rfl rfl ?_   -- RETURN
    have h0 : (Sp.clean s).2 ≠ 0 := by simpa using h
    rw [put_err h0]
    exact ⟨rfl, ht.at_.ext0 hx1, hx1.none⟩
  have h0 : ¬ (Sp.clean s).2 ≠ 0 := by simpa using h
  refine W.skip ?_
  refine N.th ?_
  refine W.seq ?_
  have hT1 := ht.at_.ext0 hx1
  refine W.reg <| mv rfl rfl <| mv rfl rfl <| call (vs := [_, _]) rfl rfl ok_at (c_at (Sp.clean s).1 hT1) ?_
  rintro e w2 ⟨v, rfl, hv, hx2⟩
  refine ⟨_, rfl, ?_⟩
  refine asg rfl rfl <| L.nil ?_
  refine N.th ?_
  obtain ⟨ox, hox⟩ : ∃ ox, Tr.at_ m (Sp.clean s).1 = ox := ⟨_, rfl⟩
  rw [hox] at hv
  refine W.seqM (fun E w' => E = [(0, pT bt), (1, .string (S (Sp.clean s).1)), (2, bv), (3, .bool more), (10, v)] ∧ w' = w2 ∧ ∀ x, ox = some x → x.1 = false) ?_ ?_   -- CUT
  · refine W.seq ?_
    cases ox with
    | none =>
      obtain rfl : v = .pointer none := hv
      refine W.reg <| mv rfl rfl <| neqPN rfl u_pNode rfl <| mv rfl rfl <| L.off rfl rfl rfl rfl rfl <| L.off rfl rfl rfl rfl rfl <| L.off rfl rfl rfl rfl rfl <| L.off rfl rfl rfl rfl rfl <| pickF rfl rfl rfl <| L.nil ?_
      refine N.th ?_
      refine W.condF rfl ?_
      refine W.skip ?_
      exact N.th (N.meet [(0, _), (1, _), (2, _), (3, _), (10, _)] ⟨rfl, rfl, rfl, rfl, rfl, trivial⟩ ⟨rfl, rfl, fun x h => by cases h⟩)   -- MEET
    | some x =>
      obtain ⟨nb, sl, rfl, hnb, hav, hrow⟩ := hv
      have hc0 : w2.cell? ⟨nb, 0, none⟩ = some (.bool x.1) := cell_of hnb rfl
      refine W.reg <| mv rfl rfl <| neqPN rfl u_pNode rfl <| mv rfl rfl <| L.on rfl rfl rfl <| mv rfl rfl <| L.on rfl rfl rfl <| nilc rfl rfl <| L.on rfl rfl rfl <| fad rfl fl_Node_0 rfl <| L.on rfl rfl rfl <| ld1 rfl ag_bool rfl hc0 <| pickT rfl rfl rfl <| L.nil ?_
      refine N.th ?_
      refine W.cond rfl (fun h => ?_) (fun h => ?_)
      · refine W.seq ?_
        refine W.reg <| asg rfl rfl <| L.nil ?_
        refine N.th ?_
        refine W.ret ?_
        refine N.rth ?_
        refine N.ret1 rfl rfl ?_   -- RETURN
        rw [put_dir h0 hox h]
        exact ⟨rfl, hT1.ext0 hx2, (hx1.trans hx2).none⟩
      · refine W.skip ?_
        exact N.th (N.meet [(0, _), (1, _), (2, _), (3, _), (10, _)] ⟨rfl, rfl, rfl, rfl, rfl, trivial⟩ ⟨rfl, rfl, fun y hy => by cases hy; exact h⟩)   -- MEET
  rintro E w2' ⟨rfl, rfl, hnd⟩
  have hT2 := hT1.ext0 hx2
  refine W.seq ?_
  refine W.reg <| mv rfl rfl <| mv rfl rfl <| call (vs := [_, _]) rfl rfl ok_ahead (c_ahead (Sp.clean s).1 (by omega) hT2) ?_
  rintro e w3 ⟨hx3, hah⟩
  cases hA : Tr.ahead m (Sp.clean s).1 with
  | none =>
    rw [hA] at hah
    obtain rfl := hah
    refine ⟨_, rfl, ?_⟩
    refine mv rfl rfl <| ext rfl rfl rfl <| ext rfl rfl rfl <| asg rfl rfl <| asg rfl rfl <| L.nil ?_
    refine N.th ?_
    refine W.seq ?_
    refine W.seq ?_
    refine W.reg <| mv rfl rfl <| neqI rfl rfl rfl <| L.nil ?_
    refine N.th ?_
    refine W.condT rfl ?_
    refine W.seq ?_
    refine W.reg <| mv rfl rfl <| asg rfl rfl <| L.nil ?_
    refine N.th ?_
    refine W.ret ?_
    refine N.rth ?_
    refine N.ret1 rfl rfl ?_   -- RETURN
    rw [put_kind h0 hA]
    exact ⟨rfl, hT2.ext0 hx3, (hx1.trans (hx2.trans hx3)).none⟩
  | some lack =>
  rw [hA] at hah
  obtain ⟨lv, rfl, hlv⟩ := hah
  refine ⟨_, rfl, ?_⟩
  obtain ⟨hp0, hput⟩ := put_ok (b := b) (more := more) h0 hox hnd hA
  have hsz := Tr.size_put hT2.nodup hA hp0
  have hlk := Tr.ahead_len hA
  refine mv rfl rfl <| ext rfl rfl rfl <| ext rfl rfl rfl <| asg rfl rfl <| asg rfl rfl <| L.nil ?_
  refine N.th ?_
  refine W.seq ?_
  refine W.seq ?_
  refine W.reg <| mv rfl rfl <| neqI rfl rfl rfl <| L.nil ?_
  refine N.th ?_
  refine W.condF rfl ?_
  refine W.skip ?_
  refine N.th ?_
  refine W.seq ?_
  obtain ⟨la, lc, rfl, hlc, hlm⟩ := own_slice hlv
  refine W.reg <| mv rfl rfl <| lenV rfl u_strs rfl <| addI (c := (lack.length : Int) + 1) rfl rfl rfl (w64 (by omega) (by omega)) <| asg rfl rfl <| asg rfl rfl <| L.nil ?_
  refine N.th ?_
  have hT3 := hT2.ext0 hx3
  have hb3 := ((hb.ext0 hx1).ext0 hx2).ext0 hx3
  have hold := old_le m (Sp.clean s).1
  have hx03 := hx1.trans (hx2.trans hx3)
  refine W.seqM (fun E w' => ∃ bv', E = [(0, pT bt), (1, .string (S (Sp.clean s).1)), (2, bv'), (11, .slice la lack.length lc), (12, .int .i64 (Tr.old m (Sp.clean s).1)), (13, .int .i64 (putN ox lack))] ∧ BytA w' bv' (putB ox b more) ∧ (putB ox b more).length ≤ 101048576 ∧ Ext none_ w3 w') ?_ ?_   -- CUT
  · refine W.seq ?_
    cases ox with
    | none =>
      obtain rfl : v = .pointer none := hv
      refine W.reg <| mv rfl rfl <| neqPN rfl u_pNode rfl <| L.nil ?_
      refine N.th ?_
      refine W.condF rfl ?_
      refine W.skip ?_
      refine N.th (N.meet [(0, _), (1, _), (2, bv), (11, _), (12, .int .i64 0), (13, .int .i64 ((lack.length : Int) + 1))] ⟨rfl, rfl, rfl, rfl, rfl, rfl, trivial⟩ ⟨bv, ?_, hb3, by simp [putB]; omega, Ext.refl _ _⟩)   -- MEET
      have hg : Tr.get m (Sp.clean s).1 = none := by unfold Tr.at_ at hox; rwa [if_neg hp0] at hox
      simp [putN, Tr.old, hg]
    | some x =>
      obtain ⟨nb, sl, rfl, hnb, hav, hrow⟩ := hv
      have hg : Tr.get m (Sp.clean s).1 = some x := by unfold Tr.at_ at hox; rwa [if_neg hp0] at hox
      have hold2 : Tr.old m (Sp.clean s).1 = x.2.length := by simp [Tr.old, hg]
      have hnb3 := hx3.obj hnb id
      have hrow3 := hrow.ext0 hx3
      have hc1 : w3.cell? ⟨nb, 1, none⟩ = some sl := cell_of hnb3 rfl
      obtain ⟨-, sa, sc, rfl, hsn, hsm, -, -⟩ := id hrow3
      refine W.reg <| mv rfl rfl <| neqPN rfl u_pNode rfl <| L.nil ?_
      refine N.th ?_
      refine W.condT rfl ?_
      refine W.seq ?_
      refine W.reg <| mv rfl rfl <| nilc rfl rfl <| fad rfl fl_Node_1 rfl <| ld1 rfl ag_bytes rfl hc1 <| lenV rfl u_bytes rfl <| asg rfl rfl <| asg rfl rfl <| L.nil ?_
      refine N.th ?_
      refine W.seq ?_
      refine W.reg <| mv rfl rfl <| L.nil ?_
      refine N.th ?_
      refine W.cond rfl (fun h => ?_) (fun h => ?_)
      · subst h
        refine W.reg <| mv rfl rfl <| nilc rfl rfl <| fad rfl fl_Node_1 rfl <| ld1 rfl ag_bytes rfl hc1 <| mv rfl rfl <| bls (vs := #[(0, .slice sa x.2.length sc), (1, bv)]) (cs := #[.slice sa x.2.length sc, bv]) (e := 25) rfl rfl (fun w => ?_) <|
          call (vs := [_]) rfl rfl ok_Concat (c_Concat (vs := [(.slice sa x.2.length sc, x.2), (bv, b)]) (fun j p hj => ?_) (fun p hp => ?_) (by simp) (by simp [total]; omega) (by simp)) ?_
        · obtain ⟨ba, bc, rfl, -, -, -, -⟩ := id hb3
          kernel_rfl
        · match j, hj with
          | 0, hj => cases hj; exact cell_of (heap_new _ _) rfl
          | 1, hj => cases hj; exact cell_of (heap_new _ _) rfl
          | j + 2, hj => simp at hj
        · simp only [List.mem_cons, List.not_mem_nil, or_false] at hp
          rcases hp with rfl | rfl
          · exact hrow3.arg.ext0 (Ext.alloc _ _ _)
          · exact hb3.ext0 (Ext.alloc _ _ _)
        rintro e w4 ⟨bv', rfl, hbv', hx4⟩
        refine ⟨_, rfl, ?_⟩
        refine asg rfl rfl <| L.nil ?_
        refine N.th (N.meet [(0, _), (1, _), (2, bv'), (11, _), (12, .int .i64 x.2.length), (13, .int .i64 0)] ⟨rfl, rfl, rfl, rfl, rfl, rfl, trivial⟩ ⟨bv', ?_, ?_, ?_, (Ext.alloc _ _ _).trans hx4⟩)   -- MEET
        · simp [putN, hold2]
        · simpa [putB, total, BytA] using (Row.own hbv').arg
        · simp [putB]; omega
      · subst h
        refine W.skip ?_
        refine N.th (N.meet [(0, _), (1, _), (2, bv), (11, _), (12, .int .i64 x.2.length), (13, .int .i64 0)] ⟨rfl, rfl, rfl, rfl, rfl, rfl, trivial⟩ ⟨bv, ?_, hb3, by simp [putB]; omega, Ext.refl _ _⟩)   -- MEET
        simp [putN, hold2]
  rintro E w4 ⟨bv', rfl, hbv', hbl', hx4⟩
  rw [hput]
  generalize putB ox b more = b' at *
  generalize putN ox lack = fl at *
  have hT4 := hT3.ext0 hx4
  have hlv4 := own_ext hlv hx4 (fun _ _ => id)
  obtain ⟨sa, sc, rfl, hsn, hsm, -, -⟩ := id hbv'
  refine W.seqM (fun E w' => E = [(0, pT bt), (1, .string (S (Sp.clean s).1)), (2, .slice sa b'.length sc), (11, .slice la lack.length lc), (12, .int .i64 (Tr.old m (Sp.clean s).1))] ∧ w' = w4 ∧ b'.length ≤ 65536 ∧ Tr.room m fl ((b'.length : Int) - Tr.old m (Sp.clean s).1) = true) ?_ ?_   -- CUT
  · refine W.seq ?_
    refine W.reg <| mv rfl rfl <| lenV rfl u_bytes rfl <| gtrI rfl rfl rfl <| ?_
    by_cases hbig : 65536 < b'.length
    · refine Vc.bt (by simp; omega) ?_
      refine mv rfl rfl <| L.off rfl rfl rfl rfl rfl <| L.off rfl rfl rfl rfl rfl <| L.off rfl rfl rfl rfl rfl <| L.off rfl rfl rfl rfl rfl <| L.off rfl rfl rfl rfl rfl <| L.off rfl rfl rfl rfl rfl <| L.off rfl rfl rfl rfl rfl <| L.off rfl rfl rfl rfl rfl <| pickT rfl rfl rfl <| L.nil ?_
      refine N.th ?_
      refine W.condT rfl ?_
      refine W.seq ?_
      refine W.reg <| asg rfl rfl <| L.nil ?_
      refine N.th ?_
      refine W.ret ?_
      refine N.rth ?_
      refine N.ret1 rfl rfl ?_   -- RETURN
      rw [if_pos (.inl hbig)]
      exact ⟨rfl, hT4, (hx03.trans hx4).none⟩
    · refine Vc.bf (by simp; omega) ?_
      refine mv rfl rfl <| L.on rfl rfl rfl <| mv rfl rfl <| L.on rfl rfl rfl <| mv rfl rfl <| L.on rfl rfl rfl <| mv rfl rfl <| L.on rfl rfl rfl <| lenV rfl u_bytes rfl <| L.on rfl rfl rfl <| mv rfl rfl <| L.on rfl rfl rfl <| subI (c := (b'.length : Int) - Tr.old m (Sp.clean s).1) rfl rfl rfl (w64 (by omega) (by omega)) <|
        L.on rfl rfl rfl <| call (vs := [_, _, _]) rfl rfl ok_room (c_room hT4 (by omega) (by omega) (by omega)) ?_
      rintro e w5 ⟨rfl, rfl⟩
      refine ⟨_, rfl, ?_⟩
      refine L.on rfl rfl rfl <| notB rfl rfl <| pickF rfl rfl rfl <| L.nil ?_
      refine N.th ?_
      refine W.cond rfl (fun h => ?_) (fun h => ?_)
      · refine W.seq ?_
        refine W.reg <| asg rfl rfl <| L.nil ?_
        refine N.th ?_
        refine W.ret ?_
        refine N.rth ?_
        refine N.ret1 rfl rfl ?_   -- RETURN
        rw [if_pos (.inr (by unfold Tr.room; simpa only [Bool.not_eq_true'] using h))]
        exact ⟨rfl, hT4, (hx03.trans hx4).none⟩
      · refine W.skip ?_
        refine N.th (N.meet [(0, _), (1, _), (2, _), (11, _), (12, _)] ⟨rfl, rfl, rfl, rfl, rfl, trivial⟩ ⟨rfl, rfl, by omega, ?_⟩)   -- MEET
        unfold Tr.room
        simpa only [Bool.not_eq_false'] using h
  rintro E w4' ⟨rfl, rfl, hbs, hrm⟩
  rw [if_neg (by rw [hrm]; simp; omega)]
  have hrm2 : (b'.length : Int) - Tr.old m (Sp.clean s).1 ≤ 1048576 - Tr.size m := by
    unfold Tr.room at hrm
    simp only [Bool.and_eq_true, decide_eq_true_eq] at hrm
    exact hrm.2
  refine W.seq ?_
  refine W.reg <| mv rfl rfl <| mv rfl rfl <| call (vs := [_, _]) rfl rfl ok_make (c_make lack _ hT4 (Row.own hlv4)) ?_
  rintro e w5 ⟨rfl, hT5, hx5⟩
  refine ⟨_, rfl, ?_⟩
  refine L.nil ?_
  refine N.th ?_
  refine W.seq ?_
  have hb5 : BytA w5 (.slice sa b'.length sc) b' := hbv'.two hT4 hx5 (calmB _)
  refine W.draw [] true (fun w' => Ext none_ w5.drew w') [0, 1, 2, 3, 4, 5, 6, 7, 8, 9] rfl rfl (by kernel_rfl) (Ext.refl _ _) ?_   -- held
  have hT5d := hT5.ext0 (Ext.drew none_ w5)
  refine mv rfl rfl <| nilc rfl rfl <| fad rfl fl_Tree_0 rfl <| ldK rfl ag_mNode rfl (fun w' h => (hT5d.ext0 h).c0) <| mv rfl rfl <| mv rfl rfl <| callH (vs := [_]) rfl rfl ok_Clone (c_Clone (hb5.ext0 (Ext.drew none_ w5)) (by omega)) ?_
  rintro e w6 ⟨cv, rfl, hcv, hx6, -⟩
  refine ⟨_, rfl, .inr fun h => h.trans hx6, ?_⟩
  obtain ⟨ca, cc, rfl, -, -⟩ := own_slice hcv
  refine bld (vs := #[(1, .slice ca b'.length cc)]) (v := .agg #[.bool false, .slice ca b'.length cc]) rfl rfl (fun _ => by kernel_rfl) <| box rfl rfl (hS := .inr fun h => h.trans (Ext.alloc _ _ _)) <| ?_
  have hT6 := hT5d.ext0 hx6
  obtain ⟨al, hm6, hr6⟩ := hT6.reps
  refine mupY rfl rfl rfl u_mNode u_str (hm6.ext (Ext.alloc none_ _ _) id) fun w7 hm7 hx7 hs7 => ⟨.inl ⟨rfl, rfl⟩, ?_⟩
  have hT7 : TreeAt A w7 bt bm (Tr.set (Tr.make m lack) (Sp.clean s).1 (false, b')) (Tr.size m) :=
    TreeAt.mapSet (x := (false, b')) (hm6.ext (Ext.alloc none_ _ _) id) (hr6.ext (Ext.alloc none_ _ _) (Kd.none _)) ((heap_alloc _ _ hT6.lt.1).trans hT6.cell) ⟨_, _, rfl, heap_new _ _, (fun k hk hA => by have h1 := own_new hcv k hk; have h2 := hT5d.low k hA; omega), (Row.own hcv).ext0 (Ext.alloc none_ _ _)⟩ hm7 hx7 (hT6.lowAt (by simp))
  refine L.nilH ?_
  refine N.th ?_
  refine W.seq ?_
  have hs := hsz (false, b')
  refine W.reg <| mv rfl rfl <| nilc rfl rfl <| fad rfl fl_Tree_1 rfl <| ld1 rfl ag_int rfl hT7.c1 <| mv rfl rfl <| lenV rfl u_bytes rfl <| mv rfl rfl <| subI (c := (b'.length : Int) - Tr.old m (Sp.clean s).1) rfl rfl rfl (w64 (by omega) (by omega)) <|
    addI (c := (Tr.size (Tr.set (Tr.make m lack) (Sp.clean s).1 (false, b')) : Int)) rfl rfl rfl (by rw [w64 (by omega) (by omega)]; dsimp only at hs; omega) <| nilc rfl rfl <| fad rfl fl_Tree_1 rfl <| st1 rfl rfl sz_int rfl hT7.cell rfl <| L.nil ?_
  refine N.th ?_
  refine W.seq ?_
  refine W.reg <| asg rfl rfl <| L.nil ?_
  refine N.th ?_
  refine W.ret ?_
  refine N.ret1 rfl rfl ?_   -- RETURN
  have hxs : Ext (Two bt bm) w7 (w7.setCell ⟨bt, 0 + 1, none⟩ (.int .i64 (Tr.size (Tr.set (Tr.make m lack) (Sp.clean s).1 (false, b')) : Int))) := Ext.setCell _ (fun _ => .inl rfl) _
  refine ⟨rfl, ⟨?_, ?_, hT7.lowAt hxs.size⟩, ?_⟩
  · rw [setCell_heap hT7.cell]; rfl
  · obtain ⟨al7, hm8, hr8⟩ := hT7.reps
    refine ⟨al7, hm8.ext (Ext.setCell (S := fun k => k = bt) _ (fun _ => rfl) _) (fun e => hT7.ne e.symm), hr8.ext hxs hT7.kd⟩
  · exact (hx03.trans hx4).none.trans (hx5.trans ((((Ext.drew _ _).trans (hx6.trans (Ext.alloc none_ _ _))).none).trans ((hx7.mono fun _ _ h => .inr h).trans hxs)))
end Go.Proofs.YtmdpmpdlkaogdaaGreatDoor
