/- Walks: (*tree.Tree).Write, Append, Read, Mkdir, Exists, Size. -/
import Derived.Test.YtmdpmpdlkaogdaaGreatDoorTc
namespace Go.Proofs.YtmdpmpdlkaogdaaGreatDoor
open Go Go.RowKit Vc
variable {A : Nat → Prop}

theorem ok_Write : FnOk P 29 := ⟨_, Tryz.func29, by kernel_rfl, by kernel_rfl⟩
theorem ok_Append : FnOk P 33 := ⟨_, Tryz.func33, by kernel_rfl, by kernel_rfl⟩
theorem ok_Read : FnOk P 40 := ⟨_, Tryz.func40, by kernel_rfl, by kernel_rfl⟩
theorem ok_Mkdir : FnOk P 37 := ⟨_, Tryz.func37, by kernel_rfl, by kernel_rfl⟩
theorem ok_Exists : FnOk P 36 := ⟨_, Tryz.func36, by kernel_rfl, by kernel_rfl⟩
theorem ok_Size : FnOk P 32 := ⟨_, Tryz.func32, by kernel_rfl, by kernel_rfl⟩

/-- What a method that turns a tree leaves. -/
abbrev Does (A : Nat → Prop) (bt bm : Nat) (w : World) (r : Tr.T × Int) (e : Ending) (w' : World) : Prop := e = .returned (.int .i64 r.2) ∧ TreeAt A w' bt bm r.1 (Tr.size r.1) ∧ Ext (Two bt bm) w w'

theorem c_Write {w : World} {bt bm : Nat} {m : Tr.T} {bv : Value} {b : Tr.Bytes} (s : Tr.Bytes) (ht : Tree A w bt bm m) (hb : BytA w bv b) (hbl : b.length ≤ 100000000) :
    Calls P 29 #[pT bt, .string (S s), bv] w (Does A bt bm w (Tr.write m s b)) := by
  refine enter (l := [_, _, _]) (n := 11) Tryz.func29 rfl rfl rfl ?_
  refine W.seq ?_
  refine W.reg <| asg rfl rfl <| L.nil ?_
  refine N.th ?_
  refine W.seq ?_
  refine W.reg <| mv rfl rfl <| mv rfl rfl <| mv rfl rfl <| call (vs := [_, _, _, _]) rfl rfl ok_put (c_put s false ht hb hbl) ?_
  rintro e w1 ⟨rfl, h1, h2⟩
  refine ⟨_, rfl, ?_⟩
  refine asg rfl rfl <| L.nil ?_
  refine N.th ?_
  refine W.ret ?_
  refine N.ret1 rfl rfl ?_   -- RETURN
  exact ⟨rfl, h1, h2⟩

theorem c_Append {w : World} {bt bm : Nat} {m : Tr.T} {bv : Value} {b : Tr.Bytes} (s : Tr.Bytes) (ht : Tree A w bt bm m) (hb : BytA w bv b) (hbl : b.length ≤ 100000000) :
    Calls P 33 #[pT bt, .string (S s), bv] w (Does A bt bm w (Tr.append m s b)) := by
  refine enter (l := [_, _, _]) (n := 16) Tryz.func33 rfl rfl rfl ?_
  refine W.seq ?_
  refine W.reg <| asg rfl rfl <| L.nil ?_
  refine N.th ?_
  obtain ⟨b', hb'⟩ : ∃ b', b' = (if 65536 < b.length then b.take 65537 else b) := ⟨_, rfl⟩
  unfold Tr.append
  rw [← hb']
  refine W.seqM (fun E w' => ∃ bv', E = [(0, pT bt), (1, .string (S s)), (2, bv')] ∧ w' = w ∧ BytA w bv' b' ∧ b'.length ≤ 100000000) ?_ ?_   -- CUT
  · refine W.seq ?_
    obtain ⟨a, c, rfl, hn, hmx, -, -⟩ := id hb
    refine W.reg <| mv rfl rfl <| lenV rfl u_bytes rfl <| gtrI rfl rfl rfl <| L.nil ?_
    refine N.th ?_
    refine W.cond rfl (fun h => ?_) (fun h => ?_)
    · have h1 : 65536 < b.length := by simp at h; omega
      refine W.reg <| mv rfl rfl <| slVh rfl rfl u_bytes el_bytes.szB rfl (by omega) (by omega) <| asg rfl rfl <| L.nil ?_
      refine N.th (N.meet [(0, _), (1, _), (2, _)] ⟨rfl, rfl, rfl, trivial⟩ ⟨_, rfl, rfl, ?_, ?_⟩)   -- MEET
      · rw [hb', if_pos h1]
        have hl : (b.take 65537).length = 65537 := by rw [List.length_take]; omega
        have : encB (b.take 65537) = (encB b).take 65537 := by simp [encB, List.map_take]
        unfold BytA
        rw [hl, this]
        exact hb.take (by omega)
      · rw [hb', if_pos h1, List.length_take]; omega
    · have h1 : ¬ 65536 < b.length := by simp at h; omega
      refine W.skip ?_
      refine N.th (N.meet [(0, _), (1, _), (2, _)] ⟨rfl, rfl, rfl, trivial⟩ ⟨_, rfl, rfl, ?_, ?_⟩)   -- MEET
      · rw [hb', if_neg h1]; exact hb
      · rw [hb', if_neg h1]; exact hbl
  rintro E w' ⟨bv', rfl, rfl, hr, hl⟩
  refine W.seq ?_
  refine W.reg <| mv rfl rfl <| mv rfl rfl <| mv rfl rfl <| call (vs := [_, _, _, _]) rfl rfl ok_put (c_put s true ht hr hl) ?_
  rintro e w1 ⟨rfl, h1, h2⟩
  refine ⟨_, rfl, ?_⟩
  refine asg rfl rfl <| L.nil ?_
  refine N.th ?_
  refine W.ret ?_
  refine N.ret1 rfl rfl ?_   -- RETURN
  exact ⟨rfl, h1, h2⟩

theorem c_Size {w : World} {bt bm : Nat} {m : Tr.T} {sz : Int} (ht : TreeAt A w bt bm m sz) : Calls P 32 #[pT bt] w fun e w' => e = .returned (.int .i64 sz) ∧ w = w' := by
  refine enter (l := [_]) (n := 7) Tryz.func32 rfl rfl rfl ?_
  refine W.seq ?_
  refine W.reg <| asg rfl rfl <| L.nil ?_
  refine N.th ?_
  refine W.seq ?_
  refine W.reg <| mv rfl rfl <| nilc rfl rfl <| fad rfl fl_Tree_1 rfl <| ld1 rfl ag_int rfl ht.c1 <| asg rfl rfl <| L.nil ?_
  refine N.th ?_
  refine W.ret ?_
  refine N.ret1 rfl rfl ?_   -- RETURN
  exact ⟨rfl, rfl⟩

theorem c_Exists {w : World} {bt bm : Nat} {m : Tr.T} {sz : Int} (s : Tr.Bytes) (ht : TreeAt A w bt bm m sz) : Calls P 36 #[pT bt, .string (S s)] w fun e w' => e = .returned (.bool (Tr.exists_ m s)) ∧ Ext none_ w w' := by
  refine enter (l := [_, _]) (n := 19) Tryz.func36 rfl rfl rfl ?_
  refine W.seq ?_
  refine W.reg <| asg rfl rfl <| L.nil ?_
  refine N.th ?_
  refine W.seq ?_
  refine W.reg <| mv rfl rfl <| call (vs := [_]) rfl rfl ok_Clean (c_Clean s w) ?_
  rintro e w1 ⟨rfl, hx1⟩
  refine ⟨_, rfl, ?_⟩
  refine mv rfl rfl <| ext rfl rfl rfl <| ext rfl rfl rfl <| asg rfl rfl <| asg rfl rfl <| L.nil ?_
  refine N.th ?_
  refine W.seq ?_
  refine W.reg <| mv rfl rfl <| eqlI rfl rfl rfl <| ?_
  by_cases h : (Sp.clean s).2 = 0
  · refine Vc.bt (by simpa using h) ?_
    refine mv rfl rfl <| L.on rfl rfl rfl <| mv rfl rfl <| L.on rfl rfl rfl <| mv rfl rfl <| L.on rfl rfl rfl <| call (vs := [_, _]) rfl rfl ok_at (c_at (Sp.clean s).1 (ht.ext0 hx1)) ?_
    rintro e w2 ⟨v, rfl, hv, hx2⟩
    refine ⟨_, rfl, ?_⟩
    have hv2 : ∃ p, v = .pointer p ∧ (!p.isNone) = Tr.exists_ m s := by
      unfold Tr.exists_
      cases ho : Tr.at_ m (Sp.clean s).1 with
      | none => rw [ho] at hv; obtain rfl := hv; exact ⟨_, rfl, by simp⟩
      | some x =>
        rw [ho] at hv
        obtain ⟨b, sl, rfl, -⟩ := hv
        exact ⟨_, rfl, by simp [h]⟩
    obtain ⟨p, rfl, hp⟩ := hv2
    refine L.on rfl rfl rfl <| neqPN rfl u_pNode rfl <| pickT rfl rfl rfl <| asg rfl rfl <| L.nil ?_
    refine N.th ?_
    refine W.ret ?_
    refine N.ret1 rfl rfl ?_   -- RETURN
    exact ⟨by rw [hp], hx1.trans hx2⟩
  · refine Vc.bf (by simpa using h) ?_
    refine mv rfl rfl <| L.off rfl rfl rfl rfl rfl <| L.off rfl rfl rfl rfl rfl <| L.off rfl rfl rfl rfl rfl <| L.off rfl rfl rfl rfl rfl <| pickF rfl rfl rfl <| asg rfl rfl <| L.nil ?_
    refine N.th ?_
    refine W.ret ?_
    refine N.ret1 rfl rfl ?_   -- RETURN
    refine ⟨?_, hx1⟩
    unfold Tr.exists_
    rw [show ((Sp.clean s).2 == 0) = false by simpa using h]; rfl

theorem c_Mkdir {w : World} {bt bm : Nat} {m : Tr.T} (s : Tr.Bytes) (ht : Tree A w bt bm m) :
    Calls P 37 #[pT bt, .string (S s)] w (Does A bt bm w (Tr.mkdir m s)) := by
  have hm1 := ht.len
  have hm2 := ht.bytes
  refine enter (l := [_, _]) (n := 46) Tryz.func37 rfl rfl rfl ?_
  refine W.seq ?_
  refine W.reg <| asg rfl rfl <| L.nil ?_
  refine N.th ?_
  refine W.seq ?_
  refine W.reg <| mv rfl rfl <| call (vs := [_]) rfl rfl ok_Clean (c_Clean s w) ?_
  rintro e w1 ⟨rfl, hx1⟩
  refine ⟨_, rfl, ?_⟩
  have hcl := clean_len s
  refine mv rfl rfl <| ext rfl rfl rfl <| ext rfl rfl rfl <| asg rfl rfl <| asg rfl rfl <| L.nil ?_
  refine N.th ?_
  refine W.seq ?_
  refine W.seq ?_
  refine W.reg <| mv rfl rfl <| neqI rfl rfl rfl <| L.nil ?_
  refine N.th ?_
  refine W.cond rfl (fun h => ?_) (fun h => ?_)
  · refine W.seq ?_
    refine W.reg <| mv rfl rfl <| asg rfl rfl <| L.nil ?_
    refine N.th ?_
    refine W.ret ?_
    refine N.rth ?_
    refine N.ret1 rfl rfl ?_   -- RETURN
    have h0 : (Sp.clean s).2 ≠ 0 := by simpa using h
    unfold Tr.mkdir; rw [if_pos h0]
    exact ⟨rfl, ht.at_.ext0 hx1, hx1.none⟩
  have h0 : ¬ (Sp.clean s).2 ≠ 0 := by simpa using h
  refine W.skip ?_
  refine N.th ?_
  have hT1 := ht.at_.ext0 hx1
  unfold Tr.mkdir; rw [if_neg h0]
  dsimp only
  refine W.seq ?_
  refine W.seq ?_
  refine W.reg <| mv rfl rfl <| mv rfl rfl <| call (vs := [_, _]) rfl rfl ok_at (c_at (Sp.clean s).1 hT1) ?_
  rintro e w2 ⟨v, rfl, hv, hx2⟩
  refine ⟨_, rfl, ?_⟩
  refine asg rfl rfl <| L.nil ?_
  refine N.th ?_
  refine W.seq ?_
  cases hox : Tr.at_ m (Sp.clean s).1 with
  | some x =>
    rw [hox] at hv
    obtain ⟨nb, sl, rfl, hnb, hav, hrow⟩ := hv
    have hc0 : w2.cell? ⟨nb, 0, none⟩ = some (.bool x.1) := cell_of hnb rfl
    refine W.reg <| mv rfl rfl <| neqPN rfl u_pNode rfl <| L.nil ?_
    refine N.th ?_
    refine W.condT rfl ?_
    refine W.seq ?_
    refine W.seq ?_
    refine W.reg <| mv rfl rfl <| nilc rfl rfl <| fad rfl fl_Node_0 rfl <| ld1 rfl ag_bool rfl hc0 <| L.nil ?_
    refine N.th ?_
    refine W.cond rfl (fun h => ?_) (fun h => ?_)
    · refine W.seq ?_
      refine W.reg <| asg rfl rfl <| L.nil ?_
      refine N.th ?_
      refine W.ret ?_
      refine N.rth <| N.rth ?_
      refine N.ret1 rfl rfl ?_   -- RETURN
      simp only [h, if_true]
      exact ⟨rfl, hT1.ext0 hx2, (hx1.trans hx2).none⟩
    · refine W.skip ?_
      refine N.th ?_
      refine W.seq ?_
      refine W.reg <| asg rfl rfl <| L.nil ?_
      refine N.th ?_
      refine W.ret ?_
      refine N.rth ?_
      refine N.ret1 rfl rfl ?_   -- RETURN
      simp only [h, Bool.false_eq_true, if_false]
      exact ⟨rfl, hT1.ext0 hx2, (hx1.trans hx2).none⟩
  | none =>
  rw [hox] at hv
  obtain rfl : v = .pointer none := hv
  have hp0 : (Sp.clean s).1 ≠ [] := by intro e; rw [e] at hox; simp [Tr.at_] at hox
  have hg : Tr.get m (Sp.clean s).1 = none := by unfold Tr.at_ at hox; rwa [if_neg hp0] at hox
  refine W.reg <| mv rfl rfl <| neqPN rfl u_pNode rfl <| L.nil ?_
  refine N.th ?_
  refine W.condF rfl ?_
  refine W.skip ?_
  refine N.th ?_
  refine W.seq ?_
  have hT2 := hT1.ext0 hx2
  refine W.reg <| mv rfl rfl <| mv rfl rfl <| call (vs := [_, _]) rfl rfl ok_ahead (c_ahead (Sp.clean s).1 (by omega) hT2) ?_
  rintro e w3 ⟨hx3, hah⟩
  cases hA : Tr.ahead m (Sp.clean s).1 with
  | none =>
    rw [hA] at hah
    obtain rfl := hah
    refine ⟨_, rfl, ?_⟩
    refine mv rfl rfl <| ext rfl rfl rfl <| ext rfl rfl rfl <| asg rfl rfl <| asg rfl rfl <| L.nil ?_
    refine N.th ?_
    refine W.seq ?_
    refine W.seq ?_
    refine W.reg <| mv rfl rfl <| neqI rfl rfl rfl <| L.nil ?_
    refine N.th ?_
    refine W.condT rfl ?_
    refine W.seq ?_
    refine W.reg <| mv rfl rfl <| asg rfl rfl <| L.nil ?_
    refine N.th ?_
    refine W.ret ?_
    refine N.rth ?_
    refine N.ret1 rfl rfl ?_   -- RETURN
    exact ⟨rfl, hT2.ext0 hx3, (hx1.trans (hx2.trans hx3)).none⟩
  | some lack =>
  rw [hA] at hah
  obtain ⟨lv, rfl, hlv⟩ := hah
  refine ⟨_, rfl, ?_⟩
  have hlk := Tr.ahead_len hA
  refine mv rfl rfl <| ext rfl rfl rfl <| ext rfl rfl rfl <| asg rfl rfl <| asg rfl rfl <| L.nil ?_
  refine N.th ?_
  refine W.seq ?_
  refine W.seq ?_
  refine W.reg <| mv rfl rfl <| neqI rfl rfl rfl <| L.nil ?_
  refine N.th ?_
  refine W.condF rfl ?_
  refine W.skip ?_
  refine N.th ?_
  refine W.seq ?_
  refine W.seq ?_
  have hT3 := hT2.ext0 hx3
  obtain ⟨la, lc, rfl, hlc, hlm⟩ := own_slice hlv
  refine W.reg <| mv rfl rfl <| mv rfl rfl <| lenV rfl u_strs rfl <| addI (c := (lack.length : Int) + 1) rfl rfl rfl (w64 (by omega) (by omega)) <| call (vs := [_, _, _]) rfl rfl ok_room (c_room hT3 (by omega) (by omega) (by omega)) ?_
  rintro e w4 ⟨rfl, rfl⟩
  refine ⟨_, rfl, ?_⟩
  refine notB rfl rfl <| L.nil ?_
  refine N.th ?_
  refine W.cond rfl (fun h => ?_) (fun h => ?_)
  · refine W.seq ?_
    refine W.reg <| asg rfl rfl <| L.nil ?_
    refine N.th ?_
    refine W.ret ?_
    refine N.rth ?_
    refine N.ret1 rfl rfl ?_   -- RETURN
    dsimp only
    rw [if_pos (by unfold Tr.room; simpa only [Bool.not_eq_true'] using h)]
    exact ⟨rfl, hT3, (hx1.trans (hx2.trans hx3)).none⟩
  · refine W.skip ?_
    refine N.th ?_
    refine W.seq ?_
    refine W.reg <| mv rfl rfl <| mv rfl rfl <| mv rfl rfl <| bls (vs := #[(0, .string (S (Sp.clean s).1))]) (cs := #[.string (S (Sp.clean s).1)]) (e := 9) rfl rfl (fun _ => by kernel_rfl) <|
      app rfl rfl rfl el_strs (own_ext hlv (Ext.alloc none_ _ _) fun _ _ => id) (news := [.string (S (Sp.clean s).1)]) rfl (fun j u hj => by
            cases j with
            | zero => cases hj; exact cell1 (heap_new _ _)
            | succ j => cases hj) (by simp [Value.oneCell']) (by omega) (by simp only [maxLen]; omega) (by have := hx3.size; simp; omega) fun v' w5 hown5 hx5 _ _ => ?_
    have hx35 : Ext none_ w2 w5 := (hx3.trans (Ext.alloc none_ _ _)).trans' hx5 fun i hi hh => by have := own_new hlv i hh; omega
    have hT5 := hT2.ext0 hx35
    refine call (vs := [_, _]) rfl rfl ok_make (c_make (lack ++ [(Sp.clean s).1]) _ hT5 (Row.own (by simpa [encT] using hown5))) ?_
    rintro e w6 ⟨rfl, hT6, hx6⟩
    refine ⟨_, rfl, ?_⟩
    refine L.nil ?_
    refine N.th ?_
    refine W.seq ?_
    refine W.reg <| asg rfl rfl <| L.nil ?_
    refine N.th ?_
    refine W.ret ?_
    refine N.ret1 rfl rfl ?_   -- RETURN
    obtain ⟨ha1, ha2⟩ := Tr.ahead_spec hA
    have hsz : Tr.size (Tr.make m (lack ++ [(Sp.clean s).1])) = Tr.size m := Tr.size_make _ hT2.nodup (by
        rw [List.nodup_append]
        exact ⟨ha2, by simp, fun a ha b hb => by
          simp at hb; subst hb
          intro e; subst e
          have := (ha1 _ ha).2.2 hp0; omega⟩) (fun d hd => by
        rcases List.mem_append.1 hd with hd | hd
        · exact (ha1 d hd).1
        · simp at hd; subst hd; exact hg)
    have hr : Tr.room m (lack.length + 1) 0 = true := by unfold Tr.room; simpa only [Bool.not_eq_false'] using h
    dsimp only
    rw [if_neg (by rw [hr]; simp)]
    refine ⟨rfl, ?_, ((hx1.trans hx2).trans hx35).none.trans hx6⟩
    dsimp only
    rw [hsz]; exact hT6

theorem c_Read {w : World} {bt bm : Nat} {m : Tr.T} (s : Tr.Bytes) (ht : Tree A w bt bm m) :
    Calls P 40 #[pT bt, .string (S s)] w fun e w' => ∃ v, e = .returned (.tuple #[v, .int .i64 (Tr.read m s).2]) ∧ Byts w.heap.size w' v (Tr.read m s).1 ∧ Ext none_ w w' := by
  have hm2 := ht.bytes
  refine enter (l := [_, _]) (n := 45) Tryz.func40 rfl rfl rfl ?_
  refine W.seq ?_
  refine W.reg <| asg rfl rfl <| asg rfl rfl <| L.nil ?_
  refine N.th ?_
  refine W.seq ?_
  refine W.reg <| mv rfl rfl <| call (vs := [_]) rfl rfl ok_Clean (c_Clean s w) ?_
  rintro e w1 ⟨rfl, hx1⟩
  refine ⟨_, rfl, ?_⟩
  have hcl := clean_len s
  refine mv rfl rfl <| ext rfl rfl rfl <| ext rfl rfl rfl <| asg rfl rfl <| asg rfl rfl <| L.nil ?_
  refine N.th ?_
  refine W.seq ?_
  refine W.seq ?_
  refine W.reg <| mv rfl rfl <| neqI rfl rfl rfl <| L.nil ?_
  refine N.th ?_
  refine W.cond rfl (fun h => ?_) (fun h => ?_)
  · refine W.seq ?_
    refine W.reg <| mv rfl rfl <| asg rfl rfl <| asg rfl rfl <| L.nil ?_
    refine N.th ?_
    refine W.ret ?_
    refine N.rth ?_
    refine N.ret2 rfl rfl rfl ?_   -- RETURN
    have h0 : (Sp.clean s).2 ≠ 0 := by simpa using h
    unfold Tr.read; rw [if_pos h0]
    exact ⟨_, rfl, own_nil _ _ _ _, hx1⟩
  have h0 : ¬ (Sp.clean s).2 ≠ 0 := by simpa using h
  refine W.skip ?_
  refine N.th ?_
  have hT1 := ht.at_.ext0 hx1
  unfold Tr.read; rw [if_neg h0]
  dsimp only
  refine W.seq ?_
  refine W.reg <| mv rfl rfl <| mv rfl rfl <| call (vs := [_, _]) rfl rfl ok_at (c_at (Sp.clean s).1 hT1) ?_
  rintro e w2 ⟨v, rfl, hv, hx2⟩
  refine ⟨_, rfl, ?_⟩
  refine asg rfl rfl <| L.nil ?_
  refine N.th ?_
  have hT2 := hT1.ext0 hx2
  obtain ⟨ox, hox⟩ : ∃ ox, Tr.at_ m (Sp.clean s).1 = ox := ⟨_, rfl⟩
  rw [hox] at hv ⊢
  refine W.seqM (fun E w' => E = [(0, pT bt), (1, .string (S (Sp.clean s).1)), (7, v)] ∧ w' = w2 ∧ ∀ x, ox = some x → x.1 = false) ?_ ?_   -- CUT
  · refine W.seq ?_
    cases ox with
    | none =>
      obtain rfl : v = .pointer none := hv
      refine W.reg <| mv rfl rfl <| neqPN rfl u_pNode rfl <| mv rfl rfl <| L.off rfl rfl rfl rfl rfl <| L.off rfl rfl rfl rfl rfl <| L.off rfl rfl rfl rfl rfl <| L.off rfl rfl rfl rfl rfl <| pickF rfl rfl rfl <| L.nil ?_
      refine N.th ?_
      refine W.condF rfl ?_
      refine W.skip ?_
      exact N.th (N.meet [(0, _), (1, _), (7, _)] ⟨rfl, rfl, rfl, trivial⟩ ⟨rfl, rfl, fun x h => by cases h⟩)   -- MEET
    | some x =>
      obtain ⟨nb, sl, rfl, hnb, hav, hrow⟩ := hv
      have hc0 : w2.cell? ⟨nb, 0, none⟩ = some (.bool x.1) := cell_of hnb rfl
      refine W.reg <| mv rfl rfl <| neqPN rfl u_pNode rfl <| mv rfl rfl <| L.on rfl rfl rfl <| mv rfl rfl <| L.on rfl rfl rfl <| nilc rfl rfl <| L.on rfl rfl rfl <| fad rfl fl_Node_0 rfl <| L.on rfl rfl rfl <| ld1 rfl ag_bool rfl hc0 <| pickT rfl rfl rfl <| L.nil ?_
      refine N.th ?_
      refine W.cond rfl (fun h => ?_) (fun h => ?_)
      · refine W.seq ?_
        refine W.reg <| asg rfl rfl <| asg rfl rfl <| L.nil ?_
        refine N.th ?_
        refine W.ret ?_
        refine N.rth ?_
        refine N.ret2 rfl rfl rfl ?_   -- RETURN
        simp only [h, if_true]
        exact ⟨_, rfl, own_nil _ _ _ _, hx1.trans hx2⟩
      · refine W.skip ?_
        exact N.th (N.meet [(0, _), (1, _), (7, _)] ⟨rfl, rfl, rfl, trivial⟩ ⟨rfl, rfl, fun y hy => by cases hy; exact h⟩)   -- MEET
  rintro E w2' ⟨rfl, rfl, hnd⟩
  refine W.seq ?_
  refine W.seq ?_
  refine W.reg <| mv rfl rfl <| mv rfl rfl <| call (vs := [_, _]) rfl rfl ok_ahead (c_ahead (Sp.clean s).1 (by omega) hT2) ?_
  rintro e w3 ⟨hx3, hah⟩
  cases hA : Tr.ahead m (Sp.clean s).1 with
  | none =>
    rw [hA] at hah
    obtain rfl := hah
    refine ⟨_, rfl, ?_⟩
    refine mv rfl rfl <| ext rfl rfl rfl <| ext rfl rfl rfl <| asg rfl rfl <| asg rfl rfl <| L.nil ?_
    refine N.th ?_
    refine W.seq ?_
    refine W.reg <| mv rfl rfl <| neqI rfl rfl rfl <| L.nil ?_
    refine N.th ?_
    refine W.condT rfl ?_
    refine W.seq ?_
    refine W.reg <| mv rfl rfl <| asg rfl rfl <| asg rfl rfl <| L.nil ?_
    refine N.th ?_
    refine W.ret ?_
    refine N.rth ?_
    refine N.ret2 rfl rfl rfl ?_   -- RETURN
    have hk : (match ox with | some x => if x.1 = true then (([] : Tr.Bytes), (54 : Int)) else ([], 54) | none => ([], 54)) = ([], 54) := by cases ox <;> simp
    cases ox with
    | none => exact ⟨_, rfl, own_nil _ _ _ _, hx1.trans (hx2.trans hx3)⟩
    | some x => simp only [hnd x rfl, Bool.false_eq_true, if_false]; exact ⟨_, rfl, own_nil _ _ _ _, hx1.trans (hx2.trans hx3)⟩
  | some lack =>
  rw [hA] at hah
  obtain ⟨lv, rfl, hlv⟩ := hah
  refine ⟨_, rfl, ?_⟩
  refine mv rfl rfl <| ext rfl rfl rfl <| ext rfl rfl rfl <| asg rfl rfl <| asg rfl rfl <| L.nil ?_
  refine N.th ?_
  refine W.seq ?_
  refine W.reg <| mv rfl rfl <| neqI rfl rfl rfl <| L.nil ?_
  refine N.th ?_
  refine W.condF rfl ?_
  refine W.skip ?_
  refine N.th ?_
  refine W.seq ?_
  refine W.seq ?_
  cases ox with
  | none =>
    obtain rfl : v = .pointer none := hv
    refine W.reg <| mv rfl rfl <| eqlPN rfl u_pNode rfl <| L.nil ?_
    refine N.th ?_
    refine W.condT rfl ?_
    refine W.seq ?_
    refine W.reg <| asg rfl rfl <| asg rfl rfl <| L.nil ?_
    refine N.th ?_
    refine W.ret ?_
    refine N.rth ?_
    refine N.ret2 rfl rfl rfl ?_   -- RETURN
    exact ⟨_, rfl, own_nil _ _ _ _, hx1.trans (hx2.trans hx3)⟩
  | some x =>
    obtain ⟨nb, sl, rfl, hnb, hav, hrow⟩ := hv
    have hnb3 := hx3.obj hnb id
    have hrow3 := hrow.ext0 hx3
    have hc1 : w3.cell? ⟨nb, 1, none⟩ = some sl := cell_of hnb3 rfl
    refine W.reg <| mv rfl rfl <| eqlPN rfl u_pNode rfl <| L.nil ?_
    refine N.th ?_
    refine W.condF rfl ?_
    refine W.skip ?_
    refine N.th ?_
    refine W.seq ?_
    have hxl : x.2.length ≤ 1048576 := by
      have hp0 : (Sp.clean s).1 ≠ [] := by intro e; rw [e] at hox; simp [Tr.at_] at hox; have := hnd _ rfl; rw [← hox] at this; cases this
      have hg : Tr.get m (Sp.clean s).1 = some x := by unfold Tr.at_ at hox; rwa [if_neg hp0] at hox
      have := old_le m (Sp.clean s).1
      simp [Tr.old, hg] at this
      omega
    refine W.reg <| mv rfl rfl <| nilc rfl rfl <| fad rfl fl_Node_1 rfl <| ld1 rfl ag_bytes rfl hc1 <| call (vs := [_]) rfl rfl ok_Clone (c_Clone hrow3.arg (by omega)) ?_
    rintro e w4 ⟨cv, rfl, hcv, hx4, -⟩
    refine ⟨_, rfl, ?_⟩
    refine asg rfl rfl <| asg rfl rfl <| L.nil ?_
    refine N.th ?_
    refine W.ret ?_
    refine N.ret2 rfl rfl rfl ?_   -- RETURN
    simp only [hnd x rfl, Bool.false_eq_true, if_false]
    have hx13 := hx1.trans (hx2.trans hx3)
    have := hx13.size
    refine ⟨_, rfl, ?_, hx13.trans hx4⟩
    obtain ⟨h1, h2 | ⟨g, c, cu, hv, hb, hr⟩⟩ := hcv
    · exact ⟨h1, .inl h2⟩
    · exact ⟨h1, .inr ⟨g, c, cu, hv, by omega, hr⟩⟩
end Go.Proofs.YtmdpmpdlkaogdaaGreatDoor
