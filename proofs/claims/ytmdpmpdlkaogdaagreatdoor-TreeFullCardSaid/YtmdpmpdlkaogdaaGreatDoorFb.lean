/- The walk of TreeFull. -/
import Derived.Test.YtmdpmpdlkaogdaaGreatDoorFa
import Derived.Test.YtmdpmpdlkaogdaaGreatDoorVf
import Derived.Test.YtmdpmpdlkaogdaaGreatDoorRy
import Derived.Test.YtmdpmpdlkaogdaaGreatDoorTl
import Derived.Test.YtmdpmpdlkaogdaaGreatDoorLb
namespace Go.Proofs.YtmdpmpdlkaogdaaGreatDoor
open Go Go.RowKit Vc
namespace Fu
theorem u_u16 : P.underlying 41 = some (.int .u16) := Tryz.underlying41

/-- The tree and the document's, side by side. -/
structure Both (w : World) (bt bm rt : Nat) (lv : Value) (E : List FE) (m : Tr.T) : Prop where
  ok : Tr.Ok m
  tree : TreeAt none_ w bt bm m (Tr.size m)
  ref : RTAt w rt lv E
  same : fm E = Tr.files m
theorem Both.ext0 {w w' : World} {bt bm rt : Nat} {lv : Value} {E : List FE} {m : Tr.T} (h : Both w bt bm rt lv E m) (hx : Ext none_ w w') : Both w' bt bm rt lv E m := ⟨h.ok, h.tree.ext0 hx, h.ref.ext0 hx, h.same⟩
theorem two_rt {w : World} {bt bm rt : Nat} {lv : Value} {E : List FE} {m : Tr.T} {sz : Int} (hT : TreeAt none_ w bt bm m sz) (hR : RTAt w rt lv E) : ¬ Two bt bm rt := by
  rintro (e | e)
  · subst e
    have h1 := hR.cell
    rw [hT.cell] at h1; cases h1
  · subst e
    obtain ⟨al, ⟨es, ck, h1, -⟩, -⟩ := hT.reps
    rw [hR.cell] at h1; cases h1
theorem rt_tree {w w' : World} {bt bm rt : Nat} {lv : Value} {E : List FE} {m : Tr.T} {sz : Int} (hT : TreeAt none_ w bt bm m sz) (hR : RTAt w rt lv E) (hx : Ext (Two bt bm) w w') : RTAt w' rt lv E := hR.ext hx (two_rt hT hR) fun k hk c e fr hc => by
  rcases hk with hk | hk
  · subst hk
    rw [hT.cell] at hc; cases hc; exact ⟨by decide, by decide⟩
  · subst hk
    obtain ⟨al, ⟨es, ck, h1, -⟩, -⟩ := hT.reps
    rw [hc] at h1; cases h1
theorem tree_rt {w w' : World} {bt bm rt : Nat} {lv : Value} {E : List FE} {m : Tr.T} {sz : Int} (hT : TreeAt none_ w bt bm m sz) (hR : RTAt w rt lv E) (hx : Ext (fun k => k = rt) w w') : TreeAt none_ w' bt bm m sz := by
  refine hT.ext hx (fun k hk c e fr hc => ?_) (fun e => two_rt hT hR (.inl e.symm)) (fun e => two_rt hT hR (.inr e.symm))
  subst hk
  rw [hR.cell] at hc; cases hc; exact ⟨by decide, by decide⟩
/-- A byte in a row of its own. -/
theorem row_of_cells {w : World} {g : Nat} {l : List UInt8} (h : w.heap[g]? = some (.cells (encB l).toArray tB (0, 0))) (hl : l.length ≤ 1000) : Row w (.slice (some ⟨g, 0, none⟩) l.length l.length) tB 1 l.length (encB l) := by
  refine ⟨by simp [encB], some ⟨g, 0, none⟩, l.length, rfl, Nat.le_refl _, by simp [maxLen]; omega, (fun h => by cases h), fun ad had => ?_⟩
  cases had
  refine ⟨_, _, rfl, h, by simp [encB], ?_⟩
  simp [encB]
  exact List.take_of_length_le (Nat.le_of_eq (List.length_map _))
end Fu
open Fu

set_option maxHeartbeats 1000000 in
theorem c_TreeFull (w : World) (n : Nat) (_hn : n < 65536) (x : UInt8) :
    Calls P 11 #[.int .u16 n, .int .u8 x.toNat] w fun e w' => e = .returned (.bool true) ∧ Ext none_ w w' := by
  refine enter (l := [_, _]) (n := 108) Tryz.func11 rfl rfl rfl ?_
  refine W.seq ?_
  refine W.reg <| asg rfl rfl <| L.nil ?_
  refine N.th ?_
  refine W.seq ?_
  refine W.seq ?_
  refine W.reg <| call (vs := []) rfl rfl ok_known (c_known w) ?_
  rintro e w1 ⟨rfl, hx1⟩
  refine ⟨_, rfl, ?_⟩
  refine notB rfl rfl <| L.nil ?_
  refine N.th ?_
  refine W.condF rfl ?_
  refine W.skip ?_
  refine N.th ?_
  refine W.seq ?_
  refine W.reg <| call (vs := []) rfl rfl ok_New (c_New w1) ?_
  rintro e w3 ⟨bt, bm, rfl, hbt, hbm, hT3, hx3⟩
  refine ⟨_, rfl, ?_⟩
  refine bld (vs := #[]) (v := .agg #[.slice none 0 0]) rfl rfl (fun _ => by kernel_rfl) <| box rfl rfl <| asg rfl rfl <| asg rfl rfl <| L.nil ?_
  refine N.th ?_
  have hs1 := hx1.size
  have hs3 := hx3.size
  obtain ⟨w4, hw4⟩ : ∃ w4, w4 = w3.alloc (.cells #[.slice none 0 0] tRT) := ⟨_, rfl⟩
  obtain ⟨rt, hrt⟩ : ∃ rt, rt = w3.heap.size := ⟨_, rfl⟩
  have hR4 : RTAt w4 rt (.slice none 0 0) [] := by rw [hw4, hrt]; exact ⟨heap_new _ _, ⟨Row.nil _ _ _, fun x h => by cases h⟩⟩
  have hx34 : Ext none_ w3 w4 := by rw [hw4]; exact Ext.alloc _ _ _
  rw [show w3.alloc (.cells (Value.cells (.agg #[.slice none 0 0])) tRT) = w4 from hw4.symm, ← hrt]
  have hB4 : Both w4 bt bm rt (.slice none 0 0) [] [] := ⟨Tr.Ok.nil, hT3.ext0 hx34, hR4, by simp [Tr.files]⟩
  have hx04 : Ext none_ w w4 := (hx1.trans hx3).trans hx34
  have hRt : ∀ i, i < w.heap.size → i = rt → none_ i := by rintro i hi e; omega
  have hTwo : ∀ i, i < w.heap.size → Two bt bm i → none_ i := by rintro i hi (e | e) <;> omega
  obtain ⟨kk, hkk⟩ : ∃ kk, kk = 497 + n % 6 := ⟨_, rfl⟩
  refine W.seq ?_
  refine W.reg <| mv rfl rfl <| remI (c := ((n % 6 : Nat) : Int)) rfl rfl rfl (by decide) rfl <| cvtI (c := ((n % 6 : Nat) : Int)) rfl u_int u_u16 rfl (w64 (by omega) (by omega)) <| addI (c := (kk : Int)) rfl rfl rfl (by rw [w64 (by omega) (by omega)]; omega) <| asg rfl rfl <| L.nil ?_
  refine N.th ?_
  refine W.seq ?_
  refine W.seq ?_
  refine W.reg <| asg rfl rfl <| L.nil ?_
  refine N.th ?_
  refine W.block ?_
  refine W.loop (X := Nat × Tr.T) (fun y => [(8, .int .i64 y.1), (7, .int .i64 kk), (5, pT bt), (6, pT rt), (1, .int .u8 x.toNat)])
    (fun y w' => y.1 ≤ kk ∧ (∃ lv E', Both w' bt bm rt lv E' y.2) ∧ Ext none_ w w') (fun y => kk - y.1) (0, []) ⟨rfl, rfl, rfl, rfl, rfl, trivial⟩ ⟨by omega, ⟨_, _, hB4⟩, hx04⟩ ?_
  rintro ⟨i, m⟩ w5 ⟨hi, ⟨lv, Er, hB⟩, hx5⟩
  dsimp only at hi hB ⊢
  refine W.seq ?_
  refine W.seq ?_
  refine W.reg <| mv rfl rfl <| mv rfl rfl <| lssI rfl rfl rfl <| L.nil ?_
  refine N.th ?_
  refine W.cond rfl (fun h => ?_) (fun h => ?_)
  · refine W.skip ?_
    refine N.th ?_
    have hi1 : i < kk := by simp at h; omega
    refine W.seq ?_
    refine W.block ?_
    refine W.seq ?_
    obtain ⟨c1, hc1⟩ : ∃ c1, c1 = 97 + i / 26 % 26 := ⟨_, rfl⟩
    obtain ⟨c2, hc2⟩ : ∃ c2, c2 = 97 + i % 26 := ⟨_, rfl⟩
    obtain ⟨c3, hc3⟩ : ∃ c3, c3 = 97 + i / 676 := ⟨_, rfl⟩
    have hb1 : c1 < 256 := by omega
    have hb2 : c2 < 256 := by omega
    have hb3 : c3 < 256 := by omega
    refine W.reg <| mv rfl rfl <| quoI (c := ((i / 26 : Nat) : Int)) rfl rfl rfl (by decide) (by rw [show ((i : Int).tdiv 26) = ((i / 26 : Nat) : Int) from rfl]; exact w64 (by omega) (by omega)) <| remI (c := ((i / 26 % 26 : Nat) : Int)) rfl rfl rfl (by decide) rfl <| addI (c := (c1 : Int)) rfl rfl rfl (by rw [w64 (by omega) (by omega)]; omega) <| cvtI (c := (c1 : Int)) rfl u_u8 u_int rfl (wu8 (by omega) (by omega)) <|
      mv rfl rfl <| remI (c := ((i % 26 : Nat) : Int)) rfl rfl rfl (by decide) rfl <| addI (c := (c2 : Int)) rfl rfl rfl (by rw [w64 (by omega) (by omega)]; omega) <| cvtI (c := (c2 : Int)) rfl u_u8 u_int rfl (wu8 (by omega) (by omega)) <|
      mv rfl rfl <| quoI (c := ((i / 676 : Nat) : Int)) rfl rfl rfl (by decide) (by rw [show ((i : Int).tdiv 676) = ((i / 676 : Nat) : Int) from rfl]; exact w64 (by omega) (by omega)) <| addI (c := (c3 : Int)) rfl rfl rfl (by rw [w64 (by omega) (by omega)]; omega) <| cvtI (c := (c3 : Int)) rfl u_u8 u_int rfl (wu8 (by omega) (by omega)) <|
      bls (vs := #[(0, .int .u8 (c1 : Int)), (1, .int .u8 (c2 : Int)), (2, .int .u8 (c3 : Int))]) (cs := #[.int .u8 (c1 : Int), .int .u8 (c2 : Int), .int .u8 (c3 : Int)]) (e := tB) rfl rfl (fun _ => by kernel_rfl) ?_
    obtain ⟨p, hp⟩ : ∃ p : Tr.Bytes, p = [UInt8.ofNat c1, UInt8.ofNat c2, UInt8.ofNat c3] := ⟨_, rfl⟩
    have hpe : encB p = [.int .u8 (c1 : Int), .int .u8 (c2 : Int), .int .u8 (c3 : Int)] := by
      rw [hp]
      simp only [encB, List.map_cons, List.map_nil, UInt8.toNat_ofNat', Nat.mod_eq_of_lt hb1, Nat.mod_eq_of_lt hb2, Nat.mod_eq_of_lt hb3]
    have hx6 : Ext none_ w5 (w5.alloc (.cells #[.int .u8 (c1 : Int), .int .u8 (c2 : Int), .int .u8 (c3 : Int)] tB)) := Ext.alloc _ _ _
    have hrow : Row (w5.alloc (.cells #[.int .u8 (c1 : Int), .int .u8 (c2 : Int), .int .u8 (c3 : Int)] tB)) (.slice (some ⟨w5.heap.size, 0, none⟩) 3 3) tB 1 p.length (encB p) := by
      have := row_of_cells (l := p) (w := w5.alloc (.cells #[.int .u8 (c1 : Int), .int .u8 (c2 : Int), .int .u8 (c3 : Int)] tB)) (g := w5.heap.size) (by rw [hpe]; exact heap_new _ _) (by rw [hp]; simp)
      rw [show p.length = 3 by rw [hp]; rfl] at this ⊢
      exact this
    generalize w5.alloc (.cells #[.int .u8 (c1 : Int), .int .u8 (c2 : Int), .int .u8 (c3 : Int)] tB) = w6 at hx6 hrow ⊢
    refine cvtBS (a := p) rfl u_bytes u_u8 u_str rfl (Kn.here hrow) <| asg rfl rfl <| L.nil ?_
    refine N.th ?_
    have hB6 := hB.ext0 hx6
    have hx06 := hx5.trans hx6
    refine W.seq ?_
    refine W.reg <| mv rfl rfl <| mv rfl rfl <| call (vs := [_, _]) rfl rfl ok_Mkdir (c_Mkdir p ⟨hB6.tree, hB6.ok.len, hB6.ok.bytes⟩) ?_
    rintro e w7 ⟨rfl, hT7, hx7⟩
    refine ⟨_, rfl, ?_⟩
    have hR7 := rt_tree hB6.tree hB6.ref hx7
    refine mv rfl rfl <| mv rfl rfl <| call (vs := [_, _]) rfl rfl ok_RMkdir (c_RMkdir p hR7 hB6.same hB6.ok) ?_
    rintro e w8 ⟨rfl, ⟨lv', E', hR8, hE8⟩, hx8⟩
    refine ⟨_, rfl, ?_⟩
    refine neqI rfl rfl rfl <| Vc.bf (by simp) <| L.nil ?_
    refine N.th ?_
    refine W.condF rfl ?_
    refine W.skip ?_
    refine N.inb ?_
    refine N.th ?_
    refine W.reg <| mv rfl rfl <| addI (c := ((i + 1 : Nat) : Int)) rfl rfl rfl (by rw [w64 (by omega) (by omega)]; simp) <| asg rfl rfl <| L.nil ?_
    exact N.th (N.round (x := (i + 1, (Tr.mkdir m p).1)) ⟨rfl, rfl, rfl, rfl, rfl, trivial⟩ ⟨by dsimp only; omega, ⟨_, _, ⟨hB6.ok.mkdir _, tree_rt hT7 hR7 hx8, hR8, hE8⟩⟩, (hx06.trans' hx7 hTwo).trans' hx8 hRt⟩ (by dsimp only; omega))   -- ROUND
  refine W.exit ?_
  refine N.xth ?_
  refine N.xth ?_
  refine N.xeq ?_
  refine N.th ?_
  have hxl := x.toNat_lt
  obtain ⟨k2, hk2⟩ : ∃ k2, k2 = 65534 + x.toNat % 4 := ⟨_, rfl⟩
  refine W.seq ?_
  refine W.reg <| mv rfl rfl <| remI (c := ((x.toNat % 4 : Nat) : Int)) rfl rfl rfl (by decide) rfl <| cvtI (c := ((x.toNat % 4 : Nat) : Int)) rfl u_int u_u8 rfl (w64 (by omega) (by omega)) <| addI (c := (k2 : Int)) rfl rfl rfl (by rw [w64 (by omega) (by omega)]; omega) <|
    mks (k := k2) rfl rfl el_bytes rfl (by omega) fun w6 hz6 hx6 _ => ⟨trivial, ?_⟩
  refine asg rfl rfl <| L.nil ?_
  refine N.th ?_
  have hB6 := hB.ext0 hx6
  have hx06 := hx5.trans hx6
  have hz : (List.replicate k2 (0 : UInt8)).length = k2 := List.length_replicate
  refine W.seq ?_
  refine W.reg <| call (vs := []) rfl rfl ok_New (c_New w6) ?_
  rintro e w7 ⟨ct, cm, rfl, hct, hcm, hU7, hx7⟩
  refine ⟨_, rfl, ?_⟩
  refine asg rfl rfl <| L.nil ?_
  refine N.th ?_
  have hB7 := hB6.ext0 hx7
  have hx07 := hx06.trans hx7
  have hs6 := hx06.size
  have hltB := hB6.tree.lt
  have hltR := hB6.ref.lt
  have hTwoU : ∀ i, i < w.heap.size → Two ct cm i → none_ i := by rintro i hi (e | e) <;> omega
  have hz7 : BytA w7 (.slice (some ⟨w5.heap.size, 0, none⟩) k2 k2) (List.replicate k2 0) := by
    have := (Row.own hz6).arg.ext0 hx7
    unfold BytA
    rw [hz]; exact this
  refine W.seq ?_
  refine W.reg <| mv rfl rfl <| mv rfl rfl <| call (vs := [_, .string (S [120]), _]) rfl rfl ok_Write (c_Write [120] ⟨hU7, by simp, by simp [Tr.size]⟩ hz7 (by rw [hz]; omega)) ?_
  rintro e w8 ⟨rfl, hU8, hx8⟩
  refine ⟨_, rfl, ?_⟩
  refine asg rfl rfl <| L.nil ?_
  refine N.th ?_
  obtain ⟨hF8, hcode⟩ := Tr.Full.first (b := List.replicate k2 0) (by rw [hz]; omega)
  rw [hz] at hcode
  have hB8 : Both w8 bt bm rt lv Er m := ⟨hB7.ok, hB7.tree.other hU7 hx8 (by omega) (by omega), rt_tree hU7 hB7.ref hx8, hB7.same⟩
  have hx08 := hx07.trans' hx8 hTwoU
  generalize (Tr.write [] [120] (List.replicate k2 0)).1 = m8 at hU8 hF8
  generalize Tr.size m8 = s0 at hF8
  rw [hcode]
  refine W.seq ?_
  refine W.seqM (fun E' w' => ∃ c0, E' = [(72, .bool false), (12, .int .i64 c0), (11, pT ct), (5, pT bt), (6, pT rt)] ∧ w' = w8) ?_ ?_
  · by_cases h65 : 65536 < k2
    · rw [if_pos h65]
      refine W.reg <| mv rfl rfl <| eqlI rfl rfl rfl <| mv rfl rfl <| lenV (t := 25) rfl u_bytes rfl <| gtrI rfl rfl rfl <| Vc.bt (by simp; omega) <| neqB rfl rfl u_bool rfl ?_
      (repeat (first | refine mv rfl rfl ?_ | refine asg rfl rfl ?_ | refine L.off rfl rfl rfl rfl rfl ?_ | refine L.offU rfl rfl rfl rfl ?_ | refine L.on rfl rfl rfl ?_ | refine pickT rfl rfl rfl ?_ | refine pickF rfl rfl rfl ?_ | refine ext rfl rfl rfl ?_ | refine nilc rfl rfl ?_ | refine lenV (t := 46) rfl u_strs rfl ?_ | refine lenV (t := 25) rfl u_bytes rfl ?_ | refine lenV (t := 22) rfl u_files rfl ?_ | refine lenS (t := 9) rfl u_str rfl ?_ | refine eqlI rfl rfl rfl ?_ | refine neqI rfl rfl rfl ?_ | refine lssI rfl rfl rfl ?_ | refine leqI rfl rfl rfl ?_ | refine gtrI rfl rfl rfl ?_ | refine geqI rfl rfl rfl ?_))
      exact L.nil <| N.th (N.meet [(72, .bool false), (12, _), (11, _), (5, _), (6, _)] ⟨rfl, rfl, rfl, rfl, rfl, trivial⟩ ⟨_, rfl, rfl⟩)
    · rw [if_neg h65]
      refine W.reg <| mv rfl rfl <| eqlI rfl rfl rfl <| mv rfl rfl <| lenV (t := 25) rfl u_bytes rfl <| gtrI rfl rfl rfl <| Vc.bf (by simp; omega) <| neqB rfl rfl u_bool rfl ?_
      (repeat (first | refine mv rfl rfl ?_ | refine asg rfl rfl ?_ | refine L.off rfl rfl rfl rfl rfl ?_ | refine L.offU rfl rfl rfl rfl ?_ | refine L.on rfl rfl rfl ?_ | refine pickT rfl rfl rfl ?_ | refine pickF rfl rfl rfl ?_ | refine ext rfl rfl rfl ?_ | refine nilc rfl rfl ?_ | refine lenV (t := 46) rfl u_strs rfl ?_ | refine lenV (t := 25) rfl u_bytes rfl ?_ | refine lenV (t := 22) rfl u_files rfl ?_ | refine lenS (t := 9) rfl u_str rfl ?_ | refine eqlI rfl rfl rfl ?_ | refine neqI rfl rfl rfl ?_ | refine lssI rfl rfl rfl ?_ | refine leqI rfl rfl rfl ?_ | refine gtrI rfl rfl rfl ?_ | refine geqI rfl rfl rfl ?_))
      exact L.nil <| N.th (N.meet [(72, .bool false), (12, _), (11, _), (5, _), (6, _)] ⟨rfl, rfl, rfl, rfl, rfl, trivial⟩ ⟨_, rfl, rfl⟩)
  rintro E' w9 ⟨c0, rfl, rfl⟩
  refine W.condF rfl ?_
  refine W.skip ?_
  refine N.th ?_
  refine W.seq ?_
  refine W.seq ?_
  refine W.reg <| asg rfl rfl <| L.nil ?_
  refine N.th ?_
  refine W.block ?_
  refine W.loop (X := Nat × Tr.T × Int) (fun y => [(13, .int .i64 y.1), (12, .int .i64 y.2.2), (11, pT ct), (5, pT bt), (6, pT rt)])
    (fun y w' => y.1 ≤ 18 ∧ Tr.Full y.2.1 s0 y.1 ∧ TreeAt none_ w' ct cm y.2.1 (Tr.size y.2.1) ∧ Both w' bt bm rt lv Er m ∧ Ext none_ w w' ∧ (y.1 = 18 → y.2.2 = 55)) (fun y => 18 - y.1) (0, m8, c0) ⟨rfl, rfl, rfl, rfl, rfl, trivial⟩
    ⟨by omega, hF8, hU8, hB8, hx08, fun h => by cases h⟩ ?_
  rintro ⟨i, mu, cc⟩ w10 ⟨hi, hF, hU, hB10, hx10, hcc⟩
  dsimp only at hi hF hU hcc ⊢
  refine W.seq ?_
  refine W.seq ?_
  refine W.reg <| mv rfl rfl <| lssI rfl rfl rfl <| L.nil ?_
  refine N.th ?_
  refine W.cond rfl (fun h => ?_) (fun h => ?_)
  · refine W.skip ?_
    refine N.th ?_
    have hi1 : i < 18 := by simp at h; omega
    have hz2 : (List.replicate 65536 (0 : UInt8)).length = 65536 := List.length_replicate
    obtain ⟨hF', hcode', hlast⟩ := hF.step (b := List.replicate 65536 0) hi1 hz2
    refine W.seq ?_
    refine W.block ?_
    refine W.seqM (fun E' w' => E' = [(12, .int .i64 (Tr.write mu (Tr.yk i) (List.replicate 65536 0)).2), (13, .int .i64 i), (11, pT ct), (5, pT bt), (6, pT rt)] ∧ TreeAt none_ w' ct cm (Tr.write mu (Tr.yk i) (List.replicate 65536 0)).1 (Tr.size (Tr.write mu (Tr.yk i) (List.replicate 65536 0)).1) ∧ Both w' bt bm rt lv Er m ∧ Ext none_ w w') ?_ ?_
    · have hxd : Ext none_ w10 w10.drew := Ext.drew _ _
      obtain ⟨cb, hcb⟩ : ∃ cb, cb = 97 + i := ⟨_, rfl⟩
      have hcb256 : cb < 256 := by omega
      have hpe : encB [UInt8.ofNat cb] = [.int .u8 (cb : Int)] := by
        simp only [encB, List.map_cons, List.map_nil, UInt8.toNat_ofNat', Nat.mod_eq_of_lt hcb256]
      have hyk : [121] ++ [UInt8.ofNat cb] = Tr.yk i := by rw [hcb]; rfl
      have hltU := hU.lt
      have fin : ∀ {wa wb : World}, Ext none_ w10 wa → Ext (Two ct cm) wa wb → Both wb bt bm rt lv Er m ∧ Ext none_ w wb := fun {wa wb} h1 h2 =>
        ⟨⟨hB10.ok, (hB10.tree.ext0 h1).other (hU.ext0 h1) h2 (by omega) (by omega), rt_tree (hU.ext0 h1) (hB10.ref.ext0 h1) h2, hB10.same⟩, (hx10.trans h1).trans' h2 hTwoU⟩
      have hrow : ∀ {wz : World} {g : Nat}, wz.heap[g]? = some (.cells #[.int .u8 (cb : Int)] tB (0, 0)) → Row wz (.slice (some ⟨g, 0, none⟩) 1 1) tB 1 [UInt8.ofNat cb].length (encB [UInt8.ofNat cb]) := fun {wz g} hg =>
        row_of_cells (l := [UInt8.ofNat cb]) (by rw [hpe]; exact hg) (by simp)
      have hbyt : ∀ {wz : World} {vz : Value} {B : Nat}, wz.ownsRow B tB 1 vz 65536 (encB (List.replicate 65536 0)) → BytA wz vz (List.replicate 65536 0) := fun hz => by
        have := (Row.own hz).arg
        unfold BytA
        rw [hz2]; exact this
      refine W.draw2 [tB, 9] (fun _ => True) [0, 1, 2, 3] [4] [5, 6, 7, 8, 9] [7, 4] [5, 6, 8, 9] rfl rfl (by kernel_rfl) (by kernel_rfl) trivial ?_
      refine mv rfl rfl <| mv rfl rfl <| addI (c := (cb : Int)) rfl rfl rfl (by rw [w64 (by omega) (by omega)]; omega) <| cvtI (c := (cb : Int)) rfl u_u8 u_int rfl (wu8 (by omega) (by omega)) <| L.forkH ?_ ?_
      · refine bls (vs := #[(0, .int .u8 (cb : Int))]) (cs := #[.int .u8 (cb : Int)]) (e := tB) rfl rfl (fun _ => by kernel_rfl) (hS := .inr fun _ => trivial) ?_
        have hxa : Ext none_ w10.drew (w10.drew.alloc (.cells #[.int .u8 (cb : Int)] tB)) := Ext.alloc _ _ _
        have hga : (w10.drew.alloc (.cells #[.int .u8 (cb : Int)] tB)).heap[w10.drew.heap.size]? = some (.cells #[.int .u8 (cb : Int)] tB (0, 0)) := heap_new _ _
        generalize w10.drew.alloc (.cells #[.int .u8 (cb : Int)] tB) = wa at hxa hga ⊢
        refine L.nextH (fun w' => w'.heap[w10.drew.heap.size]? = some (.cells #[.int .u8 (cb : Int)] tB (0, 0))) (fun _ _ => trivial) hga ?_
        refine cvtBS (a := [UInt8.ofNat cb]) rfl u_bytes u_u8 u_str rfl (fun w' h => hrow h) <| addS (a := [121]) rfl rfl rfl (by simp) <| mks (k := 65536) rfl rfl el_bytes rfl (by omega) fun wb hzb hxb _ => ⟨.inr fun h => hxb.obj h id, ?_⟩
        rw [hyk]
        have hx1b : Ext none_ w10 wb := (hxd.trans hxa).trans hxb
        have hdz : w10.drew.heap.size = w10.heap.size := rfl
        refine callH (vs := [_, _, _]) rfl rfl ok_Write (c_Write (Tr.yk i) ⟨hU.ext0 hx1b, hF.ok.len, hF.ok.bytes⟩ (hbyt hzb) (by rw [hz2]; omega)) ?_
        rintro e wc ⟨rfl, hUc, hxc⟩
        refine ⟨_, rfl, .inr fun h => hxc.obj h (by rintro (e | e) <;> omega), ?_⟩
        refine asg rfl rfl <| L.nilH ?_
        exact N.th (N.meet [(12, _), (13, _), (11, _), (5, _), (6, _)] ⟨rfl, rfl, rfl, rfl, rfl, trivial⟩ ⟨rfl, hUc, fin hx1b hxc⟩)
      · refine mks (k := 65536) rfl rfl el_bytes rfl (by omega) fun wa hza hxa hsa => ⟨.inr fun _ => trivial, ?_⟩
        refine bls (vs := #[(0, .int .u8 (cb : Int))]) (cs := #[.int .u8 (cb : Int)]) (e := tB) rfl rfl (fun _ => by kernel_rfl) (hS := .inr fun _ => trivial) ?_
        have hxb : Ext none_ wa (wa.alloc (.cells #[.int .u8 (cb : Int)] tB)) := Ext.alloc _ _ _
        have hgb : (wa.alloc (.cells #[.int .u8 (cb : Int)] tB)).heap[wa.heap.size]? = some (.cells #[.int .u8 (cb : Int)] tB (0, 0)) := heap_new _ _
        generalize wa.alloc (.cells #[.int .u8 (cb : Int)] tB) = wb at hxb hgb ⊢
        refine L.nextH (fun w' => w'.heap[wa.heap.size]? = some (.cells #[.int .u8 (cb : Int)] tB (0, 0))) (fun _ _ => trivial) hgb ?_
        refine cvtBS (a := [UInt8.ofNat cb]) rfl u_bytes u_u8 u_str rfl (fun w' h => hrow h) <| addS (a := [121]) rfl rfl rfl (by simp) ?_
        rw [hyk]
        have hx1b : Ext none_ w10 wb := (hxd.trans hxa).trans hxb
        have hs10 : w10.heap.size ≤ wa.heap.size := (hxd.trans hxa).size
        refine callH (vs := [_, _, _]) rfl rfl ok_Write (c_Write (Tr.yk i) ⟨hU.ext0 hx1b, hF.ok.len, hF.ok.bytes⟩ (hbyt (own_ext hza hxb fun _ _ => id)) (by rw [hz2]; omega)) ?_
        rintro e wc ⟨rfl, hUc, hxc⟩
        refine ⟨_, rfl, .inr fun h => hxc.obj h (by rintro (e | e) <;> omega), ?_⟩
        refine asg rfl rfl <| L.nilH ?_
        exact N.th (N.meet [(12, _), (13, _), (11, _), (5, _), (6, _)] ⟨rfl, rfl, rfl, rfl, rfl, trivial⟩ ⟨rfl, hUc, fin hx1b hxc⟩)
    rintro E' w11 ⟨rfl, hU11, hB11, hx11⟩
    have hmax := hF'.ok.bytes
    generalize (Tr.write mu (Tr.yk i) (List.replicate 65536 0)).1 = mu' at hU11 hF' hmax
    generalize (Tr.write mu (Tr.yk i) (List.replicate 65536 0)).2 = cc' at hcode' hlast ⊢
    refine W.seqM (fun E' w' => E' = [(96, .bool false), (12, .int .i64 cc'), (13, .int .i64 i), (11, pT ct), (5, pT bt), (6, pT rt)] ∧ w' = w11) ?_ ?_
    · rcases hcode' with rfl | rfl
      · refine W.reg ?_
        (repeat (first | refine mv rfl rfl ?_ | refine asg rfl rfl ?_ | refine L.off rfl rfl rfl rfl rfl ?_ | refine L.offU rfl rfl rfl rfl ?_ | refine L.on rfl rfl rfl ?_ | refine pickT rfl rfl rfl ?_ | refine pickF rfl rfl rfl ?_ | refine ext rfl rfl rfl ?_ | refine nilc rfl rfl ?_ | refine lenV (t := 46) rfl u_strs rfl ?_ | refine lenV (t := 25) rfl u_bytes rfl ?_ | refine lenV (t := 22) rfl u_files rfl ?_ | refine lenS (t := 9) rfl u_str rfl ?_ | refine eqlI rfl rfl rfl ?_ | refine neqI rfl rfl rfl ?_ | refine lssI rfl rfl rfl ?_ | refine leqI rfl rfl rfl ?_ | refine gtrI rfl rfl rfl ?_ | refine geqI rfl rfl rfl ?_))
        refine call (vs := [_]) rfl rfl ok_Size (c_Size hU11) ?_
        rintro e w12 ⟨rfl, rfl⟩
        refine ⟨_, rfl, ?_⟩
        refine L.on rfl rfl rfl <| gtrI rfl rfl rfl <| Vc.bf (by simp; omega) ?_
        (repeat (first | refine mv rfl rfl ?_ | refine asg rfl rfl ?_ | refine L.off rfl rfl rfl rfl rfl ?_ | refine L.offU rfl rfl rfl rfl ?_ | refine L.on rfl rfl rfl ?_ | refine pickT rfl rfl rfl ?_ | refine pickF rfl rfl rfl ?_ | refine ext rfl rfl rfl ?_ | refine nilc rfl rfl ?_ | refine lenV (t := 46) rfl u_strs rfl ?_ | refine lenV (t := 25) rfl u_bytes rfl ?_ | refine lenV (t := 22) rfl u_files rfl ?_ | refine lenS (t := 9) rfl u_str rfl ?_ | refine eqlI rfl rfl rfl ?_ | refine neqI rfl rfl rfl ?_ | refine lssI rfl rfl rfl ?_ | refine leqI rfl rfl rfl ?_ | refine gtrI rfl rfl rfl ?_ | refine geqI rfl rfl rfl ?_))
        exact L.nil <| N.th (N.meet [(96, .bool false), (12, _), (13, _), (11, _), (5, _), (6, _)] ⟨rfl, rfl, rfl, rfl, rfl, rfl, trivial⟩ ⟨rfl, rfl⟩)
      · refine W.reg ?_
        (repeat (first | refine mv rfl rfl ?_ | refine asg rfl rfl ?_ | refine L.off rfl rfl rfl rfl rfl ?_ | refine L.offU rfl rfl rfl rfl ?_ | refine L.on rfl rfl rfl ?_ | refine pickT rfl rfl rfl ?_ | refine pickF rfl rfl rfl ?_ | refine ext rfl rfl rfl ?_ | refine nilc rfl rfl ?_ | refine lenV (t := 46) rfl u_strs rfl ?_ | refine lenV (t := 25) rfl u_bytes rfl ?_ | refine lenV (t := 22) rfl u_files rfl ?_ | refine lenS (t := 9) rfl u_str rfl ?_ | refine eqlI rfl rfl rfl ?_ | refine neqI rfl rfl rfl ?_ | refine lssI rfl rfl rfl ?_ | refine leqI rfl rfl rfl ?_ | refine gtrI rfl rfl rfl ?_ | refine geqI rfl rfl rfl ?_))
        refine call (vs := [_]) rfl rfl ok_Size (c_Size hU11) ?_
        rintro e w12 ⟨rfl, rfl⟩
        refine ⟨_, rfl, ?_⟩
        refine L.on rfl rfl rfl <| gtrI rfl rfl rfl <| Vc.bf (by simp; omega) ?_
        (repeat (first | refine mv rfl rfl ?_ | refine asg rfl rfl ?_ | refine L.off rfl rfl rfl rfl rfl ?_ | refine L.offU rfl rfl rfl rfl ?_ | refine L.on rfl rfl rfl ?_ | refine pickT rfl rfl rfl ?_ | refine pickF rfl rfl rfl ?_ | refine ext rfl rfl rfl ?_ | refine nilc rfl rfl ?_ | refine lenV (t := 46) rfl u_strs rfl ?_ | refine lenV (t := 25) rfl u_bytes rfl ?_ | refine lenV (t := 22) rfl u_files rfl ?_ | refine lenS (t := 9) rfl u_str rfl ?_ | refine eqlI rfl rfl rfl ?_ | refine neqI rfl rfl rfl ?_ | refine lssI rfl rfl rfl ?_ | refine leqI rfl rfl rfl ?_ | refine gtrI rfl rfl rfl ?_ | refine geqI rfl rfl rfl ?_))
        exact L.nil <| N.th (N.meet [(96, .bool false), (12, _), (13, _), (11, _), (5, _), (6, _)] ⟨rfl, rfl, rfl, rfl, rfl, rfl, trivial⟩ ⟨rfl, rfl⟩)
    rintro E' w12 ⟨rfl, rfl⟩
    refine W.condF rfl ?_
    refine W.skip ?_
    refine N.inb ?_
    refine N.th ?_
    refine W.reg <| mv rfl rfl <| addI (c := ((i + 1 : Nat) : Int)) rfl rfl rfl (by rw [w64 (by omega) (by omega)]; simp) <| asg rfl rfl <| L.nil ?_
    exact N.th (N.round (x := (i + 1, mu', cc')) ⟨rfl, rfl, rfl, rfl, rfl, trivial⟩ ⟨by dsimp only; omega, hF', hU11, hB11, hx11, fun h => hlast (by dsimp only at h; omega)⟩ (by dsimp only; omega))   -- ROUND
  refine W.exit ?_
  refine N.xth ?_
  refine N.xth ?_
  refine N.xeq ?_
  refine N.th ?_
  have hi18 : i = 18 := by simp at h; omega
  rw [hcc hi18]
  have hml := hB10.ok.len
  have hmb := hB10.ok.bytes
  have hEl := len_of hB10.same
  have hd10 : Ext none_ w10 w10.drew := Ext.drew _ _
  refine W.seq ?_
  refine W.draw [] false (fun w' => Ext none_ w10 w') [0, 1, 2, 3, 5, 6, 7, 8, 4, 9, 10, 11] rfl rfl (by kernel_rfl) hd10 ?_   -- held
  (repeat (first | refine mv rfl rfl ?_ | refine asg rfl rfl ?_ | refine L.off rfl rfl rfl rfl rfl ?_ | refine L.offU rfl rfl rfl rfl ?_ | refine L.on rfl rfl rfl ?_ | refine pickT rfl rfl rfl ?_ | refine pickF rfl rfl rfl ?_ | refine ext rfl rfl rfl ?_ | refine nilc rfl rfl ?_ | refine lenV (t := 46) rfl u_strs rfl ?_ | refine lenV (t := 25) rfl u_bytes rfl ?_ | refine lenV (t := 22) rfl u_files rfl ?_ | refine lenS (t := 9) rfl u_str rfl ?_ | refine eqlI rfl rfl rfl ?_ | refine neqI rfl rfl rfl ?_ | refine lssI rfl rfl rfl ?_ | refine leqI rfl rfl rfl ?_ | refine gtrI rfl rfl rfl ?_ | refine geqI rfl rfl rfl ?_))
  refine fad rfl fl_RT_0 rfl <| L.on rfl rfl rfl <| ldK (v := lv) rfl ag_files rfl (fun w' h => (hB10.ref.ext0 h).c0) ?_
  (repeat (first | refine mv rfl rfl ?_ | refine asg rfl rfl ?_ | refine L.off rfl rfl rfl rfl rfl ?_ | refine L.offU rfl rfl rfl rfl ?_ | refine L.on rfl rfl rfl ?_ | refine pickT rfl rfl rfl ?_ | refine pickF rfl rfl rfl ?_ | refine ext rfl rfl rfl ?_ | refine nilc rfl rfl ?_ | refine lenV (t := 46) rfl u_strs rfl ?_ | refine lenV (t := 25) rfl u_bytes rfl ?_ | refine lenV (t := 22) rfl u_files rfl ?_ | refine lenS (t := 9) rfl u_str rfl ?_ | refine eqlI rfl rfl rfl ?_ | refine neqI rfl rfl rfl ?_ | refine lssI rfl rfl rfl ?_ | refine leqI rfl rfl rfl ?_ | refine gtrI rfl rfl rfl ?_ | refine geqI rfl rfl rfl ?_))
  refine callH (vs := [_]) rfl rfl ok_Files (c_Files (hB10.tree.ext0 hd10) (by omega) (by omega)) ?_
  rintro e w12 ⟨vf, Ef, rfl, hEf, hvf, hff, hx12⟩
  refine ⟨_, rfl, .inr fun h => h.trans hx12, ?_⟩
  have hF12 : FilesAt w12 vf Ef := FilesAt.own hvf fun z hz => Row.own (hff z hz)
  have hEfl := len_of hEf
  have hx1012 := hd10.trans hx12
  (repeat (first | refine mv rfl rfl ?_ | refine asg rfl rfl ?_ | refine L.off rfl rfl rfl rfl rfl ?_ | refine L.offU rfl rfl rfl rfl ?_ | refine L.on rfl rfl rfl ?_ | refine pickT rfl rfl rfl ?_ | refine pickF rfl rfl rfl ?_ | refine ext rfl rfl rfl ?_ | refine nilc rfl rfl ?_ | refine lenV (t := 46) rfl u_strs rfl ?_ | refine lenV (t := 25) rfl u_bytes rfl ?_ | refine lenV (t := 22) rfl u_files rfl ?_ | refine lenS (t := 9) rfl u_str rfl ?_ | refine eqlI rfl rfl rfl ?_ | refine neqI rfl rfl rfl ?_ | refine lssI rfl rfl rfl ?_ | refine leqI rfl rfl rfl ?_ | refine gtrI rfl rfl rfl ?_ | refine geqI rfl rfl rfl ?_))
  refine callH (vs := [_, _]) rfl rfl ok_HFiles (c_HFiles hF12 (hB10.ref.ext0 hx1012).files (by omega) (by omega)) ?_
  rintro e w13 ⟨rfl, hx13⟩
  refine ⟨_, rfl, .inr fun h => h.trans hx13, ?_⟩
  refine Vc.bt (decide_eq_true (hEf.trans hB10.same.symm)) ?_
  (repeat (first | refine mv rfl rfl ?_ | refine asg rfl rfl ?_ | refine L.off rfl rfl rfl rfl rfl ?_ | refine L.offU rfl rfl rfl rfl ?_ | refine L.on rfl rfl rfl ?_ | refine pickT rfl rfl rfl ?_ | refine pickF rfl rfl rfl ?_ | refine ext rfl rfl rfl ?_ | refine nilc rfl rfl ?_ | refine lenV (t := 46) rfl u_strs rfl ?_ | refine lenV (t := 25) rfl u_bytes rfl ?_ | refine lenV (t := 22) rfl u_files rfl ?_ | refine lenS (t := 9) rfl u_str rfl ?_ | refine eqlI rfl rfl rfl ?_ | refine neqI rfl rfl rfl ?_ | refine lssI rfl rfl rfl ?_ | refine leqI rfl rfl rfl ?_ | refine gtrI rfl rfl rfl ?_ | refine geqI rfl rfl rfl ?_))
  refine L.nilH ?_
  refine N.th ?_
  refine W.ret ?_
  refine N.ret1 rfl rfl ?_   -- RETURN
  exact ⟨rfl, hx10.trans (hx1012.trans hx13)⟩
end Go.Proofs.YtmdpmpdlkaogdaaGreatDoor
