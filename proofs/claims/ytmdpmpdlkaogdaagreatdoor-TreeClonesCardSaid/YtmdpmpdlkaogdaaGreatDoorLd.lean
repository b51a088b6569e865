/- The walk of TreeClones. -/
import Derived.Test.YtmdpmpdlkaogdaaGreatDoorLb
import Derived.Test.YtmdpmpdlkaogdaaGreatDoorTm
namespace Go.Proofs.YtmdpmpdlkaogdaaGreatDoor
open Go Go.RowKit Vc

theorem get_perm {m n : Tr.T} (hn : (n.map (·.1)).Nodup) (h : m.Perm n) (k : Tr.Bytes) : Tr.get m k = Tr.get n k := by
  have hm : (m.map (·.1)).Nodup := (h.map _).nodup_iff.2 hn
  cases hg : Tr.get n k with
  | some x => exact Tr.mem_get hm (h.mem_iff.2 (Tr.get_mem hg))
  | none =>
    rw [Tr.get_none] at hg ⊢
    intro hk
    exact hg ((h.map _).mem_iff.1 hk)
theorem ok_perm {m n : Tr.T} (h : Tr.Ok n) (hp : m.Perm n) : Tr.Ok m :=
  Tr.Ok.mk' ((hp.map _).nodup_iff.2 h.nodup) (fun k x hk => by
    rw [get_perm h.nodup hp] at hk
    obtain ⟨a, b, c, d⟩ := h.sound hk
    exact ⟨a, b, by rw [get_perm h.nodup hp]; exact c, d⟩) (by rw [hp.length_eq]; exact h.len) (by rw [Tr.size_perm hp]; exact h.bytes)
theorem read_file {m : Tr.T} (h : Tr.Ok m) {k b : Tr.Bytes} (hc : Sp.clean k = (k, 0)) (hg : Tr.get m k = some (false, b)) : Tr.read m k = (b, 0) := by
  have h0 := (h.sound hg).1
  unfold Tr.read
  rw [hc]
  simp only [ne_eq, not_true_eq_false, if_false]
  rw [Tr.at_of h0, hg, h.ahead_nil hg]
  rfl
theorem own_one {B : Nat} {w : World} {v : Value} {e : TypeId} {u : Value} (h : w.ownsRow B e 1 v 1 [u]) : ∃ g c rest, v = .slice (some ⟨g, 0, none⟩) 1 c ∧ B ≤ g ∧ w.heap[g]? = some (.cells (u :: rest).toArray e (0, 0)) := by
  obtain ⟨h1, ⟨rfl, h2⟩ | ⟨g, cap, cur, rfl, hb, hg, hn, hm, hc, ht⟩⟩ := h
  · cases h2
  · have : ∃ rest, cur.toList = u :: rest := by
      cases hcur : cur.toList with
      | nil => rw [hcur] at ht; simp at ht
      | cons a rest => rw [hcur] at ht; simp at ht; exact ⟨rest, by rw [ht]⟩
    obtain ⟨rest, hr⟩ := this
    refine ⟨g, cap, rest, rfl, hb, ?_⟩
    rw [hg, ← hr]

theorem c_TreeClones (w : World) {v : Value} {l : List UInt8} (hv : BytA w v l) (x : UInt8) :
    Calls P 12 #[v, .int .u8 x.toNat] w fun e w' => e = .returned (.bool true) ∧ Ext none_ w w' := by
  obtain ⟨a, c, rfl, hn, hmx, -, -⟩ := id hv
  have hx256 := x.toNat_lt
  refine enter (l := [_, _]) (n := 96) Tryz.func12 rfl rfl rfl ?_
  refine W.seq ?_
  refine W.reg <| asg rfl rfl <| L.nil ?_
  refine N.th ?_
  refine W.seq ?_
  refine W.seq ?_
  refine W.reg <| call (vs := []) rfl rfl ok_known (c_known w) ?_
  rintro e w1 ⟨rfl, hx1⟩
  refine ⟨_, rfl, ?_⟩
  refine notB rfl rfl <| L.nil ?_
  refine N.th ?_
  refine W.condF rfl ?_
  refine W.skip ?_
  refine N.th ?_
  refine W.seq ?_
  refine W.seq ?_
  refine W.reg <| mv rfl rfl <| lenV rfl u_bytes rfl <| gtrI rfl rfl rfl <| L.nil ?_
  refine N.th ?_
  refine W.cond rfl (fun h => ?_) (fun h => ?_)
  · refine W.seq ?_
    refine W.reg <| asg rfl rfl <| L.nil ?_
    refine N.th ?_
    refine W.ret ?_
    refine N.rth ?_
    refine N.ret1 rfl rfl ?_   -- RETURN
    exact ⟨rfl, hx1⟩
  have hl15 : l.length ≤ 15 := by simp at h; omega
  refine W.skip ?_
  refine N.th ?_
  refine W.seq ?_
  refine W.reg <| call (vs := []) rfl rfl ok_New (c_New w1) ?_
  rintro e w2 ⟨bt, bm, rfl, hbt, hbm, hT2, hx2⟩
  refine ⟨_, rfl, ?_⟩
  refine asg rfl rfl <| L.nil ?_
  refine N.th ?_
  refine W.seq ?_
  refine W.reg <| mv rfl rfl <| bls (vs := #[(0, .int .u8 x.toNat)]) (cs := #[.int .u8 x.toNat]) (e := tB) rfl rfl (fun _ => by kernel_rfl) <| asg rfl rfl <| L.nil ?_
  refine N.th ?_
  refine W.seq ?_
  refine W.seq ?_
  refine W.reg <| asg rfl rfl <| L.nil ?_
  refine N.th ?_
  refine W.block ?_
  have hs1 := hx1.size
  have hs2 := hx2.size
  have hlt2 := hT2.lt
  obtain ⟨bb, hbb⟩ : ∃ bb, bb = w2.heap.size := ⟨_, rfl⟩
  obtain ⟨w3, hw3⟩ : ∃ w3, w3 = w2.alloc (.cells #[.int .u8 x.toNat] tB) := ⟨_, rfl⟩
  have hx3 : Ext none_ w2 w3 := by rw [hw3]; exact Ext.alloc _ _ _
  have hb3 : w3.heap[bb]? = some (.cells #[.int .u8 x.toNat] tB (0, 0)) := by rw [hw3, hbb]; exact heap_new _ _
  have hT3 : TreeAt (fun k => k = bb) w3 bt bm [] 0 := hT2.fresh hx3 (fun k e => by subst e; rw [hbb, hw3]; simp)
  rw [← hw3, ← hbb]
  have hTwo : ∀ i, i < w.heap.size → Two bt bm i → none_ i := by rintro i hi (e | e) <;> omega
  have hbne : ¬ Two bt bm bb := by rintro (e | e) <;> omega
  refine W.loop (X := Nat × Tr.T) (fun y => [(7, .int .i64 y.1), (6, .slice (some ⟨bb, 0, none⟩) 1 1), (5, pT bt), (0, .slice a l.length c), (1, .int .u8 x.toNat)])
    (fun y w' => y.1 ≤ l.length ∧ Tr.Ok y.2 ∧ Tr.Names (fun _ => [x]) y.2 (l.take y.1) ∧ TreeAt (fun k => k = bb) w' bt bm y.2 (Tr.size y.2) ∧ w'.heap[bb]? = some (.cells #[.int .u8 x.toNat] tB (0, 0)) ∧ Ext none_ w w') (fun y => l.length - y.1) (0, []) ⟨rfl, rfl, rfl, rfl, rfl, trivial⟩
    ⟨by omega, Tr.Ok.nil, Tr.Names.nil _, hT3, hb3, hx1.trans (hx2.trans hx3)⟩ ?_
  rintro ⟨i, m⟩ w4 ⟨hi, hok, hN, hT4, hb4, hx4⟩
  dsimp only at hi hok hN hT4 hb4 ⊢
  refine W.seq ?_
  refine W.seq ?_
  refine W.reg <| mv rfl rfl <| mv rfl rfl <| lenV rfl u_bytes rfl <| lssI rfl rfl rfl <| L.nil ?_
  refine N.th ?_
  refine W.cond rfl (fun h => ?_) (fun h => ?_)
  · refine W.skip ?_
    refine N.th ?_
    have hi1 : i < l.length := by simp at h; omega
    obtain ⟨k, hk⟩ : ∃ k, l[i]? = some k := ⟨_, List.getElem?_eq_getElem hi1⟩
    obtain ⟨ab, ao, ac, hv', -, -, -, hcell⟩ := (hv.ext0 hx4).plain (encB_ne hi1)
    cases hv'
    have hck : w4.cell? ⟨ab, ao + i * 1, none⟩ = some (.int .u8 k.toNat) := by rw [Nat.mul_one]; exact hcell i _ (by simp [encB, hk])
    refine W.seq ?_
    refine W.block ?_
    refine W.reg <| mv rfl rfl <| mv rfl rfl <| mv rfl rfl <| ixa rfl rfl u_bytes sz_u8 rfl (by omega) (by omega) <| ld1 rfl ag_u8 rfl hck <| call (vs := [_]) rfl rfl ok_name (c_name k w4) ?_
    rintro e w5 ⟨rfl, hx5⟩
    refine ⟨_, rfl, ?_⟩
    have hT5 : Tree (fun k => k = bb) w5 bt bm m := ⟨hT4.ext0 hx5, hok.len, hok.bytes⟩
    have hb5 := hx5.obj hb4 id
    have hrow : RowB w5 (.slice (some ⟨bb, 0, none⟩) 1 1) [x] := ⟨rfl, _, 1, rfl, Nat.le_refl _, by simp [maxLen], (fun h => by cases h), fun ad had => by
      cases had
      exact ⟨_, _, rfl, hb5, Nat.le_refl _, rfl⟩⟩
    have htk : (l.take i).length ≤ 100 := by rw [List.length_take]; omega
    obtain ⟨m', hw, hN'⟩ := hN.write k (by simp) htk
    refine mv rfl rfl <| call (vs := [_, _, _]) rfl rfl ok_Write (c_Write (nameB k) hT5 hrow.arg (by simp)) ?_
    rintro e w6 ⟨rfl, hT6, hx6⟩
    refine ⟨_, rfl, ?_⟩
    have hok' := hok.write (nameB k) [x]
    rw [hw] at hT6 hok' ⊢
    refine L.nil ?_
    refine N.inb ?_
    refine N.th ?_
    refine W.reg <| mv rfl rfl <| addI (c := ((i + 1 : Nat) : Int)) rfl rfl rfl (by rw [w64 (by omega) (by omega)]; simp) <| asg rfl rfl <| L.nil ?_
    have htk1 : l.take i ++ [k] = l.take (i + 1) := by rw [List.take_add_one, hk]; rfl
    rw [htk1] at hN'
    exact N.th (N.round (x := (i + 1, m')) ⟨rfl, rfl, rfl, rfl, rfl, trivial⟩ ⟨by dsimp only; omega, hok', hN', hT6, hx6.obj hb5 hbne, (hx4.trans hx5).trans' hx6 hTwo⟩ (by dsimp only; omega))   -- ROUND
  refine W.exit ?_
  refine N.xth ?_
  refine N.xth ?_
  refine N.xeq ?_
  refine N.th ?_
  have hil : i = l.length := by simp at h; omega
  rw [hil, List.take_length] at hN
  have hml := hok.len
  have hmb := hok.bytes
  refine W.seq ?_
  have hcb4 : w4.cell? ⟨bb, 0 + 0 * 1, none⟩ = some (.int .u8 x.toNat) := cell1 hb4
  refine W.reg <| mv rfl rfl <| ixa rfl rfl u_bytes sz_u8 rfl (by omega) (by omega) <| ld1 rfl ag_u8 rfl hcb4 <| addI rfl rfl rfl rfl <| ixa rfl rfl u_bytes sz_u8 rfl (by omega) (by omega) <| st1 rfl rfl sz_u8 rfl hb4 rfl <| L.nil ?_
  obtain ⟨w5, hw5⟩ : ∃ w5, w5 = w4.setCell ⟨bb, 0 + (0 : Int).toNat * 1, none⟩ (.int .u8 (IntKind.u8.wrap ((x.toNat : Int) + 1))) := ⟨_, rfl⟩
  rw [← hw5]
  have hxs : Ext (fun k => k = bb) w4 w5 := by rw [hw5]; exact Ext.setCell (S := fun k => k = bb) _ (fun _ => rfl) _
  have hT5 : TreeAt (fun k => k = bb) w5 bt bm m (Tr.size m) := hT4.step hxs (fun k e => by subst e; exact ⟨_, _, hb4⟩) (fun k e => .inl e) (fun k e => Nat.lt_of_lt_of_le (hT4.low k e) hxs.size)
  have hx5 : Ext none_ w w5 := hx4.trans' hxs fun i hi e => by omega
  refine N.th ?_
  refine W.seq ?_
  refine W.reg <| mv rfl rfl <| call (vs := [_]) rfl rfl ok_Files (c_Files hT5 (by omega) (by omega)) ?_
  rintro e w6 ⟨va, Ea, rfl, hEa, hva, hfa, hx6⟩
  refine ⟨_, rfl, ?_⟩
  refine asg rfl rfl <| L.nil ?_
  refine N.th ?_
  have hT6 := hT5.ext0 hx6
  have hFa6 : FilesAt w6 va Ea := FilesAt.own hva fun z hz => Row.own (hfa z hz)
  refine W.seq ?_
  refine W.reg <| mv rfl rfl <| call (vs := [_]) rfl rfl ok_TClone (c_TClone hT6) ?_
  rintro e w7 ⟨ct, cm, m', rfl, hct, hcm, hC7, hperm, hx7⟩
  refine ⟨_, rfl, ?_⟩
  refine asg rfl rfl <| L.nil ?_
  refine N.th ?_
  have hok' := ok_perm hok hperm
  have hsz' : (Tr.size m : Int) = Tr.size m' := by rw [Tr.size_perm hperm]
  rw [hsz'] at hC7
  have hml' := hok'.len
  have hmb' := hok'.bytes
  have hlt6 := hT6.lt
  have hs5 := hx5.size
  have hs6 := hx6.size
  have hEal : Ea.length = m.length := by have := congrArg List.length hEa; simpa [Tr.files] using this
  have hdis : bt ≠ ct ∧ bm ≠ cm := ⟨by omega, by omega⟩
  refine W.seq ?_
  refine W.seq ?_
  refine W.reg <| mv rfl rfl <| eqlPN rfl u_pTree rfl <| mv rfl rfl <| L.on rfl rfl rfl <| mv rfl rfl <| L.on rfl rfl rfl <| call (vs := [_]) rfl rfl ok_Files (c_Files hC7 (by omega) (by omega)) ?_
  rintro e w8 ⟨vb, Eb, rfl, hEb, hvb, hfb, hx8⟩
  refine ⟨_, rfl, ?_⟩
  have hFa8 := (hFa6.ext0 hx7).ext0 hx8
  have hFb8 : FilesAt w8 vb Eb := FilesAt.own hvb fun z hz => Row.own (hfb z hz)
  have hEbl : Eb.length = m'.length := by have := congrArg List.length hEb; simpa [Tr.files] using this
  refine L.on rfl rfl rfl <| mv rfl rfl <| L.on rfl rfl rfl <| call (vs := [_, _]) rfl rfl ok_HFiles (c_HFiles hFb8 hFa8 (by omega) (by omega)) ?_
  rintro e w9 ⟨rfl, hx9⟩
  refine ⟨_, rfl, ?_⟩
  rw [decide_eq_true (show Eb.map fnd = Ea.map fnd by rw [hEa, hEb, Tr.files_perm hok.nodup hperm])]
  refine L.on rfl rfl rfl <| notB rfl rfl <| pickF rfl rfl rfl <| L.nil ?_
  refine N.th ?_
  refine W.condF rfl ?_
  refine W.skip ?_
  refine N.th ?_
  have hx79 : Ext none_ w7 w9 := hx8.trans hx9
  have hC9 : Tree (fun k => k = bb) w9 ct cm m' := ⟨hC7.ext0 hx79, hml', hmb'⟩
  have hT9 := (hT6.ext0 hx7).ext0 hx79
  refine W.seq ?_
  refine W.reg <| mv rfl rfl <| call (vs := [_, .string (S [110, 101, 119]), _]) rfl rfl ok_Write (c_Write (b := []) [110, 101, 119] hC9 (Row.nil _ tB 1).arg (by simp)) ?_
  rintro e w10 ⟨rfl, hC10, hx10⟩
  refine ⟨_, rfl, ?_⟩
  refine L.nil ?_
  refine N.th ?_
  have hok10 := hok'.write [110, 101, 119] []
  have hT10 := hT9.other hC9.at_ hx10 hdis.1 hdis.2
  refine W.seq ?_
  refine W.reg <| mv rfl rfl <| call (vs := [_, .string (S [97])]) rfl rfl ok_Remove (c_Remove [97] ⟨hC10, hok10.len, hok10.bytes⟩) ?_
  rintro e w11 ⟨rfl, hC11, hx11⟩
  refine ⟨_, rfl, ?_⟩
  refine L.nil ?_
  refine N.th ?_
  have hT11 := hT10.other hC10 hx11 hdis.1 hdis.2
  have hTwoC : ∀ i, i < w6.heap.size → Two ct cm i → none_ i := by rintro i hi (e | e) <;> omega
  have hx6_11 : Ext none_ w6 w11 := ((hx7.trans hx79).trans' hx10 hTwoC).trans' hx11 hTwoC
  have hx0_11 : Ext none_ w w11 := hx5.trans (hx6.trans hx6_11)
  have hFa11 := hFa6.ext0 hx6_11
  refine W.seq ?_
  refine W.seq ?_
  refine W.reg <| asg rfl rfl <| L.nil ?_
  refine N.th ?_
  refine W.block ?_
  refine W.loop (X := Nat) (fun i => [(10, .int .i64 i), (8, va), (5, pT bt), (0, .slice a l.length c), (1, .int .u8 x.toNat)]) (fun i w' => i ≤ l.length ∧ Ext none_ w11 w') (fun i => l.length - i) 0 ⟨rfl, rfl, rfl, rfl, rfl, trivial⟩ ⟨by omega, Ext.refl _ _⟩ ?_
  rintro j w12 ⟨hj, hx12⟩
  refine W.seq ?_
  refine W.seq ?_
  refine W.reg <| mv rfl rfl <| mv rfl rfl <| lenV rfl u_bytes rfl <| lssI rfl rfl rfl <| L.nil ?_
  refine N.th ?_
  refine W.cond rfl (fun h => ?_) (fun h => ?_)
  · refine W.skip ?_
    refine N.th ?_
    have hj1 : j < l.length := by simp at h; omega
    obtain ⟨k, hk⟩ : ∃ k, l[j]? = some k := ⟨_, List.getElem?_eq_getElem hj1⟩
    obtain ⟨ab, ao, ac, hv', -, -, -, hcell⟩ := (hv.ext0 (hx0_11.trans hx12)).plain (encB_ne hj1)
    cases hv'
    have hck : w12.cell? ⟨ab, ao + j * 1, none⟩ = some (.int .u8 k.toNat) := by rw [Nat.mul_one]; exact hcell j _ (by simp [encB, hk])
    refine W.seq ?_
    refine W.block ?_
    refine W.seq ?_
    refine W.reg <| mv rfl rfl <| mv rfl rfl <| mv rfl rfl <| ixa rfl rfl u_bytes sz_u8 rfl (by omega) (by omega) <| ld1 rfl ag_u8 rfl hck <| call (vs := [_]) rfl rfl ok_name (c_name k w12) ?_
    rintro e w13 ⟨rfl, hx13⟩
    refine ⟨_, rfl, ?_⟩
    have hT13 : Tree (fun k => k = bb) w13 bt bm m := ⟨(hT11.ext0 hx12).ext0 hx13, hml, hmb⟩
    have hrd := read_file hok (Tr.name_clean k) (hN.file k (List.mem_of_getElem? hk))
    refine call (vs := [_, _]) rfl rfl ok_Read (c_Read (nameB k) hT13) ?_
    rintro e w14 ⟨rv, rfl, hrv, hx14⟩
    refine ⟨_, rfl, ?_⟩
    rw [hrd] at hrv ⊢
    obtain ⟨g, gc, rest, rfl, hgB, hg⟩ := own_one hrv
    refine mv rfl rfl <| ext (v := .slice (some ⟨g, 0, none⟩) 1 gc) rfl rfl rfl <| ext (v := .int .i64 0) rfl rfl rfl <| asg rfl rfl <| asg rfl rfl <| L.nil ?_
    refine N.th ?_
    have hcg : w14.cell? ⟨g, 0 + 0 * 1, none⟩ = some (.int .u8 x.toNat) := cell_of hg rfl
    refine W.seq ?_
    refine W.seq ?_
    refine W.reg <| mv rfl rfl <| neqI rfl rfl rfl <| mv rfl rfl <| L.on rfl rfl rfl <| mv rfl rfl <| L.on rfl rfl rfl <| lenV rfl u_bytes rfl <| L.on rfl rfl rfl <| neqI rfl rfl rfl <| pickF rfl rfl rfl <| mv rfl rfl <| L.on rfl rfl rfl <| mv rfl rfl <| L.on rfl rfl rfl <| ixa rfl rfl u_bytes sz_u8 rfl (by omega) (by omega) <| L.on rfl rfl rfl <| ld1 rfl ag_u8 rfl hcg <| L.on rfl rfl rfl <| mv rfl rfl <| L.on rfl rfl rfl <| neqI rfl rfl rfl <| Vc.bf (by simp) <| pickF rfl rfl rfl <| L.nil ?_
    refine N.th ?_
    refine W.condF rfl ?_
    refine W.skip ?_
    refine N.th ?_
    refine W.reg <| mv rfl rfl <| ixa rfl rfl u_bytes sz_u8 rfl (by omega) (by omega) <| ld1 rfl ag_u8 rfl hcg <| addI rfl rfl rfl rfl <| ixa rfl rfl u_bytes sz_u8 rfl (by omega) (by omega) <| st1 rfl rfl sz_u8 rfl hg rfl <| L.nil ?_
    refine N.inb ?_
    refine N.th ?_
    refine W.reg <| mv rfl rfl <| addI (c := ((j + 1 : Nat) : Int)) rfl rfl rfl (by rw [w64 (by omega) (by omega)]; simp) <| asg rfl rfl <| L.nil ?_
    have hs12 := hx12.size
    have hs13 := hx13.size
    refine N.th (N.round (x := j + 1) ⟨rfl, rfl, rfl, rfl, rfl, trivial⟩ ⟨by omega, ?_⟩ (by omega))   -- ROUND
    exact (hx12.trans (hx13.trans hx14)).trans' (Ext.setCell (S := fun k => k = g) _ (fun _ => rfl) _) fun i hi e => by omega
  · refine W.exit ?_
    refine N.xth ?_
    refine N.xth ?_
    refine N.xeq ?_
    refine N.th ?_
    refine W.seq ?_
    refine W.reg <| mv rfl rfl <| call (vs := [_]) rfl rfl ok_Files (c_Files (hT11.ext0 hx12) (by omega) (by omega)) ?_
    rintro e w13 ⟨vc, Ec, rfl, hEc, hvc, hfc, hx13⟩
    refine ⟨_, rfl, ?_⟩
    have hFa13 := (hFa11.ext0 hx12).ext0 hx13
    have hFc : FilesAt w13 vc Ec := FilesAt.own hvc fun z hz => Row.own (hfc z hz)
    have hEcl : Ec.length = m.length := by have := congrArg List.length hEc; simpa [Tr.files] using this
    refine mv rfl rfl <| call (vs := [_, _]) rfl rfl ok_HFiles (c_HFiles hFc hFa13 (by omega) (by omega)) ?_
    rintro e w14 ⟨rfl, hx14⟩
    refine ⟨_, rfl, ?_⟩
    rw [decide_eq_true (show Ec.map fnd = Ea.map fnd by rw [hEa, hEc])]
    refine asg rfl rfl <| L.nil ?_
    refine N.th ?_
    refine W.ret ?_
    refine N.ret1 rfl rfl ?_   -- RETURN
    exact ⟨rfl, hx0_11.trans (hx12.trans (hx13.trans hx14))⟩
end Go.Proofs.YtmdpmpdlkaogdaaGreatDoor
