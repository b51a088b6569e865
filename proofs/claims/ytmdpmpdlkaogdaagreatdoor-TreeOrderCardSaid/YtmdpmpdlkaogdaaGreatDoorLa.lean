/- The walk of TreeOrder. -/
import Derived.Test.YtmdpmpdlkaogdaaGreatDoorLn
namespace Go.Proofs.YtmdpmpdlkaogdaaGreatDoor
open Go Go.RowKit Vc

def turned (l : List UInt8) (t i : Nat) : List UInt8 := (List.range i).map fun j => l[(j + t) % l.length]?.getD 0
theorem turned_succ (l : List UInt8) (t i : Nat) : turned l t (i + 1) = turned l t i ++ [l[(i + t) % l.length]?.getD 0] := by simp [turned, List.range_succ]
theorem turned_all (l : List UInt8) (t : Nat) (k : UInt8) : k ∈ l ↔ k ∈ turned l t l.length := by
  unfold turned
  simp only [List.mem_map, List.mem_range]
  constructor
  · intro h
    obtain ⟨j, hj, rfl⟩ := List.mem_iff_getElem.1 h
    have hn : 0 < l.length := by omega
    refine ⟨(j + (l.length - t % l.length)) % l.length, Nat.mod_lt _ hn, ?_⟩
    have ht : t % l.length < l.length := Nat.mod_lt _ hn
    have : ((j + (l.length - t % l.length)) % l.length + t) % l.length = j := by
      rw [Nat.mod_add_mod]
      have e : j + (l.length - t % l.length) + t = j + l.length * (1 + t / l.length) := by
        have := Nat.div_add_mod t l.length
        rw [Nat.mul_add, Nat.mul_one]
        omega
      rw [e, Nat.add_mul_mod_self_left, Nat.mod_eq_of_lt hj]
    rw [this, List.getElem?_eq_getElem hj]; rfl
  · rintro ⟨j, hj, rfl⟩
    have hn : 0 < l.length := by omega
    have := Nat.mod_lt (j + t) hn
    rw [List.getElem?_eq_getElem this]
    exact List.getElem_mem this

/-- Bytes that came in. -/
def ArgB (w : World) (v : Value) (l : List UInt8) : Prop := ∃ a c, v = .slice a l.length c ∧ l.length ≤ c ∧ c ≤ maxLen ∧ ∀ (i : Nat) b, l[i]? = some b → ∃ ad, a = some ad ∧ ad.block < w.heap.size ∧ w.cell? (ad.add i) = some (.int .u8 b.toNat)
theorem add_block (a : Addr) (k : Nat) : (a.add k).block = a.block := by unfold Addr.add; split <;> rfl
theorem Vc.Ext.argCell {w w' : World} {ad : Addr} {i : Nat} {u : Value} (h : Ext none_ w w') (hlt : ad.block < w.heap.size) (hc : w.cell? (ad.add i) = some u) : w'.cell? (ad.add i) = some u := by
  rw [← hc]
  exact World.cell?_of_block (h.block _ (by rw [add_block]; exact hlt) id)
theorem ixaG {st : Sty} [Wy st] {P : Program} {ds : List Deferred} {n : Nat} {Q : Exit → Act → World → Prop} {E : Env} {w : World} {ops : Array Oper} {l : List Oper} {d : Nat} {ty : TypeId} {pos : String} {af : Array Edge}
    {t e : TypeId} {x i : Operand} {ad : Addr} {m c sz : Nat} {κ : IntKind} {j : Int} (hx : opd E x = some (.slice (some ad) m c)) (hi : opd E i = some (.int κ j)) (hu : P.underlying t = some (.slice e)) (hs : szB P e = some sz) (hd : Nat.blt d n = true) (h0 : 0 ≤ j) (h1 : j < m)
    (k : LY st P ds n ops l Q ((d, .pointer (some (ad.add (j.toNat * sz)))) :: E) w) : LY st P ds n ops (⟨some d, .indexAddr t x i, ty, pos, af, none⟩ :: l) Q E w :=
  LY.rd _ hd (fun ac ha w _ => by simp [execOp, opd_eval ha hx, opd_eval ha hi, Instr.indexAt, asIntOf, underlying, program, Sem.run, hu, h0, h1, Vc.run_sizeOf hs]) k

theorem two_keep {w w' : World} {bt bm : Nat} {m : Tr.T} {sz : Int} {v : Value} {l : List UInt8} (hT : TreeAt w bt bm m sz) (h : RowB w v l) (hx : Ext (Two bt bm) w w') : RowB w' v l := h.extK hx hT.kd

theorem c_TreeOrder {w : World} {v : Value} {l : List UInt8} (turn : UInt8) (hv : ArgB w v l) :
    Calls P 8 #[v, .int .u8 turn.toNat] w fun e w' => e = .returned (.bool true) ∧ Ext none_ w w' := by
  obtain ⟨a, c, rfl, hn, hmx, hcell⟩ := hv
  have htl := turn.toNat_lt
  refine enter (l := [_, _]) (n := 71) Tryz.func8 rfl rfl rfl ?_
  refine W.seq ?_
  refine W.reg <| asg rfl rfl <| L.nil ?_
  refine N.th ?_
  refine W.seq ?_
  refine W.seq ?_
  refine W.reg <| call (vs := []) rfl rfl ok_known (c_known w) ?_
  rintro e w1 ⟨rfl, hx1⟩
  refine ⟨_, rfl, ?_⟩
  refine notB rfl rfl <| L.nil ?_
  refine N.th ?_
  refine W.condF rfl ?_
  refine W.skip ?_
  refine N.th ?_
  refine W.seq ?_
  refine W.seq ?_
  refine W.reg <| mv rfl rfl <| lenV rfl u_bytes rfl <| gtrI rfl rfl rfl <| L.nil ?_
  refine N.th ?_
  refine W.cond rfl (fun h => ?_) (fun h => ?_)
  · refine W.seq ?_
    refine W.reg <| asg rfl rfl <| L.nil ?_
    refine N.th ?_
    refine W.ret ?_
    refine N.rth ?_
    refine N.ret1 rfl rfl ?_   -- RETURN
    exact ⟨rfl, hx1⟩
  have hl : l.length ≤ 12 := by simp at h; omega
  refine W.skip ?_
  refine N.th ?_
  refine W.seq ?_
  refine W.reg <| call (vs := []) rfl rfl ok_New (c_New w1) ?_
  rintro e w2 ⟨at_, am, rfl, hat, ham, hA2, hx2⟩
  refine ⟨_, rfl, ?_⟩
  refine call (vs := []) rfl rfl ok_New (c_New w2) ?_
  rintro e w3 ⟨bt, bm, rfl, hbt, hbm, hB3, hx3⟩
  refine ⟨_, rfl, ?_⟩
  refine asg rfl rfl <| asg rfl rfl <| L.nil ?_
  refine N.th ?_
  refine W.seq ?_
  refine W.seq ?_
  refine W.reg <| asg rfl rfl <| L.nil ?_
  refine N.th ?_
  refine W.block ?_
  have hA3 := hA2.ext0 hx3
  have hlt2 := hA2.lt
  have hdis : at_ ≠ bt ∧ am ≠ bm ∧ at_ ≠ bm ∧ am ≠ bt := ⟨by omega, by omega, by omega, by omega⟩
  have hs1 := hx1.size
  have hs2 := hx2.size
  have hs3 := hx3.size
  have hx03 := hx1.trans (hx2.trans hx3)
  refine W.loop (X := Nat × Tr.T × Tr.T) (fun x => [(7, .int .i64 x.1), (0, .slice a l.length c), (1, .int .u8 turn.toNat), (5, pT at_), (6, pT bt)])
    (fun x w' => x.1 ≤ l.length ∧ TreeAt w' at_ am x.2.1 (Tr.size x.2.1) ∧ TreeAt w' bt bm x.2.2 (Tr.size x.2.2) ∧ Tr.Names (fun p => p) x.2.1 (l.take x.1) ∧ Tr.Names (fun p => p) x.2.2 (turned l turn.toNat x.1) ∧ Ext none_ w w') (fun x => l.length - x.1) (0, [], []) ⟨rfl, rfl, rfl, rfl, rfl, trivial⟩
    ⟨by omega, hA3, hB3, Tr.Names.nil _, Tr.Names.nil _, hx03⟩ ?_
  rintro ⟨i, ma, mb⟩ w4 ⟨hi, hA4, hB4, hNa, hNb, hx4⟩
  dsimp only at hi hA4 hB4 hNa hNb ⊢
  refine W.seq ?_
  refine W.seq ?_
  refine W.reg <| mv rfl rfl <| mv rfl rfl <| lenV rfl u_bytes rfl <| lssI rfl rfl rfl <| L.nil ?_
  refine N.th ?_
  refine W.cond rfl (fun h => ?_) (fun h => ?_)
  · refine W.skip ?_
    refine N.th ?_
    have hi1 : i < l.length := by simp at h; omega
    have hj1 : (i + turn.toNat) % l.length < l.length := Nat.mod_lt _ (by omega)
    obtain ⟨k, hk⟩ : ∃ k, l[i]? = some k := ⟨_, List.getElem?_eq_getElem hi1⟩
    obtain ⟨j, hj⟩ : ∃ j, l[(i + turn.toNat) % l.length]? = some j := ⟨_, List.getElem?_eq_getElem hj1⟩
    have htk : (l.take i).length = i := by rw [List.length_take]; omega
    have htn : (turned l turn.toNat i).length = i := by simp [turned]
    obtain ⟨ma', hwa, hNa'⟩ := hNa.write k (by have := nameB_len k; omega) (by omega)
    obtain ⟨mb', hwb, hNb'⟩ := hNb.write j (by have := nameB_len j; omega) (by omega)
    have htk1 : l.take i ++ [k] = l.take (i + 1) := by rw [List.take_add_one, hk]; rfl
    have htn1 : turned l turn.toNat i ++ [j] = turned l turn.toNat (i + 1) := by rw [turned_succ, hj]; rfl
    rw [htk1] at hNa'
    rw [htn1] at hNb'
    have hla := hNa.len
    have hlb := hNb.len
    have hba := hNa.bytes
    have hbb := hNb.bytes
    rw [htk] at hla hba
    rw [htn] at hlb hbb
    refine W.seq ?_
    refine W.block ?_
    refine W.seq ?_
    refine W.reg <| mv rfl rfl <| mv rfl rfl <| cvtI (c := (turn.toNat : Int)) rfl u_int u_u8 rfl (w64 (by omega) (by omega)) <| addI (c := ((i + turn.toNat : Nat) : Int)) rfl rfl rfl (by rw [w64 (by omega) (by omega)]; simp) <| mv rfl rfl <| lenV rfl u_bytes rfl <| remI (c := (((i + turn.toNat) % l.length : Nat) : Int)) rfl rfl rfl (by omega) rfl <| asg rfl rfl <| L.nil ?_
    refine N.th ?_
    refine W.seqM (fun E w' => E = [(58, .bool false), (7, .int .i64 i), (0, .slice a l.length c), (1, .int .u8 turn.toNat), (5, pT at_), (6, pT bt)] ∧ TreeAt w' at_ am ma' (Tr.size ma') ∧ TreeAt w' bt bm mb' (Tr.size mb') ∧ Ext none_ w w') ?_ ?_
    · have hdr := Ext.drew none_ w4
      obtain ⟨ad, rfl, hadl, hck⟩ := hcell i k hk
      obtain ⟨ad', e', -, hcj⟩ := hcell _ j hj
      cases e'
      have hki : ∀ w', Ext none_ w w' → w'.cell? (ad.add (i * 1)) = some (.int .u8 k.toNat) := fun w' h => by rw [Nat.mul_one]; exact h.argCell hadl hck
      have hkj : ∀ w', Ext none_ w w' → w'.cell? (ad.add (((i + turn.toNat) % l.length) * 1)) = some (.int .u8 j.toNat) := fun w' h => by rw [Nat.mul_one]; exact h.argCell hadl hcj
      have hTw : ∀ {x y : Nat}, w.heap.size ≤ x → w.heap.size ≤ y → ∀ i, i < w.heap.size → Two x y i → none_ i := by
        rintro x y h1 h2 i hi (e | e) <;> omega
      refine W.draw [] false (fun w' => Ext none_ w w') [0, 1, 2, 3, 4, 6, 7, 8, 9, 5, 10, 11, 12, 13, 14, 15, 16, 17, 18, 19, 21, 22, 23, 24, 20, 25, 26, 27, 28, 29] rfl rfl (by kernel_rfl) (hx4.trans hdr) ?_   -- held
      refine mv rfl rfl <| mv rfl rfl <| mv rfl rfl <| ixaG rfl rfl u_bytes sz_u8 rfl (by omega) (by omega) <| ldK rfl ag_u8 rfl hki <| mv rfl rfl <| mv rfl rfl <| ixaG rfl rfl u_bytes sz_u8 rfl (by omega) (by omega) <| ldK rfl ag_u8 rfl hki <| callH (vs := [_]) rfl rfl ok_name (c_name k _) ?_
      rintro e w5 ⟨rfl, hx5⟩
      refine ⟨_, rfl, .inr fun h => h.trans hx5, ?_⟩
      refine callH (vs := [_]) rfl rfl ok_name (c_name k _) ?_
      rintro e w6 ⟨rfl, hx6⟩
      refine ⟨_, rfl, .inr fun h => h.trans hx6, ?_⟩
      have hnk := nameB_len k
      have hnj := nameB_len j
      refine cvtSB rfl u_str u_bytes u_u8 rfl (by omega) rfl fun nv w7 hnv hx7 _ => ⟨.inr fun h => h.trans hx7, ?_⟩
      have hx47 : Ext none_ w4 w7 := hdr.trans (hx5.trans (hx6.trans hx7))
      have hA7 : Tree w7 at_ am ma := ⟨hA4.ext0 hx47, by omega, by omega⟩
      refine callH (vs := [_, _, _]) rfl rfl ok_Write (c_Write (nameB k) hA7 hnv (by omega)) ?_
      rintro e w8 ⟨rfl, hA8, hx8⟩
      refine ⟨_, rfl, .inr fun h => h.trans' hx8 (hTw (by omega) (by omega)), ?_⟩
      rw [hwa] at hA8 ⊢
      have hB8 := (hB4.ext0 hx47).other hA7.at_ hx8 (fun e => hdis.1 e.symm) (fun e => hdis.2.1 e.symm)
      refine neqI rfl rfl rfl <| mv rfl rfl <| L.on rfl rfl rfl <| mv rfl rfl <| L.on rfl rfl rfl <| mv rfl rfl <| L.on rfl rfl rfl <| mv rfl rfl <| L.on rfl rfl rfl <| ixaG rfl rfl u_bytes sz_u8 rfl (by omega) (by omega) <| L.on rfl rfl rfl <| ldK rfl ag_u8 rfl hkj <| L.on rfl rfl rfl <| mv rfl rfl <| L.on rfl rfl rfl <| mv rfl rfl <| L.on rfl rfl rfl <| ixaG rfl rfl u_bytes sz_u8 rfl (by omega) (by omega) <| L.on rfl rfl rfl <| ldK rfl ag_u8 rfl hkj <| L.on rfl rfl rfl <| callH (vs := [_]) rfl rfl ok_name (c_name j _) ?_
      rintro e w9 ⟨rfl, hx9⟩
      refine ⟨_, rfl, .inr fun h => h.trans hx9, ?_⟩
      refine L.on rfl rfl rfl <| callH (vs := [_]) rfl rfl ok_name (c_name j _) ?_
      rintro e w10 ⟨rfl, hx10⟩
      refine ⟨_, rfl, .inr fun h => h.trans hx10, ?_⟩
      refine L.on rfl rfl rfl <| cvtSB rfl u_str u_bytes u_u8 rfl (by omega) rfl fun nv' w11 hnv' hx11 _ => ⟨.inr fun h => h.trans hx11, ?_⟩
      have hx811 : Ext none_ w8 w11 := hx9.trans (hx10.trans hx11)
      have hB11 : Tree w11 bt bm mb := ⟨hB8.ext0 hx811, by omega, by omega⟩
      refine L.on rfl rfl rfl <| callH (vs := [_, _, _]) rfl rfl ok_Write (c_Write (nameB j) hB11 hnv' (by omega)) ?_
      rintro e w12 ⟨rfl, hB12, hx12⟩
      refine ⟨_, rfl, .inr fun h => h.trans' hx12 (hTw (by omega) (by omega)), ?_⟩
      rw [hwb] at hB12 ⊢
      refine L.on rfl rfl rfl <| neqI rfl rfl rfl <| pickF rfl rfl rfl <| L.nilH ?_
      refine N.th (N.meet [(58, .bool false), (7, _), (0, _), (1, _), (5, _), (6, _)] ⟨rfl, rfl, rfl, rfl, rfl, rfl, trivial⟩ ⟨rfl, (hA8.ext0 hx811).other hB11.at_ hx12 hdis.1 hdis.2.1, hB12, ?_⟩)
      exact (((hx4.trans hx47).trans' hx8 (hTw (by omega) (by omega))).trans hx811).trans' hx12 (hTw (by omega) (by omega))
    rintro E w5 ⟨rfl, hA5, hB5, hx5⟩
    refine W.condF rfl ?_
    refine W.skip ?_
    refine N.inb ?_
    refine N.th ?_
    refine W.reg <| mv rfl rfl <| addI (c := (i : Int) + 1) rfl rfl rfl (w64 (by omega) (by omega)) <| asg rfl rfl <| L.nil ?_
    refine N.th (N.round (x := (i + 1, ma', mb')) ⟨?_, rfl, rfl, rfl, rfl, trivial⟩ ⟨by dsimp only; omega, hA5, hB5, hNa', hNb', hx5⟩ (by dsimp only; omega))   -- ROUND
    simp [getE]
  · refine W.exit ?_
    refine N.xth ?_
    refine N.xth ?_
    refine N.xeq ?_
    refine N.th ?_
    have hil : i = l.length := by simp at h; omega
    subst hil
    rw [List.take_length] at hNa
    have hp := hNa.same hNb (turned_all l turn.toNat)
    have hla := hNa.len
    have hba := hNa.bytes
    have hfs := Tr.files_perm hNb.nodup hp
    have hsz := Tr.size_perm hp
    have hlp := hp.length_eq
    refine W.seq ?_
    refine W.reg <| mv rfl rfl <| call (vs := [_]) rfl rfl ok_Files (c_Files hA4 (by omega) (by omega)) ?_
    rintro e w5 ⟨va, Ea, rfl, hEa, hva, hfa, hx5⟩
    refine ⟨_, rfl, ?_⟩
    refine mv rfl rfl <| call (vs := [_]) rfl rfl ok_Files (c_Files (hB4.ext0 hx5) (by omega) (by omega)) ?_
    rintro e w6 ⟨vb, Eb, rfl, hEb, hvb, hfb, hx6⟩
    refine ⟨_, rfl, ?_⟩
    have hFa : FilesAt w6 va Ea := FilesAt.ext0 ⟨Row.own hva, fun z hz => Row.own (hfa z hz)⟩ hx6
    have hFb : FilesAt w6 vb Eb := ⟨Row.own hvb, fun z hz => Row.own (hfb z hz)⟩
    have hEal : Ea.length = ma.length := by have := congrArg List.length hEa; simpa [Tr.files] using this
    have hEbl : Eb.length = mb.length := by have := congrArg List.length hEb; simpa [Tr.files] using this
    refine call (vs := [_, _]) rfl rfl ok_HFiles (c_HFiles hFa hFb (by omega) (by omega)) ?_
    rintro e w7 ⟨rfl, hx7⟩
    refine ⟨_, rfl, ?_⟩
    rw [decide_eq_true (show Ea.map fnd = Eb.map fnd by rw [hEa, hEb, hfs])]
    have hA7 := ((hA4.ext0 hx5).ext0 hx6).ext0 hx7
    have hB7 := ((hB4.ext0 hx5).ext0 hx6).ext0 hx7
    refine mv rfl rfl <| L.on rfl rfl rfl <| mv rfl rfl <| L.on rfl rfl rfl <| call (vs := [_]) rfl rfl ok_Size (c_Size hA7) ?_
    rintro e w8 ⟨rfl, rfl⟩
    refine ⟨_, rfl, ?_⟩
    refine L.on rfl rfl rfl <| mv rfl rfl <| L.on rfl rfl rfl <| call (vs := [_]) rfl rfl ok_Size (c_Size hB7) ?_
    rintro e w9 ⟨rfl, rfl⟩
    refine ⟨_, rfl, ?_⟩
    refine L.on rfl rfl rfl <| eqlI rfl rfl rfl <| pickT rfl rfl rfl <| asg rfl rfl <| L.nil ?_
    refine N.th ?_
    refine W.ret ?_
    refine N.ret1 rfl rfl ?_   -- RETURN
    exact ⟨by simp [hsz], hx4.trans (hx5.trans (hx6.trans hx7))⟩
end Go.Proofs.YtmdpmpdlkaogdaaGreatDoor
