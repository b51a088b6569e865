/- Walks: slices.Clone, slices.Grow, slices.Concat of bytes. -/
import Derived.Test.YtmdpmpdlkaogdaaGreatDoorTa
namespace Go.Proofs.YtmdpmpdlkaogdaaGreatDoor
open Go Go.RowKit Vc

theorem ok_Clone : FnOk P 66 := ⟨_, Tryz.func66, by kernel_rfl, by kernel_rfl⟩
theorem ok_Grow : FnOk P 106 := ⟨_, Tryz.func106, by kernel_rfl, by kernel_rfl⟩
theorem ok_Concat : FnOk P 96 := ⟨_, Tryz.func96, by kernel_rfl, by kernel_rfl⟩

/-- Bytes of a call's own. -/
abbrev Byts (B : Nat) (w : World) (v : Value) (l : List UInt8) : Prop := w.ownsRow B tB 1 v l.length (encB l)
/-- Bytes that may be read. -/
abbrev RowB (w : World) (v : Value) (l : List UInt8) : Prop := Row w v tB 1 l.length (encB l)
/-- Bytes that came in. -/
abbrev BytA (w : World) (v : Value) (l : List UInt8) : Prop := RowA w v l.length (encB l)

theorem c_Clone {w : World} {v : Value} {l : List UInt8} (hv : BytA w v l) (hl : l.length ≤ 1000000000) :
    Calls P 66 #[v] w fun e w' => ∃ v', e = .returned v' ∧ Byts w.heap.size w' v' l ∧ Ext none_ w w' ∧ (v' = .slice none 0 0 ↔ v = .slice none 0 0) := by
  rcases hv.form with ⟨rfl, h1⟩ | ⟨ad, c, rfl, h1, h2, hcell⟩
  · have hl0 : l = [] := List.eq_nil_of_length_eq_zero h1
    subst hl0
    refine enter (l := [_]) (n := 8) Tryz.func66 rfl rfl rfl ?_
    refine W.seq ?_
    refine W.reg <| asg rfl rfl <| L.nil ?_
    refine N.th ?_
    refine W.seq ?_
    refine W.seq ?_
    refine W.reg <| mv rfl rfl <| eqlVN rfl u_bytes rfl <| L.nil ?_
    refine N.th ?_
    refine W.condT rfl ?_
    refine W.seq ?_
    refine W.reg <| asg rfl rfl <| L.nil ?_
    refine N.th ?_
    refine W.ret ?_
    refine N.rth ?_
    refine N.ret1 rfl rfl ?_   -- RETURN
    exact ⟨_, rfl, own_nil _ _ _ _, Ext.refl _ _, by simp⟩
  · refine enter (l := [_]) (n := 8) Tryz.func66 rfl rfl rfl ?_
    refine W.seq ?_
    refine W.reg <| asg rfl rfl <| L.nil ?_
    refine N.th ?_
    refine W.seq ?_
    refine W.seq ?_
    refine W.reg <| mv rfl rfl <| eqlVN rfl u_bytes rfl <| L.nil ?_
    refine N.th ?_
    refine W.condF rfl ?_
    refine W.skip ?_
    refine N.th ?_
    refine W.seq ?_
    refine W.reg <| bls (vs := #[]) (cs := #[]) (e := tB) rfl rfl (fun _ => by kernel_rfl) <| mv rfl rfl <|
      app (xs := []) (B := w.heap.size) rfl rfl rfl el_bytes ⟨by simp, .inr ⟨w.heap.size, 0, #[], rfl, Nat.le_refl _, heap_new _ _, Nat.le_refl _, by simp [maxLen], rfl, rfl⟩⟩ (by simp) (fun j u hj => by
        have hc := hcell j u hj
        rw [← hc.2]; exact World.cell?_of_block (heap_alloc _ _ (by rw [add_block]; exact hc.1))) (encB_one l) (by omega) (by simp only [maxLen]; omega) (by simp) fun v' w2 hown2 hx2 hn _ => ?_
    refine asg rfl rfl <| L.nil ?_
    refine N.th ?_
    refine W.ret ?_
    refine N.ret1 rfl rfl ?_   -- RETURN
    refine ⟨_, rfl, by simpa [Byts] using hown2, (Ext.alloc none_ w _).trans' hx2 fun i hi hh => ?_, ?_⟩
    · have : w.heap.size = i := by simpa [Value.ownBlock] using hh
      omega
    · rw [hn]; simp

theorem appZ {P : Program} {Q : Exit → Act → World → Prop} {ds : List Deferred} {n : Nat} {E : Env} {w : World} {ops : Array Oper} {l : List Oper} {mm : Nat} {d : Nat} {ty : TypeId} {pos : String} {af : Array Edge}
    {t tn e : TypeId} {z : Value} {bytes k : Nat} {s x : Operand} {κ : IntKind} (hs : opd E s = some (.slice none 0 0)) (hx : opd E x = some (.int κ k)) (hd : Nat.blt d n = true) (ht : ElT P t e z 1 bytes) (htn : P.underlying tn = some (.int .i64)) (hk0 : 0 < k) (hk : k ≤ 1000000000) (hb : bytes ≤ 1000)
    (kk : ∀ cap w', k ≤ cap → w'.ownsRow w.heap.size e 1 (.slice (some ⟨w.heap.size, 0, none⟩) 0 cap) 0 [] → Ext none_ w w' → L Fence.wide mm P ds n ops l Q ((d, .slice (some ⟨w.heap.size, 0, none⟩) k cap) :: E) w') :
    L Fence.wide mm P ds n ops (⟨some d, .call ⟨.builtin .append, #[s, x], #[t, tn]⟩, ty, pos, af, none⟩ :: l) Q E w := by
  obtain ⟨i, hi, hz, hsz, hby⟩ := ht.info
  have hr := Lib.run_append_grow_zeros (P := P) w t tn ty e i z κ .i64 ht.u htn hi hz none 0 0 [] (run_firstCells_none _ _ _ _ _) k hk0 (by omega) (by omega) (by omega)
    (by rw [hby]; have : k * bytes ≤ 1000000000 * 1000 := Nat.mul_le_mul hk hb
        omega)
    (by rw [hby, Nat.zero_add]; exact grow_fits hk0 (by have : k * bytes ≤ 1000000000 * 1000 := Nat.mul_le_mul hk hb
                                                        omega))
  rw [Nat.zero_add] at hr
  have hge := grownCap_ge w k 0 e
  have hle := grownCap_le_maxLen w k 0 e (by simp only [maxLen]; omega)
  generalize hW2 : World.alloc _ _ = w2 at hr
  refine bltin (vs := [.slice none 0 0, .int κ k]) (w' := w2) (by simp [hs, hx]) hd (fun _ => by simp [builtin, hr]) (kk _ _ hge ?_ (by rw [← hW2]; exact (Ext.drew none_ w).trans (Ext.alloc _ _ _)))
  rw [← hW2]
  refine ⟨by simp, .inr ⟨_, _, _, rfl, Nat.le_refl _, heap_new w.drew _, Nat.zero_le _, hle, ?_, by simp⟩⟩
  have h1 : z.cells.size = 1 := ht.c
  simp [Builtin.zeroCells, h1]
  omega

theorem c_Grow (w : World) (n : Nat) (hn : n ≤ 1000000000) :
    Calls P 106 #[.slice none 0 0, .int .i64 n] w fun e w' => ∃ v', e = .returned v' ∧ Byts w.heap.size w' v' [] ∧ Ext none_ w w' := by
  refine enter (l := [_, _]) (n := 27) Tryz.func106 rfl rfl rfl ?_
  refine W.seq ?_
  refine W.reg <| asg rfl rfl <| L.nil ?_
  refine N.th ?_
  refine W.seq ?_
  refine W.seq ?_
  refine W.reg <| mv rfl rfl <| lssI rfl rfl rfl <| L.nil ?_
  refine N.th ?_
  refine W.cond rfl (fun h => by simp at h; omega) (fun h => ?_)
  refine W.skip ?_
  refine N.th ?_
  refine W.seqM (fun E w' => ∃ v, E = [(0, v)] ∧ Byts w.heap.size w' v [] ∧ Ext none_ w w') ?_ ?_   -- CUT
  · refine W.seq ?_
    refine W.reg <| mv rfl rfl <| mv rfl rfl <| capV rfl u_bytes rfl <| mv rfl rfl <| lenV rfl u_bytes rfl <| subI (c := 0) rfl rfl rfl rfl <| subI (c := n) rfl rfl rfl (by simpa using w64 (a := (n : Int)) (by omega) (by omega)) <| asg rfl rfl <| L.nil ?_
    refine N.th ?_
    refine W.seq ?_
    refine W.reg <| mv rfl rfl <| gtrI rfl rfl rfl <| L.nil ?_
    refine N.th ?_
    refine W.cond rfl (fun h => ?_) (fun h => ?_)
    · have h0 : 0 < n := by simpa using h
      refine W.reg <| mv rfl rfl <| mv rfl rfl <| capV rfl u_bytes rfl <| slVh rfl rfl u_bytes el_bytes.szB rfl (by omega) (by omega) <| mv rfl rfl <| appZ rfl rfl rfl el_bytes u_int h0 hn (by omega) fun cap w' hc hown hx => ?_
      refine mv rfl rfl <| lenV rfl u_bytes rfl <| slVh rfl rfl u_bytes el_bytes.szB rfl (by omega) (by omega) <| asg rfl rfl <| L.nil ?_
      exact N.th (N.meet [(0, _)] ⟨rfl, trivial⟩ ⟨_, rfl, hown, hx⟩)   -- MEET
    · refine W.skip ?_
      exact N.th (N.meet [(0, _)] ⟨rfl, trivial⟩ ⟨_, rfl, own_nil _ _ _ _, Ext.refl _ _⟩)   -- MEET
  rintro E w' ⟨v, rfl, hown, hx⟩
  refine W.seq ?_
  refine W.reg <| mv rfl rfl <| asg rfl rfl <| L.nil ?_
  refine N.th ?_
  refine W.ret ?_
  refine N.ret1 rfl rfl ?_   -- RETURN
  exact ⟨_, rfl, hown, hx⟩

/-- Rows of bytes in a row. -/
def total (vs : List (Value × List UInt8)) : List UInt8 := (vs.map (·.2)).flatten
theorem total_cons (p : Value × List UInt8) (vs) : total (p :: vs) = p.2 ++ total vs := by simp [total]
theorem total_snoc (p : Value × List UInt8) (vs) : total (vs ++ [p]) = total vs ++ p.2 := by simp [total]

theorem c_Concat {w : World} {bk cap : Nat} {vs : List (Value × List UInt8)} (hc : ∀ (j : Nat) p, vs[j]? = some p → w.cell? ⟨bk, 0 + j, none⟩ = some p.1) (hr : ∀ p ∈ vs, BytA w p.1 p.2) (hbk : bk < w.heap.size) (hn : (total vs).length ≤ 1000000000) (hvl : vs.length ≤ 1000) :
    Calls P 96 #[.slice (some ⟨bk, 0, none⟩) vs.length cap] w fun e w' => ∃ v', e = .returned v' ∧ Byts w.heap.size w' v' (total vs) ∧ Ext none_ w w' := by
  have keep : ∀ {w1 : World}, Ext none_ w w1 → (∀ (j : Nat) p, vs[j]? = some p → w1.cell? ⟨bk, 0 + j, none⟩ = some p.1) ∧ (∀ p ∈ vs, BytA w1 p.1 p.2) := fun {w1} hx => ⟨fun j p hj => by
    rw [← hc j p hj]; exact World.cell?_of_block (hx.block bk hbk id), fun p hp => (hr p hp).ext0 hx⟩
  refine enter (l := [_]) (n := 36) Tryz.func96 rfl rfl rfl ?_
  refine W.seq ?_
  refine W.reg <| asg rfl rfl <| L.nil ?_
  refine N.th ?_
  refine W.seq ?_
  refine W.reg <| asg rfl rfl <| L.nil ?_
  refine N.th ?_
  refine W.seq ?_
  refine W.seq ?_
  refine W.reg <| mv rfl rfl <| lenV rfl u_bss rfl <| mv rfl rfl <| L.nil ?_
  refine N.th ?_
  refine W.block ?_
  refine W.loop (X := List (Value × List UInt8) × List (Value × List UInt8)) (fun x => [(11, .int .i64 x.1.length), (3, .int .i64 (total x.1).length), (10, .int .i64 vs.length), (9, .slice (some ⟨bk, 0, none⟩) vs.length cap), (0, .slice (some ⟨bk, 0, none⟩) vs.length cap)]) (fun x w' => vs = x.1 ++ x.2 ∧ w' = w) (fun x => x.2.length) ([], vs) ⟨rfl, rfl, rfl, rfl, rfl, trivial⟩ ⟨rfl, rfl⟩ ?_
  rintro ⟨pre, rest⟩ w1 ⟨hl, rfl⟩
  dsimp only at hl ⊢
  refine W.seq ?_
  refine W.reg <| lssI rfl rfl rfl <| L.nil ?_
  refine N.th ?_
  refine W.seq ?_
  refine W.cond rfl (fun h => ?_) (fun h => ?_)
  · refine W.skip ?_
    refine N.th ?_
    cases rest with
    | nil => simp [hl] at h
    | cons p rest =>
    have hpl : pre.length + 1 ≤ vs.length := by rw [hl]; simp
    have hpt : (total pre).length + p.2.length ≤ (total vs).length := by rw [hl]; simp [total]
    have hcp := hc pre.length p (by rw [hl]; simp)
    obtain ⟨a, c, hpv, hn1, hm1, -, -⟩ := id (hr p (by rw [hl]; simp))
    obtain ⟨pv, pb⟩ := p
    dsimp only at hcp hpv hn1 hpt
    subst hpv
    refine W.seq ?_
    refine W.block ?_
    refine W.seq ?_
    refine W.reg <| ixa rfl rfl u_bss sz_bytes rfl (by omega) (by omega) <| ld1 rfl ag_bytes rfl (by rw [Nat.mul_one]; exact hcp) <| asg rfl rfl <| L.nil ?_
    refine N.th ?_
    refine W.seq ?_
    refine W.reg <| mv rfl rfl <| mv rfl rfl <| lenV rfl u_bytes rfl <| addI (c := ((total pre).length + pb.length : Nat)) rfl rfl rfl (by simpa using w64 (a := ((total pre).length : Int) + pb.length) (by omega) (by omega)) <| asg rfl rfl <| L.nil ?_
    refine N.th ?_
    refine W.seq ?_
    refine W.reg <| mv rfl rfl <| lssI rfl rfl rfl <| L.nil ?_
    refine N.th ?_
    refine W.cond rfl (fun h => by simp at h; omega) (fun h => ?_)
    refine W.skip ?_
    refine N.inb ?_
    refine N.th ?_
    refine W.reg <| addI (c := (pre.length : Int) + 1) rfl rfl rfl (w64 (by omega) (by omega)) <| mv rfl rfl <| L.nil ?_
    refine N.th (N.round (x := (pre ++ [(.slice a pb.length c, pb)], rest)) ⟨?_, ?_, rfl, rfl, rfl, trivial⟩ ⟨by simp [hl], rfl⟩ (by simp))   -- ROUND
    · simp [getE]
    · show some (Value.int .i64 (((total pre).length + pb.length : Nat) : Int)) = _
      rw [total_snoc, List.length_append]
  · refine W.exit ?_
    refine N.xth ?_
    refine N.xth ?_
    refine N.xeq ?_
    cases rest with
    | cons d rest => simp [hl] at h; omega
    | nil =>
    obtain rfl : vs = pre := by simpa using hl
    refine N.th ?_
    refine W.seq ?_
    refine W.reg <| mv rfl rfl <| call (vs := [_, _]) rfl rfl ok_Grow (c_Grow w1 _ hn) ?_
    rintro e w2 ⟨v0, rfl, hown0, hx0⟩
    refine ⟨_, rfl, ?_⟩
    refine asg rfl rfl <| L.nil ?_
    refine N.th ?_
    refine W.seq ?_
    refine W.seq ?_
    refine W.reg <| mv rfl rfl <| lenV rfl u_bss rfl <| mv rfl rfl <| L.nil ?_
    refine N.th ?_
    refine W.block ?_
    refine W.loop (X := List (Value × List UInt8) × List (Value × List UInt8) × Value) (fun x => [(27, .int .i64 x.1.length), (6, x.2.2), (26, .int .i64 vs.length), (25, .slice (some ⟨bk, 0, none⟩) vs.length cap)])
      (fun x w' => vs = x.1 ++ x.2.1 ∧ Byts w1.heap.size w' x.2.2 (total x.1) ∧ Ext none_ w1 w') (fun x => x.2.1.length) ([], vs, v0) ⟨rfl, rfl, rfl, rfl, trivial⟩ ⟨rfl, hown0, hx0⟩ ?_
    rintro ⟨pre, rest, v⟩ w3 ⟨hl3, hown, hx⟩
    dsimp only at hl3 hown ⊢
    refine W.seq ?_
    refine W.reg <| lssI rfl rfl rfl <| L.nil ?_
    refine N.th ?_
    refine W.seq ?_
    refine W.cond rfl (fun h => ?_) (fun h => ?_)
    · refine W.skip ?_
      refine N.th ?_
      cases rest with
      | nil => rw [hl3] at h; simp at h
      | cons p rest =>
      have hpl : pre.length + 1 ≤ vs.length := by rw [hl3]; simp
      have hpt : (total pre).length + p.2.length ≤ (total vs).length := by rw [hl3]; simp [total]
      obtain ⟨hc3, hr3⟩ := keep hx
      have hcp := hc3 pre.length p (by rw [hl3]; simp)
      have hrp := hr3 p (by rw [hl3]; simp)
      obtain ⟨pv, pb⟩ := p
      dsimp only at hcp hrp hpt
      refine W.seq ?_
      refine W.block ?_
      refine W.seq ?_
      refine W.reg <| ixa rfl rfl u_bss sz_bytes rfl (by omega) (by omega) <| ld1 rfl ag_bytes rfl (by rw [Nat.mul_one]; exact hcp) <| asg rfl rfl <| L.nil ?_
      refine N.th ?_
      rcases hrp.form with ⟨rfl, h1⟩ | ⟨ad, c, rfl, h1, h2, hcell⟩
      · have hl0 : pb = [] := List.eq_nil_of_length_eq_zero h1
        subst hl0
        obtain ⟨a, ca, rfl, hca, _⟩ := own_slice hown
        refine W.reg <| mv rfl rfl <| mv rfl rfl <| appN rfl rfl rfl el_bytes hca <| asg rfl rfl <| L.nil ?_
        refine N.inb ?_
        refine N.th ?_
        refine W.reg <| addI (c := (pre.length : Int) + 1) rfl rfl rfl (w64 (by omega) (by omega)) <| mv rfl rfl <| L.nil ?_
        refine N.th (N.round (x := (pre ++ [(.slice none 0 0, [])], rest, .slice a (total pre).length ca)) ⟨by simp [getE], rfl, rfl, rfl, trivial⟩ ⟨by simp [hl3], by simpa [Byts, total_snoc] using hown, hx⟩ (by simp))
      · refine W.reg <| mv rfl rfl <| mv rfl rfl <| app rfl rfl rfl el_bytes hown (by simp) (fun j u hj => (hcell j u hj).2) (encB_one pb) (by simp only [Nat.mul_one]; omega) (by simp only [maxLen]; omega) hx.size fun v' w4 hown4 hx4 _ _ => ?_
        refine asg rfl rfl <| L.nil ?_
        refine N.inb ?_
        refine N.th ?_
        refine W.reg <| addI (c := (pre.length : Int) + 1) rfl rfl rfl (w64 (by omega) (by omega)) <| mv rfl rfl <| L.nil ?_
        refine N.th (N.round (x := (pre ++ [(.slice (some ad) pb.length c, pb)], rest, v')) ⟨by simp [getE], rfl, rfl, rfl, trivial⟩ ⟨by simp [hl3], by simpa [Byts, total_snoc, encB] using hown4, hx.own hown hx4⟩ (by simp))
    · refine W.exit ?_
      refine N.xth ?_
      refine N.xth ?_
      refine N.xeq ?_
      refine N.th ?_
      refine W.seq ?_
      refine W.reg <| mv rfl rfl <| asg rfl rfl <| L.nil ?_
      refine N.th ?_
      refine W.ret ?_
      refine N.ret1 rfl rfl ?_   -- RETURN
      cases rest with
      | cons d rest => rw [hl3] at h; simp at h; omega
      | nil =>
      obtain rfl : vs = pre := by simpa using hl3
      exact ⟨_, rfl, hown, hx⟩
end Go.Proofs.YtmdpmpdlkaogdaaGreatDoor
