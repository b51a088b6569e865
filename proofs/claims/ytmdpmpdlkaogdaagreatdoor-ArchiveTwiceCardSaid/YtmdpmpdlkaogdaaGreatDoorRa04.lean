/- Walks: slices.Clone, slices.Grow, slices.Concat of bytes. The walk of sha's turn: one block. The calculus: appending one element; slices cut with a cap; appending to what has no room. Nothing here speaks of the program. Walks: haversackref7.Split, bad, glue. Walks: haversackref7.clean, Clean, Parts, Parent, Within. -/
import Derived.Test.YtmdpmpdlkaogdaaGreatDoorRa03
import Derived.Test.YtmdpmpdlkaogdaaGreatDoorRa02
import Derived.ArgAppend

namespace Go.Proofs.YtmdpmpdlkaogdaaGreatDoor
open Go Go.RowKit Vc

theorem ok_Clone : FnOk P 66 := ⟨_, Tryz.func66, by kernel_rfl, by kernel_rfl⟩
theorem ok_Grow : FnOk P 106 := ⟨_, Tryz.func106, by kernel_rfl, by kernel_rfl⟩
theorem ok_Concat : FnOk P 96 := ⟨_, Tryz.func96, by kernel_rfl, by kernel_rfl⟩

/-- Bytes of a call's own. -/
abbrev Byts (B : Nat) (w : World) (v : Value) (l : List UInt8) : Prop := w.ownsRow B tB 1 v l.length (encB l)
/-- Bytes that may be read. -/
abbrev RowB (w : World) (v : Value) (l : List UInt8) : Prop := Row w v tB 1 l.length (encB l)
/-- Bytes that came in. -/
abbrev BytA (w : World) (v : Value) (l : List UInt8) : Prop := RowA w v l.length (encB l)

theorem c_Clone {w : World} {v : Value} {l : List UInt8} (hv : BytA w v l) (hl : l.length ≤ 1000000000) :
    Calls P 66 #[v] w fun e w' => ∃ v', e = .returned v' ∧ Byts w.heap.size w' v' l ∧ Ext none_ w w' ∧ (v' = .slice none 0 0 ↔ v = .slice none 0 0) := by
  rcases hv.form with ⟨rfl, h1⟩ | ⟨ad, c, rfl, h1, h2, hcell⟩
  · have hl0 : l = [] := List.eq_nil_of_length_eq_zero h1
    subst hl0
    refine enter (l := [_]) (n := 8) Tryz.func66 rfl rfl rfl ?_
    refine W.seq ?_
    refine W.reg <| asg rfl rfl <| L.nil ?_
    refine N.th ?_
    refine W.seq ?_
    refine W.seq ?_
    refine W.reg <| mv rfl rfl <| eqlVN rfl u_bytes rfl <| L.nil ?_
    refine N.th ?_
    refine W.condT rfl ?_
    refine W.seq ?_
    refine W.reg <| asg rfl rfl <| L.nil ?_
    refine N.th ?_
    refine W.ret ?_
    refine N.rth ?_
    refine N.ret1 rfl rfl ?_   -- RETURN
    exact ⟨_, rfl, own_nil _ _ _ _, Ext.refl _ _, by simp⟩
  · refine enter (l := [_]) (n := 8) Tryz.func66 rfl rfl rfl ?_
    refine W.seq ?_
    refine W.reg <| asg rfl rfl <| L.nil ?_
    refine N.th ?_
    refine W.seq ?_
    refine W.seq ?_
    refine W.reg <| mv rfl rfl <| eqlVN rfl u_bytes rfl <| L.nil ?_
    refine N.th ?_
    refine W.condF rfl ?_
    refine W.skip ?_
    refine N.th ?_
    refine W.seq ?_
    refine W.reg <| bls (vs := #[]) (cs := #[]) (e := tB) rfl rfl (fun _ => by kernel_rfl) <| mv rfl rfl <|
      app (xs := []) (B := w.heap.size) rfl rfl rfl el_bytes ⟨by simp, .inr ⟨w.heap.size, 0, #[], rfl, Nat.le_refl _, heap_new _ _, Nat.le_refl _, by simp [maxLen], rfl, rfl⟩⟩ (by simp) (fun j u hj => by
        have hc := hcell j u hj
        rw [← hc.2]; exact World.cell?_of_block (heap_alloc _ _ (by rw [add_block]; exact hc.1))) (encB_one l) (by omega) (by simp only [maxLen]; omega) (by simp) fun v' w2 hown2 hx2 hn _ => ?_
    refine asg rfl rfl <| L.nil ?_
    refine N.th ?_
    refine W.ret ?_
    refine N.ret1 rfl rfl ?_   -- RETURN
    refine ⟨_, rfl, by simpa [Byts] using hown2, (Ext.alloc none_ w _).trans' hx2 fun i hi hh => ?_, ?_⟩
    · have : w.heap.size = i := by simpa [Value.ownBlock] using hh
      omega
    · rw [hn]; simp

theorem appZ {P : Program} {Q : Exit → Act → World → Prop} {ds : List Deferred} {n : Nat} {E : Env} {w : World} {ops : Array Oper} {l : List Oper} {mm : Nat} {d : Nat} {ty : TypeId} {pos : String} {af : Array Edge}
    {t tn e : TypeId} {z : Value} {bytes k : Nat} {s x : Operand} {κ : IntKind} (hs : opd E s = some (.slice none 0 0)) (hx : opd E x = some (.int κ k)) (hd : Nat.blt d n = true) (ht : ElT P t e z 1 bytes) (htn : P.underlying tn = some (.int .i64)) (hk0 : 0 < k) (hk : k ≤ 1000000000) (hb : bytes ≤ 1000)
    (kk : ∀ cap w', k ≤ cap → w'.ownsRow w.heap.size e 1 (.slice (some ⟨w.heap.size, 0, none⟩) 0 cap) 0 [] → Ext none_ w w' → L Fence.wide mm P ds n ops l Q ((d, .slice (some ⟨w.heap.size, 0, none⟩) k cap) :: E) w') :
    L Fence.wide mm P ds n ops (⟨some d, .call ⟨.builtin .append, #[s, x], #[t, tn]⟩, ty, pos, af, none⟩ :: l) Q E w := by
  obtain ⟨i, hi, hz, hsz, hby⟩ := ht.info
  have hr := Lib.run_append_grow_zeros (P := P) w t tn ty e i z κ .i64 ht.u htn hi hz none 0 0 [] (run_firstCells_none _ _ _ _ _) k hk0 (by omega) (by omega) (by omega)
    (by rw [hby]; have : k * bytes ≤ 1000000000 * 1000 := Nat.mul_le_mul hk hb
        omega)
    (by rw [hby, Nat.zero_add]; exact grow_fits hk0 (by have : k * bytes ≤ 1000000000 * 1000 := Nat.mul_le_mul hk hb
                                                        omega))
  rw [Nat.zero_add] at hr
  have hge := grownCap_ge w k 0 e
  have hle := grownCap_le_maxLen w k 0 e (by simp only [maxLen]; omega)
  generalize hW2 : World.alloc _ _ = w2 at hr
  refine bltin (vs := [.slice none 0 0, .int κ k]) (w' := w2) (by simp [hs, hx]) hd (fun _ => by simp [builtin, hr]) (kk _ _ hge ?_ (by rw [← hW2]; exact (Ext.drew none_ w).trans (Ext.alloc _ _ _)))
  rw [← hW2]
  refine ⟨by simp, .inr ⟨_, _, _, rfl, Nat.le_refl _, heap_new w.drew _, Nat.zero_le _, hle, ?_, by simp⟩⟩
  have h1 : z.cells.size = 1 := ht.c
  simp [Builtin.zeroCells, h1]
  omega

theorem c_Grow (w : World) (n : Nat) (hn : n ≤ 1000000000) :
    Calls P 106 #[.slice none 0 0, .int .i64 n] w fun e w' => ∃ v', e = .returned v' ∧ Byts w.heap.size w' v' [] ∧ Ext none_ w w' := by
  refine enter (l := [_, _]) (n := 27) Tryz.func106 rfl rfl rfl ?_
  refine W.seq ?_
  refine W.reg <| asg rfl rfl <| L.nil ?_
  refine N.th ?_
  refine W.seq ?_
  refine W.seq ?_
  refine W.reg <| mv rfl rfl <| lssI rfl rfl rfl <| L.nil ?_
  refine N.th ?_
  refine W.cond rfl (fun h => by simp at h; omega) (fun h => ?_)
  refine W.skip ?_
  refine N.th ?_
  refine W.seqM (fun E w' => ∃ v, E = [(0, v)] ∧ Byts w.heap.size w' v [] ∧ Ext none_ w w') ?_ ?_   -- CUT
  · refine W.seq ?_
    refine W.reg <| mv rfl rfl <| mv rfl rfl <| capV rfl u_bytes rfl <| mv rfl rfl <| lenV rfl u_bytes rfl <| subI (c := 0) rfl rfl rfl rfl <| subI (c := n) rfl rfl rfl (by simpa using w64 (a := (n : Int)) (by omega) (by omega)) <| asg rfl rfl <| L.nil ?_
    refine N.th ?_
    refine W.seq ?_
    refine W.reg <| mv rfl rfl <| gtrI rfl rfl rfl <| L.nil ?_
    refine N.th ?_
    refine W.cond rfl (fun h => ?_) (fun h => ?_)
    · have h0 : 0 < n := by simpa using h
      refine W.reg <| mv rfl rfl <| mv rfl rfl <| capV rfl u_bytes rfl <| slVh rfl rfl u_bytes el_bytes.szB rfl (by omega) (by omega) <| mv rfl rfl <| appZ rfl rfl rfl el_bytes u_int h0 hn (by omega) fun cap w' hc hown hx => ?_
      refine mv rfl rfl <| lenV rfl u_bytes rfl <| slVh rfl rfl u_bytes el_bytes.szB rfl (by omega) (by omega) <| asg rfl rfl <| L.nil ?_
      exact N.th (N.meet [(0, _)] ⟨rfl, trivial⟩ ⟨_, rfl, hown, hx⟩)   -- MEET
    · refine W.skip ?_
      exact N.th (N.meet [(0, _)] ⟨rfl, trivial⟩ ⟨_, rfl, own_nil _ _ _ _, Ext.refl _ _⟩)   -- MEET
  rintro E w' ⟨v, rfl, hown, hx⟩
  refine W.seq ?_
  refine W.reg <| mv rfl rfl <| asg rfl rfl <| L.nil ?_
  refine N.th ?_
  refine W.ret ?_
  refine N.ret1 rfl rfl ?_   -- RETURN
  exact ⟨_, rfl, hown, hx⟩

/-- Rows of bytes in a row. -/
def total (vs : List (Value × List UInt8)) : List UInt8 := (vs.map (·.2)).flatten
theorem total_cons (p : Value × List UInt8) (vs) : total (p :: vs) = p.2 ++ total vs := by simp [total]
theorem total_snoc (p : Value × List UInt8) (vs) : total (vs ++ [p]) = total vs ++ p.2 := by simp [total]

theorem c_Concat {w : World} {bk cap : Nat} {vs : List (Value × List UInt8)} (hc : ∀ (j : Nat) p, vs[j]? = some p → w.cell? ⟨bk, 0 + j, none⟩ = some p.1) (hr : ∀ p ∈ vs, BytA w p.1 p.2) (hbk : bk < w.heap.size) (hn : (total vs).length ≤ 1000000000) (hvl : vs.length ≤ 1000) :
    Calls P 96 #[.slice (some ⟨bk, 0, none⟩) vs.length cap] w fun e w' => ∃ v', e = .returned v' ∧ Byts w.heap.size w' v' (total vs) ∧ Ext none_ w w' := by
  have keep : ∀ {w1 : World}, Ext none_ w w1 → (∀ (j : Nat) p, vs[j]? = some p → w1.cell? ⟨bk, 0 + j, none⟩ = some p.1) ∧ (∀ p ∈ vs, BytA w1 p.1 p.2) := fun {w1} hx => ⟨fun j p hj => by
    rw [← hc j p hj]; exact World.cell?_of_block (hx.block bk hbk id), fun p hp => (hr p hp).ext0 hx⟩
  refine enter (l := [_]) (n := 36) Tryz.func96 rfl rfl rfl ?_
  refine W.seq ?_
  refine W.reg <| asg rfl rfl <| L.nil ?_
  refine N.th ?_
  refine W.seq ?_
  refine W.reg <| asg rfl rfl <| L.nil ?_
  refine N.th ?_
  refine W.seq ?_
  refine W.seq ?_
  refine W.reg <| mv rfl rfl <| lenV rfl u_bss rfl <| mv rfl rfl <| L.nil ?_
  refine N.th ?_
  refine W.block ?_
  refine W.loop (X := List (Value × List UInt8) × List (Value × List UInt8)) (fun x => [(11, .int .i64 x.1.length), (3, .int .i64 (total x.1).length), (10, .int .i64 vs.length), (9, .slice (some ⟨bk, 0, none⟩) vs.length cap), (0, .slice (some ⟨bk, 0, none⟩) vs.length cap)]) (fun x w' => vs = x.1 ++ x.2 ∧ w' = w) (fun x => x.2.length) ([], vs) ⟨rfl, rfl, rfl, rfl, rfl, trivial⟩ ⟨rfl, rfl⟩ ?_
  rintro ⟨pre, rest⟩ w1 ⟨hl, rfl⟩
  dsimp only at hl ⊢
  refine W.seq ?_
  refine W.reg <| lssI rfl rfl rfl <| L.nil ?_
  refine N.th ?_
  refine W.seq ?_
  refine W.cond rfl (fun h => ?_) (fun h => ?_)
  · refine W.skip ?_
    refine N.th ?_
    cases rest with
    | nil => simp [hl] at h
    | cons p rest =>
    have hpl : pre.length + 1 ≤ vs.length := by rw [hl]; simp
    have hpt : (total pre).length + p.2.length ≤ (total vs).length := by rw [hl]; simp [total]
    have hcp := hc pre.length p (by rw [hl]; simp)
    obtain ⟨a, c, hpv, hn1, hm1, -, -⟩ := id (hr p (by rw [hl]; simp))
    obtain ⟨pv, pb⟩ := p
    dsimp only at hcp hpv hn1 hpt
    subst hpv
    refine W.seq ?_
    refine W.block ?_
    refine W.seq ?_
    refine W.reg <| ixa rfl rfl u_bss sz_bytes rfl (by omega) (by omega) <| ld1 rfl ag_bytes rfl (by rw [Nat.mul_one]; exact hcp) <| asg rfl rfl <| L.nil ?_
    refine N.th ?_
    refine W.seq ?_
    refine W.reg <| mv rfl rfl <| mv rfl rfl <| lenV rfl u_bytes rfl <| addI (c := ((total pre).length + pb.length : Nat)) rfl rfl rfl (by simpa using w64 (a := ((total pre).length : Int) + pb.length) (by omega) (by omega)) <| asg rfl rfl <| L.nil ?_
    refine N.th ?_
    refine W.seq ?_
    refine W.reg <| mv rfl rfl <| lssI rfl rfl rfl <| L.nil ?_
    refine N.th ?_
    refine W.cond rfl (fun h => by simp at h; omega) (fun h => ?_)
    refine W.skip ?_
    refine N.inb ?_
    refine N.th ?_
    refine W.reg <| addI (c := (pre.length : Int) + 1) rfl rfl rfl (w64 (by omega) (by omega)) <| mv rfl rfl <| L.nil ?_
    refine N.th (N.round (x := (pre ++ [(.slice a pb.length c, pb)], rest)) ⟨?_, ?_, rfl, rfl, rfl, trivial⟩ ⟨by simp [hl], rfl⟩ (by simp))   -- ROUND
    · simp [getE]
    · show some (Value.int .i64 (((total pre).length + pb.length : Nat) : Int)) = _
      rw [total_snoc, List.length_append]
  · refine W.exit ?_
    refine N.xth ?_
    refine N.xth ?_
    refine N.xeq ?_
    cases rest with
    | cons d rest => simp [hl] at h; omega
    | nil =>
    obtain rfl : vs = pre := by simpa using hl
    refine N.th ?_
    refine W.seq ?_
    refine W.reg <| mv rfl rfl <| call (vs := [_, _]) rfl rfl ok_Grow (c_Grow w1 _ hn) ?_
    rintro e w2 ⟨v0, rfl, hown0, hx0⟩
    refine ⟨_, rfl, ?_⟩
    refine asg rfl rfl <| L.nil ?_
    refine N.th ?_
    refine W.seq ?_
    refine W.seq ?_
    refine W.reg <| mv rfl rfl <| lenV rfl u_bss rfl <| mv rfl rfl <| L.nil ?_
    refine N.th ?_
    refine W.block ?_
    refine W.loop (X := List (Value × List UInt8) × List (Value × List UInt8) × Value) (fun x => [(27, .int .i64 x.1.length), (6, x.2.2), (26, .int .i64 vs.length), (25, .slice (some ⟨bk, 0, none⟩) vs.length cap)])
      (fun x w' => vs = x.1 ++ x.2.1 ∧ Byts w1.heap.size w' x.2.2 (total x.1) ∧ Ext none_ w1 w') (fun x => x.2.1.length) ([], vs, v0) ⟨rfl, rfl, rfl, rfl, trivial⟩ ⟨rfl, hown0, hx0⟩ ?_
    rintro ⟨pre, rest, v⟩ w3 ⟨hl3, hown, hx⟩
    dsimp only at hl3 hown ⊢
    refine W.seq ?_
    refine W.reg <| lssI rfl rfl rfl <| L.nil ?_
    refine N.th ?_
    refine W.seq ?_
    refine W.cond rfl (fun h => ?_) (fun h => ?_)
    · refine W.skip ?_
      refine N.th ?_
      cases rest with
      | nil => rw [hl3] at h; simp at h
      | cons p rest =>
      have hpl : pre.length + 1 ≤ vs.length := by rw [hl3]; simp
      have hpt : (total pre).length + p.2.length ≤ (total vs).length := by rw [hl3]; simp [total]
      obtain ⟨hc3, hr3⟩ := keep hx
      have hcp := hc3 pre.length p (by rw [hl3]; simp)
      have hrp := hr3 p (by rw [hl3]; simp)
      obtain ⟨pv, pb⟩ := p
      dsimp only at hcp hrp hpt
      refine W.seq ?_
      refine W.block ?_
      refine W.seq ?_
      refine W.reg <| ixa rfl rfl u_bss sz_bytes rfl (by omega) (by omega) <| ld1 rfl ag_bytes rfl (by rw [Nat.mul_one]; exact hcp) <| asg rfl rfl <| L.nil ?_
      refine N.th ?_
      rcases hrp.form with ⟨rfl, h1⟩ | ⟨ad, c, rfl, h1, h2, hcell⟩
      · have hl0 : pb = [] := List.eq_nil_of_length_eq_zero h1
        subst hl0
        obtain ⟨a, ca, rfl, hca, _⟩ := own_slice hown
        refine W.reg <| mv rfl rfl <| mv rfl rfl <| appN rfl rfl rfl el_bytes hca <| asg rfl rfl <| L.nil ?_
        refine N.inb ?_
        refine N.th ?_
        refine W.reg <| addI (c := (pre.length : Int) + 1) rfl rfl rfl (w64 (by omega) (by omega)) <| mv rfl rfl <| L.nil ?_
        refine N.th (N.round (x := (pre ++ [(.slice none 0 0, [])], rest, .slice a (total pre).length ca)) ⟨by simp [getE], rfl, rfl, rfl, trivial⟩ ⟨by simp [hl3], by simpa [Byts, total_snoc] using hown, hx⟩ (by simp))
      · refine W.reg <| mv rfl rfl <| mv rfl rfl <| app rfl rfl rfl el_bytes hown (by simp) (fun j u hj => (hcell j u hj).2) (encB_one pb) (by simp only [Nat.mul_one]; omega) (by simp only [maxLen]; omega) hx.size fun v' w4 hown4 hx4 _ _ => ?_
        refine asg rfl rfl <| L.nil ?_
        refine N.inb ?_
        refine N.th ?_
        refine W.reg <| addI (c := (pre.length : Int) + 1) rfl rfl rfl (w64 (by omega) (by omega)) <| mv rfl rfl <| L.nil ?_
        refine N.th (N.round (x := (pre ++ [(.slice (some ad) pb.length c, pb)], rest, v')) ⟨by simp [getE], rfl, rfl, rfl, trivial⟩ ⟨by simp [hl3], by simpa [Byts, total_snoc, encB] using hown4, hx.own hown hx4⟩ (by simp))
    · refine W.exit ?_
      refine N.xth ?_
      refine N.xth ?_
      refine N.xeq ?_
      refine N.th ?_
      refine W.seq ?_
      refine W.reg <| mv rfl rfl <| asg rfl rfl <| L.nil ?_
      refine N.th ?_
      refine W.ret ?_
      refine N.ret1 rfl rfl ?_   -- RETURN
      cases rest with
      | cons d rest => rw [hl3] at h; simp at h; omega
      | nil =>
      obtain rfl : vs = pre := by simpa using hl3
      exact ⟨_, rfl, hown, hx⟩
end Go.Proofs.YtmdpmpdlkaogdaaGreatDoor

namespace Go.Proofs.YtmdpmpdlkaogdaaGreatDoor
open Go Go.RowKit Vc

abbrev tSt : TypeId := 133
theorem fl_St_0 : fldB P tSt 0 = some 0 := by kernel_rfl
theorem fl_St_1 : fldB P tSt 1 = some 8 := by kernel_rfl
theorem u_words : P.underlying 144 = some (.slice 127) := Tryz.underlying144
theorem ok_sturn : FnOk P 88 := ⟨_, Tryz.func88, by kernel_rfl, by kernel_rfl⟩
/-- How a sum under way lies in memory. -/
def StAt (w : World) (bt : Nat) (s : Sh.St) : Prop := w.heap[bt]? = some (.cells (enc32 s.l ++ enc32 Sh.K).toArray tSt (0, 0))
theorem rd32 {a : List (BitVec 32)} {r : List Value} {j : Nat} (hj : j < a.length) : (enc32 a ++ r).toArray[j]? = some (V32 (Sh.at_ a j)) := by
  have h : a[j]? = some (Sh.at_ a j) := by unfold Sh.at_; rw [List.getElem?_eq_getElem hj]; rfl
  simp only [List.getElem?_toArray]
  rw [List.getElem?_append_left (by rw [enc32_len]; exact hj)]
  exact enc32_get h
theorem set32 {a : List (BitVec 32)} {k : Nat} (x : BitVec 32) : (enc32 a ++ enc32 (List.replicate (k + 1) 0)).toArray.setIfInBounds a.length (V32 x) = (enc32 (a ++ [x]) ++ enc32 (List.replicate k 0)).toArray := by
  apply Array.ext'
  simp only [Array.toList_setIfInBounds, List.replicate_succ, enc32, List.map_cons, List.map_append, List.map_nil]
  rw [List.set_append_right _ _ (by simp)]
  simp
/-- A byte of a slice that came in. -/
theorem byt_at {w : World} {v : Value} {b : List UInt8} {j : Nat} (h : BytA w v b) (hj : j < b.length) : ∃ bb o c, v = .slice (some ⟨bb, o, none⟩) b.length c ∧ ∀ i, i < b.length → w.cell? ⟨bb, o + i * 1, none⟩ = some (.int .u8 (b[i]?.getD 0).toNat) := by
  obtain ⟨bb, o, c, rfl, -, -, -, hc⟩ := RowA.plain h (fun e => by have := congrArg List.length e; simp [encB] at this; subst this; simp at hj)
  refine ⟨bb, o, c, rfl, fun i hi => ?_⟩
  rw [Nat.mul_one]
  refine hc i _ ?_
  have : b[i]? = some (b[i]?.getD 0) := by rw [List.getElem?_eq_getElem hi]; rfl
  rw [encB, List.getElem?_map, this]; rfl

/-- The first ones added. -/
def mix (s r : Sh.St) (i : Nat) : List (BitVec 32) := (s.add r).l.take i ++ s.l.drop i
theorem mix_set (s r : Sh.St) {i : Nat} (hi : i < 8) : (enc32 (mix s r i) ++ enc32 Sh.K).toArray.setIfInBounds i (V32 (Sh.at_ s.l i + Sh.at_ r.l i)) = (enc32 (mix s r (i + 1)) ++ enc32 Sh.K).toArray := by
  apply Array.ext'
  simp only [Array.toList_setIfInBounds]
  have hl : i < (enc32 (mix s r i)).length := by simp [enc32, mix, Sh.St.l]; omega
  rw [List.set_append_left _ _ hl]
  congr 1
  rcases i with _ | _ | _ | _ | _ | _ | _ | _ | i <;> first | rfl | omega
theorem mix_get (s r : Sh.St) {i : Nat} (hi : i < 8) (t : List Value) : (enc32 (mix s r i) ++ t).toArray[0 + 0 + i * 1]? = some (V32 (Sh.at_ s.l i)) := by
  have hl : i < (enc32 (mix s r i)).length := by simp [enc32, mix, Sh.St.l]; omega
  rw [Nat.zero_add, Nat.mul_one, List.getElem?_toArray, List.getElem?_append_left hl]
  rcases i with _ | _ | _ | _ | _ | _ | _ | _ | i <;> first | rfl | omega
theorem l_get (r : Sh.St) {i : Nat} (hi : i < 8) : (enc32 r.l).toArray[0 + i * 1]? = some (V32 (Sh.at_ r.l i)) := by
  rw [Nat.zero_add, Nat.mul_one]
  rcases i with _ | _ | _ | _ | _ | _ | _ | _ | i <;> first | rfl | omega

set_option maxHeartbeats 1000000 in
theorem c_sturn {w : World} {bt : Nat} {v : Value} {s : Sh.St} {b : List UInt8} (hs : StAt w bt s) (hb : BytA w v b) (hl : 64 ≤ b.length) :
    Calls P 88 #[.pointer (some ⟨bt, 0, none⟩), v] w fun e w' => e = .returned (.tuple #[]) ∧ StAt w' bt (Sh.turn s b) ∧ Ext (fun k => k = bt) w w' := by
  refine enter (l := [_, _]) (n := 196) Tryz.func88 rfl rfl rfl ?_
  obtain ⟨bb, bo, bc, rfl, -⟩ := byt_at (j := 0) hb (by omega)
  have rdb : ∀ {wz : World}, Ext none_ w wz → ∀ i, i < b.length → wz.cell? ⟨bb, bo + i * 1, none⟩ = some (.int .u8 (b[i]?.getD 0).toNat) := fun hz i hi => by
    obtain ⟨_, _, _, e, h⟩ := byt_at (hb.ext0 hz) hi
    cases e
    exact h i hi
  refine W.seq ?_
  refine W.reg <| new ze_t64 rfl <| L.nil ?_
  refine N.th ?_
  obtain ⟨g, hg⟩ : ∃ g, g = w.heap.size := ⟨_, rfl⟩
  obtain ⟨w1, hw1⟩ : ∃ w1, w1 = w.alloc (.cells (enc32 (List.replicate 64 0)).toArray t64) := ⟨_, rfl⟩
  have hg1 : w1.heap[g]? = some (.cells (enc32 (Sh.sch b 0) ++ enc32 (List.replicate (64 - 0) 0)).toArray t64 (0, 0)) := by rw [hw1, hg]; exact heap_new _ _
  have hx1 : Ext none_ w w1 := by rw [hw1]; exact Ext.alloc _ _ _
  rw [show w.alloc (.cells (Value.cells (.agg (enc32 (List.replicate 64 0)).toArray)) t64) = w1 from hw1.symm, ← hg]
  have hG : ∀ i, i < w.heap.size → i = g → none_ i := fun i hi e => by omega
  have hbl := lt_of_obj hs
  refine W.seq ?_
  refine W.seq ?_
  refine W.reg <| mv rfl rfl <| L.nil ?_
  refine N.th ?_
  refine W.block ?_
  refine W.loop (X := Nat) (fun i => [(16, .int .i64 i), (4, .pointer (some ⟨g, 0, none⟩)), (0, .pointer (some ⟨bt, 0, none⟩)), (1, .slice (some ⟨bb, bo, none⟩) b.length bc)])
    (fun i w' => i ≤ 64 ∧ w'.heap[g]? = some (.cells (enc32 (Sh.sch b i) ++ enc32 (List.replicate (64 - i) 0)).toArray t64 (0, 0)) ∧ Ext none_ w w') (fun i => 64 - i) 0 ⟨rfl, rfl, rfl, rfl, trivial⟩ ⟨by omega, hg1, hx1⟩ ?_
  rintro i w2 ⟨hi, hg2, hx2⟩
  refine W.seq ?_
  refine W.reg <| lssI rfl rfl rfl <| L.nil ?_
  refine N.th ?_
  refine W.seq ?_
  refine W.cond rfl (fun h => ?_) (fun h => ?_)
  · refine W.skip ?_
    refine N.th ?_
    have hi1 : i < 64 := by simp at h; omega
    have hsl := Sh.sch_len b i
    have hrep : 64 - i = (64 - (i + 1)) + 1 := by omega
    have hset : ∀ x, (enc32 (Sh.sch b i) ++ enc32 (List.replicate (64 - i) 0)).toArray.setIfInBounds i (V32 x) = (enc32 (Sh.sch b i ++ [x]) ++ enc32 (List.replicate (64 - (i + 1)) 0)).toArray := fun x => by
      rw [hrep]
      conv => lhs; arg 2; rw [← hsl]
      exact set32 x
    have hin : ∃ u, (enc32 (Sh.sch b i) ++ enc32 (List.replicate (64 - i) 0)).toArray[0 + i * 1]? = some u := ⟨_, Array.getElem?_eq_getElem (by simp [enc32, hsl]; omega)⟩
    obtain ⟨u0, hu0⟩ := hin
    have stored : ∀ {wz : World} (x : BitVec 32), wz.heap[g]? = some (.cells (enc32 (Sh.sch b i) ++ enc32 (List.replicate (64 - i) 0)).toArray t64 (0, 0)) → Sh.sch b (i + 1) = Sh.sch b i ++ [x] →
        (wz.setCell ⟨g, 0 + i * 1, none⟩ (V32 x)).heap[g]? = some (.cells (enc32 (Sh.sch b (i + 1)) ++ enc32 (List.replicate (64 - (i + 1)) 0)).toArray t64 (0, 0)) := fun {wz} x hz hx => by
      rw [setCell_heap hz, hx, ← hset x, Nat.zero_add, Nat.mul_one]
    refine W.seqM (fun E' w' => E' = [(16, .int .i64 i), (4, .pointer (some ⟨g, 0, none⟩)), (0, .pointer (some ⟨bt, 0, none⟩)), (1, .slice (some ⟨bb, bo, none⟩) b.length bc)] ∧ w'.heap[g]? = some (.cells (enc32 (Sh.sch b (i + 1)) ++ enc32 (List.replicate (64 - (i + 1)) 0)).toArray t64 (0, 0)) ∧ Ext none_ w w') ?_ ?_   -- CUT
    · refine W.block ?_
      refine W.seq ?_
      refine W.reg <| mv rfl rfl <| asg rfl rfl <| L.nil ?_
      refine N.th ?_
      refine W.seq ?_
      refine W.seq ?_
      refine W.reg <| mv rfl rfl <| lssI rfl rfl rfl <| L.nil ?_
      refine N.th ?_
      refine W.cond rfl (fun h => ?_) (fun h => ?_)
      · have hi16 : i < 16 := by simp at h; omega
        refine W.seq ?_
        have hd : Ext none_ w2 w2.drew := Ext.drew _ _
        refine W.draw [127] true (fun w' => Ext none_ w w') [0, 1, 2, 3, 4, 5, 6, 7, 8, 9, 10, 11, 12, 13, 14, 15, 16, 17, 18, 19, 20, 21, 22, 23, 24, 25, 26, 27, 28, 29, 30, 31, 32, 33, 34, 35] rfl rfl (by kernel_rfl) (hx2.trans hd) ?_   -- held
        refine mv rfl rfl <| mv rfl rfl <| mv rfl rfl <| mulI (c := ((4 * i : Nat) : Int)) rfl rfl rfl (by rw [w64 (by omega) (by omega)]; omega) <| ixa rfl rfl u_bytes el_bytes.szB rfl (by omega) (by omega) <| ldK (v := .int .u8 (b[4 * i]?.getD 0).toNat) rfl ag_u8 rfl (fun w' h => rdb h (4 * i) (by omega)) <| b32 rfl u_u32 u_u8 rfl <| shl32 (k := 24) rfl rfl rfl (by omega) <|
          mv rfl rfl <| mv rfl rfl <| mulI (c := ((4 * i : Nat) : Int)) rfl rfl rfl (by rw [w64 (by omega) (by omega)]; omega) <| addI (c := ((4 * i + 1 : Nat) : Int)) rfl rfl rfl (by rw [w64 (by omega) (by omega)]; omega) <| ixa rfl rfl u_bytes el_bytes.szB rfl (by omega) (by omega) <| ldK (v := .int .u8 (b[4 * i + 1]?.getD 0).toNat) rfl ag_u8 rfl (fun w' h => rdb h (4 * i + 1) (by omega)) <| b32 rfl u_u32 u_u8 rfl <| shl32 (k := 16) rfl rfl rfl (by omega) <| or32 rfl rfl rfl <|
          mv rfl rfl <| mv rfl rfl <| mulI (c := ((4 * i : Nat) : Int)) rfl rfl rfl (by rw [w64 (by omega) (by omega)]; omega) <| addI (c := ((4 * i + 2 : Nat) : Int)) rfl rfl rfl (by rw [w64 (by omega) (by omega)]; omega) <| ixa rfl rfl u_bytes el_bytes.szB rfl (by omega) (by omega) <| ldK (v := .int .u8 (b[4 * i + 2]?.getD 0).toNat) rfl ag_u8 rfl (fun w' h => rdb h (4 * i + 2) (by omega)) <| b32 rfl u_u32 u_u8 rfl <| shl32 (k := 8) rfl rfl rfl (by omega) <| or32 rfl rfl rfl <|
          mv rfl rfl <| mv rfl rfl <| mulI (c := ((4 * i : Nat) : Int)) rfl rfl rfl (by rw [w64 (by omega) (by omega)]; omega) <| addI (c := ((4 * i + 3 : Nat) : Int)) rfl rfl rfl (by rw [w64 (by omega) (by omega)]; omega) <| ixa rfl rfl u_bytes el_bytes.szB rfl (by omega) (by omega) <| ldK (v := .int .u8 (b[4 * i + 3]?.getD 0).toNat) rfl ag_u8 rfl (fun w' h => rdb h (4 * i + 3) (by omega)) <| b32 rfl u_u32 u_u8 rfl <| or32 rfl rfl rfl <|
          ixp rfl rfl u_t64 sz_u32 rfl (by omega) (by omega) <| st1 rfl rfl sz_u32 rfl (hd.obj hg2 id) hu0 (hS := .inl ⟨rfl, rfl⟩) <| L.nilH ?_
        refine N.th ?_
        refine W.exit ?_
        refine N.xth ?_
        refine N.xeq ?_
        refine N.th (N.meet [(16, _), (4, _), (0, _), (1, _)] ⟨rfl, rfl, rfl, rfl, trivial⟩ ⟨rfl, ?_, (hx2.trans hd).trans' (Ext.setCell (S := fun k => k = g) _ (fun _ => rfl) _) hG⟩)   -- MEET
        refine stored (Sh.word b i) (hd.obj hg2 id) ?_
        rw [Sh.sch, if_pos hi16]
      · have hi16 : ¬ i < 16 := by simp at h; omega
        refine W.skip ?_
        refine N.th ?_
        have rdw : ∀ {wz : World} (j : Nat), j < i → wz.heap[g]? = some (.cells (enc32 (Sh.sch b i) ++ enc32 (List.replicate (64 - i) 0)).toArray t64 (0, 0)) → wz.cell? ⟨g, 0 + j * 1, none⟩ = some (V32 (Sh.at_ (Sh.sch b i) j)) := fun j hj hz => by
          rw [Nat.zero_add, Nat.mul_one]
          exact cell_of hz (rd32 (by rw [hsl]; exact hj))
        have hd : Ext none_ w2 w2.drew := Ext.drew _ _
        have hgd := hd.obj hg2 id
        refine W.seq ?_
        refine W.draw [] false (fun w' => w'.heap[g]? = some (.cells (enc32 (Sh.sch b i) ++ enc32 (List.replicate (64 - i) 0)).toArray t64 (0, 0))) [0, 1, 2, 3, 4, 5, 6, 7, 8, 9] rfl rfl (by kernel_rfl) hgd ?_   -- held
        refine mv rfl rfl <| subI (c := ((i - 15 : Nat) : Int)) rfl rfl rfl (by rw [w64 (by omega) (by omega)]; omega) <| ixp rfl rfl u_t64 sz_u32 rfl (by omega) (by omega) <| ldK (v := V32 (Sh.at_ (Sh.sch b i) (i - 15))) rfl ag_u32 rfl (fun w' h => rdw (i - 15) (by omega) h) <| mv rfl rfl <| subI (c := ((i - 2 : Nat) : Int)) rfl rfl rfl (by rw [w64 (by omega) (by omega)]; omega) <| ixp rfl rfl u_t64 sz_u32 rfl (by omega) (by omega) <| ldK (v := V32 (Sh.at_ (Sh.sch b i) (i - 2))) rfl ag_u32 rfl (fun w' h => rdw (i - 2) (by omega) h) <| asg rfl rfl <| asg rfl rfl <| L.nilH ?_
        refine N.th ?_
        refine W.seq ?_
        refine W.reg <| mv rfl rfl <| call (vs := [_, .int .i64 (-((7 : Nat) : Int))]) rfl rfl ok_Rot (c_Rot _ 7 (by omega) (by omega) _) ?_
        rintro e w3 ⟨rfl, rfl⟩
        refine ⟨_, rfl, ?_⟩
        refine mv rfl rfl <| call (vs := [_, .int .i64 (-((18 : Nat) : Int))]) rfl rfl ok_Rot (c_Rot _ 18 (by omega) (by omega) _) ?_
        rintro e w3 ⟨rfl, rfl⟩
        refine ⟨_, rfl, ?_⟩
        refine xor32 rfl rfl rfl <| mv rfl rfl <| shr32 (k := 3) rfl rfl rfl (by omega) <| xor32 rfl rfl rfl <| asg rfl rfl <| L.nil ?_
        refine N.th ?_
        refine W.seq ?_
        refine W.reg <| mv rfl rfl <| call (vs := [_, .int .i64 (-((17 : Nat) : Int))]) rfl rfl ok_Rot (c_Rot _ 17 (by omega) (by omega) _) ?_
        rintro e w3 ⟨rfl, rfl⟩
        refine ⟨_, rfl, ?_⟩
        refine mv rfl rfl <| call (vs := [_, .int .i64 (-((19 : Nat) : Int))]) rfl rfl ok_Rot (c_Rot _ 19 (by omega) (by omega) _) ?_
        rintro e w3 ⟨rfl, rfl⟩
        refine ⟨_, rfl, ?_⟩
        refine xor32 rfl rfl rfl <| mv rfl rfl <| shr32 (k := 10) rfl rfl rfl (by omega) <| xor32 rfl rfl rfl <| asg rfl rfl <| L.nil ?_
        refine N.th ?_
        have hd2 : Ext none_ w2.drew w2.drew.drew := Ext.drew _ _
        have hgd2 := hd2.obj hgd id
        refine W.draw [] true (fun w' => w'.heap[g]? = some (.cells (enc32 (Sh.sch b i) ++ enc32 (List.replicate (64 - i) 0)).toArray t64 (0, 0))) [0, 1, 2, 3, 4, 5, 6, 7, 8, 9, 10, 11, 12, 13, 14, 15] rfl rfl (by kernel_rfl) hgd2 ?_   -- held
        refine mv rfl rfl <| mv rfl rfl <| subI (c := ((i - 16 : Nat) : Int)) rfl rfl rfl (by rw [w64 (by omega) (by omega)]; omega) <| ixp rfl rfl u_t64 sz_u32 rfl (by omega) (by omega) <| ldK (v := V32 (Sh.at_ (Sh.sch b i) (i - 16))) rfl ag_u32 rfl (fun w' h => rdw (i - 16) (by omega) h) <| mv rfl rfl <| add32 rfl rfl rfl <| mv rfl rfl <| subI (c := ((i - 7 : Nat) : Int)) rfl rfl rfl (by rw [w64 (by omega) (by omega)]; omega) <| ixp rfl rfl u_t64 sz_u32 rfl (by omega) (by omega) <| ldK (v := V32 (Sh.at_ (Sh.sch b i) (i - 7))) rfl ag_u32 rfl (fun w' h => rdw (i - 7) (by omega) h) <| add32 rfl rfl rfl <| mv rfl rfl <| add32 rfl rfl rfl <|
          ixp rfl rfl u_t64 sz_u32 rfl (by omega) (by omega) <| st1 rfl rfl sz_u32 rfl hgd2 hu0 (hS := .inl ⟨rfl, rfl⟩) <| L.nilH ?_
        refine N.inb ?_
        refine N.th (N.meet [(16, _), (4, _), (0, _), (1, _)] ⟨rfl, rfl, rfl, rfl, trivial⟩ ⟨rfl, ?_, ((hx2.trans hd).trans hd2).trans' (Ext.setCell (S := fun k => k = g) _ (fun _ => rfl) _) hG⟩)   -- MEET
        refine stored (Sh.nw (Sh.sch b i) i) hgd2 ?_
        rw [Sh.sch, if_neg hi16]
    rintro E' w3 ⟨rfl, hg3, hx3⟩
    refine W.reg <| addI (c := ((i + 1 : Nat) : Int)) rfl rfl rfl (by rw [w64 (by omega) (by omega)]; simp) <| mv rfl rfl <| L.nil ?_
    exact N.th (N.round (x := i + 1) ⟨rfl, rfl, rfl, rfl, trivial⟩ ⟨by omega, hg3, hx3⟩ (by omega))   -- ROUND
  refine W.exit ?_
  refine N.xth ?_
  refine N.xth ?_
  refine N.xeq ?_
  refine N.th ?_
  have hi64 : i = 64 := by simp at h; omega
  subst hi64
  have hs2 : StAt w2 bt s := hx2.obj hs id
  have rdh : ∀ {wz : World} {r : Sh.St}, StAt wz bt r → ∀ j u, (enc32 r.l)[j]? = some u → wz.cell? ⟨bt, 0 + 0 + j, none⟩ = some u := fun hz j u hj => by
    have hl : j < (enc32 _).length := (List.getElem?_eq_some_iff.1 hj).1
    refine cell_of hz ?_
    rw [Nat.zero_add, List.getElem?_toArray, List.getElem?_append_left hl]
    exact hj
  refine W.seq ?_
  refine W.reg <| mv rfl rfl <| nilc rfl rfl <| fad rfl fl_St_0 rfl <| ldk (cs := enc32 s.l) rfl ag_t8 sz_t8 rfl rfl (rdh hs2) <| new ze_t8 rfl <| stR (cells := (enc32 s.l).toArray) rfl rfl sz_t8 (one32 _) (heap_new _ _) rfl <| L.nil ?_
  refine N.th ?_
  obtain ⟨q, hq⟩ : ∃ q, q = w2.heap.size := ⟨_, rfl⟩
  obtain ⟨w3, hw3⟩ : ∃ w3, w3 = (w2.alloc (.cells (Value.cells (.agg (enc32 (List.replicate 8 0)).toArray)) t8)).setRow w2.heap.size (enc32 s.l).toArray := ⟨_, rfl⟩
  have hq3 : w3.heap[q]? = some (.cells (enc32 (Sh.rounds b s 0).l).toArray t8 (0, 0)) := by rw [hw3, hq]; exact setRow_heap _ _ _ _ _ _ (heap_new _ _)
  have hx23 : Ext none_ w2 w3 := by rw [hw3]; exact (Ext.alloc none_ _ _).trans' (Ext.setRow (S := fun k => k = w2.heap.size) _ (fun _ => rfl) _) (fun i hi e => by omega)
  rw [show (w2.alloc (.cells (Value.cells (.agg (enc32 (List.replicate 8 0)).toArray)) t8)).setRow w2.heap.size (enc32 s.l).toArray = w3 from hw3.symm, ← hq]
  have hg3 := hx23.obj hg2 id
  have hs3 : StAt w3 bt s := hx23.obj hs2 id
  have hgs := lt_of_obj hg2
  have hbs := lt_of_obj hs2
  have hgq : ¬ g = q := by omega
  have hbq : ¬ bt = q := by omega
  have hws : w.heap.size ≤ w2.heap.size := hx2.size
  have hQ : ∀ i, i < w.heap.size → i = q → none_ i := fun i hi e => by omega
  refine W.seq ?_
  refine W.seq ?_
  refine W.reg <| mv rfl rfl <| L.nil ?_
  refine N.th ?_
  refine W.block ?_
  refine W.loop (X := Nat) (fun i => [(100, .int .i64 i), (8, .pointer (some ⟨q, 0, none⟩)), (4, .pointer (some ⟨g, 0, none⟩)), (0, .pointer (some ⟨bt, 0, none⟩))])
    (fun i w' => i ≤ 64 ∧ w'.heap[q]? = some (.cells (enc32 (Sh.rounds b s i).l).toArray t8 (0, 0)) ∧ w'.heap[g]? = some (.cells (enc32 (Sh.sch b 64) ++ enc32 (List.replicate (64 - 64) 0)).toArray t64 (0, 0)) ∧ StAt w' bt s ∧ Ext none_ w w') (fun i => 64 - i) 0 ⟨rfl, rfl, rfl, rfl, trivial⟩ ⟨by omega, hq3, hg3, hs3, hx2.trans hx23⟩ ?_
  rintro i w4 ⟨hi, hq4, hg4, hs4, hx4⟩
  refine W.seq ?_
  refine W.reg <| lssI rfl rfl rfl <| L.nil ?_
  refine N.th ?_
  refine W.seq ?_
  refine W.cond rfl (fun h => ?_) (fun h => ?_)
  · refine W.skip ?_
    refine N.th ?_
    have hi1 : i < 64 := by simp at h; omega
    have hstep : Sh.rounds b s (i + 1) = Sh.step (Sh.rounds b s i) (Sh.at_ Sh.K i) (Sh.at_ (Sh.sch b 64) i) := rfl
    generalize Sh.rounds b s i = r at hq4 hstep
    have rdw : ∀ {wz : World}, wz.heap[g]? = some (.cells (enc32 (Sh.sch b 64) ++ enc32 (List.replicate (64 - 64) 0)).toArray t64 (0, 0)) → wz.cell? ⟨g, 0 + i * 1, none⟩ = some (V32 (Sh.at_ (Sh.sch b 64) i)) := fun hz => by
      rw [Nat.zero_add, Nat.mul_one]
      exact cell_of hz (rd32 (by rw [Sh.sch_len]; exact hi1))
    have rdk : ∀ {wz : World}, StAt wz bt s → wz.cell? ⟨bt, 0 + 8 + i * 1, none⟩ = some (V32 (Sh.at_ Sh.K i)) := fun hz => by
      rw [Nat.zero_add, Nat.mul_one]
      refine cell_of hz ?_
      rw [List.getElem?_toArray, List.getElem?_append_right (by rw [enc32_len]; simp [Sh.St.l]), enc32_len, show 8 + i - s.l.length = i by simp [Sh.St.l]]
      have : Sh.K[i]? = some (Sh.at_ Sh.K i) := by unfold Sh.at_; rw [List.getElem?_eq_getElem (by rw [Sh.K_len]; exact hi1)]; rfl
      exact enc32_get this
    refine W.seq ?_
    refine W.block ?_
    refine W.seq ?_
    refine W.reg <| mv rfl rfl <| asg rfl rfl <| L.nil ?_
    refine N.th ?_
    have hd1 : Ext none_ w4 w4.drew := Ext.drew _ _
    refine W.seq ?_
    refine W.draw [] false (fun w' => w'.heap[q]? = some (.cells (enc32 r.l).toArray t8 (0, 0))) [0, 1, 2, 3, 4, 5] rfl rfl (by kernel_rfl) (hd1.obj hq4 id) ?_   -- held
    refine ixp rfl rfl u_t8 sz_u32 rfl (by omega) (by omega) <| ldK (v := V32 r.a) rfl ag_u32 rfl (fun w' h => cell_of h rfl) <| ixp rfl rfl u_t8 sz_u32 rfl (by omega) (by omega) <| ldK (v := V32 r.e) rfl ag_u32 rfl (fun w' h => cell_of h rfl) <| asg rfl rfl <| asg rfl rfl <| L.nilH ?_
    refine N.th ?_
    refine W.seq ?_
    refine W.reg <| mv rfl rfl <| call (vs := [_, .int .i64 (-((6 : Nat) : Int))]) rfl rfl ok_Rot (c_Rot _ 6 (by omega) (by omega) _) ?_
    rintro e w5 ⟨rfl, rfl⟩
    refine ⟨_, rfl, ?_⟩
    refine mv rfl rfl <| call (vs := [_, .int .i64 (-((11 : Nat) : Int))]) rfl rfl ok_Rot (c_Rot _ 11 (by omega) (by omega) _) ?_
    rintro e w5 ⟨rfl, rfl⟩
    refine ⟨_, rfl, ?_⟩
    refine xor32 rfl rfl rfl <| mv rfl rfl <| call (vs := [_, .int .i64 (-((25 : Nat) : Int))]) rfl rfl ok_Rot (c_Rot _ 25 (by omega) (by omega) _) ?_
    rintro e w5 ⟨rfl, rfl⟩
    refine ⟨_, rfl, ?_⟩
    refine xor32 rfl rfl rfl <| asg rfl rfl <| L.nil ?_
    refine N.th ?_
    have hd2 : Ext none_ w4 w4.drew.drew := hd1.trans (Ext.drew _ _)
    refine W.seq ?_
    refine W.draw [] false (fun w' => w'.heap[q]? = some (.cells (enc32 r.l).toArray t8 (0, 0)) ∧ w'.heap[g]? = some (.cells (enc32 (Sh.sch b 64) ++ enc32 (List.replicate (64 - 64) 0)).toArray t64 (0, 0)) ∧ StAt w' bt s) [0, 1, 2, 3, 4, 5, 6, 7, 8, 9, 10, 11, 12, 13, 14, 15, 16, 17, 18, 19, 20, 21, 22, 23, 24, 25, 26] rfl rfl (by kernel_rfl) ⟨hd2.obj hq4 id, hd2.obj hg4 id, hd2.obj hs4 id⟩ ?_   -- held
    refine ixp rfl rfl u_t8 sz_u32 rfl (by omega) (by omega) <| ldK (v := V32 r.h) rfl ag_u32 rfl (fun w' h => cell_of h.1 rfl) <| mv rfl rfl <| add32 rfl rfl rfl <| mv rfl rfl <| ixp rfl rfl u_t8 sz_u32 rfl (by omega) (by omega) <| ldK (v := V32 r.f) rfl ag_u32 rfl (fun w' h => cell_of h.1 rfl) <| and32 rfl rfl rfl <| mv rfl rfl <| not32 rfl rfl <| ixp rfl rfl u_t8 sz_u32 rfl (by omega) (by omega) <| ldK (v := V32 r.g) rfl ag_u32 rfl (fun w' h => cell_of h.1 rfl) <| and32 rfl rfl rfl <| xor32 rfl rfl rfl <| add32 rfl rfl rfl <|
      mv rfl rfl <| mv rfl rfl <| nilc rfl rfl <| fad rfl fl_St_1 rfl <| ixp rfl rfl u_t64 sz_u32 rfl (by omega) (by omega) <| ldK (v := V32 (Sh.at_ Sh.K i)) rfl ag_u32 rfl (fun w' h => rdk h.2.2) <| add32 rfl rfl rfl <| mv rfl rfl <| ixp rfl rfl u_t64 sz_u32 rfl (by omega) (by omega) <| ldK (v := V32 (Sh.at_ (Sh.sch b 64) i)) rfl ag_u32 rfl (fun w' h => rdw h.2.1) <| add32 rfl rfl rfl <| asg rfl rfl <| L.nilH ?_
    refine N.th ?_
    refine W.seq ?_
    refine W.reg <| mv rfl rfl <| call (vs := [_, .int .i64 (-((2 : Nat) : Int))]) rfl rfl ok_Rot (c_Rot _ 2 (by omega) (by omega) _) ?_
    rintro e w5 ⟨rfl, rfl⟩
    refine ⟨_, rfl, ?_⟩
    refine mv rfl rfl <| call (vs := [_, .int .i64 (-((13 : Nat) : Int))]) rfl rfl ok_Rot (c_Rot _ 13 (by omega) (by omega) _) ?_
    rintro e w5 ⟨rfl, rfl⟩
    refine ⟨_, rfl, ?_⟩
    refine xor32 rfl rfl rfl <| mv rfl rfl <| call (vs := [_, .int .i64 (-((22 : Nat) : Int))]) rfl rfl ok_Rot (c_Rot _ 22 (by omega) (by omega) _) ?_
    rintro e w5 ⟨rfl, rfl⟩
    refine ⟨_, rfl, ?_⟩
    refine xor32 rfl rfl rfl <| asg rfl rfl <| L.nil ?_
    refine N.th ?_
    have hqd := hd2.obj hq4 id
    refine W.seq ?_
    refine W.reg <| mv rfl rfl <| mv rfl rfl <| ixp rfl rfl u_t8 sz_u32 rfl (by omega) (by omega) <| ld1 (v := V32 r.b) rfl ag_u32 rfl (cell_of hqd rfl) <| and32 rfl rfl rfl <| mv rfl rfl <| ixp rfl rfl u_t8 sz_u32 rfl (by omega) (by omega) <| ld1 (v := V32 r.c) rfl ag_u32 rfl (cell_of hqd rfl) <| and32 rfl rfl rfl <| xor32 rfl rfl rfl <| ixp rfl rfl u_t8 sz_u32 rfl (by omega) (by omega) <| ld1 (v := V32 r.b) rfl ag_u32 rfl (cell_of hqd rfl) <| ixp rfl rfl u_t8 sz_u32 rfl (by omega) (by omega) <| ld1 (v := V32 r.c) rfl ag_u32 rfl (cell_of hqd rfl) <| and32 rfl rfl rfl <| xor32 rfl rfl rfl <| add32 rfl rfl rfl <| asg rfl rfl <| L.nil ?_
    refine N.th ?_
    have hd3 : Ext none_ w4 w4.drew.drew.drew := hd2.trans (Ext.drew _ _)
    have hqe := hd3.obj hq4 id
    refine W.seq ?_
    refine W.draw [] true (fun _ => True) [0, 1, 2] rfl rfl (by kernel_rfl) trivial ?_   -- held
    refine slAl (i := 1) rfl rfl u_t8 sz_u32 rfl (by omega) <| slAh (j := 7) rfl rfl u_t8 sz_u32 rfl (by omega) <| cpS (cs := [V32 r.a, V32 r.b, V32 r.c, V32 r.d, V32 r.e, V32 r.f, V32 r.g]) rfl rfl rfl u_words sz_u32 hqe rfl (fun j u hj => by
        rw [add_at, Nat.zero_add]
        refine cell_of hqe ?_
        rcases j with _ | _ | _ | _ | _ | _ | _ | j <;> first | exact hj | cases hj) (by simp [enc32, Sh.St.l]) (by
        intro u hu
        simp only [List.mem_cons, List.not_mem_nil, or_false] at hu
        rcases hu with rfl | rfl | rfl | rfl | rfl | rfl | rfl <;> rfl) (hk := .inl ⟨rfl, rfl⟩) <| L.nilH ?_
    refine N.th ?_
    generalize hw5 : World.setRow _ _ _ = w5
    have hq5 : w5.heap[q]? = some (.cells #[V32 r.a, V32 r.a, V32 r.b, V32 r.c, V32 r.d, V32 r.e, V32 r.f, V32 r.g] t8 (0, 0)) := by rw [← hw5]; exact setRow_heap _ _ _ _ _ _ hqe
    have hx5 : Ext (fun k => k = q) w4 w5 := by rw [← hw5]; exact hd3.none.trans (Ext.setRow (S := fun k => k = q) _ (fun _ => rfl) _)
    refine W.reg <| mv rfl rfl <| mv rfl rfl <| add32 rfl rfl rfl <| ixp rfl rfl u_t8 sz_u32 rfl (by omega) (by omega) <| ld1 (v := V32 r.d) rfl ag_u32 rfl (cell_of hq5 rfl) <| mv rfl rfl <| add32 rfl rfl rfl <| ixp rfl rfl u_t8 sz_u32 rfl (by omega) (by omega) <| st1 rfl rfl sz_u32 rfl hq5 rfl <| ixp rfl rfl u_t8 sz_u32 rfl (by omega) (by omega) <| st1 rfl rfl sz_u32 rfl (setCell_heap hq5 _) rfl <| L.nil ?_
    refine N.inb ?_
    refine N.th ?_
    refine W.reg <| addI (c := ((i + 1 : Nat) : Int)) rfl rfl rfl (by rw [w64 (by omega) (by omega)]; simp) <| mv rfl rfl <| L.nil ?_
    have hx6 : ∀ {v1 v2 : Value} {o1 o2 : Nat}, Ext (fun k => k = q) w4 ((w5.setCell ⟨q, o1, none⟩ v1).setCell ⟨q, o2, none⟩ v2) := (hx5.trans (Ext.setCell (S := fun k => k = q) _ (fun _ => rfl) _)).trans (Ext.setCell (S := fun k => k = q) _ (fun _ => rfl) _)
    refine N.th (N.round (x := i + 1) ⟨rfl, rfl, rfl, rfl, trivial⟩ ⟨by omega, ?_, hx6.obj hg4 hgq, hx6.obj hs4 hbq, hx4.trans' hx6 hQ⟩ (by omega))   -- ROUND
    rw [hstep, setCell_heap (setCell_heap hq5 _)]
    rfl
  refine W.exit ?_
  refine N.xth ?_
  refine N.xth ?_
  refine N.xeq ?_
  refine N.th ?_
  have hi64 : i = 64 := by simp at h; omega
  subst hi64
  have hturn : Sh.turn s b = s.add (Sh.rounds b s 64) := rfl
  generalize Sh.rounds b s 64 = r at hq4 hturn
  rw [hturn]
  have hm4 : w4.heap[bt]? = some (.cells (enc32 (mix s r 0) ++ enc32 Sh.K).toArray tSt (0, 0)) := hs4
  refine W.seq ?_
  refine W.reg <| mv rfl rfl <| L.nil ?_
  refine N.th ?_
  refine W.block ?_
  refine W.loop (X := Nat) (fun i => [(179, .int .i64 i), (8, .pointer (some ⟨q, 0, none⟩)), (0, .pointer (some ⟨bt, 0, none⟩))])
    (fun i w' => i ≤ 8 ∧ w'.heap[bt]? = some (.cells (enc32 (mix s r i) ++ enc32 Sh.K).toArray tSt (0, 0)) ∧ w'.heap[q]? = some (.cells (enc32 r.l).toArray t8 (0, 0)) ∧ Ext (fun k => k = bt) w w') (fun i => 8 - i) 0 ⟨rfl, rfl, rfl, trivial⟩ ⟨by omega, hm4, hq4, hx4.none⟩ ?_
  rintro i w5 ⟨hi, hm5, hq5, hx5⟩
  refine W.seq ?_
  refine W.reg <| lssI rfl rfl rfl <| L.nil ?_
  refine N.th ?_
  refine W.seq ?_
  refine W.cond rfl (fun h => ?_) (fun h => ?_)
  · refine W.skip ?_
    refine N.th ?_
    have hi1 : i < 8 := by simp at h; omega
    refine W.seq ?_
    refine W.block ?_
    refine W.seq ?_
    refine W.reg <| mv rfl rfl <| asg rfl rfl <| L.nil ?_
    refine N.th ?_
    have hd : Ext none_ w5 w5.drew := Ext.drew _ _
    have hmd := hd.obj hm5 id
    refine W.draw [] true (fun w' => w'.heap[bt]? = some (.cells (enc32 (mix s r i) ++ enc32 Sh.K).toArray tSt (0, 0)) ∧ w'.heap[q]? = some (.cells (enc32 r.l).toArray t8 (0, 0))) [0, 1, 2, 3, 4, 5, 6, 7, 8, 9, 10, 11, 12, 13] rfl rfl (by kernel_rfl) ⟨hmd, hd.obj hq5 id⟩ ?_   -- held
    refine mv rfl rfl <| mv rfl rfl <| nilc rfl rfl <| fad rfl fl_St_0 rfl <| ixp rfl rfl u_t8 sz_u32 rfl (by omega) (by omega) <| ldK (v := V32 (Sh.at_ s.l i)) rfl ag_u32 rfl (fun w' h => cell_of h.1 (mix_get s r hi1 _)) <| mv rfl rfl <| ixp rfl rfl u_t8 sz_u32 rfl (by omega) (by omega) <| ldK (v := V32 (Sh.at_ r.l i)) rfl ag_u32 rfl (fun w' h => cell_of h.2 (l_get r hi1)) <| add32 rfl rfl rfl <|
      nilc rfl rfl <| fad rfl fl_St_0 rfl <| ixp rfl rfl u_t8 sz_u32 rfl (by omega) (by omega) <| st1 rfl rfl sz_u32 rfl hmd (mix_get s r hi1 _) (hS := .inl ⟨rfl, rfl⟩) <| L.nilH ?_
    refine N.inb ?_
    refine N.th ?_
    refine W.reg <| addI (c := ((i + 1 : Nat) : Int)) rfl rfl rfl (by rw [w64 (by omega) (by omega)]; simp) <| mv rfl rfl <| L.nil ?_
    have hx6 : ∀ {v1 : Value} {o1 : Nat}, Ext (fun k => k = bt) w5 (w5.drew.setCell ⟨bt, o1, none⟩ v1) := hd.none.trans (Ext.setCell (S := fun k => k = bt) _ (fun _ => rfl) _)
    refine N.th (N.round (x := i + 1) ⟨rfl, rfl, rfl, trivial⟩ ⟨by omega, ?_, hx6.obj hq5 (fun e => hbq e.symm), hx5.trans hx6⟩ (by omega))   -- ROUND
    rw [setCell_heap hmd, ← mix_set s r hi1]
    have : 0 + 0 + ((i : Nat) : Int).toNat * 1 = i := by omega
    rw [this]
  · refine W.exit ?_
    refine N.xth ?_
    refine N.xth ?_
    refine N.xeq ?_
    refine N.end0 rfl ?_
    have hi8 : i = 8 := by simp at h; omega
    subst hi8
    exact ⟨rfl, hm5, hx5⟩
end Go.Proofs.YtmdpmpdlkaogdaaGreatDoor

namespace Go.Proofs.YtmdpmpdlkaogdaaGreatDoor.Vc
open Go Go.RowKit
section ops
variable {Fe : Fence} {mm : Nat} [Wd Fe] {P : Program} {ds : List Deferred} {n : Nat} {Q : Exit → Act → World → Prop} {E : Env} {w : World} {ops : Array Oper} {l : List Oper}
variable {d1 d2 : Nat} {ty1 ty2 : TypeId} {pos1 pos2 : String} {af1 af2 : Array Edge}

/-- 'append(s, x)' onto a slice of the call's own. -/
theorem push1 {t e : TypeId} {z : Value} {sz bytes B nn : Nat} {s x : Operand} {v v0 : Value} {xs : List Value} {cs : Array Value} (hx : opd E x = some v0) (hd1 : Nat.blt d1 n = true) (hs : opd ((d1, .slice (some ⟨w.heap.size, 0, none⟩) 1 1) :: E) s = some v) (hd2 : Nat.blt d2 n = true)
    (hr : ∀ w, (Instr.buildSlice t 1 #[(0, v0)]).run P w = .ok (.slice (some ⟨w.heap.size, 0, none⟩) 1 1) (w.alloc (.cells cs e))) (ht : ElT P t e z sz bytes) (hl : cs.size = sz) (h1 : cs.toList.all (·.oneCell') = true)
    (hown : w.ownsRow B e sz v nn xs) (hb : (nn + 1) * bytes ≤ 140737488355328) (hm : nn + 1 ≤ maxLen) (hB : B ≤ w.heap.size)
    (k : ∀ v' w', w'.ownsRow B e sz v' (nn + 1) (xs ++ cs.toList) → Ext (fun k => v.ownBlock = some k) w w' → L Fe mm P ds n ops l Q ((d2, v') :: (d1, .slice (some ⟨w.heap.size, 0, none⟩) 1 1) :: E) w') :
    L Fe mm P ds n ops (⟨some d1, .buildSlice t 1 #[(0, x)], ty1, pos1, af1, none⟩ :: ⟨some d2, .call ⟨.builtin .append, #[s, .tmp d1], #[t, t]⟩, ty2, pos2, af2, none⟩ :: l) Q E w := by
  have h0 : opd ((d1, .slice (some ⟨w.heap.size, 0, none⟩) 1 1) :: E) (.tmp d1) = some (.slice (some ⟨w.heap.size, 0, none⟩) 1 1) := by simp [opd, getE]
  refine bls (st := .plain Fe mm) (vs := #[(0, v0)]) (cs := cs) (e := e) (by simp [hx]) hd1 hr <| app hs h0 hd2 ht (own_ext hown (Ext.alloc none_ _ _) fun _ _ => id) (news := cs.toList) (by simp [hl]) (fun j u hj => by
    rw [add_at, Nat.zero_add]; exact cell_of (heap_new _ _) (by simpa using hj)) (fun u hu => List.all_eq_true.1 h1 u hu) hb hm (by simp; omega) fun v' w' ho hx2 _ _ => k v' w' ho ?_
  exact (Ext.alloc _ _ _).trans hx2

end ops
section ops2
variable {st : Sty} [Wy st] {P : Program} {ds : List Deferred} {n : Nat} {Q : Exit → Act → World → Prop} {E : Env} {w : World} {ops : Array Oper} {l : List Oper}
variable {d : Nat} {ty : TypeId} {pos : String} {af : Array Edge}
/-- A slice cut with a cap: 's[:hi:max]'. -/
theorem slVhm {t e : TypeId} {x hi mx : Operand} {a : Option Addr} {m c sz : Nat} {κ κ' : IntKind} {j i : Int} (hx : opd E x = some (.slice a m c)) (hh : opd E hi = some (.int κ j)) (hmx : opd E mx = some (.int κ' i)) (hu : P.underlying t = some (.slice e)) (hs : szB P e = some sz) (hd : Nat.blt d n = true) (h0 : 0 ≤ j) (h1 : j ≤ i) (h2 : i ≤ c)
    (k : LY st P ds n ops l Q ((d, .slice a j.toNat i.toNat) :: E) w) : LY st P ds n ops (⟨some d, .slice t x none (some hi) (some mx), ty, pos, af, none⟩ :: l) Q E w :=
  LY.rd _ hd (fun ac ha w _ => by
    have h4 : 0 ≤ j ∧ j ≤ (i.toNat : Int) := ⟨h0, by omega⟩
    have h5 : 0 ≤ i ∧ i ≤ (c : Int) := ⟨by omega, h2⟩
    have e1 : ∀ k : Nat, (if k = 0 then a else a.map (·.add (0 * sz))) = a := fun k => by split; rfl; cases a <;> simp [Addr.add]
    simp only [execOp, opd_eval ha hx, opd_eval ha hh, opd_eval ha hmx, Option.map_some, Option.map_none, Instr.sliceAt, Instr.slice, Instr.sliceBounds, Instr.sliceBound, asIntOf, underlying, program, Sem.run_bind, Sem.run, Result.andThen_ok, hu, Sem.run_pure, Sem.run_ite, if_pos h4, if_pos h5, run_sizeOf hs, e1, Nat.sub_zero]) k
/-- 'append' onto a slice that has no room: a new row. -/
theorem appG {t e : TypeId} {z : Value} {sz bytes nn cap m c : Nat} {s x : Operand} {b ad : Addr} {olds news : List Value} (hs : opd E s = some (.slice (some b) nn cap)) (hx : opd E x = some (.slice (some ad) m c)) (hd : Nat.blt d n = true) (ht : ElT P t e z sz bytes)
    (hlo : olds.length = nn * sz) (holds : ∀ j u, olds[j]? = some u → w.cell? (b.add j) = some u) (hl : news.length = m * sz) (hnews : ∀ j u, news[j]? = some u → w.cell? (ad.add j) = some u)
    (hg : cap < nn + m) (hb : (nn + m) * bytes ≤ 140737488355328) (hm : nn + m ≤ maxLen)
    (k : ∀ v' w', w'.ownsRow w.heap.size e sz v' (nn + m) (olds ++ news) → Ext none_ w w' → st.keeps l w w' ∧ LY st P ds n ops l Q ((d, v') :: E) w') : LY st P ds n ops (⟨some d, .call ⟨.builtin .append, #[s, x], #[t, t]⟩, ty, pos, af, none⟩ :: l) Q E w := by
  obtain ⟨i, hi, hz, hsz, hby⟩ := ht.info
  obtain ⟨v', w', hr, ho, hgr⟩ := run_append_arg_grows (P := P) w t ty e i z sz bytes ht.u hi hz hsz hby ht.c ht.p b nn cap olds hlo holds ad m c news hl hnews hg hm hb
  obtain ⟨hk, k⟩ := k v' w' ho ((Ext.grown hgr).mono fun _ _ h => by cases h)
  exact bltinY (vs := [.slice (some b) nn cap, .slice (some ad) m c]) (by simp [hs, hx]) hd (fun _ => by simp [builtin, hr]) k (fun _ _ _ _ => rfl) hk
/-- The rest of a slice: its cells lie further on. -/
theorem slVlA {t e : TypeId} {x lo : Operand} {b o m c sz : Nat} {κ : IntKind} {i : Nat} (hx : opd E x = some (.slice (some ⟨b, o, none⟩) m c)) (hl : opd E lo = some (.int κ i)) (hu : P.underlying t = some (.slice e)) (hs : szB P e = some sz) (hd : Nat.blt d n = true) (h1 : i ≤ m)
    (k : ∀ ad : Addr, (i < c → ad = ⟨b, o + i * sz, none⟩) → LY st P ds n ops l Q ((d, .slice (some ad) (m - i) (c - i)) :: E) w) : LY st P ds n ops (⟨some d, .slice t x (some lo) none none, ty, pos, af, none⟩ :: l) Q E w := by
  refine slVl hx hl hu hs hd (by omega) (by omega) ?_
  have := k (if c = i then ⟨b, o, none⟩ else ⟨b, o + i * sz, none⟩) (fun h => by rw [if_neg (by omega)])
  have e1 : (if c = (i : Int).toNat then some (⟨b, o, none⟩ : Addr) else (some ⟨b, o, none⟩ : Option Addr).map (·.add ((i : Int).toNat * sz))) = some (if c = i then ⟨b, o, none⟩ else ⟨b, o + i * sz, none⟩) := by
    simp only [Int.toNat_natCast, Option.map_some, add_at]
    split <;> rfl
  rw [e1]
  simpa using this
end ops2
end Go.Proofs.YtmdpmpdlkaogdaaGreatDoor.Vc

namespace Go.Proofs.YtmdpmpdlkaogdaaGreatDoor
open Go Go.RowKit Vc

theorem ok_RSplit : FnOk P 80 := ⟨_, Tryz.func80, by kernel_rfl, by kernel_rfl⟩
theorem ok_Rbad : FnOk P 95 := ⟨_, Tryz.func95, by kernel_rfl, by kernel_rfl⟩
theorem ok_Rglue : FnOk P 83 := ⟨_, Tryz.func83, by kernel_rfl, by kernel_rfl⟩
abbrev StrsA (B : Nat) (w : World) (v : Value) (l : List Sp.Bytes) : Prop := w.ownsRow B 9 1 v l.length (encT l)

theorem rsplit_app (a b : Sp.Bytes) (h : 47 ∉ a) : Sp.split (a ++ 47 :: b) = a :: Sp.split b := by
  induction a with
  | nil => simp [Sp.split]
  | cons c a ih =>
    simp only [List.mem_cons, not_or] at h
    rw [List.cons_append]
    show (if c = 47 then [] :: Sp.split (a ++ 47 :: b) else _) = _
    rw [if_neg (fun e => h.1 e.symm), ih h.2]
theorem rsplit_one (a : Sp.Bytes) (h : 47 ∉ a) : Sp.split a = [a] := by
  induction a with
  | nil => rfl
  | cons c a ih =>
    simp only [List.mem_cons, not_or] at h
    show (if c = 47 then [] :: Sp.split a else _) = _
    rw [if_neg (fun e => h.1 e.symm), ih h.2]
/-- Between two rounds. -/
structure SplitI (w0 : World) (s : Sp.Bytes) (i from_ : Nat) (out : List Sp.Bytes) (v : Value) (w : World) : Prop where
  own : StrsA w0.heap.size w v out
  ext : Ext none_ w0 w
  le : i ≤ s.length + 1
  len : out.length ≤ i
  on : i ≤ s.length → from_ ≤ i ∧ Sp.split s = out ++ Sp.split (s.drop from_) ∧ 47 ∉ (s.drop from_).take (i - from_)
  off : i = s.length + 1 → out = Sp.split s

theorem drop_at {s : Sp.Bytes} {f i : Nat} {b : UInt8} (h : f ≤ i) (hb : s[i]? = some b) : s.drop f = (s.drop f).take (i - f) ++ b :: s.drop (i + 1) := by
  have h1 : s.drop f = (s.drop f).take (i - f) ++ (s.drop f).drop (i - f) := (List.take_append_drop _ _).symm
  have h2 : (s.drop f).drop (i - f) = s.drop i := by rw [List.drop_drop]; congr 1; omega
  have h3 : s.drop i = b :: s.drop (i + 1) := by
    obtain ⟨hi, rfl⟩ := List.getElem?_eq_some_iff.1 hb
    exact List.drop_eq_getElem_cons hi
  rw [h2, h3] at h1
  exact h1

theorem c_RSplit (s : Sp.Bytes) (hs : s.length ≤ 1000000000) (w : World) : Calls P 80 #[.string (S s)] w fun e w' => ∃ v, e = .returned v ∧ StrsA w.heap.size w' v (Sp.split s) ∧ Ext none_ w w' := by
  refine enter (l := [_]) (n := 32) Tryz.func80 rfl rfl rfl ?_
  refine W.seq ?_
  refine W.reg <| asg rfl rfl <| L.nil ?_
  refine N.th ?_
  refine W.seq ?_
  refine W.reg <| asg rfl rfl <| L.nil ?_
  refine N.th ?_
  refine W.seq ?_
  refine W.reg <| asg rfl rfl <| L.nil ?_
  refine N.th ?_
  refine W.seq ?_
  refine W.seq ?_
  refine W.reg <| asg rfl rfl <| L.nil ?_
  refine N.th ?_
  refine W.block ?_
  refine W.loop (X := Nat × Nat × List Sp.Bytes × Value) (fun x => [(0, .string (S s)), (3, x.2.2.2), (4, .int .i64 x.2.1), (5, .int .i64 x.1)]) (fun x w' => SplitI w s x.1 x.2.1 x.2.2.1 x.2.2.2 w') (fun x => s.length + 1 - x.1) (0, 0, [], .slice none 0 0) ⟨rfl, rfl, rfl, rfl, trivial⟩
    ⟨own_nil _ _ _ _, Ext.refl _ _, by simp, by simp, fun _ => ⟨Nat.le_refl _, by simp, by simp⟩, fun h => by simp at h⟩ ?_
  rintro ⟨i, f, out, v⟩ w1 hI
  obtain ⟨hown, hx, hle, hlen, hon, hoff⟩ := id hI
  dsimp only at hown hx hle hlen hon hoff ⊢
  refine W.seq ?_
  refine W.seq ?_
  refine W.reg <| mv rfl rfl <| mv rfl rfl <| lenS rfl u_str rfl <| leqI rfl rfl rfl <| L.nil ?_
  refine N.th ?_
  refine W.cond rfl (fun h => ?_) (fun h => ?_)
  · have hi : i ≤ s.length := by simp at h; omega
    obtain ⟨hf, hsp, hno⟩ := hon hi
    refine W.skip ?_
    refine N.th ?_
    refine W.seqM (fun E w' => ∃ (f' : Nat) (out' : List Sp.Bytes) (v' : Value), E = [(0, .string (S s)), (3, v'), (4, .int .i64 f'), (5, .int .i64 i)] ∧ SplitI w s (i + 1) f' out' v' w') ?_ ?_   -- CUT
    · refine W.block ?_
      refine W.seqM (fun E w' => ∃ c, E = [(21, .bool c), (0, .string (S s)), (3, v), (4, .int .i64 f), (5, .int .i64 i)] ∧ w' = w1 ∧ (c = true → i = s.length ∨ s[i]? = some 47) ∧ (c = false → ∃ b, s[i]? = some b ∧ b ≠ 47)) ?_ ?_
      · refine W.reg <| mv rfl rfl <| mv rfl rfl <| lenS rfl u_str rfl <| eqlI rfl rfl rfl <| ?_
        by_cases he : i = s.length
        · refine Vc.bt (by simp [he]) ?_
          refine mv rfl rfl <| L.off rfl rfl rfl rfl rfl <| L.off rfl rfl rfl rfl rfl <| L.off rfl rfl rfl rfl rfl <| L.off rfl rfl rfl rfl rfl <| pickT rfl rfl rfl <| L.nil ?_
          exact N.th (N.meet [(21, _), (0, _), (3, _), (4, _), (5, _)] ⟨rfl, rfl, rfl, rfl, rfl, trivial⟩ ⟨true, rfl, rfl, fun _ => .inl he, fun h => by cases h⟩)
        · obtain ⟨b, hb⟩ : ∃ b, s[i]? = some b := ⟨_, List.getElem?_eq_getElem (by omega)⟩
          refine Vc.bf (by simp; omega) ?_
          refine mv rfl rfl <| L.on rfl rfl rfl <| mv rfl rfl <| L.on rfl rfl rfl <| mv rfl rfl <| L.on rfl rfl rfl <| idxS rfl rfl u_str rfl (by omega) (b := b) (by simpa using hb) <| L.on rfl rfl rfl <| eqlI rfl rfl rfl <| pickF rfl rfl rfl <| L.nil ?_
          refine N.th (N.meet [(21, _), (0, _), (3, _), (4, _), (5, _)] ⟨rfl, rfl, rfl, rfl, rfl, trivial⟩ ⟨_, rfl, rfl, fun h => ?_, fun h => ?_⟩)
          · right
            have : b = 47 := UInt8.toNat_inj.1 (by simp at h; simp; omega)
            rw [hb, this]
          · refine ⟨b, hb, fun e => ?_⟩
            subst e
            simp at h
      rintro E w2 ⟨c, rfl, rfl, hc1, hc2⟩
      refine W.cond rfl (fun h => ?_) (fun h => ?_)
      · refine W.seq ?_
        refine W.reg <| mv rfl rfl <| mv rfl rfl <| mv rfl rfl <| mv rfl rfl <| slS rfl rfl rfl u_str rfl (by omega) (by omega) (by omega) <|
          push1 (cs := #[.string (S ((s.drop f).take (i - f)))]) rfl rfl rfl rfl (fun _ => by kernel_rfl) el_strs rfl rfl hown (by omega) (by simp only [maxLen]; omega) hx.size fun v' w3 hown3 hx3 => ?_
        refine asg rfl rfl <| L.nil ?_
        refine N.th ?_
        refine W.reg <| mv rfl rfl <| addI (c := ((i + 1 : Nat) : Int)) rfl rfl rfl (by rw [w64 (by omega) (by omega)]; simp) <| asg rfl rfl <| L.nil ?_
        refine N.inb ?_
        refine N.th (N.meet [(0, _), (3, v'), (4, _), (5, _)] ⟨rfl, rfl, rfl, rfl, trivial⟩ ⟨i + 1, out ++ [(s.drop f).take (i - f)], v', rfl, by simpa [StrsA, encT] using hown3, hx.own hown hx3, by omega, by simp; omega, fun hi1 => ?_, fun hi1 => ?_⟩)   -- MEET
        · have hb := (hc1 h).resolve_left (by omega)
          refine ⟨Nat.le_refl _, ?_, by simp⟩
          have := congrArg Sp.split (drop_at hf hb)
          rw [rsplit_app _ _ hno] at this
          rw [hsp, this]
          simp
        · have hil : i = s.length := by omega
          have : (s.drop f).take (i - f) = s.drop f := List.take_of_length_le (by simp; omega)
          rw [this] at hno ⊢
          rw [hsp, rsplit_one _ hno]
      · refine W.skip ?_
        refine N.inb ?_
        obtain ⟨b, hb, hb47⟩ := hc2 h
        have hil : i < s.length := (List.getElem?_eq_some_iff.1 hb).1
        refine N.th (N.meet [(0, _), (3, v), (4, _), (5, _)] ⟨rfl, rfl, rfl, rfl, trivial⟩ ⟨f, out, v, rfl, hown, hx, by omega, by omega, fun hi1 => ⟨by omega, hsp, ?_⟩, fun hi1 => by omega⟩)   -- MEET
        have e1 : (s.drop f).take (i + 1 - f) = (s.drop f).take (i - f) ++ [b] := by
          have hg : (s.drop f)[i - f]? = some b := by rw [List.getElem?_drop, ← hb]; congr 1; omega
          rw [show i + 1 - f = (i - f) + 1 by omega, List.take_add_one, hg]; rfl
        rw [e1]
        simp only [List.mem_append, List.mem_singleton, not_or]
        exact ⟨hno, fun e => hb47 e.symm⟩
    rintro E w3 ⟨f', out', v', rfl, hI'⟩
    refine W.reg <| mv rfl rfl <| addI (c := ((i + 1 : Nat) : Int)) rfl rfl rfl (by rw [w64 (by omega) (by omega)]; simp) <| asg rfl rfl <| L.nil ?_
    refine N.th (N.round (x := (i + 1, f', out', v')) ⟨rfl, rfl, rfl, rfl, trivial⟩ hI' (by dsimp only; omega))   -- ROUND
  · refine W.exit ?_
    refine N.xth ?_
    refine N.xth ?_
    refine N.xeq ?_
    refine N.th ?_
    refine W.seq ?_
    refine W.reg <| mv rfl rfl <| asg rfl rfl <| L.nil ?_
    refine N.th ?_
    refine W.ret ?_
    refine N.ret1 rfl rfl ?_   -- RETURN
    have hi : i = s.length + 1 := by simp at h; omega
    rw [← hoff hi]
    exact ⟨_, rfl, hown, hx⟩

/-- Is something wrong with a part? -/
def rbad (s : Sp.Bytes) : Bool := !decide (Sp.part s = 0)
def wrongB (c : UInt8) : Bool := c.toNat < 33 || 126 < c.toNat || c.toNat = 34 || c.toNat = 92 || c.toNat = 42 || c.toNat = 63 || c.toNat = 58
theorem wrong_right (c : UInt8) : wrongB c = !Sp.right c := by
  have h : ((List.range 256).all fun n => wrongB (UInt8.ofNat n) == !Sp.right (UInt8.ofNat n)) = true := by kernel_rfl
  have := List.all_eq_true.1 h c.toNat (List.mem_range.2 c.toNat_lt)
  simpa using this

theorem c_Rbad (s : Sp.Bytes) (hs : s.length ≤ 1000000000) (w : World) : Calls P 95 #[.string (S s)] w fun e w' => e = .returned (.bool (rbad s)) ∧ w = w' := by
  refine enter (l := [_]) (n := 43) Tryz.func95 rfl rfl rfl ?_
  refine W.seq ?_
  refine W.reg <| asg rfl rfl <| L.nil ?_
  refine N.th ?_
  refine W.seq ?_
  refine W.seq ?_
  refine W.reg <| mv rfl rfl <| lenS rfl u_str rfl <| gtrI rfl rfl rfl <| L.nil ?_
  refine N.th ?_
  refine W.cond rfl (fun h => ?_) (fun h => ?_)
  · refine W.seq ?_
    refine W.reg <| asg rfl rfl <| L.nil ?_
    refine N.th ?_
    refine W.ret ?_
    refine N.rth ?_
    refine N.ret1 rfl rfl ?_   -- RETURN
    have h1 : 32 < s.length := by simp at h; omega
    exact ⟨by simp [rbad, Sp.part, h1], rfl⟩
  have h1 : ¬ 32 < s.length := by simp at h; omega
  refine W.skip ?_
  refine N.th ?_
  refine W.seq ?_
  refine W.seq ?_
  refine W.reg <| asg rfl rfl <| L.nil ?_
  refine N.th ?_
  refine W.block ?_
  refine W.loop (X := Nat) (fun i => [(0, .string (S s)), (3, .int .i64 i)]) (fun i w' => i ≤ s.length ∧ w' = w ∧ (s.take i).all Sp.right = true) (fun i => s.length - i) 0 ⟨rfl, rfl, trivial⟩ ⟨by omega, rfl, rfl⟩ ?_
  rintro i w1 ⟨hi, rfl, hall⟩
  refine W.seq ?_
  refine W.seq ?_
  refine W.reg <| mv rfl rfl <| mv rfl rfl <| lenS rfl u_str rfl <| lssI rfl rfl rfl <| L.nil ?_
  refine N.th ?_
  refine W.cond rfl (fun h => ?_) (fun h => ?_)
  · refine W.skip ?_
    refine N.th ?_
    have hi1 : i < s.length := by simp at h; omega
    obtain ⟨b, hb⟩ : ∃ b, s[i]? = some b := ⟨_, List.getElem?_eq_getElem hi1⟩
    refine W.seq ?_
    refine W.block ?_
    refine W.seq ?_
    refine W.reg <| mv rfl rfl <| mv rfl rfl <| idxS rfl rfl u_str rfl (by omega) (b := b) (by simpa using hb) <| asg rfl rfl <| L.nil ?_
    refine N.th ?_
    refine W.seqM (fun E w' => E = [(42, .bool (wrongB b)), (0, .string (S s)), (3, .int .i64 i)] ∧ w' = w1) ?_ ?_
    · refine W.reg <| mv rfl rfl <| lssI rfl rfl rfl <| ?_
      cases c1 : decide ((b.toNat : Int) < 33) with
      | true =>
        refine mv rfl rfl <| L.off rfl rfl rfl rfl rfl <| L.off rfl rfl rfl rfl rfl <| pickT rfl rfl rfl <| mv rfl rfl <| L.off rfl rfl rfl rfl rfl <| L.off rfl rfl rfl rfl rfl <| pickT rfl rfl rfl <| mv rfl rfl <| L.off rfl rfl rfl rfl rfl <| L.off rfl rfl rfl rfl rfl <| pickT rfl rfl rfl <| mv rfl rfl <| L.off rfl rfl rfl rfl rfl <| L.off rfl rfl rfl rfl rfl <| pickT rfl rfl rfl <| mv rfl rfl <| L.off rfl rfl rfl rfl rfl <| L.off rfl rfl rfl rfl rfl <| pickT rfl rfl rfl <| mv rfl rfl <| L.off rfl rfl rfl rfl rfl <| L.off rfl rfl rfl rfl rfl <| pickT rfl rfl rfl <| L.nil ?_
        refine N.th (N.meet [(42, .bool true), (0, _), (3, _)] ⟨rfl, rfl, rfl, trivial⟩ ⟨?_, rfl⟩)
        have : b.toNat < 33 := by simp at c1; omega
        simp [wrongB, this]
      | false =>
      refine mv rfl rfl <| L.on rfl rfl rfl <| mv rfl rfl <| L.on rfl rfl rfl <| gtrI rfl rfl rfl <| pickF rfl rfl rfl <| ?_
      cases c2 : decide ((126 : Int) < b.toNat) with
      | true =>
        refine mv rfl rfl <| L.off rfl rfl rfl rfl rfl <| L.off rfl rfl rfl rfl rfl <| pickT rfl rfl rfl <| mv rfl rfl <| L.off rfl rfl rfl rfl rfl <| L.off rfl rfl rfl rfl rfl <| pickT rfl rfl rfl <| mv rfl rfl <| L.off rfl rfl rfl rfl rfl <| L.off rfl rfl rfl rfl rfl <| pickT rfl rfl rfl <| mv rfl rfl <| L.off rfl rfl rfl rfl rfl <| L.off rfl rfl rfl rfl rfl <| pickT rfl rfl rfl <| mv rfl rfl <| L.off rfl rfl rfl rfl rfl <| L.off rfl rfl rfl rfl rfl <| pickT rfl rfl rfl <| L.nil ?_
        refine N.th (N.meet [(42, .bool true), (0, _), (3, _)] ⟨rfl, rfl, rfl, trivial⟩ ⟨?_, rfl⟩)
        have : 126 < b.toNat := by simp at c2; omega
        simp [wrongB, this]
      | false =>
      refine mv rfl rfl <| L.on rfl rfl rfl <| mv rfl rfl <| L.on rfl rfl rfl <| eqlI rfl rfl rfl <| pickF rfl rfl rfl <| ?_
      cases c3 : decide ((b.toNat : Int) = 34) with
      | true =>
        refine mv rfl rfl <| L.off rfl rfl rfl rfl rfl <| L.off rfl rfl rfl rfl rfl <| pickT rfl rfl rfl <| mv rfl rfl <| L.off rfl rfl rfl rfl rfl <| L.off rfl rfl rfl rfl rfl <| pickT rfl rfl rfl <| mv rfl rfl <| L.off rfl rfl rfl rfl rfl <| L.off rfl rfl rfl rfl rfl <| pickT rfl rfl rfl <| mv rfl rfl <| L.off rfl rfl rfl rfl rfl <| L.off rfl rfl rfl rfl rfl <| pickT rfl rfl rfl <| L.nil ?_
        refine N.th (N.meet [(42, .bool true), (0, _), (3, _)] ⟨rfl, rfl, rfl, trivial⟩ ⟨?_, rfl⟩)
        have : b.toNat = 34 := by simp at c3; omega
        simp [wrongB, this]
      | false =>
      refine mv rfl rfl <| L.on rfl rfl rfl <| mv rfl rfl <| L.on rfl rfl rfl <| eqlI rfl rfl rfl <| pickF rfl rfl rfl <| ?_
      cases c4 : decide ((b.toNat : Int) = 92) with
      | true =>
        refine mv rfl rfl <| L.off rfl rfl rfl rfl rfl <| L.off rfl rfl rfl rfl rfl <| pickT rfl rfl rfl <| mv rfl rfl <| L.off rfl rfl rfl rfl rfl <| L.off rfl rfl rfl rfl rfl <| pickT rfl rfl rfl <| mv rfl rfl <| L.off rfl rfl rfl rfl rfl <| L.off rfl rfl rfl rfl rfl <| pickT rfl rfl rfl <| L.nil ?_
        refine N.th (N.meet [(42, .bool true), (0, _), (3, _)] ⟨rfl, rfl, rfl, trivial⟩ ⟨?_, rfl⟩)
        have : b.toNat = 92 := by simp at c4; omega
        simp [wrongB, this]
      | false =>
      refine mv rfl rfl <| L.on rfl rfl rfl <| mv rfl rfl <| L.on rfl rfl rfl <| eqlI rfl rfl rfl <| pickF rfl rfl rfl <| ?_
      cases c5 : decide ((b.toNat : Int) = 42) with
      | true =>
        refine mv rfl rfl <| L.off rfl rfl rfl rfl rfl <| L.off rfl rfl rfl rfl rfl <| pickT rfl rfl rfl <| mv rfl rfl <| L.off rfl rfl rfl rfl rfl <| L.off rfl rfl rfl rfl rfl <| pickT rfl rfl rfl <| L.nil ?_
        refine N.th (N.meet [(42, .bool true), (0, _), (3, _)] ⟨rfl, rfl, rfl, trivial⟩ ⟨?_, rfl⟩)
        have : b.toNat = 42 := by simp at c5; omega
        simp [wrongB, this]
      | false =>
      refine mv rfl rfl <| L.on rfl rfl rfl <| mv rfl rfl <| L.on rfl rfl rfl <| eqlI rfl rfl rfl <| pickF rfl rfl rfl <| ?_
      cases c6 : decide ((b.toNat : Int) = 63) with
      | true =>
        refine mv rfl rfl <| L.off rfl rfl rfl rfl rfl <| L.off rfl rfl rfl rfl rfl <| pickT rfl rfl rfl <| L.nil ?_
        refine N.th (N.meet [(42, .bool true), (0, _), (3, _)] ⟨rfl, rfl, rfl, trivial⟩ ⟨?_, rfl⟩)
        have : b.toNat = 63 := by simp at c6; omega
        simp [wrongB, this]
      | false =>
      refine mv rfl rfl <| L.on rfl rfl rfl <| mv rfl rfl <| L.on rfl rfl rfl <| eqlI rfl rfl rfl <| pickF rfl rfl rfl <| L.nil ?_
      refine N.th (N.meet [(42, .bool (decide ((b.toNat : Int) = 58))), (0, _), (3, _)] ⟨rfl, rfl, rfl, trivial⟩ ⟨?_, rfl⟩)
      have d1 : ¬ b.toNat < 33 := by simp at c1; omega
      have d2 : ¬ 126 < b.toNat := by simp at c2; omega
      have d3 : ¬ b.toNat = 34 := by simp at c3; omega
      have d4 : ¬ b.toNat = 92 := by simp at c4; omega
      have d5 : ¬ b.toNat = 42 := by simp at c5; omega
      have d6 : ¬ b.toNat = 63 := by simp at c6; omega
      have d7 : decide ((b.toNat : Int) = 58) = decide (b.toNat = 58) := by apply Bool.eq_iff_iff.2; simp only [decide_eq_true_eq]; omega
      rw [d7]
      simp only [wrongB, d1, d2, d3, d4, d5, d6, decide_false, Bool.false_or, Bool.or_false]
    rintro E w2 ⟨rfl, rfl⟩
    refine W.cond rfl (fun h => ?_) (fun h => ?_)
    · refine W.seq ?_
      refine W.reg <| asg rfl rfl <| L.nil ?_
      refine N.th ?_
      refine W.ret ?_
      refine N.rinb <| N.rth <| N.rth <| N.rinb <| N.rth ?_
      refine N.ret1 rfl rfl ?_   -- RETURN
      rw [wrong_right] at h
      have hn : s.all Sp.right = false := by
        rw [List.all_eq_false]
        exact ⟨b, List.mem_of_getElem? hb, by simpa using h⟩
      exact ⟨by simp [rbad, Sp.part, h1, hn], rfl⟩
    · refine W.skip ?_
      refine N.inb ?_
      refine N.th ?_
      refine W.reg <| mv rfl rfl <| addI (c := ((i + 1 : Nat) : Int)) rfl rfl rfl (by rw [w64 (by omega) (by omega)]; simp) <| asg rfl rfl <| L.nil ?_
      refine N.th (N.round (x := i + 1) ⟨rfl, rfl, trivial⟩ ⟨by omega, rfl, ?_⟩ (by omega))   -- ROUND
      rw [wrong_right] at h
      rw [List.take_add_one, hb, List.all_append, hall]
      simpa using h
  · refine W.exit ?_
    refine N.xth ?_
    refine N.xth ?_
    refine N.xeq ?_
    refine N.th ?_
    refine W.seq ?_
    refine W.reg <| asg rfl rfl <| L.nil ?_
    refine N.th ?_
    refine W.ret ?_
    refine N.ret1 rfl rfl ?_   -- RETURN
    have hi1 : i = s.length := by simp at h; omega
    rw [hi1, List.take_length] at hall
    exact ⟨by simp [rbad, Sp.part, h1, hall], rfl⟩

/-- Glued, from before. -/
theorem glue_snoc (l : List Sp.Bytes) (x : Sp.Bytes) : Sp.glue (l ++ [x]) = if l = [] then x else Sp.glue l ++ 47 :: x := by
  induction l with
  | nil => rfl
  | cons y l ih =>
    rw [if_neg (by simp)]
    cases l with
    | nil => rfl
    | cons z l =>
      rw [if_neg (by simp)] at ih
      show y ++ 47 :: Sp.glue (z :: l ++ [x]) = (y ++ 47 :: Sp.glue (z :: l)) ++ 47 :: x
      rw [ih]; simp
theorem glue_take_len (l : List Sp.Bytes) (i : Nat) : (Sp.glue (l.take i)).length ≤ (Sp.glue l).length := by
  induction l generalizing i with
  | nil => simp
  | cons x l ih =>
    cases i with
    | zero => simp [Sp.glue]
    | succ i =>
      cases l with
      | nil => simp [Sp.glue]
      | cons y l =>
        rw [List.take_succ_cons]
        cases i with
        | zero => simp [Sp.glue]
        | succ i =>
          have := ih (i + 1)
          rw [List.take_succ_cons] at this ⊢
          simp only [Sp.glue, List.length_append, List.length_cons] at this ⊢
          omega

theorem c_Rglue (w : World) (v : Value) (l : List Sp.Bytes) (h : Row w v 9 1 l.length (encT l)) (hlen : (Sp.glue l).length ≤ 1000000000) (hn : l.length ≤ 1000000000) :
    Calls P 83 #[v] w fun e w' => e = .returned (.string (S (Sp.glue l))) ∧ w = w' := by
  obtain ⟨-, a, c, rfl, hnc, hmx, hnil, -⟩ := id h
  refine enter (l := [_]) (n := 22) Tryz.func83 rfl rfl rfl ?_
  refine W.seq ?_
  refine W.reg <| asg rfl rfl <| L.nil ?_
  refine N.th ?_
  refine W.seq ?_
  refine W.reg <| asg rfl rfl <| L.nil ?_
  refine N.th ?_
  refine W.seq ?_
  refine W.seq ?_
  refine W.reg <| asg rfl rfl <| L.nil ?_
  refine N.th ?_
  refine W.block ?_
  refine W.loop (X := Nat) (fun i => [(0, .slice a l.length c), (3, .string (S (Sp.glue (l.take i)))), (4, .int .i64 i)]) (fun i w' => i ≤ l.length ∧ w' = w) (fun i => l.length - i) 0 ⟨rfl, rfl, rfl, trivial⟩ ⟨by omega, rfl⟩ ?_
  rintro i w1 ⟨hi, rfl⟩
  refine W.seq ?_
  refine W.seq ?_
  refine W.reg <| mv rfl rfl <| mv rfl rfl <| lenV rfl u_strs rfl <| lssI rfl rfl rfl <| L.nil ?_
  refine N.th ?_
  refine W.cond rfl (fun hc => ?_) (fun hc => ?_)
  · refine W.skip ?_
    refine N.th ?_
    have hi1 : i < l.length := by simp at hc; omega
    obtain ⟨x, hx⟩ : ∃ x, l[i]? = some x := ⟨_, List.getElem?_eq_getElem hi1⟩
    have hg := glue_snoc (l.take i) x
    have htk : l.take i ++ [x] = l.take (i + 1) := by rw [List.take_add_one, hx]; rfl
    rw [htk] at hg
    have hgl := glue_take_len l (i + 1)
    rcases h.form with ⟨h0, h3, _⟩ | ⟨b, o, c', h0, -, -, -, hcell⟩
    · omega
    cases h0
    have hcx : w1.cell? ⟨b, o + i * 1, none⟩ = some (.string (S x)) := by rw [Nat.mul_one]; exact hcell i _ (by simp [encT, hx])
    refine W.seqM (fun E w' => E = [(0, .slice (some ⟨b, o, none⟩) l.length c), (3, .string (S (Sp.glue (l.take (i + 1))))), (4, .int .i64 i)] ∧ w' = w1) ?_ ?_   -- CUT
    · refine W.block ?_
      refine W.seqM (fun E w' => E = [(0, .slice (some ⟨b, o, none⟩) l.length c), (3, .string (S (if l.take i = [] then [] else Sp.glue (l.take i) ++ [47]))), (4, .int .i64 i)] ∧ w' = w1) ?_ ?_   -- CUT
      · refine W.seq ?_
        refine W.reg <| mv rfl rfl <| gtrI rfl rfl rfl <| L.nil ?_
        refine N.th ?_
        have hl0 : l.take i = [] ↔ i = 0 := by rw [← List.length_eq_zero_iff, List.length_take]; omega
        refine W.cond rfl (fun h => ?_) (fun h => ?_)
        · have h0 : i ≠ 0 := by simp at h; omega
          rw [if_neg (by rw [hl0]; exact h0)] at hg
          have : (Sp.glue (l.take i)).length + 1 ≤ 1000000000 := by rw [hg] at hgl; simp at hgl; omega
          refine W.reg <| mv rfl rfl <| addS (b := [47]) rfl rfl rfl (by simp; omega) <| asg rfl rfl <| L.nil ?_
          refine N.th (N.meet [(0, _), (3, _), (4, _)] ⟨rfl, rfl, rfl, trivial⟩ ⟨?_, rfl⟩)   -- MEET
          rw [if_neg (by rw [hl0]; exact h0)]
        · have h0 : i = 0 := by simp at h; omega
          subst h0
          refine W.skip ?_
          exact N.th (N.meet [(0, _), (3, _), (4, _)] ⟨rfl, rfl, rfl, trivial⟩ ⟨rfl, rfl⟩)   -- MEET
      rintro E w2 ⟨rfl, rfl⟩
      have hsum : (if l.take i = [] then [] else Sp.glue (l.take i) ++ [47]) ++ x = Sp.glue (l.take (i + 1)) := by
        rw [hg]; split <;> simp
      refine W.reg <| mv rfl rfl <| mv rfl rfl <| mv rfl rfl <| ixa rfl rfl u_strs sz_str rfl (by omega) (by omega) <| ld1 rfl ag_str rfl hcx <| addS (b := x) rfl rfl rfl (by rw [← List.length_append, hsum]; omega) <| asg rfl rfl <| L.nil ?_
      refine N.inb ?_
      refine N.th (N.meet [(0, _), (3, _), (4, _)] ⟨rfl, rfl, rfl, trivial⟩ ⟨?_, rfl⟩)   -- MEET
      rw [hsum]
    rintro E w2 ⟨rfl, rfl⟩
    refine W.reg <| mv rfl rfl <| addI (c := ((i + 1 : Nat) : Int)) rfl rfl rfl (by rw [w64 (by omega) (by omega)]; simp) <| asg rfl rfl <| L.nil ?_
    exact N.th (N.round (x := i + 1) ⟨rfl, rfl, rfl, trivial⟩ ⟨by omega, rfl⟩ (by omega))   -- ROUND
  · refine W.exit ?_
    refine N.xth ?_
    refine N.xth ?_
    refine N.xeq ?_
    refine N.th ?_
    refine W.seq ?_
    refine W.reg <| mv rfl rfl <| asg rfl rfl <| L.nil ?_
    refine N.th ?_
    refine W.ret ?_
    refine N.ret1 rfl rfl ?_   -- RETURN
    have hi1 : i = l.length := by simp at hc; omega
    rw [hi1, List.take_length]
    exact ⟨rfl, rfl⟩
end Go.Proofs.YtmdpmpdlkaogdaaGreatDoor

namespace Go.Proofs.YtmdpmpdlkaogdaaGreatDoor
open Go Go.RowKit Vc

theorem ok_Rclean : FnOk P 64 := ⟨_, Tryz.func64, by kernel_rfl, by kernel_rfl⟩
theorem ok_RClean : FnOk P 26 := ⟨_, Tryz.func26, by kernel_rfl, by kernel_rfl⟩
theorem ok_RParts : FnOk P 42 := ⟨_, Tryz.func42, by kernel_rfl, by kernel_rfl⟩
theorem ok_RParent : FnOk P 44 := ⟨_, Tryz.func44, by kernel_rfl, by kernel_rfl⟩
theorem ok_RWithin : FnOk P 35 := ⟨_, Tryz.func35, by kernel_rfl, by kernel_rfl⟩

theorem part_cases (x : Sp.Bytes) : Sp.part x = 0 ∨ Sp.part x = 50 := by unfold Sp.part; split <;> (try split) <;> simp
theorem drop_sum (l : List Sp.Bytes) : (l.dropLast.map (fun x => x.length + 1)).sum ≤ (l.map (fun x => x.length + 1)).sum := by
  rw [List.dropLast_eq_take]
  conv => rhs; rw [← List.take_append_drop (l.length - 1) l]
  rw [List.map_append, List.sum_append]
  omega
theorem strsA_take {B : Nat} {w : World} {a : Option Addr} {c : Nat} {l : List Sp.Bytes} (h : StrsA B w (.slice a l.length c) l) : StrsA B w (.slice a (l.length - 1) c) l.dropLast := by
  have := own_take h (m := l.length - 1) (by omega)
  have e : (encT l).take ((l.length - 1) * 1) = encT l.dropLast := by simp [encT, List.dropLast_eq_take, List.map_take]
  rw [e] at this
  unfold StrsA
  rw [List.length_dropLast]; exact this

theorem c_Rclean (s : Sp.Bytes) (w : World) : Calls P 64 #[.string (S s), .slice none 0 0] w fun e w' => e = .returned (.tuple #[.string (S (Sp.clean s).1), .int .i64 (Sp.clean s).2]) ∧ Ext none_ w w' := by
  refine enter (l := [_, _]) (n := 77) Tryz.func64 rfl rfl rfl ?_
  refine W.seq ?_
  refine W.reg <| asg rfl rfl <| asg rfl rfl <| L.nil ?_
  refine N.th ?_
  refine W.seq ?_
  refine W.seq ?_
  refine W.reg <| mv rfl rfl <| lenS rfl u_str rfl <| gtrI rfl rfl rfl <| L.nil ?_
  refine N.th ?_
  refine W.cond rfl (fun h => ?_) (fun h => ?_)
  · refine W.seq ?_
    refine W.reg <| asg rfl rfl <| asg rfl rfl <| L.nil ?_
    refine N.th ?_
    refine W.ret ?_
    refine N.rth ?_
    refine N.ret2 rfl rfl rfl ?_   -- RETURN
    rw [clean_long (by simp at h; omega)]
    exact ⟨rfl, Ext.refl _ _⟩
  have h1 : ¬ 200 < s.length := by simp at h; omega
  refine W.skip ?_
  refine N.th ?_
  refine W.seqM (fun E w' => E = [(0, .string (S s)), (1, .slice none 0 0)] ∧ w' = w ∧ s.head? ≠ some 47) ?_ ?_
  · refine W.seqM (fun E w' => ∃ c, E = [(19, .bool c), (0, .string (S s)), (1, .slice none 0 0)] ∧ w' = w ∧ c = decide (s.head? = some 47)) ?_ ?_
    · refine W.reg <| mv rfl rfl <| lenS rfl u_str rfl <| gtrI rfl rfl rfl <| ?_
      cases s with
      | nil =>
        refine Vc.bf (by simp) ?_
        (repeat (first | refine mv rfl rfl ?_ | refine asg rfl rfl ?_ | refine L.off rfl rfl rfl rfl rfl ?_ | refine L.offU rfl rfl rfl rfl ?_ | refine L.on rfl rfl rfl ?_ | refine pickT rfl rfl rfl ?_ | refine pickF rfl rfl rfl ?_ | refine ext rfl rfl rfl ?_ | refine nilc rfl rfl ?_ | refine lenV (t := 46) rfl u_strs rfl ?_ | refine lenV (t := 25) rfl u_bytes rfl ?_ | refine lenV (t := 22) rfl u_files rfl ?_ | refine lenS (t := 9) rfl u_str rfl ?_ | refine eqlI rfl rfl rfl ?_ | refine neqI rfl rfl rfl ?_ | refine lssI rfl rfl rfl ?_ | refine leqI rfl rfl rfl ?_ | refine gtrI rfl rfl rfl ?_ | refine geqI rfl rfl rfl ?_))
        refine L.nil ?_
        exact N.th (N.meet [(19, .bool false), (0, _), (1, _)] ⟨rfl, rfl, rfl, trivial⟩ ⟨_, rfl, rfl, rfl⟩)
      | cons b s =>
        refine Vc.bt (by simp) ?_
        (repeat (first | refine mv rfl rfl ?_ | refine asg rfl rfl ?_ | refine L.off rfl rfl rfl rfl rfl ?_ | refine L.offU rfl rfl rfl rfl ?_ | refine L.on rfl rfl rfl ?_ | refine pickT rfl rfl rfl ?_ | refine pickF rfl rfl rfl ?_ | refine ext rfl rfl rfl ?_ | refine nilc rfl rfl ?_ | refine lenV (t := 46) rfl u_strs rfl ?_ | refine lenV (t := 25) rfl u_bytes rfl ?_ | refine lenV (t := 22) rfl u_files rfl ?_ | refine lenS (t := 9) rfl u_str rfl ?_ | refine eqlI rfl rfl rfl ?_ | refine neqI rfl rfl rfl ?_ | refine lssI rfl rfl rfl ?_ | refine leqI rfl rfl rfl ?_ | refine gtrI rfl rfl rfl ?_ | refine geqI rfl rfl rfl ?_))
        refine idxS rfl rfl u_str rfl (by omega) (b := b) rfl ?_
        (repeat (first | refine mv rfl rfl ?_ | refine asg rfl rfl ?_ | refine L.off rfl rfl rfl rfl rfl ?_ | refine L.offU rfl rfl rfl rfl ?_ | refine L.on rfl rfl rfl ?_ | refine pickT rfl rfl rfl ?_ | refine pickF rfl rfl rfl ?_ | refine ext rfl rfl rfl ?_ | refine nilc rfl rfl ?_ | refine lenV (t := 46) rfl u_strs rfl ?_ | refine lenV (t := 25) rfl u_bytes rfl ?_ | refine lenV (t := 22) rfl u_files rfl ?_ | refine lenS (t := 9) rfl u_str rfl ?_ | refine eqlI rfl rfl rfl ?_ | refine neqI rfl rfl rfl ?_ | refine lssI rfl rfl rfl ?_ | refine leqI rfl rfl rfl ?_ | refine gtrI rfl rfl rfl ?_ | refine geqI rfl rfl rfl ?_))
        refine L.nil ?_
        refine N.th (N.meet [(19, _), (0, _), (1, _)] ⟨rfl, rfl, rfl, trivial⟩ ⟨_, rfl, rfl, ?_⟩)
        apply Bool.eq_iff_iff.2
        simp only [decide_eq_true_eq, List.head?_cons, Option.some.injEq]
        constructor
        · intro e; exact UInt8.toNat_inj.1 (by simp; omega)
        · intro e; subst e; rfl
    rintro E w2 ⟨c, rfl, rfl, hc⟩
    refine W.cond rfl (fun h => ?_) (fun h => ?_)
    · refine W.seq ?_
      refine W.reg <| asg rfl rfl <| asg rfl rfl <| L.nil ?_
      refine N.th ?_
      refine W.ret ?_
      refine N.rth ?_
      refine N.ret2 rfl rfl rfl ?_   -- RETURN
      rw [clean_abs h1 (by rw [h] at hc; simpa using hc.symm)]
      exact ⟨rfl, Ext.refl _ _⟩
    · refine W.skip ?_
      exact N.th (N.meet [(0, _), (1, _)] ⟨rfl, rfl, trivial⟩ ⟨rfl, rfl, by rw [h] at hc; simpa using hc.symm⟩)
  rintro E w2 ⟨rfl, rfl, hhead⟩
  rw [clean_walk h1 hhead]
  refine W.seq ?_
  refine W.reg <| mv rfl rfl <| appN rfl rfl rfl el_strs (Nat.le_refl _) <| asg rfl rfl <| L.nil ?_
  refine N.th ?_
  refine W.seq ?_
  refine W.reg <| mv rfl rfl <| call (vs := [_]) rfl rfl ok_RSplit (c_RSplit s (by omega) w2) ?_
  rintro e w3 ⟨lv, rfl, hlv, hx3⟩
  refine ⟨_, rfl, ?_⟩
  refine asg rfl rfl <| L.nil ?_
  refine N.th ?_
  refine W.seq ?_
  refine W.seq ?_
  refine W.reg <| asg rfl rfl <| L.nil ?_
  refine N.th ?_
  refine W.block ?_
  have hsl := split_len s
  obtain ⟨Ls, hLs⟩ : ∃ Ls, Ls = Sp.split s := ⟨_, rfl⟩
  rw [← hLs] at hlv hsl ⊢
  have hsum := split_sum s
  rw [← hLs] at hsum
  obtain ⟨la, lc, rfl, hlc, hlm⟩ := own_slice hlv
  refine W.loop (X := Nat × List Sp.Bytes × Value) (fun x => [(1, .slice none 0 0), (6, x.2.2), (7, .slice la Ls.length lc), (8, .int .i64 x.1)])
    (fun x w' => StrsA w3.heap.size w' x.2.2 x.2.1 ∧ Ext none_ w3 w' ∧ x.1 ≤ Ls.length ∧ x.2.1.length ≤ x.1 ∧ Sp.walk 0 [] Ls = Sp.walk 0 x.2.1 (Ls.drop x.1) ∧ (x.2.1.map (fun x => x.length + 1)).sum + ((Ls.drop x.1).map (fun x => x.length + 1)).sum ≤ s.length + 1) (fun x => Ls.length - x.1) (0, [], .slice none 0 0) ⟨rfl, rfl, rfl, rfl, trivial⟩
    ⟨own_nil _ _ _ _, Ext.refl _ _, by simp, by simp, by simp, by simp [hsum]⟩ ?_
  rintro ⟨i, out, v⟩ w4 ⟨hown, hx, hi, hol, hwk, hsm⟩
  dsimp only at hown hx hi hol hwk hsm ⊢
  refine W.seq ?_
  refine W.seq ?_
  refine W.reg <| mv rfl rfl <| mv rfl rfl <| lenV rfl u_strs rfl <| lssI rfl rfl rfl <| L.nil ?_
  refine N.th ?_
  refine W.cond rfl (fun h => ?_) (fun h => ?_)
  · refine W.skip ?_
    refine N.th ?_
    have hi1 : i < Ls.length := by simp at h; omega
    obtain ⟨x, hxe⟩ : ∃ x, Ls[i]? = some x := ⟨_, List.getElem?_eq_getElem hi1⟩
    have hdr : Ls.drop i = x :: Ls.drop (i + 1) := by
      obtain ⟨h, rfl⟩ := List.getElem?_eq_some_iff.1 hxe
      exact List.drop_eq_getElem_cons h
    rw [hdr] at hwk hsm
    simp only [List.map_cons, List.sum_cons] at hsm
    have hxl : x.length ≤ s.length := hsl.2 x (List.mem_of_getElem? hxe)
    have hrow4 := (Row.own hlv).ext0 hx
    rcases hrow4.form with ⟨h0, h3, _⟩ | ⟨lb, lo, lc', h0, -, -, -, hcell⟩
    · omega
    cases h0
    have hcx : w4.cell? ⟨lb, lo + i * 1, none⟩ = some (.string (S x)) := by rw [Nat.mul_one]; exact hcell i _ (by simp [encT, hxe])
    refine W.seqM (fun E w' => ∃ (out' : List Sp.Bytes) (v' : Value), E = [(1, .slice none 0 0), (6, v'), (7, .slice (some ⟨lb, lo, none⟩) Ls.length lc), (8, .int .i64 i)] ∧ StrsA w3.heap.size w' v' out' ∧ Ext none_ w3 w' ∧ out'.length ≤ i + 1 ∧ Sp.walk 0 [] Ls = Sp.walk 0 out' (Ls.drop (i + 1)) ∧ (out'.map (fun x => x.length + 1)).sum + ((Ls.drop (i + 1)).map (fun x => x.length + 1)).sum ≤ s.length + 1) ?_ ?_   -- CUT
    · refine W.block ?_
      refine W.block ?_
      refine W.seqM (fun E w' => ∃ c, E = [(37, .bool c), (1, .slice none 0 0), (6, v), (7, .slice (some ⟨lb, lo, none⟩) Ls.length lc), (8, .int .i64 i)] ∧ w' = w4 ∧ (c = true → x = [] ∨ x = [46]) ∧ (c = false → x ≠ [] ∧ x ≠ [46])) ?_ ?_
      · refine W.reg <| mv rfl rfl <| mv rfl rfl <| ixa rfl rfl u_strs sz_str rfl (by omega) (by omega) <| ld1 rfl ag_str rfl hcx <| eqlS (b := []) rfl rfl rfl <| ?_
        by_cases he : x = []
        · refine Vc.bt (by simp [he]) ?_
          (repeat (first | refine mv rfl rfl ?_ | refine asg rfl rfl ?_ | refine L.off rfl rfl rfl rfl rfl ?_ | refine L.offU rfl rfl rfl rfl ?_ | refine L.on rfl rfl rfl ?_ | refine pickT rfl rfl rfl ?_ | refine pickF rfl rfl rfl ?_ | refine ext rfl rfl rfl ?_ | refine nilc rfl rfl ?_ | refine lenV (t := 46) rfl u_strs rfl ?_ | refine lenV (t := 25) rfl u_bytes rfl ?_ | refine lenV (t := 22) rfl u_files rfl ?_ | refine lenS (t := 9) rfl u_str rfl ?_ | refine eqlI rfl rfl rfl ?_ | refine neqI rfl rfl rfl ?_ | refine lssI rfl rfl rfl ?_ | refine leqI rfl rfl rfl ?_ | refine gtrI rfl rfl rfl ?_ | refine geqI rfl rfl rfl ?_))
          refine L.nil ?_
          exact N.th (N.meet [(37, .bool true), (1, _), (6, _), (7, _), (8, _)] ⟨rfl, rfl, rfl, rfl, rfl, trivial⟩ ⟨_, rfl, rfl, fun _ => .inl he, fun h => by cases h⟩)
        · refine Vc.bf (by simpa using he) ?_
          (repeat (first | refine mv rfl rfl ?_ | refine asg rfl rfl ?_ | refine L.off rfl rfl rfl rfl rfl ?_ | refine L.offU rfl rfl rfl rfl ?_ | refine L.on rfl rfl rfl ?_ | refine pickT rfl rfl rfl ?_ | refine pickF rfl rfl rfl ?_ | refine ext rfl rfl rfl ?_ | refine nilc rfl rfl ?_ | refine lenV (t := 46) rfl u_strs rfl ?_ | refine lenV (t := 25) rfl u_bytes rfl ?_ | refine lenV (t := 22) rfl u_files rfl ?_ | refine lenS (t := 9) rfl u_str rfl ?_ | refine eqlI rfl rfl rfl ?_ | refine neqI rfl rfl rfl ?_ | refine lssI rfl rfl rfl ?_ | refine leqI rfl rfl rfl ?_ | refine gtrI rfl rfl rfl ?_ | refine geqI rfl rfl rfl ?_))
          refine ixa rfl rfl u_strs sz_str rfl (by omega) (by omega) <| L.on rfl rfl rfl <| ld1 rfl ag_str rfl hcx <| L.on rfl rfl rfl <| eqlS (b := [46]) rfl rfl rfl <| ?_
          (repeat (first | refine mv rfl rfl ?_ | refine asg rfl rfl ?_ | refine L.off rfl rfl rfl rfl rfl ?_ | refine L.offU rfl rfl rfl rfl ?_ | refine L.on rfl rfl rfl ?_ | refine pickT rfl rfl rfl ?_ | refine pickF rfl rfl rfl ?_ | refine ext rfl rfl rfl ?_ | refine nilc rfl rfl ?_ | refine lenV (t := 46) rfl u_strs rfl ?_ | refine lenV (t := 25) rfl u_bytes rfl ?_ | refine lenV (t := 22) rfl u_files rfl ?_ | refine lenS (t := 9) rfl u_str rfl ?_ | refine eqlI rfl rfl rfl ?_ | refine neqI rfl rfl rfl ?_ | refine lssI rfl rfl rfl ?_ | refine leqI rfl rfl rfl ?_ | refine gtrI rfl rfl rfl ?_ | refine geqI rfl rfl rfl ?_))
          refine L.nil ?_
          exact N.th (N.meet [(37, _), (1, _), (6, _), (7, _), (8, _)] ⟨rfl, rfl, rfl, rfl, rfl, trivial⟩ ⟨_, rfl, rfl, fun h => .inr (by simpa using h), fun h => ⟨he, by simpa using h⟩⟩)
      rintro E w5 ⟨c, rfl, rfl, hc1, hc2⟩
      refine W.cond rfl (fun h => ?_) (fun h => ?_)
      · refine W.skip ?_
        refine N.inb ?_
        refine N.inb ?_
        refine N.th (N.meet [(1, _), (6, _), (7, _), (8, _)] ⟨rfl, rfl, rfl, rfl, trivial⟩ ⟨out, v, rfl, hown, hx, by omega, ?_, by omega⟩)   -- MEET
        rw [hwk, walk_skip (hc1 h)]
      obtain ⟨hne0, hne1⟩ := hc2 h
      refine W.seq ?_
      refine W.reg <| mv rfl rfl <| mv rfl rfl <| ixa rfl rfl u_strs sz_str rfl (by omega) (by omega) <| ld1 rfl ag_str rfl hcx <| eqlS (b := [46, 46]) rfl rfl rfl <| asg rfl rfl <| L.nil ?_
      refine N.th ?_
      refine W.cond rfl (fun h => ?_) (fun h => ?_)
      · obtain rfl : x = [46, 46] := by simpa using h
        obtain ⟨oa, oc, rfl, hoc, hom⟩ := own_slice hown
        refine W.seq ?_
        refine W.seq ?_
        refine W.reg <| mv rfl rfl <| lenV rfl u_strs rfl <| mv rfl rfl <| lenV rfl u_strs rfl <| leqI rfl rfl rfl <| L.nil ?_
        refine N.th ?_
        refine W.cond rfl (fun h => ?_) (fun h => ?_)
        · refine W.seq ?_
          refine W.reg <| asg rfl rfl <| asg rfl rfl <| L.nil ?_
          refine N.th ?_
          refine W.ret ?_
          refine N.rth <| N.rinb <| N.rinb <| N.rth <| N.rth <| N.rinb <| N.rth ?_
          refine N.ret2 rfl rfl rfl ?_   -- RETURN
          have h0 : out.length = 0 := by have := of_decide_eq_true h; omega
          rw [hwk, walk_esc h0]
          exact ⟨rfl, hx3.trans hx⟩
        · have h0 : out.length ≠ 0 := by have := of_decide_eq_false h; omega
          refine W.skip ?_
          refine N.th ?_
          refine W.reg <| mv rfl rfl <| mv rfl rfl <| lenV rfl u_strs rfl <| subI (c := ((out.length - 1 : Nat) : Int)) rfl rfl rfl (by rw [w64 (by omega) (by omega)]; omega) <| slVh rfl rfl u_strs el_strs.szB rfl (by omega) (by omega) <| asg rfl rfl <| L.nil ?_
          refine N.inb ?_
          refine N.inb ?_
          refine N.th (N.meet [(1, _), (6, .slice oa (out.length - 1) oc), (7, _), (8, _)] ⟨rfl, rfl, rfl, rfl, trivial⟩ ⟨out.dropLast, .slice oa (out.length - 1) oc, rfl, strsA_take hown, hx, by simp; omega, ?_, ?_⟩)   -- MEET
          · rw [hwk, walk_up h0]
          · have : (out.dropLast.map (fun x => x.length + 1)).sum ≤ (out.map (fun x => x.length + 1)).sum := drop_sum _
            omega
      have hne2 : x ≠ [46, 46] := by simpa using h
      refine W.seq ?_
      refine W.reg <| mv rfl rfl <| mv rfl rfl <| ixa rfl rfl u_strs sz_str rfl (by omega) (by omega) <| ld1 rfl ag_str rfl hcx <| call (vs := [_]) rfl rfl ok_Rbad (c_Rbad x (by omega) w5) ?_
      rintro e w6 ⟨rfl, rfl⟩
      refine ⟨_, rfl, ?_⟩
      refine asg rfl rfl <| L.nil ?_
      refine N.th ?_
      refine W.cond rfl (fun h => ?_) (fun h => ?_)
      · have hp : Sp.part x ≠ 0 := by simpa [rbad] using h
        refine W.seq ?_
        refine W.reg <| asg rfl rfl <| asg rfl rfl <| L.nil ?_
        refine N.th ?_
        refine W.ret ?_
        refine N.rinb <| N.rinb <| N.rth <| N.rth <| N.rinb <| N.rth ?_
        refine N.ret2 rfl rfl rfl ?_   -- RETURN
        rw [hwk, walk_bad hne0 hne1 hne2 hp, (part_cases x).resolve_left hp]
        exact ⟨rfl, hx3.trans hx⟩
      · have hp : Sp.part x = 0 := by simpa [rbad] using h
        refine W.reg <| mv rfl rfl <| mv rfl rfl <| mv rfl rfl <| ixa rfl rfl u_strs sz_str rfl (by omega) (by omega) <| ld1 rfl ag_str rfl hcx <| push1 (cs := #[.string (S x)]) rfl rfl rfl rfl (fun _ => by kernel_rfl) el_strs rfl rfl hown (by omega) (by simp only [maxLen]; omega) hx.size fun v' w7 hown7 hx7 => ?_
        refine asg rfl rfl <| L.nil ?_
        refine N.inb ?_
        refine N.inb ?_
        refine N.th (N.meet [(1, _), (6, v'), (7, _), (8, _)] ⟨rfl, rfl, rfl, rfl, trivial⟩ ⟨out ++ [x], v', rfl, by simpa [StrsA, encT] using hown7, hx.own hown hx7, by simp; omega, ?_, ?_⟩)   -- MEET
        · rw [hwk, walk_part hne0 hne1 hne2 hp]
        · simp only [List.map_append, List.map_cons, List.map_nil, List.sum_append, List.sum_cons, List.sum_nil]; omega
    rintro E w5 ⟨out', v', rfl, hown', hx', hol', hwk', hsm'⟩
    refine W.reg <| mv rfl rfl <| addI (c := ((i + 1 : Nat) : Int)) rfl rfl rfl (by rw [w64 (by omega) (by omega)]; simp) <| asg rfl rfl <| L.nil ?_
    exact N.th (N.round (x := (i + 1, out', v')) ⟨rfl, rfl, rfl, rfl, trivial⟩ ⟨hown', hx', by dsimp only; omega, hol', hwk', hsm'⟩ (by dsimp only; omega))   -- ROUND
  · refine W.exit ?_
    refine N.xth ?_
    refine N.xth ?_
    refine N.xeq ?_
    refine N.th ?_
    have hil : i = Ls.length := by simp at h; omega
    subst hil
    rw [List.drop_length] at hwk hsm
    obtain ⟨oa, oc, rfl, hoc, hom⟩ := own_slice hown
    refine W.seq ?_
    refine W.seq ?_
    refine W.reg <| mv rfl rfl <| lenV rfl u_strs rfl <| gtrI rfl rfl rfl <| L.nil ?_
    refine N.th ?_
    refine W.cond rfl (fun h => ?_) (fun h => ?_)
    · have h12 : 12 < out.length := by simp at h; omega
      refine W.seq ?_
      refine W.reg <| asg rfl rfl <| asg rfl rfl <| L.nil ?_
      refine N.th ?_
      refine W.ret ?_
      refine N.rth ?_
      refine N.ret2 rfl rfl rfl ?_   -- RETURN
      rw [hwk]
      unfold Sp.walk
      rw [if_pos h12]
      exact ⟨rfl, hx3.trans hx⟩
    · have h12 : ¬ 12 < out.length := by simp at h; omega
      refine W.skip ?_
      refine N.th ?_
      refine W.seq ?_
      have hgl := glue_len out
      refine W.reg <| mv rfl rfl <| call (vs := [_]) rfl rfl ok_Rglue (c_Rglue w4 _ out (Row.own hown) (by omega) (by omega)) ?_
      rintro e w5 ⟨rfl, rfl⟩
      refine ⟨_, rfl, ?_⟩
      refine asg rfl rfl <| asg rfl rfl <| L.nil ?_
      refine N.th ?_
      refine W.ret ?_
      refine N.ret2 rfl rfl rfl ?_   -- RETURN
      rw [hwk]
      unfold Sp.walk
      rw [if_neg h12]
      exact ⟨rfl, hx3.trans hx⟩

theorem c_RClean (s : Sp.Bytes) (w : World) : Calls P 26 #[.string (S s)] w fun e w' => e = .returned (.tuple #[.string (S (Sp.clean s).1), .int .i64 (Sp.clean s).2]) ∧ Ext none_ w w' := by
  refine enter (l := [_]) (n := 8) Tryz.func26 rfl rfl rfl ?_
  refine W.seq ?_
  refine W.reg <| asg rfl rfl <| asg rfl rfl <| L.nil ?_
  refine N.th ?_
  refine W.seq ?_
  refine W.reg <| mv rfl rfl <| call (vs := [_, _]) rfl rfl ok_Rclean (c_Rclean s w) ?_
  rintro e w1 ⟨rfl, hx⟩
  refine ⟨_, rfl, ?_⟩
  refine ext rfl rfl rfl <| ext rfl rfl rfl <| asg rfl rfl <| asg rfl rfl <| L.nil ?_
  refine N.th ?_
  refine W.ret ?_
  refine N.ret2 rfl rfl rfl ?_   -- RETURN
  exact ⟨rfl, hx⟩

theorem c_RParts (p : Sp.Bytes) (hp : p.length ≤ 1000000000) (w : World) : Calls P 42 #[.string (S p)] w fun e w' => ∃ v, e = .returned v ∧ StrsA w.heap.size w' v (Sp.parts p) ∧ Ext none_ w w' := by
  refine enter (l := [_]) (n := 7) Tryz.func42 rfl rfl rfl ?_
  refine W.seq ?_
  refine W.reg <| asg rfl rfl <| L.nil ?_
  refine N.th ?_
  refine W.seq ?_
  refine W.seq ?_
  refine W.reg <| mv rfl rfl <| eqlS (b := []) rfl rfl rfl <| L.nil ?_
  refine N.th ?_
  unfold Sp.parts
  refine W.cond rfl (fun h => ?_) (fun h => ?_)
  · refine W.seq ?_
    refine W.reg <| asg rfl rfl <| L.nil ?_
    refine N.th ?_
    refine W.ret ?_
    refine N.rth ?_
    refine N.ret1 rfl rfl ?_   -- RETURN
    rw [if_pos (by simpa using h)]
    exact ⟨_, rfl, own_nil _ _ _ _, Ext.refl _ _⟩
  · refine W.skip ?_
    refine N.th ?_
    refine W.seq ?_
    refine W.reg <| mv rfl rfl <| call (vs := [_]) rfl rfl ok_RSplit (c_RSplit p hp w) ?_
    rintro e w1 ⟨v, rfl, hv, hx⟩
    refine ⟨_, rfl, ?_⟩
    refine asg rfl rfl <| L.nil ?_
    refine N.th ?_
    refine W.ret ?_
    refine N.ret1 rfl rfl ?_   -- RETURN
    rw [if_neg (by simpa using h)]
    exact ⟨_, rfl, hv, hx⟩
theorem parts_sum (p : Sp.Bytes) : ((Sp.parts p).map (fun x => x.length + 1)).sum ≤ p.length + 1 ∧ (Sp.parts p).length ≤ p.length + 1 := by
  unfold Sp.parts
  split
  · simp
  · rw [split_sum]; exact ⟨Nat.le_refl _, (split_len p).1⟩

theorem c_RParent (p : Sp.Bytes) (hp : p.length ≤ 100000000) (w : World) : Calls P 44 #[.string (S p)] w fun e w' => e = .returned (.string (S (Sp.glue (Sp.parts p).dropLast))) ∧ Ext none_ w w' := by
  refine enter (l := [_]) (n := 15) Tryz.func44 rfl rfl rfl ?_
  refine W.seq ?_
  refine W.reg <| asg rfl rfl <| L.nil ?_
  refine N.th ?_
  refine W.seq ?_
  refine W.reg <| mv rfl rfl <| call (vs := [_]) rfl rfl ok_RParts (c_RParts p (by omega) w) ?_
  rintro e w1 ⟨v, rfl, hv, hx⟩
  refine ⟨_, rfl, ?_⟩
  obtain ⟨hps, hpl⟩ := parts_sum p
  generalize Sp.parts p = l at hv hps hpl ⊢
  obtain ⟨a, c, rfl, hc, hm⟩ := own_slice hv
  refine asg rfl rfl <| L.nil ?_
  refine N.th ?_
  refine W.seq ?_
  refine W.seq ?_
  refine W.reg <| mv rfl rfl <| lenV rfl u_strs rfl <| eqlI rfl rfl rfl <| L.nil ?_
  refine N.th ?_
  refine W.cond rfl (fun h => ?_) (fun h => ?_)
  · refine W.seq ?_
    refine W.reg <| asg rfl rfl <| L.nil ?_
    refine N.th ?_
    refine W.ret ?_
    refine N.rth ?_
    refine N.ret1 rfl rfl ?_   -- RETURN
    have h0 : l = [] := List.eq_nil_of_length_eq_zero (by have := of_decide_eq_true h; omega)
    subst h0
    exact ⟨rfl, hx⟩
  · refine W.skip ?_
    refine N.th ?_
    refine W.seq ?_
    have h0 : l ≠ [] := by intro e; subst e; simp at h
    have hl : 0 < l.length := by cases l with | nil => exact absurd rfl h0 | cons _ _ => simp
    have hd := strsA_take hv
    have hgl := glue_len l.dropLast
    have : (l.dropLast.map (fun x => x.length + 1)).sum ≤ (l.map (fun x => x.length + 1)).sum := drop_sum _
    refine W.reg <| mv rfl rfl <| mv rfl rfl <| lenV rfl u_strs rfl <| subI (c := ((l.length - 1 : Nat) : Int)) rfl rfl rfl (by rw [w64 (by omega) (by omega)]; omega) <| slVh rfl rfl u_strs el_strs.szB rfl (by omega) (by omega) <| call (vs := [.slice a (l.length - 1) c]) rfl rfl ok_Rglue (c_Rglue w1 _ l.dropLast (Row.own (by simpa [StrsA] using hd)) (by omega) (by simp; omega)) ?_
    rintro e w2 ⟨rfl, rfl⟩
    refine ⟨_, rfl, ?_⟩
    refine asg rfl rfl <| L.nil ?_
    refine N.th ?_
    refine W.ret ?_
    refine N.ret1 rfl rfl ?_   -- RETURN
    exact ⟨rfl, hx⟩

theorem c_RWithin (p d : Sp.Bytes) (w : World) : Calls P 35 #[.string (S p), .string (S d)] w fun e w' => e = .returned (.bool (Sp.within p d)) ∧ w = w' := by
  refine enter (l := [_, _]) (n := 34) Tryz.func35 rfl rfl rfl ?_
  refine W.seq ?_
  refine W.reg <| asg rfl rfl <| L.nil ?_
  refine N.th ?_
  refine W.seq ?_
  have out : ∀ {E : Env} {b : Bool}, getE E 4 = some (.bool b) → b = Sp.within p d → W Fence.wide 0 P [] 34 .ret (bodyPost P Tryz.f35 fun e w' => e = .returned (.bool (Sp.within p d)) ∧ w = w') E w := fun {E b} hE hb => by
    refine W.ret ?_
    refine N.ret1 rfl hE ?_
    exact ⟨by rw [hb], rfl⟩
  refine W.reg ?_
  refine mv rfl rfl <| eqlS (b := []) rfl rfl rfl <| ?_
  by_cases h0 : d = []
  · refine Vc.bt (by simp [h0]) ?_
    (repeat (first | refine mv rfl rfl ?_ | refine asg rfl rfl ?_ | refine L.off rfl rfl rfl rfl rfl ?_ | refine L.offU rfl rfl rfl rfl ?_ | refine L.on rfl rfl rfl ?_ | refine pickT rfl rfl rfl ?_ | refine pickF rfl rfl rfl ?_ | refine ext rfl rfl rfl ?_ | refine nilc rfl rfl ?_ | refine lenV (t := 46) rfl u_strs rfl ?_ | refine lenV (t := 25) rfl u_bytes rfl ?_ | refine lenV (t := 22) rfl u_files rfl ?_ | refine lenS (t := 9) rfl u_str rfl ?_ | refine eqlI rfl rfl rfl ?_ | refine neqI rfl rfl rfl ?_ | refine lssI rfl rfl rfl ?_ | refine leqI rfl rfl rfl ?_ | refine gtrI rfl rfl rfl ?_ | refine geqI rfl rfl rfl ?_))
    refine L.nil ?_
    refine N.th ?_
    exact out rfl (by simp [Sp.within, h0])
  refine Vc.bf (by simpa using h0) ?_
  (repeat (first | refine mv rfl rfl ?_ | refine asg rfl rfl ?_ | refine L.off rfl rfl rfl rfl rfl ?_ | refine L.offU rfl rfl rfl rfl ?_ | refine L.on rfl rfl rfl ?_ | refine pickT rfl rfl rfl ?_ | refine pickF rfl rfl rfl ?_ | refine ext rfl rfl rfl ?_ | refine nilc rfl rfl ?_ | refine lenV (t := 46) rfl u_strs rfl ?_ | refine lenV (t := 25) rfl u_bytes rfl ?_ | refine lenV (t := 22) rfl u_files rfl ?_ | refine lenS (t := 9) rfl u_str rfl ?_ | refine eqlI rfl rfl rfl ?_ | refine neqI rfl rfl rfl ?_ | refine lssI rfl rfl rfl ?_ | refine leqI rfl rfl rfl ?_ | refine gtrI rfl rfl rfl ?_ | refine geqI rfl rfl rfl ?_))
  refine eqlS rfl rfl rfl <| ?_
  by_cases h1 : p = d
  · refine Vc.bt (by simp [h1]) ?_
    (repeat (first | refine mv rfl rfl ?_ | refine asg rfl rfl ?_ | refine L.off rfl rfl rfl rfl rfl ?_ | refine L.offU rfl rfl rfl rfl ?_ | refine L.on rfl rfl rfl ?_ | refine pickT rfl rfl rfl ?_ | refine pickF rfl rfl rfl ?_ | refine ext rfl rfl rfl ?_ | refine nilc rfl rfl ?_ | refine lenV (t := 46) rfl u_strs rfl ?_ | refine lenV (t := 25) rfl u_bytes rfl ?_ | refine lenV (t := 22) rfl u_files rfl ?_ | refine lenS (t := 9) rfl u_str rfl ?_ | refine eqlI rfl rfl rfl ?_ | refine neqI rfl rfl rfl ?_ | refine lssI rfl rfl rfl ?_ | refine leqI rfl rfl rfl ?_ | refine gtrI rfl rfl rfl ?_ | refine geqI rfl rfl rfl ?_))
    refine L.nil ?_
    refine N.th ?_
    exact out rfl (by simp [Sp.within, h1])
  refine Vc.bf (by simpa using h1) ?_
  (repeat (first | refine mv rfl rfl ?_ | refine asg rfl rfl ?_ | refine L.off rfl rfl rfl rfl rfl ?_ | refine L.offU rfl rfl rfl rfl ?_ | refine L.on rfl rfl rfl ?_ | refine pickT rfl rfl rfl ?_ | refine pickF rfl rfl rfl ?_ | refine ext rfl rfl rfl ?_ | refine nilc rfl rfl ?_ | refine lenV (t := 46) rfl u_strs rfl ?_ | refine lenV (t := 25) rfl u_bytes rfl ?_ | refine lenV (t := 22) rfl u_files rfl ?_ | refine lenS (t := 9) rfl u_str rfl ?_ | refine eqlI rfl rfl rfl ?_ | refine neqI rfl rfl rfl ?_ | refine lssI rfl rfl rfl ?_ | refine leqI rfl rfl rfl ?_ | refine gtrI rfl rfl rfl ?_ | refine geqI rfl rfl rfl ?_))
  have hw : Sp.within p d = (d ++ [47]).isPrefixOf p := by simp [Sp.within, h0, h1]
  by_cases h2 : d.length < p.length
  · refine Vc.bt (by simp; omega) ?_
    (repeat (first | refine mv rfl rfl ?_ | refine asg rfl rfl ?_ | refine L.off rfl rfl rfl rfl rfl ?_ | refine L.offU rfl rfl rfl rfl ?_ | refine L.on rfl rfl rfl ?_ | refine pickT rfl rfl rfl ?_ | refine pickF rfl rfl rfl ?_ | refine ext rfl rfl rfl ?_ | refine nilc rfl rfl ?_ | refine lenV (t := 46) rfl u_strs rfl ?_ | refine lenV (t := 25) rfl u_bytes rfl ?_ | refine lenV (t := 22) rfl u_files rfl ?_ | refine lenS (t := 9) rfl u_str rfl ?_ | refine eqlI rfl rfl rfl ?_ | refine neqI rfl rfl rfl ?_ | refine lssI rfl rfl rfl ?_ | refine leqI rfl rfl rfl ?_ | refine gtrI rfl rfl rfl ?_ | refine geqI rfl rfl rfl ?_))
    refine slSh rfl rfl u_str rfl (by omega) (by omega) <| ?_
    (repeat (first | refine mv rfl rfl ?_ | refine asg rfl rfl ?_ | refine L.off rfl rfl rfl rfl rfl ?_ | refine L.offU rfl rfl rfl rfl ?_ | refine L.on rfl rfl rfl ?_ | refine pickT rfl rfl rfl ?_ | refine pickF rfl rfl rfl ?_ | refine ext rfl rfl rfl ?_ | refine nilc rfl rfl ?_ | refine lenV (t := 46) rfl u_strs rfl ?_ | refine lenV (t := 25) rfl u_bytes rfl ?_ | refine lenV (t := 22) rfl u_files rfl ?_ | refine lenS (t := 9) rfl u_str rfl ?_ | refine eqlI rfl rfl rfl ?_ | refine neqI rfl rfl rfl ?_ | refine lssI rfl rfl rfl ?_ | refine leqI rfl rfl rfl ?_ | refine gtrI rfl rfl rfl ?_ | refine geqI rfl rfl rfl ?_))
    refine eqlS rfl rfl rfl <| ?_
    rw [Int.toNat_natCast]
    by_cases h3 : p.take d.length = d
    · obtain ⟨b, hb⟩ : ∃ b, p[d.length]? = some b := ⟨_, List.getElem?_eq_getElem h2⟩
      refine Vc.bt (by simpa using h3) ?_
      (repeat (first | refine mv rfl rfl ?_ | refine asg rfl rfl ?_ | refine L.off rfl rfl rfl rfl rfl ?_ | refine L.offU rfl rfl rfl rfl ?_ | refine L.on rfl rfl rfl ?_ | refine pickT rfl rfl rfl ?_ | refine pickF rfl rfl rfl ?_ | refine ext rfl rfl rfl ?_ | refine nilc rfl rfl ?_ | refine lenV (t := 46) rfl u_strs rfl ?_ | refine lenV (t := 25) rfl u_bytes rfl ?_ | refine lenV (t := 22) rfl u_files rfl ?_ | refine lenS (t := 9) rfl u_str rfl ?_ | refine eqlI rfl rfl rfl ?_ | refine neqI rfl rfl rfl ?_ | refine lssI rfl rfl rfl ?_ | refine leqI rfl rfl rfl ?_ | refine gtrI rfl rfl rfl ?_ | refine geqI rfl rfl rfl ?_))
      refine idxS rfl rfl u_str rfl (by omega) (b := b) (by simpa using hb) ?_
      (repeat (first | refine mv rfl rfl ?_ | refine asg rfl rfl ?_ | refine L.off rfl rfl rfl rfl rfl ?_ | refine L.offU rfl rfl rfl rfl ?_ | refine L.on rfl rfl rfl ?_ | refine pickT rfl rfl rfl ?_ | refine pickF rfl rfl rfl ?_ | refine ext rfl rfl rfl ?_ | refine nilc rfl rfl ?_ | refine lenV (t := 46) rfl u_strs rfl ?_ | refine lenV (t := 25) rfl u_bytes rfl ?_ | refine lenV (t := 22) rfl u_files rfl ?_ | refine lenS (t := 9) rfl u_str rfl ?_ | refine eqlI rfl rfl rfl ?_ | refine neqI rfl rfl rfl ?_ | refine lssI rfl rfl rfl ?_ | refine leqI rfl rfl rfl ?_ | refine gtrI rfl rfl rfl ?_ | refine geqI rfl rfl rfl ?_))
      refine L.nil ?_
      refine N.th ?_
      refine out rfl ?_
      have hpd : p = d ++ b :: p.drop (d.length + 1) := by
        have e1 := (List.take_append_drop d.length p).symm
        rw [h3] at e1
        obtain ⟨hlt, hbb⟩ := List.getElem?_eq_some_iff.1 hb
        rw [List.drop_eq_getElem_cons hlt, hbb] at e1
        exact e1
      rw [hw]
      apply Bool.eq_iff_iff.2
      rw [List.isPrefixOf_iff_prefix]
      simp only [decide_eq_true_eq]
      constructor
      · intro e
        have e47 : b = 47 := UInt8.toNat_inj.1 (by simp; omega)
        rw [hpd, e47]
        exact ⟨p.drop (d.length + 1), by simp⟩
      · rintro ⟨t, ht⟩
        have : p[d.length]? = some 47 := by rw [← ht]; simp
        rw [this] at hb
        cases hb; rfl
    · refine Vc.bf (by simpa using h3) ?_
      (repeat (first | refine mv rfl rfl ?_ | refine asg rfl rfl ?_ | refine L.off rfl rfl rfl rfl rfl ?_ | refine L.offU rfl rfl rfl rfl ?_ | refine L.on rfl rfl rfl ?_ | refine pickT rfl rfl rfl ?_ | refine pickF rfl rfl rfl ?_ | refine ext rfl rfl rfl ?_ | refine nilc rfl rfl ?_ | refine lenV (t := 46) rfl u_strs rfl ?_ | refine lenV (t := 25) rfl u_bytes rfl ?_ | refine lenV (t := 22) rfl u_files rfl ?_ | refine lenS (t := 9) rfl u_str rfl ?_ | refine eqlI rfl rfl rfl ?_ | refine neqI rfl rfl rfl ?_ | refine lssI rfl rfl rfl ?_ | refine leqI rfl rfl rfl ?_ | refine gtrI rfl rfl rfl ?_ | refine geqI rfl rfl rfl ?_))
      refine L.nil ?_
      refine N.th ?_
      refine out rfl ?_
      rw [hw]
      symm
      cases hq : (d ++ [47]).isPrefixOf p with
      | false => rfl
      | true =>
        obtain ⟨t, ht⟩ := List.isPrefixOf_iff_prefix.1 hq
        exact absurd (by rw [← ht]; simp) h3
  · refine Vc.bf (by simp; omega) ?_
    (repeat (first | refine mv rfl rfl ?_ | refine asg rfl rfl ?_ | refine L.off rfl rfl rfl rfl rfl ?_ | refine L.offU rfl rfl rfl rfl ?_ | refine L.on rfl rfl rfl ?_ | refine pickT rfl rfl rfl ?_ | refine pickF rfl rfl rfl ?_ | refine ext rfl rfl rfl ?_ | refine nilc rfl rfl ?_ | refine lenV (t := 46) rfl u_strs rfl ?_ | refine lenV (t := 25) rfl u_bytes rfl ?_ | refine lenV (t := 22) rfl u_files rfl ?_ | refine lenS (t := 9) rfl u_str rfl ?_ | refine eqlI rfl rfl rfl ?_ | refine neqI rfl rfl rfl ?_ | refine lssI rfl rfl rfl ?_ | refine leqI rfl rfl rfl ?_ | refine gtrI rfl rfl rfl ?_ | refine geqI rfl rfl rfl ?_))
    refine L.nil ?_
    refine N.th ?_
    refine out rfl ?_
    rw [hw]
    symm
    cases hq : (d ++ [47]).isPrefixOf p with
    | false => rfl
    | true =>
      have := (List.isPrefixOf_iff_prefix.1 hq).length_le
      simp at this; omega
end Go.Proofs.YtmdpmpdlkaogdaaGreatDoor
