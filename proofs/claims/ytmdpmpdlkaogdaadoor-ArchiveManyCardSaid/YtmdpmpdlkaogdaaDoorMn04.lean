/- Walks: slices.Clone, slices.Grow, slices.Concat of bytes. The walk of sha's turn: one block. The calculus: appending one element; slices cut with a cap; appending to what has no room. Nothing here speaks of the program. Walks: haversackref7.Split, bad, glue. Walks: haversackref7.clean, Clean, Parts, Parent, Within. Plain laws of the tree's words. No Go here. Plain laws of paths. No Go here. Walks: (*tree.Tree).put, Write, Append. Walks: (*tree.Tree).Write, Append, Read, Mkdir, Exists, Size. Walks: (*tree.Tree).below, drop, Remove. -/
import Derived.Test.YtmdpmpdlkaogdaaDoorMn03
import Derived.Test.YtmdpmpdlkaogdaaDoorMn02
import Derived.ArgAppend
import Derived.Lib.OwnBridge
import Derived.Sort.OwnSorted

namespace Go.Proofs.YtmdpmpdlkaogdaaDoor
open Go Go.RowKit Vc

theorem ok_Clone : FnOk P 28 := ⟨_, Tryd.func28, by kernel_rfl, by kernel_rfl⟩
theorem ok_Grow : FnOk P 69 := ⟨_, Tryd.func69, by kernel_rfl, by kernel_rfl⟩
theorem ok_Concat : FnOk P 51 := ⟨_, Tryd.func51, by kernel_rfl, by kernel_rfl⟩

/-- Bytes of a call's own. -/
abbrev Byts (B : Nat) (w : World) (v : Value) (l : List UInt8) : Prop := w.ownsRow B tB 1 v l.length (encB l)
/-- Bytes that may be read. -/
abbrev RowB (w : World) (v : Value) (l : List UInt8) : Prop := Row w v tB 1 l.length (encB l)
/-- Bytes that came in. -/
abbrev BytA (w : World) (v : Value) (l : List UInt8) : Prop := RowA w v l.length (encB l)

theorem c_Clone {w : World} {v : Value} {l : List UInt8} (hv : BytA w v l) (hl : l.length ≤ 1000000000) :
    Calls P 28 #[v] w fun e w' => ∃ v', e = .returned v' ∧ Byts w.heap.size w' v' l ∧ Ext none_ w w' ∧ (v' = .slice none 0 0 ↔ v = .slice none 0 0) := by
  rcases hv.form with ⟨rfl, h1⟩ | ⟨ad, c, rfl, h1, h2, hcell⟩
  · have hl0 : l = [] := List.eq_nil_of_length_eq_zero h1
    subst hl0
    refine enter (l := [_]) (n := 8) Tryd.func28 rfl rfl rfl ?_
    refine W.seq ?_
    refine W.reg <| asg rfl rfl <| L.nil ?_
    refine N.th ?_
    refine W.seq ?_
    refine W.seq ?_
    refine W.reg <| mv rfl rfl <| eqlVN rfl u_bytes rfl <| L.nil ?_
    refine N.th ?_
    refine W.condT rfl ?_
    refine W.seq ?_
    refine W.reg <| asg rfl rfl <| L.nil ?_
    refine N.th ?_
    refine W.ret ?_
    refine N.rth ?_
    refine N.ret1 rfl rfl ?_   -- RETURN
    exact ⟨_, rfl, own_nil _ _ _ _, Ext.refl _ _, by simp⟩
  · refine enter (l := [_]) (n := 8) Tryd.func28 rfl rfl rfl ?_
    refine W.seq ?_
    refine W.reg <| asg rfl rfl <| L.nil ?_
    refine N.th ?_
    refine W.seq ?_
    refine W.seq ?_
    refine W.reg <| mv rfl rfl <| eqlVN rfl u_bytes rfl <| L.nil ?_
    refine N.th ?_
    refine W.condF rfl ?_
    refine W.skip ?_
    refine N.th ?_
    refine W.seq ?_
    refine W.reg <| bls (vs := #[]) (cs := #[]) (e := tB) rfl rfl (fun _ => by kernel_rfl) <| mv rfl rfl <|
      app (xs := []) (B := w.heap.size) rfl rfl rfl el_bytes ⟨by simp, .inr ⟨w.heap.size, 0, #[], rfl, Nat.le_refl _, heap_new _ _, Nat.le_refl _, by simp [maxLen], rfl, rfl⟩⟩ (by simp) (fun j u hj => by
        have hc := hcell j u hj
        rw [← hc.2]; exact World.cell?_of_block (heap_alloc _ _ (by rw [add_block]; exact hc.1))) (encB_one l) (by omega) (by simp only [maxLen]; omega) (by simp) fun v' w2 hown2 hx2 hn _ => ?_
    refine asg rfl rfl <| L.nil ?_
    refine N.th ?_
    refine W.ret ?_
    refine N.ret1 rfl rfl ?_   -- RETURN
    refine ⟨_, rfl, by simpa [Byts] using hown2, (Ext.alloc none_ w _).trans' hx2 fun i hi hh => ?_, ?_⟩
    · have : w.heap.size = i := by simpa [Value.ownBlock] using hh
      omega
    · rw [hn]; simp

theorem appZ {P : Program} {Q : Exit → Act → World → Prop} {ds : List Deferred} {n : Nat} {E : Env} {w : World} {ops : Array Oper} {l : List Oper} {mm : Nat} {d : Nat} {ty : TypeId} {pos : String} {af : Array Edge}
    {t tn e : TypeId} {z : Value} {bytes k : Nat} {s x : Operand} {κ : IntKind} (hs : opd E s = some (.slice none 0 0)) (hx : opd E x = some (.int κ k)) (hd : Nat.blt d n = true) (ht : ElT P t e z 1 bytes) (htn : P.underlying tn = some (.int .i64)) (hk0 : 0 < k) (hk : k ≤ 1000000000) (hb : bytes ≤ 1000)
    (kk : ∀ cap w', k ≤ cap → w'.ownsRow w.heap.size e 1 (.slice (some ⟨w.heap.size, 0, none⟩) 0 cap) 0 [] → Ext none_ w w' → L Fence.wide mm P ds n ops l Q ((d, .slice (some ⟨w.heap.size, 0, none⟩) k cap) :: E) w') :
    L Fence.wide mm P ds n ops (⟨some d, .call ⟨.builtin .append, #[s, x], #[t, tn]⟩, ty, pos, af, none⟩ :: l) Q E w := by
  obtain ⟨i, hi, hz, hsz, hby⟩ := ht.info
  have hr := Lib.run_append_grow_zeros (P := P) w t tn ty e i z κ .i64 ht.u htn hi hz none 0 0 [] (run_firstCells_none _ _ _ _ _) k hk0 (by omega) (by omega) (by omega)
    (by rw [hby]; have : k * bytes ≤ 1000000000 * 1000 := Nat.mul_le_mul hk hb
        omega)
    (by rw [hby, Nat.zero_add]; exact grow_fits hk0 (by have : k * bytes ≤ 1000000000 * 1000 := Nat.mul_le_mul hk hb
                                                        omega))
  rw [Nat.zero_add] at hr
  have hge := grownCap_ge w k 0 e
  have hle := grownCap_le_maxLen w k 0 e (by simp only [maxLen]; omega)
  generalize hW2 : World.alloc _ _ = w2 at hr
  refine bltin (vs := [.slice none 0 0, .int κ k]) (w' := w2) (by simp [hs, hx]) hd (fun _ => by simp [builtin, hr]) (kk _ _ hge ?_ (by rw [← hW2]; exact (Ext.drew none_ w).trans (Ext.alloc _ _ _)))
  rw [← hW2]
  refine ⟨by simp, .inr ⟨_, _, _, rfl, Nat.le_refl _, heap_new w.drew _, Nat.zero_le _, hle, ?_, by simp⟩⟩
  have h1 : z.cells.size = 1 := ht.c
  simp [Builtin.zeroCells, h1]
  omega

theorem c_Grow (w : World) (n : Nat) (hn : n ≤ 1000000000) :
    Calls P 69 #[.slice none 0 0, .int .i64 n] w fun e w' => ∃ v', e = .returned v' ∧ Byts w.heap.size w' v' [] ∧ Ext none_ w w' := by
  refine enter (l := [_, _]) (n := 27) Tryd.func69 rfl rfl rfl ?_
  refine W.seq ?_
  refine W.reg <| asg rfl rfl <| L.nil ?_
  refine N.th ?_
  refine W.seq ?_
  refine W.seq ?_
  refine W.reg <| mv rfl rfl <| lssI rfl rfl rfl <| L.nil ?_
  refine N.th ?_
  refine W.cond rfl (fun h => by simp at h; omega) (fun h => ?_)
  refine W.skip ?_
  refine N.th ?_
  refine W.seqM (fun E w' => ∃ v, E = [(0, v)] ∧ Byts w.heap.size w' v [] ∧ Ext none_ w w') ?_ ?_   -- CUT
  · refine W.seq ?_
    refine W.reg <| mv rfl rfl <| mv rfl rfl <| capV rfl u_bytes rfl <| mv rfl rfl <| lenV rfl u_bytes rfl <| subI (c := 0) rfl rfl rfl rfl <| subI (c := n) rfl rfl rfl (by simpa using w64 (a := (n : Int)) (by omega) (by omega)) <| asg rfl rfl <| L.nil ?_
    refine N.th ?_
    refine W.seq ?_
    refine W.reg <| mv rfl rfl <| gtrI rfl rfl rfl <| L.nil ?_
    refine N.th ?_
    refine W.cond rfl (fun h => ?_) (fun h => ?_)
    · have h0 : 0 < n := by simpa using h
      refine W.reg <| mv rfl rfl <| mv rfl rfl <| capV rfl u_bytes rfl <| slVh rfl rfl u_bytes el_bytes.szB rfl (by omega) (by omega) <| mv rfl rfl <| appZ rfl rfl rfl el_bytes u_int h0 hn (by omega) fun cap w' hc hown hx => ?_
      refine mv rfl rfl <| lenV rfl u_bytes rfl <| slVh rfl rfl u_bytes el_bytes.szB rfl (by omega) (by omega) <| asg rfl rfl <| L.nil ?_
      exact N.th (N.meet [(0, _)] ⟨rfl, trivial⟩ ⟨_, rfl, hown, hx⟩)   -- MEET
    · refine W.skip ?_
      exact N.th (N.meet [(0, _)] ⟨rfl, trivial⟩ ⟨_, rfl, own_nil _ _ _ _, Ext.refl _ _⟩)   -- MEET
  rintro E w' ⟨v, rfl, hown, hx⟩
  refine W.seq ?_
  refine W.reg <| mv rfl rfl <| asg rfl rfl <| L.nil ?_
  refine N.th ?_
  refine W.ret ?_
  refine N.ret1 rfl rfl ?_   -- RETURN
  exact ⟨_, rfl, hown, hx⟩

/-- Rows of bytes in a row. -/
def total (vs : List (Value × List UInt8)) : List UInt8 := (vs.map (·.2)).flatten
theorem total_cons (p : Value × List UInt8) (vs) : total (p :: vs) = p.2 ++ total vs := by simp [total]
theorem total_snoc (p : Value × List UInt8) (vs) : total (vs ++ [p]) = total vs ++ p.2 := by simp [total]

theorem c_Concat {w : World} {bk cap : Nat} {vs : List (Value × List UInt8)} (hc : ∀ (j : Nat) p, vs[j]? = some p → w.cell? ⟨bk, 0 + j, none⟩ = some p.1) (hr : ∀ p ∈ vs, BytA w p.1 p.2) (hbk : bk < w.heap.size) (hn : (total vs).length ≤ 1000000000) (hvl : vs.length ≤ 1000) :
    Calls P 51 #[.slice (some ⟨bk, 0, none⟩) vs.length cap] w fun e w' => ∃ v', e = .returned v' ∧ Byts w.heap.size w' v' (total vs) ∧ Ext none_ w w' := by
  have keep : ∀ {w1 : World}, Ext none_ w w1 → (∀ (j : Nat) p, vs[j]? = some p → w1.cell? ⟨bk, 0 + j, none⟩ = some p.1) ∧ (∀ p ∈ vs, BytA w1 p.1 p.2) := fun {w1} hx => ⟨fun j p hj => by
    rw [← hc j p hj]; exact World.cell?_of_block (hx.block bk hbk id), fun p hp => (hr p hp).ext0 hx⟩
  refine enter (l := [_]) (n := 36) Tryd.func51 rfl rfl rfl ?_
  refine W.seq ?_
  refine W.reg <| asg rfl rfl <| L.nil ?_
  refine N.th ?_
  refine W.seq ?_
  refine W.reg <| asg rfl rfl <| L.nil ?_
  refine N.th ?_
  refine W.seq ?_
  refine W.seq ?_
  refine W.reg <| mv rfl rfl <| lenV rfl u_bss rfl <| mv rfl rfl <| L.nil ?_
  refine N.th ?_
  refine W.block ?_
  refine W.loop (X := List (Value × List UInt8) × List (Value × List UInt8)) (fun x => [(11, .int .i64 x.1.length), (3, .int .i64 (total x.1).length), (10, .int .i64 vs.length), (9, .slice (some ⟨bk, 0, none⟩) vs.length cap), (0, .slice (some ⟨bk, 0, none⟩) vs.length cap)]) (fun x w' => vs = x.1 ++ x.2 ∧ w' = w) (fun x => x.2.length) ([], vs) ⟨rfl, rfl, rfl, rfl, rfl, trivial⟩ ⟨rfl, rfl⟩ ?_
  rintro ⟨pre, rest⟩ w1 ⟨hl, rfl⟩
  dsimp only at hl ⊢
  refine W.seq ?_
  refine W.reg <| lssI rfl rfl rfl <| L.nil ?_
  refine N.th ?_
  refine W.seq ?_
  refine W.cond rfl (fun h => ?_) (fun h => ?_)
  · refine W.skip ?_
    refine N.th ?_
    cases rest with
    | nil => simp [hl] at h
    | cons p rest =>
    have hpl : pre.length + 1 ≤ vs.length := by rw [hl]; simp
    have hpt : (total pre).length + p.2.length ≤ (total vs).length := by rw [hl]; simp [total]
    have hcp := hc pre.length p (by rw [hl]; simp)
    obtain ⟨a, c, hpv, hn1, hm1, -, -⟩ := id (hr p (by rw [hl]; simp))
    obtain ⟨pv, pb⟩ := p
    dsimp only at hcp hpv hn1 hpt
    subst hpv
    refine W.seq ?_
    refine W.block ?_
    refine W.seq ?_
    refine W.reg <| ixa rfl rfl u_bss sz_bytes rfl (by omega) (by omega) <| ld1 rfl ag_bytes rfl (by rw [Nat.mul_one]; exact hcp) <| asg rfl rfl <| L.nil ?_
    refine N.th ?_
    refine W.seq ?_
    refine W.reg <| mv rfl rfl <| mv rfl rfl <| lenV rfl u_bytes rfl <| addI (c := ((total pre).length + pb.length : Nat)) rfl rfl rfl (by simpa using w64 (a := ((total pre).length : Int) + pb.length) (by omega) (by omega)) <| asg rfl rfl <| L.nil ?_
    refine N.th ?_
    refine W.seq ?_
    refine W.reg <| mv rfl rfl <| lssI rfl rfl rfl <| L.nil ?_
    refine N.th ?_
    refine W.cond rfl (fun h => by simp at h; omega) (fun h => ?_)
    refine W.skip ?_
    refine N.inb ?_
    refine N.th ?_
    refine W.reg <| addI (c := (pre.length : Int) + 1) rfl rfl rfl (w64 (by omega) (by omega)) <| mv rfl rfl <| L.nil ?_
    refine N.th (N.round (x := (pre ++ [(.slice a pb.length c, pb)], rest)) ⟨?_, ?_, rfl, rfl, rfl, trivial⟩ ⟨by simp [hl], rfl⟩ (by simp))   -- ROUND
    · simp [getE]
    · show some (Value.int .i64 (((total pre).length + pb.length : Nat) : Int)) = _
      rw [total_snoc, List.length_append]
  · refine W.exit ?_
    refine N.xth ?_
    refine N.xth ?_
    refine N.xeq ?_
    cases rest with
    | cons d rest => simp [hl] at h; omega
    | nil =>
    obtain rfl : vs = pre := by simpa using hl
    refine N.th ?_
    refine W.seq ?_
    refine W.reg <| mv rfl rfl <| call (vs := [_, _]) rfl rfl ok_Grow (c_Grow w1 _ hn) ?_
    rintro e w2 ⟨v0, rfl, hown0, hx0⟩
    refine ⟨_, rfl, ?_⟩
    refine asg rfl rfl <| L.nil ?_
    refine N.th ?_
    refine W.seq ?_
    refine W.seq ?_
    refine W.reg <| mv rfl rfl <| lenV rfl u_bss rfl <| mv rfl rfl <| L.nil ?_
    refine N.th ?_
    refine W.block ?_
    refine W.loop (X := List (Value × List UInt8) × List (Value × List UInt8) × Value) (fun x => [(27, .int .i64 x.1.length), (6, x.2.2), (26, .int .i64 vs.length), (25, .slice (some ⟨bk, 0, none⟩) vs.length cap)])
      (fun x w' => vs = x.1 ++ x.2.1 ∧ Byts w1.heap.size w' x.2.2 (total x.1) ∧ Ext none_ w1 w') (fun x => x.2.1.length) ([], vs, v0) ⟨rfl, rfl, rfl, rfl, trivial⟩ ⟨rfl, hown0, hx0⟩ ?_
    rintro ⟨pre, rest, v⟩ w3 ⟨hl3, hown, hx⟩
    dsimp only at hl3 hown ⊢
    refine W.seq ?_
    refine W.reg <| lssI rfl rfl rfl <| L.nil ?_
    refine N.th ?_
    refine W.seq ?_
    refine W.cond rfl (fun h => ?_) (fun h => ?_)
    · refine W.skip ?_
      refine N.th ?_
      cases rest with
      | nil => rw [hl3] at h; simp at h
      | cons p rest =>
      have hpl : pre.length + 1 ≤ vs.length := by rw [hl3]; simp
      have hpt : (total pre).length + p.2.length ≤ (total vs).length := by rw [hl3]; simp [total]
      obtain ⟨hc3, hr3⟩ := keep hx
      have hcp := hc3 pre.length p (by rw [hl3]; simp)
      have hrp := hr3 p (by rw [hl3]; simp)
      obtain ⟨pv, pb⟩ := p
      dsimp only at hcp hrp hpt
      refine W.seq ?_
      refine W.block ?_
      refine W.seq ?_
      refine W.reg <| ixa rfl rfl u_bss sz_bytes rfl (by omega) (by omega) <| ld1 rfl ag_bytes rfl (by rw [Nat.mul_one]; exact hcp) <| asg rfl rfl <| L.nil ?_
      refine N.th ?_
      rcases hrp.form with ⟨rfl, h1⟩ | ⟨ad, c, rfl, h1, h2, hcell⟩
      · have hl0 : pb = [] := List.eq_nil_of_length_eq_zero h1
        subst hl0
        obtain ⟨a, ca, rfl, hca, _⟩ := own_slice hown
        refine W.reg <| mv rfl rfl <| mv rfl rfl <| appN rfl rfl rfl el_bytes hca <| asg rfl rfl <| L.nil ?_
        refine N.inb ?_
        refine N.th ?_
        refine W.reg <| addI (c := (pre.length : Int) + 1) rfl rfl rfl (w64 (by omega) (by omega)) <| mv rfl rfl <| L.nil ?_
        refine N.th (N.round (x := (pre ++ [(.slice none 0 0, [])], rest, .slice a (total pre).length ca)) ⟨by simp [getE], rfl, rfl, rfl, trivial⟩ ⟨by simp [hl3], by simpa [Byts, total_snoc] using hown, hx⟩ (by simp))
      · refine W.reg <| mv rfl rfl <| mv rfl rfl <| app rfl rfl rfl el_bytes hown (by simp) (fun j u hj => (hcell j u hj).2) (encB_one pb) (by simp only [Nat.mul_one]; omega) (by simp only [maxLen]; omega) hx.size fun v' w4 hown4 hx4 _ _ => ?_
        refine asg rfl rfl <| L.nil ?_
        refine N.inb ?_
        refine N.th ?_
        refine W.reg <| addI (c := (pre.length : Int) + 1) rfl rfl rfl (w64 (by omega) (by omega)) <| mv rfl rfl <| L.nil ?_
        refine N.th (N.round (x := (pre ++ [(.slice (some ad) pb.length c, pb)], rest, v')) ⟨by simp [getE], rfl, rfl, rfl, trivial⟩ ⟨by simp [hl3], by simpa [Byts, total_snoc, encB] using hown4, hx.own hown hx4⟩ (by simp))
    · refine W.exit ?_
      refine N.xth ?_
      refine N.xth ?_
      refine N.xeq ?_
      refine N.th ?_
      refine W.seq ?_
      refine W.reg <| mv rfl rfl <| asg rfl rfl <| L.nil ?_
      refine N.th ?_
      refine W.ret ?_
      refine N.ret1 rfl rfl ?_   -- RETURN
      cases rest with
      | cons d rest => rw [hl3] at h; simp at h; omega
      | nil =>
      obtain rfl : vs = pre := by simpa using hl3
      exact ⟨_, rfl, hown, hx⟩
end Go.Proofs.YtmdpmpdlkaogdaaDoor

namespace Go.Proofs.YtmdpmpdlkaogdaaDoor
open Go Go.RowKit Vc

abbrev tSt : TypeId := 81
theorem fl_St_0 : fldB P tSt 0 = some 0 := by kernel_rfl
theorem fl_St_1 : fldB P tSt 1 = some 8 := by kernel_rfl
theorem u_words : P.underlying 95 = some (.slice 75) := Tryd.underlying95
theorem ok_sturn : FnOk P 34 := ⟨_, Tryd.func34, by kernel_rfl, by kernel_rfl⟩
/-- How a sum under way lies in memory. -/
def StAt (w : World) (bt : Nat) (s : Sh.St) : Prop := w.heap[bt]? = some (.cells (enc32 s.l ++ enc32 Sh.K).toArray tSt (0, 0))
theorem rd32 {a : List (BitVec 32)} {r : List Value} {j : Nat} (hj : j < a.length) : (enc32 a ++ r).toArray[j]? = some (V32 (Sh.at_ a j)) := by
  have h : a[j]? = some (Sh.at_ a j) := by unfold Sh.at_; rw [List.getElem?_eq_getElem hj]; rfl
  simp only [List.getElem?_toArray]
  rw [List.getElem?_append_left (by rw [enc32_len]; exact hj)]
  exact enc32_get h
theorem set32 {a : List (BitVec 32)} {k : Nat} (x : BitVec 32) : (enc32 a ++ enc32 (List.replicate (k + 1) 0)).toArray.setIfInBounds a.length (V32 x) = (enc32 (a ++ [x]) ++ enc32 (List.replicate k 0)).toArray := by
  apply Array.ext'
  simp only [Array.toList_setIfInBounds, List.replicate_succ, enc32, List.map_cons, List.map_append, List.map_nil]
  rw [List.set_append_right _ _ (by simp)]
  simp
/-- A byte of a slice that came in. -/
theorem byt_at {w : World} {v : Value} {b : List UInt8} {j : Nat} (h : BytA w v b) (hj : j < b.length) : ∃ bb o c, v = .slice (some ⟨bb, o, none⟩) b.length c ∧ ∀ i, i < b.length → w.cell? ⟨bb, o + i * 1, none⟩ = some (.int .u8 (b[i]?.getD 0).toNat) := by
  obtain ⟨bb, o, c, rfl, -, -, -, hc⟩ := RowA.plain h (fun e => by have := congrArg List.length e; simp [encB] at this; subst this; simp at hj)
  refine ⟨bb, o, c, rfl, fun i hi => ?_⟩
  rw [Nat.mul_one]
  refine hc i _ ?_
  have : b[i]? = some (b[i]?.getD 0) := by rw [List.getElem?_eq_getElem hi]; rfl
  rw [encB, List.getElem?_map, this]; rfl

/-- The first ones added. -/
def mix (s r : Sh.St) (i : Nat) : List (BitVec 32) := (s.add r).l.take i ++ s.l.drop i
theorem mix_set (s r : Sh.St) {i : Nat} (hi : i < 8) : (enc32 (mix s r i) ++ enc32 Sh.K).toArray.setIfInBounds i (V32 (Sh.at_ s.l i + Sh.at_ r.l i)) = (enc32 (mix s r (i + 1)) ++ enc32 Sh.K).toArray := by
  apply Array.ext'
  simp only [Array.toList_setIfInBounds]
  have hl : i < (enc32 (mix s r i)).length := by simp [enc32, mix, Sh.St.l]; omega
  rw [List.set_append_left _ _ hl]
  congr 1
  rcases i with _ | _ | _ | _ | _ | _ | _ | _ | i <;> first | rfl | omega
theorem mix_get (s r : Sh.St) {i : Nat} (hi : i < 8) (t : List Value) : (enc32 (mix s r i) ++ t).toArray[0 + 0 + i * 1]? = some (V32 (Sh.at_ s.l i)) := by
  have hl : i < (enc32 (mix s r i)).length := by simp [enc32, mix, Sh.St.l]; omega
  rw [Nat.zero_add, Nat.mul_one, List.getElem?_toArray, List.getElem?_append_left hl]
  rcases i with _ | _ | _ | _ | _ | _ | _ | _ | i <;> first | rfl | omega
theorem l_get (r : Sh.St) {i : Nat} (hi : i < 8) : (enc32 r.l).toArray[0 + i * 1]? = some (V32 (Sh.at_ r.l i)) := by
  rw [Nat.zero_add, Nat.mul_one]
  rcases i with _ | _ | _ | _ | _ | _ | _ | _ | i <;> first | rfl | omega

set_option maxHeartbeats 1000000 in
theorem c_sturn {w : World} {bt : Nat} {v : Value} {s : Sh.St} {b : List UInt8} (hs : StAt w bt s) (hb : BytA w v b) (hl : 64 ≤ b.length) :
    Calls P 34 #[.pointer (some ⟨bt, 0, none⟩), v] w fun e w' => e = .returned (.tuple #[]) ∧ StAt w' bt (Sh.turn s b) ∧ Ext (fun k => k = bt) w w' := by
  refine enter (l := [_, _]) (n := 196) Tryd.func34 rfl rfl rfl ?_
  obtain ⟨bb, bo, bc, rfl, -⟩ := byt_at (j := 0) hb (by omega)
  have rdb : ∀ {wz : World}, Ext none_ w wz → ∀ i, i < b.length → wz.cell? ⟨bb, bo + i * 1, none⟩ = some (.int .u8 (b[i]?.getD 0).toNat) := fun hz i hi => by
    obtain ⟨_, _, _, e, h⟩ := byt_at (hb.ext0 hz) hi
    cases e
    exact h i hi
  refine W.seq ?_
  refine W.reg <| new ze_t64 rfl <| L.nil ?_
  refine N.th ?_
  obtain ⟨g, hg⟩ : ∃ g, g = w.heap.size := ⟨_, rfl⟩
  obtain ⟨w1, hw1⟩ : ∃ w1, w1 = w.alloc (.cells (enc32 (List.replicate 64 0)).toArray t64) := ⟨_, rfl⟩
  have hg1 : w1.heap[g]? = some (.cells (enc32 (Sh.sch b 0) ++ enc32 (List.replicate (64 - 0) 0)).toArray t64 (0, 0)) := by rw [hw1, hg]; exact heap_new _ _
  have hx1 : Ext none_ w w1 := by rw [hw1]; exact Ext.alloc _ _ _
  rw [show w.alloc (.cells (Value.cells (.agg (enc32 (List.replicate 64 0)).toArray)) t64) = w1 from hw1.symm, ← hg]
  have hG : ∀ i, i < w.heap.size → i = g → none_ i := fun i hi e => by omega
  have hbl := lt_of_obj hs
  refine W.seq ?_
  refine W.seq ?_
  refine W.reg <| mv rfl rfl <| L.nil ?_
  refine N.th ?_
  refine W.block ?_
  refine W.loop (X := Nat) (fun i => [(16, .int .i64 i), (4, .pointer (some ⟨g, 0, none⟩)), (0, .pointer (some ⟨bt, 0, none⟩)), (1, .slice (some ⟨bb, bo, none⟩) b.length bc)])
    (fun i w' => i ≤ 64 ∧ w'.heap[g]? = some (.cells (enc32 (Sh.sch b i) ++ enc32 (List.replicate (64 - i) 0)).toArray t64 (0, 0)) ∧ Ext none_ w w') (fun i => 64 - i) 0 ⟨rfl, rfl, rfl, rfl, trivial⟩ ⟨by omega, hg1, hx1⟩ ?_
  rintro i w2 ⟨hi, hg2, hx2⟩
  refine W.seq ?_
  refine W.reg <| lssI rfl rfl rfl <| L.nil ?_
  refine N.th ?_
  refine W.seq ?_
  refine W.cond rfl (fun h => ?_) (fun h => ?_)
  · refine W.skip ?_
    refine N.th ?_
    have hi1 : i < 64 := by simp at h; omega
    have hsl := Sh.sch_len b i
    have hrep : 64 - i = (64 - (i + 1)) + 1 := by omega
    have hset : ∀ x, (enc32 (Sh.sch b i) ++ enc32 (List.replicate (64 - i) 0)).toArray.setIfInBounds i (V32 x) = (enc32 (Sh.sch b i ++ [x]) ++ enc32 (List.replicate (64 - (i + 1)) 0)).toArray := fun x => by
      rw [hrep]
      conv => lhs; arg 2; rw [← hsl]
      exact set32 x
    have hin : ∃ u, (enc32 (Sh.sch b i) ++ enc32 (List.replicate (64 - i) 0)).toArray[0 + i * 1]? = some u := ⟨_, Array.getElem?_eq_getElem (by simp [enc32, hsl]; omega)⟩
    obtain ⟨u0, hu0⟩ := hin
    have stored : ∀ {wz : World} (x : BitVec 32), wz.heap[g]? = some (.cells (enc32 (Sh.sch b i) ++ enc32 (List.replicate (64 - i) 0)).toArray t64 (0, 0)) → Sh.sch b (i + 1) = Sh.sch b i ++ [x] →
        (wz.setCell ⟨g, 0 + i * 1, none⟩ (V32 x)).heap[g]? = some (.cells (enc32 (Sh.sch b (i + 1)) ++ enc32 (List.replicate (64 - (i + 1)) 0)).toArray t64 (0, 0)) := fun {wz} x hz hx => by
      rw [setCell_heap hz, hx, ← hset x, Nat.zero_add, Nat.mul_one]
    refine W.seqM (fun E' w' => E' = [(16, .int .i64 i), (4, .pointer (some ⟨g, 0, none⟩)), (0, .pointer (some ⟨bt, 0, none⟩)), (1, .slice (some ⟨bb, bo, none⟩) b.length bc)] ∧ w'.heap[g]? = some (.cells (enc32 (Sh.sch b (i + 1)) ++ enc32 (List.replicate (64 - (i + 1)) 0)).toArray t64 (0, 0)) ∧ Ext none_ w w') ?_ ?_   -- CUT
    · refine W.block ?_
      refine W.seq ?_
      refine W.reg <| mv rfl rfl <| asg rfl rfl <| L.nil ?_
      refine N.th ?_
      refine W.seq ?_
      refine W.seq ?_
      refine W.reg <| mv rfl rfl <| lssI rfl rfl rfl <| L.nil ?_
      refine N.th ?_
      refine W.cond rfl (fun h => ?_) (fun h => ?_)
      · have hi16 : i < 16 := by simp at h; omega
        refine W.seq ?_
        have hd : Ext none_ w2 w2.drew := Ext.drew _ _
        refine W.draw [75] true (fun w' => Ext none_ w w') [0, 1, 2, 3, 4, 5, 6, 7, 8, 9, 10, 11, 12, 13, 14, 15, 16, 17, 18, 19, 20, 21, 22, 23, 24, 25, 26, 27, 28, 29, 30, 31, 32, 33, 34, 35] rfl rfl (by kernel_rfl) (hx2.trans hd) ?_   -- held
        refine mv rfl rfl <| mv rfl rfl <| mv rfl rfl <| mulI (c := ((4 * i : Nat) : Int)) rfl rfl rfl (by rw [w64 (by omega) (by omega)]; omega) <| ixa rfl rfl u_bytes el_bytes.szB rfl (by omega) (by omega) <| ldK (v := .int .u8 (b[4 * i]?.getD 0).toNat) rfl ag_u8 rfl (fun w' h => rdb h (4 * i) (by omega)) <| b32 rfl u_u32 u_u8 rfl <| shl32 (k := 24) rfl rfl rfl (by omega) <|
          mv rfl rfl <| mv rfl rfl <| mulI (c := ((4 * i : Nat) : Int)) rfl rfl rfl (by rw [w64 (by omega) (by omega)]; omega) <| addI (c := ((4 * i + 1 : Nat) : Int)) rfl rfl rfl (by rw [w64 (by omega) (by omega)]; omega) <| ixa rfl rfl u_bytes el_bytes.szB rfl (by omega) (by omega) <| ldK (v := .int .u8 (b[4 * i + 1]?.getD 0).toNat) rfl ag_u8 rfl (fun w' h => rdb h (4 * i + 1) (by omega)) <| b32 rfl u_u32 u_u8 rfl <| shl32 (k := 16) rfl rfl rfl (by omega) <| or32 rfl rfl rfl <|
          mv rfl rfl <| mv rfl rfl <| mulI (c := ((4 * i : Nat) : Int)) rfl rfl rfl (by rw [w64 (by omega) (by omega)]; omega) <| addI (c := ((4 * i + 2 : Nat) : Int)) rfl rfl rfl (by rw [w64 (by omega) (by omega)]; omega) <| ixa rfl rfl u_bytes el_bytes.szB rfl (by omega) (by omega) <| ldK (v := .int .u8 (b[4 * i + 2]?.getD 0).toNat) rfl ag_u8 rfl (fun w' h => rdb h (4 * i + 2) (by omega)) <| b32 rfl u_u32 u_u8 rfl <| shl32 (k := 8) rfl rfl rfl (by omega) <| or32 rfl rfl rfl <|
          mv rfl rfl <| mv rfl rfl <| mulI (c := ((4 * i : Nat) : Int)) rfl rfl rfl (by rw [w64 (by omega) (by omega)]; omega) <| addI (c := ((4 * i + 3 : Nat) : Int)) rfl rfl rfl (by rw [w64 (by omega) (by omega)]; omega) <| ixa rfl rfl u_bytes el_bytes.szB rfl (by omega) (by omega) <| ldK (v := .int .u8 (b[4 * i + 3]?.getD 0).toNat) rfl ag_u8 rfl (fun w' h => rdb h (4 * i + 3) (by omega)) <| b32 rfl u_u32 u_u8 rfl <| or32 rfl rfl rfl <|
          ixp rfl rfl u_t64 sz_u32 rfl (by omega) (by omega) <| st1 rfl rfl sz_u32 rfl (hd.obj hg2 id) hu0 (hS := .inl ⟨rfl, rfl⟩) <| L.nilH ?_
        refine N.th ?_
        refine W.exit ?_
        refine N.xth ?_
        refine N.xeq ?_
        refine N.th (N.meet [(16, _), (4, _), (0, _), (1, _)] ⟨rfl, rfl, rfl, rfl, trivial⟩ ⟨rfl, ?_, (hx2.trans hd).trans' (Ext.setCell (S := fun k => k = g) _ (fun _ => rfl) _) hG⟩)   -- MEET
        refine stored (Sh.word b i) (hd.obj hg2 id) ?_
        rw [Sh.sch, if_pos hi16]
      · have hi16 : ¬ i < 16 := by simp at h; omega
        refine W.skip ?_
        refine N.th ?_
        have rdw : ∀ {wz : World} (j : Nat), j < i → wz.heap[g]? = some (.cells (enc32 (Sh.sch b i) ++ enc32 (List.replicate (64 - i) 0)).toArray t64 (0, 0)) → wz.cell? ⟨g, 0 + j * 1, none⟩ = some (V32 (Sh.at_ (Sh.sch b i) j)) := fun j hj hz => by
          rw [Nat.zero_add, Nat.mul_one]
          exact cell_of hz (rd32 (by rw [hsl]; exact hj))
        have hd : Ext none_ w2 w2.drew := Ext.drew _ _
        have hgd := hd.obj hg2 id
        refine W.seq ?_
        refine W.draw [] false (fun w' => w'.heap[g]? = some (.cells (enc32 (Sh.sch b i) ++ enc32 (List.replicate (64 - i) 0)).toArray t64 (0, 0))) [0, 1, 2, 3, 4, 5, 6, 7, 8, 9] rfl rfl (by kernel_rfl) hgd ?_   -- held
        refine mv rfl rfl <| subI (c := ((i - 15 : Nat) : Int)) rfl rfl rfl (by rw [w64 (by omega) (by omega)]; omega) <| ixp rfl rfl u_t64 sz_u32 rfl (by omega) (by omega) <| ldK (v := V32 (Sh.at_ (Sh.sch b i) (i - 15))) rfl ag_u32 rfl (fun w' h => rdw (i - 15) (by omega) h) <| mv rfl rfl <| subI (c := ((i - 2 : Nat) : Int)) rfl rfl rfl (by rw [w64 (by omega) (by omega)]; omega) <| ixp rfl rfl u_t64 sz_u32 rfl (by omega) (by omega) <| ldK (v := V32 (Sh.at_ (Sh.sch b i) (i - 2))) rfl ag_u32 rfl (fun w' h => rdw (i - 2) (by omega) h) <| asg rfl rfl <| asg rfl rfl <| L.nilH ?_
        refine N.th ?_
        refine W.seq ?_
        refine W.reg <| mv rfl rfl <| call (vs := [_, .int .i64 (-((7 : Nat) : Int))]) rfl rfl ok_Rot (c_Rot _ 7 (by omega) (by omega) _) ?_
        rintro e w3 ⟨rfl, rfl⟩
        refine ⟨_, rfl, ?_⟩
        refine mv rfl rfl <| call (vs := [_, .int .i64 (-((18 : Nat) : Int))]) rfl rfl ok_Rot (c_Rot _ 18 (by omega) (by omega) _) ?_
        rintro e w3 ⟨rfl, rfl⟩
        refine ⟨_, rfl, ?_⟩
        refine xor32 rfl rfl rfl <| mv rfl rfl <| shr32 (k := 3) rfl rfl rfl (by omega) <| xor32 rfl rfl rfl <| asg rfl rfl <| L.nil ?_
        refine N.th ?_
        refine W.seq ?_
        refine W.reg <| mv rfl rfl <| call (vs := [_, .int .i64 (-((17 : Nat) : Int))]) rfl rfl ok_Rot (c_Rot _ 17 (by omega) (by omega) _) ?_
        rintro e w3 ⟨rfl, rfl⟩
        refine ⟨_, rfl, ?_⟩
        refine mv rfl rfl <| call (vs := [_, .int .i64 (-((19 : Nat) : Int))]) rfl rfl ok_Rot (c_Rot _ 19 (by omega) (by omega) _) ?_
        rintro e w3 ⟨rfl, rfl⟩
        refine ⟨_, rfl, ?_⟩
        refine xor32 rfl rfl rfl <| mv rfl rfl <| shr32 (k := 10) rfl rfl rfl (by omega) <| xor32 rfl rfl rfl <| asg rfl rfl <| L.nil ?_
        refine N.th ?_
        have hd2 : Ext none_ w2.drew w2.drew.drew := Ext.drew _ _
        have hgd2 := hd2.obj hgd id
        refine W.draw [] true (fun w' => w'.heap[g]? = some (.cells (enc32 (Sh.sch b i) ++ enc32 (List.replicate (64 - i) 0)).toArray t64 (0, 0))) [0, 1, 2, 3, 4, 5, 6, 7, 8, 9, 10, 11, 12, 13, 14, 15] rfl rfl (by kernel_rfl) hgd2 ?_   -- held
        refine mv rfl rfl <| mv rfl rfl <| subI (c := ((i - 16 : Nat) : Int)) rfl rfl rfl (by rw [w64 (by omega) (by omega)]; omega) <| ixp rfl rfl u_t64 sz_u32 rfl (by omega) (by omega) <| ldK (v := V32 (Sh.at_ (Sh.sch b i) (i - 16))) rfl ag_u32 rfl (fun w' h => rdw (i - 16) (by omega) h) <| mv rfl rfl <| add32 rfl rfl rfl <| mv rfl rfl <| subI (c := ((i - 7 : Nat) : Int)) rfl rfl rfl (by rw [w64 (by omega) (by omega)]; omega) <| ixp rfl rfl u_t64 sz_u32 rfl (by omega) (by omega) <| ldK (v := V32 (Sh.at_ (Sh.sch b i) (i - 7))) rfl ag_u32 rfl (fun w' h => rdw (i - 7) (by omega) h) <| add32 rfl rfl rfl <| mv rfl rfl <| add32 rfl rfl rfl <|
          ixp rfl rfl u_t64 sz_u32 rfl (by omega) (by omega) <| st1 rfl rfl sz_u32 rfl hgd2 hu0 (hS := .inl ⟨rfl, rfl⟩) <| L.nilH ?_
        refine N.inb ?_
        refine N.th (N.meet [(16, _), (4, _), (0, _), (1, _)] ⟨rfl, rfl, rfl, rfl, trivial⟩ ⟨rfl, ?_, ((hx2.trans hd).trans hd2).trans' (Ext.setCell (S := fun k => k = g) _ (fun _ => rfl) _) hG⟩)   -- MEET
        refine stored (Sh.nw (Sh.sch b i) i) hgd2 ?_
        rw [Sh.sch, if_neg hi16]
    rintro E' w3 ⟨rfl, hg3, hx3⟩
    refine W.reg <| addI (c := ((i + 1 : Nat) : Int)) rfl rfl rfl (by rw [w64 (by omega) (by omega)]; simp) <| mv rfl rfl <| L.nil ?_
    exact N.th (N.round (x := i + 1) ⟨rfl, rfl, rfl, rfl, trivial⟩ ⟨by omega, hg3, hx3⟩ (by omega))   -- ROUND
  refine W.exit ?_
  refine N.xth ?_
  refine N.xth ?_
  refine N.xeq ?_
  refine N.th ?_
  have hi64 : i = 64 := by simp at h; omega
  subst hi64
  have hs2 : StAt w2 bt s := hx2.obj hs id
  have rdh : ∀ {wz : World} {r : Sh.St}, StAt wz bt r → ∀ j u, (enc32 r.l)[j]? = some u → wz.cell? ⟨bt, 0 + 0 + j, none⟩ = some u := fun hz j u hj => by
    have hl : j < (enc32 _).length := (List.getElem?_eq_some_iff.1 hj).1
    refine cell_of hz ?_
    rw [Nat.zero_add, List.getElem?_toArray, List.getElem?_append_left hl]
    exact hj
  refine W.seq ?_
  refine W.reg <| mv rfl rfl <| nilc rfl rfl <| fad rfl fl_St_0 rfl <| ldk (cs := enc32 s.l) rfl ag_t8 sz_t8 rfl rfl (rdh hs2) <| new ze_t8 rfl <| stR (cells := (enc32 s.l).toArray) rfl rfl sz_t8 (one32 _) (heap_new _ _) rfl <| L.nil ?_
  refine N.th ?_
  obtain ⟨q, hq⟩ : ∃ q, q = w2.heap.size := ⟨_, rfl⟩
  obtain ⟨w3, hw3⟩ : ∃ w3, w3 = (w2.alloc (.cells (Value.cells (.agg (enc32 (List.replicate 8 0)).toArray)) t8)).setRow w2.heap.size (enc32 s.l).toArray := ⟨_, rfl⟩
  have hq3 : w3.heap[q]? = some (.cells (enc32 (Sh.rounds b s 0).l).toArray t8 (0, 0)) := by rw [hw3, hq]; exact setRow_heap _ _ _ _ _ _ (heap_new _ _)
  have hx23 : Ext none_ w2 w3 := by rw [hw3]; exact (Ext.alloc none_ _ _).trans' (Ext.setRow (S := fun k => k = w2.heap.size) _ (fun _ => rfl) _) (fun i hi e => by omega)
  rw [show (w2.alloc (.cells (Value.cells (.agg (enc32 (List.replicate 8 0)).toArray)) t8)).setRow w2.heap.size (enc32 s.l).toArray = w3 from hw3.symm, ← hq]
  have hg3 := hx23.obj hg2 id
  have hs3 : StAt w3 bt s := hx23.obj hs2 id
  have hgs := lt_of_obj hg2
  have hbs := lt_of_obj hs2
  have hgq : ¬ g = q := by omega
  have hbq : ¬ bt = q := by omega
  have hws : w.heap.size ≤ w2.heap.size := hx2.size
  have hQ : ∀ i, i < w.heap.size → i = q → none_ i := fun i hi e => by omega
  refine W.seq ?_
  refine W.seq ?_
  refine W.reg <| mv rfl rfl <| L.nil ?_
  refine N.th ?_
  refine W.block ?_
  refine W.loop (X := Nat) (fun i => [(100, .int .i64 i), (8, .pointer (some ⟨q, 0, none⟩)), (4, .pointer (some ⟨g, 0, none⟩)), (0, .pointer (some ⟨bt, 0, none⟩))])
    (fun i w' => i ≤ 64 ∧ w'.heap[q]? = some (.cells (enc32 (Sh.rounds b s i).l).toArray t8 (0, 0)) ∧ w'.heap[g]? = some (.cells (enc32 (Sh.sch b 64) ++ enc32 (List.replicate (64 - 64) 0)).toArray t64 (0, 0)) ∧ StAt w' bt s ∧ Ext none_ w w') (fun i => 64 - i) 0 ⟨rfl, rfl, rfl, rfl, trivial⟩ ⟨by omega, hq3, hg3, hs3, hx2.trans hx23⟩ ?_
  rintro i w4 ⟨hi, hq4, hg4, hs4, hx4⟩
  refine W.seq ?_
  refine W.reg <| lssI rfl rfl rfl <| L.nil ?_
  refine N.th ?_
  refine W.seq ?_
  refine W.cond rfl (fun h => ?_) (fun h => ?_)
  · refine W.skip ?_
    refine N.th ?_
    have hi1 : i < 64 := by simp at h; omega
    have hstep : Sh.rounds b s (i + 1) = Sh.step (Sh.rounds b s i) (Sh.at_ Sh.K i) (Sh.at_ (Sh.sch b 64) i) := rfl
    generalize Sh.rounds b s i = r at hq4 hstep
    have rdw : ∀ {wz : World}, wz.heap[g]? = some (.cells (enc32 (Sh.sch b 64) ++ enc32 (List.replicate (64 - 64) 0)).toArray t64 (0, 0)) → wz.cell? ⟨g, 0 + i * 1, none⟩ = some (V32 (Sh.at_ (Sh.sch b 64) i)) := fun hz => by
      rw [Nat.zero_add, Nat.mul_one]
      exact cell_of hz (rd32 (by rw [Sh.sch_len]; exact hi1))
    have rdk : ∀ {wz : World}, StAt wz bt s → wz.cell? ⟨bt, 0 + 8 + i * 1, none⟩ = some (V32 (Sh.at_ Sh.K i)) := fun hz => by
      rw [Nat.zero_add, Nat.mul_one]
      refine cell_of hz ?_
      rw [List.getElem?_toArray, List.getElem?_append_right (by rw [enc32_len]; simp [Sh.St.l]), enc32_len, show 8 + i - s.l.length = i by simp [Sh.St.l]]
      have : Sh.K[i]? = some (Sh.at_ Sh.K i) := by unfold Sh.at_; rw [List.getElem?_eq_getElem (by rw [Sh.K_len]; exact hi1)]; rfl
      exact enc32_get this
    refine W.seq ?_
    refine W.block ?_
    refine W.seq ?_
    refine W.reg <| mv rfl rfl <| asg rfl rfl <| L.nil ?_
    refine N.th ?_
    have hd1 : Ext none_ w4 w4.drew := Ext.drew _ _
    refine W.seq ?_
    refine W.draw [] false (fun w' => w'.heap[q]? = some (.cells (enc32 r.l).toArray t8 (0, 0))) [0, 1, 2, 3, 4, 5] rfl rfl (by kernel_rfl) (hd1.obj hq4 id) ?_   -- held
    refine ixp rfl rfl u_t8 sz_u32 rfl (by omega) (by omega) <| ldK (v := V32 r.a) rfl ag_u32 rfl (fun w' h => cell_of h rfl) <| ixp rfl rfl u_t8 sz_u32 rfl (by omega) (by omega) <| ldK (v := V32 r.e) rfl ag_u32 rfl (fun w' h => cell_of h rfl) <| asg rfl rfl <| asg rfl rfl <| L.nilH ?_
    refine N.th ?_
    refine W.seq ?_
    refine W.reg <| mv rfl rfl <| call (vs := [_, .int .i64 (-((6 : Nat) : Int))]) rfl rfl ok_Rot (c_Rot _ 6 (by omega) (by omega) _) ?_
    rintro e w5 ⟨rfl, rfl⟩
    refine ⟨_, rfl, ?_⟩
    refine mv rfl rfl <| call (vs := [_, .int .i64 (-((11 : Nat) : Int))]) rfl rfl ok_Rot (c_Rot _ 11 (by omega) (by omega) _) ?_
    rintro e w5 ⟨rfl, rfl⟩
    refine ⟨_, rfl, ?_⟩
    refine xor32 rfl rfl rfl <| mv rfl rfl <| call (vs := [_, .int .i64 (-((25 : Nat) : Int))]) rfl rfl ok_Rot (c_Rot _ 25 (by omega) (by omega) _) ?_
    rintro e w5 ⟨rfl, rfl⟩
    refine ⟨_, rfl, ?_⟩
    refine xor32 rfl rfl rfl <| asg rfl rfl <| L.nil ?_
    refine N.th ?_
    have hd2 : Ext none_ w4 w4.drew.drew := hd1.trans (Ext.drew _ _)
    refine W.seq ?_
    refine W.draw [] false (fun w' => w'.heap[q]? = some (.cells (enc32 r.l).toArray t8 (0, 0)) ∧ w'.heap[g]? = some (.cells (enc32 (Sh.sch b 64) ++ enc32 (List.replicate (64 - 64) 0)).toArray t64 (0, 0)) ∧ StAt w' bt s) [0, 1, 2, 3, 4, 5, 6, 7, 8, 9, 10, 11, 12, 13, 14, 15, 16, 17, 18, 19, 20, 21, 22, 23, 24, 25, 26] rfl rfl (by kernel_rfl) ⟨hd2.obj hq4 id, hd2.obj hg4 id, hd2.obj hs4 id⟩ ?_   -- held
    refine ixp rfl rfl u_t8 sz_u32 rfl (by omega) (by omega) <| ldK (v := V32 r.h) rfl ag_u32 rfl (fun w' h => cell_of h.1 rfl) <| mv rfl rfl <| add32 rfl rfl rfl <| mv rfl rfl <| ixp rfl rfl u_t8 sz_u32 rfl (by omega) (by omega) <| ldK (v := V32 r.f) rfl ag_u32 rfl (fun w' h => cell_of h.1 rfl) <| and32 rfl rfl rfl <| mv rfl rfl <| not32 rfl rfl <| ixp rfl rfl u_t8 sz_u32 rfl (by omega) (by omega) <| ldK (v := V32 r.g) rfl ag_u32 rfl (fun w' h => cell_of h.1 rfl) <| and32 rfl rfl rfl <| xor32 rfl rfl rfl <| add32 rfl rfl rfl <|
      mv rfl rfl <| mv rfl rfl <| nilc rfl rfl <| fad rfl fl_St_1 rfl <| ixp rfl rfl u_t64 sz_u32 rfl (by omega) (by omega) <| ldK (v := V32 (Sh.at_ Sh.K i)) rfl ag_u32 rfl (fun w' h => rdk h.2.2) <| add32 rfl rfl rfl <| mv rfl rfl <| ixp rfl rfl u_t64 sz_u32 rfl (by omega) (by omega) <| ldK (v := V32 (Sh.at_ (Sh.sch b 64) i)) rfl ag_u32 rfl (fun w' h => rdw h.2.1) <| add32 rfl rfl rfl <| asg rfl rfl <| L.nilH ?_
    refine N.th ?_
    refine W.seq ?_
    refine W.reg <| mv rfl rfl <| call (vs := [_, .int .i64 (-((2 : Nat) : Int))]) rfl rfl ok_Rot (c_Rot _ 2 (by omega) (by omega) _) ?_
    rintro e w5 ⟨rfl, rfl⟩
    refine ⟨_, rfl, ?_⟩
    refine mv rfl rfl <| call (vs := [_, .int .i64 (-((13 : Nat) : Int))]) rfl rfl ok_Rot (c_Rot _ 13 (by omega) (by omega) _) ?_
    rintro e w5 ⟨rfl, rfl⟩
    refine ⟨_, rfl, ?_⟩
    refine xor32 rfl rfl rfl <| mv rfl rfl <| call (vs := [_, .int .i64 (-((22 : Nat) : Int))]) rfl rfl ok_Rot (c_Rot _ 22 (by omega) (by omega) _) ?_
    rintro e w5 ⟨rfl, rfl⟩
    refine ⟨_, rfl, ?_⟩
    refine xor32 rfl rfl rfl <| asg rfl rfl <| L.nil ?_
    refine N.th ?_
    have hqd := hd2.obj hq4 id
    refine W.seq ?_
    refine W.reg <| mv rfl rfl <| mv rfl rfl <| ixp rfl rfl u_t8 sz_u32 rfl (by omega) (by omega) <| ld1 (v := V32 r.b) rfl ag_u32 rfl (cell_of hqd rfl) <| and32 rfl rfl rfl <| mv rfl rfl <| ixp rfl rfl u_t8 sz_u32 rfl (by omega) (by omega) <| ld1 (v := V32 r.c) rfl ag_u32 rfl (cell_of hqd rfl) <| and32 rfl rfl rfl <| xor32 rfl rfl rfl <| ixp rfl rfl u_t8 sz_u32 rfl (by omega) (by omega) <| ld1 (v := V32 r.b) rfl ag_u32 rfl (cell_of hqd rfl) <| ixp rfl rfl u_t8 sz_u32 rfl (by omega) (by omega) <| ld1 (v := V32 r.c) rfl ag_u32 rfl (cell_of hqd rfl) <| and32 rfl rfl rfl <| xor32 rfl rfl rfl <| add32 rfl rfl rfl <| asg rfl rfl <| L.nil ?_
    refine N.th ?_
    have hd3 : Ext none_ w4 w4.drew.drew.drew := hd2.trans (Ext.drew _ _)
    have hqe := hd3.obj hq4 id
    refine W.seq ?_
    refine W.draw [] true (fun _ => True) [0, 1, 2] rfl rfl (by kernel_rfl) trivial ?_   -- held
    refine slAl (i := 1) rfl rfl u_t8 sz_u32 rfl (by omega) <| slAh (j := 7) rfl rfl u_t8 sz_u32 rfl (by omega) <| cpS (cs := [V32 r.a, V32 r.b, V32 r.c, V32 r.d, V32 r.e, V32 r.f, V32 r.g]) rfl rfl rfl u_words sz_u32 hqe rfl (fun j u hj => by
        rw [add_at, Nat.zero_add]
        refine cell_of hqe ?_
        rcases j with _ | _ | _ | _ | _ | _ | _ | j <;> first | exact hj | cases hj) (by simp [enc32, Sh.St.l]) (by
        intro u hu
        simp only [List.mem_cons, List.not_mem_nil, or_false] at hu
        rcases hu with rfl | rfl | rfl | rfl | rfl | rfl | rfl <;> rfl) (hk := .inl ⟨rfl, rfl⟩) <| L.nilH ?_
    refine N.th ?_
    generalize hw5 : World.setRow _ _ _ = w5
    have hq5 : w5.heap[q]? = some (.cells #[V32 r.a, V32 r.a, V32 r.b, V32 r.c, V32 r.d, V32 r.e, V32 r.f, V32 r.g] t8 (0, 0)) := by rw [← hw5]; exact setRow_heap _ _ _ _ _ _ hqe
    have hx5 : Ext (fun k => k = q) w4 w5 := by rw [← hw5]; exact hd3.none.trans (Ext.setRow (S := fun k => k = q) _ (fun _ => rfl) _)
    refine W.reg <| mv rfl rfl <| mv rfl rfl <| add32 rfl rfl rfl <| ixp rfl rfl u_t8 sz_u32 rfl (by omega) (by omega) <| ld1 (v := V32 r.d) rfl ag_u32 rfl (cell_of hq5 rfl) <| mv rfl rfl <| add32 rfl rfl rfl <| ixp rfl rfl u_t8 sz_u32 rfl (by omega) (by omega) <| st1 rfl rfl sz_u32 rfl hq5 rfl <| ixp rfl rfl u_t8 sz_u32 rfl (by omega) (by omega) <| st1 rfl rfl sz_u32 rfl (setCell_heap hq5 _) rfl <| L.nil ?_
    refine N.inb ?_
    refine N.th ?_
    refine W.reg <| addI (c := ((i + 1 : Nat) : Int)) rfl rfl rfl (by rw [w64 (by omega) (by omega)]; simp) <| mv rfl rfl <| L.nil ?_
    have hx6 : ∀ {v1 v2 : Value} {o1 o2 : Nat}, Ext (fun k => k = q) w4 ((w5.setCell ⟨q, o1, none⟩ v1).setCell ⟨q, o2, none⟩ v2) := (hx5.trans (Ext.setCell (S := fun k => k = q) _ (fun _ => rfl) _)).trans (Ext.setCell (S := fun k => k = q) _ (fun _ => rfl) _)
    refine N.th (N.round (x := i + 1) ⟨rfl, rfl, rfl, rfl, trivial⟩ ⟨by omega, ?_, hx6.obj hg4 hgq, hx6.obj hs4 hbq, hx4.trans' hx6 hQ⟩ (by omega))   -- ROUND
    rw [hstep, setCell_heap (setCell_heap hq5 _)]
    rfl
  refine W.exit ?_
  refine N.xth ?_
  refine N.xth ?_
  refine N.xeq ?_
  refine N.th ?_
  have hi64 : i = 64 := by simp at h; omega
  subst hi64
  have hturn : Sh.turn s b = s.add (Sh.rounds b s 64) := rfl
  generalize Sh.rounds b s 64 = r at hq4 hturn
  rw [hturn]
  have hm4 : w4.heap[bt]? = some (.cells (enc32 (mix s r 0) ++ enc32 Sh.K).toArray tSt (0, 0)) := hs4
  refine W.seq ?_
  refine W.reg <| mv rfl rfl <| L.nil ?_
  refine N.th ?_
  refine W.block ?_
  refine W.loop (X := Nat) (fun i => [(179, .int .i64 i), (8, .pointer (some ⟨q, 0, none⟩)), (0, .pointer (some ⟨bt, 0, none⟩))])
    (fun i w' => i ≤ 8 ∧ w'.heap[bt]? = some (.cells (enc32 (mix s r i) ++ enc32 Sh.K).toArray tSt (0, 0)) ∧ w'.heap[q]? = some (.cells (enc32 r.l).toArray t8 (0, 0)) ∧ Ext (fun k => k = bt) w w') (fun i => 8 - i) 0 ⟨rfl, rfl, rfl, trivial⟩ ⟨by omega, hm4, hq4, hx4.none⟩ ?_
  rintro i w5 ⟨hi, hm5, hq5, hx5⟩
  refine W.seq ?_
  refine W.reg <| lssI rfl rfl rfl <| L.nil ?_
  refine N.th ?_
  refine W.seq ?_
  refine W.cond rfl (fun h => ?_) (fun h => ?_)
  · refine W.skip ?_
    refine N.th ?_
    have hi1 : i < 8 := by simp at h; omega
    refine W.seq ?_
    refine W.block ?_
    refine W.seq ?_
    refine W.reg <| mv rfl rfl <| asg rfl rfl <| L.nil ?_
    refine N.th ?_
    have hd : Ext none_ w5 w5.drew := Ext.drew _ _
    have hmd := hd.obj hm5 id
    refine W.draw [] true (fun w' => w'.heap[bt]? = some (.cells (enc32 (mix s r i) ++ enc32 Sh.K).toArray tSt (0, 0)) ∧ w'.heap[q]? = some (.cells (enc32 r.l).toArray t8 (0, 0))) [0, 1, 2, 3, 4, 5, 6, 7, 8, 9, 10, 11, 12, 13] rfl rfl (by kernel_rfl) ⟨hmd, hd.obj hq5 id⟩ ?_   -- held
    refine mv rfl rfl <| mv rfl rfl <| nilc rfl rfl <| fad rfl fl_St_0 rfl <| ixp rfl rfl u_t8 sz_u32 rfl (by omega) (by omega) <| ldK (v := V32 (Sh.at_ s.l i)) rfl ag_u32 rfl (fun w' h => cell_of h.1 (mix_get s r hi1 _)) <| mv rfl rfl <| ixp rfl rfl u_t8 sz_u32 rfl (by omega) (by omega) <| ldK (v := V32 (Sh.at_ r.l i)) rfl ag_u32 rfl (fun w' h => cell_of h.2 (l_get r hi1)) <| add32 rfl rfl rfl <|
      nilc rfl rfl <| fad rfl fl_St_0 rfl <| ixp rfl rfl u_t8 sz_u32 rfl (by omega) (by omega) <| st1 rfl rfl sz_u32 rfl hmd (mix_get s r hi1 _) (hS := .inl ⟨rfl, rfl⟩) <| L.nilH ?_
    refine N.inb ?_
    refine N.th ?_
    refine W.reg <| addI (c := ((i + 1 : Nat) : Int)) rfl rfl rfl (by rw [w64 (by omega) (by omega)]; simp) <| mv rfl rfl <| L.nil ?_
    have hx6 : ∀ {v1 : Value} {o1 : Nat}, Ext (fun k => k = bt) w5 (w5.drew.setCell ⟨bt, o1, none⟩ v1) := hd.none.trans (Ext.setCell (S := fun k => k = bt) _ (fun _ => rfl) _)
    refine N.th (N.round (x := i + 1) ⟨rfl, rfl, rfl, trivial⟩ ⟨by omega, ?_, hx6.obj hq5 (fun e => hbq e.symm), hx5.trans hx6⟩ (by omega))   -- ROUND
    rw [setCell_heap hmd, ← mix_set s r hi1]
    have : 0 + 0 + ((i : Nat) : Int).toNat * 1 = i := by omega
    rw [this]
  · refine W.exit ?_
    refine N.xth ?_
    refine N.xth ?_
    refine N.xeq ?_
    refine N.end0 rfl ?_
    have hi8 : i = 8 := by simp at h; omega
    subst hi8
    exact ⟨rfl, hm5, hx5⟩
end Go.Proofs.YtmdpmpdlkaogdaaDoor

namespace Go.Proofs.YtmdpmpdlkaogdaaDoor.Vc
open Go Go.RowKit
section ops
variable {Fe : Fence} {mm : Nat} [Wd Fe] {P : Program} {ds : List Deferred} {n : Nat} {Q : Exit → Act → World → Prop} {E : Env} {w : World} {ops : Array Oper} {l : List Oper}
variable {d1 d2 : Nat} {ty1 ty2 : TypeId} {pos1 pos2 : String} {af1 af2 : Array Edge}

/-- 'append(s, x)' onto a slice of the call's own. -/
theorem push1 {t e : TypeId} {z : Value} {sz bytes B nn : Nat} {s x : Operand} {v v0 : Value} {xs : List Value} {cs : Array Value} (hx : opd E x = some v0) (hd1 : Nat.blt d1 n = true) (hs : opd ((d1, .slice (some ⟨w.heap.size, 0, none⟩) 1 1) :: E) s = some v) (hd2 : Nat.blt d2 n = true)
    (hr : ∀ w, (Instr.buildSlice t 1 #[(0, v0)]).run P w = .ok (.slice (some ⟨w.heap.size, 0, none⟩) 1 1) (w.alloc (.cells cs e))) (ht : ElT P t e z sz bytes) (hl : cs.size = sz) (h1 : cs.toList.all (·.oneCell') = true)
    (hown : w.ownsRow B e sz v nn xs) (hb : (nn + 1) * bytes ≤ 140737488355328) (hm : nn + 1 ≤ maxLen) (hB : B ≤ w.heap.size)
    (k : ∀ v' w', w'.ownsRow B e sz v' (nn + 1) (xs ++ cs.toList) → Ext (fun k => v.ownBlock = some k) w w' → L Fe mm P ds n ops l Q ((d2, v') :: (d1, .slice (some ⟨w.heap.size, 0, none⟩) 1 1) :: E) w') :
    L Fe mm P ds n ops (⟨some d1, .buildSlice t 1 #[(0, x)], ty1, pos1, af1, none⟩ :: ⟨some d2, .call ⟨.builtin .append, #[s, .tmp d1], #[t, t]⟩, ty2, pos2, af2, none⟩ :: l) Q E w := by
  have h0 : opd ((d1, .slice (some ⟨w.heap.size, 0, none⟩) 1 1) :: E) (.tmp d1) = some (.slice (some ⟨w.heap.size, 0, none⟩) 1 1) := by simp [opd, getE]
  refine bls (st := .plain Fe mm) (vs := #[(0, v0)]) (cs := cs) (e := e) (by simp [hx]) hd1 hr <| app hs h0 hd2 ht (own_ext hown (Ext.alloc none_ _ _) fun _ _ => id) (news := cs.toList) (by simp [hl]) (fun j u hj => by
    rw [add_at, Nat.zero_add]; exact cell_of (heap_new _ _) (by simpa using hj)) (fun u hu => List.all_eq_true.1 h1 u hu) hb hm (by simp; omega) fun v' w' ho hx2 _ _ => k v' w' ho ?_
  exact (Ext.alloc _ _ _).trans hx2

end ops
section ops2
variable {st : Sty} [Wy st] {P : Program} {ds : List Deferred} {n : Nat} {Q : Exit → Act → World → Prop} {E : Env} {w : World} {ops : Array Oper} {l : List Oper}
variable {d : Nat} {ty : TypeId} {pos : String} {af : Array Edge}
/-- A slice cut with a cap: 's[:hi:max]'. -/
theorem slVhm {t e : TypeId} {x hi mx : Operand} {a : Option Addr} {m c sz : Nat} {κ κ' : IntKind} {j i : Int} (hx : opd E x = some (.slice a m c)) (hh : opd E hi = some (.int κ j)) (hmx : opd E mx = some (.int κ' i)) (hu : P.underlying t = some (.slice e)) (hs : szB P e = some sz) (hd : Nat.blt d n = true) (h0 : 0 ≤ j) (h1 : j ≤ i) (h2 : i ≤ c)
    (k : LY st P ds n ops l Q ((d, .slice a j.toNat i.toNat) :: E) w) : LY st P ds n ops (⟨some d, .slice t x none (some hi) (some mx), ty, pos, af, none⟩ :: l) Q E w :=
  LY.rd _ hd (fun ac ha w _ => by
    have h4 : 0 ≤ j ∧ j ≤ (i.toNat : Int) := ⟨h0, by omega⟩
    have h5 : 0 ≤ i ∧ i ≤ (c : Int) := ⟨by omega, h2⟩
    have e1 : ∀ k : Nat, (if k = 0 then a else a.map (·.add (0 * sz))) = a := fun k => by split; rfl; cases a <;> simp [Addr.add]
    simp only [execOp, opd_eval ha hx, opd_eval ha hh, opd_eval ha hmx, Option.map_some, Option.map_none, Instr.sliceAt, Instr.slice, Instr.sliceBounds, Instr.sliceBound, asIntOf, underlying, program, Sem.run_bind, Sem.run, Result.andThen_ok, hu, Sem.run_pure, Sem.run_ite, if_pos h4, if_pos h5, run_sizeOf hs, e1, Nat.sub_zero]) k
/-- 'append' onto a slice that has no room: a new row. -/
theorem appG {t e : TypeId} {z : Value} {sz bytes nn cap m c : Nat} {s x : Operand} {b ad : Addr} {olds news : List Value} (hs : opd E s = some (.slice (some b) nn cap)) (hx : opd E x = some (.slice (some ad) m c)) (hd : Nat.blt d n = true) (ht : ElT P t e z sz bytes)
    (hlo : olds.length = nn * sz) (holds : ∀ j u, olds[j]? = some u → w.cell? (b.add j) = some u) (hl : news.length = m * sz) (hnews : ∀ j u, news[j]? = some u → w.cell? (ad.add j) = some u)
    (hg : cap < nn + m) (hb : (nn + m) * bytes ≤ 140737488355328) (hm : nn + m ≤ maxLen)
    (k : ∀ v' w', w'.ownsRow w.heap.size e sz v' (nn + m) (olds ++ news) → Ext none_ w w' → st.keeps l w w' ∧ LY st P ds n ops l Q ((d, v') :: E) w') : LY st P ds n ops (⟨some d, .call ⟨.builtin .append, #[s, x], #[t, t]⟩, ty, pos, af, none⟩ :: l) Q E w := by
  obtain ⟨i, hi, hz, hsz, hby⟩ := ht.info
  obtain ⟨v', w', hr, ho, hgr⟩ := run_append_arg_grows (P := P) w t ty e i z sz bytes ht.u hi hz hsz hby ht.c ht.p b nn cap olds hlo holds ad m c news hl hnews hg hm hb
  obtain ⟨hk, k⟩ := k v' w' ho ((Ext.grown hgr).mono fun _ _ h => by cases h)
  exact bltinY (vs := [.slice (some b) nn cap, .slice (some ad) m c]) (by simp [hs, hx]) hd (fun _ => by simp [builtin, hr]) k (fun _ _ _ _ => rfl) hk
/-- The rest of a slice: its cells lie further on. -/
theorem slVlA {t e : TypeId} {x lo : Operand} {b o m c sz : Nat} {κ : IntKind} {i : Nat} (hx : opd E x = some (.slice (some ⟨b, o, none⟩) m c)) (hl : opd E lo = some (.int κ i)) (hu : P.underlying t = some (.slice e)) (hs : szB P e = some sz) (hd : Nat.blt d n = true) (h1 : i ≤ m)
    (k : ∀ ad : Addr, (i < c → ad = ⟨b, o + i * sz, none⟩) → LY st P ds n ops l Q ((d, .slice (some ad) (m - i) (c - i)) :: E) w) : LY st P ds n ops (⟨some d, .slice t x (some lo) none none, ty, pos, af, none⟩ :: l) Q E w := by
  refine slVl hx hl hu hs hd (by omega) (by omega) ?_
  have := k (if c = i then ⟨b, o, none⟩ else ⟨b, o + i * sz, none⟩) (fun h => by rw [if_neg (by omega)])
  have e1 : (if c = (i : Int).toNat then some (⟨b, o, none⟩ : Addr) else (some ⟨b, o, none⟩ : Option Addr).map (·.add ((i : Int).toNat * sz))) = some (if c = i then ⟨b, o, none⟩ else ⟨b, o + i * sz, none⟩) := by
    simp only [Int.toNat_natCast, Option.map_some, add_at]
    split <;> rfl
  rw [e1]
  simpa using this
end ops2
end Go.Proofs.YtmdpmpdlkaogdaaDoor.Vc

namespace Go.Proofs.YtmdpmpdlkaogdaaDoor
open Go Go.RowKit Vc

abbrev StrsA (B : Nat) (w : World) (v : Value) (l : List Sp.Bytes) : Prop := w.ownsRow B 9 1 v l.length (encT l)

theorem rsplit_app (a b : Sp.Bytes) (h : 47 ∉ a) : Sp.split (a ++ 47 :: b) = a :: Sp.split b := by
  induction a with
  | nil => simp [Sp.split]
  | cons c a ih =>
    simp only [List.mem_cons, not_or] at h
    rw [List.cons_append]
    show (if c = 47 then [] :: Sp.split (a ++ 47 :: b) else _) = _
    rw [if_neg (fun e => h.1 e.symm), ih h.2]
theorem rsplit_one (a : Sp.Bytes) (h : 47 ∉ a) : Sp.split a = [a] := by
  induction a with
  | nil => rfl
  | cons c a ih =>
    simp only [List.mem_cons, not_or] at h
    show (if c = 47 then [] :: Sp.split a else _) = _
    rw [if_neg (fun e => h.1 e.symm), ih h.2]
/-- Between two rounds. -/
structure SplitI (w0 : World) (s : Sp.Bytes) (i from_ : Nat) (out : List Sp.Bytes) (v : Value) (w : World) : Prop where
  own : StrsA w0.heap.size w v out
  ext : Ext none_ w0 w
  le : i ≤ s.length + 1
  len : out.length ≤ i
  on : i ≤ s.length → from_ ≤ i ∧ Sp.split s = out ++ Sp.split (s.drop from_) ∧ 47 ∉ (s.drop from_).take (i - from_)
  off : i = s.length + 1 → out = Sp.split s

theorem drop_at {s : Sp.Bytes} {f i : Nat} {b : UInt8} (h : f ≤ i) (hb : s[i]? = some b) : s.drop f = (s.drop f).take (i - f) ++ b :: s.drop (i + 1) := by
  have h1 : s.drop f = (s.drop f).take (i - f) ++ (s.drop f).drop (i - f) := (List.take_append_drop _ _).symm
  have h2 : (s.drop f).drop (i - f) = s.drop i := by rw [List.drop_drop]; congr 1; omega
  have h3 : s.drop i = b :: s.drop (i + 1) := by
    obtain ⟨hi, rfl⟩ := List.getElem?_eq_some_iff.1 hb
    exact List.drop_eq_getElem_cons hi
  rw [h2, h3] at h1
  exact h1

/-- Is something wrong with a part? -/
def rbad (s : Sp.Bytes) : Bool := !decide (Sp.part s = 0)
def wrongB (c : UInt8) : Bool := c.toNat < 33 || 126 < c.toNat || c.toNat = 34 || c.toNat = 92 || c.toNat = 42 || c.toNat = 63 || c.toNat = 58
theorem wrong_right (c : UInt8) : wrongB c = !Sp.right c := by
  have h : ((List.range 256).all fun n => wrongB (UInt8.ofNat n) == !Sp.right (UInt8.ofNat n)) = true := by kernel_rfl
  have := List.all_eq_true.1 h c.toNat (List.mem_range.2 c.toNat_lt)
  simpa using this

/-- Glued, from before. -/
theorem glue_snoc (l : List Sp.Bytes) (x : Sp.Bytes) : Sp.glue (l ++ [x]) = if l = [] then x else Sp.glue l ++ 47 :: x := by
  induction l with
  | nil => rfl
  | cons y l ih =>
    rw [if_neg (by simp)]
    cases l with
    | nil => rfl
    | cons z l =>
      rw [if_neg (by simp)] at ih
      show y ++ 47 :: Sp.glue (z :: l ++ [x]) = (y ++ 47 :: Sp.glue (z :: l)) ++ 47 :: x
      rw [ih]; simp
theorem glue_take_len (l : List Sp.Bytes) (i : Nat) : (Sp.glue (l.take i)).length ≤ (Sp.glue l).length := by
  induction l generalizing i with
  | nil => simp
  | cons x l ih =>
    cases i with
    | zero => simp [Sp.glue]
    | succ i =>
      cases l with
      | nil => simp [Sp.glue]
      | cons y l =>
        rw [List.take_succ_cons]
        cases i with
        | zero => simp [Sp.glue]
        | succ i =>
          have := ih (i + 1)
          rw [List.take_succ_cons] at this ⊢
          simp only [Sp.glue, List.length_append, List.length_cons] at this ⊢
          omega

end Go.Proofs.YtmdpmpdlkaogdaaDoor

namespace Go.Proofs.YtmdpmpdlkaogdaaDoor
open Go Go.RowKit Vc

theorem part_cases (x : Sp.Bytes) : Sp.part x = 0 ∨ Sp.part x = 50 := by unfold Sp.part; split <;> (try split) <;> simp
theorem drop_sum (l : List Sp.Bytes) : (l.dropLast.map (fun x => x.length + 1)).sum ≤ (l.map (fun x => x.length + 1)).sum := by
  rw [List.dropLast_eq_take]
  conv => rhs; rw [← List.take_append_drop (l.length - 1) l]
  rw [List.map_append, List.sum_append]
  omega
theorem strsA_take {B : Nat} {w : World} {a : Option Addr} {c : Nat} {l : List Sp.Bytes} (h : StrsA B w (.slice a l.length c) l) : StrsA B w (.slice a (l.length - 1) c) l.dropLast := by
  have := own_take h (m := l.length - 1) (by omega)
  have e : (encT l).take ((l.length - 1) * 1) = encT l.dropLast := by simp [encT, List.dropLast_eq_take, List.map_take]
  rw [e] at this
  unfold StrsA
  rw [List.length_dropLast]; exact this

theorem parts_sum (p : Sp.Bytes) : ((Sp.parts p).map (fun x => x.length + 1)).sum ≤ p.length + 1 ∧ (Sp.parts p).length ≤ p.length + 1 := by
  unfold Sp.parts
  split
  · simp
  · rw [split_sum]; exact ⟨Nat.le_refl _, (split_len p).1⟩

end Go.Proofs.YtmdpmpdlkaogdaaDoor

namespace Go.Proofs.YtmdpmpdlkaogdaaDoor
namespace Tr

section generic
variable {α : Type}
theorem get_nil (k : Bytes) : get ([] : List (Bytes × α)) k = none := rfl
theorem get_cons (p : Bytes × α) (m : List (Bytes × α)) (k : Bytes) : get (p :: m) k = if p.1 = k then some p.2 else get m k := by
  unfold get
  rw [List.find?_cons]
  by_cases h : p.1 = k
  · simp [h]
  · have : (p.1 == k) = false := by simpa using h
    simp [this, h]
theorem get_map (m : List (Bytes × α)) (k j : Bytes) (v : α) : get (m.map fun p => if p.1 == k then (k, v) else p) j = if j = k then (get m k).map fun _ => v else get m j := by
  induction m with
  | nil => simp [get_nil]
  | cons p m ih =>
    rw [List.map_cons, get_cons, get_cons, get_cons, ih]
    by_cases hp : p.1 = k
    · have : (p.1 == k) = true := by simpa using hp
      simp only [if_true, hp]
      by_cases hj : j = k
      · simp [hj]
      · have : ¬ k = j := fun e => hj e.symm
        simp [hj, this]
    · have : (p.1 == k) = false := by simpa using hp
      simp only [this, Bool.false_eq_true, if_false, if_neg hp]
      by_cases hj : j = k
      · subst hj; simp [hp]
      · simp [hj]
theorem get_app (a b : List (Bytes × α)) (k : Bytes) : get (a ++ b) k = (get a k).or (get b k) := by
  induction a with
  | nil => simp [get_nil]
  | cons p a ih => rw [List.cons_append, get_cons, get_cons, ih]; split <;> rfl
theorem get_set (m : List (Bytes × α)) (k j : Bytes) (v : α) : get (set m k v) j = if j = k then some v else get m j := by
  unfold set
  split
  · rename_i h
    rw [get_map]
    by_cases hj : j = k
    · rw [if_pos hj, if_pos hj]
      cases hg : get m k with
      | none => rw [get_none] at hg; exact absurd (by simpa using h) hg
      | some x => rfl
    · rw [if_neg hj, if_neg hj]
  · rename_i h
    have hg : get m k = none := get_none.2 (by simpa using h)
    rw [get_app, get_cons, get_nil]
    by_cases hj : j = k
    · subst hj; simp [hg]
    · have : ¬ k = j := fun e => hj e.symm
      simp [hj, this]
theorem keys_set (m : List (Bytes × α)) (k : Bytes) (v : α) : (set m k v).map (·.1) = if k ∈ m.map (·.1) then m.map (·.1) else m.map (·.1) ++ [k] := by
  unfold set
  by_cases h : k ∈ m.map (·.1)
  · rw [if_pos (by simpa using h), if_pos h, List.map_map]
    refine List.map_congr_left fun p _ => ?_
    by_cases hp : p.1 = k
    · simp [hp]
    · simp [hp]
  · rw [if_neg (by simpa using h), if_neg h]; simp
theorem nodup_set {m : List (Bytes × α)} (k : Bytes) (v : α) (h : (m.map (·.1)).Nodup) : ((set m k v).map (·.1)).Nodup := by
  rw [keys_set]
  split
  · exact h
  · rename_i hk
    rw [List.nodup_append]
    exact ⟨h, by simp, fun a ha b hb => by simp at hb; subst hb; intro e; subst e; exact hk ha⟩
theorem mem_set {m : List (Bytes × α)} (hn : (m.map (·.1)).Nodup) (k : Bytes) (v : α) (p : Bytes × α) : p ∈ set m k v ↔ p = (k, v) ∨ (p ∈ m ∧ p.1 ≠ k) := by
  obtain ⟨j, x⟩ := p
  constructor
  · intro h
    have := mem_get (nodup_set k v hn) h
    rw [get_set] at this
    by_cases hj : j = k
    · rw [if_pos hj] at this; cases this; left; rw [hj]
    · rw [if_neg hj] at this; exact .inr ⟨get_mem this, hj⟩
  · rintro (h | ⟨h, hj⟩)
    · cases h; exact get_mem (by rw [get_set, if_pos rfl])
    · exact get_mem (by rw [get_set, if_neg hj]; exact mem_get hn h)
theorem get_del (m : List (Bytes × α)) (k j : Bytes) : get (del m k) j = if j = k then none else get m j := by
  unfold del
  induction m with
  | nil => simp [get_nil]
  | cons p m ih =>
    rw [List.filter_cons, get_cons]
    by_cases hp : p.1 = k
    · have : (!(p.1 == k)) = false := by simpa using hp
      rw [this, if_neg (by simp), ih]
      by_cases hj : j = k
      · simp [hj]
      · have : ¬ p.1 = j := fun e => hj (e ▸ hp)
        simp [hj, this]
    · have : (!(p.1 == k)) = true := by simpa using hp
      rw [this, if_pos rfl, get_cons, ih]
      by_cases hj : j = k
      · subst hj; simp [hp]
      · simp [hj]
theorem nodup_del {m : List (Bytes × α)} (k : Bytes) (h : (m.map (·.1)).Nodup) : ((del m k).map (·.1)).Nodup := (List.filter_sublist.map _).nodup h
theorem mem_del (m : List (Bytes × α)) (k : Bytes) (p : Bytes × α) : p ∈ del m k ↔ p ∈ m ∧ p.1 ≠ k := by simp [del]
theorem len_set (m : List (Bytes × α)) (k : Bytes) (v : α) : (set m k v).length = m.length + if (get m k).isSome then 0 else 1 := by
  have h := congrArg List.length (keys_set m k v)
  simp only [List.length_map] at h
  rw [h]
  cases hg : get m k with
  | none =>
    have := get_none.1 hg
    rw [if_neg this]; simp
  | some x =>
    have : k ∈ m.map (·.1) := List.mem_map.2 ⟨_, get_mem hg, rfl⟩
    rw [if_pos this]; simp
end generic

/-- The bytes at a path. -/
def old (m : T) (k : Bytes) : Nat := ((get m k).getD (true, [])).2.length
theorem size_cons (p : Bytes × Nd) (m : T) : size (p :: m) = p.2.2.length + size m := by simp [size]
theorem size_append (a b : T) : size (a ++ b) = size a + size b := by simp [size]
theorem size_set {m : T} (hn : (m.map (·.1)).Nodup) (k : Bytes) (x : Nd) : size (set m k x) + old m k = size m + x.2.length := by
  unfold set
  by_cases h : k ∈ m.map (·.1)
  · rw [if_pos (by simpa using h)]
    induction m with
    | nil => cases h
    | cons p m ih =>
      simp only [List.map_cons, List.nodup_cons] at hn
      rw [List.map_cons, size_cons, size_cons]
      unfold old
      rw [get_cons]
      by_cases hp : p.1 = k
      · have h1 : (m.map fun p => if p.1 == k then (k, x) else p) = m := by
          conv => rhs; rw [← List.map_id m]
          refine List.map_congr_left fun q hq => ?_
          have : q.1 ≠ k := fun e => hn.1 (by rw [hp, ← e]; exact List.mem_map.2 ⟨q, hq, rfl⟩)
          simp [this]
        rw [h1]
        simp [hp]; omega
      · have hm : k ∈ m.map (·.1) := by
          rw [List.map_cons, List.mem_cons] at h
          rcases h with h | h
          · exact absurd h.symm hp
          · exact h
        have := ih hn.2 hm
        have hb : (p.1 == k) = false := by simpa using hp
        simp only [hb, Bool.false_eq_true, if_false, if_neg hp]
        unfold old at this
        omega
  · rw [if_neg (by simpa using h), size_append]
    simp [old, get_none.2 h, size]
theorem size_del {m : T} (hn : (m.map (·.1)).Nodup) (k : Bytes) : size (del m k) + old m k = size m := by
  unfold del
  induction m with
  | nil => simp [size, old, get_nil]
  | cons p m ih =>
    simp only [List.map_cons, List.nodup_cons] at hn
    unfold old
    rw [List.filter_cons, size_cons, get_cons]
    by_cases hp : p.1 = k
    · have h1 : List.filter (fun p => !(p.1 == k)) m = m := List.filter_eq_self.2 fun q hq => by
        have : q.1 ≠ k := fun e => hn.1 (by rw [hp, ← e]; exact List.mem_map.2 ⟨q, hq, rfl⟩)
        simpa using this
      have : (!(p.1 == k)) = false := by simpa using hp
      rw [this, if_neg (by simp), h1, if_pos hp]
      simp; omega
    · have : (!(p.1 == k)) = true := by simpa using hp
      rw [this, if_pos rfl, size_cons, if_neg hp]
      have := ih hn.2
      unfold old at this
      omega

theorem make_nil (m : T) : make m [] = m := rfl
theorem make_cons (m : T) (d : Bytes) (l : List Bytes) : make m (d :: l) = make (set m d (true, [])) l := rfl
theorem make_snoc (m : T) (d : Bytes) (l : List Bytes) : make m (l ++ [d]) = set (make m l) d (true, []) := by simp [make]
theorem get_make (l : List Bytes) : ∀ (m : T) (j : Bytes), get (make m l) j = if j ∈ l then some (true, []) else get m j := by
  induction l with
  | nil => intro m j; simp [make_nil]
  | cons d l ih =>
    intro m j
    rw [make_cons, ih, get_set]
    by_cases h1 : j ∈ l
    · simp [h1]
    · by_cases h2 : j = d
      · simp [h2]
      · simp [h1, h2]
theorem nodup_make (l : List Bytes) : ∀ {m : T}, (m.map (·.1)).Nodup → ((make m l).map (·.1)).Nodup := by
  induction l with
  | nil => intro m h; exact h
  | cons d l ih => intro m h; exact ih (nodup_set _ _ h)
theorem size_make (l : List Bytes) : ∀ {m : T}, (m.map (·.1)).Nodup → l.Nodup → (∀ d ∈ l, get m d = none) → size (make m l) = size m := by
  induction l with
  | nil => intro m _ _ _; rfl
  | cons d l ih =>
    intro m hn hl hg
    rw [make_cons, ih (nodup_set _ _ hn) (List.nodup_cons.1 hl).2]
    · have := size_set hn d (true, [])
      simp only [old, hg d (by simp), Option.getD_none, List.length_nil] at this
      omega
    · intro e he
      have hne : e ≠ d := fun h => (List.nodup_cons.1 hl).1 (h ▸ he)
      rw [get_set, if_neg hne]
      exact hg e (by simp [he])
theorem len_make (l : List Bytes) : ∀ {m : T}, l.Nodup → (∀ d ∈ l, get m d = none) → (make m l).length = m.length + l.length := by
  induction l with
  | nil => intro m _ _; rfl
  | cons d l ih =>
    intro m hl hg
    rw [make_cons, ih (List.nodup_cons.1 hl).2, len_set, hg d (by simp)]
    · simp; omega
    · intro e he
      have hne : e ≠ d := fun h => (List.nodup_cons.1 hl).1 (h ▸ he)
      rw [get_set, if_neg hne]
      exact hg e (by simp [he])

theorem aheadF_spec (m : T) : ∀ (n : Nat) (d : Bytes) (l : List Bytes), aheadF m n d = some l → (∀ e ∈ l, get m e = none ∧ e ≠ [] ∧ e.length ≤ d.length) ∧ l.Nodup := by
  intro n
  induction n with
  | zero => intro d l h; cases h; simp
  | succ n ih =>
    intro d l h
    unfold aheadF at h
    by_cases h0 : d = []
    · rw [if_pos h0] at h; cases h; simp
    · rw [if_neg h0] at h
      have hlt := parent_lt h0
      cases hg : get m d with
      | none =>
        rw [hg] at h
        cases hr : aheadF m n (Sp.parent d) with
        | none => rw [hr] at h; cases h
        | some r =>
          rw [hr] at h
          simp only [Option.map_some, Option.some.injEq] at h
          subst h
          obtain ⟨h1, h2⟩ := ih _ _ hr
          refine ⟨fun e he => ?_, List.nodup_cons.2 ⟨fun hm => ?_, h2⟩⟩
          · rcases List.mem_cons.1 he with rfl | he
            · exact ⟨hg, h0, Nat.le_refl _⟩
            · obtain ⟨a, b, c⟩ := h1 e he; exact ⟨a, b, by omega⟩
          · have := (h1 d hm).2.2; omega
      | some x =>
        rw [hg] at h
        simp only at h
        split at h
        · obtain ⟨h1, h2⟩ := ih _ _ h
          exact ⟨fun e he => by obtain ⟨a, b, c⟩ := h1 e he; exact ⟨a, b, by omega⟩, h2⟩
        · cases h
theorem ahead_spec {m : T} {p : Bytes} {l : List Bytes} (h : ahead m p = some l) : (∀ e ∈ l, get m e = none ∧ e ≠ [] ∧ (p ≠ [] → e.length < p.length)) ∧ l.Nodup := by
  obtain ⟨h1, h2⟩ := aheadF_spec m _ _ _ h
  refine ⟨fun e he => ?_, h2⟩
  obtain ⟨a, b, c⟩ := h1 e he
  exact ⟨a, b, fun hp => by have := parent_lt hp; omega⟩
/-- A file or directory put behind the directories that lack. -/
theorem size_put {m : T} {p : Bytes} {l : List Bytes} (hn : (m.map (·.1)).Nodup) (h : ahead m p = some l) (hp : p ≠ []) (x : Nd) : size (set (make m l) p x) + old m p = size m + x.2.length := by
  obtain ⟨h1, h2⟩ := ahead_spec h
  have := size_set (nodup_make l hn) p x
  rw [size_make l hn h2 (fun d hd => (h1 d hd).1)] at this
  have hpl : p ∉ l := fun hm => by have := (h1 p hm).2.2 hp; omega
  unfold old at this ⊢
  rwa [get_make, if_neg hpl] at this
theorem ahead_len {m : T} {p : Bytes} {l : List Bytes} (h : ahead m p = some l) : l.length ≤ p.length := by
  have : ∀ (n : Nat) (d : Bytes) (l : List Bytes), aheadF m n d = some l → l.length ≤ n := by
    intro n
    induction n with
    | zero => intro d l h; cases h; simp
    | succ n ih =>
      intro d l h
      unfold aheadF at h
      split at h
      · cases h; simp
      · split at h
        · cases hr : aheadF m n (Sp.parent d) with
          | none => rw [hr] at h; cases h
          | some r => rw [hr] at h; cases h; have := ih _ _ hr; simp; omega
        · split at h
          · have := ih _ _ h; omega
          · cases h
  exact this _ _ _ h

-- the order of paths
theorem le_tot (a b : Bytes) : (decide (a ≤ b) || decide (b ≤ a)) = true := by
  simp only [Bool.or_eq_true, decide_eq_true_eq]; exact List.le_total a b
theorem le_tr (a b c : Bytes) (h : decide (a ≤ b) = true) (k : decide (b ≤ c) = true) : decide (a ≤ c) = true := by
  simp only [decide_eq_true_eq] at *; exact List.le_trans h k
theorem le_as (a b : Bytes) (h : decide (a ≤ b) = true) (k : decide (b ≤ a) = true) : a = b := by
  simp only [decide_eq_true_eq] at *; exact List.le_antisymm h k
theorem sort_perm {a b : List Bytes} (h : a.Perm b) : sort a = sort b :=
  List.Perm.eq_of_pairwise (fun x y _ _ h k => le_as x y h k) (List.pairwise_mergeSort le_tr le_tot a) (List.pairwise_mergeSort le_tr le_tot b) ((List.mergeSort_perm a _).trans (h.trans (List.mergeSort_perm b _).symm))
theorem mem_sort {l : List Bytes} {k : Bytes} : k ∈ sort l ↔ k ∈ l := (List.mergeSort_perm l _).mem_iff
theorem nodup_sort {l : List Bytes} (h : l.Nodup) : (sort l).Nodup := (List.mergeSort_perm l _).nodup_iff.2 h
theorem mem_below {m : T} {p k : Bytes} : k ∈ below m p ↔ k ∈ m.map (·.1) ∧ Sp.within k p = true := by
  unfold below; rw [mem_sort, List.mem_filter]
theorem nodup_below {m : T} {p : Bytes} (h : (m.map (·.1)).Nodup) : (below m p).Nodup := nodup_sort (List.filter_sublist.nodup h)
theorem len_below (m : T) (p : Bytes) : (below m p).length ≤ m.length := by
  unfold below sort
  rw [List.length_mergeSort]
  have := List.length_filter_le (fun k => Sp.within k p) (m.map (·.1))
  simpa using this
end Tr
end Go.Proofs.YtmdpmpdlkaogdaaDoor

namespace Go.Proofs.YtmdpmpdlkaogdaaDoor
namespace Sp

/-- A part that stays. -/
def good (x : Bytes) : Prop := x ≠ [] ∧ x ≠ [46] ∧ x ≠ [46, 46] ∧ part x = 0 ∧ 47 ∉ x
def Goods (l : List Bytes) : Prop := ∀ x ∈ l, good x
theorem Goods.nil : Goods [] := fun _ h => by cases h
theorem Goods.app {a b : List Bytes} (h : Goods a) (k : Goods b) : Goods (a ++ b) := fun x hx => (List.mem_append.1 hx).elim (h x) (k x)
theorem Goods.left {a b : List Bytes} (h : Goods (a ++ b)) : Goods a := fun x hx => h x (List.mem_append.2 (.inl hx))
theorem Goods.right {a b : List Bytes} (h : Goods (a ++ b)) : Goods b := fun x hx => h x (List.mem_append.2 (.inr hx))

theorem split_ne (s : Bytes) : Sp.split s ≠ [] := by
  cases s with
  | nil => simp [Sp.split]
  | cons c s =>
    unfold Sp.split
    split
    · simp
    · split <;> simp
theorem split_no (s : Bytes) : ∀ x ∈ Sp.split s, 47 ∉ x := by
  induction s with
  | nil => simp [Sp.split]
  | cons c s ih =>
    unfold Sp.split
    split
    · intro x hx
      rcases List.mem_cons.1 hx with rfl | hx
      · simp
      · exact ih x hx
    · rename_i hc
      split
      · rename_i y l h
        rw [h] at ih
        intro x hx
        rcases List.mem_cons.1 hx with rfl | hx
        · have := ih y (by simp)
          simp only [List.mem_cons, not_or]
          exact ⟨fun e => hc e.symm, this⟩
        · exact ih x (by simp [hx])
      · intro x hx
        simp only [List.mem_cons, List.not_mem_nil, or_false] at hx
        subst hx
        simp only [List.mem_cons, List.not_mem_nil, or_false]
        exact fun e => hc e.symm
theorem split_cons (c : UInt8) (s : Bytes) : Sp.split (c :: s) = if c = 47 then [] :: Sp.split s else match Sp.split s with | x :: l => (c :: x) :: l | [] => [[c]] := rfl
theorem split_app (a b : Bytes) : Sp.split (a ++ 47 :: b) = Sp.split a ++ Sp.split b := by
  induction a with
  | nil => simp [Sp.split]
  | cons c a ih =>
    rw [List.cons_append, split_cons, split_cons c a]
    by_cases hc : c = 47
    · rw [if_pos hc, if_pos hc, ih]; rfl
    · rw [if_neg hc, if_neg hc, ih]
      cases h : Sp.split a with
      | nil => exact absurd h (split_ne a)
      | cons x l => rfl
theorem split_one {x : Bytes} (h : 47 ∉ x) : Sp.split x = [x] := by
  induction x with
  | nil => rfl
  | cons c x ih =>
    simp only [List.mem_cons, not_or] at h
    unfold Sp.split
    rw [if_neg (fun e => h.1 e.symm), ih h.2]
theorem split_glue {l : List Bytes} (h0 : l ≠ []) (h : ∀ x ∈ l, 47 ∉ x) : Sp.split (glue l) = l := by
  induction l with
  | nil => exact absurd rfl h0
  | cons x l ih =>
    cases l with
    | nil => exact split_one (h x (by simp))
    | cons y l =>
      show Sp.split (x ++ 47 :: glue (y :: l)) = _
      rw [split_app, split_one (h x (by simp)), ih (by simp) (fun z hz => h z (by simp only [List.mem_cons] at hz ⊢; exact .inr hz))]
      rfl
theorem Goods.no {l : List Bytes} (h : Goods l) : ∀ x ∈ l, 47 ∉ x := fun x hx => (h x hx).2.2.2.2
theorem glue_app {l t : List Bytes} (h : l ≠ []) (k : t ≠ []) : glue (l ++ t) = glue l ++ 47 :: glue t := by
  induction l with
  | nil => exact absurd rfl h
  | cons x l ih =>
    cases l with
    | nil =>
      cases t with
      | nil => exact absurd rfl k
      | cons y t => rfl
    | cons y l =>
      have := ih (by simp)
      show x ++ 47 :: glue (y :: l ++ t) = (x ++ 47 :: glue (y :: l)) ++ 47 :: glue t
      rw [this]; simp
theorem glue_ne {l : List Bytes} (h : Goods l) (h0 : l ≠ []) : glue l ≠ [] := by
  cases l with
  | nil => exact absurd rfl h0
  | cons x l =>
    have hx := (h x (by simp)).1
    cases l with
    | nil => exact hx
    | cons y l => show x ++ 47 :: _ ≠ []; simp
theorem glue_inj {l k : List Bytes} (h : Goods l) (g : Goods k) (e : glue l = glue k) : l = k := by
  by_cases hl : l = []
  · by_cases hk : k = []
    · rw [hl, hk]
    · rw [hl] at e; exact absurd e.symm (glue_ne g hk)
  · by_cases hk : k = []
    · rw [hk] at e; exact absurd e (glue_ne h hl)
    · rw [← split_glue hl h.no, e, split_glue hk g.no]
theorem glue_len1 {l : List Bytes} (h : l ≠ []) : (glue l).length + 1 = (l.map (fun x => x.length + 1)).sum := by
  induction l with
  | nil => exact absurd rfl h
  | cons x l ih =>
    cases l with
    | nil => simp [glue]
    | cons y l =>
      have := ih (by simp)
      have e : glue (x :: y :: l) = x ++ 47 :: glue (y :: l) := rfl
      rw [e, List.map_cons, List.sum_cons, ← this]
      simp only [List.length_append, List.length_cons]; omega
theorem walk_goods (stay : Nat) : ∀ (xs l : List Bytes), Goods xs → walk stay l xs = if 12 < l.length + xs.length then ([], 50) else (l ++ xs, 0) := by
  intro xs
  induction xs with
  | nil => intro l _; simp [walk]
  | cons x xs ih =>
    intro l h
    obtain ⟨h1, h2, h3, h4, -⟩ := h x (by simp)
    rw [walk_part h1 h2 h3 h4, ih _ (fun y hy => h y (List.mem_cons_of_mem _ hy))]
    simp only [List.length_append, List.length_cons, List.length_nil, List.append_assoc, List.cons_append, List.nil_append]
    rw [show l.length + (0 + 1) + xs.length = l.length + (xs.length + 1) by omega]
theorem walk_ok : ∀ (xs l : List Bytes), (∀ x ∈ xs, 47 ∉ x) → Goods l → (walk 0 l xs).2 = 0 → Goods (walk 0 l xs).1 ∧ (walk 0 l xs).1.length ≤ 12 := by
  intro xs
  induction xs with
  | nil =>
    intro l _ h
    unfold walk
    split
    · intro e; cases e
    · intro _; exact ⟨h, by dsimp only; omega⟩
  | cons x xs ih =>
    intro l hx h
    have hxs : ∀ y ∈ xs, 47 ∉ y := fun y hy => hx y (List.mem_cons_of_mem _ hy)
    unfold walk
    split
    · exact ih l hxs h
    · rename_i h1
      split
      · exact ih l hxs h
      · rename_i h2
        split
        · split
          · intro e; cases e
          · exact ih _ hxs fun y hy => h y (List.dropLast_subset l hy)
        · rename_i h3
          split
          · rename_i h4
            exact ih _ hxs (h.app fun y hy => by
              simp only [List.mem_cons, List.not_mem_nil, or_false] at hy
              subst hy
              exact ⟨h1, h2, h3, h4, hx _ (by simp)⟩)
          · rename_i h4
            intro e; exact absurd e h4

/-- A path in its one form. -/
def Cl (p : Bytes) : Prop := ∃ l, p = glue l ∧ Goods l ∧ l.length ≤ 12 ∧ p.length ≤ 200
theorem clean_glue {l : List Bytes} (h : Goods l) : clean (glue l) = if 200 < (glue l).length ∨ 12 < l.length then ([], 50) else (glue l, 0) := by
  by_cases h1 : 200 < (glue l).length
  · rw [clean_long h1, if_pos (.inl h1)]
  · have hh : (glue l).head? ≠ some 47 := by
      cases l with
      | nil => simp [glue]
      | cons x l =>
        obtain ⟨hx, -, -, -, h5⟩ := h x (by simp)
        cases x with
        | nil => exact absurd rfl hx
        | cons c x =>
          have hc : c ≠ 47 := fun e => h5 (by simp [e])
          cases l with
          | nil => simpa [glue] using hc
          | cons y l => simpa [glue] using hc
    rw [clean_walk h1 hh]
    by_cases h0 : l = []
    · subst h0; rfl
    · rw [split_glue h0 h.no, walk_goods 0 l [] h]
      simp only [List.length_nil, Nat.zero_add, List.nil_append]
      by_cases h2 : 12 < l.length
      · have e : ¬ (50 : Int) = 0 := by decide
        simp [h2, e]
      · have e : ¬ (200 < (glue l).length ∨ 12 < l.length) := by omega
        rw [if_neg e]; simp [h2]
theorem Cl.clean {p : Bytes} (h : Cl p) : clean p = (p, 0) := by
  obtain ⟨l, rfl, h1, h2, h3⟩ := h
  rw [clean_glue h1, if_neg (by omega)]
theorem clean_cl {s : Bytes} (h : (Sp.clean s).2 = 0) : Cl (Sp.clean s).1 := by
  by_cases h1 : 200 < s.length
  · rw [clean_long h1] at h; cases h
  · by_cases hs : s.head? = some 47
    · rw [clean_abs h1 hs] at h; cases h
    · rw [clean_walk h1 hs] at h ⊢
      split at h
      · rename_i he
        rw [if_pos he]
        obtain ⟨g1, g2⟩ := walk_ok (Sp.split s) [] (split_no s) Goods.nil he
        refine ⟨_, rfl, g1, g2, ?_⟩
        dsimp only
        by_cases h0 : (walk 0 [] (Sp.split s)).1 = []
        · rw [h0]; simp [glue]
        · have a := glue_len1 h0
          have b := (walk_bd 0 (Sp.split s) []).1
          have c := split_sum s
          simp only [List.map_nil, List.sum_nil, Nat.zero_add] at b
          omega
      · rename_i he; exact absurd h he
theorem Cl.of {p : Bytes} (h : Sp.clean p = (p, 0)) : Cl p := by
  have := clean_cl (s := p) (by rw [h])
  rwa [h] at this
theorem Cl.nil : Cl [] := ⟨[], rfl, Goods.nil, by simp, by simp⟩

theorem last_app (a x : Bytes) (h : 47 ∉ x) : lastSlash (a ++ 47 :: x) = a.length := by
  have h0 : lastSlash x = -1 := by
    rcases lastSlash_spec x with ⟨e, -⟩ | ⟨i, -, ⟨hi, e⟩, -⟩
    · exact e
    · exact absurd (e ▸ List.getElem_mem hi) h
  induction a with
  | nil => simp [lastSlash, h0]
  | cons c a ih =>
    rw [List.cons_append]
    unfold lastSlash
    simp only [ih, List.length_cons]
    rw [if_pos (by omega)]; omega
theorem parent_glue {l : List Bytes} {x : Bytes} (h : 47 ∉ x) : parent (glue (l ++ [x])) = glue l := by
  by_cases h0 : l = []
  · subst h0
    show parent x = []
    unfold parent
    have h0 : lastSlash x = -1 := by
      rcases lastSlash_spec x with ⟨e, -⟩ | ⟨i, -, ⟨hi, e⟩, -⟩
      · exact e
      · exact absurd (e ▸ List.getElem_mem hi) h
    rw [h0]; rfl
  · rw [glue_app h0 (by simp)]
    unfold parent
    rw [show glue [x] = x from rfl, last_app _ _ h]
    have : (max ((glue l).length : Int) 0).toNat = (glue l).length := by omega
    rw [this, List.take_left']
    rfl
theorem snoc_of {α : Type} {l : List α} (h : l ≠ []) : ∃ k x, l = k ++ [x] := ⟨l.dropLast, l.getLast h, (List.dropLast_concat_getLast h).symm⟩
theorem Cl.parts {p : Bytes} (h : Cl p) (h0 : p ≠ []) : ∃ l x, p = glue (l ++ [x]) ∧ Goods (l ++ [x]) ∧ l.length < 12 ∧ parent p = glue l ∧ p.length ≤ 200 := by
  obtain ⟨l, rfl, h1, h2, h3⟩ := h
  have hl : l ≠ [] := fun e => h0 (by rw [e]; rfl)
  obtain ⟨k, x, rfl⟩ := snoc_of hl
  refine ⟨k, x, rfl, h1, by simp at h2; omega, parent_glue (h1 x (by simp)).2.2.2.2, h3⟩
theorem Cl.up {p : Bytes} (h : Cl p) : Cl (parent p) := by
  by_cases h0 : p = []
  · subst h0; exact Cl.nil
  · obtain ⟨l, x, rfl, h1, h2, h3, h4⟩ := h.parts h0
    rw [h3]
    refine ⟨l, rfl, h1.left, by omega, ?_⟩
    have := parent_le (glue (l ++ [x]))
    rw [h3] at this; omega
theorem within_glue {k d : List Bytes} (hk : Goods k) (hd : Goods d) : within (glue k) (glue d) = true ↔ d <+: k := by
  constructor
  · intro h
    unfold within at h
    simp only [Bool.or_eq_true, beq_iff_eq] at h
    rcases h with (h | h) | h
    · by_cases h0 : d = []
      · subst h0; exact List.nil_prefix
      · exact absurd h (glue_ne hd h0)
    · rw [glue_inj hk hd h]; exact List.prefix_refl _
    · by_cases h0 : d = []
      · subst h0; exact List.nil_prefix
      · obtain ⟨r, hr⟩ := List.isPrefixOf_iff_prefix.1 h
        have hr' : glue k = glue d ++ 47 :: r := by rw [← hr]; simp
        have hk0 : k ≠ [] := by intro e; subst e; simp [glue] at hr'
        have := congrArg Sp.split hr'
        rw [split_glue hk0 hk.no, split_app, split_glue h0 hd.no] at this
        exact ⟨_, this.symm⟩
  · rintro ⟨t, rfl⟩
    unfold within
    simp only [Bool.or_eq_true, beq_iff_eq]
    by_cases h0 : d = []
    · subst h0; exact .inl (.inl rfl)
    · by_cases ht : t = []
      · subst ht; exact .inl (.inr (by simp))
      · refine .inr (List.isPrefixOf_iff_prefix.2 ?_)
        rw [glue_app h0 ht]
        exact ⟨glue t, by simp⟩
theorem within_refl (p : Bytes) : within p p = true := by simp [within]
theorem within_trans {a b c : Bytes} (ha : Cl a) (hb : Cl b) (hc : Cl c) (h : within a b = true) (g : within b c = true) : within a c = true := by
  obtain ⟨la, rfl, ga, -⟩ := ha
  obtain ⟨lb, rfl, gb, -⟩ := hb
  obtain ⟨lc, rfl, gc, -⟩ := hc
  rw [within_glue ga gb] at h
  rw [within_glue gb gc] at g
  exact (within_glue ga gc).2 (g.trans h)
theorem within_parent {p : Bytes} (h : Cl p) : within p (parent p) = true := by
  by_cases h0 : p = []
  · subst h0; rfl
  · obtain ⟨l, x, rfl, h1, -, h3, -⟩ := h.parts h0
    rw [h3, within_glue h1 h1.left]
    exact List.prefix_append _ _
/-- Below d, and not d itself: its parent is at or below d. -/
theorem within_up {p d : Bytes} (hp : Cl p) (hd : Cl d) (h : within p d = true) (hne : p ≠ d) : within (parent p) d = true := by
  by_cases h0 : p = []
  · subst h0
    obtain ⟨l, rfl, g, -⟩ := hd
    have := (within_glue Goods.nil g).1 h
    rw [List.prefix_nil] at this
    subst this
    exact absurd rfl hne
  · obtain ⟨l, x, rfl, h1, -, h3, -⟩ := hp.parts h0
    obtain ⟨k, rfl, g, -⟩ := hd
    rw [within_glue h1 g] at h
    rw [h3, within_glue h1.left g]
    rcases List.prefix_concat_iff.1 h with e | e
    · subst e; exact absurd rfl hne
    · exact e
/-- What a path is told under another one. -/
def moved (n : Nat) (q k : Bytes) : Bytes := q ++ k.drop n
theorem moved_glue {lp lq t : List Bytes} (hp : lp ≠ []) (hq : lq ≠ []) : moved (glue lp).length (glue lq) (glue (lp ++ t)) = glue (lq ++ t) := by
  unfold moved
  by_cases ht : t = []
  · subst ht; simp
  · rw [glue_app hp ht, glue_app hq ht, List.drop_left]
end Sp
end Go.Proofs.YtmdpmpdlkaogdaaDoor

namespace Go.Proofs.YtmdpmpdlkaogdaaDoor
open Go Go.RowKit Vc
variable {A : Nat → Prop}

theorem ok_put : FnOk P 42 := ⟨_, Tryd.func42, by kernel_rfl, by kernel_rfl⟩

theorem glue_len32 (l : List Sp.Bytes) (h : ∀ x ∈ l, x.length ≤ 32) : (Sp.glue l).length ≤ l.length * 33 := by
  induction l with
  | nil => simp [Sp.glue]
  | cons x l ih =>
    have hx := h x (by simp)
    have := ih fun y hy => h y (by simp [hy])
    cases l with
    | nil => simp [Sp.glue]; omega
    | cons y l => simp [Sp.glue] at this ⊢; omega
theorem walk_spec (stay : Nat) : ∀ (xs l : List Sp.Bytes), (∀ x ∈ l, x.length ≤ 32) → (∀ x ∈ (Sp.walk stay l xs).1, x.length ≤ 32) ∧ (Sp.walk stay l xs).1.length ≤ 12 := by
  intro xs
  induction xs with
  | nil =>
    intro l h
    unfold Sp.walk
    split
    · simp
    · exact ⟨h, by dsimp only; omega⟩
  | cons x xs ih =>
    intro l h
    unfold Sp.walk
    split
    · exact ih l h
    · split
      · exact ih l h
      · split
        · split
          · simp
          · exact ih _ fun y hy => h y (List.dropLast_subset l hy)
        · split
          · rename_i hp
            refine ih _ fun y hy => ?_
            rcases List.mem_append.1 hy with hy | hy
            · exact h y hy
            · simp at hy
              subst hy
              unfold Sp.part at hp
              split at hp
              · cases hp
              · omega
          · simp
theorem clean_len (s : Sp.Bytes) : (Sp.clean s).1.length ≤ 396 := by
  by_cases h : 200 < s.length
  · rw [clean_long h]; simp
  · by_cases hs : s.head? = some 47
    · rw [clean_abs h hs]; simp
    · rw [clean_walk h hs]
      split
      · have h := walk_spec 0 (Sp.split s) [] (by simp)
        have := glue_len32 _ h.1
        have := h.2
        dsimp only
        omega
      · simp

/-- A tree within its bounds. -/
structure Tree (A : Nat → Prop) (w : World) (bt bm : Nat) (m : Tr.T) : Prop where
  at_ : TreeAt A w bt bm m (Tr.size m)
  len : m.length ≤ 500
  bytes : Tr.size m ≤ 1048576
theorem Tree.ext0 {w w' : World} {bt bm : Nat} {m : Tr.T} (h : Tree A w bt bm m) (hx : Ext none_ w w') : Tree A w' bt bm m := ⟨h.at_.ext0 hx, h.len, h.bytes⟩
theorem old_le (m : Tr.T) (k : Tr.Bytes) : Tr.old m k ≤ Tr.size m := by
  unfold Tr.old
  cases h : Tr.get m k with
  | none => simp
  | some x =>
    have := Tr.get_mem h
    simp only [Option.getD_some]
    have h2 : x.2.length ∈ m.map (·.2.2.length) := List.mem_map.2 ⟨_, this, rfl⟩
    unfold Tr.size
    clear h this
    generalize m.map (·.2.2.length) = L at h2
    induction L with
    | nil => cases h2
    | cons a l ih =>
      simp only [List.sum_cons]
      rcases List.mem_cons.1 h2 with h | h
      · omega
      · have := ih h; omega

theorem put_err {m : Tr.T} {s b : Tr.Bytes} {more : Bool} (h : (Sp.clean s).2 ≠ 0) : Tr.put m s b more = (m, (Sp.clean s).2) := by unfold Tr.put; rw [if_pos h]
theorem put_dir {m : Tr.T} {s b : Tr.Bytes} {more : Bool} {x : Tr.Nd} (h : ¬ (Sp.clean s).2 ≠ 0) (hx : Tr.at_ m (Sp.clean s).1 = some x) (hd : x.1 = true) : Tr.put m s b more = (m, 54) := by
  unfold Tr.put; rw [if_neg h]; simp only [hx, hd, if_true]
theorem put_kind {m : Tr.T} {s b : Tr.Bytes} {more : Bool} (h : ¬ (Sp.clean s).2 ≠ 0) (ha : Tr.ahead m (Sp.clean s).1 = none) : Tr.put m s b more = (m, 54) := by
  unfold Tr.put; rw [if_neg h]
  dsimp only
  cases Tr.at_ m (Sp.clean s).1 with
  | none => simp only [ha]
  | some x => simp only [ha]; split <;> rfl
/-- What is to be written, and how many are new. -/
def putB (ox : Option Tr.Nd) (b : Tr.Bytes) (more : Bool) : Tr.Bytes := match ox with | some x => if more then x.2 ++ b else b | none => b
def putN (ox : Option Tr.Nd) (lack : List Tr.Bytes) : Nat := match ox with | some _ => 0 | none => lack.length + 1
theorem put_ok {m : Tr.T} {s b : Tr.Bytes} {more : Bool} {ox : Option Tr.Nd} {lack : List Tr.Bytes} (h : ¬ (Sp.clean s).2 ≠ 0) (hx : Tr.at_ m (Sp.clean s).1 = ox) (hd : ∀ x, ox = some x → x.1 = false) (ha : Tr.ahead m (Sp.clean s).1 = some lack) :
    (Sp.clean s).1 ≠ [] ∧ Tr.put m s b more = if 65536 < (putB ox b more).length ∨ Tr.room m (putN ox lack) (((putB ox b more).length : Int) - Tr.old m (Sp.clean s).1) = false then (m, 55) else (Tr.set (Tr.make m lack) (Sp.clean s).1 (false, putB ox b more), 0) := by
  have hp : (Sp.clean s).1 ≠ [] := by
    intro e
    rw [e] at hx
    simp [Tr.at_] at hx
    have := hd _ hx.symm
    cases this
  refine ⟨hp, ?_⟩
  have hg : Tr.get m (Sp.clean s).1 = ox := by unfold Tr.at_ at hx; rwa [if_neg hp] at hx
  unfold Tr.put
  rw [if_neg h]
  dsimp only
  cases ox with
  | none =>
    simp only [hx, ha, putB, putN, Tr.old, hg, Option.getD_none, List.length_nil, Int.natCast_add, Int.natCast_zero, Int.sub_zero]
    rfl
  | some x =>
    have hx1 := hd x rfl
    simp only [hx, ha, putB, putN, Tr.old, hg, Option.getD_some, hx1, Bool.false_eq_true, if_false]
    rfl

theorem c_put {w : World} {bt bm : Nat} {m : Tr.T} {bv : Value} {b : Tr.Bytes} (s : Tr.Bytes) (more : Bool) (ht : Tree A w bt bm m) (hb : BytA w bv b) (hbl : b.length ≤ 100000000) :
    Calls P 42 #[pT bt, .string (S s), bv, .bool more] w fun e w' => e = .returned (.int .i64 (Tr.put m s b more).2) ∧ TreeAt A w' bt bm (Tr.put m s b more).1 (Tr.size (Tr.put m s b more).1) ∧ Ext (Two bt bm) w w' := by
  have hm1 := ht.len
  have hm2 := ht.bytes
  refine enter (l := [_, _, _, _]) (n := 96) Tryd.func42 rfl rfl rfl ?_
  refine W.seq ?_
  refine W.reg <| asg rfl rfl <| L.nil ?_
  refine N.th ?_
  refine W.seq ?_
  refine W.reg <| mv rfl rfl <| call (vs := [_]) rfl rfl ok_Clean (c_Clean s w) ?_
  rintro e w1 ⟨rfl, hx1⟩
  refine ⟨_, rfl, ?_⟩
  have hcl := clean_len s
  refine mv rfl rfl <| ext rfl rfl rfl <| ext rfl rfl rfl <| asg rfl rfl <| asg rfl rfl <| L.nil ?_
  refine N.th ?_
  refine W.seq ?_
  refine W.seq ?_
  refine W.reg <| mv rfl rfl <| neqI rfl rfl rfl <| L.nil ?_
  refine N.th ?_
  refine W.cond rfl (fun h => ?_) (fun h => ?_)
  · refine W.seq ?_
    refine W.reg <| mv rfl rfl <| asg rfl rfl <| L.nil ?_
    refine N.th ?_
    refine W.ret ?_
    refine N.rth ?_
    refine N.ret1 rfl rfl ?_   -- RETURN
    have h0 : (Sp.clean s).2 ≠ 0 := by simpa using h
    rw [put_err h0]
    exact ⟨rfl, ht.at_.ext0 hx1, hx1.none⟩
  have h0 : ¬ (Sp.clean s).2 ≠ 0 := by simpa using h
  refine W.skip ?_
  refine N.th ?_
  refine W.seq ?_
  have hT1 := ht.at_.ext0 hx1
  refine W.reg <| mv rfl rfl <| mv rfl rfl <| call (vs := [_, _]) rfl rfl ok_at (c_at (Sp.clean s).1 hT1) ?_
  rintro e w2 ⟨v, rfl, hv, hx2⟩
  refine ⟨_, rfl, ?_⟩
  refine asg rfl rfl <| L.nil ?_
  refine N.th ?_
  obtain ⟨ox, hox⟩ : ∃ ox, Tr.at_ m (Sp.clean s).1 = ox := ⟨_, rfl⟩
  rw [hox] at hv
  refine W.seqM (fun E w' => E = [(0, pT bt), (1, .string (S (Sp.clean s).1)), (2, bv), (3, .bool more), (10, v)] ∧ w' = w2 ∧ ∀ x, ox = some x → x.1 = false) ?_ ?_   -- CUT
  · refine W.seq ?_
    cases ox with
    | none =>
      obtain rfl : v = .pointer none := hv
      refine W.reg <| mv rfl rfl <| neqPN rfl u_pNode rfl <| mv rfl rfl <| L.off rfl rfl rfl rfl rfl <| L.off rfl rfl rfl rfl rfl <| L.off rfl rfl rfl rfl rfl <| L.off rfl rfl rfl rfl rfl <| pickF rfl rfl rfl <| L.nil ?_
      refine N.th ?_
      refine W.condF rfl ?_
      refine W.skip ?_
      exact N.th (N.meet [(0, _), (1, _), (2, _), (3, _), (10, _)] ⟨rfl, rfl, rfl, rfl, rfl, trivial⟩ ⟨rfl, rfl, fun x h => by cases h⟩)   -- MEET
    | some x =>
      obtain ⟨nb, sl, rfl, hnb, hav, hrow⟩ := hv
      have hc0 : w2.cell? ⟨nb, 0, none⟩ = some (.bool x.1) := cell_of hnb rfl
      refine W.reg <| mv rfl rfl <| neqPN rfl u_pNode rfl <| mv rfl rfl <| L.on rfl rfl rfl <| mv rfl rfl <| L.on rfl rfl rfl <| nilc rfl rfl <| L.on rfl rfl rfl <| fad rfl fl_Node_0 rfl <| L.on rfl rfl rfl <| ld1 rfl ag_bool rfl hc0 <| pickT rfl rfl rfl <| L.nil ?_
      refine N.th ?_
      refine W.cond rfl (fun h => ?_) (fun h => ?_)
      · refine W.seq ?_
        refine W.reg <| asg rfl rfl <| L.nil ?_
        refine N.th ?_
        refine W.ret ?_
        refine N.rth ?_
        refine N.ret1 rfl rfl ?_   -- RETURN
        rw [put_dir h0 hox h]
        exact ⟨rfl, hT1.ext0 hx2, (hx1.trans hx2).none⟩
      · refine W.skip ?_
        exact N.th (N.meet [(0, _), (1, _), (2, _), (3, _), (10, _)] ⟨rfl, rfl, rfl, rfl, rfl, trivial⟩ ⟨rfl, rfl, fun y hy => by cases hy; exact h⟩)   -- MEET
  rintro E w2' ⟨rfl, rfl, hnd⟩
  have hT2 := hT1.ext0 hx2
  refine W.seq ?_
  refine W.reg <| mv rfl rfl <| mv rfl rfl <| call (vs := [_, _]) rfl rfl ok_ahead (c_ahead (Sp.clean s).1 (by omega) hT2) ?_
  rintro e w3 ⟨hx3, hah⟩
  cases hA : Tr.ahead m (Sp.clean s).1 with
  | none =>
    rw [hA] at hah
    obtain rfl := hah
    refine ⟨_, rfl, ?_⟩
    refine mv rfl rfl <| ext rfl rfl rfl <| ext rfl rfl rfl <| asg rfl rfl <| asg rfl rfl <| L.nil ?_
    refine N.th ?_
    refine W.seq ?_
    refine W.seq ?_
    refine W.reg <| mv rfl rfl <| neqI rfl rfl rfl <| L.nil ?_
    refine N.th ?_
    refine W.condT rfl ?_
    refine W.seq ?_
    refine W.reg <| mv rfl rfl <| asg rfl rfl <| L.nil ?_
    refine N.th ?_
    refine W.ret ?_
    refine N.rth ?_
    refine N.ret1 rfl rfl ?_   -- RETURN
    rw [put_kind h0 hA]
    exact ⟨rfl, hT2.ext0 hx3, (hx1.trans (hx2.trans hx3)).none⟩
  | some lack =>
  rw [hA] at hah
  obtain ⟨lv, rfl, hlv⟩ := hah
  refine ⟨_, rfl, ?_⟩
  obtain ⟨hp0, hput⟩ := put_ok (b := b) (more := more) h0 hox hnd hA
  have hsz := Tr.size_put hT2.nodup hA hp0
  have hlk := Tr.ahead_len hA
  refine mv rfl rfl <| ext rfl rfl rfl <| ext rfl rfl rfl <| asg rfl rfl <| asg rfl rfl <| L.nil ?_
  refine N.th ?_
  refine W.seq ?_
  refine W.seq ?_
  refine W.reg <| mv rfl rfl <| neqI rfl rfl rfl <| L.nil ?_
  refine N.th ?_
  refine W.condF rfl ?_
  refine W.skip ?_
  refine N.th ?_
  refine W.seq ?_
  obtain ⟨la, lc, rfl, hlc, hlm⟩ := own_slice hlv
  refine W.reg <| mv rfl rfl <| lenV rfl u_strs rfl <| addI (c := (lack.length : Int) + 1) rfl rfl rfl (w64 (by omega) (by omega)) <| asg rfl rfl <| asg rfl rfl <| L.nil ?_
  refine N.th ?_
  have hT3 := hT2.ext0 hx3
  have hb3 := ((hb.ext0 hx1).ext0 hx2).ext0 hx3
  have hold := old_le m (Sp.clean s).1
  have hx03 := hx1.trans (hx2.trans hx3)
  refine W.seqM (fun E w' => ∃ bv', E = [(0, pT bt), (1, .string (S (Sp.clean s).1)), (2, bv'), (11, .slice la lack.length lc), (12, .int .i64 (Tr.old m (Sp.clean s).1)), (13, .int .i64 (putN ox lack))] ∧ BytA w' bv' (putB ox b more) ∧ (putB ox b more).length ≤ 101048576 ∧ Ext none_ w3 w') ?_ ?_   -- CUT
  · refine W.seq ?_
    cases ox with
    | none =>
      obtain rfl : v = .pointer none := hv
      refine W.reg <| mv rfl rfl <| neqPN rfl u_pNode rfl <| L.nil ?_
      refine N.th ?_
      refine W.condF rfl ?_
      refine W.skip ?_
      refine N.th (N.meet [(0, _), (1, _), (2, bv), (11, _), (12, .int .i64 0), (13, .int .i64 ((lack.length : Int) + 1))] ⟨rfl, rfl, rfl, rfl, rfl, rfl, trivial⟩ ⟨bv, ?_, hb3, by simp [putB]; omega, Ext.refl _ _⟩)   -- MEET
      have hg : Tr.get m (Sp.clean s).1 = none := by unfold Tr.at_ at hox; rwa [if_neg hp0] at hox
      simp [putN, Tr.old, hg]
    | some x =>
      obtain ⟨nb, sl, rfl, hnb, hav, hrow⟩ := hv
      have hg : Tr.get m (Sp.clean s).1 = some x := by unfold Tr.at_ at hox; rwa [if_neg hp0] at hox
      have hold2 : Tr.old m (Sp.clean s).1 = x.2.length := by simp [Tr.old, hg]
      have hnb3 := hx3.obj hnb id
      have hrow3 := hrow.ext0 hx3
      have hc1 : w3.cell? ⟨nb, 1, none⟩ = some sl := cell_of hnb3 rfl
      obtain ⟨-, sa, sc, rfl, hsn, hsm, -, -⟩ := id hrow3
      refine W.reg <| mv rfl rfl <| neqPN rfl u_pNode rfl <| L.nil ?_
      refine N.th ?_
      refine W.condT rfl ?_
      refine W.seq ?_
      refine W.reg <| mv rfl rfl <| nilc rfl rfl <| fad rfl fl_Node_1 rfl <| ld1 rfl ag_bytes rfl hc1 <| lenV rfl u_bytes rfl <| asg rfl rfl <| asg rfl rfl <| L.nil ?_
      refine N.th ?_
      refine W.seq ?_
      refine W.reg <| mv rfl rfl <| L.nil ?_
      refine N.th ?_
      refine W.cond rfl (fun h => ?_) (fun h => ?_)
      · subst h
        refine W.reg <| mv rfl rfl <| nilc rfl rfl <| fad rfl fl_Node_1 rfl <| ld1 rfl ag_bytes rfl hc1 <| mv rfl rfl <| bls (vs := #[(0, .slice sa x.2.length sc), (1, bv)]) (cs := #[.slice sa x.2.length sc, bv]) (e := 24) rfl rfl (fun w => ?_) <|
          call (vs := [_]) rfl rfl ok_Concat (c_Concat (vs := [(.slice sa x.2.length sc, x.2), (bv, b)]) (fun j p hj => ?_) (fun p hp => ?_) (by simp) (by simp [total]; omega) (by simp)) ?_
        · obtain ⟨ba, bc, rfl, -, -, -, -⟩ := id hb3
          kernel_rfl
        · match j, hj with
          | 0, hj => cases hj; exact cell_of (heap_new _ _) rfl
          | 1, hj => cases hj; exact cell_of (heap_new _ _) rfl
          | j + 2, hj => simp at hj
        · simp only [List.mem_cons, List.not_mem_nil, or_false] at hp
          rcases hp with rfl | rfl
          · exact hrow3.arg.ext0 (Ext.alloc _ _ _)
          · exact hb3.ext0 (Ext.alloc _ _ _)
        rintro e w4 ⟨bv', rfl, hbv', hx4⟩
        refine ⟨_, rfl, ?_⟩
        refine asg rfl rfl <| L.nil ?_
        refine N.th (N.meet [(0, _), (1, _), (2, bv'), (11, _), (12, .int .i64 x.2.length), (13, .int .i64 0)] ⟨rfl, rfl, rfl, rfl, rfl, rfl, trivial⟩ ⟨bv', ?_, ?_, ?_, (Ext.alloc _ _ _).trans hx4⟩)   -- MEET
        · simp [putN, hold2]
        · simpa [putB, total, BytA] using (Row.own hbv').arg
        · simp [putB]; omega
      · subst h
        refine W.skip ?_
        refine N.th (N.meet [(0, _), (1, _), (2, bv), (11, _), (12, .int .i64 x.2.length), (13, .int .i64 0)] ⟨rfl, rfl, rfl, rfl, rfl, rfl, trivial⟩ ⟨bv, ?_, hb3, by simp [putB]; omega, Ext.refl _ _⟩)   -- MEET
        simp [putN, hold2]
  rintro E w4 ⟨bv', rfl, hbv', hbl', hx4⟩
  rw [hput]
  generalize putB ox b more = b' at *
  generalize putN ox lack = fl at *
  have hT4 := hT3.ext0 hx4
  have hlv4 := own_ext hlv hx4 (fun _ _ => id)
  obtain ⟨sa, sc, rfl, hsn, hsm, -, -⟩ := id hbv'
  refine W.seqM (fun E w' => E = [(0, pT bt), (1, .string (S (Sp.clean s).1)), (2, .slice sa b'.length sc), (11, .slice la lack.length lc), (12, .int .i64 (Tr.old m (Sp.clean s).1))] ∧ w' = w4 ∧ b'.length ≤ 65536 ∧ Tr.room m fl ((b'.length : Int) - Tr.old m (Sp.clean s).1) = true) ?_ ?_   -- CUT
  · refine W.seq ?_
    refine W.reg <| mv rfl rfl <| lenV rfl u_bytes rfl <| gtrI rfl rfl rfl <| ?_
    by_cases hbig : 65536 < b'.length
    · refine Vc.bt (by simp; omega) ?_
      refine mv rfl rfl <| L.off rfl rfl rfl rfl rfl <| L.off rfl rfl rfl rfl rfl <| L.off rfl rfl rfl rfl rfl <| L.off rfl rfl rfl rfl rfl <| L.off rfl rfl rfl rfl rfl <| L.off rfl rfl rfl rfl rfl <| L.off rfl rfl rfl rfl rfl <| L.off rfl rfl rfl rfl rfl <| pickT rfl rfl rfl <| L.nil ?_
      refine N.th ?_
      refine W.condT rfl ?_
      refine W.seq ?_
      refine W.reg <| asg rfl rfl <| L.nil ?_
      refine N.th ?_
      refine W.ret ?_
      refine N.rth ?_
      refine N.ret1 rfl rfl ?_   -- RETURN
      rw [if_pos (.inl hbig)]
      exact ⟨rfl, hT4, (hx03.trans hx4).none⟩
    · refine Vc.bf (by simp; omega) ?_
      refine mv rfl rfl <| L.on rfl rfl rfl <| mv rfl rfl <| L.on rfl rfl rfl <| mv rfl rfl <| L.on rfl rfl rfl <| mv rfl rfl <| L.on rfl rfl rfl <| lenV rfl u_bytes rfl <| L.on rfl rfl rfl <| mv rfl rfl <| L.on rfl rfl rfl <| subI (c := (b'.length : Int) - Tr.old m (Sp.clean s).1) rfl rfl rfl (w64 (by omega) (by omega)) <|
        L.on rfl rfl rfl <| call (vs := [_, _, _]) rfl rfl ok_room (c_room hT4 (by omega) (by omega) (by omega)) ?_
      rintro e w5 ⟨rfl, rfl⟩
      refine ⟨_, rfl, ?_⟩
      refine L.on rfl rfl rfl <| notB rfl rfl <| pickF rfl rfl rfl <| L.nil ?_
      refine N.th ?_
      refine W.cond rfl (fun h => ?_) (fun h => ?_)
      · refine W.seq ?_
        refine W.reg <| asg rfl rfl <| L.nil ?_
        refine N.th ?_
        refine W.ret ?_
        refine N.rth ?_
        refine N.ret1 rfl rfl ?_   -- RETURN
        rw [if_pos (.inr (by unfold Tr.room; simpa only [Bool.not_eq_true'] using h))]
        exact ⟨rfl, hT4, (hx03.trans hx4).none⟩
      · refine W.skip ?_
        refine N.th (N.meet [(0, _), (1, _), (2, _), (11, _), (12, _)] ⟨rfl, rfl, rfl, rfl, rfl, trivial⟩ ⟨rfl, rfl, by omega, ?_⟩)   -- MEET
        unfold Tr.room
        simpa only [Bool.not_eq_false'] using h
  rintro E w4' ⟨rfl, rfl, hbs, hrm⟩
  rw [if_neg (by rw [hrm]; simp; omega)]
  have hrm2 : (b'.length : Int) - Tr.old m (Sp.clean s).1 ≤ 1048576 - Tr.size m := by
    unfold Tr.room at hrm
    simp only [Bool.and_eq_true, decide_eq_true_eq] at hrm
    exact hrm.2
  refine W.seq ?_
  refine W.reg <| mv rfl rfl <| mv rfl rfl <| call (vs := [_, _]) rfl rfl ok_make (c_make lack _ hT4 (Row.own hlv4)) ?_
  rintro e w5 ⟨rfl, hT5, hx5⟩
  refine ⟨_, rfl, ?_⟩
  refine L.nil ?_
  refine N.th ?_
  refine W.seq ?_
  have hb5 : BytA w5 (.slice sa b'.length sc) b' := hbv'.two hT4 hx5 (calmB _)
  refine W.draw [] true (fun w' => Ext none_ w5.drew w') [0, 1, 2, 3, 4, 5, 6, 7, 8, 9] rfl rfl (by kernel_rfl) (Ext.refl _ _) ?_   -- held
  have hT5d := hT5.ext0 (Ext.drew none_ w5)
  refine mv rfl rfl <| nilc rfl rfl <| fad rfl fl_Tree_0 rfl <| ldK rfl ag_mNode rfl (fun w' h => (hT5d.ext0 h).c0) <| mv rfl rfl <| mv rfl rfl <| callH (vs := [_]) rfl rfl ok_Clone (c_Clone (hb5.ext0 (Ext.drew none_ w5)) (by omega)) ?_
  rintro e w6 ⟨cv, rfl, hcv, hx6, -⟩
  refine ⟨_, rfl, .inr fun h => h.trans hx6, ?_⟩
  obtain ⟨ca, cc, rfl, -, -⟩ := own_slice hcv
  refine bld (vs := #[(1, .slice ca b'.length cc)]) (v := .agg #[.bool false, .slice ca b'.length cc]) rfl rfl (fun _ => by kernel_rfl) <| box rfl rfl (hS := .inr fun h => h.trans (Ext.alloc _ _ _)) <| ?_
  have hT6 := hT5d.ext0 hx6
  obtain ⟨al, hm6, hr6⟩ := hT6.reps
  refine mupY rfl rfl rfl u_mNode u_str (hm6.ext (Ext.alloc none_ _ _) id) fun w7 hm7 hx7 hs7 => ⟨.inl ⟨rfl, rfl⟩, ?_⟩
  have hT7 : TreeAt A w7 bt bm (Tr.set (Tr.make m lack) (Sp.clean s).1 (false, b')) (Tr.size m) :=
    TreeAt.mapSet (x := (false, b')) (hm6.ext (Ext.alloc none_ _ _) id) (hr6.ext (Ext.alloc none_ _ _) (Kd.none _)) ((heap_alloc _ _ hT6.lt.1).trans hT6.cell) ⟨_, _, rfl, heap_new _ _, (fun k hk hA => by have h1 := own_new hcv k hk; have h2 := hT5d.low k hA; omega), (Row.own hcv).ext0 (Ext.alloc none_ _ _)⟩ hm7 hx7 (hT6.lowAt (by simp))
  refine L.nilH ?_
  refine N.th ?_
  refine W.seq ?_
  have hs := hsz (false, b')
  refine W.reg <| mv rfl rfl <| nilc rfl rfl <| fad rfl fl_Tree_1 rfl <| ld1 rfl ag_int rfl hT7.c1 <| mv rfl rfl <| lenV rfl u_bytes rfl <| mv rfl rfl <| subI (c := (b'.length : Int) - Tr.old m (Sp.clean s).1) rfl rfl rfl (w64 (by omega) (by omega)) <|
    addI (c := (Tr.size (Tr.set (Tr.make m lack) (Sp.clean s).1 (false, b')) : Int)) rfl rfl rfl (by rw [w64 (by omega) (by omega)]; dsimp only at hs; omega) <| nilc rfl rfl <| fad rfl fl_Tree_1 rfl <| st1 rfl rfl sz_int rfl hT7.cell rfl <| L.nil ?_
  refine N.th ?_
  refine W.seq ?_
  refine W.reg <| asg rfl rfl <| L.nil ?_
  refine N.th ?_
  refine W.ret ?_
  refine N.ret1 rfl rfl ?_   -- RETURN
  have hxs : Ext (Two bt bm) w7 (w7.setCell ⟨bt, 0 + 1, none⟩ (.int .i64 (Tr.size (Tr.set (Tr.make m lack) (Sp.clean s).1 (false, b')) : Int))) := Ext.setCell _ (fun _ => .inl rfl) _
  refine ⟨rfl, ⟨?_, ?_, hT7.lowAt hxs.size⟩, ?_⟩
  · rw [setCell_heap hT7.cell]; rfl
  · obtain ⟨al7, hm8, hr8⟩ := hT7.reps
    refine ⟨al7, hm8.ext (Ext.setCell (S := fun k => k = bt) _ (fun _ => rfl) _) (fun e => hT7.ne e.symm), hr8.ext hxs hT7.kd⟩
  · exact (hx03.trans hx4).none.trans (hx5.trans ((((Ext.drew _ _).trans (hx6.trans (Ext.alloc none_ _ _))).none).trans ((hx7.mono fun _ _ h => .inr h).trans hxs)))
end Go.Proofs.YtmdpmpdlkaogdaaDoor

namespace Go.Proofs.YtmdpmpdlkaogdaaDoor
open Go Go.RowKit Vc
variable {A : Nat → Prop}

theorem ok_Write : FnOk P 25 := ⟨_, Tryd.func25, by kernel_rfl, by kernel_rfl⟩
theorem ok_Mkdir : FnOk P 24 := ⟨_, Tryd.func24, by kernel_rfl, by kernel_rfl⟩
/-- What a method that turns a tree leaves. -/
abbrev Does (A : Nat → Prop) (bt bm : Nat) (w : World) (r : Tr.T × Int) (e : Ending) (w' : World) : Prop := e = .returned (.int .i64 r.2) ∧ TreeAt A w' bt bm r.1 (Tr.size r.1) ∧ Ext (Two bt bm) w w'

theorem c_Write {w : World} {bt bm : Nat} {m : Tr.T} {bv : Value} {b : Tr.Bytes} (s : Tr.Bytes) (ht : Tree A w bt bm m) (hb : BytA w bv b) (hbl : b.length ≤ 100000000) :
    Calls P 25 #[pT bt, .string (S s), bv] w (Does A bt bm w (Tr.write m s b)) := by
  refine enter (l := [_, _, _]) (n := 11) Tryd.func25 rfl rfl rfl ?_
  refine W.seq ?_
  refine W.reg <| asg rfl rfl <| L.nil ?_
  refine N.th ?_
  refine W.seq ?_
  refine W.reg <| mv rfl rfl <| mv rfl rfl <| mv rfl rfl <| call (vs := [_, _, _, _]) rfl rfl ok_put (c_put s false ht hb hbl) ?_
  rintro e w1 ⟨rfl, h1, h2⟩
  refine ⟨_, rfl, ?_⟩
  refine asg rfl rfl <| L.nil ?_
  refine N.th ?_
  refine W.ret ?_
  refine N.ret1 rfl rfl ?_   -- RETURN
  exact ⟨rfl, h1, h2⟩

theorem c_Mkdir {w : World} {bt bm : Nat} {m : Tr.T} (s : Tr.Bytes) (ht : Tree A w bt bm m) :
    Calls P 24 #[pT bt, .string (S s)] w (Does A bt bm w (Tr.mkdir m s)) := by
  have hm1 := ht.len
  have hm2 := ht.bytes
  refine enter (l := [_, _]) (n := 46) Tryd.func24 rfl rfl rfl ?_
  refine W.seq ?_
  refine W.reg <| asg rfl rfl <| L.nil ?_
  refine N.th ?_
  refine W.seq ?_
  refine W.reg <| mv rfl rfl <| call (vs := [_]) rfl rfl ok_Clean (c_Clean s w) ?_
  rintro e w1 ⟨rfl, hx1⟩
  refine ⟨_, rfl, ?_⟩
  have hcl := clean_len s
  refine mv rfl rfl <| ext rfl rfl rfl <| ext rfl rfl rfl <| asg rfl rfl <| asg rfl rfl <| L.nil ?_
  refine N.th ?_
  refine W.seq ?_
  refine W.seq ?_
  refine W.reg <| mv rfl rfl <| neqI rfl rfl rfl <| L.nil ?_
  refine N.th ?_
  refine W.cond rfl (fun h => ?_) (fun h => ?_)
  · refine W.seq ?_
    refine W.reg <| mv rfl rfl <| asg rfl rfl <| L.nil ?_
    refine N.th ?_
    refine W.ret ?_
    refine N.rth ?_
    refine N.ret1 rfl rfl ?_   -- RETURN
    have h0 : (Sp.clean s).2 ≠ 0 := by simpa using h
    unfold Tr.mkdir; rw [if_pos h0]
    exact ⟨rfl, ht.at_.ext0 hx1, hx1.none⟩
  have h0 : ¬ (Sp.clean s).2 ≠ 0 := by simpa using h
  refine W.skip ?_
  refine N.th ?_
  have hT1 := ht.at_.ext0 hx1
  unfold Tr.mkdir; rw [if_neg h0]
  dsimp only
  refine W.seq ?_
  refine W.seq ?_
  refine W.reg <| mv rfl rfl <| mv rfl rfl <| call (vs := [_, _]) rfl rfl ok_at (c_at (Sp.clean s).1 hT1) ?_
  rintro e w2 ⟨v, rfl, hv, hx2⟩
  refine ⟨_, rfl, ?_⟩
  refine asg rfl rfl <| L.nil ?_
  refine N.th ?_
  refine W.seq ?_
  cases hox : Tr.at_ m (Sp.clean s).1 with
  | some x =>
    rw [hox] at hv
    obtain ⟨nb, sl, rfl, hnb, hav, hrow⟩ := hv
    have hc0 : w2.cell? ⟨nb, 0, none⟩ = some (.bool x.1) := cell_of hnb rfl
    refine W.reg <| mv rfl rfl <| neqPN rfl u_pNode rfl <| L.nil ?_
    refine N.th ?_
    refine W.condT rfl ?_
    refine W.seq ?_
    refine W.seq ?_
    refine W.reg <| mv rfl rfl <| nilc rfl rfl <| fad rfl fl_Node_0 rfl <| ld1 rfl ag_bool rfl hc0 <| L.nil ?_
    refine N.th ?_
    refine W.cond rfl (fun h => ?_) (fun h => ?_)
    · refine W.seq ?_
      refine W.reg <| asg rfl rfl <| L.nil ?_
      refine N.th ?_
      refine W.ret ?_
      refine N.rth <| N.rth ?_
      refine N.ret1 rfl rfl ?_   -- RETURN
      simp only [h, if_true]
      exact ⟨rfl, hT1.ext0 hx2, (hx1.trans hx2).none⟩
    · refine W.skip ?_
      refine N.th ?_
      refine W.seq ?_
      refine W.reg <| asg rfl rfl <| L.nil ?_
      refine N.th ?_
      refine W.ret ?_
      refine N.rth ?_
      refine N.ret1 rfl rfl ?_   -- RETURN
      simp only [h, Bool.false_eq_true, if_false]
      exact ⟨rfl, hT1.ext0 hx2, (hx1.trans hx2).none⟩
  | none =>
  rw [hox] at hv
  obtain rfl : v = .pointer none := hv
  have hp0 : (Sp.clean s).1 ≠ [] := by intro e; rw [e] at hox; simp [Tr.at_] at hox
  have hg : Tr.get m (Sp.clean s).1 = none := by unfold Tr.at_ at hox; rwa [if_neg hp0] at hox
  refine W.reg <| mv rfl rfl <| neqPN rfl u_pNode rfl <| L.nil ?_
  refine N.th ?_
  refine W.condF rfl ?_
  refine W.skip ?_
  refine N.th ?_
  refine W.seq ?_
  have hT2 := hT1.ext0 hx2
  refine W.reg <| mv rfl rfl <| mv rfl rfl <| call (vs := [_, _]) rfl rfl ok_ahead (c_ahead (Sp.clean s).1 (by omega) hT2) ?_
  rintro e w3 ⟨hx3, hah⟩
  cases hA : Tr.ahead m (Sp.clean s).1 with
  | none =>
    rw [hA] at hah
    obtain rfl := hah
    refine ⟨_, rfl, ?_⟩
    refine mv rfl rfl <| ext rfl rfl rfl <| ext rfl rfl rfl <| asg rfl rfl <| asg rfl rfl <| L.nil ?_
    refine N.th ?_
    refine W.seq ?_
    refine W.seq ?_
    refine W.reg <| mv rfl rfl <| neqI rfl rfl rfl <| L.nil ?_
    refine N.th ?_
    refine W.condT rfl ?_
    refine W.seq ?_
    refine W.reg <| mv rfl rfl <| asg rfl rfl <| L.nil ?_
    refine N.th ?_
    refine W.ret ?_
    refine N.rth ?_
    refine N.ret1 rfl rfl ?_   -- RETURN
    exact ⟨rfl, hT2.ext0 hx3, (hx1.trans (hx2.trans hx3)).none⟩
  | some lack =>
  rw [hA] at hah
  obtain ⟨lv, rfl, hlv⟩ := hah
  refine ⟨_, rfl, ?_⟩
  have hlk := Tr.ahead_len hA
  refine mv rfl rfl <| ext rfl rfl rfl <| ext rfl rfl rfl <| asg rfl rfl <| asg rfl rfl <| L.nil ?_
  refine N.th ?_
  refine W.seq ?_
  refine W.seq ?_
  refine W.reg <| mv rfl rfl <| neqI rfl rfl rfl <| L.nil ?_
  refine N.th ?_
  refine W.condF rfl ?_
  refine W.skip ?_
  refine N.th ?_
  refine W.seq ?_
  refine W.seq ?_
  have hT3 := hT2.ext0 hx3
  obtain ⟨la, lc, rfl, hlc, hlm⟩ := own_slice hlv
  refine W.reg <| mv rfl rfl <| mv rfl rfl <| lenV rfl u_strs rfl <| addI (c := (lack.length : Int) + 1) rfl rfl rfl (w64 (by omega) (by omega)) <| call (vs := [_, _, _]) rfl rfl ok_room (c_room hT3 (by omega) (by omega) (by omega)) ?_
  rintro e w4 ⟨rfl, rfl⟩
  refine ⟨_, rfl, ?_⟩
  refine notB rfl rfl <| L.nil ?_
  refine N.th ?_
  refine W.cond rfl (fun h => ?_) (fun h => ?_)
  · refine W.seq ?_
    refine W.reg <| asg rfl rfl <| L.nil ?_
    refine N.th ?_
    refine W.ret ?_
    refine N.rth ?_
    refine N.ret1 rfl rfl ?_   -- RETURN
    dsimp only
    rw [if_pos (by unfold Tr.room; simpa only [Bool.not_eq_true'] using h)]
    exact ⟨rfl, hT3, (hx1.trans (hx2.trans hx3)).none⟩
  · refine W.skip ?_
    refine N.th ?_
    refine W.seq ?_
    refine W.reg <| mv rfl rfl <| mv rfl rfl <| mv rfl rfl <| bls (vs := #[(0, .string (S (Sp.clean s).1))]) (cs := #[.string (S (Sp.clean s).1)]) (e := 9) rfl rfl (fun _ => by kernel_rfl) <|
      app rfl rfl rfl el_strs (own_ext hlv (Ext.alloc none_ _ _) fun _ _ => id) (news := [.string (S (Sp.clean s).1)]) rfl (fun j u hj => by
            cases j with
            | zero => cases hj; exact cell1 (heap_new _ _)
            | succ j => cases hj) (by simp [Value.oneCell']) (by omega) (by simp only [maxLen]; omega) (by have := hx3.size; simp; omega) fun v' w5 hown5 hx5 _ _ => ?_
    have hx35 : Ext none_ w2 w5 := (hx3.trans (Ext.alloc none_ _ _)).trans' hx5 fun i hi hh => by have := own_new hlv i hh; omega
    have hT5 := hT2.ext0 hx35
    refine call (vs := [_, _]) rfl rfl ok_make (c_make (lack ++ [(Sp.clean s).1]) _ hT5 (Row.own (by simpa [encT] using hown5))) ?_
    rintro e w6 ⟨rfl, hT6, hx6⟩
    refine ⟨_, rfl, ?_⟩
    refine L.nil ?_
    refine N.th ?_
    refine W.seq ?_
    refine W.reg <| asg rfl rfl <| L.nil ?_
    refine N.th ?_
    refine W.ret ?_
    refine N.ret1 rfl rfl ?_   -- RETURN
    obtain ⟨ha1, ha2⟩ := Tr.ahead_spec hA
    have hsz : Tr.size (Tr.make m (lack ++ [(Sp.clean s).1])) = Tr.size m := Tr.size_make _ hT2.nodup (by
        rw [List.nodup_append]
        exact ⟨ha2, by simp, fun a ha b hb => by
          simp at hb; subst hb
          intro e; subst e
          have := (ha1 _ ha).2.2 hp0; omega⟩) (fun d hd => by
        rcases List.mem_append.1 hd with hd | hd
        · exact (ha1 d hd).1
        · simp at hd; subst hd; exact hg)
    have hr : Tr.room m (lack.length + 1) 0 = true := by unfold Tr.room; simpa only [Bool.not_eq_false'] using h
    dsimp only
    rw [if_neg (by rw [hr]; simp)]
    refine ⟨rfl, ?_, ((hx1.trans hx2).trans hx35).none.trans hx6⟩
    dsimp only
    rw [hsz]; exact hT6

end Go.Proofs.YtmdpmpdlkaogdaaDoor

namespace Go.Proofs.YtmdpmpdlkaogdaaDoor
open Go Go.RowKit Vc
variable {A : Nat → Prop}

theorem Ext.growN (w : World) (os : Array Obj) : Vc.Ext none_ w (Sort.grow w os) := ⟨rfl, rfl, rfl, by simp [Sort.grow], fun k hk _ => by simp [Sort.grow, Array.getElem?_append_left hk]⟩
end Go.Proofs.YtmdpmpdlkaogdaaDoor
