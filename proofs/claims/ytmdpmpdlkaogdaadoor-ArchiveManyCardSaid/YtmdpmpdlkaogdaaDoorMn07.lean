/- The walk of sha.Sum at one part. Walks: archive.Digest, the document's Of. Walks: archive.put, the document's number. Arguments, opened: what a row says of what came in, as lists of bytes. Scripts that came in: lists of Acts. The walk of haversacklaw8.light. Lists of files that came in. The walk of haversackhelp.LightFiles. The walk of archive.Pack. The walk of the document's Pack. The calculus: calls that may panic, and the panic operation. Nothing here speaks of the program. Walks: archive's must, reader.take. -/
import Derived.Test.YtmdpmpdlkaogdaaDoorMn06
import Derived.Test.YtmdpmpdlkaogdaaDoorMn04
import Derived.Test.YtmdpmpdlkaogdaaDoorMn05
import Derived.ChangeSlices
import Derived.SliceStrings
import Derived.Lib.AppendStr
import Derived.Test.YtmdpmpdlkaogdaaDoorMn01

namespace Go.Proofs.YtmdpmpdlkaogdaaDoor
open Go Go.RowKit Vc
abbrev tKey : TypeId := 33
abbrev t128 : TypeId := 83
theorem sz_Key : szB P tKey = some 32 := by kernel_rfl
theorem ag_Key : aggB P tKey = some true := by kernel_rfl
theorem ze_Key : zeroB P tKey = some (.agg (encB (List.replicate 32 0)).toArray) := by kernel_rfl
theorem u_Key : P.underlying tKey = some (.array 32 5) := Tryd.underlying33
theorem u_t128 : P.underlying t128 = some (.array 128 5) := Tryd.underlying83
theorem ze_t128 : zeroB P t128 = some (.agg (encB (List.replicate 128 0)).toArray) := by kernel_rfl
theorem ok_sSum : FnOk P 18 := ⟨_, Tryd.func18, by kernel_rfl, by kernel_rfl⟩

theorem BytA.st {w w' : World} {bt : Nat} {s : Sh.St} {v : Value} {b : List UInt8} (h : BytA w v b) (hs : StAt w bt s) (hx : Ext (fun k => k = bt) w w') : BytA w' v b :=
  RowA.keep h hx.size fun ad u hu hb hcell => hx.block _ hb fun e => by
    obtain ⟨x, -, rfl⟩ := List.mem_map.1 hu
    unfold World.cell? at hcell
    rw [e, hs] at hcell
    simp only at hcell
    split at hcell
    · cases hcell
    · have hm := Array.mem_of_getElem? hcell
      simp only [List.mem_toArray, List.mem_append, enc32, List.mem_map] at hm
      rcases hm with ⟨y, -, hy⟩ | ⟨y, -, hy⟩ <;> cases hy
theorem RowA.drop {w : World} {a : Option Addr} {cap k : Nat} {l : List UInt8} (h : BytA w (.slice a l.length cap) l) (hk : k ≤ l.length) (hk0 : 0 < k) : ∃ b o, a = some ⟨b, o, none⟩ ∧ ∀ ad : Addr, (k < cap → ad = ⟨b, o + k * 1, none⟩) → BytA w (.slice (some ad) (l.length - k) (cap - k)) (l.drop k) := by
  obtain ⟨b, o, c, e, h1, h2, h3, hc⟩ := RowA.plain h (fun e => by have := congrArg List.length e; simp [encB] at this; subst this; simp at hk; omega)
  cases e
  refine ⟨b, o, rfl, fun ad had => ⟨some ad, cap - k, by rw [List.length_drop], by rw [List.length_drop]; omega, by omega, (fun h => by cases h), fun j u hj => ?_⟩⟩
  rw [encB, List.map_drop, List.getElem?_drop] at hj
  have hlt : k + j < l.length := by have := (List.getElem?_eq_some_iff.1 hj).1; simpa using this
  rw [had (by omega)]
  refine ⟨_, rfl, h3, ?_⟩
  rw [add_at, show o + k * 1 + j = o + (k + j) by omega]
  exact hc (k + j) u hj

section
variable {st : Sty} [Wy st] {P : Program} {ds : List Deferred} {n : Nat} {Q : Exit → Act → World → Prop} {E : Env} {w : World} {ops : Array Oper} {l : List Oper}
variable {d : Nat} {ty : TypeId} {pos : String} {af : Array Edge}
theorem cpN {dT sT elem : TypeId} {x y : Operand} {dl dc : Nat} {ad : Addr} (hx : opd E x = some (.slice (some ad) dl dc)) (hy : opd E y = some (.slice none 0 0)) (hd : Nat.blt d n = true) (hu : P.underlying dT = some (.slice elem)) (hs : szB P elem = some 1)
    (k : LY st P ds n ops l Q ((d, .int .i64 ((0 : Nat) : Int)) :: E) w) (hk : st.keeps l w w := by trivial) : LY st P ds n ops (⟨some d, .call ⟨.builtin .copy, #[x, y], #[dT, sT]⟩, ty, pos, af, none⟩ :: l) Q E w := by
  have hs' : ((P.info? elem).map (·.size)).isSome = true := by
    have h : (P.info? elem).map (·.size) = some 1 := hs
    rw [h]; rfl
  have hr := run_copy_nil (P := P) w dT sT ty elem ad dl dc hu hs'
  exact bltinY (vs := [.slice (some ad) dl dc, .slice none 0 0]) (by simp [hx, hy]) hd (fun _ => by simp [builtin, hr, goInt]) k (fun _ _ _ _ => rfl) hk
end
theorem last_len (b : List UInt8) : (Sh.last b 8).length = 128 ∧ Sh.stop (Sh.rest b).length ≤ 128 ∧ (Sh.rest b).length + 9 ≤ Sh.stop (Sh.rest b).length ∧ (Sh.rest b).length < 64 ∧ (Sh.stop (Sh.rest b).length = 64 ∨ Sh.stop (Sh.rest b).length = 128) := by
  have hr := Sh.rest_len b
  have h1 : Sh.stop (Sh.rest b).length ≤ 128 ∧ (Sh.rest b).length + 9 ≤ Sh.stop (Sh.rest b).length ∧ (Sh.stop (Sh.rest b).length = 64 ∨ Sh.stop (Sh.rest b).length = 128) := by rw [hr]; unfold Sh.stop; split <;> omega
  refine ⟨?_, h1.1, h1.2.1, by omega, h1.2.2⟩
  unfold Sh.last
  simp only [List.length_append, List.length_cons, List.length_nil, List.length_replicate, List.length_take, Sh.len8_len]
  omega
theorem setM (b : List UInt8) {i : Nat} (hi : i < 8) {y : UInt8} (hy : (Sh.len8 (8 * b.length))[i]? = some y) : (encB (Sh.last b i)).toArray.setIfInBounds (Sh.stop (Sh.rest b).length - 8 + i) (.int .u8 y.toNat) = (encB (Sh.last b (i + 1))).toArray := by
  obtain ⟨-, h1, h2, h3, -⟩ := last_len b
  obtain ⟨A, hA⟩ : ∃ A, A = Sh.rest b ++ [128] ++ List.replicate (Sh.stop (Sh.rest b).length - (Sh.rest b).length - 9) 0 ++ (Sh.len8 (8 * b.length)).take i := ⟨_, rfl⟩
  have hAl : (encB A).length = Sh.stop (Sh.rest b).length - 8 + i := by
    rw [hA]
    simp only [encB, List.length_map, List.length_append, List.length_cons, List.length_nil, List.length_replicate, List.length_take, Sh.len8_len]
    omega
  have e1 : Sh.last b i = A ++ 0 :: List.replicate (136 - Sh.stop (Sh.rest b).length - (i + 1)) 0 := by
    rw [hA, ← List.replicate_succ, show 136 - Sh.stop (Sh.rest b).length - (i + 1) + 1 = 136 - Sh.stop (Sh.rest b).length - i by omega]; rfl
  have e2 : Sh.last b (i + 1) = A ++ y :: List.replicate (136 - Sh.stop (Sh.rest b).length - (i + 1)) 0 := by
    rw [hA]
    unfold Sh.last
    rw [List.take_add_one, hy]
    simp
  rw [e1, e2, ← hAl]
  have h : ∀ z : UInt8, encB (A ++ z :: List.replicate (136 - Sh.stop (Sh.rest b).length - (i + 1)) 0) = encB A ++ (.int .u8 z.toNat) :: encB (List.replicate (136 - Sh.stop (Sh.rest b).length - (i + 1)) 0) := fun z => by simp [encB]
  rw [h, h, setL]

set_option maxHeartbeats 2000000 in
theorem c_sSum {w : World} {pv bv : Value} {b : List UInt8} (hp : RowA w pv 1 [bv]) (hb : BytA w bv b) (hl : b.length ≤ 100000000) : Calls P 18 #[pv] w fun e w' => e = .returned (.agg (encB (Sh.sum b)).toArray) ∧ Ext none_ w w' := by
  obtain ⟨pa, po, pc, rfl, -, -, -, hpc⟩ := RowA.plain hp (by simp)
  have hpc0 : ∀ {wz : World}, Ext none_ w wz → wz.cell? ⟨pa, po + 0 * 1, none⟩ = some bv := fun hz => by
    obtain ⟨_, _, _, e, -, -, -, h⟩ := RowA.plain (hp.ext0 hz) (by simp)
    cases e
    exact h 0 _ rfl
  refine enter (l := [_]) (n := 128) Tryd.func18 rfl rfl rfl ?_
  refine W.seq ?_
  refine W.reg <| new ze_Key rfl <| L.nil ?_
  refine N.th ?_
  obtain ⟨o, ho⟩ : ∃ o, o = w.heap.size := ⟨_, rfl⟩
  obtain ⟨w1, hw1⟩ : ∃ w1, w1 = w.alloc (.cells (encB (List.replicate 32 0)).toArray tKey) := ⟨_, rfl⟩
  have ho1 : w1.heap[o]? = some (.cells (encB (List.replicate 32 0)).toArray tKey (0, 0)) := by rw [hw1, ho]; exact heap_new _ _
  have hx1 : Ext none_ w w1 := by rw [hw1]; exact Ext.alloc _ _ _
  rw [show w.alloc (.cells (Value.cells (.agg (encB (List.replicate 32 0)).toArray)) tKey) = w1 from hw1.symm, ← ho]
  refine W.seq ?_
  refine W.reg <| call (vs := []) rfl rfl ok_begin (c_begin w1) ?_
  rintro e w2 ⟨rfl, hx2⟩
  refine ⟨_, rfl, ?_⟩
  refine call (vs := []) rfl rfl ok_round (c_round w2) ?_
  rintro e w3 ⟨rfl, hx3⟩
  refine ⟨_, rfl, ?_⟩
  refine bld (vs := #[(0, .agg (enc32 Sh.S0.l).toArray), (1, .agg (enc32 Sh.K).toArray)]) (v := .agg (enc32 Sh.S0.l ++ enc32 Sh.K).toArray) rfl rfl (fun _ => by kernel_rfl) <| box rfl rfl <| asg rfl rfl <| L.nil ?_
  refine N.th ?_
  obtain ⟨bt, hbt⟩ : ∃ bt, bt = w3.heap.size := ⟨_, rfl⟩
  obtain ⟨w4, hw4⟩ : ∃ w4, w4 = w3.alloc (.cells (enc32 Sh.S0.l ++ enc32 Sh.K).toArray tSt) := ⟨_, rfl⟩
  have hs4 : StAt w4 bt Sh.S0 := by rw [hw4, hbt]; exact heap_new _ _
  have hx4 : Ext none_ w3 w4 := by rw [hw4]; exact Ext.alloc _ _ _
  rw [show w3.alloc (.cells (Value.cells (.agg (enc32 Sh.S0.l ++ enc32 Sh.K).toArray)) tSt) = w4 from hw4.symm, ← hbt]
  have hx04 : Ext none_ w w4 := ((hx1.trans hx2).trans hx3).trans hx4
  have ho4 := ((hx2.trans hx3).trans hx4).obj ho1 id
  have hob : ¬ o = bt := by have := lt_of_obj (hx2.trans hx3 |>.obj ho1 id); omega
  have hwb : w.heap.size ≤ bt := by have := (hx1.trans hx2 |>.trans hx3).size; omega
  have hBt : ∀ i, i < w.heap.size → i = bt → none_ i := fun i hi e => by omega
  refine W.seq ?_
  refine W.reg <| asg rfl rfl <| L.nil ?_
  refine N.th ?_
  refine W.seq ?_
  refine W.reg <| asg rfl rfl <| L.nil ?_
  refine N.th ?_
  refine W.seq ?_
  refine W.seq ?_
  refine W.reg <| mv rfl rfl <| lenV (t := 52) rfl u_bss rfl <| mv rfl rfl <| L.nil ?_
  refine N.th ?_
  refine W.block ?_
  refine W.loop (X := Nat × Sh.St × Value × Nat) (fun x => [(22, .int .i64 x.1), (21, .int .i64 ((1 : Nat) : Int)), (20, .slice (some ⟨pa, po, none⟩) 1 pc), (5, .int .u64 x.2.2.2), (4, x.2.2.1), (3, .pointer (some ⟨bt, 0, none⟩)), (2, .pointer (some ⟨o, 0, none⟩))])
    (fun x w' => StAt w' bt x.2.1 ∧ w'.heap[o]? = some (.cells (encB (List.replicate 32 0)).toArray tKey (0, 0)) ∧ Ext none_ w w' ∧ ((x.1 = 0 ∧ x.2.1 = Sh.S0 ∧ x.2.2.1 = .slice none 0 0 ∧ x.2.2.2 = 0) ∨ (x.1 = 1 ∧ x.2.1 = Sh.fd b (b.length / 64) ∧ Byts w.heap.size w' x.2.2.1 (Sh.rest b) ∧ x.2.2.2 = 8 * b.length)))
    (fun x => 1 - x.1) (0, Sh.S0, .slice none 0 0, 0) ⟨rfl, rfl, rfl, rfl, rfl, rfl, rfl, trivial⟩ ⟨hs4, ho4, hx04, .inl ⟨rfl, rfl, rfl, rfl⟩⟩ ?_
  rintro ⟨i, s, rv, n8⟩ w5 ⟨hs5, ho5, hx5, hcase⟩
  dsimp only at hs5 hcase ⊢
  refine W.seq ?_
  refine W.reg <| lssI rfl rfl rfl <| L.nil ?_
  refine N.th ?_
  refine W.seq ?_
  rcases hcase with ⟨rfl, rfl, rfl, rfl⟩ | ⟨rfl, rfl, hrv, rfl⟩
  · refine W.condT rfl ?_
    refine W.skip ?_
    refine N.th ?_
    refine W.seqM (fun E' w' => ∃ rv' : Value, E' = [(22, .int .i64 ((0 : Nat) : Int)), (21, .int .i64 ((1 : Nat) : Int)), (20, .slice (some ⟨pa, po, none⟩) 1 pc), (5, .int .u64 ((8 * b.length : Nat) : Int)), (4, rv'), (3, .pointer (some ⟨bt, 0, none⟩)), (2, .pointer (some ⟨o, 0, none⟩))] ∧ StAt w' bt (Sh.fd b (b.length / 64)) ∧ w'.heap[o]? = some (.cells (encB (List.replicate 32 0)).toArray tKey (0, 0)) ∧ Ext none_ w w' ∧ Byts w.heap.size w' rv' (Sh.rest b)) ?_ ?_   -- CUT
    · refine W.block ?_
      refine W.seq ?_
      obtain ⟨ba, bc, rfl, hbn, hbm, -, -⟩ := id hb
      refine W.reg <| ixa rfl rfl u_bss sz_bytes rfl (by omega) (by omega) <| ld1 (v := .slice ba b.length bc) rfl ag_bytes rfl (hpc0 hx5) <| asg rfl rfl <| L.nil ?_
      refine N.th ?_
      refine W.seq ?_
      refine W.reg <| mv rfl rfl <| mv rfl rfl <| lenV (t := 24) rfl u_bytes rfl <| cvtI (c := (b.length : Int)) rfl u_u64 u_int rfl (wu64 (by omega) (by omega)) <| mulI (c := ((8 * b.length : Nat) : Int)) rfl rfl rfl (by rw [wu64 (by omega) (by omega)]; omega) <| addI (c := ((8 * b.length : Nat) : Int)) rfl rfl rfl (by rw [wu64 (by omega) (by omega)]; omega) <| asg rfl rfl <| L.nil ?_
      refine N.th ?_
      refine W.seqM (fun E' w' => E' = [(7, .slice ba b.length bc), (22, .int .i64 ((0 : Nat) : Int)), (21, .int .i64 ((1 : Nat) : Int)), (20, .slice (some ⟨pa, po, none⟩) 1 pc), (5, .int .u64 ((8 * b.length : Nat) : Int)), (4, .slice none 0 0), (3, .pointer (some ⟨bt, 0, none⟩)), (2, .pointer (some ⟨o, 0, none⟩))] ∧ w' = w5) ?_ ?_   -- CUT
      · refine W.seq ?_
        refine W.reg <| mv rfl rfl <| lenV (t := 24) rfl u_bytes rfl <| gtrI rfl rfl rfl <| L.nil ?_
        refine N.th ?_
        refine W.condF rfl ?_
        refine W.skip ?_
        exact N.th (N.meet [(7, _), (22, _), (21, _), (20, _), (5, _), (4, _), (3, _), (2, _)] ⟨rfl, rfl, rfl, rfl, rfl, rfl, rfl, rfl, trivial⟩ ⟨rfl, rfl⟩)   -- MEET
      rintro E' w6 ⟨rfl, rfl⟩
      refine W.seq ?_
      refine W.block ?_
      refine W.loop (X := Unit) (fun _ => [(7, .slice ba b.length bc), (22, .int .i64 ((0 : Nat) : Int)), (21, .int .i64 ((1 : Nat) : Int)), (20, .slice (some ⟨pa, po, none⟩) 1 pc), (5, .int .u64 ((8 * b.length : Nat) : Int)), (4, .slice none 0 0), (3, .pointer (some ⟨bt, 0, none⟩)), (2, .pointer (some ⟨o, 0, none⟩))]) (fun _ w' => w' = w6) (fun _ => 0) () ⟨rfl, rfl, rfl, rfl, rfl, rfl, rfl, rfl, trivial⟩ rfl ?_
      rintro - w7 rfl
      refine W.seq ?_
      refine W.seq ?_
      refine W.reg <| mv rfl rfl <| lenV (t := 24) rfl u_bytes rfl <| eqlI rfl rfl rfl <| L.nil ?_
      refine N.th ?_
      refine W.condF rfl ?_
      refine W.exit ?_
      refine N.xth ?_
      refine N.xth ?_
      refine N.xeq ?_
      refine N.th ?_
      refine W.seq ?_
      refine W.block ?_
      refine W.loop (X := Nat × Value) (fun x => [(7, x.2), (22, .int .i64 ((0 : Nat) : Int)), (21, .int .i64 ((1 : Nat) : Int)), (20, .slice (some ⟨pa, po, none⟩) 1 pc), (5, .int .u64 ((8 * b.length : Nat) : Int)), (4, .slice none 0 0), (3, .pointer (some ⟨bt, 0, none⟩)), (2, .pointer (some ⟨o, 0, none⟩))])
        (fun x w' => 64 * x.1 ≤ b.length ∧ BytA w' x.2 (b.drop (64 * x.1)) ∧ StAt w' bt (Sh.fd b x.1) ∧ w'.heap[o]? = some (.cells (encB (List.replicate 32 0)).toArray tKey (0, 0)) ∧ Ext none_ w w') (fun x => b.length - 64 * x.1) (0, .slice ba b.length bc) ⟨rfl, rfl, rfl, rfl, rfl, rfl, rfl, rfl, trivial⟩
        ⟨by omega, hb.ext0 hx5, hs5, ho5, hx5⟩ ?_
      rintro ⟨j, v⟩ w8 ⟨hj, hv8, hs8, ho8, hx8⟩
      dsimp only at hj hv8 hs8 ⊢
      obtain ⟨va, vc, rfl, hvn, hvm, -, -⟩ := id hv8
      have hdl : (b.drop (64 * j)).length = b.length - 64 * j := List.length_drop
      refine W.seq ?_
      refine W.seq ?_
      refine W.reg <| mv rfl rfl <| lenV (t := 24) rfl u_bytes rfl <| geqI rfl rfl rfl <| L.nil ?_
      refine N.th ?_
      refine W.cond rfl (fun h => ?_) (fun h => ?_)
      · refine W.skip ?_
        refine N.th ?_
        have h64 : 64 ≤ (b.drop (64 * j)).length := by have := of_decide_eq_true h; omega
        refine W.seq ?_
        refine W.block ?_
        refine W.reg <| mv rfl rfl <| mv rfl rfl <| call (vs := [_, _]) rfl rfl ok_sturn (c_sturn hs8 hv8 h64) ?_
        rintro e w9 ⟨rfl, hs9, hx9⟩
        refine ⟨_, rfl, ?_⟩
        refine L.nil ?_
        refine N.inb ?_
        refine N.th ?_
        have hv9 := hv8.st hs8 hx9
        obtain ⟨vb, vo, rfl, hvd⟩ := RowA.drop (k := 64) hv9 h64 (by omega)
        refine W.reg <| mv rfl rfl <| slVlA (i := 64) rfl rfl u_bytes el_bytes.szB rfl h64 fun ad had => ?_
        refine asg rfl rfl <| L.nil ?_
        have hnew := hvd ad had
        rw [List.drop_drop, show 64 * j + 64 = 64 * (j + 1) by omega] at hnew
        exact N.th (N.round (x := (j + 1, .slice (some ad) ((b.drop (64 * j)).length - 64) (vc - 64))) ⟨rfl, rfl, rfl, rfl, rfl, rfl, rfl, rfl, trivial⟩ ⟨by dsimp only; omega, hnew, hs9, hx9.obj ho8 hob, hx8.trans' hx9 hBt⟩ (by dsimp only; omega))   -- ROUND
      refine W.exit ?_
      refine N.xth ?_
      refine N.xth ?_
      refine N.xeq ?_
      refine N.th ?_
      have hj64 : j = b.length / 64 := by have := of_decide_eq_false h; omega
      have hrest : b.drop (64 * j) = Sh.rest b := by rw [hj64]; rfl
      rw [hj64] at hs8
      rw [hrest] at hv8 hdl ⊢
      refine W.seq ?_
      refine W.reg <| mv rfl rfl <| lenV (t := 24) rfl u_bytes rfl <| gtrI rfl rfl rfl <| L.nil ?_
      refine N.th ?_
      refine W.cond rfl (fun h => ?_) (fun h => ?_)
      · have hv8' := hv8
        rcases RowA.form hv8 with ⟨-, h0⟩ | ⟨ad, cc, e, h1, h2, hc⟩
        · have := of_decide_eq_true h; omega
        cases e
        refine W.reg <| mv rfl rfl <| mv rfl rfl <| app rfl rfl rfl el_bytes (own_nil _ w.heap.size _ _) (by simp) (fun j u hj => (hc j u hj).2) (encB_one _) (by omega) (by simp only [maxLen]; omega) hx8.size fun v' w9 ho9 hx9' _ _ => ?_
        refine asg rfl rfl <| L.nil ?_
        refine N.inb ?_
        have hx9 : Ext none_ w8 w9 := hx9'.mono fun _ _ h => by cases h
        exact N.th (N.meet [(22, _), (21, _), (20, _), (5, _), (4, v'), (3, _), (2, _)] ⟨rfl, rfl, rfl, rfl, rfl, rfl, rfl, trivial⟩ ⟨v', rfl, hx9.obj hs8 id, hx9.obj ho8 id, hx8.trans hx9, by simpa [Byts] using ho9⟩)   -- MEET
      · refine W.skip ?_
        refine N.inb ?_
        have hr0 : Sh.rest b = [] := List.eq_nil_of_length_eq_zero (by have := of_decide_eq_false h; omega)
        exact N.th (N.meet [(22, _), (21, _), (20, _), (5, _), (4, .slice none 0 0), (3, _), (2, _)] ⟨rfl, rfl, rfl, rfl, rfl, rfl, rfl, trivial⟩ ⟨_, rfl, hs8, ho8, hx8, by rw [hr0]; exact own_nil _ _ _ _⟩)   -- MEET
    rintro E' w6 ⟨rv', rfl, hs6, ho6, hx6, hr6⟩
    refine W.reg <| addI (c := ((1 : Nat) : Int)) rfl rfl rfl rfl <| mv rfl rfl <| L.nil ?_
    exact N.th (N.round (x := (1, Sh.fd b (b.length / 64), rv', 8 * b.length)) ⟨rfl, rfl, rfl, rfl, rfl, rfl, rfl, trivial⟩ ⟨hs6, ho6, hx6, .inr ⟨rfl, rfl, hr6, rfl⟩⟩ (by dsimp only; omega))   -- ROUND
  obtain ⟨hll, hst1, hst2, hr64, hst3⟩ := last_len b
  rw [Sh.sum_eq b]
  generalize Sh.fd b (b.length / 64) = s at hs5 ⊢
  refine W.condF rfl ?_
  refine W.exit ?_
  refine N.xth ?_
  refine N.xth ?_
  refine N.xeq ?_
  refine N.th ?_
  refine W.seq ?_
  refine W.reg <| new ze_t128 rfl <| L.nil ?_
  refine N.th ?_
  obtain ⟨g, hg⟩ : ∃ g, g = w5.heap.size := ⟨_, rfl⟩
  obtain ⟨w6, hw6⟩ : ∃ w6, w6 = w5.alloc (.cells (encB (List.replicate 128 0)).toArray t128) := ⟨_, rfl⟩
  have hg6 : w6.heap[g]? = some (.cells (encB (List.replicate 128 0)).toArray t128 (0, 0)) := by rw [hw6, hg]; exact heap_new _ _
  have hx6 : Ext none_ w5 w6 := by rw [hw6]; exact Ext.alloc _ _ _
  rw [show w5.alloc (.cells (Value.cells (.agg (encB (List.replicate 128 0)).toArray)) t128) = w6 from hw6.symm, ← hg]
  have hG : ∀ i, i < w5.heap.size → i = g → none_ i := fun i hi e => by omega
  have hgb : ¬ g = bt := by have := lt_of_obj hs5; omega
  have hr6 : Byts w.heap.size w6 rv (Sh.rest b) := own_ext hrv hx6 fun _ _ => id
  obtain ⟨ra, rc, rfl, hrn, hrm⟩ := own_slice hr6
  refine W.seqM (fun E' w' => E' = [(10, .int .i64 (Sh.rest b).length), (9, .pointer (some ⟨g, 0, none⟩)), (5, .int .u64 ((8 * b.length : Nat) : Int)), (3, .pointer (some ⟨bt, 0, none⟩)), (2, .pointer (some ⟨o, 0, none⟩))] ∧ w'.heap[g]? = some (.cells (encB (Sh.rest b ++ List.replicate (128 - (Sh.rest b).length) 0)).toArray t128 (0, 0)) ∧ Ext none_ w5 w') ?_ ?_
  · refine W.reg <| slA rfl u_t128 el_bytes.szB rfl <| mv rfl rfl ?_
    rcases (Row.own hr6).form with ⟨e, h0, -⟩ | ⟨rb, ro, rc', e, h1, h2, h3, hc⟩
    · have hr0 : Sh.rest b = [] := List.eq_nil_of_length_eq_zero h0
      rw [e]
      refine cpN rfl rfl rfl u_bytes el_bytes.szB <| asg rfl rfl <| L.nil ?_
      refine N.th (N.meet [(10, _), (9, _), (5, _), (3, _), (2, _)] ⟨rfl, rfl, rfl, rfl, rfl, trivial⟩ ⟨?_, ?_, hx6⟩)
      · rw [hr0]; rfl
      · rw [hr0]; exact hg6
    · cases e
      refine cpS (cs := encB (Sh.rest b)) rfl rfl rfl u_bytes el_bytes.szB hg6 (by rw [show (encB (Sh.rest b)).length = (Sh.rest b).length by simp [encB]]; exact (Nat.min_eq_left (by omega)).symm) (fun j u hj => by rw [add_at]; exact hc j u hj) (by simp [encB]; omega) (encB_one _) <| asg rfl rfl <| L.nil ?_
      generalize hwc : World.setRow _ _ _ = wc
      have hgc : wc.heap[g]? = some (.cells (encB (Sh.rest b ++ List.replicate (128 - (Sh.rest b).length) 0)).toArray t128 (0, 0)) := by
        rw [← hwc, setRow_heap _ _ _ _ _ _ hg6]
        have e1 : (encB (List.replicate 128 (0 : UInt8))).drop (encB (Sh.rest b)).length = encB (List.replicate (128 - (Sh.rest b).length) 0) := by
          unfold encB
          rw [List.length_map, ← List.map_drop, List.drop_replicate]
        have e2 : encB (Sh.rest b ++ List.replicate (128 - (Sh.rest b).length) 0) = encB (Sh.rest b) ++ encB (List.replicate (128 - (Sh.rest b).length) 0) := List.map_append
        rw [e2, ← e1, Nat.zero_add, List.take_zero, List.nil_append]
      have hxc : Ext none_ w5 wc := by rw [← hwc]; exact hx6.trans' (Ext.setRow (S := fun k => k = g) _ (fun _ => rfl) _) hG
      refine N.th (N.meet [(10, _), (9, _), (5, _), (3, _), (2, _)] ⟨rfl, rfl, rfl, rfl, rfl, trivial⟩ ⟨?_, hgc, hxc⟩)
      simp [encB]
  rintro E' w7 ⟨rfl, hg7, hx7⟩
  obtain ⟨u0, hu0⟩ : ∃ u, (encB (Sh.rest b ++ List.replicate (128 - (Sh.rest b).length) 0)).toArray[0 + (Sh.rest b).length * 1]? = some u := ⟨_, Array.getElem?_eq_getElem (by simp [encB]; omega)⟩
  refine W.seq ?_
  refine W.reg <| mv rfl rfl <| ixp rfl rfl u_t128 el_bytes.szB rfl (by omega) (by omega) <| st1 rfl rfl sz_u8 rfl hg7 hu0 <| L.nil ?_
  refine N.th ?_
  generalize hw8 : World.setCell _ _ _ = w8
  have hg8 : w8.heap[g]? = some (.cells (encB (Sh.last b 0)).toArray t128 (0, 0)) := by
    rw [← hw8, setCell_heap hg7]
    have e0 : 0 + (((Sh.rest b).length : Nat) : Int).toNat * 1 = (Sh.rest b).length := by omega
    rw [e0]
    have e1 : encB (Sh.rest b ++ List.replicate (128 - (Sh.rest b).length) 0) = encB (Sh.rest b) ++ (.int .u8 ((0 : UInt8).toNat : Int)) :: encB (List.replicate (127 - (Sh.rest b).length) 0) := by
      rw [show 128 - (Sh.rest b).length = (127 - (Sh.rest b).length) + 1 by omega, List.replicate_succ]
      simp [encB]
    have e2 : encB (Sh.last b 0) = encB (Sh.rest b) ++ (.int .u8 128) :: encB (List.replicate (127 - (Sh.rest b).length) 0) := by
      have e3 : Sh.last b 0 = Sh.rest b ++ 128 :: List.replicate (127 - (Sh.rest b).length) 0 := by
        unfold Sh.last
        rw [List.take_zero, List.append_nil, List.append_assoc, List.append_assoc, List.replicate_append_replicate]
        simp only [List.cons_append, List.nil_append]
        congr 3
        omega
      rw [e3]
      simp [encB]
    rw [e1, e2]
    have e4 : (encB (Sh.rest b)).length = (Sh.rest b).length := by simp [encB]
    conv => lhs; arg 1; arg 1; arg 2; rw [← e4]
    rw [setL]
  have hx8 : Ext none_ w5 w8 := by rw [← hw8]; exact hx7.trans' (Ext.setCell (S := fun k => k = g) _ (fun _ => rfl) _) hG
  clear hu0 hg7 hx7 hw8
  refine W.seq ?_
  refine W.reg <| asg rfl rfl <| L.nil ?_
  refine N.th ?_
  refine W.seqM (fun E' w' => E' = [(11, .int .i64 (Sh.stop (Sh.rest b).length)), (9, .pointer (some ⟨g, 0, none⟩)), (5, .int .u64 ((8 * b.length : Nat) : Int)), (3, .pointer (some ⟨bt, 0, none⟩)), (2, .pointer (some ⟨o, 0, none⟩))] ∧ w' = w8) ?_ ?_   -- CUT
  · refine W.seq ?_
    refine W.reg <| mv rfl rfl <| addI (c := (((Sh.rest b).length + 9 : Nat) : Int)) rfl rfl rfl (by rw [w64 (by omega) (by omega)]; omega) <| gtrI rfl rfl rfl <| L.nil ?_
    refine N.th ?_
    refine W.cond rfl (fun h => ?_) (fun h => ?_)
    · refine W.reg <| asg rfl rfl <| L.nil ?_
      refine N.th (N.meet [(11, _), (9, _), (5, _), (3, _), (2, _)] ⟨rfl, rfl, rfl, rfl, rfl, trivial⟩ ⟨?_, rfl⟩)   -- MEET
      have : Sh.stop (Sh.rest b).length = 128 := by have := of_decide_eq_true h; unfold Sh.stop; rw [if_pos (by omega)]
      rw [this]; rfl
    · refine W.skip ?_
      refine N.th (N.meet [(11, _), (9, _), (5, _), (3, _), (2, _)] ⟨rfl, rfl, rfl, rfl, rfl, trivial⟩ ⟨?_, rfl⟩)   -- MEET
      have : Sh.stop (Sh.rest b).length = 64 := by have := of_decide_eq_false h; unfold Sh.stop; rw [if_neg (by omega)]
      rw [this]; rfl
  rintro E' w9 ⟨rfl, rfl⟩
  refine W.seq ?_
  refine W.seq ?_
  refine W.reg <| mv rfl rfl <| L.nil ?_
  refine N.th ?_
  refine W.block ?_
  refine W.loop (X := Nat) (fun i => [(80, .int .i64 i), (11, .int .i64 (Sh.stop (Sh.rest b).length)), (9, .pointer (some ⟨g, 0, none⟩)), (5, .int .u64 ((8 * b.length : Nat) : Int)), (3, .pointer (some ⟨bt, 0, none⟩)), (2, .pointer (some ⟨o, 0, none⟩))])
    (fun i w' => i ≤ 8 ∧ w'.heap[g]? = some (.cells (encB (Sh.last b i)).toArray t128 (0, 0)) ∧ Ext none_ w5 w') (fun i => 8 - i) 0 ⟨rfl, rfl, rfl, rfl, rfl, rfl, trivial⟩ ⟨by omega, hg8, hx8⟩ ?_
  rintro i w10 ⟨hi, hg10, hx10⟩
  refine W.seq ?_
  refine W.reg <| lssI rfl rfl rfl <| L.nil ?_
  refine N.th ?_
  refine W.seq ?_
  refine W.cond rfl (fun h => ?_) (fun h => ?_)
  · refine W.skip ?_
    refine N.th ?_
    have hi1 : i < 8 := by have := of_decide_eq_true h; omega
    obtain ⟨y, hy⟩ : ∃ y : UInt8, y = UInt8.ofNat (8 * b.length / 2 ^ (8 * (7 - i))) := ⟨_, rfl⟩
    have hget : (Sh.len8 (8 * b.length))[i]? = some y := by rw [hy]; simp [Sh.len8, hi1]
    have hlen10 : (encB (Sh.last b i)).length = 128 := by
      unfold Sh.last
      simp only [encB, List.length_map, List.length_append, List.length_cons, List.length_nil, List.length_replicate, List.length_take, Sh.len8_len]
      omega
    obtain ⟨u0, hu0⟩ : ∃ u, (encB (Sh.last b i)).toArray[0 + (Sh.stop (Sh.rest b).length - 8 + i) * 1]? = some u := ⟨_, Array.getElem?_eq_getElem (by simp [hlen10]; omega)⟩
    refine W.seq ?_
    refine W.block ?_
    refine W.seq ?_
    refine W.reg <| mv rfl rfl <| asg rfl rfl <| L.nil ?_
    refine N.th ?_
    refine W.reg <| mv rfl rfl <| subI (c := ((Sh.stop (Sh.rest b).length - 8 : Nat) : Int)) rfl rfl rfl (by rw [w64 (by omega) (by omega)]; omega) <| mv rfl rfl <| addI (c := ((Sh.stop (Sh.rest b).length - 8 + i : Nat) : Int)) rfl rfl rfl (by rw [w64 (by omega) (by omega)]; omega) <| mv rfl rfl <| mv rfl rfl <| mulI (c := ((8 * i : Nat) : Int)) rfl rfl rfl (by rw [w64 (by omega) (by omega)]; omega) <| subI (c := ((8 * (7 - i) : Nat) : Int)) rfl rfl rfl (by rw [w64 (by omega) (by omega)]; omega) <| cvtI (c := ((8 * (7 - i) : Nat) : Int)) rfl u_uint u_int rfl (wu64 (by omega) (by omega)) <|
      shrI (c := ((8 * b.length / 2 ^ (8 * (7 - i)) : Nat) : Int)) rfl rfl rfl (by omega) (by
        have h1 : min (((8 * (7 - i) : Nat) : Int)).toNat IntKind.u64.bits = 8 * (7 - i) := by simp [IntKind.bits]; omega
        rw [h1, Int.fdiv_eq_ediv_of_nonneg _ (Int.pow_nonneg (by decide))]
        simp) <| cvtI (c := (y.toNat : Int)) rfl u_u8 u_u64 rfl (by rw [hy]; simp [IntKind.wrap, IntKind.bits, IntKind.signed]) <|
      ixp rfl rfl u_t128 el_bytes.szB rfl (by omega) (by omega) <| st1 rfl rfl sz_u8 rfl hg10 hu0 <| L.nil ?_
    refine N.inb ?_
    refine N.th ?_
    refine W.reg <| addI (c := ((i + 1 : Nat) : Int)) rfl rfl rfl (by rw [w64 (by omega) (by omega)]; simp) <| mv rfl rfl <| L.nil ?_
    refine N.th (N.round (x := i + 1) ⟨rfl, rfl, rfl, rfl, rfl, rfl, trivial⟩ ⟨by omega, ?_, hx10.trans' (Ext.setCell (S := fun k => k = g) _ (fun _ => rfl) _) hG⟩ (by omega))   -- ROUND
    rw [setCell_heap hg10, ← setM b hi1 hget]
    have e0 : 0 + (((Sh.stop (Sh.rest b).length - 8 + i : Nat)) : Int).toNat * 1 = Sh.stop (Sh.rest b).length - 8 + i := by omega
    rw [e0]
  refine W.exit ?_
  refine N.xth ?_
  refine N.xth ?_
  refine N.xeq ?_
  refine N.th ?_
  have hi8 : i = 8 := by have := of_decide_eq_false h; omega
  subst hi8
  have hs10 : StAt w10 bt (Sh.fdl s (Sh.last b 8) 0) := hx10.obj hs5 id
  have ho10 := hx10.obj ho5 id
  have hx010 := hx5.trans hx10
  generalize Sh.last b 8 = L8 at hg10 hll hs10 ⊢
  generalize Sh.stop (Sh.rest b).length = sp at hst1 hst2 hst3 ⊢
  refine W.seq ?_
  refine W.seq ?_
  refine W.reg <| asg rfl rfl <| L.nil ?_
  refine N.th ?_
  refine W.block ?_
  refine W.loop (X := Nat) (fun j => [(13, .int .i64 ((64 * j : Nat) : Int)), (11, .int .i64 sp), (9, .pointer (some ⟨g, 0, none⟩)), (3, .pointer (some ⟨bt, 0, none⟩)), (2, .pointer (some ⟨o, 0, none⟩))])
    (fun j w' => 64 * j ≤ sp ∧ StAt w' bt (Sh.fdl s L8 j) ∧ w'.heap[g]? = some (.cells (encB L8).toArray t128 (0, 0)) ∧ w'.heap[o]? = some (.cells (encB (List.replicate 32 0)).toArray tKey (0, 0)) ∧ Ext none_ w w') (fun j => sp - 64 * j) 0 ⟨rfl, rfl, rfl, rfl, rfl, trivial⟩ ⟨by omega, hs10, hg10, ho10, hx010⟩ ?_
  rintro j w11 ⟨hj, hs11, hg11, ho11, hx11⟩
  refine W.seq ?_
  refine W.seq ?_
  refine W.reg <| mv rfl rfl <| mv rfl rfl <| lssI rfl rfl rfl <| L.nil ?_
  refine N.th ?_
  refine W.cond rfl (fun h => ?_) (fun h => ?_)
  · refine W.skip ?_
    refine N.th ?_
    have hj1 : 64 * j + 64 ≤ sp := by have := of_decide_eq_true h; omega
    have hbl : ((L8.drop (64 * j)).take 64).length = 64 := by rw [List.length_take, List.length_drop]; omega
    have hbyt : BytA w11 (.slice (some ⟨g, 0 + 64 * j * 1, none⟩) (64 * j + 64 - 64 * j) (128 - 64 * j)) ((L8.drop (64 * j)).take 64) := by
      refine ⟨some ⟨g, 0 + 64 * j * 1, none⟩, 128 - 64 * j, by rw [hbl]; congr 1; omega, by rw [hbl]; omega, by simp [maxLen]; omega, (fun h => by cases h), fun q u hq => ⟨_, rfl, lt_of_obj hg11, ?_⟩⟩
      rw [add_at]
      refine cell_of hg11 ?_
      have hq64 : q < 64 := by have := (List.getElem?_eq_some_iff.1 hq).1; simp [encB] at this; omega
      rw [encB, List.getElem?_map, List.getElem?_take, if_pos hq64, List.getElem?_drop] at hq
      rw [List.getElem?_toArray, encB, List.getElem?_map, ← hq]
      congr 2
      omega
    refine W.seq ?_
    refine W.block ?_
    refine W.reg <| mv rfl rfl <| mv rfl rfl <| mv rfl rfl <| addI (c := ((64 * j + 64 : Nat) : Int)) rfl rfl rfl (by rw [w64 (by omega) (by omega)]; omega) <| slAlh (i := 64 * j) (j := 64 * j + 64) rfl rfl rfl u_t128 el_bytes.szB rfl (by omega) (by omega) (by omega) <| call (vs := [_, _]) rfl rfl ok_sturn (c_sturn hs11 hbyt (by omega)) ?_
    rintro e w12 ⟨rfl, hs12, hx12⟩
    refine ⟨_, rfl, ?_⟩
    refine L.nil ?_
    refine N.inb ?_
    refine N.th ?_
    refine W.reg <| mv rfl rfl <| addI (c := ((64 * (j + 1) : Nat) : Int)) rfl rfl rfl (by rw [w64 (by omega) (by omega)]; omega) <| asg rfl rfl <| L.nil ?_
    refine N.th (N.round (x := j + 1) ⟨rfl, rfl, rfl, rfl, rfl, trivial⟩ ⟨by omega, ?_, hx12.obj hg11 hgb, hx12.obj ho11 hob, hx11.trans' hx12 hBt⟩ (by omega))   -- ROUND
    have e : Sh.turn (Sh.fdl s L8 j) ((L8.drop (64 * j)).take 64) = Sh.fdl s L8 (j + 1) := Sh.turn_take _ _ _ fun i hi => by rw [List.getElem?_take, if_pos hi]
    rw [← e]
    exact hs12
  refine W.exit ?_
  refine N.xth ?_
  refine N.xth ?_
  refine N.xeq ?_
  refine N.th ?_
  have hjl : sp / 64 = j := by have := of_decide_eq_false h; omega
  rw [hjl]
  generalize Sh.fdl s L8 j = s2 at hs11 ⊢
  refine W.seq ?_
  refine W.reg <| new ze_Key rfl <| L.nil ?_
  refine N.th ?_
  obtain ⟨q, hq⟩ : ∃ q, q = w11.heap.size := ⟨_, rfl⟩
  obtain ⟨w12, hw12⟩ : ∃ w12, w12 = w11.alloc (.cells (encB (List.replicate 32 0)).toArray tKey) := ⟨_, rfl⟩
  have hq12 : w12.heap[q]? = some (.cells (encB ((Sh.dig s2).take 0) ++ encB (List.replicate (32 - 0) 0)).toArray tKey (0, 0)) := by rw [hw12, hq]; exact heap_new _ _
  have hx12 : Ext none_ w11 w12 := by rw [hw12]; exact Ext.alloc _ _ _
  rw [show w11.alloc (.cells (Value.cells (.agg (encB (List.replicate 32 0)).toArray)) tKey) = w12 from hw12.symm, ← hq]
  have hQ : ∀ i, i < w11.heap.size → i = q → none_ i := fun i hi e => by omega
  refine W.seq ?_
  refine W.seq ?_
  refine W.reg <| mv rfl rfl <| L.nil ?_
  refine N.th ?_
  refine W.block ?_
  refine W.loop (X := Nat) (fun i => [(107, .int .i64 i), (14, .pointer (some ⟨q, 0, none⟩)), (3, .pointer (some ⟨bt, 0, none⟩)), (2, .pointer (some ⟨o, 0, none⟩))])
    (fun i w' => i ≤ 32 ∧ w'.heap[q]? = some (.cells (encB ((Sh.dig s2).take i) ++ encB (List.replicate (32 - i) 0)).toArray tKey (0, 0)) ∧ Ext none_ w11 w') (fun i => 32 - i) 0 ⟨rfl, rfl, rfl, rfl, trivial⟩ ⟨by omega, hq12, hx12⟩ ?_
  rintro i w13 ⟨hi, hq13, hx13⟩
  refine W.seq ?_
  refine W.reg <| lssI rfl rfl rfl <| L.nil ?_
  refine N.th ?_
  refine W.seq ?_
  refine W.cond rfl (fun h => ?_) (fun h => ?_)
  · refine W.skip ?_
    refine N.th ?_
    have hi1 : i < 32 := by have := of_decide_eq_true h; omega
    have hs13 : StAt w13 bt s2 := hx13.obj hs11 id
    obtain ⟨y, hy⟩ : ∃ y : UInt8, y = UInt8.ofNat ((Sh.at_ s2.l (i / 4)) >>> (24 - 8 * (i % 4))).toNat := ⟨_, rfl⟩
    have hget : (Sh.dig s2)[i]? = some y := by rw [hy]; simp [Sh.dig, hi1]
    obtain ⟨u0, hu0⟩ : ∃ u, (encB ((Sh.dig s2).take i) ++ encB (List.replicate (32 - i) 0)).toArray[0 + i * 1]? = some u := ⟨_, Array.getElem?_eq_getElem (by simp [encB, Sh.dig_len]; omega)⟩
    refine W.seq ?_
    refine W.block ?_
    refine W.seq ?_
    refine W.reg <| mv rfl rfl <| asg rfl rfl <| L.nil ?_
    refine N.th ?_
    refine W.reg <| mv rfl rfl <| mv rfl rfl <| mv rfl rfl <| quoI (c := ((i / 4 : Nat) : Int)) rfl rfl rfl (by decide) (by rw [show ((i : Int).tdiv 4) = ((i / 4 : Nat) : Int) from rfl]; exact w64 (by omega) (by omega)) <| nilc rfl rfl <| fad rfl fl_St_0 rfl <| ixp rfl rfl u_t8 sz_u32 rfl (by omega) (by omega) <| ld1 (v := V32 (Sh.at_ s2.l (i / 4))) rfl ag_u32 rfl (cell_of hs13 (by rw [show 0 + 0 + ((i / 4 : Nat) : Int).toNat * 1 = i / 4 by omega]; exact rd32 (by simp [Sh.St.l]; omega))) <| mv rfl rfl <| remI (c := ((i % 4 : Nat) : Int)) rfl rfl rfl (by decide) rfl <| mulI (c := ((8 * (i % 4) : Nat) : Int)) rfl rfl rfl (by rw [w64 (by omega) (by omega)]; omega) <| subI (c := ((24 - 8 * (i % 4) : Nat) : Int)) rfl rfl rfl (by rw [w64 (by omega) (by omega)]; omega) <| cvtI (c := ((24 - 8 * (i % 4) : Nat) : Int)) rfl u_uint u_int rfl (wu64 (by omega) (by omega)) <| shr32 (k := 24 - 8 * (i % 4)) rfl rfl rfl (by omega) <| b8 rfl u_u8 u_u32 rfl <|
      ixp rfl rfl u_Key el_bytes.szB rfl (by omega) (by omega) <| st1 rfl rfl sz_u8 rfl hq13 hu0 <| L.nil ?_
    refine N.inb ?_
    refine N.th ?_
    refine W.reg <| addI (c := ((i + 1 : Nat) : Int)) rfl rfl rfl (by rw [w64 (by omega) (by omega)]; simp) <| mv rfl rfl <| L.nil ?_
    refine N.th (N.round (x := i + 1) ⟨rfl, rfl, rfl, rfl, trivial⟩ ⟨by omega, ?_, hx13.trans' (Ext.setCell (S := fun k => k = q) _ (fun _ => rfl) _) hQ⟩ (by omega))   -- ROUND
    rw [← hy, setCell_heap hq13, ← setB (Sh.dig_len s2) hi1 hget]
    have : 0 + ((i : Nat) : Int).toNat * 1 = i := by omega
    rw [this]
  · refine W.exit ?_
    refine N.xth ?_
    refine N.xth ?_
    refine N.xeq ?_
    refine N.th ?_
    have hi32 : i = 32 := by have := of_decide_eq_false h; omega
    subst hi32
    have hq9 : w13.heap[q]? = some (.cells (encB (Sh.dig s2)).toArray tKey (0, 0)) := by
      rw [hq13, List.take_of_length_le (by rw [Sh.dig_len]; exact Nat.le_refl _)]
      simp [encB]
    have hlen : (encB (Sh.dig s2)).length = 32 := by simp [encB, Sh.dig_len]
    refine W.seq ?_
    refine W.reg <| ldk (cs := encB (Sh.dig s2)) rfl ag_Key sz_Key rfl hlen (row_cells hq9) <| stR (cells := (encB (Sh.dig s2)).toArray) rfl rfl (by rw [sz_Key]; simp [hlen]) (oneB _) (hx13.obj ho11 id) (by simp [encB, Sh.dig_len]) <| L.nil ?_
    refine N.th ?_
    refine W.ret ?_
    refine N.retC (cs := encB (Sh.dig s2)) rfl rfl ag_Key (by rw [sz_Key, hlen]) (row_cells (setRow_heap _ _ _ _ _ _ (hx13.obj ho11 id))) ?_
    exact ⟨rfl, (hx11.trans hx13).trans' (Ext.setRow (S := fun k => k = o) _ (fun _ => rfl) _) (fun i hi e => by omega)⟩
end Go.Proofs.YtmdpmpdlkaogdaaDoor

namespace Go.Proofs.YtmdpmpdlkaogdaaDoor
open Go Go.RowKit Vc
theorem ok_Digest : FnOk P 8 := ⟨_, Tryd.func8, by kernel_rfl, by kernel_rfl⟩
theorem ok_r1Of : FnOk P 9 := ⟨_, Tryd.func9, by kernel_rfl, by kernel_rfl⟩
/-- 'append(s, x...)' of bytes that came in onto bytes of the call's own. -/
theorem appB {P : Program} {Q : Exit → Act → World → Prop} {ds : List Deferred} {n : Nat} {E : Env} {w : World} {ops : Array Oper} {l : List Oper} {mm : Nat} {d : Nat} {ty : TypeId} {pos : String} {af : Array Edge} {t : TypeId}
    {B : Nat} {s x : Operand} {v bv : Value} {xs b : List UInt8} (hs : opd E s = some v) (hx : opd E x = some bv) (hown : Byts B w v xs) (hb : BytA w bv b) (ht : ElT P t tB (.int .u8 0) 1 1) (hd : Nat.blt d n = true) (hl : xs.length + b.length ≤ 1000000000) (hB : B ≤ w.heap.size)
    (k : ∀ v' w', Byts B w' v' (xs ++ b) → Ext (fun k => v.ownBlock = some k) w w' → L Fence.wide mm P ds n ops l Q ((d, v') :: E) w') : L Fence.wide mm P ds n ops (⟨some d, .call ⟨.builtin .append, #[s, x], #[t, t]⟩, ty, pos, af, none⟩ :: l) Q E w := by
  rcases hb.form with ⟨rfl, h0⟩ | ⟨ad, c, rfl, h1, h2, hc⟩
  · obtain rfl : b = [] := List.eq_nil_of_length_eq_zero h0
    obtain ⟨a, ca, rfl, hca, -⟩ := own_slice hown
    exact appN (st := .plain Fence.wide mm) hs hx hd ht hca (k _ _ (by simpa using hown) (Ext.refl _ _))
  · exact app hs hx hd ht hown (by simp [encB]) (fun j u hj => (hc j u hj).2) (encB_one b) (by simp only [Nat.mul_one]; omega) (by simp only [maxLen]; omega) hB fun v' w' ho hx' _ _ => k v' w' (by simpa [Byts, encB] using ho) hx'

theorem c_Digest {w : World} {bv : Value} {b : List UInt8} (hb : BytA w bv b) (hl : b.length ≤ 100000000) : Calls P 8 #[bv] w fun e w' => e = .returned (.agg (encB (Sh.sum b)).toArray) ∧ Ext none_ w w' := by
  obtain ⟨a, c, rfl, hn, hm, -, -⟩ := id hb
  refine enter (l := [_]) (n := 6) Tryd.func8 rfl rfl rfl ?_
  refine W.seq ?_
  refine W.reg <| new ze_Key rfl <| L.nil ?_
  refine N.th ?_
  have ho1 : (w.alloc (.cells (encB (List.replicate 32 0)).toArray tKey)).heap[w.heap.size]? = some (.cells (encB (List.replicate 32 0)).toArray tKey (0, 0)) := heap_new _ _
  have hx1 : Ext none_ w (w.alloc (.cells (encB (List.replicate 32 0)).toArray tKey)) := Ext.alloc _ _ _
  refine W.seq ?_
  refine W.reg <| mv rfl rfl <| bls (vs := #[(0, .slice a b.length c)]) (cs := #[.slice a b.length c]) (e := 24) rfl rfl (fun _ => by kernel_rfl) ?_
  generalize hw1 : w.alloc (.cells (Value.cells (.agg (encB (List.replicate 32 0)).toArray)) tKey) = w1
  rw [show w.alloc (.cells (encB (List.replicate 32 0)).toArray tKey) = w1 from hw1] at ho1 hx1
  have hx2 : Ext none_ w1 (w1.alloc (.cells #[.slice a b.length c] 24)) := Ext.alloc _ _ _
  have hc2 : (w1.alloc (.cells #[.slice a b.length c] 24)).cell? ⟨w1.heap.size, 0, none⟩ = some (.slice a b.length c) := cell_of (heap_new _ _) rfl
  have hlt : w1.heap.size < (w1.alloc (.cells #[.slice a b.length c] 24)).heap.size := by simp
  refine call (vs := [_]) rfl rfl ok_sSum (c_sSum (bv := .slice a b.length c) (b := b) ⟨some ⟨w1.heap.size, 0, none⟩, 1, rfl, Nat.le_refl _, by simp [maxLen], (fun h => by cases h), fun j u hj => ?_⟩ ((hb.ext0 hx1).ext0 hx2) hl) ?_
  · rcases j with _ | j
    · cases hj
      exact ⟨_, rfl, hlt, by rw [add_at]; exact hc2⟩
    · cases hj
  rintro e w3 ⟨rfl, hx3⟩
  refine ⟨_, rfl, ?_⟩
  have ho3 := (hx2.trans hx3).obj ho1 id
  have hlen : (encB (Sh.sum b)).length = 32 := by simp [encB, Sh.sum, Sh.dig_len]
  refine stR (cells := (encB (Sh.sum b)).toArray) rfl rfl (by rw [sz_Key]; simp [hlen]) (oneB _) ho3 (by simp [encB, Sh.sum, Sh.dig_len]) <| L.nil ?_
  refine N.th ?_
  refine W.ret ?_
  refine N.retC (cs := encB (Sh.sum b)) rfl rfl ag_Key (by rw [sz_Key, hlen]) (row_cells (setRow_heap _ _ _ _ _ _ ho3)) ?_
  exact ⟨rfl, ((hx1.trans hx2).trans hx3).trans' (Ext.setRow (S := fun k => k = w.heap.size) _ (fun _ => rfl) _) (fun i hi e => by omega)⟩

theorem c_r1Of {w : World} {pv : Value} {vs : List (Value × List UInt8)} (hp : RowA w pv vs.length (vs.map (·.1))) (hb : ∀ p ∈ vs, BytA w p.1 p.2) (hl : (total vs).length ≤ 100000000) (hvl : vs.length ≤ 1000) : Calls P 9 #[pv] w fun e w' => e = .returned (.agg (encB (Sh.sum (total vs))).toArray) ∧ Ext none_ w w' := by
  obtain ⟨a, c, rfl, hn, hm, -, -⟩ := id hp
  refine enter (l := [_]) (n := 19) Tryd.func9 rfl rfl rfl ?_
  refine W.seq ?_
  refine W.reg <| new ze_Key rfl <| L.nil ?_
  refine N.th ?_
  obtain ⟨o, ho⟩ : ∃ o, o = w.heap.size := ⟨_, rfl⟩
  obtain ⟨w1, hw1⟩ : ∃ w1, w1 = w.alloc (.cells (encB (List.replicate 32 0)).toArray tKey) := ⟨_, rfl⟩
  have ho1 : w1.heap[o]? = some (.cells (encB (List.replicate 32 0)).toArray tKey (0, 0)) := by rw [hw1, ho]; exact heap_new _ _
  have hx1 : Ext none_ w w1 := by rw [hw1]; exact Ext.alloc _ _ _
  rw [show w.alloc (.cells (Value.cells (.agg (encB (List.replicate 32 0)).toArray)) tKey) = w1 from hw1.symm, ← ho]
  refine W.seq ?_
  refine W.reg <| asg rfl rfl <| L.nil ?_
  refine N.th ?_
  refine W.seq ?_
  refine W.seq ?_
  refine W.reg <| asg rfl rfl <| L.nil ?_
  refine N.th ?_
  refine W.block ?_
  refine W.loop (X := Nat × Value) (fun x => [(4, .int .i64 x.1), (3, x.2), (2, .pointer (some ⟨o, 0, none⟩)), (0, .slice a vs.length c)])
    (fun x w' => x.1 ≤ vs.length ∧ Byts w1.heap.size w' x.2 (total (vs.take x.1)) ∧ Ext none_ w1 w') (fun x => vs.length - x.1) (0, .slice none 0 0) ⟨rfl, rfl, rfl, rfl, trivial⟩ ⟨by omega, own_nil _ _ _ _, Ext.refl _ _⟩ ?_
  rintro ⟨i, v⟩ w2 ⟨hi, hv, hx2⟩
  dsimp only at hi hv ⊢
  refine W.seq ?_
  refine W.seq ?_
  refine W.reg <| mv rfl rfl <| mv rfl rfl <| lenV (t := 52) rfl u_bss rfl <| lssI rfl rfl rfl <| L.nil ?_
  refine N.th ?_
  refine W.cond rfl (fun h => ?_) (fun h => ?_)
  · refine W.skip ?_
    refine N.th ?_
    have hi1 : i < vs.length := by have := of_decide_eq_true h; omega
    obtain ⟨p, hpe⟩ : ∃ p, vs[i]? = some p := ⟨_, List.getElem?_eq_getElem hi1⟩
    obtain ⟨pa, po, pc, e, -, -, -, hc⟩ := RowA.plain (hp.ext0 (hx1.trans hx2)) (fun e => by rw [List.map_eq_nil_iff] at e; rw [e] at hi1; cases hi1)
    cases e
    have htk : total (vs.take (i + 1)) = total (vs.take i) ++ p.2 := by rw [List.take_add_one, hpe]; exact total_snoc _ _
    have hsz : (total (vs.take i)).length + p.2.length ≤ (total vs).length := by
      rw [← List.length_append, ← htk]
      have e2 : total (vs.take (i + 1)) ++ total (vs.drop (i + 1)) = total vs := by
        rw [show total (vs.take (i + 1)) ++ total (vs.drop (i + 1)) = total (vs.take (i + 1) ++ vs.drop (i + 1)) by simp only [total, List.map_append, List.flatten_append], List.take_append_drop]
      rw [← e2, List.length_append]
      omega
    refine W.seq ?_
    refine W.block ?_
    refine W.reg <| mv rfl rfl <| mv rfl rfl <| mv rfl rfl <| ixa rfl rfl u_bss sz_bytes rfl (by omega) (by omega) <| ld1 (v := p.1) rfl ag_bytes rfl (by
        rw [Int.toNat_natCast, Nat.mul_one]
        exact hc i _ (by simp [hpe])) <| appB rfl rfl hv ((hb p (List.mem_of_getElem? hpe)).ext0 (hx1.trans hx2)) el_bytes rfl (by omega) hx2.size fun v' w3 hv3 hx3 => ?_
    refine asg rfl rfl <| L.nil ?_
    refine N.inb ?_
    refine N.th ?_
    refine W.reg <| mv rfl rfl <| addI (c := ((i + 1 : Nat) : Int)) rfl rfl rfl (by rw [w64 (by omega) (by omega)]; simp) <| asg rfl rfl <| L.nil ?_
    exact N.th (N.round (x := (i + 1, v')) ⟨rfl, rfl, rfl, rfl, trivial⟩ ⟨by dsimp only; omega, by dsimp only; rw [htk]; exact hv3, hx2.own hv hx3⟩ (by dsimp only; omega))   -- ROUND
  refine W.exit ?_
  refine N.xth ?_
  refine N.xth ?_
  refine N.xeq ?_
  refine N.th ?_
  have hil : i = vs.length := by have := of_decide_eq_false h; omega
  rw [hil, List.take_length] at hv
  refine W.seq ?_
  refine W.reg <| mv rfl rfl <| call (vs := [_]) rfl rfl ok_rSum (c_rSum (Row.own hv).arg hl) ?_
  rintro e w3 ⟨rfl, hx3⟩
  refine ⟨_, rfl, ?_⟩
  have ho3 := (hx2.trans hx3).obj ho1 id
  have hlen : (encB (Sh.sum (total vs))).length = 32 := by simp [encB, Sh.sum, Sh.dig_len]
  refine stR (cells := (encB (Sh.sum (total vs))).toArray) rfl rfl (by rw [sz_Key]; simp [hlen]) (oneB _) ho3 (by simp [encB, Sh.sum, Sh.dig_len]) <| L.nil ?_
  refine N.th ?_
  refine W.ret ?_
  refine N.retC (cs := encB (Sh.sum (total vs))) rfl rfl ag_Key (by rw [sz_Key, hlen]) (row_cells (setRow_heap _ _ _ _ _ _ ho3)) ?_
  exact ⟨rfl, ((hx1.trans hx2).trans hx3).trans' (Ext.setRow (S := fun k => k = o) _ (fun _ => rfl) _) (fun i hi e => by omega)⟩
end Go.Proofs.YtmdpmpdlkaogdaaDoor

namespace Go.Proofs.YtmdpmpdlkaogdaaDoor
open Go Go.RowKit Vc
namespace Ar
/-- A number's bytes, the highest first. -/
def num (n k : Nat) : List UInt8 := (List.range k).map fun i => UInt8.ofNat (n / 2 ^ (8 * (k - 1 - i)))
theorem num_len (n k : Nat) : (num n k).length = k := by simp [num]
theorem num_get {n k i : Nat} (h : i < k) : (num n k)[i]? = some (UInt8.ofNat (n / 2 ^ (8 * (k - 1 - i)))) := by simp [num, h]
end Ar
/-- Bytes of the call's own, or those of a text that has no room. -/
def Buf (B : Nat) (w : World) (v : Value) (xs : List UInt8) : Prop := Byts B w v xs ∨ ∃ g fz, v = .slice (some ⟨g, 0, none⟩) xs.length xs.length ∧ B ≤ g ∧ w.heap[g]? = some (.cells (encB xs).toArray tB fz)
/-- Where a row lies that came of another. -/
def From (w : World) (v v' : Value) : Prop := ∀ b, v'.ownBlock = some b → v.ownBlock = some b ∨ w.heap.size ≤ b
theorem From.refl (w : World) (v : Value) : From w v v := fun _ h => .inl h
theorem From.trans {w w1 : World} {u v x : Value} (h : From w u v) (k : From w1 v x) (hs : w.heap.size ≤ w1.heap.size) : From w u x := fun b hb => by
  rcases k b hb with e | e
  · exact h b e
  · exact .inr (by omega)
theorem Ext.from_ {w w1 w2 : World} {v v' : Value} (h : Ext (fun b => v.ownBlock = some b) w w1) (hf : From w v v') (hx : Ext (fun b => v'.ownBlock = some b) w1 w2) : Ext (fun b => v.ownBlock = some b) w w2 :=
  h.trans' hx fun i hi e => by
    rcases hf i e with e | e
    · exact e
    · omega

section ops
variable {mm : Nat} {P : Program} {ds : List Deferred} {n : Nat} {Q : Exit → Act → World → Prop} {E : Env} {w : World} {ops : Array Oper} {l : List Oper}
variable {d1 d2 : Nat} {ty1 ty2 : TypeId} {pos1 pos2 : String} {af1 af2 : Array Edge}
/-- One byte more. -/
theorem pushB {t : TypeId} {B : Nat} {s x : Operand} {v : Value} {xs : List UInt8} {y : UInt8} (hx : opd E x = some (.int .u8 (y.toNat : Int))) (hd1 : Nat.blt d1 n = true) (hs : opd ((d1, .slice (some ⟨w.heap.size, 0, none⟩) 1 1) :: E) s = some v) (hd2 : Nat.blt d2 n = true)
    (hr : ∀ w, (Instr.buildSlice t 1 #[(0, .int .u8 (y.toNat : Int))]).run P w = .ok (.slice (some ⟨w.heap.size, 0, none⟩) 1 1) (w.alloc (.cells #[.int .u8 (y.toNat : Int)] tB))) (ht : ElT P t tB (.int .u8 0) 1 1)
    (hown : Buf B w v xs) (hl : xs.length ≤ 1000000000) (hB : B ≤ w.heap.size)
    (k : ∀ v' w', Byts B w' v' (xs ++ [y]) → Ext (fun k => v.ownBlock = some k) w w' → From w v v' → L Fence.wide mm P ds n ops l Q ((d2, v') :: (d1, .slice (some ⟨w.heap.size, 0, none⟩) 1 1) :: E) w') :
    L Fence.wide mm P ds n ops (⟨some d1, .buildSlice t 1 #[(0, x)], ty1, pos1, af1, none⟩ :: ⟨some d2, .call ⟨.builtin .append, #[s, .tmp d1], #[t, t]⟩, ty2, pos2, af2, none⟩ :: l) Q E w := by
  have h0 : opd ((d1, .slice (some ⟨w.heap.size, 0, none⟩) 1 1) :: E) (.tmp d1) = some (.slice (some ⟨w.heap.size, 0, none⟩) 1 1) := by simp [opd, getE]
  have hxa : Ext none_ w (w.alloc (.cells #[.int .u8 (y.toNat : Int)] tB)) := Ext.alloc _ _ _
  have hxs : (w.alloc (.cells #[.int .u8 (y.toNat : Int)] tB)).heap.size = w.heap.size + 1 := by simp
  have hnews : ∀ j u, (encB [y])[j]? = some u → (w.alloc (.cells #[.int .u8 (y.toNat : Int)] tB)).cell? ((⟨w.heap.size, 0, none⟩ : Addr).add j) = some u := fun j u hj => by
    rw [add_at, Nat.zero_add]
    refine cell_of (heap_new _ _) ?_
    rcases j with _ | j
    · cases hj; rfl
    · cases hj
  refine bls (st := .plain Fence.wide mm) (vs := #[(0, .int .u8 (y.toNat : Int))]) (cs := #[.int .u8 (y.toNat : Int)]) (e := tB) (by simp [hx]) hd1 hr ?_
  rcases hown with hown | ⟨g, fz, rfl, hg, hc⟩
  · refine app hs h0 hd2 ht (own_ext hown hxa fun _ _ => id) (news := encB [y]) (by simp [encB]) hnews (encB_one _) (by simp only [Nat.mul_one]; omega) (by simp only [maxLen]; omega) (by omega) fun v' w' ho hx2 _ hat => k v' w' (by simpa [Byts, encB] using ho) (hxa.none.trans hx2) fun b hb => ?_
    rcases hat with e | e
    · rw [e] at hb; exact .inl hb
    · rw [e] at hb; cases hb; exact .inr (by omega)
  · have hgl := lt_of_obj hc
    refine appG (st := .plain Fence.wide mm) hs h0 hd2 ht (olds := encB xs) (by simp [encB]) (fun j u hj => by rw [add_at, Nat.zero_add]; exact cell_of (hxa.obj hc id) (by simpa using hj)) (news := encB [y]) (by simp [encB]) hnews (by omega) (by simp only [Nat.mul_one]; omega) (by simp only [maxLen]; omega) fun v' w' ho hx2 => ⟨trivial, k v' w' ?_ (hxa.trans hx2).none fun b hb => ?_⟩
    · exact own_more (by simpa [encB] using ho) (by omega)
    · have := own_new ho b hb
      exact .inr (by omega)
end ops
theorem ok_aput : FnOk P 17 := ⟨_, Tryd.func17, by kernel_rfl, by kernel_rfl⟩
theorem ok_number : FnOk P 16 := ⟨_, Tryd.func16, by kernel_rfl, by kernel_rfl⟩
/-- What writing some bytes more answers. -/
def More (B : Nat) (w : World) (v : Value) (xs : List UInt8) (e : Ending) (w' : World) : Prop := ∃ v', e = .returned v' ∧ Byts B w' v' xs ∧ Ext (fun b => v.ownBlock = some b) w w' ∧ From w v v'

theorem c_aput {w : World} {B : Nat} {v : Value} {xs : List UInt8} (n k : Nat) (hv : Byts B w v xs) (hB : B ≤ w.heap.size) (hl : xs.length ≤ 100000000) (hn : n ≤ 1000000000) (hk : k ≤ 8) :
    Calls P 17 #[v, .int .i64 n, .int .i64 k] w (More B w v (xs ++ Ar.num n k)) := by
  refine enter (l := [_, _, _]) (n := 27) Tryd.func17 rfl rfl rfl ?_
  refine W.seq ?_
  refine W.reg <| asg rfl rfl <| L.nil ?_
  refine N.th ?_
  refine W.seq ?_
  refine W.seq ?_
  refine W.reg <| mv rfl rfl <| mv rfl rfl <| L.nil ?_
  refine N.th ?_
  refine W.block ?_
  refine W.loop (X := Nat × Value) (fun x => [(9, .int .i64 x.1), (8, .int .i64 k), (0, x.2), (1, .int .i64 n), (2, .int .i64 k)])
    (fun x w' => x.1 ≤ k ∧ Byts B w' x.2 (xs ++ (Ar.num n k).take x.1) ∧ Ext (fun b => v.ownBlock = some b) w w' ∧ From w v x.2) (fun x => k - x.1) (0, v) ⟨rfl, rfl, rfl, rfl, rfl, trivial⟩ ⟨by omega, by simpa using hv, Ext.refl _ _, From.refl _ _⟩ ?_
  rintro ⟨i, v1⟩ w1 ⟨hi, hv1, hx1, hf1⟩
  dsimp only at hi hv1 hf1 ⊢
  refine W.seq ?_
  refine W.reg <| lssI rfl rfl rfl <| L.nil ?_
  refine N.th ?_
  refine W.seq ?_
  refine W.cond rfl (fun h => ?_) (fun h => ?_)
  · refine W.skip ?_
    refine N.th ?_
    have hi1 : i < k := by have := of_decide_eq_true h; omega
    obtain ⟨y, hy⟩ : ∃ y : UInt8, y = UInt8.ofNat (n / 2 ^ (8 * (k - 1 - i))) := ⟨_, rfl⟩
    have hget : (Ar.num n k)[i]? = some y := by rw [hy]; exact Ar.num_get hi1
    have hlen : (xs ++ (Ar.num n k).take i).length ≤ 100000100 := by simp [Ar.num_len]; omega
    refine W.seq ?_
    refine W.block ?_
    refine W.seq ?_
    refine W.reg <| mv rfl rfl <| asg rfl rfl <| L.nil ?_
    refine N.th ?_
    refine W.reg <| mv rfl rfl <| mv rfl rfl <| cvtI (c := (n : Int)) rfl u_u64 u_int rfl (wu64 (by omega) (by omega)) <| mv rfl rfl <| subI (c := ((k - 1 : Nat) : Int)) rfl rfl rfl (by rw [w64 (by omega) (by omega)]; omega) <| mv rfl rfl <| subI (c := ((k - 1 - i : Nat) : Int)) rfl rfl rfl (by rw [w64 (by omega) (by omega)]; omega) <| mulI (c := ((8 * (k - 1 - i) : Nat) : Int)) rfl rfl rfl (by rw [w64 (by omega) (by omega)]; omega) <| cvtI (c := ((8 * (k - 1 - i) : Nat) : Int)) rfl u_uint u_int rfl (wu64 (by omega) (by omega)) <|
      shrI (c := ((n / 2 ^ (8 * (k - 1 - i)) : Nat) : Int)) rfl rfl rfl (by omega) (by
        have h1 : min (((8 * (k - 1 - i) : Nat) : Int)).toNat IntKind.u64.bits = 8 * (k - 1 - i) := by simp [IntKind.bits]; omega
        rw [h1, Int.fdiv_eq_ediv_of_nonneg _ (Int.pow_nonneg (by decide))]
        simp) <| cvtI (c := (y.toNat : Int)) rfl u_u8 u_u64 rfl (by rw [hy]; simp [IntKind.wrap, IntKind.bits, IntKind.signed]) <|
      pushB rfl rfl rfl rfl (fun _ => by kernel_rfl) el_bytes (.inl hv1) (by omega) (by have := hx1.size; omega) fun v2 w2 hv2 hx2 hf2 => ?_
    refine asg rfl rfl <| L.nil ?_
    refine N.inb ?_
    refine N.th ?_
    refine W.reg <| addI (c := ((i + 1 : Nat) : Int)) rfl rfl rfl (by rw [w64 (by omega) (by omega)]; simp) <| mv rfl rfl <| L.nil ?_
    refine N.th (N.round (x := (i + 1, v2)) ⟨rfl, rfl, rfl, rfl, rfl, trivial⟩ ⟨by dsimp only; omega, ?_, Ext.from_ hx1 hf1 hx2, hf1.trans hf2 hx1.size⟩ (by dsimp only; omega))   -- ROUND
    dsimp only
    rw [List.take_add_one, hget]
    show Byts B w2 v2 (xs ++ (_ ++ [y]))
    rw [← List.append_assoc]
    exact hv2
  · refine W.exit ?_
    refine N.xth ?_
    refine N.xth ?_
    refine N.xeq ?_
    refine N.th ?_
    have hik : i = k := by have := of_decide_eq_false h; omega
    rw [hik, List.take_of_length_le (by rw [Ar.num_len]; exact Nat.le_refl _)] at hv1
    refine W.seq ?_
    refine W.reg <| mv rfl rfl <| asg rfl rfl <| L.nil ?_
    refine N.th ?_
    refine W.ret ?_
    refine N.ret1 rfl rfl ?_   -- RETURN
    exact ⟨v1, rfl, hv1, hx1, hf1⟩

theorem c_number {w : World} {B : Nat} {v : Value} {xs : List UInt8} (n k : Nat) (hv : Byts B w v xs) (hB : B ≤ w.heap.size) (hl : xs.length ≤ 100000000) (_hn : n ≤ 1000000000) (hk : k ≤ 8) :
    Calls P 16 #[v, .int .u64 n, .int .i64 k] w (More B w v (xs ++ Ar.num n k)) := by
  refine enter (l := [_, _, _]) (n := 23) Tryd.func16 rfl rfl rfl ?_
  refine W.seq ?_
  refine W.reg <| asg rfl rfl <| L.nil ?_
  refine N.th ?_
  refine W.seq ?_
  refine W.seq ?_
  refine W.reg <| mv rfl rfl <| subI (c := (k : Int) - 1) rfl rfl rfl (w64 (by omega) (by omega)) <| asg rfl rfl <| L.nil ?_
  refine N.th ?_
  refine W.block ?_
  refine W.loop (X := Nat × Value) (fun x => [(7, .int .i64 ((k : Int) - 1 - x.1)), (0, x.2), (1, .int .u64 n)])
    (fun x w' => x.1 ≤ k ∧ Byts B w' x.2 (xs ++ (Ar.num n k).take x.1) ∧ Ext (fun b => v.ownBlock = some b) w w' ∧ From w v x.2) (fun x => k - x.1) (0, v) ⟨by simp [getE], rfl, rfl, trivial⟩ ⟨by omega, by simpa using hv, Ext.refl _ _, From.refl _ _⟩ ?_
  rintro ⟨i, v1⟩ w1 ⟨hi, hv1, hx1, hf1⟩
  dsimp only at hi hv1 hf1 ⊢
  refine W.seq ?_
  refine W.seq ?_
  refine W.reg <| mv rfl rfl <| geqI rfl rfl rfl <| L.nil ?_
  refine N.th ?_
  refine W.cond rfl (fun h => ?_) (fun h => ?_)
  · refine W.skip ?_
    refine N.th ?_
    have hi1 : i < k := by have := of_decide_eq_true h; omega
    obtain ⟨y, hy⟩ : ∃ y : UInt8, y = UInt8.ofNat (n / 2 ^ (8 * (k - 1 - i))) := ⟨_, rfl⟩
    have hget : (Ar.num n k)[i]? = some y := by rw [hy]; exact Ar.num_get hi1
    have hlen : (xs ++ (Ar.num n k).take i).length ≤ 100000100 := by simp [Ar.num_len]; omega
    refine W.seq ?_
    refine W.block ?_
    refine W.reg <| mv rfl rfl <| mv rfl rfl <| mv rfl rfl <| mulI (c := ((8 * (k - 1 - i) : Nat) : Int)) rfl rfl rfl (by rw [w64 (by omega) (by omega)]; omega) <|
      shrI (c := ((n / 2 ^ (8 * (k - 1 - i)) : Nat) : Int)) rfl rfl rfl (by omega) (by
        have h1 : min (((8 * (k - 1 - i) : Nat) : Int)).toNat IntKind.u64.bits = 8 * (k - 1 - i) := by simp [IntKind.bits]; omega
        rw [h1, Int.fdiv_eq_ediv_of_nonneg _ (Int.pow_nonneg (by decide))]
        simp) <| cvtI (c := (y.toNat : Int)) rfl u_u8 u_u64 rfl (by rw [hy]; simp [IntKind.wrap, IntKind.bits, IntKind.signed]) <|
      pushB rfl rfl rfl rfl (fun _ => by kernel_rfl) el_bytes (.inl hv1) (by omega) (by have := hx1.size; omega) fun v2 w2 hv2 hx2 hf2 => ?_
    refine asg rfl rfl <| L.nil ?_
    refine N.inb ?_
    refine N.th ?_
    refine W.reg <| mv rfl rfl <| subI (c := (k : Int) - 1 - ((i + 1 : Nat) : Int)) rfl rfl rfl (by rw [w64 (by omega) (by omega)]; omega) <| asg rfl rfl <| L.nil ?_
    refine N.th (N.round (x := (i + 1, v2)) ⟨rfl, rfl, rfl, trivial⟩ ⟨by dsimp only; omega, ?_, Ext.from_ hx1 hf1 hx2, hf1.trans hf2 hx1.size⟩ (by dsimp only; omega))   -- ROUND
    dsimp only
    rw [List.take_add_one, hget]
    show Byts B w2 v2 (xs ++ (_ ++ [y]))
    rw [← List.append_assoc]
    exact hv2
  · refine W.exit ?_
    refine N.xth ?_
    refine N.xth ?_
    refine N.xeq ?_
    refine N.th ?_
    have hik : i = k := by have := of_decide_eq_false h; omega
    rw [hik, List.take_of_length_le (by rw [Ar.num_len]; exact Nat.le_refl _)] at hv1
    refine W.seq ?_
    refine W.reg <| mv rfl rfl <| asg rfl rfl <| L.nil ?_
    refine N.th ?_
    refine W.ret ?_
    refine N.ret1 rfl rfl ?_   -- RETURN
    exact ⟨v1, rfl, hv1, hx1, hf1⟩
end Go.Proofs.YtmdpmpdlkaogdaaDoor

namespace Go.Proofs.YtmdpmpdlkaogdaaDoor
open Go Go.RowKit Go.ChangeShapes Go.WideShapes Vc

theorem list_of {α : Type} : ∀ (n : Nat) (R : Nat → α → Prop), (∀ i, i < n → ∃ x, R i x) → ∃ l : List α, l.length = n ∧ ∀ i x, l[i]? = some x → R i x := by
  intro n
  induction n with
  | zero => intro R _; exact ⟨[], rfl, fun i x h => by cases h⟩
  | succ n ih =>
    intro R h
    obtain ⟨x, hx⟩ := h 0 (by omega)
    obtain ⟨l, hl, hr⟩ := ih (fun i => R (i + 1)) (fun i hi => h (i + 1) (by omega))
    refine ⟨x :: l, by simp [hl], fun i y hy => ?_⟩
    cases i with
    | zero => cases hy; exact hx
    | succ i => exact hr i y (by simpa using hy)
theorem add_add (a : Addr) (i j : Nat) : (a.add i).add j = a.add (i + j) := by
  unfold Addr.add
  by_cases hi : i = 0
  · subst hi; simp
  · by_cases hj : j = 0
    · subst hj; simp [hi]
    · simp [hi, hj, Nat.add_assoc]
theorem lt_of_cell {w : World} {a : Addr} {v : Value} (h : w.cell? a = some v) : a.block < w.heap.size := by
  rcases Nat.lt_or_ge a.block w.heap.size with h1 | h1
  · exact h1
  · simp [World.cell?, Array.getElem?_eq_none h1] at h

section
variable {H : Type} {enc : TypeId × Value → H} {P : Program} {w : World} {base : Nat} {spare : Nat → Bool} {held : Bool} {fuel : Nat} {t e : TypeId} {cs : List Value} {x : DataW H × List MemPlace}

/-- A slice, opened: each element reads as its type says. -/
theorem open_els {k : Nat} (ht : P.underlying t = some (.slice e)) (hk : P.cellsOf e = k) (h : DataW.trod enc P w base spare held fuel t cs = some x) :
    cs = [.slice none 0 0] ∨ ∃ (a : Addr) (len cap n : Nat), cs = [.slice (some a) len cap] ∧ len ≤ cap ∧ cap ≤ maxLen ∧ ∀ i, i < len → ∃ csi y, DataW.trod enc P w base spare held n e csi = some y ∧ csi.length = k ∧ ∀ j u, csi[j]? = some u → w.cell? (a.add (i * k + j)) = some u := by
  rcases DataW.trod_slice ht h with ⟨h0, -⟩ | ⟨a, len, cap, elems, rest, n, _, h1, _, hb, hl, hm, hlen, hel, -⟩
  · exact .inl h0
  · refine .inr ⟨a, len, cap, n, h1, hl, hm, fun i hi => ?_⟩
    have := hel i hi
    rw [List.getElem?_eq_getElem (by omega), Option.bind_eq_some_iff] at this
    obtain ⟨csi, hc, hy⟩ := this
    rw [hk] at hc
    obtain ⟨-, hl2, hc2⟩ := World.cells?_some hc
    refine ⟨csi, _, hy, hl2, fun j u hj => ?_⟩
    have hjk : j < k := by rw [← hl2]; exact (List.getElem?_eq_some_iff.1 hj).1
    rw [← add_add, hc2 j hjk]; exact hj
theorem open_byte (he : P.underlying e = some (.int .u8)) (h : DataW.trod enc P w base spare held fuel e cs = some x) : ∃ b : UInt8, cs = [.int .u8 b.toNat] := by
  obtain ⟨n, rfl, -, hw⟩ := DataW.trod_int he h
  have hw' : 0 ≤ n ∧ n < 256 := by
    simp [Lit.wf, IntKind.min, IntKind.max, IntKind.bits, IntKind.signed] at hw
    omega
  refine ⟨UInt8.ofNat n.toNat, ?_⟩
  have : ((UInt8.ofNat n.toNat).toNat : Int) = n := by simp; omega
  rw [this]
theorem open_str (he : P.underlying e = some .string) (h : DataW.trod enc P w base spare held fuel e cs = some x) : ∃ s : List UInt8, cs = [.string (S s)] := by
  obtain ⟨s, rfl, -, -⟩ := DataW.trod_string he h
  exact ⟨s.data.toList, rfl⟩
/-- Bytes. -/
theorem open_bytesA (ht : P.underlying t = some (.slice e)) (he : P.underlying e = some (.int .u8)) (hk : P.cellsOf e = 1) (h : DataW.trod enc P w base spare held fuel t cs = some x) : ∃ v l, cs = [v] ∧ BytA w v l := by
  rcases open_els ht hk h with rfl | ⟨a, len, cap, n, rfl, hl, hm, hel⟩
  · exact ⟨_, [], rfl, (Row.nil w tB 1).arg⟩
  · obtain ⟨l, hll, hlr⟩ := list_of (α := UInt8) len (fun i b => w.cell? (a.add i) = some (.int .u8 b.toNat)) (fun i hi => by
      obtain ⟨csi, y, hy, hl2, hc⟩ := hel i hi
      obtain ⟨b, rfl⟩ := open_byte he hy
      exact ⟨b, by have := hc 0 _ rfl; simpa using this⟩)
    refine ⟨_, l, rfl, some a, cap, by rw [hll], by omega, hm, (fun h => by cases h), fun j u hj => ?_⟩
    simp only [encB, List.getElem?_map, Option.map_eq_some_iff] at hj
    obtain ⟨b, hb, rfl⟩ := hj
    have := hlr j b hb
    exact ⟨a, rfl, by have := lt_of_cell this; rwa [add_block] at this, this⟩
/-- Rows of bytes. -/
theorem open_rowsA {e2 : TypeId} (ht : P.underlying t = some (.slice e)) (hk : P.cellsOf e = 1) (hte : P.underlying e = some (.slice e2)) (he : P.underlying e2 = some (.int .u8)) (hk2 : P.cellsOf e2 = 1) (h : DataW.trod enc P w base spare held fuel t cs = some x) :
    ∃ v, ∃ rows : List (Value × List UInt8), cs = [v] ∧ RowA w v rows.length (rows.map (·.1)) ∧ ∀ p ∈ rows, BytA w p.1 p.2 := by
  rcases open_els ht hk h with rfl | ⟨a, len, cap, n, rfl, hl, hm, hel⟩
  · exact ⟨_, [], rfl, (Row.nil w tB 1).arg, fun p h => by cases h⟩
  · obtain ⟨l, hll, hlr⟩ := list_of (α := Value × List UInt8) len (fun i p => w.cell? (a.add i) = some p.1 ∧ BytA w p.1 p.2) (fun i hi => by
      obtain ⟨csi, y, hy, hl2, hc⟩ := hel i hi
      obtain ⟨v, b, rfl, hb⟩ := open_bytesA hte he hk2 hy
      exact ⟨(v, b), by have := hc 0 _ rfl; simpa using this, hb⟩)
    refine ⟨_, l, rfl, ⟨some a, cap, by rw [hll], by omega, hm, (fun h => by cases h), fun j u hj => ?_⟩, fun p hp => ?_⟩
    · simp only [List.getElem?_map, Option.map_eq_some_iff] at hj
      obtain ⟨p, hp, rfl⟩ := hj
      have := (hlr j p hp).1
      exact ⟨a, rfl, by have := lt_of_cell this; rwa [add_block] at this, this⟩
    · obtain ⟨j, hj⟩ := List.getElem?_of_mem hp
      exact (hlr j p hj).2
end
/-- Cells of elements, one behind another. -/
theorem flatA_get {α : Type} {f : α → List Value} {k : Nat} : ∀ (E : List α), (∀ x ∈ E, (f x).length = k) → ∀ (j : Nat) u, (E.flatMap f)[j]? = some u → ∃ i r x, j = i * k + r ∧ E[i]? = some x ∧ (f x)[r]? = some u := by
  intro E
  induction E with
  | nil => intro _ j u h; cases h
  | cons x E ih =>
    intro hf j u h
    rw [List.flatMap_cons, List.getElem?_append] at h
    split at h
    · exact ⟨0, j, x, by simp, rfl, h⟩
    · rename_i hn
      obtain ⟨i, r, y, h1, h2, h3⟩ := ih (fun y hy => hf y (List.mem_cons_of_mem _ hy)) _ u h
      have := hf x (by simp)
      exact ⟨i + 1, r, y, by rw [Nat.add_mul]; omega, h2, h3⟩
/-- A slice of structs. -/
theorem rowA_of {α : Type} {w : World} {a : Addr} {len cap k : Nat} {f : α → List Value} {E : List α} (hf : ∀ x ∈ E, (f x).length = k) (hl : len ≤ cap) (hm : cap ≤ maxLen) (h : ∀ i x, E[i]? = some x → ∀ j u, (f x)[j]? = some u → w.cell? (a.add (i * k + j)) = some u) : RowA w (.slice (some a) len cap) len (E.flatMap f) := by
  refine ⟨some a, cap, rfl, hl, hm, (fun h => by cases h), fun j u hj => ?_⟩
  obtain ⟨i, r, x, rfl, hi, hr⟩ := flatA_get E hf j u hj
  have := h i x hi r u hr
  exact ⟨a, rfl, by have := lt_of_cell this; rwa [add_block] at this, this⟩
end Go.Proofs.YtmdpmpdlkaogdaaDoor

namespace Go.Proofs.YtmdpmpdlkaogdaaDoor
open Go Go.RowKit Go.ChangeShapes Go.WideShapes Vc

/-- What, P, Q, B: where its bytes are, and what they are. -/
abbrev AE := UInt8 × Tr.Bytes × Tr.Bytes × Value × Tr.Bytes
def acells (x : AE) : List Value := [.int .u8 x.1.toNat, .string (S x.2.1), .string (S x.2.2.1), x.2.2.2.1]
theorem acells_len (x : AE) : (acells x).length = 4 := rfl
theorem calmA (E : List AE) (h : ∀ x ∈ E, ∃ a n c, x.2.2.2.1 = .slice a n c) : ∀ u ∈ E.flatMap acells, calm u = true := by
  intro u hu
  obtain ⟨x, hx, hu⟩ := List.mem_flatMap.1 hu
  obtain ⟨a, n, c, hs⟩ := h x hx
  simp only [acells, List.mem_cons, List.not_mem_nil, or_false] at hu
  rcases hu with rfl | rfl | rfl | rfl
  · rfl
  · rfl
  · rfl
  · rw [hs]; rfl
/-- A script that may be read. -/
structure ActsA (w : World) (v : Value) (E : List AE) : Prop where
  row : RowA w v E.length (E.flatMap acells)
  bytes : ∀ x ∈ E, BytA w x.2.2.2.1 x.2.2.2.2
theorem ActsA.ext0 {w w' : World} {v : Value} {E : List AE} (h : ActsA w v E) (hx : Ext none_ w w') : ActsA w' v E := ⟨h.row.ext0 hx, fun x hm => (h.bytes x hm).ext0 hx⟩
theorem flat_ne {α : Type} {f : α → List Value} {E : List α} {x : α} {k : Nat} (hf : ∀ x, (f x).length = k + 1) (h : x ∈ E) : E.flatMap f ≠ [] := fun e => by
  have h1 := List.flatMap_eq_nil_iff.1 e x h
  have h2 := hf x
  rw [h1] at h2
  cases h2
theorem ActsA.plain {w : World} {v : Value} {E : List AE} {x0 : AE} (h : ActsA w v E) (hm : x0 ∈ E) : ∃ b o c, v = .slice (some ⟨b, o, none⟩) E.length c ∧ ∀ (i : Nat) x, E[i]? = some x →
    w.cell? ⟨b, o + i * 4 + 0, none⟩ = some (.int .u8 x.1.toNat) ∧ w.cell? ⟨b, o + i * 4 + 1, none⟩ = some (.string (S x.2.1)) ∧ w.cell? ⟨b, o + i * 4 + 2, none⟩ = some (.string (S x.2.2.1)) ∧ w.cell? ⟨b, o + i * 4 + 3, none⟩ = some x.2.2.2.1 := by
  obtain ⟨b, o, c, rfl, -, -, -, hc⟩ := h.row.plain (flat_ne acells_len hm)
  refine ⟨b, o, c, rfl, fun i x hi => ?_⟩
  have hg : ∀ j, j < 4 → (E.flatMap acells)[i * 4 + j]? = (acells x)[j]? := fun j hj => by
    rw [flat_get acells 4 acells_len (by omega), show (i * 4 + j) / 4 = i by omega, show (i * 4 + j) % 4 = j by omega, hi]; rfl
  refine ⟨?_, ?_, ?_, ?_⟩
  · rw [Nat.add_assoc]; exact hc _ _ (hg 0 (by omega))
  · rw [Nat.add_assoc]; exact hc _ _ (hg 1 (by omega))
  · rw [Nat.add_assoc]; exact hc _ _ (hg 2 (by omega))
  · rw [Nat.add_assoc]; exact hc _ _ (hg 3 (by omega))

section
variable {H : Type} {enc : TypeId × Value → H} {w : World} {base : Nat} {spare : Nat → Bool} {held : Bool} {fuel : Nat} {cs : List Value} {x : DataW H × List MemPlace}
end

def lightA (x : AE) : Bool := decide (x.2.1.length ≤ 250) && (decide (x.2.2.1.length ≤ 250) && decide (x.2.2.2.2.length ≤ 200))
def light8 (E : List AE) : Bool := decide (E.length ≤ 40) && E.all lightA
end Go.Proofs.YtmdpmpdlkaogdaaDoor

namespace Go.Proofs.YtmdpmpdlkaogdaaDoor
open Go Go.RowKit Go.ChangeShapes Go.WideShapes Vc

/-- A list of files that may be read. -/
structure FilesA (w : World) (v : Value) (E : List FE) : Prop where
  row : RowA w v E.length (E.flatMap fcells)
  bytes : ∀ x ∈ E, BytA w x.2.2.1 x.2.2.2
theorem FilesA.ext0 {w w' : World} {v : Value} {E : List FE} (h : FilesA w v E) (hx : Ext none_ w w') : FilesA w' v E := ⟨h.row.ext0 hx, fun x hm => (h.bytes x hm).ext0 hx⟩
theorem FilesAt.arg {w : World} {v : Value} {E : List FE} (h : FilesAt w v E) : FilesA w v E := ⟨h.row.arg, fun x hx => (h.bytes x hx).arg⟩
theorem FilesA.plain {w : World} {v : Value} {E : List FE} {x0 : FE} (h : FilesA w v E) (hm : x0 ∈ E) : ∃ b o c, v = .slice (some ⟨b, o, none⟩) E.length c ∧ b < w.heap.size ∧ ∀ (i : Nat) x, E[i]? = some x →
    w.cell? ⟨b, o + i * 3 + 0, none⟩ = some (.string (S x.1)) ∧ w.cell? ⟨b, o + i * 3 + 1, none⟩ = some (.bool x.2.1) ∧ w.cell? ⟨b, o + i * 3 + 2, none⟩ = some x.2.2.1 := by
  obtain ⟨b, o, c, rfl, -, -, hlt, hc⟩ := h.row.plain (flat_ne fcells_len hm)
  refine ⟨b, o, c, rfl, hlt, fun i x hi => ?_⟩
  have hg : ∀ j, j < 3 → (E.flatMap fcells)[i * 3 + j]? = (fcells x)[j]? := fun j hj => by
    rw [flat_get fcells 3 fcells_len (by omega), show (i * 3 + j) / 3 = i by omega, show (i * 3 + j) % 3 = j by omega, hi]; rfl
  refine ⟨?_, ?_, ?_⟩
  · rw [Nat.add_assoc]; exact hc _ _ (hg 0 (by omega))
  · rw [Nat.add_assoc]; exact hc _ _ (hg 1 (by omega))
  · rw [Nat.add_assoc]; exact hc _ _ (hg 2 (by omega))
theorem FilesA.cell {w : World} {b o n c i : Nat} {E : List FE} {x : FE} (h : FilesA w (.slice (some ⟨b, o, none⟩) n c) E) (hi : E[i]? = some x) :
    w.cell? ⟨b, o + i * 3 + 0, none⟩ = some (.string (S x.1)) ∧ w.cell? ⟨b, o + i * 3 + 1, none⟩ = some (.bool x.2.1) ∧ w.cell? ⟨b, o + i * 3 + 2, none⟩ = some x.2.2.1 := by
  obtain ⟨b', o', c', e, -, hc⟩ := h.plain (List.mem_of_getElem? hi)
  cases e
  exact hc i x hi

section
variable {H : Type} {enc : TypeId × Value → H} {w : World} {base : Nat} {spare : Nat → Bool} {held : Bool} {fuel : Nat} {cs : List Value} {x : DataW H × List MemPlace}
theorem open_bool {e : TypeId} (he : P.underlying e = some .bool) (h : DataW.trod enc P w base spare held fuel e cs = some x) : ∃ b : Bool, cs = [.bool b] := by
  obtain ⟨b, h1, -⟩ := DataW.trod_bool he h
  exact ⟨b, h1⟩
theorem open_file (h : DataW.trod enc P w base spare held fuel tF cs = some x) : ∃ y : FE, cs = fcells y ∧ BytA w y.2.2.1 y.2.2.2 := by
  obtain ⟨xs, n, -, -, hl, hxl, hf⟩ := DataW.trod_struct Tryd.underlying26 h
  have hc3 : P.cellsOf tF = 3 := by kernel_rfl
  have hbo : P.cellsOf 4 = 1 := by kernel_rfl
  have hst : P.cellsOf 9 = 1 := by kernel_rfl
  have hby : P.cellsOf 24 = 1 := by kernel_rfl
  have hu8 : P.cellsOf 5 = 1 := by kernel_rfl
  rw [show Tryd.prog.cellsOf 26 = 3 from hc3] at hl
  have hxl3 : xs.length = 3 := hxl
  obtain ⟨c0, c1, c2, rfl⟩ : ∃ a b c, cs = [a, b, c] := by
    clear h hf
    match cs, hl with
    | [a, b, c], _ => exact ⟨a, b, c, rfl⟩
  have get : ∀ {i : Nat}, i < 3 → ∃ y, xs[i]? = some y := fun {i} hi => ⟨_, List.getElem?_eq_getElem (by omega)⟩
  obtain ⟨y0, hy0⟩ := get (i := 0) (by omega)
  obtain ⟨y1, hy1⟩ := get (i := 1) (by omega)
  obtain ⟨y2, hy2⟩ := get (i := 2) (by omega)
  have h0 : DataW.trod enc Tryd.prog w base spare held n 9 (([c0, c1, c2].drop 0).take (Tryd.prog.cellsOf 9)) = xs[0]? := hf 0 _ rfl
  have h1 : DataW.trod enc Tryd.prog w base spare held n 4 (([c0, c1, c2].drop 1).take (Tryd.prog.cellsOf 4)) = xs[1]? := hf 1 _ rfl
  have h2 : DataW.trod enc Tryd.prog w base spare held n 24 (([c0, c1, c2].drop 2).take (Tryd.prog.cellsOf 24)) = xs[2]? := hf 2 _ rfl
  rw [hy0, show Tryd.prog.cellsOf 9 = 1 from hst] at h0
  rw [hy1, show Tryd.prog.cellsOf 4 = 1 from hbo] at h1
  rw [hy2, show Tryd.prog.cellsOf 24 = 1 from hby] at h2
  obtain ⟨p, e0⟩ := open_str u_str h0
  obtain ⟨d, e1⟩ := open_bool Tryd.underlying4 h1
  obtain ⟨v, l, e2, hb⟩ := open_bytesA u_bytes u_u8 hu8 h2
  simp at e0 e1 e2
  exact ⟨(p, d, v, l), by rw [e0, e1, e2]; rfl, hb⟩
/-- A list of files. -/
theorem open_filesA (h : DataW.trod enc P w base spare held fuel 23 cs = some x) : ∃ v, ∃ E : List FE, cs = [v] ∧ RowA w v E.length (E.flatMap fcells) ∧ ∀ y ∈ E, BytA w y.2.2.1 y.2.2.2 := by
  have hc3 : P.cellsOf tF = 3 := by kernel_rfl
  rcases open_els u_files hc3 h with rfl | ⟨a, len, cap, n, rfl, hl, hm, hel⟩
  · exact ⟨_, [], rfl, (Row.nil w tB 1).arg, fun p h => by cases h⟩
  · obtain ⟨E, hEl, hEr⟩ := list_of (α := FE) len (fun i y => (∀ j u, (fcells y)[j]? = some u → w.cell? (a.add (i * 3 + j)) = some u) ∧ BytA w y.2.2.1 y.2.2.2) (fun i hi => by
      obtain ⟨csi, z, hz, hl2, hc⟩ := hel i hi
      obtain ⟨y, rfl, hb⟩ := open_file hz
      exact ⟨y, hc, hb⟩)
    refine ⟨_, E, rfl, ?_, fun y hy => ?_⟩
    · rw [hEl]
      exact rowA_of (fun y _ => fcells_len y) hl hm fun i y hi => (hEr i y hi).1
    · obtain ⟨j, hj⟩ := List.getElem?_of_mem hy
      exact (hEr j y hj).2
end

def lightF (x : FE) : Bool := decide (x.1.length ≤ 300) && decide (x.2.2.2.length ≤ 500)
def lightL (E : List FE) : Bool := decide (E.length ≤ 20) && E.all lightF
theorem lightL_spec {E : List FE} (h : lightL E = true) : E.length ≤ 20 ∧ ∀ x ∈ E, x.1.length ≤ 300 ∧ x.2.2.2.length ≤ 500 := by
  simp only [lightL, Bool.and_eq_true, decide_eq_true_eq, List.all_eq_true, lightF] at h
  exact h
end Go.Proofs.YtmdpmpdlkaogdaaDoor

namespace Go.Proofs.YtmdpmpdlkaogdaaDoor
namespace Ar
/-- One entry. -/
def ent (x : Tr.Bytes × Tr.Nd) : List UInt8 := (if x.2.1 then 1 else 0) :: (num (x.1.take 65535).length 2 ++ x.1.take 65535 ++ if x.2.1 then [] else num x.2.2.length 8 ++ x.2.2)
def ents (l : Tr.T) : List UInt8 := (l.map ent).flatten
def sign : List UInt8 := [80, 65, 75, 49]
/-- An archive. -/
def pk (l : Tr.T) : List UInt8 := sign ++ ents l ++ [255]
theorem ents_snoc (l : Tr.T) (x : Tr.Bytes × Tr.Nd) : ents (l ++ [x]) = ents l ++ ent x := by simp [ents]
end Ar
open Go Go.RowKit Vc
section ops
variable {mm : Nat} {P : Program} {ds : List Deferred} {n : Nat} {Q : Exit → Act → World → Prop} {E : Env} {w : World} {ops : Array Oper} {l : List Oper}
variable {d : Nat} {ty : TypeId} {pos : String} {af : Array Edge}
/-- 'append(s, x...)' of a string onto bytes of the call's own. -/
theorem appS {t u : TypeId} {B : Nat} {s x : Operand} {v : Value} {xs b : List UInt8} (hs : opd E s = some v) (hx : opd E x = some (.string (S b))) (hown : Byts B w v xs) (ht : ElT P t tB (.int .u8 0) 1 1) (hu : P.underlying u = some .string) (hd : Nat.blt d n = true) (hl : xs.length + b.length ≤ 1000000000) (hB : B ≤ w.heap.size)
    (k : ∀ v' w', Byts B w' v' (xs ++ b) → Ext (fun k => v.ownBlock = some k) w w' → L Fence.wide mm P ds n ops l Q ((d, v') :: E) w') : L Fence.wide mm P ds n ops (⟨some d, .call ⟨.builtin .append, #[s, x], #[t, u]⟩, ty, pos, af, none⟩ :: l) Q E w := by
  obtain ⟨i, hi, hz, hsz, hby⟩ := ht.info
  have hS : (S b).size = b.length := by simp
  obtain ⟨v', w', hr, ho, hg, -⟩ := Lib.run_append_own_string (P := P) w B t u ty tB i ht.u hu hi hz hsz hby v xs.length (encB xs) hown (S b) (by rw [hS]; simp only [maxLen]; omega) (by rw [hS]; omega) hB
  refine bltin (vs := [v, .string (S b)]) (by simp [hs, hx]) hd (fun _ => by simp [builtin, hr]) (k v' w' ?_ ((Ext.grown hg).mono fun _ _ h => h.symm))
  have e : Lib.strCells (S b) = encB b := by unfold Lib.strCells encB; rfl
  rw [hS, e] at ho
  unfold Byts
  rw [List.length_append, show encB (xs ++ b) = encB xs ++ encB b by simp [encB]]
  exact ho
end ops
theorem ok_Pack : FnOk P 7 := ⟨_, Tryd.func7, by kernel_rfl, by kernel_rfl⟩
theorem ze_F2 : zeroB P tF = some (.agg #[.string (S []), .bool false, .slice none 0 0]) := by kernel_rfl
theorem FilesA.row3 {w : World} {b o n c i : Nat} {E : List FE} {x : FE} (h : FilesA w (.slice (some ⟨b, o, none⟩) n c) E) (hi : E[i]? = some x) : ∀ j u, (fcells x)[j]? = some u → w.cell? ⟨b, o + i * 3 + j, none⟩ = some u := by
  obtain ⟨h0, h1, h2⟩ := h.cell hi
  rintro (_ | _ | _ | j) u hj
  · cases hj; exact h0
  · cases hj; exact h1
  · cases hj; exact h2
  · cases hj
theorem Buf.kind {B : Nat} {w : World} {v : Value} {xs : List UInt8} (h : Buf B w v xs) : ∀ k, v.ownBlock = some k → B ≤ k ∧ ∃ c fr, w.heap[k]? = some (.cells c tB fr) := by
  rcases h with h | ⟨g, fz, rfl, hg, hc⟩
  · exact fun k hk => ⟨own_new h k hk, own_kind h k hk⟩
  · intro k hk
    obtain rfl : g = k := by simpa [Value.ownBlock] using hk
    exact ⟨hg, _, _, hc⟩
/-- What lies in a block of another kind stays. -/
theorem Buf.keep {B : Nat} {w w' : World} {v : Value} {xs : List UInt8} (h : Buf B w v xs) (hx : Ext (fun k => v.ownBlock = some k) w w') {f : Nat} {c : Array Value} {e : TypeId} {fr : Nat × Nat} (hf : w.heap[f]? = some (.cells c e fr)) (he : e ≠ tB) : w'.heap[f]? = some (.cells c e fr) :=
  hx.obj hf fun hk => by
    obtain ⟨-, c2, f2, h2⟩ := h.kind f hk
    rw [hf] at h2; cases h2; exact he rfl
theorem Buf.none {B : Nat} {w0 w w' : World} {v : Value} {xs : List UInt8} (h : Buf B w v xs) (h0 : Ext none_ w0 w) (hx : Ext (fun k => v.ownBlock = some k) w w') (hB : w0.heap.size ≤ B) : Ext none_ w0 w' :=
  h0.trans' hx fun i hi hk => by have := (h.kind i hk).1; omega

set_option maxHeartbeats 1000000 in
theorem c_Pack {w : World} {v : Value} {E : List FE} (hv : FilesA w v E) (hE : E.length ≤ 1000000) (hT : (Ar.ents (fm E)).length ≤ 50000000) (hl : ∀ x ∈ E, x.1.length ≤ 100000 ∧ x.2.2.2.length ≤ 100000) : Calls P 7 #[v] w fun e w' => ∃ v', e = .returned v' ∧ Byts w.heap.size w' v' (Ar.pk (fm E)) ∧ Ext none_ w w' := by
  obtain ⟨a, c, rfl, hn, hmx, -, -⟩ := id hv.row
  refine enter (l := [_]) (n := 51) Tryd.func7 rfl rfl rfl ?_
  refine W.seq ?_
  refine W.reg <| asg rfl rfl <| L.nil ?_
  refine N.th ?_
  refine W.seq ?_
  refine W.reg <| bls (vs := #[(0, .int .u8 80), (1, .int .u8 65), (2, .int .u8 75), (3, .int .u8 49)]) (cs := #[.int .u8 80, .int .u8 65, .int .u8 75, .int .u8 49]) (e := tB) rfl rfl (fun _ => by kernel_rfl) <| cvtBB rfl u_bytes u_u8 rfl (heap_new _ _) trivial fun w1 hg1 hx1' => ⟨trivial, ?_⟩
  refine asg rfl rfl <| L.nil ?_
  refine N.th ?_
  have hx1 : Ext none_ w w1 := (Ext.alloc none_ _ _).trans' hx1' fun i hi e => by omega
  have hb1 : Buf w.heap.size w1 (.slice (some ⟨w.heap.size, 0, none⟩) 4 4) (Ar.sign ++ Ar.ents (fm (E.take 0))) := .inr ⟨w.heap.size, (4, 5), rfl, Nat.le_refl _, hg1⟩
  refine W.seq ?_
  refine W.seq ?_
  refine W.reg <| mv rfl rfl <| lenV rfl u_files rfl <| mv rfl rfl <| L.nil ?_
  refine N.th ?_
  refine W.block ?_
  refine W.loop (X := Nat × Value) (fun x => [(12, .int .i64 x.1), (10, .slice a E.length c), (11, .int .i64 E.length), (3, x.2)])
    (fun x w' => x.1 ≤ E.length ∧ Buf w.heap.size w' x.2 (Ar.sign ++ Ar.ents (fm (E.take x.1))) ∧ Ext none_ w w') (fun x => E.length - x.1) (0, .slice (some ⟨w.heap.size, 0, none⟩) 4 4) ⟨rfl, rfl, rfl, rfl, trivial⟩ ⟨by omega, hb1, hx1⟩ ?_
  rintro ⟨i, bv⟩ w2 ⟨hi, hb2, hx2⟩
  dsimp only at hi hb2 ⊢
  have hle : ∀ k, (Ar.sign ++ Ar.ents (fm (E.take k))).length ≤ 4 + (Ar.ents (fm E)).length := fun k => by
    have e : Ar.ents (fm E) = Ar.ents (fm (E.take k)) ++ Ar.ents (fm (E.drop k)) := by
      conv => lhs; rw [← List.take_append_drop k E]
      simp only [fm, Ar.ents, List.map_append, List.flatten_append]
    rw [e, List.length_append, List.length_append, show Ar.sign.length = 4 from rfl]
    omega
  have hlen2 := hle i
  have hlen3 := hle (i + 1)
  refine W.seq ?_
  refine W.reg <| lssI rfl rfl rfl <| L.nil ?_
  refine N.th ?_
  refine W.seq ?_
  refine W.cond rfl (fun h => ?_) (fun h => ?_)
  · refine W.skip ?_
    refine N.th ?_
    have hi1 : i < E.length := by have := of_decide_eq_true h; omega
    obtain ⟨x, hxe⟩ : ∃ x, E[i]? = some x := ⟨_, List.getElem?_eq_getElem hi1⟩
    have hxm := List.mem_of_getElem? hxe
    obtain ⟨b, o, c', hv', -, -⟩ := hv.plain hxm
    cases hv'
    obtain ⟨hxp, hxb⟩ := hl x hxm
    obtain ⟨va, vc, hbv, -⟩ := hv.bytes x hxm
    have htk : fm (E.take (i + 1)) = fm (E.take i) ++ [fnd x] := by rw [List.take_add_one, hxe]; simp [fm]
    have hent : Ar.ent (fnd x) = (if x.2.1 then 1 else 0) :: (Ar.num (x.1.take 65535).length 2 ++ x.1.take 65535 ++ if x.2.1 then [] else Ar.num x.2.2.2.length 8 ++ x.2.2.2) := rfl
    obtain ⟨pre, hpre⟩ : ∃ pre, pre = Ar.sign ++ Ar.ents (fm (E.take i)) := ⟨_, rfl⟩
    have hnext : Ar.sign ++ Ar.ents (fm (E.take (i + 1))) = pre ++ Ar.ent (fnd x) := by rw [htk, Ar.ents_snoc, hpre, List.append_assoc]
    rw [hnext, List.length_append] at hlen3
    rw [← hpre] at hb2 hlen2
    refine W.seqM (fun E' w' => ∃ bv', E' = [(12, .int .i64 i), (10, .slice (some ⟨b, o, none⟩) E.length c), (11, .int .i64 E.length), (3, bv')] ∧ Buf w.heap.size w' bv' (pre ++ Ar.ent (fnd x)) ∧ Ext none_ w w') ?_ ?_   -- CUT
    · refine W.block ?_
      refine W.seq ?_
      refine W.reg <| ixa rfl rfl u_files sz_File rfl (by omega) (by omega) <| ldk (cs := fcells x) rfl ag_File sz_File rfl rfl (fun j u hj => (hv.ext0 hx2).row3 hxe j u hj) <| new ze_F2 rfl <|
        stR (cells := (fcells x).toArray) rfl rfl sz_File (by rw [show fcells x = [.string (S x.1), .bool x.2.1, x.2.2.1] from rfl, hbv]; rfl) (heap_new _ _) rfl <| L.nil ?_
      refine N.th ?_
      obtain ⟨w3, hw3⟩ : ∃ w3, w3 = (w2.alloc (.cells (Value.cells (.agg #[.string (S []), .bool false, .slice none 0 0])) tF)).setRow w2.heap.size (fcells x).toArray := ⟨_, rfl⟩
      obtain ⟨f, hf⟩ : ∃ f, f = w2.heap.size := ⟨_, rfl⟩
      have hx23 : Ext none_ w2 w3 := by rw [hw3]; exact (Ext.alloc none_ _ _).trans' (Ext.setRow (S := fun k => k = w2.heap.size) _ (fun _ => rfl) _) (fun i hi e => by omega)
      have hf3 : w3.heap[f]? = some (.cells (fcells x).toArray tF (0, 0)) := by rw [hw3, hf]; exact setRow_heap _ _ _ _ _ _ (heap_new _ _)
      rw [show (w2.alloc (.cells (Value.cells (.agg #[.string (S []), .bool false, .slice none 0 0])) tF)).setRow w2.heap.size (fcells x).toArray = w3 from hw3.symm, ← hf]
      have hne : tF ≠ tB := by decide
      have hb3 : Buf w.heap.size w3 bv pre := by
        rcases hb2 with h | ⟨g, fz, rfl, hg, hc⟩
        · exact .inl (own_ext h hx23 fun _ _ => id)
        · exact .inr ⟨g, fz, rfl, hg, hx23.obj hc id⟩
      have hx3 := hx2.trans hx23
      refine W.seq ?_
      refine W.reg <| fad rfl fl_File_0 rfl <| ld1 (v := .string (S x.1)) rfl ag_str rfl (cell_of hf3 rfl) <| fad rfl fl_File_0 rfl <| ld1 (v := .string (S x.1)) rfl ag_str rfl (cell_of hf3 rfl) <| lenS rfl u_str rfl <| minI rfl rfl rfl <| slSh rfl rfl u_str rfl (by omega) (by omega) <| asg rfl rfl <| L.nil ?_
      refine N.th ?_
      have hp' : x.1.take (min (x.1.length : Int) 65535).toNat = x.1.take 65535 := by rw [List.take_eq_take_iff]; omega
      rw [hp']
      obtain ⟨p, hp⟩ : ∃ p, p = x.1.take 65535 := ⟨_, rfl⟩
      have hpl : p.length ≤ 65535 := by rw [hp, List.length_take]; omega
      rw [← hp] at hent ⊢
      obtain ⟨y, hy⟩ : ∃ y : UInt8, y = if x.2.1 then 1 else 0 := ⟨_, rfl⟩
      refine W.seq ?_
      refine W.reg <| asg rfl rfl <| L.nil ?_
      refine N.th ?_
      refine W.seqM (fun E' w' => E' = [(7, .int .u8 (y.toNat : Int)), (6, .string (S p)), (5, .pointer (some ⟨f, 0, none⟩)), (12, .int .i64 i), (10, .slice (some ⟨b, o, none⟩) E.length c), (11, .int .i64 E.length), (3, bv)] ∧ w' = w3) ?_ ?_   -- CUT
      · refine W.seq ?_
        refine W.reg <| fad rfl fl_File_1 rfl <| ld1 (v := .bool x.2.1) rfl ag_bool rfl (cell_of hf3 rfl) <| L.nil ?_
        refine N.th ?_
        cases hd : x.2.1 with
        | true =>
          refine W.condT rfl ?_
          refine W.reg <| asg rfl rfl <| L.nil ?_
          exact N.th (N.meet [(7, .int .u8 1), (6, _), (5, _), (12, _), (10, _), (11, _), (3, _)] ⟨rfl, rfl, rfl, rfl, rfl, rfl, rfl, trivial⟩ ⟨by rw [hy, hd]; rfl, rfl⟩)   -- MEET
        | false =>
          refine W.condF rfl ?_
          refine W.skip ?_
          exact N.th (N.meet [(7, .int .u8 0), (6, _), (5, _), (12, _), (10, _), (11, _), (3, _)] ⟨rfl, rfl, rfl, rfl, rfl, rfl, rfl, trivial⟩ ⟨by rw [hy, hd]; rfl, rfl⟩)   -- MEET
      rintro E' w4 ⟨rfl, rfl⟩
      rw [← hy] at hent
      refine W.seq ?_
      refine W.reg <| mv rfl rfl <| mv rfl rfl <| pushB rfl rfl rfl rfl (fun _ => by kernel_rfl) el_bytes hb3 (by omega) hx3.size fun v5 w5 hv5 hx5 hfr5 => ?_
      have hf5 := hb3.keep hx5 hf3 hne
      have hx05 := hb3.none hx3 hx5 (Nat.le_refl _)
      have hl5 : (pre ++ [y]).length ≤ 50000010 := by simp; omega
      refine mv rfl rfl <| lenS (t := 9) rfl u_str rfl <| call (vs := [_, .int .i64 (p.length : Nat), .int .i64 ((2 : Nat) : Int)]) rfl rfl ok_aput (c_aput p.length 2 hv5 hx05.size (by omega) (by omega) (by omega)) ?_
      rintro e w6 ⟨v6, rfl, hv6, hx6, -⟩
      refine ⟨_, rfl, ?_⟩
      refine asg rfl rfl <| L.nil ?_
      refine N.th ?_
      have hf6 := Buf.keep (.inl hv5) hx6 hf5 hne
      have hx06 := Buf.none (.inl hv5) hx05 hx6 (Nat.le_refl _)
      refine W.seq ?_
      refine W.reg <| mv rfl rfl <| mv rfl rfl <| appS rfl rfl hv6 el_bytes u_str rfl (by simp [Ar.num_len]; omega) hx06.size fun v7 w7 hv7 hx7 => ?_
      refine asg rfl rfl <| L.nil ?_
      refine N.th ?_
      have hf7 := Buf.keep (.inl hv6) hx7 hf6 hne
      have hx07 := Buf.none (.inl hv6) hx06 hx7 (Nat.le_refl _)
      refine W.seq ?_
      refine W.reg <| fad rfl fl_File_1 rfl <| ld1 (v := .bool x.2.1) rfl ag_bool rfl (cell_of hf7 rfl) <| notB rfl rfl <| L.nil ?_
      refine N.th ?_
      cases hd : x.2.1 with
      | true =>
        refine W.condF rfl ?_
        refine W.skip ?_
        refine N.inb ?_
        refine N.th (N.meet [(12, _), (10, _), (11, _), (3, v7)] ⟨rfl, rfl, rfl, rfl, trivial⟩ ⟨v7, rfl, .inl ?_, hx07⟩)   -- MEET
        rw [hent, hd]
        simpa using hv7
      | false =>
        refine W.condT rfl ?_
        have hc2 : w7.cell? ⟨f, 0 + 2, none⟩ = some (.slice va x.2.2.2.length vc) := by rw [← hbv]; exact cell_of hf7 rfl
        refine W.seq ?_
        refine W.reg <| mv rfl rfl <| fad rfl fl_File_2 rfl <| ld1 rfl ag_bytes rfl hc2 <| lenV (t := 24) rfl u_bytes rfl <| call (vs := [_, .int .i64 (x.2.2.2.length : Nat), .int .i64 ((8 : Nat) : Int)]) rfl rfl ok_aput (c_aput x.2.2.2.length 8 hv7 hx07.size (by simp [Ar.num_len]; omega) (by omega) (by omega)) ?_
        rintro e w8 ⟨v8, rfl, hv8, hx8, -⟩
        refine ⟨_, rfl, ?_⟩
        refine asg rfl rfl <| L.nil ?_
        refine N.th ?_
        have hf8 := Buf.keep (.inl hv7) hx8 hf7 hne
        have hx08 := Buf.none (.inl hv7) hx07 hx8 (Nat.le_refl _)
        refine W.reg <| mv rfl rfl <| fad rfl fl_File_2 rfl <| ld1 (v := x.2.2.1) rfl ag_bytes rfl (cell_of hf8 rfl) <| appB rfl rfl hv8 ((hv.ext0 hx08).bytes x hxm) el_bytes rfl (by simp [Ar.num_len]; omega) hx08.size fun v9 w9 hv9 hx9 => ?_
        refine asg rfl rfl <| L.nil ?_
        refine N.inb ?_
        refine N.th (N.meet [(12, _), (10, _), (11, _), (3, v9)] ⟨rfl, rfl, rfl, rfl, trivial⟩ ⟨v9, rfl, .inl ?_, Buf.none (.inl hv8) hx08 hx9 (Nat.le_refl _)⟩)   -- MEET
        rw [hent, hd]
        simpa using hv9
    rintro E' w3 ⟨bv', rfl, hb3, hx3⟩
    refine W.reg <| addI (c := ((i + 1 : Nat) : Int)) rfl rfl rfl (by rw [w64 (by omega) (by omega)]; simp) <| mv rfl rfl <| L.nil ?_
    exact N.th (N.round (x := (i + 1, bv')) ⟨rfl, rfl, rfl, rfl, trivial⟩ ⟨by dsimp only; omega, by dsimp only; rw [hnext]; exact hb3, hx3⟩ (by dsimp only; omega))   -- ROUND
  · refine W.exit ?_
    refine N.xth ?_
    refine N.xth ?_
    refine N.xeq ?_
    refine N.th ?_
    have hil : i = E.length := by have := of_decide_eq_false h; omega
    rw [hil, List.take_length] at hb2 hlen2
    refine W.seq ?_
    refine W.reg <| mv rfl rfl <| pushB (y := 255) rfl rfl rfl rfl (fun _ => by kernel_rfl) el_bytes hb2 (by omega) hx2.size fun v5 w5 hv5 hx5 hfr5 => ?_
    refine asg rfl rfl <| L.nil ?_
    refine N.th ?_
    refine W.ret ?_
    refine N.ret1 rfl rfl ?_   -- RETURN
    exact ⟨v5, rfl, hv5, hb2.none hx2 hx5 (Nat.le_refl _)⟩
end Go.Proofs.YtmdpmpdlkaogdaaDoor

namespace Go.Proofs.YtmdpmpdlkaogdaaDoor
open Go Go.RowKit Vc
theorem ok_RPack : FnOk P 6 := ⟨_, Tryd.func6, by kernel_rfl, by kernel_rfl⟩

theorem byts_app {B : Nat} {w : World} {v : Value} {xs b : List UInt8} (h : w.ownsRow B tB 1 v (xs.length + b.length) (encB xs ++ encB b)) : Byts B w v (xs ++ b) := by
  unfold Byts
  rw [List.length_append, show encB (xs ++ b) = encB xs ++ encB b from List.map_append]
  exact h

set_option maxHeartbeats 1000000 in
theorem c_RPack {w : World} {v : Value} {E : List FE} (hv : FilesA w v E) (hE : E.length ≤ 1000000) (hT : (Ar.ents (fm E)).length ≤ 50000000) (hl : ∀ x ∈ E, x.1.length ≤ 100000 ∧ x.2.2.2.length ≤ 100000) : Calls P 6 #[v] w fun e w' => ∃ v', e = .returned v' ∧ Byts w.heap.size w' v' (Ar.pk (fm E)) ∧ Ext none_ w w' := by
  obtain ⟨a, c, rfl, hn, hmx, -, -⟩ := id hv.row
  refine enter (l := [_]) (n := 64) Tryd.func6 rfl rfl rfl ?_
  refine W.seq ?_
  refine W.reg <| asg rfl rfl <| L.nil ?_
  refine N.th ?_
  refine W.seq ?_
  refine W.reg <| bls (vs := #[(0, .int .u8 80), (1, .int .u8 65), (2, .int .u8 75), (3, .int .u8 49)]) (cs := #[.int .u8 80, .int .u8 65, .int .u8 75, .int .u8 49]) (e := tB) rfl rfl (fun _ => by kernel_rfl) <| cvtBB rfl u_bytes u_u8 rfl (heap_new _ _) trivial fun w1 hg1 hx1' => ⟨trivial, ?_⟩
  refine asg rfl rfl <| L.nil ?_
  refine N.th ?_
  have hx1 : Ext none_ w w1 := (Ext.alloc none_ _ _).trans' hx1' fun i hi e => by omega
  have hb1 : Buf w.heap.size w1 (.slice (some ⟨w.heap.size, 0, none⟩) 4 4) (Ar.sign ++ Ar.ents (fm (E.take 0))) := .inr ⟨w.heap.size, (4, 5), rfl, Nat.le_refl _, hg1⟩
  refine W.seq ?_
  refine W.seq ?_
  refine W.reg <| asg rfl rfl <| L.nil ?_
  refine N.th ?_
  refine W.block ?_
  refine W.loop (X := Nat × Value) (fun x => [(4, .int .i64 x.1), (0, .slice a E.length c), (3, x.2)])
    (fun x w' => x.1 ≤ E.length ∧ Buf w.heap.size w' x.2 (Ar.sign ++ Ar.ents (fm (E.take x.1))) ∧ Ext none_ w w') (fun x => E.length - x.1) (0, .slice (some ⟨w.heap.size, 0, none⟩) 4 4) ⟨rfl, rfl, rfl, trivial⟩ ⟨by omega, hb1, hx1⟩ ?_
  rintro ⟨i, bv⟩ w2 ⟨hi, hb2, hx2⟩
  dsimp only at hi hb2 ⊢
  have hle : ∀ k, (Ar.sign ++ Ar.ents (fm (E.take k))).length ≤ 4 + (Ar.ents (fm E)).length := fun k => by
    have e : Ar.ents (fm E) = Ar.ents (fm (E.take k)) ++ Ar.ents (fm (E.drop k)) := by
      conv => lhs; rw [← List.take_append_drop k E]
      simp only [fm, Ar.ents, List.map_append, List.flatten_append]
    rw [e, List.length_append, List.length_append, show Ar.sign.length = 4 from rfl]
    omega
  have hlen2 := hle i
  have hlen3 := hle (i + 1)
  refine W.seq ?_
  refine W.seq ?_
  refine W.reg <| mv rfl rfl <| mv rfl rfl <| lenV rfl u_files rfl <| lssI rfl rfl rfl <| L.nil ?_
  refine N.th ?_
  refine W.cond rfl (fun h => ?_) (fun h => ?_)
  · refine W.skip ?_
    refine N.th ?_
    have hi1 : i < E.length := by have := of_decide_eq_true h; omega
    obtain ⟨x, hxe⟩ : ∃ x, E[i]? = some x := ⟨_, List.getElem?_eq_getElem hi1⟩
    have hxm := List.mem_of_getElem? hxe
    obtain ⟨b, o, c', hv', -, -⟩ := hv.plain hxm
    cases hv'
    obtain ⟨hxp, hxb⟩ := hl x hxm
    obtain ⟨va, vc, hbv, -⟩ := hv.bytes x hxm
    have rd : ∀ {wz}, Ext none_ w wz → wz.cell? ⟨b, o + i * 3 + 0, none⟩ = some (.string (S x.1)) ∧ wz.cell? ⟨b, o + i * 3 + 1, none⟩ = some (.bool x.2.1) ∧ wz.cell? ⟨b, o + i * 3 + 2, none⟩ = some (.slice va x.2.2.2.length vc) := fun hz => by rw [← hbv]; exact (hv.ext0 hz).cell hxe
    have htk : fm (E.take (i + 1)) = fm (E.take i) ++ [fnd x] := by rw [List.take_add_one, hxe]; simp [fm]
    have hent : Ar.ent (fnd x) = (if x.2.1 then 1 else 0) :: (Ar.num (x.1.take 65535).length 2 ++ x.1.take 65535 ++ if x.2.1 then [] else Ar.num x.2.2.2.length 8 ++ x.2.2.2) := rfl
    obtain ⟨pre, hpre⟩ : ∃ pre, pre = Ar.sign ++ Ar.ents (fm (E.take i)) := ⟨_, rfl⟩
    have hnext : Ar.sign ++ Ar.ents (fm (E.take (i + 1))) = pre ++ Ar.ent (fnd x) := by rw [htk, Ar.ents_snoc, hpre, List.append_assoc]
    rw [hnext, List.length_append] at hlen3
    rw [← hpre] at hb2 hlen2
    refine W.seqM (fun E' w' => ∃ bv', E' = [(4, .int .i64 i), (0, .slice (some ⟨b, o, none⟩) E.length c), (3, bv')] ∧ Buf w.heap.size w' bv' (pre ++ Ar.ent (fnd x)) ∧ Ext none_ w w') ?_ ?_   -- CUT
    · refine W.block ?_
      refine W.seq ?_
      refine W.reg <| mv rfl rfl <| mv rfl rfl <| ixa rfl rfl u_files sz_File rfl (by omega) (by omega) <| fad rfl fl_File_0 rfl <| ld1 rfl ag_str rfl (rd hx2).1 <| asg rfl rfl <| L.nil ?_
      refine N.th ?_
      obtain ⟨p, hp⟩ : ∃ p, p = x.1.take 65535 := ⟨_, rfl⟩
      have hpl : p.length ≤ 65535 := by rw [hp, List.length_take]; omega
      refine W.seqM (fun E' w' => E' = [(5, .string (S p)), (4, .int .i64 i), (0, .slice (some ⟨b, o, none⟩) E.length c), (3, bv)] ∧ w' = w2) ?_ ?_   -- CUT
      · refine W.seq ?_
        refine W.reg <| mv rfl rfl <| lenS (t := 9) rfl u_str rfl <| gtrI rfl rfl rfl <| L.nil ?_
        refine N.th ?_
        refine W.cond rfl (fun h => ?_) (fun h => ?_)
        · refine W.reg <| mv rfl rfl <| slSh rfl rfl u_str rfl (by omega) (by have := of_decide_eq_true h; omega) <| asg rfl rfl <| L.nil ?_
          refine N.th (N.meet [(5, _), (4, _), (0, _), (3, _)] ⟨rfl, rfl, rfl, rfl, trivial⟩ ⟨?_, rfl⟩)   -- MEET
          rw [hp]; rfl
        · refine W.skip ?_
          refine N.th (N.meet [(5, _), (4, _), (0, _), (3, _)] ⟨rfl, rfl, rfl, rfl, trivial⟩ ⟨?_, rfl⟩)   -- MEET
          rw [hp, List.take_of_length_le (by have := of_decide_eq_false h; omega)]
      rintro E' w3 ⟨rfl, rfl⟩
      rw [← hp] at hent
      obtain ⟨y, hy⟩ : ∃ y : UInt8, y = if x.2.1 then 1 else 0 := ⟨_, rfl⟩
      refine W.seq ?_
      refine W.reg <| asg rfl rfl <| L.nil ?_
      refine N.th ?_
      refine W.seqM (fun E' w' => E' = [(6, .int .u8 (y.toNat : Int)), (5, .string (S p)), (4, .int .i64 i), (0, .slice (some ⟨b, o, none⟩) E.length c), (3, bv)] ∧ w' = w3) ?_ ?_   -- CUT
      · refine W.seq ?_
        refine W.reg <| mv rfl rfl <| mv rfl rfl <| ixa rfl rfl u_files sz_File rfl (by omega) (by omega) <| fad rfl fl_File_1 rfl <| ld1 (v := .bool x.2.1) rfl ag_bool rfl (rd hx2).2.1 <| L.nil ?_
        refine N.th ?_
        cases hd : x.2.1 with
        | true =>
          refine W.condT rfl ?_
          refine W.reg <| asg rfl rfl <| L.nil ?_
          exact N.th (N.meet [(6, .int .u8 1), (5, _), (4, _), (0, _), (3, _)] ⟨rfl, rfl, rfl, rfl, rfl, trivial⟩ ⟨by rw [hy, hd]; rfl, rfl⟩)   -- MEET
        | false =>
          refine W.condF rfl ?_
          refine W.skip ?_
          exact N.th (N.meet [(6, .int .u8 0), (5, _), (4, _), (0, _), (3, _)] ⟨rfl, rfl, rfl, rfl, rfl, trivial⟩ ⟨by rw [hy, hd]; rfl, rfl⟩)   -- MEET
      rintro E' w4 ⟨rfl, rfl⟩
      rw [← hy] at hent
      refine W.seq ?_
      refine W.reg <| mv rfl rfl <| mv rfl rfl <| pushB rfl rfl rfl rfl (fun _ => by kernel_rfl) el_bytes hb2 (by omega) hx2.size fun v5 w5 hv5 hx5 hfr5 => ?_
      have hx05 := hb2.none hx2 hx5 (Nat.le_refl _)
      have hl5 : (pre ++ [y]).length ≤ 50000010 := by simp; omega
      refine mv rfl rfl <| lenS (t := 9) rfl u_str rfl <| cvtI (c := (p.length : Int)) rfl u_u64 u_int rfl (wu64 (by omega) (by omega)) <| call (vs := [_, .int .u64 (p.length : Nat), .int .i64 ((2 : Nat) : Int)]) rfl rfl ok_number (c_number p.length 2 hv5 hx05.size (by omega) (by omega) (by omega)) ?_
      rintro e w6 ⟨v6, rfl, hv6, hx6, -⟩
      refine ⟨_, rfl, ?_⟩
      have hx06 := Buf.none (.inl hv5) hx05 hx6 (Nat.le_refl _)
      refine mv rfl rfl <| appS rfl rfl hv6 el_bytes u_str rfl (by simp [Ar.num_len]; omega) hx06.size fun v7 w7 hv7 hx7 => ?_
      refine asg rfl rfl <| L.nil ?_
      refine N.th ?_
      have hx07 := Buf.none (.inl hv6) hx06 hx7 (Nat.le_refl _)
      refine W.seq ?_
      refine W.reg <| mv rfl rfl <| mv rfl rfl <| ixa rfl rfl u_files sz_File rfl (by omega) (by omega) <| fad rfl fl_File_1 rfl <| ld1 (v := .bool x.2.1) rfl ag_bool rfl (rd hx07).2.1 <| notB rfl rfl <| L.nil ?_
      refine N.th ?_
      cases hd : x.2.1 with
      | true =>
        refine W.condF rfl ?_
        refine W.skip ?_
        refine N.inb ?_
        refine N.th (N.meet [(4, _), (0, _), (3, v7)] ⟨rfl, rfl, rfl, trivial⟩ ⟨v7, rfl, .inl ?_, hx07⟩)   -- MEET
        rw [hent, hd]
        simpa using hv7
      | false =>
        refine W.condT rfl ?_
        have hd7 : Ext none_ w7 w7.drew := Ext.drew _ _
        have hx07d := hx07.trans hd7
        have hv7d : Byts w.heap.size w7.drew v7 _ := own_ext hv7 hd7 fun _ _ => id
        refine W.draw [49] false (fun w' => Ext none_ w w') [0, 1, 2, 3, 4, 5, 6, 7, 9, 10, 11, 12, 13, 8, 14, 15] rfl rfl (by kernel_rfl) hx07d ?_   -- held
        refine mv rfl rfl <| mv rfl rfl <| mv rfl rfl <| ixa rfl rfl u_files sz_File rfl (by omega) (by omega) <| fad rfl fl_File_2 rfl <| ldK (v := .slice va x.2.2.2.length vc) rfl ag_bytes rfl (fun w' h => (rd h).2.2) <| lenV (t := 24) rfl u_bytes rfl <| cvtI (c := (x.2.2.2.length : Int)) rfl u_u64 u_int rfl (wu64 (by omega) (by omega)) <|
          mv rfl rfl <| mv rfl rfl <| ixa rfl rfl u_files sz_File rfl (by omega) (by omega) <| fad rfl fl_File_2 rfl <| ldK (v := .slice va x.2.2.2.length vc) rfl ag_bytes rfl (fun w' h => (rd h).2.2) <|
          callH (vs := [_, .int .u64 (x.2.2.2.length : Nat), .int .i64 ((8 : Nat) : Int)]) rfl rfl ok_number (c_number x.2.2.2.length 8 hv7d hx07d.size (by simp [Ar.num_len]; omega) (by omega) (by omega)) ?_
        rintro e w8 ⟨v8, rfl, hv8, hx8, -⟩
        have hx08 := Buf.none (.inl hv7d) hx07d hx8 (Nat.le_refl _)
        refine ⟨_, rfl, .inr fun h => Buf.none (.inl hv7d) h hx8 (Nat.le_refl _), ?_⟩
        have hxA : BytA w8 (.slice va x.2.2.2.length vc) x.2.2.2 := by rw [← hbv]; exact (hv.ext0 hx08).bytes x hxm
        rcases RowA.form hxA with ⟨e, h0⟩ | ⟨ad, cc, e, h1, h2, hc⟩
        · obtain ⟨a8, c8, rfl, hc8, -⟩ := own_slice hv8
          have hx0 : x.2.2.2 = [] := List.eq_nil_of_length_eq_zero h0
          rw [e]
          refine appN rfl rfl rfl el_bytes hc8 <| asg rfl rfl <| L.nilH ?_
          refine N.inb ?_
          refine N.th (N.meet [(4, _), (0, _), (3, _)] ⟨rfl, by rw [← e]; rfl, rfl, trivial⟩ ⟨_, rfl, .inl ?_, hx08⟩)   -- MEET
          rw [hent, hd]
          simpa [hx0] using hv8
        · cases e
          refine appY rfl rfl rfl el_bytes hv8 (news := encB x.2.2.2) (by simp [encB]) (fun j u hj => (hc j u hj).2) (encB_one _) (by simp [Ar.num_len]; omega) (by simp only [maxLen]; simp [Ar.num_len]; omega) hx08.size fun v9 w9 hv9 hx9 _ _ => ⟨.inr fun h => Buf.none (.inl hv8) h hx9 (Nat.le_refl _), ?_⟩
          refine asg rfl rfl <| L.nilH ?_
          refine N.inb ?_
          refine N.th (N.meet [(4, _), (0, _), (3, v9)] ⟨rfl, rfl, rfl, trivial⟩ ⟨v9, rfl, .inl ?_, Buf.none (.inl hv8) hx08 hx9 (Nat.le_refl _)⟩)   -- MEET
          rw [hent, hd]
          simpa using byts_app hv9
    rintro E' w3 ⟨bv', rfl, hb3, hx3⟩
    refine W.reg <| mv rfl rfl <| addI (c := ((i + 1 : Nat) : Int)) rfl rfl rfl (by rw [w64 (by omega) (by omega)]; simp) <| asg rfl rfl <| L.nil ?_
    exact N.th (N.round (x := (i + 1, bv')) ⟨rfl, rfl, rfl, trivial⟩ ⟨by dsimp only; omega, by dsimp only; rw [hnext]; exact hb3, hx3⟩ (by dsimp only; omega))   -- ROUND
  · refine W.exit ?_
    refine N.xth ?_
    refine N.xth ?_
    refine N.xeq ?_
    refine N.th ?_
    have hil : i = E.length := by have := of_decide_eq_false h; omega
    rw [hil, List.take_length] at hb2 hlen2
    refine W.seq ?_
    refine W.reg <| mv rfl rfl <| pushB (y := 255) rfl rfl rfl rfl (fun _ => by kernel_rfl) el_bytes hb2 (by omega) hx2.size fun v5 w5 hv5 hx5 hfr5 => ?_
    refine asg rfl rfl <| L.nil ?_
    refine N.th ?_
    refine W.ret ?_
    refine N.ret1 rfl rfl ?_   -- RETURN
    exact ⟨v5, rfl, hv5, hb2.none hx2 hx5 (Nat.le_refl _)⟩
end Go.Proofs.YtmdpmpdlkaogdaaDoor

namespace Go.Proofs.YtmdpmpdlkaogdaaDoor.Vc
open Go Go.RowKit
section ops
variable {Fe : Fence} {mm : Nat} [Wd Fe] {P : Program} {ds : List Deferred} {n : Nat} {Q : Exit → Act → World → Prop} {E : Env} {w : World} {ops : Array Oper} {l : List Oper}
/-- A call that may panic. -/
theorem callP {d : Nat} {g : FuncId} {args : Array Operand} {tys : Array TypeId} {ty : TypeId} {pos : String} {af : Array Edge} {vs : List Value} {R : Ending → World → Prop}
    (hargs : args.toList.map (opd E) = vs.map some) (hd : Nat.blt d n = true) (hf : FnOk P g) (hc : Calls P g vs.toArray w R)
    (k : ∀ e w', R e w' → (∃ v, e = .returned v ∧ L Fe mm P ds n ops l Q ((d, v) :: E) w') ∨ ∃ ch, e = .panicked ch ∧ N ds n (Q (.panic ch)) E w') : L Fe mm P ds n ops (⟨some d, .call ⟨.value (.func g), args, tys⟩, ty, pos, af, none⟩ :: l) Q E w := fun a ha => by
  obtain ⟨fn, hfn, hne, hbd⟩ := hf
  have he : args.map a.eval = vs.toArray := evals ha hargs
  have hrun : (execOp a.eval ⟨some d, .call ⟨.value (.func g), args, tys⟩, ty, pos, af, none⟩).run P w = .ok (.enter g vs.toArray) w := by
    have hne' : ¬ fn.name = "runtime.NumGoroutine" := by simpa using hne
    have hbd' : ¬ fn.body = none := by cases h : fn.body with | none => rw [h] at hbd; cases hbd | some c => simp
    simp [execOp, resolve, Act.eval, Deferred.ofValue, he, invoke, callFunc, program, Sem.run, hfn, hne', hbd']
  exact wpListIn_plain rfl fun K hK => by
    refine ⟨about_any _ _ _, ?_⟩
    rw [semAt_value hrun (by simp), hrun]
    refine ⟨(fun h => by rw [Wd.depth] at h; cases h), Wd.calls (hc.mono fun e w' hR => ?_)⟩
    rcases k e w' hR with ⟨v, rfl, hk⟩ | ⟨ch, rfl, hk⟩
    · exact hK _ _ (hk _ (ha.put hd))
    · exact hk _ ha
/-- A panic. -/
theorem pan {x : Operand} {t : TypeId} {v : Value} {ty : TypeId} {pos : String} {af : Array Edge} (hx : opd E x = some (.iface t v)) (k : N ds n (Q (.panic [{ v := .iface t v, recovered := false }])) E w) : L Fe mm P ds n ops (⟨none, .panic x, ty, pos, af, none⟩ :: l) Q E w := fun a ha => by
  have hrun : (execOp a.eval ⟨none, .panic x, ty, pos, af, none⟩).run P w = .halt (.panic (.iface t v)) w := by
    simp [execOp, opd_eval ha hx, Instr.panic]
  exact wpListIn_plain rfl fun K hK => by
    refine ⟨about_any _ _ _, ?_⟩
    have hs : ∀ r, (⟨none, .panic x, ty, pos, af, none⟩ : Oper).semAt r a.eval = execOp a.eval ⟨none, .panic x, ty, pos, af, none⟩ := fun r => by
      cases r with
      | none => exact Oper.semAt_none _ _
      | some l => exact Oper.semAt_some l _ _ fun c hc => by cases hc
    rw [hs, hrun]
    exact k a ha
end ops
end Go.Proofs.YtmdpmpdlkaogdaaDoor.Vc
namespace Go.Proofs.YtmdpmpdlkaogdaaDoor.Vc
open Go Go.RowKit
theorem N.pan {P : Program} {n : Nat} {E : Env} {w : World} {fn : Func} {R : Ending → World → Prop} {ch : List PanicEntry} (h : R (.panicked ch) w) : N [] n (bodyPost P fn R (.panic ch)) E w := fun _ ha => ⟨ha.1, h⟩
end Go.Proofs.YtmdpmpdlkaogdaaDoor.Vc

namespace Go.Proofs.YtmdpmpdlkaogdaaDoor
open Go Go.RowKit Vc
abbrev tStop : TypeId := 37
abbrev tRd : TypeId := 43
theorem ok_must : FnOk P 11 := ⟨_, Tryd.func11, by kernel_rfl, by kernel_rfl⟩
theorem ok_take : FnOk P 26 := ⟨_, Tryd.func26, by kernel_rfl, by kernel_rfl⟩
/-- How reading stops. -/
def stop (e : Int) : List PanicEntry := [{ v := .iface tStop (.agg #[.int .i64 e]), recovered := false }]
theorem c_must (ok : Bool) (c : Int) (w : World) : Calls P 11 #[.bool ok, .int .i64 c] w fun e w' => w = w' ∧ e = if ok then .returned (.tuple #[]) else .panicked (stop c) := by
  refine enter (l := [_, _]) (n := 9) Tryd.func11 rfl rfl rfl ?_
  refine W.seq ?_
  refine W.reg <| mv rfl rfl <| notB rfl rfl <| L.nil ?_
  refine N.th ?_
  cases ok with
  | false =>
    refine W.condT rfl ?_
    refine W.reg <| mv rfl rfl <| bld (vs := #[(0, .int .i64 c)]) (v := .agg #[.int .i64 c]) rfl rfl (fun _ => by kernel_rfl) <| mki rfl Tryd.underlying37 rfl rfl <| pan rfl ?_
    exact N.pan ⟨rfl, rfl⟩
  | true =>
    refine W.condF rfl ?_
    refine W.skip ?_
    exact N.end0 rfl ⟨rfl, rfl⟩

theorem fl_Rd_0 : fldB P tRd 0 = some 0 := by kernel_rfl
/-- A reader. -/
def RdAt (w : World) (rb : Nat) (v : Value) (b : List UInt8) : Prop := w.heap[rb]? = some (.cells #[v] tRd (0, 0)) ∧ BytA w v b
theorem BytA.rd {w w' : World} {rb : Nat} {u v : Value} {b : List UInt8} (h : BytA w v b) (hs : w.heap[rb]? = some (.cells #[u] tRd (0, 0))) (hu : ∃ a n c, u = .slice a n c) (hx : Ext (fun k => k = rb) w w') : BytA w' v b :=
  RowA.keep h hx.size fun ad x hx' hb hcell => hx.block _ hb fun e => by
    obtain ⟨y, -, rfl⟩ := List.mem_map.1 hx'
    obtain ⟨a, n, c, rfl⟩ := hu
    unfold World.cell? at hcell
    rw [e, hs] at hcell
    simp only at hcell
    split at hcell
    · cases hcell
    · have hm := Array.mem_of_getElem? hcell
      simp at hm
theorem BytA.cut {w : World} {a : Option Addr} {c k : Nat} {l : List UInt8} (h : BytA w (.slice a l.length c) l) (hk : k ≤ l.length) : BytA w (.slice (if c = k then a else a.map (·.add (k * 1))) (l.length - k) (c - k)) (l.drop k) := by
  obtain ⟨a', c', e, h1, h2, h3, hc⟩ := h
  cases e
  refine ⟨_, c - k, by rw [List.length_drop], by rw [List.length_drop]; omega, by omega, fun h => ?_, fun j u hj => ?_⟩
  · split at h
    · omega
    · cases a with
      | none => have := h3 rfl; omega
      | some ad => cases h
  · rw [encB, List.map_drop, List.getElem?_drop] at hj
    have hlt : k + j < l.length := by have := (List.getElem?_eq_some_iff.1 hj).1; simpa using this
    obtain ⟨ad, rfl, hb, hcell⟩ := hc (k + j) u hj
    rw [if_neg (by omega)]
    exact ⟨_, rfl, by rw [add_block]; exact hb, by rw [add_add, Nat.mul_one]; exact hcell⟩

theorem ownBlock_if (q : Prop) [Decidable q] (a : Option Addr) (k n c m : Nat) {d : Nat} : (Value.slice (if q then a else a.map (·.add k)) n c).ownBlock = (Value.slice a m d).ownBlock := by
  split <;> cases a <;> simp [Value.ownBlock, add_block]
/-- A slice's bytes, kept where its block is. -/
theorem BytA.blk {T : Nat → Prop} {w w' : World} {v : Value} {b : List UInt8} (h : BytA w v b) (hx : Ext T w w') (hT : ∀ k, v.ownBlock = some k → k < w.heap.size → ¬ T k) : BytA w' v b := by
  obtain ⟨a, cap, rfl, h1, h2, h3, hc⟩ := h
  refine ⟨a, cap, rfl, h1, h2, h3, fun j u hj => ?_⟩
  obtain ⟨ad, rfl, hb, hcell⟩ := hc j u hj
  refine ⟨ad, rfl, Nat.lt_of_lt_of_le hb hx.size, ?_⟩
  have hh : w'.cell? (ad.add j) = w.cell? (ad.add j) := World.cell?_of_block (by rw [add_block]; exact hx.block _ hb (hT _ rfl hb))
  rw [hh]
  exact hcell
/-- The same where a block that holds no numbers is turned. -/
theorem BytA.off {w w' : World} {g : Nat} {cs : Array Value} {e : TypeId} {f : Nat × Nat} {v : Value} {b : List UInt8} (h : BytA w v b) (hs : w.heap[g]? = some (.cells cs e f)) (hn : ∀ u ∈ cs.toList, ∀ κ i, u ≠ .int κ i) (hx : Ext (fun k => k = g) w w') : BytA w' v b :=
  RowA.keep h hx.size fun ad x hx' hb hcell => hx.block _ hb fun e => by
    obtain ⟨y, -, rfl⟩ := List.mem_map.1 hx'
    unfold World.cell? at hcell
    rw [e, hs] at hcell
    simp only at hcell
    split at hcell
    · cases hcell
    · exact hn _ (by simpa using Array.mem_of_getElem? hcell) _ _ rfl

theorem c_take {w : World} {rb : Nat} {v : Value} {b : List UInt8} (n : Nat) (h : RdAt w rb v b) (hn : n < 18446744073709551616) (hl : b.length ≤ 1000000000) :
    Calls P 26 #[.pointer (some ⟨rb, 0, none⟩), .int .u64 n] w fun e w' => (b.length < n ∧ e = .panicked (stop 64) ∧ w = w') ∨ (n ≤ b.length ∧ ∃ v1 v2, e = .returned v1 ∧ BytA w' v1 (b.take n) ∧ RdAt w' rb v2 (b.drop n) ∧ Ext (fun k => k = rb) w w' ∧ v1.ownBlock = v.ownBlock ∧ v2.ownBlock = v.ownBlock) := by
  obtain ⟨hc, hb⟩ := h
  obtain ⟨a, c, rfl, hbn, hbm, -, -⟩ := id hb
  have hc0 : w.cell? ⟨rb, 0, none⟩ = some (.slice a b.length c) := cell_of hc rfl
  refine enter (l := [_, _]) (n := 31) Tryd.func26 rfl rfl rfl ?_
  refine W.seq ?_
  refine W.reg <| asg rfl rfl <| L.nil ?_
  refine N.th ?_
  refine W.seq ?_
  refine W.reg <| mv rfl rfl <| mv rfl rfl <| nilc rfl rfl <| fad rfl fl_Rd_0 rfl <| ld1 rfl ag_bytes rfl hc0 <| lenV (t := 24) rfl u_bytes rfl <| cvtI (c := (b.length : Int)) rfl u_u64 u_int rfl (wu64 (by omega) (by omega)) <| leqI rfl rfl rfl <| callP (vs := [_, .int .i64 64]) rfl rfl ok_must (c_must _ 64 w) ?_
  rintro e w1 ⟨rfl, rfl⟩
  by_cases hle : n ≤ b.length
  · rw [show (if decide ((n : Int) ≤ (b.length : Int)) = true then Ending.returned (.tuple #[]) else .panicked (stop 64)) = .returned (.tuple #[]) from if_pos (decide_eq_true (by omega))]
    refine .inl ⟨_, rfl, ?_⟩
    refine L.nil ?_
    refine N.th ?_
    refine W.seq ?_
    refine W.reg <| mv rfl rfl <| nilc rfl rfl <| fad rfl fl_Rd_0 rfl <| ld1 rfl ag_bytes rfl hc0 <| mv rfl rfl <| slVh rfl rfl u_bytes el_bytes.szB rfl (by omega) (by omega) <| asg rfl rfl <| L.nil ?_
    refine N.th ?_
    refine W.seq ?_
    refine W.reg <| mv rfl rfl <| mv rfl rfl <| nilc rfl rfl <| fad rfl fl_Rd_0 rfl <| ld1 rfl ag_bytes rfl hc0 <| mv rfl rfl <| slVl rfl rfl u_bytes el_bytes.szB rfl (by omega) (by omega) <| nilc rfl rfl <| fad rfl fl_Rd_0 rfl <| st1 rfl rfl sz_bytes rfl hc rfl <| L.nil ?_
    refine N.th ?_
    refine W.seq ?_
    refine W.reg <| mv rfl rfl <| asg rfl rfl <| L.nil ?_
    refine N.th ?_
    refine W.ret ?_
    refine N.ret1 rfl rfl ?_   -- RETURN
    have hxs : ∀ {v1 : Value} {o1 : Nat}, Ext (fun k => k = rb) w (w.setCell ⟨rb, o1, none⟩ v1) := Ext.setCell (S := fun k => k = rb) _ (fun _ => rfl) _
    have h1 : BytA w (.slice a n c) (b.take n) := by
      have := RowA.take (m := n) (k := n) hb hle
      unfold BytA
      rw [show (b.take n).length = n by rw [List.length_take]; omega, show encB (b.take n) = (encB b).take n by simp [encB]]
      exact this
    refine .inr ⟨hle, _, _, rfl, h1.rd hc ⟨_, _, _, rfl⟩ hxs, ⟨by rw [setCell_heap hc]; rfl, ?_⟩, hxs, by cases a <;> rfl, ownBlock_if _ _ _ _ _ _⟩
    refine BytA.rd ?_ hc ⟨_, _, _, rfl⟩ hxs
    exact BytA.cut hb hle
  · rw [show (if decide ((n : Int) ≤ (b.length : Int)) = true then Ending.returned (.tuple #[]) else .panicked (stop 64)) = .panicked (stop 64) from if_neg (by rw [decide_eq_false (by omega)]; simp)]
    refine .inr ⟨_, rfl, ?_⟩
    refine N.pth <| N.pan ?_
    exact .inl ⟨by omega, rfl, rfl⟩
end Go.Proofs.YtmdpmpdlkaogdaaDoor
