/- Scripts that came in: lists of Acts. The walk of haversacklaw8.light. -/
import Derived.Test.YtmdpmpdlkaogdaaGreatDoorZo
namespace Go.Proofs.YtmdpmpdlkaogdaaGreatDoor
open Go Go.RowKit Go.ChangeShapes Go.WideShapes Vc

abbrev tAct : TypeId := 73
theorem u_acts : P.underlying 70 = some (.slice tAct) := Tryz.underlying70
theorem sz_Act : szB P tAct = some 4 := by kernel_rfl
theorem ag_Act : aggB P tAct = some true := by kernel_rfl
theorem fl_Act_0 : fldB P tAct 0 = some 0 := by kernel_rfl
theorem fl_Act_1 : fldB P tAct 1 = some 1 := by kernel_rfl
theorem fl_Act_2 : fldB P tAct 2 = some 2 := by kernel_rfl
theorem fl_Act_3 : fldB P tAct 3 = some 3 := by kernel_rfl
/-- What, P, Q, B: where its bytes are, and what they are. -/
abbrev AE := UInt8 × Tr.Bytes × Tr.Bytes × Value × Tr.Bytes
def acells (x : AE) : List Value := [.int .u8 x.1.toNat, .string (S x.2.1), .string (S x.2.2.1), x.2.2.2.1]
theorem acells_len (x : AE) : (acells x).length = 4 := rfl
theorem calmA (E : List AE) (h : ∀ x ∈ E, ∃ a n c, x.2.2.2.1 = .slice a n c) : ∀ u ∈ E.flatMap acells, calm u = true := by
  intro u hu
  obtain ⟨x, hx, hu⟩ := List.mem_flatMap.1 hu
  obtain ⟨a, n, c, hs⟩ := h x hx
  simp only [acells, List.mem_cons, List.not_mem_nil, or_false] at hu
  rcases hu with rfl | rfl | rfl | rfl
  · rfl
  · rfl
  · rfl
  · rw [hs]; rfl
/-- A script that may be read. -/
structure ActsA (w : World) (v : Value) (E : List AE) : Prop where
  row : RowA w v E.length (E.flatMap acells)
  bytes : ∀ x ∈ E, BytA w x.2.2.2.1 x.2.2.2.2
theorem ActsA.ext0 {w w' : World} {v : Value} {E : List AE} (h : ActsA w v E) (hx : Ext none_ w w') : ActsA w' v E := ⟨h.row.ext0 hx, fun x hm => (h.bytes x hm).ext0 hx⟩
theorem flat_ne {α : Type} {f : α → List Value} {E : List α} {x : α} {k : Nat} (hf : ∀ x, (f x).length = k + 1) (h : x ∈ E) : E.flatMap f ≠ [] := fun e => by
  have h1 := List.flatMap_eq_nil_iff.1 e x h
  have h2 := hf x
  rw [h1] at h2
  cases h2
theorem ActsA.plain {w : World} {v : Value} {E : List AE} {x0 : AE} (h : ActsA w v E) (hm : x0 ∈ E) : ∃ b o c, v = .slice (some ⟨b, o, none⟩) E.length c ∧ ∀ (i : Nat) x, E[i]? = some x →
    w.cell? ⟨b, o + i * 4 + 0, none⟩ = some (.int .u8 x.1.toNat) ∧ w.cell? ⟨b, o + i * 4 + 1, none⟩ = some (.string (S x.2.1)) ∧ w.cell? ⟨b, o + i * 4 + 2, none⟩ = some (.string (S x.2.2.1)) ∧ w.cell? ⟨b, o + i * 4 + 3, none⟩ = some x.2.2.2.1 := by
  obtain ⟨b, o, c, rfl, -, -, -, hc⟩ := h.row.plain (flat_ne acells_len hm)
  refine ⟨b, o, c, rfl, fun i x hi => ?_⟩
  have hg : ∀ j, j < 4 → (E.flatMap acells)[i * 4 + j]? = (acells x)[j]? := fun j hj => by
    rw [flat_get acells 4 acells_len (by omega), show (i * 4 + j) / 4 = i by omega, show (i * 4 + j) % 4 = j by omega, hi]; rfl
  refine ⟨?_, ?_, ?_, ?_⟩
  · rw [Nat.add_assoc]; exact hc _ _ (hg 0 (by omega))
  · rw [Nat.add_assoc]; exact hc _ _ (hg 1 (by omega))
  · rw [Nat.add_assoc]; exact hc _ _ (hg 2 (by omega))
  · rw [Nat.add_assoc]; exact hc _ _ (hg 3 (by omega))

section
variable {H : Type} {enc : TypeId × Value → H} {w : World} {base : Nat} {spare : Nat → Bool} {held : Bool} {fuel : Nat} {cs : List Value} {x : DataW H × List MemPlace}
theorem open_act (h : DataW.trod enc P w base spare held fuel tAct cs = some x) : ∃ y : AE, cs = acells y ∧ BytA w y.2.2.2.1 y.2.2.2.2 := by
  obtain ⟨xs, n, -, -, hl, hxl, hf⟩ := DataW.trod_struct Tryz.underlying73 h
  have hc4 : P.cellsOf tAct = 4 := by kernel_rfl
  have hu8 : P.cellsOf 5 = 1 := by kernel_rfl
  have hst : P.cellsOf 9 = 1 := by kernel_rfl
  have hby : P.cellsOf 25 = 1 := by kernel_rfl
  rw [show Tryz.prog.cellsOf 73 = 4 from hc4] at hl
  have hxl4 : xs.length = 4 := hxl
  obtain ⟨c0, c1, c2, c3, rfl⟩ : ∃ a b c d, cs = [a, b, c, d] := by
    clear h hf
    match cs, hl with
    | [a, b, c, d], _ => exact ⟨a, b, c, d, rfl⟩
  have get : ∀ {i : Nat}, i < 4 → ∃ y, xs[i]? = some y := fun {i} hi => ⟨_, List.getElem?_eq_getElem (by omega)⟩
  obtain ⟨y0, hy0⟩ := get (i := 0) (by omega)
  obtain ⟨y1, hy1⟩ := get (i := 1) (by omega)
  obtain ⟨y2, hy2⟩ := get (i := 2) (by omega)
  obtain ⟨y3, hy3⟩ := get (i := 3) (by omega)
  have h0 : DataW.trod enc Tryz.prog w base spare held n 5 (([c0, c1, c2, c3].drop 0).take (Tryz.prog.cellsOf 5)) = xs[0]? := hf 0 _ rfl
  have h1 : DataW.trod enc Tryz.prog w base spare held n 9 (([c0, c1, c2, c3].drop 1).take (Tryz.prog.cellsOf 9)) = xs[1]? := hf 1 _ rfl
  have h2 : DataW.trod enc Tryz.prog w base spare held n 9 (([c0, c1, c2, c3].drop 2).take (Tryz.prog.cellsOf 9)) = xs[2]? := hf 2 _ rfl
  have h3 : DataW.trod enc Tryz.prog w base spare held n 25 (([c0, c1, c2, c3].drop 3).take (Tryz.prog.cellsOf 25)) = xs[3]? := hf 3 _ rfl
  rw [hy0, show Tryz.prog.cellsOf 5 = 1 from hu8] at h0
  rw [hy1, show Tryz.prog.cellsOf 9 = 1 from hst] at h1
  rw [hy2, show Tryz.prog.cellsOf 9 = 1 from hst] at h2
  rw [hy3, show Tryz.prog.cellsOf 25 = 1 from hby] at h3
  obtain ⟨b, e0⟩ := open_byte u_u8 h0
  obtain ⟨p, e1⟩ := open_str u_str h1
  obtain ⟨q, e2⟩ := open_str u_str h2
  obtain ⟨v, l, e3, hb⟩ := open_bytesA u_bytes u_u8 hu8 h3
  simp at e0 e1 e2 e3
  exact ⟨(b, p, q, v, l), by rw [e0, e1, e2, e3]; rfl, hb⟩
/-- A list of Acts. -/
theorem open_actsA (h : DataW.trod enc P w base spare held fuel 70 cs = some x) : ∃ v, ∃ E : List AE, cs = [v] ∧ RowA w v E.length (E.flatMap acells) ∧ ∀ y ∈ E, BytA w y.2.2.2.1 y.2.2.2.2 := by
  have hc4 : P.cellsOf tAct = 4 := by kernel_rfl
  rcases open_els u_acts hc4 h with rfl | ⟨a, len, cap, n, rfl, hl, hm, hel⟩
  · exact ⟨_, [], rfl, (Row.nil w tB 1).arg, fun p h => by cases h⟩
  · obtain ⟨E, hEl, hEr⟩ := list_of (α := AE) len (fun i y => (∀ j u, (acells y)[j]? = some u → w.cell? (a.add (i * 4 + j)) = some u) ∧ BytA w y.2.2.2.1 y.2.2.2.2) (fun i hi => by
      obtain ⟨csi, z, hz, hl2, hc⟩ := hel i hi
      obtain ⟨y, rfl, hb⟩ := open_act hz
      exact ⟨y, hc, hb⟩)
    refine ⟨_, E, rfl, ?_, fun y hy => ?_⟩
    · rw [hEl]
      exact rowA_of (fun y _ => acells_len y) hl hm fun i y hi => (hEr i y hi).1
    · obtain ⟨j, hj⟩ := List.getElem?_of_mem hy
      exact (hEr j y hj).2
end

theorem ok_light : FnOk P 41 := ⟨_, Tryz.func41, by kernel_rfl, by kernel_rfl⟩
def lightA (x : AE) : Bool := decide (x.2.1.length ≤ 250) && (decide (x.2.2.1.length ≤ 250) && decide (x.2.2.2.2.length ≤ 200))
def light8 (E : List AE) : Bool := decide (E.length ≤ 40) && E.all lightA
theorem c_light {w : World} {v : Value} {E : List AE} (h : ActsA w v E) : Calls P 41 #[v] w fun e w' => e = .returned (.bool (light8 E)) ∧ w = w' := by
  obtain ⟨a, c, rfl, hn, hmx, -, -⟩ := id h.row
  refine enter (l := [_]) (n := 38) Tryz.func41 rfl rfl rfl ?_
  refine W.seq ?_
  refine W.reg <| asg rfl rfl <| L.nil ?_
  refine N.th ?_
  refine W.seq ?_
  refine W.seq ?_
  refine W.reg <| mv rfl rfl <| lenV rfl u_acts rfl <| gtrI rfl rfl rfl <| L.nil ?_
  refine N.th ?_
  refine W.cond rfl (fun h => ?_) (fun h => ?_)
  · refine W.seq ?_
    refine W.reg <| asg rfl rfl <| L.nil ?_
    refine N.th ?_
    refine W.ret ?_
    refine N.rth ?_
    refine N.ret1 rfl rfl ?_   -- RETURN
    have : ¬ E.length ≤ 40 := by simp at h; omega
    exact ⟨by simp [light8, this], rfl⟩
  have h40 : E.length ≤ 40 := by simp at h; omega
  refine W.skip ?_
  refine N.th ?_
  refine W.seq ?_
  refine W.seq ?_
  refine W.reg <| asg rfl rfl <| L.nil ?_
  refine N.th ?_
  refine W.block ?_
  refine W.loop (X := Nat) (fun i => [(0, .slice a E.length c), (3, .int .i64 i)]) (fun i w' => i ≤ E.length ∧ w' = w ∧ (E.take i).all lightA = true) (fun i => E.length - i) 0 ⟨rfl, rfl, trivial⟩ ⟨by omega, rfl, rfl⟩ ?_
  rintro i w1 ⟨hi, rfl, hall⟩
  refine W.seq ?_
  refine W.seq ?_
  refine W.reg <| mv rfl rfl <| mv rfl rfl <| lenV rfl u_acts rfl <| lssI rfl rfl rfl <| L.nil ?_
  refine N.th ?_
  refine W.cond rfl (fun h => ?_) (fun h => ?_)
  · refine W.skip ?_
    refine N.th ?_
    have hi1 : i < E.length := by simp at h; omega
    obtain ⟨x, hxe⟩ : ∃ x, E[i]? = some x := ⟨_, List.getElem?_eq_getElem hi1⟩
    obtain ⟨b, o, c', hv, hcell⟩ := ActsA.plain ‹ActsA w1 _ E› (List.mem_of_getElem? hxe)
    cases hv
    obtain ⟨-, hc1, hc2, hc3⟩ := hcell i x hxe
    obtain ⟨ba, bc, hbv, -⟩ := (‹ActsA w1 _ E›).bytes x (List.mem_of_getElem? hxe)
    rw [hbv] at hc3
    refine W.seq ?_
    refine W.block ?_
    refine W.seqM (fun E' w' => E' = [(37, .bool (!lightA x)), (0, .slice (some ⟨b, o, none⟩) E.length c), (3, .int .i64 i)] ∧ w' = w1) ?_ ?_
    · refine W.reg ?_
      (repeat (first | refine mv rfl rfl ?_ | refine asg rfl rfl ?_ | refine L.off rfl rfl rfl rfl rfl ?_ | refine L.offU rfl rfl rfl rfl ?_ | refine L.on rfl rfl rfl ?_ | refine pickT rfl rfl rfl ?_ | refine pickF rfl rfl rfl ?_ | refine ext rfl rfl rfl ?_ | refine nilc rfl rfl ?_ | refine lenV (t := 46) rfl u_strs rfl ?_ | refine lenV (t := 25) rfl u_bytes rfl ?_ | refine lenV (t := 22) rfl u_files rfl ?_ | refine lenS (t := 9) rfl u_str rfl ?_ | refine eqlI rfl rfl rfl ?_ | refine neqI rfl rfl rfl ?_ | refine lssI rfl rfl rfl ?_ | refine leqI rfl rfl rfl ?_ | refine gtrI rfl rfl rfl ?_ | refine geqI rfl rfl rfl ?_))
      refine ixa rfl rfl u_acts sz_Act rfl (by omega) (by omega) <| fad rfl fl_Act_1 rfl <| ld1 rfl ag_str rfl hc1 ?_
      (repeat (first | refine mv rfl rfl ?_ | refine asg rfl rfl ?_ | refine L.off rfl rfl rfl rfl rfl ?_ | refine L.offU rfl rfl rfl rfl ?_ | refine L.on rfl rfl rfl ?_ | refine pickT rfl rfl rfl ?_ | refine pickF rfl rfl rfl ?_ | refine ext rfl rfl rfl ?_ | refine nilc rfl rfl ?_ | refine lenV (t := 46) rfl u_strs rfl ?_ | refine lenV (t := 25) rfl u_bytes rfl ?_ | refine lenV (t := 22) rfl u_files rfl ?_ | refine lenS (t := 9) rfl u_str rfl ?_ | refine eqlI rfl rfl rfl ?_ | refine neqI rfl rfl rfl ?_ | refine lssI rfl rfl rfl ?_ | refine leqI rfl rfl rfl ?_ | refine gtrI rfl rfl rfl ?_ | refine geqI rfl rfl rfl ?_))
      by_cases h1 : x.2.1.length ≤ 250
      · refine Vc.bf (by simp; omega) ?_
        (repeat (first | refine mv rfl rfl ?_ | refine asg rfl rfl ?_ | refine L.off rfl rfl rfl rfl rfl ?_ | refine L.offU rfl rfl rfl rfl ?_ | refine L.on rfl rfl rfl ?_ | refine pickT rfl rfl rfl ?_ | refine pickF rfl rfl rfl ?_ | refine ext rfl rfl rfl ?_ | refine nilc rfl rfl ?_ | refine lenV (t := 46) rfl u_strs rfl ?_ | refine lenV (t := 25) rfl u_bytes rfl ?_ | refine lenV (t := 22) rfl u_files rfl ?_ | refine lenS (t := 9) rfl u_str rfl ?_ | refine eqlI rfl rfl rfl ?_ | refine neqI rfl rfl rfl ?_ | refine lssI rfl rfl rfl ?_ | refine leqI rfl rfl rfl ?_ | refine gtrI rfl rfl rfl ?_ | refine geqI rfl rfl rfl ?_))
        refine ixa rfl rfl u_acts sz_Act rfl (by omega) (by omega) <| L.on rfl rfl rfl <| fad rfl fl_Act_2 rfl <| L.on rfl rfl rfl <| ld1 rfl ag_str rfl hc2 ?_
        (repeat (first | refine mv rfl rfl ?_ | refine asg rfl rfl ?_ | refine L.off rfl rfl rfl rfl rfl ?_ | refine L.offU rfl rfl rfl rfl ?_ | refine L.on rfl rfl rfl ?_ | refine pickT rfl rfl rfl ?_ | refine pickF rfl rfl rfl ?_ | refine ext rfl rfl rfl ?_ | refine nilc rfl rfl ?_ | refine lenV (t := 46) rfl u_strs rfl ?_ | refine lenV (t := 25) rfl u_bytes rfl ?_ | refine lenV (t := 22) rfl u_files rfl ?_ | refine lenS (t := 9) rfl u_str rfl ?_ | refine eqlI rfl rfl rfl ?_ | refine neqI rfl rfl rfl ?_ | refine lssI rfl rfl rfl ?_ | refine leqI rfl rfl rfl ?_ | refine gtrI rfl rfl rfl ?_ | refine geqI rfl rfl rfl ?_))
        by_cases h2 : x.2.2.1.length ≤ 250
        · refine Vc.bf (by simp; omega) ?_
          (repeat (first | refine mv rfl rfl ?_ | refine asg rfl rfl ?_ | refine L.off rfl rfl rfl rfl rfl ?_ | refine L.offU rfl rfl rfl rfl ?_ | refine L.on rfl rfl rfl ?_ | refine pickT rfl rfl rfl ?_ | refine pickF rfl rfl rfl ?_ | refine ext rfl rfl rfl ?_ | refine nilc rfl rfl ?_ | refine lenV (t := 46) rfl u_strs rfl ?_ | refine lenV (t := 25) rfl u_bytes rfl ?_ | refine lenV (t := 22) rfl u_files rfl ?_ | refine lenS (t := 9) rfl u_str rfl ?_ | refine eqlI rfl rfl rfl ?_ | refine neqI rfl rfl rfl ?_ | refine lssI rfl rfl rfl ?_ | refine leqI rfl rfl rfl ?_ | refine gtrI rfl rfl rfl ?_ | refine geqI rfl rfl rfl ?_))
          refine ixa rfl rfl u_acts sz_Act rfl (by omega) (by omega) <| L.on rfl rfl rfl <| fad rfl fl_Act_3 rfl <| L.on rfl rfl rfl <| ld1 rfl ag_bytes rfl hc3 ?_
          (repeat (first | refine mv rfl rfl ?_ | refine asg rfl rfl ?_ | refine L.off rfl rfl rfl rfl rfl ?_ | refine L.offU rfl rfl rfl rfl ?_ | refine L.on rfl rfl rfl ?_ | refine pickT rfl rfl rfl ?_ | refine pickF rfl rfl rfl ?_ | refine ext rfl rfl rfl ?_ | refine nilc rfl rfl ?_ | refine lenV (t := 46) rfl u_strs rfl ?_ | refine lenV (t := 25) rfl u_bytes rfl ?_ | refine lenV (t := 22) rfl u_files rfl ?_ | refine lenS (t := 9) rfl u_str rfl ?_ | refine eqlI rfl rfl rfl ?_ | refine neqI rfl rfl rfl ?_ | refine lssI rfl rfl rfl ?_ | refine leqI rfl rfl rfl ?_ | refine gtrI rfl rfl rfl ?_ | refine geqI rfl rfl rfl ?_))
          refine L.nil <| N.th (N.meet [(37, _), (0, _), (3, _)] ⟨rfl, rfl, rfl, trivial⟩ ⟨?_, rfl⟩)
          have : (!lightA x) = decide ((200 : Int) < (x.2.2.2.2.length : Int)) := by
            simp only [lightA, h1, h2, decide_true, Bool.true_and]
            rw [← decide_not]
            apply decide_eq_decide.2
            omega
          rw [this]
        · refine Vc.bt (by simp; omega) ?_
          (repeat (first | refine mv rfl rfl ?_ | refine asg rfl rfl ?_ | refine L.off rfl rfl rfl rfl rfl ?_ | refine L.offU rfl rfl rfl rfl ?_ | refine L.on rfl rfl rfl ?_ | refine pickT rfl rfl rfl ?_ | refine pickF rfl rfl rfl ?_ | refine ext rfl rfl rfl ?_ | refine nilc rfl rfl ?_ | refine lenV (t := 46) rfl u_strs rfl ?_ | refine lenV (t := 25) rfl u_bytes rfl ?_ | refine lenV (t := 22) rfl u_files rfl ?_ | refine lenS (t := 9) rfl u_str rfl ?_ | refine eqlI rfl rfl rfl ?_ | refine neqI rfl rfl rfl ?_ | refine lssI rfl rfl rfl ?_ | refine leqI rfl rfl rfl ?_ | refine gtrI rfl rfl rfl ?_ | refine geqI rfl rfl rfl ?_))
          exact L.nil <| N.th (N.meet [(37, .bool true), (0, _), (3, _)] ⟨rfl, rfl, rfl, trivial⟩ ⟨by simp [lightA, h2], rfl⟩)
      · refine Vc.bt (by simp; omega) ?_
        (repeat (first | refine mv rfl rfl ?_ | refine asg rfl rfl ?_ | refine L.off rfl rfl rfl rfl rfl ?_ | refine L.offU rfl rfl rfl rfl ?_ | refine L.on rfl rfl rfl ?_ | refine pickT rfl rfl rfl ?_ | refine pickF rfl rfl rfl ?_ | refine ext rfl rfl rfl ?_ | refine nilc rfl rfl ?_ | refine lenV (t := 46) rfl u_strs rfl ?_ | refine lenV (t := 25) rfl u_bytes rfl ?_ | refine lenV (t := 22) rfl u_files rfl ?_ | refine lenS (t := 9) rfl u_str rfl ?_ | refine eqlI rfl rfl rfl ?_ | refine neqI rfl rfl rfl ?_ | refine lssI rfl rfl rfl ?_ | refine leqI rfl rfl rfl ?_ | refine gtrI rfl rfl rfl ?_ | refine geqI rfl rfl rfl ?_))
        exact L.nil <| N.th (N.meet [(37, .bool true), (0, _), (3, _)] ⟨rfl, rfl, rfl, trivial⟩ ⟨by simp [lightA, h1], rfl⟩)
    rintro E' w2 ⟨rfl, rfl⟩
    refine W.cond rfl (fun h => ?_) (fun h => ?_)
    · refine W.seq ?_
      refine W.reg <| asg rfl rfl <| L.nil ?_
      refine N.th ?_
      refine W.ret ?_
      refine N.rinb <| N.rth <| N.rth <| N.rinb <| N.rth ?_
      refine N.ret1 rfl rfl ?_   -- RETURN
      have hn : E.all lightA = false := by
        rw [List.all_eq_false]
        exact ⟨x, List.mem_of_getElem? hxe, by simpa using h⟩
      exact ⟨by simp [light8, hn], rfl⟩
    · refine W.skip ?_
      refine N.inb ?_
      refine N.th ?_
      refine W.reg <| mv rfl rfl <| addI (c := ((i + 1 : Nat) : Int)) rfl rfl rfl (by rw [w64 (by omega) (by omega)]; simp) <| asg rfl rfl <| L.nil ?_
      refine N.th (N.round (x := i + 1) ⟨rfl, rfl, trivial⟩ ⟨by omega, rfl, ?_⟩ (by omega))   -- ROUND
      rw [List.take_add_one, hxe, List.all_append, hall]
      simpa using h
  · refine W.exit ?_
    refine N.xth ?_
    refine N.xth ?_
    refine N.xeq ?_
    refine N.th ?_
    refine W.seq ?_
    refine W.reg <| asg rfl rfl <| L.nil ?_
    refine N.th ?_
    refine W.ret ?_
    refine N.ret1 rfl rfl ?_   -- RETURN
    have hi1 : i = E.length := by simp at h; omega
    rw [hi1, List.take_length] at hall
    exact ⟨by simp [light8, h40, hall], rfl⟩
end Go.Proofs.YtmdpmpdlkaogdaaGreatDoor
