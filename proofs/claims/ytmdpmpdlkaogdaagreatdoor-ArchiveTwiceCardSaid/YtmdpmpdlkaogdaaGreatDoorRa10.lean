/- Scripts that came in: lists of Acts. The walk of haversacklaw8.light. Lists of files that came in. The walk of haversackhelp.LightFiles. The walk of archive.Pack. The walk of the document's Pack. The calculus: calls that may panic, and the panic operation. Nothing here speaks of the program. Walks: archive's must, reader.take. The walk of reader.number. Plain laws: the tree of files (TreeOf). No Go here. Plain words: what an archive's entries are. No Go here. The calculus' conversion from bytes of any row to a string. Nothing here speaks of the program. The walk of reader.all. -/
import Derived.Test.YtmdpmpdlkaogdaaGreatDoorRa09
import Derived.Test.YtmdpmpdlkaogdaaGreatDoorRa06
import Derived.Test.YtmdpmpdlkaogdaaGreatDoorRa08
import Derived.Lib.AppendStr
import Derived.Test.YtmdpmpdlkaogdaaGreatDoorRa01
import Derived.Test.YtmdpmpdlkaogdaaGreatDoorRa07

namespace Go.Proofs.YtmdpmpdlkaogdaaGreatDoor
open Go Go.RowKit Go.ChangeShapes Go.WideShapes Vc

abbrev tAct : TypeId := 73
theorem u_acts : P.underlying 70 = some (.slice tAct) := Tryz.underlying70
theorem sz_Act : szB P tAct = some 4 := by kernel_rfl
theorem ag_Act : aggB P tAct = some true := by kernel_rfl
theorem fl_Act_0 : fldB P tAct 0 = some 0 := by kernel_rfl
theorem fl_Act_1 : fldB P tAct 1 = some 1 := by kernel_rfl
theorem fl_Act_2 : fldB P tAct 2 = some 2 := by kernel_rfl
theorem fl_Act_3 : fldB P tAct 3 = some 3 := by kernel_rfl
/-- What, P, Q, B: where its bytes are, and what they are. -/
abbrev AE := UInt8 × Tr.Bytes × Tr.Bytes × Value × Tr.Bytes
def acells (x : AE) : List Value := [.int .u8 x.1.toNat, .string (S x.2.1), .string (S x.2.2.1), x.2.2.2.1]
theorem acells_len (x : AE) : (acells x).length = 4 := rfl
theorem calmA (E : List AE) (h : ∀ x ∈ E, ∃ a n c, x.2.2.2.1 = .slice a n c) : ∀ u ∈ E.flatMap acells, calm u = true := by
  intro u hu
  obtain ⟨x, hx, hu⟩ := List.mem_flatMap.1 hu
  obtain ⟨a, n, c, hs⟩ := h x hx
  simp only [acells, List.mem_cons, List.not_mem_nil, or_false] at hu
  rcases hu with rfl | rfl | rfl | rfl
  · rfl
  · rfl
  · rfl
  · rw [hs]; rfl
/-- A script that may be read. -/
structure ActsA (w : World) (v : Value) (E : List AE) : Prop where
  row : RowA w v E.length (E.flatMap acells)
  bytes : ∀ x ∈ E, BytA w x.2.2.2.1 x.2.2.2.2
theorem ActsA.ext0 {w w' : World} {v : Value} {E : List AE} (h : ActsA w v E) (hx : Ext none_ w w') : ActsA w' v E := ⟨h.row.ext0 hx, fun x hm => (h.bytes x hm).ext0 hx⟩
theorem flat_ne {α : Type} {f : α → List Value} {E : List α} {x : α} {k : Nat} (hf : ∀ x, (f x).length = k + 1) (h : x ∈ E) : E.flatMap f ≠ [] := fun e => by
  have h1 := List.flatMap_eq_nil_iff.1 e x h
  have h2 := hf x
  rw [h1] at h2
  cases h2
theorem ActsA.plain {w : World} {v : Value} {E : List AE} {x0 : AE} (h : ActsA w v E) (hm : x0 ∈ E) : ∃ b o c, v = .slice (some ⟨b, o, none⟩) E.length c ∧ ∀ (i : Nat) x, E[i]? = some x →
    w.cell? ⟨b, o + i * 4 + 0, none⟩ = some (.int .u8 x.1.toNat) ∧ w.cell? ⟨b, o + i * 4 + 1, none⟩ = some (.string (S x.2.1)) ∧ w.cell? ⟨b, o + i * 4 + 2, none⟩ = some (.string (S x.2.2.1)) ∧ w.cell? ⟨b, o + i * 4 + 3, none⟩ = some x.2.2.2.1 := by
  obtain ⟨b, o, c, rfl, -, -, -, hc⟩ := h.row.plain (flat_ne acells_len hm)
  refine ⟨b, o, c, rfl, fun i x hi => ?_⟩
  have hg : ∀ j, j < 4 → (E.flatMap acells)[i * 4 + j]? = (acells x)[j]? := fun j hj => by
    rw [flat_get acells 4 acells_len (by omega), show (i * 4 + j) / 4 = i by omega, show (i * 4 + j) % 4 = j by omega, hi]; rfl
  refine ⟨?_, ?_, ?_, ?_⟩
  · rw [Nat.add_assoc]; exact hc _ _ (hg 0 (by omega))
  · rw [Nat.add_assoc]; exact hc _ _ (hg 1 (by omega))
  · rw [Nat.add_assoc]; exact hc _ _ (hg 2 (by omega))
  · rw [Nat.add_assoc]; exact hc _ _ (hg 3 (by omega))

section
variable {H : Type} {enc : TypeId × Value → H} {w : World} {base : Nat} {spare : Nat → Bool} {held : Bool} {fuel : Nat} {cs : List Value} {x : DataW H × List MemPlace}
theorem open_act (h : DataW.trod enc P w base spare held fuel tAct cs = some x) : ∃ y : AE, cs = acells y ∧ BytA w y.2.2.2.1 y.2.2.2.2 := by
  obtain ⟨xs, n, -, -, hl, hxl, hf⟩ := DataW.trod_struct Tryz.underlying73 h
  have hc4 : P.cellsOf tAct = 4 := by kernel_rfl
  have hu8 : P.cellsOf 5 = 1 := by kernel_rfl
  have hst : P.cellsOf 9 = 1 := by kernel_rfl
  have hby : P.cellsOf 25 = 1 := by kernel_rfl
  rw [show Tryz.prog.cellsOf 73 = 4 from hc4] at hl
  have hxl4 : xs.length = 4 := hxl
  obtain ⟨c0, c1, c2, c3, rfl⟩ : ∃ a b c d, cs = [a, b, c, d] := by
    clear h hf
    match cs, hl with
    | [a, b, c, d], _ => exact ⟨a, b, c, d, rfl⟩
  have get : ∀ {i : Nat}, i < 4 → ∃ y, xs[i]? = some y := fun {i} hi => ⟨_, List.getElem?_eq_getElem (by omega)⟩
  obtain ⟨y0, hy0⟩ := get (i := 0) (by omega)
  obtain ⟨y1, hy1⟩ := get (i := 1) (by omega)
  obtain ⟨y2, hy2⟩ := get (i := 2) (by omega)
  obtain ⟨y3, hy3⟩ := get (i := 3) (by omega)
  have h0 : DataW.trod enc Tryz.prog w base spare held n 5 (([c0, c1, c2, c3].drop 0).take (Tryz.prog.cellsOf 5)) = xs[0]? := hf 0 _ rfl
  have h1 : DataW.trod enc Tryz.prog w base spare held n 9 (([c0, c1, c2, c3].drop 1).take (Tryz.prog.cellsOf 9)) = xs[1]? := hf 1 _ rfl
  have h2 : DataW.trod enc Tryz.prog w base spare held n 9 (([c0, c1, c2, c3].drop 2).take (Tryz.prog.cellsOf 9)) = xs[2]? := hf 2 _ rfl
  have h3 : DataW.trod enc Tryz.prog w base spare held n 25 (([c0, c1, c2, c3].drop 3).take (Tryz.prog.cellsOf 25)) = xs[3]? := hf 3 _ rfl
  rw [hy0, show Tryz.prog.cellsOf 5 = 1 from hu8] at h0
  rw [hy1, show Tryz.prog.cellsOf 9 = 1 from hst] at h1
  rw [hy2, show Tryz.prog.cellsOf 9 = 1 from hst] at h2
  rw [hy3, show Tryz.prog.cellsOf 25 = 1 from hby] at h3
  obtain ⟨b, e0⟩ := open_byte u_u8 h0
  obtain ⟨p, e1⟩ := open_str u_str h1
  obtain ⟨q, e2⟩ := open_str u_str h2
  obtain ⟨v, l, e3, hb⟩ := open_bytesA u_bytes u_u8 hu8 h3
  simp at e0 e1 e2 e3
  exact ⟨(b, p, q, v, l), by rw [e0, e1, e2, e3]; rfl, hb⟩
/-- A list of Acts. -/
theorem open_actsA (h : DataW.trod enc P w base spare held fuel 70 cs = some x) : ∃ v, ∃ E : List AE, cs = [v] ∧ RowA w v E.length (E.flatMap acells) ∧ ∀ y ∈ E, BytA w y.2.2.2.1 y.2.2.2.2 := by
  have hc4 : P.cellsOf tAct = 4 := by kernel_rfl
  rcases open_els u_acts hc4 h with rfl | ⟨a, len, cap, n, rfl, hl, hm, hel⟩
  · exact ⟨_, [], rfl, (Row.nil w tB 1).arg, fun p h => by cases h⟩
  · obtain ⟨E, hEl, hEr⟩ := list_of (α := AE) len (fun i y => (∀ j u, (acells y)[j]? = some u → w.cell? (a.add (i * 4 + j)) = some u) ∧ BytA w y.2.2.2.1 y.2.2.2.2) (fun i hi => by
      obtain ⟨csi, z, hz, hl2, hc⟩ := hel i hi
      obtain ⟨y, rfl, hb⟩ := open_act hz
      exact ⟨y, hc, hb⟩)
    refine ⟨_, E, rfl, ?_, fun y hy => ?_⟩
    · rw [hEl]
      exact rowA_of (fun y _ => acells_len y) hl hm fun i y hi => (hEr i y hi).1
    · obtain ⟨j, hj⟩ := List.getElem?_of_mem hy
      exact (hEr j y hj).2
end

theorem ok_light : FnOk P 41 := ⟨_, Tryz.func41, by kernel_rfl, by kernel_rfl⟩
def lightA (x : AE) : Bool := decide (x.2.1.length ≤ 250) && (decide (x.2.2.1.length ≤ 250) && decide (x.2.2.2.2.length ≤ 200))
def light8 (E : List AE) : Bool := decide (E.length ≤ 40) && E.all lightA
theorem c_light {w : World} {v : Value} {E : List AE} (h : ActsA w v E) : Calls P 41 #[v] w fun e w' => e = .returned (.bool (light8 E)) ∧ w = w' := by
  obtain ⟨a, c, rfl, hn, hmx, -, -⟩ := id h.row
  refine enter (l := [_]) (n := 38) Tryz.func41 rfl rfl rfl ?_
  refine W.seq ?_
  refine W.reg <| asg rfl rfl <| L.nil ?_
  refine N.th ?_
  refine W.seq ?_
  refine W.seq ?_
  refine W.reg <| mv rfl rfl <| lenV rfl u_acts rfl <| gtrI rfl rfl rfl <| L.nil ?_
  refine N.th ?_
  refine W.cond rfl (fun h => ?_) (fun h => ?_)
  · refine W.seq ?_
    refine W.reg <| asg rfl rfl <| L.nil ?_
    refine N.th ?_
    refine W.ret ?_
    refine N.rth ?_
    refine N.ret1 rfl rfl ?_   -- RETURN
    have : ¬ E.length ≤ 40 := by simp at h; omega
    exact ⟨by simp [light8, this], rfl⟩
  have h40 : E.length ≤ 40 := by simp at h; omega
  refine W.skip ?_
  refine N.th ?_
  refine W.seq ?_
  refine W.seq ?_
  refine W.reg <| asg rfl rfl <| L.nil ?_
  refine N.th ?_
  refine W.block ?_
  refine W.loop (X := Nat) (fun i => [(0, .slice a E.length c), (3, .int .i64 i)]) (fun i w' => i ≤ E.length ∧ w' = w ∧ (E.take i).all lightA = true) (fun i => E.length - i) 0 ⟨rfl, rfl, trivial⟩ ⟨by omega, rfl, rfl⟩ ?_
  rintro i w1 ⟨hi, rfl, hall⟩
  refine W.seq ?_
  refine W.seq ?_
  refine W.reg <| mv rfl rfl <| mv rfl rfl <| lenV rfl u_acts rfl <| lssI rfl rfl rfl <| L.nil ?_
  refine N.th ?_
  refine W.cond rfl (fun h => ?_) (fun h => ?_)
  · refine W.skip ?_
    refine N.th ?_
    have hi1 : i < E.length := by simp at h; omega
    obtain ⟨x, hxe⟩ : ∃ x, E[i]? = some x := ⟨_, List.getElem?_eq_getElem hi1⟩
    obtain ⟨b, o, c', hv, hcell⟩ := ActsA.plain ‹ActsA w1 _ E› (List.mem_of_getElem? hxe)
    cases hv
    obtain ⟨-, hc1, hc2, hc3⟩ := hcell i x hxe
    obtain ⟨ba, bc, hbv, -⟩ := (‹ActsA w1 _ E›).bytes x (List.mem_of_getElem? hxe)
    rw [hbv] at hc3
    refine W.seq ?_
    refine W.block ?_
    refine W.seqM (fun E' w' => E' = [(37, .bool (!lightA x)), (0, .slice (some ⟨b, o, none⟩) E.length c), (3, .int .i64 i)] ∧ w' = w1) ?_ ?_
    · refine W.reg ?_
      (repeat (first | refine mv rfl rfl ?_ | refine asg rfl rfl ?_ | refine L.off rfl rfl rfl rfl rfl ?_ | refine L.offU rfl rfl rfl rfl ?_ | refine L.on rfl rfl rfl ?_ | refine pickT rfl rfl rfl ?_ | refine pickF rfl rfl rfl ?_ | refine ext rfl rfl rfl ?_ | refine nilc rfl rfl ?_ | refine lenV (t := 46) rfl u_strs rfl ?_ | refine lenV (t := 25) rfl u_bytes rfl ?_ | refine lenV (t := 22) rfl u_files rfl ?_ | refine lenS (t := 9) rfl u_str rfl ?_ | refine eqlI rfl rfl rfl ?_ | refine neqI rfl rfl rfl ?_ | refine lssI rfl rfl rfl ?_ | refine leqI rfl rfl rfl ?_ | refine gtrI rfl rfl rfl ?_ | refine geqI rfl rfl rfl ?_))
      refine ixa rfl rfl u_acts sz_Act rfl (by omega) (by omega) <| fad rfl fl_Act_1 rfl <| ld1 rfl ag_str rfl hc1 ?_
      (repeat (first | refine mv rfl rfl ?_ | refine asg rfl rfl ?_ | refine L.off rfl rfl rfl rfl rfl ?_ | refine L.offU rfl rfl rfl rfl ?_ | refine L.on rfl rfl rfl ?_ | refine pickT rfl rfl rfl ?_ | refine pickF rfl rfl rfl ?_ | refine ext rfl rfl rfl ?_ | refine nilc rfl rfl ?_ | refine lenV (t := 46) rfl u_strs rfl ?_ | refine lenV (t := 25) rfl u_bytes rfl ?_ | refine lenV (t := 22) rfl u_files rfl ?_ | refine lenS (t := 9) rfl u_str rfl ?_ | refine eqlI rfl rfl rfl ?_ | refine neqI rfl rfl rfl ?_ | refine lssI rfl rfl rfl ?_ | refine leqI rfl rfl rfl ?_ | refine gtrI rfl rfl rfl ?_ | refine geqI rfl rfl rfl ?_))
      by_cases h1 : x.2.1.length ≤ 250
      · refine Vc.bf (by simp; omega) ?_
        (repeat (first | refine mv rfl rfl ?_ | refine asg rfl rfl ?_ | refine L.off rfl rfl rfl rfl rfl ?_ | refine L.offU rfl rfl rfl rfl ?_ | refine L.on rfl rfl rfl ?_ | refine pickT rfl rfl rfl ?_ | refine pickF rfl rfl rfl ?_ | refine ext rfl rfl rfl ?_ | refine nilc rfl rfl ?_ | refine lenV (t := 46) rfl u_strs rfl ?_ | refine lenV (t := 25) rfl u_bytes rfl ?_ | refine lenV (t := 22) rfl u_files rfl ?_ | refine lenS (t := 9) rfl u_str rfl ?_ | refine eqlI rfl rfl rfl ?_ | refine neqI rfl rfl rfl ?_ | refine lssI rfl rfl rfl ?_ | refine leqI rfl rfl rfl ?_ | refine gtrI rfl rfl rfl ?_ | refine geqI rfl rfl rfl ?_))
        refine ixa rfl rfl u_acts sz_Act rfl (by omega) (by omega) <| L.on rfl rfl rfl <| fad rfl fl_Act_2 rfl <| L.on rfl rfl rfl <| ld1 rfl ag_str rfl hc2 ?_
        (repeat (first | refine mv rfl rfl ?_ | refine asg rfl rfl ?_ | refine L.off rfl rfl rfl rfl rfl ?_ | refine L.offU rfl rfl rfl rfl ?_ | refine L.on rfl rfl rfl ?_ | refine pickT rfl rfl rfl ?_ | refine pickF rfl rfl rfl ?_ | refine ext rfl rfl rfl ?_ | refine nilc rfl rfl ?_ | refine lenV (t := 46) rfl u_strs rfl ?_ | refine lenV (t := 25) rfl u_bytes rfl ?_ | refine lenV (t := 22) rfl u_files rfl ?_ | refine lenS (t := 9) rfl u_str rfl ?_ | refine eqlI rfl rfl rfl ?_ | refine neqI rfl rfl rfl ?_ | refine lssI rfl rfl rfl ?_ | refine leqI rfl rfl rfl ?_ | refine gtrI rfl rfl rfl ?_ | refine geqI rfl rfl rfl ?_))
        by_cases h2 : x.2.2.1.length ≤ 250
        · refine Vc.bf (by simp; omega) ?_
          (repeat (first | refine mv rfl rfl ?_ | refine asg rfl rfl ?_ | refine L.off rfl rfl rfl rfl rfl ?_ | refine L.offU rfl rfl rfl rfl ?_ | refine L.on rfl rfl rfl ?_ | refine pickT rfl rfl rfl ?_ | refine pickF rfl rfl rfl ?_ | refine ext rfl rfl rfl ?_ | refine nilc rfl rfl ?_ | refine lenV (t := 46) rfl u_strs rfl ?_ | refine lenV (t := 25) rfl u_bytes rfl ?_ | refine lenV (t := 22) rfl u_files rfl ?_ | refine lenS (t := 9) rfl u_str rfl ?_ | refine eqlI rfl rfl rfl ?_ | refine neqI rfl rfl rfl ?_ | refine lssI rfl rfl rfl ?_ | refine leqI rfl rfl rfl ?_ | refine gtrI rfl rfl rfl ?_ | refine geqI rfl rfl rfl ?_))
          refine ixa rfl rfl u_acts sz_Act rfl (by omega) (by omega) <| L.on rfl rfl rfl <| fad rfl fl_Act_3 rfl <| L.on rfl rfl rfl <| ld1 rfl ag_bytes rfl hc3 ?_
          (repeat (first | refine mv rfl rfl ?_ | refine asg rfl rfl ?_ | refine L.off rfl rfl rfl rfl rfl ?_ | refine L.offU rfl rfl rfl rfl ?_ | refine L.on rfl rfl rfl ?_ | refine pickT rfl rfl rfl ?_ | refine pickF rfl rfl rfl ?_ | refine ext rfl rfl rfl ?_ | refine nilc rfl rfl ?_ | refine lenV (t := 46) rfl u_strs rfl ?_ | refine lenV (t := 25) rfl u_bytes rfl ?_ | refine lenV (t := 22) rfl u_files rfl ?_ | refine lenS (t := 9) rfl u_str rfl ?_ | refine eqlI rfl rfl rfl ?_ | refine neqI rfl rfl rfl ?_ | refine lssI rfl rfl rfl ?_ | refine leqI rfl rfl rfl ?_ | refine gtrI rfl rfl rfl ?_ | refine geqI rfl rfl rfl ?_))
          refine L.nil <| N.th (N.meet [(37, _), (0, _), (3, _)] ⟨rfl, rfl, rfl, trivial⟩ ⟨?_, rfl⟩)
          have : (!lightA x) = decide ((200 : Int) < (x.2.2.2.2.length : Int)) := by
            simp only [lightA, h1, h2, decide_true, Bool.true_and]
            rw [← decide_not]
            apply decide_eq_decide.2
            omega
          rw [this]
        · refine Vc.bt (by simp; omega) ?_
          (repeat (first | refine mv rfl rfl ?_ | refine asg rfl rfl ?_ | refine L.off rfl rfl rfl rfl rfl ?_ | refine L.offU rfl rfl rfl rfl ?_ | refine L.on rfl rfl rfl ?_ | refine pickT rfl rfl rfl ?_ | refine pickF rfl rfl rfl ?_ | refine ext rfl rfl rfl ?_ | refine nilc rfl rfl ?_ | refine lenV (t := 46) rfl u_strs rfl ?_ | refine lenV (t := 25) rfl u_bytes rfl ?_ | refine lenV (t := 22) rfl u_files rfl ?_ | refine lenS (t := 9) rfl u_str rfl ?_ | refine eqlI rfl rfl rfl ?_ | refine neqI rfl rfl rfl ?_ | refine lssI rfl rfl rfl ?_ | refine leqI rfl rfl rfl ?_ | refine gtrI rfl rfl rfl ?_ | refine geqI rfl rfl rfl ?_))
          exact L.nil <| N.th (N.meet [(37, .bool true), (0, _), (3, _)] ⟨rfl, rfl, rfl, trivial⟩ ⟨by simp [lightA, h2], rfl⟩)
      · refine Vc.bt (by simp; omega) ?_
        (repeat (first | refine mv rfl rfl ?_ | refine asg rfl rfl ?_ | refine L.off rfl rfl rfl rfl rfl ?_ | refine L.offU rfl rfl rfl rfl ?_ | refine L.on rfl rfl rfl ?_ | refine pickT rfl rfl rfl ?_ | refine pickF rfl rfl rfl ?_ | refine ext rfl rfl rfl ?_ | refine nilc rfl rfl ?_ | refine lenV (t := 46) rfl u_strs rfl ?_ | refine lenV (t := 25) rfl u_bytes rfl ?_ | refine lenV (t := 22) rfl u_files rfl ?_ | refine lenS (t := 9) rfl u_str rfl ?_ | refine eqlI rfl rfl rfl ?_ | refine neqI rfl rfl rfl ?_ | refine lssI rfl rfl rfl ?_ | refine leqI rfl rfl rfl ?_ | refine gtrI rfl rfl rfl ?_ | refine geqI rfl rfl rfl ?_))
        exact L.nil <| N.th (N.meet [(37, .bool true), (0, _), (3, _)] ⟨rfl, rfl, rfl, trivial⟩ ⟨by simp [lightA, h1], rfl⟩)
    rintro E' w2 ⟨rfl, rfl⟩
    refine W.cond rfl (fun h => ?_) (fun h => ?_)
    · refine W.seq ?_
      refine W.reg <| asg rfl rfl <| L.nil ?_
      refine N.th ?_
      refine W.ret ?_
      refine N.rinb <| N.rth <| N.rth <| N.rinb <| N.rth ?_
      refine N.ret1 rfl rfl ?_   -- RETURN
      have hn : E.all lightA = false := by
        rw [List.all_eq_false]
        exact ⟨x, List.mem_of_getElem? hxe, by simpa using h⟩
      exact ⟨by simp [light8, hn], rfl⟩
    · refine W.skip ?_
      refine N.inb ?_
      refine N.th ?_
      refine W.reg <| mv rfl rfl <| addI (c := ((i + 1 : Nat) : Int)) rfl rfl rfl (by rw [w64 (by omega) (by omega)]; simp) <| asg rfl rfl <| L.nil ?_
      refine N.th (N.round (x := i + 1) ⟨rfl, rfl, trivial⟩ ⟨by omega, rfl, ?_⟩ (by omega))   -- ROUND
      rw [List.take_add_one, hxe, List.all_append, hall]
      simpa using h
  · refine W.exit ?_
    refine N.xth ?_
    refine N.xth ?_
    refine N.xeq ?_
    refine N.th ?_
    refine W.seq ?_
    refine W.reg <| asg rfl rfl <| L.nil ?_
    refine N.th ?_
    refine W.ret ?_
    refine N.ret1 rfl rfl ?_   -- RETURN
    have hi1 : i = E.length := by simp at h; omega
    rw [hi1, List.take_length] at hall
    exact ⟨by simp [light8, h40, hall], rfl⟩
end Go.Proofs.YtmdpmpdlkaogdaaGreatDoor

namespace Go.Proofs.YtmdpmpdlkaogdaaGreatDoor
open Go Go.RowKit Go.ChangeShapes Go.WideShapes Vc

/-- A list of files that may be read. -/
structure FilesA (w : World) (v : Value) (E : List FE) : Prop where
  row : RowA w v E.length (E.flatMap fcells)
  bytes : ∀ x ∈ E, BytA w x.2.2.1 x.2.2.2
theorem FilesA.ext0 {w w' : World} {v : Value} {E : List FE} (h : FilesA w v E) (hx : Ext none_ w w') : FilesA w' v E := ⟨h.row.ext0 hx, fun x hm => (h.bytes x hm).ext0 hx⟩
theorem FilesAt.arg {w : World} {v : Value} {E : List FE} (h : FilesAt w v E) : FilesA w v E := ⟨h.row.arg, fun x hx => (h.bytes x hx).arg⟩
theorem FilesA.plain {w : World} {v : Value} {E : List FE} {x0 : FE} (h : FilesA w v E) (hm : x0 ∈ E) : ∃ b o c, v = .slice (some ⟨b, o, none⟩) E.length c ∧ b < w.heap.size ∧ ∀ (i : Nat) x, E[i]? = some x →
    w.cell? ⟨b, o + i * 3 + 0, none⟩ = some (.string (S x.1)) ∧ w.cell? ⟨b, o + i * 3 + 1, none⟩ = some (.bool x.2.1) ∧ w.cell? ⟨b, o + i * 3 + 2, none⟩ = some x.2.2.1 := by
  obtain ⟨b, o, c, rfl, -, -, hlt, hc⟩ := h.row.plain (flat_ne fcells_len hm)
  refine ⟨b, o, c, rfl, hlt, fun i x hi => ?_⟩
  have hg : ∀ j, j < 3 → (E.flatMap fcells)[i * 3 + j]? = (fcells x)[j]? := fun j hj => by
    rw [flat_get fcells 3 fcells_len (by omega), show (i * 3 + j) / 3 = i by omega, show (i * 3 + j) % 3 = j by omega, hi]; rfl
  refine ⟨?_, ?_, ?_⟩
  · rw [Nat.add_assoc]; exact hc _ _ (hg 0 (by omega))
  · rw [Nat.add_assoc]; exact hc _ _ (hg 1 (by omega))
  · rw [Nat.add_assoc]; exact hc _ _ (hg 2 (by omega))
theorem FilesA.cell {w : World} {b o n c i : Nat} {E : List FE} {x : FE} (h : FilesA w (.slice (some ⟨b, o, none⟩) n c) E) (hi : E[i]? = some x) :
    w.cell? ⟨b, o + i * 3 + 0, none⟩ = some (.string (S x.1)) ∧ w.cell? ⟨b, o + i * 3 + 1, none⟩ = some (.bool x.2.1) ∧ w.cell? ⟨b, o + i * 3 + 2, none⟩ = some x.2.2.1 := by
  obtain ⟨b', o', c', e, -, hc⟩ := h.plain (List.mem_of_getElem? hi)
  cases e
  exact hc i x hi

section
variable {H : Type} {enc : TypeId × Value → H} {w : World} {base : Nat} {spare : Nat → Bool} {held : Bool} {fuel : Nat} {cs : List Value} {x : DataW H × List MemPlace}
theorem open_bool {e : TypeId} (he : P.underlying e = some .bool) (h : DataW.trod enc P w base spare held fuel e cs = some x) : ∃ b : Bool, cs = [.bool b] := by
  obtain ⟨b, h1, -⟩ := DataW.trod_bool he h
  exact ⟨b, h1⟩
theorem open_file (h : DataW.trod enc P w base spare held fuel tF cs = some x) : ∃ y : FE, cs = fcells y ∧ BytA w y.2.2.1 y.2.2.2 := by
  obtain ⟨xs, n, -, -, hl, hxl, hf⟩ := DataW.trod_struct Tryz.underlying45 h
  have hc3 : P.cellsOf tF = 3 := by kernel_rfl
  have hbo : P.cellsOf 4 = 1 := by kernel_rfl
  have hst : P.cellsOf 9 = 1 := by kernel_rfl
  have hby : P.cellsOf 25 = 1 := by kernel_rfl
  have hu8 : P.cellsOf 5 = 1 := by kernel_rfl
  rw [show Tryz.prog.cellsOf 45 = 3 from hc3] at hl
  have hxl3 : xs.length = 3 := hxl
  obtain ⟨c0, c1, c2, rfl⟩ : ∃ a b c, cs = [a, b, c] := by
    clear h hf
    match cs, hl with
    | [a, b, c], _ => exact ⟨a, b, c, rfl⟩
  have get : ∀ {i : Nat}, i < 3 → ∃ y, xs[i]? = some y := fun {i} hi => ⟨_, List.getElem?_eq_getElem (by omega)⟩
  obtain ⟨y0, hy0⟩ := get (i := 0) (by omega)
  obtain ⟨y1, hy1⟩ := get (i := 1) (by omega)
  obtain ⟨y2, hy2⟩ := get (i := 2) (by omega)
  have h0 : DataW.trod enc Tryz.prog w base spare held n 9 (([c0, c1, c2].drop 0).take (Tryz.prog.cellsOf 9)) = xs[0]? := hf 0 _ rfl
  have h1 : DataW.trod enc Tryz.prog w base spare held n 4 (([c0, c1, c2].drop 1).take (Tryz.prog.cellsOf 4)) = xs[1]? := hf 1 _ rfl
  have h2 : DataW.trod enc Tryz.prog w base spare held n 25 (([c0, c1, c2].drop 2).take (Tryz.prog.cellsOf 25)) = xs[2]? := hf 2 _ rfl
  rw [hy0, show Tryz.prog.cellsOf 9 = 1 from hst] at h0
  rw [hy1, show Tryz.prog.cellsOf 4 = 1 from hbo] at h1
  rw [hy2, show Tryz.prog.cellsOf 25 = 1 from hby] at h2
  obtain ⟨p, e0⟩ := open_str u_str h0
  obtain ⟨d, e1⟩ := open_bool Tryz.underlying4 h1
  obtain ⟨v, l, e2, hb⟩ := open_bytesA u_bytes u_u8 hu8 h2
  simp at e0 e1 e2
  exact ⟨(p, d, v, l), by rw [e0, e1, e2]; rfl, hb⟩
/-- A list of files. -/
theorem open_filesA (h : DataW.trod enc P w base spare held fuel 22 cs = some x) : ∃ v, ∃ E : List FE, cs = [v] ∧ RowA w v E.length (E.flatMap fcells) ∧ ∀ y ∈ E, BytA w y.2.2.1 y.2.2.2 := by
  have hc3 : P.cellsOf tF = 3 := by kernel_rfl
  rcases open_els u_files hc3 h with rfl | ⟨a, len, cap, n, rfl, hl, hm, hel⟩
  · exact ⟨_, [], rfl, (Row.nil w tB 1).arg, fun p h => by cases h⟩
  · obtain ⟨E, hEl, hEr⟩ := list_of (α := FE) len (fun i y => (∀ j u, (fcells y)[j]? = some u → w.cell? (a.add (i * 3 + j)) = some u) ∧ BytA w y.2.2.1 y.2.2.2) (fun i hi => by
      obtain ⟨csi, z, hz, hl2, hc⟩ := hel i hi
      obtain ⟨y, rfl, hb⟩ := open_file hz
      exact ⟨y, hc, hb⟩)
    refine ⟨_, E, rfl, ?_, fun y hy => ?_⟩
    · rw [hEl]
      exact rowA_of (fun y _ => fcells_len y) hl hm fun i y hi => (hEr i y hi).1
    · obtain ⟨j, hj⟩ := List.getElem?_of_mem hy
      exact (hEr j y hj).2
end

theorem ok_LightFiles : FnOk P 17 := ⟨_, Tryz.func17, by kernel_rfl, by kernel_rfl⟩
def lightF (x : FE) : Bool := decide (x.1.length ≤ 300) && decide (x.2.2.2.length ≤ 500)
def lightL (E : List FE) : Bool := decide (E.length ≤ 20) && E.all lightF
theorem lightL_spec {E : List FE} (h : lightL E = true) : E.length ≤ 20 ∧ ∀ x ∈ E, x.1.length ≤ 300 ∧ x.2.2.2.length ≤ 500 := by
  simp only [lightL, Bool.and_eq_true, decide_eq_true_eq, List.all_eq_true, lightF] at h
  exact h
theorem c_LightFiles {w : World} {v : Value} {E : List FE} (h : FilesA w v E) : Calls P 17 #[v] w fun e w' => e = .returned (.bool (lightL E)) ∧ w = w' := by
  obtain ⟨a, c, rfl, hn, hmx, -, -⟩ := id h.row
  refine enter (l := [_]) (n := 29) Tryz.func17 rfl rfl rfl ?_
  refine W.seq ?_
  refine W.reg <| asg rfl rfl <| L.nil ?_
  refine N.th ?_
  refine W.seq ?_
  refine W.seq ?_
  refine W.reg <| mv rfl rfl <| lenV rfl u_files rfl <| gtrI rfl rfl rfl <| L.nil ?_
  refine N.th ?_
  refine W.cond rfl (fun h => ?_) (fun h => ?_)
  · refine W.seq ?_
    refine W.reg <| asg rfl rfl <| L.nil ?_
    refine N.th ?_
    refine W.ret ?_
    refine N.rth ?_
    refine N.ret1 rfl rfl ?_   -- RETURN
    have : ¬ E.length ≤ 20 := by simp at h; omega
    exact ⟨by simp [lightL, this], rfl⟩
  have h40 : E.length ≤ 20 := by simp at h; omega
  refine W.skip ?_
  refine N.th ?_
  refine W.seq ?_
  refine W.seq ?_
  refine W.reg <| asg rfl rfl <| L.nil ?_
  refine N.th ?_
  refine W.block ?_
  refine W.loop (X := Nat) (fun i => [(0, .slice a E.length c), (3, .int .i64 i)]) (fun i w' => i ≤ E.length ∧ w' = w ∧ (E.take i).all lightF = true) (fun i => E.length - i) 0 ⟨rfl, rfl, trivial⟩ ⟨by omega, rfl, rfl⟩ ?_
  rintro i w1 ⟨hi, rfl, hall⟩
  refine W.seq ?_
  refine W.seq ?_
  refine W.reg <| mv rfl rfl <| mv rfl rfl <| lenV rfl u_files rfl <| lssI rfl rfl rfl <| L.nil ?_
  refine N.th ?_
  refine W.cond rfl (fun h => ?_) (fun h => ?_)
  · refine W.skip ?_
    refine N.th ?_
    have hi1 : i < E.length := by simp at h; omega
    obtain ⟨x, hxe⟩ : ∃ x, E[i]? = some x := ⟨_, List.getElem?_eq_getElem hi1⟩
    obtain ⟨b, o, c', hv, -, hcell⟩ := FilesA.plain ‹FilesA w1 _ E› (List.mem_of_getElem? hxe)
    cases hv
    obtain ⟨hc0, -, hc2⟩ := hcell i x hxe
    obtain ⟨ba, bc, hbv, -⟩ := (‹FilesA w1 _ E›).bytes x (List.mem_of_getElem? hxe)
    rw [hbv] at hc2
    refine W.seq ?_
    refine W.block ?_
    refine W.seqM (fun E' w' => E' = [(28, .bool (!lightF x)), (0, .slice (some ⟨b, o, none⟩) E.length c), (3, .int .i64 i)] ∧ w' = w1) ?_ ?_
    · refine W.reg ?_
      (repeat (first | refine mv rfl rfl ?_ | refine asg rfl rfl ?_ | refine L.off rfl rfl rfl rfl rfl ?_ | refine L.offU rfl rfl rfl rfl ?_ | refine L.on rfl rfl rfl ?_ | refine pickT rfl rfl rfl ?_ | refine pickF rfl rfl rfl ?_ | refine ext rfl rfl rfl ?_ | refine nilc rfl rfl ?_ | refine lenV (t := 46) rfl u_strs rfl ?_ | refine lenV (t := 25) rfl u_bytes rfl ?_ | refine lenV (t := 22) rfl u_files rfl ?_ | refine lenS (t := 9) rfl u_str rfl ?_ | refine eqlI rfl rfl rfl ?_ | refine neqI rfl rfl rfl ?_ | refine lssI rfl rfl rfl ?_ | refine leqI rfl rfl rfl ?_ | refine gtrI rfl rfl rfl ?_ | refine geqI rfl rfl rfl ?_))
      refine ixa rfl rfl u_files sz_File rfl (by omega) (by omega) <| fad rfl fl_File_0 rfl <| ld1 rfl ag_str rfl hc0 ?_
      (repeat (first | refine mv rfl rfl ?_ | refine asg rfl rfl ?_ | refine L.off rfl rfl rfl rfl rfl ?_ | refine L.offU rfl rfl rfl rfl ?_ | refine L.on rfl rfl rfl ?_ | refine pickT rfl rfl rfl ?_ | refine pickF rfl rfl rfl ?_ | refine ext rfl rfl rfl ?_ | refine nilc rfl rfl ?_ | refine lenV (t := 46) rfl u_strs rfl ?_ | refine lenV (t := 25) rfl u_bytes rfl ?_ | refine lenV (t := 22) rfl u_files rfl ?_ | refine lenS (t := 9) rfl u_str rfl ?_ | refine eqlI rfl rfl rfl ?_ | refine neqI rfl rfl rfl ?_ | refine lssI rfl rfl rfl ?_ | refine leqI rfl rfl rfl ?_ | refine gtrI rfl rfl rfl ?_ | refine geqI rfl rfl rfl ?_))
      by_cases h1 : x.1.length ≤ 300
      · refine Vc.bf (by simp; omega) ?_
        (repeat (first | refine mv rfl rfl ?_ | refine asg rfl rfl ?_ | refine L.off rfl rfl rfl rfl rfl ?_ | refine L.offU rfl rfl rfl rfl ?_ | refine L.on rfl rfl rfl ?_ | refine pickT rfl rfl rfl ?_ | refine pickF rfl rfl rfl ?_ | refine ext rfl rfl rfl ?_ | refine nilc rfl rfl ?_ | refine lenV (t := 46) rfl u_strs rfl ?_ | refine lenV (t := 25) rfl u_bytes rfl ?_ | refine lenV (t := 22) rfl u_files rfl ?_ | refine lenS (t := 9) rfl u_str rfl ?_ | refine eqlI rfl rfl rfl ?_ | refine neqI rfl rfl rfl ?_ | refine lssI rfl rfl rfl ?_ | refine leqI rfl rfl rfl ?_ | refine gtrI rfl rfl rfl ?_ | refine geqI rfl rfl rfl ?_))
        refine ixa rfl rfl u_files sz_File rfl (by omega) (by omega) <| L.on rfl rfl rfl <| fad rfl fl_File_2 rfl <| L.on rfl rfl rfl <| ld1 rfl ag_bytes rfl hc2 ?_
        (repeat (first | refine mv rfl rfl ?_ | refine asg rfl rfl ?_ | refine L.off rfl rfl rfl rfl rfl ?_ | refine L.offU rfl rfl rfl rfl ?_ | refine L.on rfl rfl rfl ?_ | refine pickT rfl rfl rfl ?_ | refine pickF rfl rfl rfl ?_ | refine ext rfl rfl rfl ?_ | refine nilc rfl rfl ?_ | refine lenV (t := 46) rfl u_strs rfl ?_ | refine lenV (t := 25) rfl u_bytes rfl ?_ | refine lenV (t := 22) rfl u_files rfl ?_ | refine lenS (t := 9) rfl u_str rfl ?_ | refine eqlI rfl rfl rfl ?_ | refine neqI rfl rfl rfl ?_ | refine lssI rfl rfl rfl ?_ | refine leqI rfl rfl rfl ?_ | refine gtrI rfl rfl rfl ?_ | refine geqI rfl rfl rfl ?_))
        refine L.nil <| N.th (N.meet [(28, _), (0, _), (3, _)] ⟨rfl, rfl, rfl, trivial⟩ ⟨?_, rfl⟩)
        have : (!lightF x) = decide ((500 : Int) < (x.2.2.2.length : Int)) := by
          simp only [lightF, h1, decide_true, Bool.true_and]
          rw [← decide_not]
          apply decide_eq_decide.2
          omega
        rw [this]
      · refine Vc.bt (by simp; omega) ?_
        (repeat (first | refine mv rfl rfl ?_ | refine asg rfl rfl ?_ | refine L.off rfl rfl rfl rfl rfl ?_ | refine L.offU rfl rfl rfl rfl ?_ | refine L.on rfl rfl rfl ?_ | refine pickT rfl rfl rfl ?_ | refine pickF rfl rfl rfl ?_ | refine ext rfl rfl rfl ?_ | refine nilc rfl rfl ?_ | refine lenV (t := 46) rfl u_strs rfl ?_ | refine lenV (t := 25) rfl u_bytes rfl ?_ | refine lenV (t := 22) rfl u_files rfl ?_ | refine lenS (t := 9) rfl u_str rfl ?_ | refine eqlI rfl rfl rfl ?_ | refine neqI rfl rfl rfl ?_ | refine lssI rfl rfl rfl ?_ | refine leqI rfl rfl rfl ?_ | refine gtrI rfl rfl rfl ?_ | refine geqI rfl rfl rfl ?_))
        exact L.nil <| N.th (N.meet [(28, .bool true), (0, _), (3, _)] ⟨rfl, rfl, rfl, trivial⟩ ⟨by simp [lightF, h1], rfl⟩)
    rintro E' w2 ⟨rfl, rfl⟩
    refine W.cond rfl (fun h => ?_) (fun h => ?_)
    · refine W.seq ?_
      refine W.reg <| asg rfl rfl <| L.nil ?_
      refine N.th ?_
      refine W.ret ?_
      refine N.rinb <| N.rth <| N.rth <| N.rinb <| N.rth ?_
      refine N.ret1 rfl rfl ?_   -- RETURN
      have hn : E.all lightF = false := by
        rw [List.all_eq_false]
        exact ⟨x, List.mem_of_getElem? hxe, by simpa using h⟩
      exact ⟨by simp [lightL, hn], rfl⟩
    · refine W.skip ?_
      refine N.inb ?_
      refine N.th ?_
      refine W.reg <| mv rfl rfl <| addI (c := ((i + 1 : Nat) : Int)) rfl rfl rfl (by rw [w64 (by omega) (by omega)]; simp) <| asg rfl rfl <| L.nil ?_
      refine N.th (N.round (x := i + 1) ⟨rfl, rfl, trivial⟩ ⟨by omega, rfl, ?_⟩ (by omega))   -- ROUND
      rw [List.take_add_one, hxe, List.all_append, hall]
      simpa using h
  · refine W.exit ?_
    refine N.xth ?_
    refine N.xth ?_
    refine N.xeq ?_
    refine N.th ?_
    refine W.seq ?_
    refine W.reg <| asg rfl rfl <| L.nil ?_
    refine N.th ?_
    refine W.ret ?_
    refine N.ret1 rfl rfl ?_   -- RETURN
    have hi1 : i = E.length := by simp at h; omega
    rw [hi1, List.take_length] at hall
    exact ⟨by simp [lightL, h40, hall], rfl⟩
end Go.Proofs.YtmdpmpdlkaogdaaGreatDoor

namespace Go.Proofs.YtmdpmpdlkaogdaaGreatDoor
namespace Ar
/-- One entry. -/
def ent (x : Tr.Bytes × Tr.Nd) : List UInt8 := (if x.2.1 then 1 else 0) :: (num (x.1.take 65535).length 2 ++ x.1.take 65535 ++ if x.2.1 then [] else num x.2.2.length 8 ++ x.2.2)
def ents (l : Tr.T) : List UInt8 := (l.map ent).flatten
def sign : List UInt8 := [80, 65, 75, 49]
/-- An archive. -/
def pk (l : Tr.T) : List UInt8 := sign ++ ents l ++ [255]
theorem ents_snoc (l : Tr.T) (x : Tr.Bytes × Tr.Nd) : ents (l ++ [x]) = ents l ++ ent x := by simp [ents]
end Ar
open Go Go.RowKit Vc
section ops
variable {mm : Nat} {P : Program} {ds : List Deferred} {n : Nat} {Q : Exit → Act → World → Prop} {E : Env} {w : World} {ops : Array Oper} {l : List Oper}
variable {d : Nat} {ty : TypeId} {pos : String} {af : Array Edge}
/-- 'append(s, x...)' of a string onto bytes of the call's own. -/
theorem appS {t u : TypeId} {B : Nat} {s x : Operand} {v : Value} {xs b : List UInt8} (hs : opd E s = some v) (hx : opd E x = some (.string (S b))) (hown : Byts B w v xs) (ht : ElT P t tB (.int .u8 0) 1 1) (hu : P.underlying u = some .string) (hd : Nat.blt d n = true) (hl : xs.length + b.length ≤ 1000000000) (hB : B ≤ w.heap.size)
    (k : ∀ v' w', Byts B w' v' (xs ++ b) → Ext (fun k => v.ownBlock = some k) w w' → L Fence.wide mm P ds n ops l Q ((d, v') :: E) w') : L Fence.wide mm P ds n ops (⟨some d, .call ⟨.builtin .append, #[s, x], #[t, u]⟩, ty, pos, af, none⟩ :: l) Q E w := by
  obtain ⟨i, hi, hz, hsz, hby⟩ := ht.info
  have hS : (S b).size = b.length := by simp
  obtain ⟨v', w', hr, ho, hg, -⟩ := Lib.run_append_own_string (P := P) w B t u ty tB i ht.u hu hi hz hsz hby v xs.length (encB xs) hown (S b) (by rw [hS]; simp only [maxLen]; omega) (by rw [hS]; omega) hB
  refine bltin (vs := [v, .string (S b)]) (by simp [hs, hx]) hd (fun _ => by simp [builtin, hr]) (k v' w' ?_ ((Ext.grown hg).mono fun _ _ h => h.symm))
  have e : Lib.strCells (S b) = encB b := by unfold Lib.strCells encB; rfl
  rw [hS, e] at ho
  unfold Byts
  rw [List.length_append, show encB (xs ++ b) = encB xs ++ encB b by simp [encB]]
  exact ho
end ops
theorem ok_Pack : FnOk P 18 := ⟨_, Tryz.func18, by kernel_rfl, by kernel_rfl⟩
theorem ze_F2 : zeroB P tF = some (.agg #[.string (S []), .bool false, .slice none 0 0]) := by kernel_rfl
theorem FilesA.row3 {w : World} {b o n c i : Nat} {E : List FE} {x : FE} (h : FilesA w (.slice (some ⟨b, o, none⟩) n c) E) (hi : E[i]? = some x) : ∀ j u, (fcells x)[j]? = some u → w.cell? ⟨b, o + i * 3 + j, none⟩ = some u := by
  obtain ⟨h0, h1, h2⟩ := h.cell hi
  rintro (_ | _ | _ | j) u hj
  · cases hj; exact h0
  · cases hj; exact h1
  · cases hj; exact h2
  · cases hj
theorem Buf.kind {B : Nat} {w : World} {v : Value} {xs : List UInt8} (h : Buf B w v xs) : ∀ k, v.ownBlock = some k → B ≤ k ∧ ∃ c fr, w.heap[k]? = some (.cells c tB fr) := by
  rcases h with h | ⟨g, fz, rfl, hg, hc⟩
  · exact fun k hk => ⟨own_new h k hk, own_kind h k hk⟩
  · intro k hk
    obtain rfl : g = k := by simpa [Value.ownBlock] using hk
    exact ⟨hg, _, _, hc⟩
/-- What lies in a block of another kind stays. -/
theorem Buf.keep {B : Nat} {w w' : World} {v : Value} {xs : List UInt8} (h : Buf B w v xs) (hx : Ext (fun k => v.ownBlock = some k) w w') {f : Nat} {c : Array Value} {e : TypeId} {fr : Nat × Nat} (hf : w.heap[f]? = some (.cells c e fr)) (he : e ≠ tB) : w'.heap[f]? = some (.cells c e fr) :=
  hx.obj hf fun hk => by
    obtain ⟨-, c2, f2, h2⟩ := h.kind f hk
    rw [hf] at h2; cases h2; exact he rfl
theorem Buf.none {B : Nat} {w0 w w' : World} {v : Value} {xs : List UInt8} (h : Buf B w v xs) (h0 : Ext none_ w0 w) (hx : Ext (fun k => v.ownBlock = some k) w w') (hB : w0.heap.size ≤ B) : Ext none_ w0 w' :=
  h0.trans' hx fun i hi hk => by have := (h.kind i hk).1; omega

set_option maxHeartbeats 1000000 in
theorem c_Pack {w : World} {v : Value} {E : List FE} (hv : FilesA w v E) (hE : E.length ≤ 1000000) (hT : (Ar.ents (fm E)).length ≤ 50000000) (hl : ∀ x ∈ E, x.1.length ≤ 100000 ∧ x.2.2.2.length ≤ 100000) : Calls P 18 #[v] w fun e w' => ∃ v', e = .returned v' ∧ Byts w.heap.size w' v' (Ar.pk (fm E)) ∧ Ext none_ w w' := by
  obtain ⟨a, c, rfl, hn, hmx, -, -⟩ := id hv.row
  refine enter (l := [_]) (n := 51) Tryz.func18 rfl rfl rfl ?_
  refine W.seq ?_
  refine W.reg <| asg rfl rfl <| L.nil ?_
  refine N.th ?_
  refine W.seq ?_
  refine W.reg <| bls (vs := #[(0, .int .u8 80), (1, .int .u8 65), (2, .int .u8 75), (3, .int .u8 49)]) (cs := #[.int .u8 80, .int .u8 65, .int .u8 75, .int .u8 49]) (e := tB) rfl rfl (fun _ => by kernel_rfl) <| cvtBB rfl u_bytes u_u8 rfl (heap_new _ _) trivial fun w1 hg1 hx1' => ⟨trivial, ?_⟩
  refine asg rfl rfl <| L.nil ?_
  refine N.th ?_
  have hx1 : Ext none_ w w1 := (Ext.alloc none_ _ _).trans' hx1' fun i hi e => by omega
  have hb1 : Buf w.heap.size w1 (.slice (some ⟨w.heap.size, 0, none⟩) 4 4) (Ar.sign ++ Ar.ents (fm (E.take 0))) := .inr ⟨w.heap.size, (4, 5), rfl, Nat.le_refl _, hg1⟩
  refine W.seq ?_
  refine W.seq ?_
  refine W.reg <| mv rfl rfl <| lenV rfl u_files rfl <| mv rfl rfl <| L.nil ?_
  refine N.th ?_
  refine W.block ?_
  refine W.loop (X := Nat × Value) (fun x => [(12, .int .i64 x.1), (10, .slice a E.length c), (11, .int .i64 E.length), (3, x.2)])
    (fun x w' => x.1 ≤ E.length ∧ Buf w.heap.size w' x.2 (Ar.sign ++ Ar.ents (fm (E.take x.1))) ∧ Ext none_ w w') (fun x => E.length - x.1) (0, .slice (some ⟨w.heap.size, 0, none⟩) 4 4) ⟨rfl, rfl, rfl, rfl, trivial⟩ ⟨by omega, hb1, hx1⟩ ?_
  rintro ⟨i, bv⟩ w2 ⟨hi, hb2, hx2⟩
  dsimp only at hi hb2 ⊢
  have hle : ∀ k, (Ar.sign ++ Ar.ents (fm (E.take k))).length ≤ 4 + (Ar.ents (fm E)).length := fun k => by
    have e : Ar.ents (fm E) = Ar.ents (fm (E.take k)) ++ Ar.ents (fm (E.drop k)) := by
      conv => lhs; rw [← List.take_append_drop k E]
      simp only [fm, Ar.ents, List.map_append, List.flatten_append]
    rw [e, List.length_append, List.length_append, show Ar.sign.length = 4 from rfl]
    omega
  have hlen2 := hle i
  have hlen3 := hle (i + 1)
  refine W.seq ?_
  refine W.reg <| lssI rfl rfl rfl <| L.nil ?_
  refine N.th ?_
  refine W.seq ?_
  refine W.cond rfl (fun h => ?_) (fun h => ?_)
  · refine W.skip ?_
    refine N.th ?_
    have hi1 : i < E.length := by have := of_decide_eq_true h; omega
    obtain ⟨x, hxe⟩ : ∃ x, E[i]? = some x := ⟨_, List.getElem?_eq_getElem hi1⟩
    have hxm := List.mem_of_getElem? hxe
    obtain ⟨b, o, c', hv', -, -⟩ := hv.plain hxm
    cases hv'
    obtain ⟨hxp, hxb⟩ := hl x hxm
    obtain ⟨va, vc, hbv, -⟩ := hv.bytes x hxm
    have htk : fm (E.take (i + 1)) = fm (E.take i) ++ [fnd x] := by rw [List.take_add_one, hxe]; simp [fm]
    have hent : Ar.ent (fnd x) = (if x.2.1 then 1 else 0) :: (Ar.num (x.1.take 65535).length 2 ++ x.1.take 65535 ++ if x.2.1 then [] else Ar.num x.2.2.2.length 8 ++ x.2.2.2) := rfl
    obtain ⟨pre, hpre⟩ : ∃ pre, pre = Ar.sign ++ Ar.ents (fm (E.take i)) := ⟨_, rfl⟩
    have hnext : Ar.sign ++ Ar.ents (fm (E.take (i + 1))) = pre ++ Ar.ent (fnd x) := by rw [htk, Ar.ents_snoc, hpre, List.append_assoc]
    rw [hnext, List.length_append] at hlen3
    rw [← hpre] at hb2 hlen2
    refine W.seqM (fun E' w' => ∃ bv', E' = [(12, .int .i64 i), (10, .slice (some ⟨b, o, none⟩) E.length c), (11, .int .i64 E.length), (3, bv')] ∧ Buf w.heap.size w' bv' (pre ++ Ar.ent (fnd x)) ∧ Ext none_ w w') ?_ ?_   -- CUT
    · refine W.block ?_
      refine W.seq ?_
      refine W.reg <| ixa rfl rfl u_files sz_File rfl (by omega) (by omega) <| ldk (cs := fcells x) rfl ag_File sz_File rfl rfl (fun j u hj => (hv.ext0 hx2).row3 hxe j u hj) <| new ze_F2 rfl <|
        stR (cells := (fcells x).toArray) rfl rfl sz_File (by rw [show fcells x = [.string (S x.1), .bool x.2.1, x.2.2.1] from rfl, hbv]; rfl) (heap_new _ _) rfl <| L.nil ?_
      refine N.th ?_
      obtain ⟨w3, hw3⟩ : ∃ w3, w3 = (w2.alloc (.cells (Value.cells (.agg #[.string (S []), .bool false, .slice none 0 0])) tF)).setRow w2.heap.size (fcells x).toArray := ⟨_, rfl⟩
      obtain ⟨f, hf⟩ : ∃ f, f = w2.heap.size := ⟨_, rfl⟩
      have hx23 : Ext none_ w2 w3 := by rw [hw3]; exact (Ext.alloc none_ _ _).trans' (Ext.setRow (S := fun k => k = w2.heap.size) _ (fun _ => rfl) _) (fun i hi e => by omega)
      have hf3 : w3.heap[f]? = some (.cells (fcells x).toArray tF (0, 0)) := by rw [hw3, hf]; exact setRow_heap _ _ _ _ _ _ (heap_new _ _)
      rw [show (w2.alloc (.cells (Value.cells (.agg #[.string (S []), .bool false, .slice none 0 0])) tF)).setRow w2.heap.size (fcells x).toArray = w3 from hw3.symm, ← hf]
      have hne : tF ≠ tB := by decide
      have hb3 : Buf w.heap.size w3 bv pre := by
        rcases hb2 with h | ⟨g, fz, rfl, hg, hc⟩
        · exact .inl (own_ext h hx23 fun _ _ => id)
        · exact .inr ⟨g, fz, rfl, hg, hx23.obj hc id⟩
      have hx3 := hx2.trans hx23
      refine W.seq ?_
      refine W.reg <| fad rfl fl_File_0 rfl <| ld1 (v := .string (S x.1)) rfl ag_str rfl (cell_of hf3 rfl) <| fad rfl fl_File_0 rfl <| ld1 (v := .string (S x.1)) rfl ag_str rfl (cell_of hf3 rfl) <| lenS rfl u_str rfl <| minI rfl rfl rfl <| slSh rfl rfl u_str rfl (by omega) (by omega) <| asg rfl rfl <| L.nil ?_
      refine N.th ?_
      have hp' : x.1.take (min (x.1.length : Int) 65535).toNat = x.1.take 65535 := by rw [List.take_eq_take_iff]; omega
      rw [hp']
      obtain ⟨p, hp⟩ : ∃ p, p = x.1.take 65535 := ⟨_, rfl⟩
      have hpl : p.length ≤ 65535 := by rw [hp, List.length_take]; omega
      rw [← hp] at hent ⊢
      obtain ⟨y, hy⟩ : ∃ y : UInt8, y = if x.2.1 then 1 else 0 := ⟨_, rfl⟩
      refine W.seq ?_
      refine W.reg <| asg rfl rfl <| L.nil ?_
      refine N.th ?_
      refine W.seqM (fun E' w' => E' = [(7, .int .u8 (y.toNat : Int)), (6, .string (S p)), (5, .pointer (some ⟨f, 0, none⟩)), (12, .int .i64 i), (10, .slice (some ⟨b, o, none⟩) E.length c), (11, .int .i64 E.length), (3, bv)] ∧ w' = w3) ?_ ?_   -- CUT
      · refine W.seq ?_
        refine W.reg <| fad rfl fl_File_1 rfl <| ld1 (v := .bool x.2.1) rfl ag_bool rfl (cell_of hf3 rfl) <| L.nil ?_
        refine N.th ?_
        cases hd : x.2.1 with
        | true =>
          refine W.condT rfl ?_
          refine W.reg <| asg rfl rfl <| L.nil ?_
          exact N.th (N.meet [(7, .int .u8 1), (6, _), (5, _), (12, _), (10, _), (11, _), (3, _)] ⟨rfl, rfl, rfl, rfl, rfl, rfl, rfl, trivial⟩ ⟨by rw [hy, hd]; rfl, rfl⟩)   -- MEET
        | false =>
          refine W.condF rfl ?_
          refine W.skip ?_
          exact N.th (N.meet [(7, .int .u8 0), (6, _), (5, _), (12, _), (10, _), (11, _), (3, _)] ⟨rfl, rfl, rfl, rfl, rfl, rfl, rfl, trivial⟩ ⟨by rw [hy, hd]; rfl, rfl⟩)   -- MEET
      rintro E' w4 ⟨rfl, rfl⟩
      rw [← hy] at hent
      refine W.seq ?_
      refine W.reg <| mv rfl rfl <| mv rfl rfl <| pushB rfl rfl rfl rfl (fun _ => by kernel_rfl) el_bytes hb3 (by omega) hx3.size fun v5 w5 hv5 hx5 hfr5 => ?_
      have hf5 := hb3.keep hx5 hf3 hne
      have hx05 := hb3.none hx3 hx5 (Nat.le_refl _)
      have hl5 : (pre ++ [y]).length ≤ 50000010 := by simp; omega
      refine mv rfl rfl <| lenS (t := 9) rfl u_str rfl <| call (vs := [_, .int .i64 (p.length : Nat), .int .i64 ((2 : Nat) : Int)]) rfl rfl ok_aput (c_aput p.length 2 hv5 hx05.size (by omega) (by omega) (by omega)) ?_
      rintro e w6 ⟨v6, rfl, hv6, hx6, -⟩
      refine ⟨_, rfl, ?_⟩
      refine asg rfl rfl <| L.nil ?_
      refine N.th ?_
      have hf6 := Buf.keep (.inl hv5) hx6 hf5 hne
      have hx06 := Buf.none (.inl hv5) hx05 hx6 (Nat.le_refl _)
      refine W.seq ?_
      refine W.reg <| mv rfl rfl <| mv rfl rfl <| appS rfl rfl hv6 el_bytes u_str rfl (by simp [Ar.num_len]; omega) hx06.size fun v7 w7 hv7 hx7 => ?_
      refine asg rfl rfl <| L.nil ?_
      refine N.th ?_
      have hf7 := Buf.keep (.inl hv6) hx7 hf6 hne
      have hx07 := Buf.none (.inl hv6) hx06 hx7 (Nat.le_refl _)
      refine W.seq ?_
      refine W.reg <| fad rfl fl_File_1 rfl <| ld1 (v := .bool x.2.1) rfl ag_bool rfl (cell_of hf7 rfl) <| notB rfl rfl <| L.nil ?_
      refine N.th ?_
      cases hd : x.2.1 with
      | true =>
        refine W.condF rfl ?_
        refine W.skip ?_
        refine N.inb ?_
        refine N.th (N.meet [(12, _), (10, _), (11, _), (3, v7)] ⟨rfl, rfl, rfl, rfl, trivial⟩ ⟨v7, rfl, .inl ?_, hx07⟩)   -- MEET
        rw [hent, hd]
        simpa using hv7
      | false =>
        refine W.condT rfl ?_
        have hc2 : w7.cell? ⟨f, 0 + 2, none⟩ = some (.slice va x.2.2.2.length vc) := by rw [← hbv]; exact cell_of hf7 rfl
        refine W.seq ?_
        refine W.reg <| mv rfl rfl <| fad rfl fl_File_2 rfl <| ld1 rfl ag_bytes rfl hc2 <| lenV (t := 25) rfl u_bytes rfl <| call (vs := [_, .int .i64 (x.2.2.2.length : Nat), .int .i64 ((8 : Nat) : Int)]) rfl rfl ok_aput (c_aput x.2.2.2.length 8 hv7 hx07.size (by simp [Ar.num_len]; omega) (by omega) (by omega)) ?_
        rintro e w8 ⟨v8, rfl, hv8, hx8, -⟩
        refine ⟨_, rfl, ?_⟩
        refine asg rfl rfl <| L.nil ?_
        refine N.th ?_
        have hf8 := Buf.keep (.inl hv7) hx8 hf7 hne
        have hx08 := Buf.none (.inl hv7) hx07 hx8 (Nat.le_refl _)
        refine W.reg <| mv rfl rfl <| fad rfl fl_File_2 rfl <| ld1 (v := x.2.2.1) rfl ag_bytes rfl (cell_of hf8 rfl) <| appB rfl rfl hv8 ((hv.ext0 hx08).bytes x hxm) el_bytes rfl (by simp [Ar.num_len]; omega) hx08.size fun v9 w9 hv9 hx9 => ?_
        refine asg rfl rfl <| L.nil ?_
        refine N.inb ?_
        refine N.th (N.meet [(12, _), (10, _), (11, _), (3, v9)] ⟨rfl, rfl, rfl, rfl, trivial⟩ ⟨v9, rfl, .inl ?_, Buf.none (.inl hv8) hx08 hx9 (Nat.le_refl _)⟩)   -- MEET
        rw [hent, hd]
        simpa using hv9
    rintro E' w3 ⟨bv', rfl, hb3, hx3⟩
    refine W.reg <| addI (c := ((i + 1 : Nat) : Int)) rfl rfl rfl (by rw [w64 (by omega) (by omega)]; simp) <| mv rfl rfl <| L.nil ?_
    exact N.th (N.round (x := (i + 1, bv')) ⟨rfl, rfl, rfl, rfl, trivial⟩ ⟨by dsimp only; omega, by dsimp only; rw [hnext]; exact hb3, hx3⟩ (by dsimp only; omega))   -- ROUND
  · refine W.exit ?_
    refine N.xth ?_
    refine N.xth ?_
    refine N.xeq ?_
    refine N.th ?_
    have hil : i = E.length := by have := of_decide_eq_false h; omega
    rw [hil, List.take_length] at hb2 hlen2
    refine W.seq ?_
    refine W.reg <| mv rfl rfl <| pushB (y := 255) rfl rfl rfl rfl (fun _ => by kernel_rfl) el_bytes hb2 (by omega) hx2.size fun v5 w5 hv5 hx5 hfr5 => ?_
    refine asg rfl rfl <| L.nil ?_
    refine N.th ?_
    refine W.ret ?_
    refine N.ret1 rfl rfl ?_   -- RETURN
    exact ⟨v5, rfl, hv5, hb2.none hx2 hx5 (Nat.le_refl _)⟩
end Go.Proofs.YtmdpmpdlkaogdaaGreatDoor

namespace Go.Proofs.YtmdpmpdlkaogdaaGreatDoor
open Go Go.RowKit Vc
theorem ok_RPack : FnOk P 19 := ⟨_, Tryz.func19, by kernel_rfl, by kernel_rfl⟩

theorem byts_app {B : Nat} {w : World} {v : Value} {xs b : List UInt8} (h : w.ownsRow B tB 1 v (xs.length + b.length) (encB xs ++ encB b)) : Byts B w v (xs ++ b) := by
  unfold Byts
  rw [List.length_append, show encB (xs ++ b) = encB xs ++ encB b from List.map_append]
  exact h

set_option maxHeartbeats 1000000 in
theorem c_RPack {w : World} {v : Value} {E : List FE} (hv : FilesA w v E) (hE : E.length ≤ 1000000) (hT : (Ar.ents (fm E)).length ≤ 50000000) (hl : ∀ x ∈ E, x.1.length ≤ 100000 ∧ x.2.2.2.length ≤ 100000) : Calls P 19 #[v] w fun e w' => ∃ v', e = .returned v' ∧ Byts w.heap.size w' v' (Ar.pk (fm E)) ∧ Ext none_ w w' := by
  obtain ⟨a, c, rfl, hn, hmx, -, -⟩ := id hv.row
  refine enter (l := [_]) (n := 64) Tryz.func19 rfl rfl rfl ?_
  refine W.seq ?_
  refine W.reg <| asg rfl rfl <| L.nil ?_
  refine N.th ?_
  refine W.seq ?_
  refine W.reg <| bls (vs := #[(0, .int .u8 80), (1, .int .u8 65), (2, .int .u8 75), (3, .int .u8 49)]) (cs := #[.int .u8 80, .int .u8 65, .int .u8 75, .int .u8 49]) (e := tB) rfl rfl (fun _ => by kernel_rfl) <| cvtBB rfl u_bytes u_u8 rfl (heap_new _ _) trivial fun w1 hg1 hx1' => ⟨trivial, ?_⟩
  refine asg rfl rfl <| L.nil ?_
  refine N.th ?_
  have hx1 : Ext none_ w w1 := (Ext.alloc none_ _ _).trans' hx1' fun i hi e => by omega
  have hb1 : Buf w.heap.size w1 (.slice (some ⟨w.heap.size, 0, none⟩) 4 4) (Ar.sign ++ Ar.ents (fm (E.take 0))) := .inr ⟨w.heap.size, (4, 5), rfl, Nat.le_refl _, hg1⟩
  refine W.seq ?_
  refine W.seq ?_
  refine W.reg <| asg rfl rfl <| L.nil ?_
  refine N.th ?_
  refine W.block ?_
  refine W.loop (X := Nat × Value) (fun x => [(4, .int .i64 x.1), (0, .slice a E.length c), (3, x.2)])
    (fun x w' => x.1 ≤ E.length ∧ Buf w.heap.size w' x.2 (Ar.sign ++ Ar.ents (fm (E.take x.1))) ∧ Ext none_ w w') (fun x => E.length - x.1) (0, .slice (some ⟨w.heap.size, 0, none⟩) 4 4) ⟨rfl, rfl, rfl, trivial⟩ ⟨by omega, hb1, hx1⟩ ?_
  rintro ⟨i, bv⟩ w2 ⟨hi, hb2, hx2⟩
  dsimp only at hi hb2 ⊢
  have hle : ∀ k, (Ar.sign ++ Ar.ents (fm (E.take k))).length ≤ 4 + (Ar.ents (fm E)).length := fun k => by
    have e : Ar.ents (fm E) = Ar.ents (fm (E.take k)) ++ Ar.ents (fm (E.drop k)) := by
      conv => lhs; rw [← List.take_append_drop k E]
      simp only [fm, Ar.ents, List.map_append, List.flatten_append]
    rw [e, List.length_append, List.length_append, show Ar.sign.length = 4 from rfl]
    omega
  have hlen2 := hle i
  have hlen3 := hle (i + 1)
  refine W.seq ?_
  refine W.seq ?_
  refine W.reg <| mv rfl rfl <| mv rfl rfl <| lenV rfl u_files rfl <| lssI rfl rfl rfl <| L.nil ?_
  refine N.th ?_
  refine W.cond rfl (fun h => ?_) (fun h => ?_)
  · refine W.skip ?_
    refine N.th ?_
    have hi1 : i < E.length := by have := of_decide_eq_true h; omega
    obtain ⟨x, hxe⟩ : ∃ x, E[i]? = some x := ⟨_, List.getElem?_eq_getElem hi1⟩
    have hxm := List.mem_of_getElem? hxe
    obtain ⟨b, o, c', hv', -, -⟩ := hv.plain hxm
    cases hv'
    obtain ⟨hxp, hxb⟩ := hl x hxm
    obtain ⟨va, vc, hbv, -⟩ := hv.bytes x hxm
    have rd : ∀ {wz}, Ext none_ w wz → wz.cell? ⟨b, o + i * 3 + 0, none⟩ = some (.string (S x.1)) ∧ wz.cell? ⟨b, o + i * 3 + 1, none⟩ = some (.bool x.2.1) ∧ wz.cell? ⟨b, o + i * 3 + 2, none⟩ = some (.slice va x.2.2.2.length vc) := fun hz => by rw [← hbv]; exact (hv.ext0 hz).cell hxe
    have htk : fm (E.take (i + 1)) = fm (E.take i) ++ [fnd x] := by rw [List.take_add_one, hxe]; simp [fm]
    have hent : Ar.ent (fnd x) = (if x.2.1 then 1 else 0) :: (Ar.num (x.1.take 65535).length 2 ++ x.1.take 65535 ++ if x.2.1 then [] else Ar.num x.2.2.2.length 8 ++ x.2.2.2) := rfl
    obtain ⟨pre, hpre⟩ : ∃ pre, pre = Ar.sign ++ Ar.ents (fm (E.take i)) := ⟨_, rfl⟩
    have hnext : Ar.sign ++ Ar.ents (fm (E.take (i + 1))) = pre ++ Ar.ent (fnd x) := by rw [htk, Ar.ents_snoc, hpre, List.append_assoc]
    rw [hnext, List.length_append] at hlen3
    rw [← hpre] at hb2 hlen2
    refine W.seqM (fun E' w' => ∃ bv', E' = [(4, .int .i64 i), (0, .slice (some ⟨b, o, none⟩) E.length c), (3, bv')] ∧ Buf w.heap.size w' bv' (pre ++ Ar.ent (fnd x)) ∧ Ext none_ w w') ?_ ?_   -- CUT
    · refine W.block ?_
      refine W.seq ?_
      refine W.reg <| mv rfl rfl <| mv rfl rfl <| ixa rfl rfl u_files sz_File rfl (by omega) (by omega) <| fad rfl fl_File_0 rfl <| ld1 rfl ag_str rfl (rd hx2).1 <| asg rfl rfl <| L.nil ?_
      refine N.th ?_
      obtain ⟨p, hp⟩ : ∃ p, p = x.1.take 65535 := ⟨_, rfl⟩
      have hpl : p.length ≤ 65535 := by rw [hp, List.length_take]; omega
      refine W.seqM (fun E' w' => E' = [(5, .string (S p)), (4, .int .i64 i), (0, .slice (some ⟨b, o, none⟩) E.length c), (3, bv)] ∧ w' = w2) ?_ ?_   -- CUT
      · refine W.seq ?_
        refine W.reg <| mv rfl rfl <| lenS (t := 9) rfl u_str rfl <| gtrI rfl rfl rfl <| L.nil ?_
        refine N.th ?_
        refine W.cond rfl (fun h => ?_) (fun h => ?_)
        · refine W.reg <| mv rfl rfl <| slSh rfl rfl u_str rfl (by omega) (by have := of_decide_eq_true h; omega) <| asg rfl rfl <| L.nil ?_
          refine N.th (N.meet [(5, _), (4, _), (0, _), (3, _)] ⟨rfl, rfl, rfl, rfl, trivial⟩ ⟨?_, rfl⟩)   -- MEET
          rw [hp]; rfl
        · refine W.skip ?_
          refine N.th (N.meet [(5, _), (4, _), (0, _), (3, _)] ⟨rfl, rfl, rfl, rfl, trivial⟩ ⟨?_, rfl⟩)   -- MEET
          rw [hp, List.take_of_length_le (by have := of_decide_eq_false h; omega)]
      rintro E' w3 ⟨rfl, rfl⟩
      rw [← hp] at hent
      obtain ⟨y, hy⟩ : ∃ y : UInt8, y = if x.2.1 then 1 else 0 := ⟨_, rfl⟩
      refine W.seq ?_
      refine W.reg <| asg rfl rfl <| L.nil ?_
      refine N.th ?_
      refine W.seqM (fun E' w' => E' = [(6, .int .u8 (y.toNat : Int)), (5, .string (S p)), (4, .int .i64 i), (0, .slice (some ⟨b, o, none⟩) E.length c), (3, bv)] ∧ w' = w3) ?_ ?_   -- CUT
      · refine W.seq ?_
        refine W.reg <| mv rfl rfl <| mv rfl rfl <| ixa rfl rfl u_files sz_File rfl (by omega) (by omega) <| fad rfl fl_File_1 rfl <| ld1 (v := .bool x.2.1) rfl ag_bool rfl (rd hx2).2.1 <| L.nil ?_
        refine N.th ?_
        cases hd : x.2.1 with
        | true =>
          refine W.condT rfl ?_
          refine W.reg <| asg rfl rfl <| L.nil ?_
          exact N.th (N.meet [(6, .int .u8 1), (5, _), (4, _), (0, _), (3, _)] ⟨rfl, rfl, rfl, rfl, rfl, trivial⟩ ⟨by rw [hy, hd]; rfl, rfl⟩)   -- MEET
        | false =>
          refine W.condF rfl ?_
          refine W.skip ?_
          exact N.th (N.meet [(6, .int .u8 0), (5, _), (4, _), (0, _), (3, _)] ⟨rfl, rfl, rfl, rfl, rfl, trivial⟩ ⟨by rw [hy, hd]; rfl, rfl⟩)   -- MEET
      rintro E' w4 ⟨rfl, rfl⟩
      rw [← hy] at hent
      refine W.seq ?_
      refine W.reg <| mv rfl rfl <| mv rfl rfl <| pushB rfl rfl rfl rfl (fun _ => by kernel_rfl) el_bytes hb2 (by omega) hx2.size fun v5 w5 hv5 hx5 hfr5 => ?_
      have hx05 := hb2.none hx2 hx5 (Nat.le_refl _)
      have hl5 : (pre ++ [y]).length ≤ 50000010 := by simp; omega
      refine mv rfl rfl <| lenS (t := 9) rfl u_str rfl <| cvtI (c := (p.length : Int)) rfl u_u64 u_int rfl (wu64 (by omega) (by omega)) <| call (vs := [_, .int .u64 (p.length : Nat), .int .i64 ((2 : Nat) : Int)]) rfl rfl ok_number (c_number p.length 2 hv5 hx05.size (by omega) (by omega) (by omega)) ?_
      rintro e w6 ⟨v6, rfl, hv6, hx6, -⟩
      refine ⟨_, rfl, ?_⟩
      have hx06 := Buf.none (.inl hv5) hx05 hx6 (Nat.le_refl _)
      refine mv rfl rfl <| appS rfl rfl hv6 el_bytes u_str rfl (by simp [Ar.num_len]; omega) hx06.size fun v7 w7 hv7 hx7 => ?_
      refine asg rfl rfl <| L.nil ?_
      refine N.th ?_
      have hx07 := Buf.none (.inl hv6) hx06 hx7 (Nat.le_refl _)
      refine W.seq ?_
      refine W.reg <| mv rfl rfl <| mv rfl rfl <| ixa rfl rfl u_files sz_File rfl (by omega) (by omega) <| fad rfl fl_File_1 rfl <| ld1 (v := .bool x.2.1) rfl ag_bool rfl (rd hx07).2.1 <| notB rfl rfl <| L.nil ?_
      refine N.th ?_
      cases hd : x.2.1 with
      | true =>
        refine W.condF rfl ?_
        refine W.skip ?_
        refine N.inb ?_
        refine N.th (N.meet [(4, _), (0, _), (3, v7)] ⟨rfl, rfl, rfl, trivial⟩ ⟨v7, rfl, .inl ?_, hx07⟩)   -- MEET
        rw [hent, hd]
        simpa using hv7
      | false =>
        refine W.condT rfl ?_
        have hd7 : Ext none_ w7 w7.drew := Ext.drew _ _
        have hx07d := hx07.trans hd7
        have hv7d : Byts w.heap.size w7.drew v7 _ := own_ext hv7 hd7 fun _ _ => id
        refine W.draw [40] false (fun w' => Ext none_ w w') [0, 1, 2, 3, 4, 5, 6, 7, 9, 10, 11, 12, 13, 8, 14, 15] rfl rfl (by kernel_rfl) hx07d ?_   -- held
        refine mv rfl rfl <| mv rfl rfl <| mv rfl rfl <| ixa rfl rfl u_files sz_File rfl (by omega) (by omega) <| fad rfl fl_File_2 rfl <| ldK (v := .slice va x.2.2.2.length vc) rfl ag_bytes rfl (fun w' h => (rd h).2.2) <| lenV (t := 25) rfl u_bytes rfl <| cvtI (c := (x.2.2.2.length : Int)) rfl u_u64 u_int rfl (wu64 (by omega) (by omega)) <|
          mv rfl rfl <| mv rfl rfl <| ixa rfl rfl u_files sz_File rfl (by omega) (by omega) <| fad rfl fl_File_2 rfl <| ldK (v := .slice va x.2.2.2.length vc) rfl ag_bytes rfl (fun w' h => (rd h).2.2) <|
          callH (vs := [_, .int .u64 (x.2.2.2.length : Nat), .int .i64 ((8 : Nat) : Int)]) rfl rfl ok_number (c_number x.2.2.2.length 8 hv7d hx07d.size (by simp [Ar.num_len]; omega) (by omega) (by omega)) ?_
        rintro e w8 ⟨v8, rfl, hv8, hx8, -⟩
        have hx08 := Buf.none (.inl hv7d) hx07d hx8 (Nat.le_refl _)
        refine ⟨_, rfl, .inr fun h => Buf.none (.inl hv7d) h hx8 (Nat.le_refl _), ?_⟩
        have hxA : BytA w8 (.slice va x.2.2.2.length vc) x.2.2.2 := by rw [← hbv]; exact (hv.ext0 hx08).bytes x hxm
        rcases RowA.form hxA with ⟨e, h0⟩ | ⟨ad, cc, e, h1, h2, hc⟩
        · obtain ⟨a8, c8, rfl, hc8, -⟩ := own_slice hv8
          have hx0 : x.2.2.2 = [] := List.eq_nil_of_length_eq_zero h0
          rw [e]
          refine appN rfl rfl rfl el_bytes hc8 <| asg rfl rfl <| L.nilH ?_
          refine N.inb ?_
          refine N.th (N.meet [(4, _), (0, _), (3, _)] ⟨rfl, by rw [← e]; rfl, rfl, trivial⟩ ⟨_, rfl, .inl ?_, hx08⟩)   -- MEET
          rw [hent, hd]
          simpa [hx0] using hv8
        · cases e
          refine appY rfl rfl rfl el_bytes hv8 (news := encB x.2.2.2) (by simp [encB]) (fun j u hj => (hc j u hj).2) (encB_one _) (by simp [Ar.num_len]; omega) (by simp only [maxLen]; simp [Ar.num_len]; omega) hx08.size fun v9 w9 hv9 hx9 _ _ => ⟨.inr fun h => Buf.none (.inl hv8) h hx9 (Nat.le_refl _), ?_⟩
          refine asg rfl rfl <| L.nilH ?_
          refine N.inb ?_
          refine N.th (N.meet [(4, _), (0, _), (3, v9)] ⟨rfl, rfl, rfl, trivial⟩ ⟨v9, rfl, .inl ?_, Buf.none (.inl hv8) hx08 hx9 (Nat.le_refl _)⟩)   -- MEET
          rw [hent, hd]
          simpa using byts_app hv9
    rintro E' w3 ⟨bv', rfl, hb3, hx3⟩
    refine W.reg <| mv rfl rfl <| addI (c := ((i + 1 : Nat) : Int)) rfl rfl rfl (by rw [w64 (by omega) (by omega)]; simp) <| asg rfl rfl <| L.nil ?_
    exact N.th (N.round (x := (i + 1, bv')) ⟨rfl, rfl, rfl, trivial⟩ ⟨by dsimp only; omega, by dsimp only; rw [hnext]; exact hb3, hx3⟩ (by dsimp only; omega))   -- ROUND
  · refine W.exit ?_
    refine N.xth ?_
    refine N.xth ?_
    refine N.xeq ?_
    refine N.th ?_
    have hil : i = E.length := by have := of_decide_eq_false h; omega
    rw [hil, List.take_length] at hb2 hlen2
    refine W.seq ?_
    refine W.reg <| mv rfl rfl <| pushB (y := 255) rfl rfl rfl rfl (fun _ => by kernel_rfl) el_bytes hb2 (by omega) hx2.size fun v5 w5 hv5 hx5 hfr5 => ?_
    refine asg rfl rfl <| L.nil ?_
    refine N.th ?_
    refine W.ret ?_
    refine N.ret1 rfl rfl ?_   -- RETURN
    exact ⟨v5, rfl, hv5, hb2.none hx2 hx5 (Nat.le_refl _)⟩
end Go.Proofs.YtmdpmpdlkaogdaaGreatDoor

namespace Go.Proofs.YtmdpmpdlkaogdaaGreatDoor.Vc
open Go Go.RowKit
section ops
variable {Fe : Fence} {mm : Nat} [Wd Fe] {P : Program} {ds : List Deferred} {n : Nat} {Q : Exit → Act → World → Prop} {E : Env} {w : World} {ops : Array Oper} {l : List Oper}
/-- A call that may panic. -/
theorem callP {d : Nat} {g : FuncId} {args : Array Operand} {tys : Array TypeId} {ty : TypeId} {pos : String} {af : Array Edge} {vs : List Value} {R : Ending → World → Prop}
    (hargs : args.toList.map (opd E) = vs.map some) (hd : Nat.blt d n = true) (hf : FnOk P g) (hc : Calls P g vs.toArray w R)
    (k : ∀ e w', R e w' → (∃ v, e = .returned v ∧ L Fe mm P ds n ops l Q ((d, v) :: E) w') ∨ ∃ ch, e = .panicked ch ∧ N ds n (Q (.panic ch)) E w') : L Fe mm P ds n ops (⟨some d, .call ⟨.value (.func g), args, tys⟩, ty, pos, af, none⟩ :: l) Q E w := fun a ha => by
  obtain ⟨fn, hfn, hne, hbd⟩ := hf
  have he : args.map a.eval = vs.toArray := evals ha hargs
  have hrun : (execOp a.eval ⟨some d, .call ⟨.value (.func g), args, tys⟩, ty, pos, af, none⟩).run P w = .ok (.enter g vs.toArray) w := by
    have hne' : ¬ fn.name = "runtime.NumGoroutine" := by simpa using hne
    have hbd' : ¬ fn.body = none := by cases h : fn.body with | none => rw [h] at hbd; cases hbd | some c => simp
    simp [execOp, resolve, Act.eval, Deferred.ofValue, he, invoke, callFunc, program, Sem.run, hfn, hne', hbd']
  exact wpListIn_plain rfl fun K hK => by
    refine ⟨about_any _ _ _, ?_⟩
    rw [semAt_value hrun (by simp), hrun]
    refine ⟨(fun h => by rw [Wd.depth] at h; cases h), Wd.calls (hc.mono fun e w' hR => ?_)⟩
    rcases k e w' hR with ⟨v, rfl, hk⟩ | ⟨ch, rfl, hk⟩
    · exact hK _ _ (hk _ (ha.put hd))
    · exact hk _ ha
/-- A panic. -/
theorem pan {x : Operand} {t : TypeId} {v : Value} {ty : TypeId} {pos : String} {af : Array Edge} (hx : opd E x = some (.iface t v)) (k : N ds n (Q (.panic [{ v := .iface t v, recovered := false }])) E w) : L Fe mm P ds n ops (⟨none, .panic x, ty, pos, af, none⟩ :: l) Q E w := fun a ha => by
  have hrun : (execOp a.eval ⟨none, .panic x, ty, pos, af, none⟩).run P w = .halt (.panic (.iface t v)) w := by
    simp [execOp, opd_eval ha hx, Instr.panic]
  exact wpListIn_plain rfl fun K hK => by
    refine ⟨about_any _ _ _, ?_⟩
    have hs : ∀ r, (⟨none, .panic x, ty, pos, af, none⟩ : Oper).semAt r a.eval = execOp a.eval ⟨none, .panic x, ty, pos, af, none⟩ := fun r => by
      cases r with
      | none => exact Oper.semAt_none _ _
      | some l => exact Oper.semAt_some l _ _ fun c hc => by cases hc
    rw [hs, hrun]
    exact k a ha
end ops
end Go.Proofs.YtmdpmpdlkaogdaaGreatDoor.Vc
namespace Go.Proofs.YtmdpmpdlkaogdaaGreatDoor.Vc
open Go Go.RowKit
theorem N.pan {P : Program} {n : Nat} {E : Env} {w : World} {fn : Func} {R : Ending → World → Prop} {ch : List PanicEntry} (h : R (.panicked ch) w) : N [] n (bodyPost P fn R (.panic ch)) E w := fun _ ha => ⟨ha.1, h⟩
end Go.Proofs.YtmdpmpdlkaogdaaGreatDoor.Vc

namespace Go.Proofs.YtmdpmpdlkaogdaaGreatDoor
open Go Go.RowKit Vc
abbrev tStop : TypeId := 91
abbrev tRd : TypeId := 96
theorem ok_must : FnOk P 61 := ⟨_, Tryz.func61, by kernel_rfl, by kernel_rfl⟩
theorem ok_take : FnOk P 93 := ⟨_, Tryz.func93, by kernel_rfl, by kernel_rfl⟩
/-- How reading stops. -/
def stop (e : Int) : List PanicEntry := [{ v := .iface tStop (.agg #[.int .i64 e]), recovered := false }]
theorem c_must (ok : Bool) (c : Int) (w : World) : Calls P 61 #[.bool ok, .int .i64 c] w fun e w' => w = w' ∧ e = if ok then .returned (.tuple #[]) else .panicked (stop c) := by
  refine enter (l := [_, _]) (n := 9) Tryz.func61 rfl rfl rfl ?_
  refine W.seq ?_
  refine W.reg <| mv rfl rfl <| notB rfl rfl <| L.nil ?_
  refine N.th ?_
  cases ok with
  | false =>
    refine W.condT rfl ?_
    refine W.reg <| mv rfl rfl <| bld (vs := #[(0, .int .i64 c)]) (v := .agg #[.int .i64 c]) rfl rfl (fun _ => by kernel_rfl) <| mki rfl Tryz.underlying91 rfl rfl <| pan rfl ?_
    exact N.pan ⟨rfl, rfl⟩
  | true =>
    refine W.condF rfl ?_
    refine W.skip ?_
    exact N.end0 rfl ⟨rfl, rfl⟩

theorem fl_Rd_0 : fldB P tRd 0 = some 0 := by kernel_rfl
/-- A reader. -/
def RdAt (w : World) (rb : Nat) (v : Value) (b : List UInt8) : Prop := w.heap[rb]? = some (.cells #[v] tRd (0, 0)) ∧ BytA w v b
theorem BytA.rd {w w' : World} {rb : Nat} {u v : Value} {b : List UInt8} (h : BytA w v b) (hs : w.heap[rb]? = some (.cells #[u] tRd (0, 0))) (hu : ∃ a n c, u = .slice a n c) (hx : Ext (fun k => k = rb) w w') : BytA w' v b :=
  RowA.keep h hx.size fun ad x hx' hb hcell => hx.block _ hb fun e => by
    obtain ⟨y, -, rfl⟩ := List.mem_map.1 hx'
    obtain ⟨a, n, c, rfl⟩ := hu
    unfold World.cell? at hcell
    rw [e, hs] at hcell
    simp only at hcell
    split at hcell
    · cases hcell
    · have hm := Array.mem_of_getElem? hcell
      simp at hm
theorem BytA.cut {w : World} {a : Option Addr} {c k : Nat} {l : List UInt8} (h : BytA w (.slice a l.length c) l) (hk : k ≤ l.length) : BytA w (.slice (if c = k then a else a.map (·.add (k * 1))) (l.length - k) (c - k)) (l.drop k) := by
  obtain ⟨a', c', e, h1, h2, h3, hc⟩ := h
  cases e
  refine ⟨_, c - k, by rw [List.length_drop], by rw [List.length_drop]; omega, by omega, fun h => ?_, fun j u hj => ?_⟩
  · split at h
    · omega
    · cases a with
      | none => have := h3 rfl; omega
      | some ad => cases h
  · rw [encB, List.map_drop, List.getElem?_drop] at hj
    have hlt : k + j < l.length := by have := (List.getElem?_eq_some_iff.1 hj).1; simpa using this
    obtain ⟨ad, rfl, hb, hcell⟩ := hc (k + j) u hj
    rw [if_neg (by omega)]
    exact ⟨_, rfl, by rw [add_block]; exact hb, by rw [add_add, Nat.mul_one]; exact hcell⟩

theorem ownBlock_if (q : Prop) [Decidable q] (a : Option Addr) (k n c m : Nat) {d : Nat} : (Value.slice (if q then a else a.map (·.add k)) n c).ownBlock = (Value.slice a m d).ownBlock := by
  split <;> cases a <;> simp [Value.ownBlock, add_block]
/-- A slice's bytes, kept where its block is. -/
theorem BytA.blk {T : Nat → Prop} {w w' : World} {v : Value} {b : List UInt8} (h : BytA w v b) (hx : Ext T w w') (hT : ∀ k, v.ownBlock = some k → k < w.heap.size → ¬ T k) : BytA w' v b := by
  obtain ⟨a, cap, rfl, h1, h2, h3, hc⟩ := h
  refine ⟨a, cap, rfl, h1, h2, h3, fun j u hj => ?_⟩
  obtain ⟨ad, rfl, hb, hcell⟩ := hc j u hj
  refine ⟨ad, rfl, Nat.lt_of_lt_of_le hb hx.size, ?_⟩
  have hh : w'.cell? (ad.add j) = w.cell? (ad.add j) := World.cell?_of_block (by rw [add_block]; exact hx.block _ hb (hT _ rfl hb))
  rw [hh]
  exact hcell
/-- The same where a block that holds no numbers is turned. -/
theorem BytA.off {w w' : World} {g : Nat} {cs : Array Value} {e : TypeId} {f : Nat × Nat} {v : Value} {b : List UInt8} (h : BytA w v b) (hs : w.heap[g]? = some (.cells cs e f)) (hn : ∀ u ∈ cs.toList, ∀ κ i, u ≠ .int κ i) (hx : Ext (fun k => k = g) w w') : BytA w' v b :=
  RowA.keep h hx.size fun ad x hx' hb hcell => hx.block _ hb fun e => by
    obtain ⟨y, -, rfl⟩ := List.mem_map.1 hx'
    unfold World.cell? at hcell
    rw [e, hs] at hcell
    simp only at hcell
    split at hcell
    · cases hcell
    · exact hn _ (by simpa using Array.mem_of_getElem? hcell) _ _ rfl

theorem c_take {w : World} {rb : Nat} {v : Value} {b : List UInt8} (n : Nat) (h : RdAt w rb v b) (hn : n < 18446744073709551616) (hl : b.length ≤ 1000000000) :
    Calls P 93 #[.pointer (some ⟨rb, 0, none⟩), .int .u64 n] w fun e w' => (b.length < n ∧ e = .panicked (stop 64) ∧ w = w') ∨ (n ≤ b.length ∧ ∃ v1 v2, e = .returned v1 ∧ BytA w' v1 (b.take n) ∧ RdAt w' rb v2 (b.drop n) ∧ Ext (fun k => k = rb) w w' ∧ v1.ownBlock = v.ownBlock ∧ v2.ownBlock = v.ownBlock) := by
  obtain ⟨hc, hb⟩ := h
  obtain ⟨a, c, rfl, hbn, hbm, -, -⟩ := id hb
  have hc0 : w.cell? ⟨rb, 0, none⟩ = some (.slice a b.length c) := cell_of hc rfl
  refine enter (l := [_, _]) (n := 31) Tryz.func93 rfl rfl rfl ?_
  refine W.seq ?_
  refine W.reg <| asg rfl rfl <| L.nil ?_
  refine N.th ?_
  refine W.seq ?_
  refine W.reg <| mv rfl rfl <| mv rfl rfl <| nilc rfl rfl <| fad rfl fl_Rd_0 rfl <| ld1 rfl ag_bytes rfl hc0 <| lenV (t := 25) rfl u_bytes rfl <| cvtI (c := (b.length : Int)) rfl u_u64 u_int rfl (wu64 (by omega) (by omega)) <| leqI rfl rfl rfl <| callP (vs := [_, .int .i64 64]) rfl rfl ok_must (c_must _ 64 w) ?_
  rintro e w1 ⟨rfl, rfl⟩
  by_cases hle : n ≤ b.length
  · rw [show (if decide ((n : Int) ≤ (b.length : Int)) = true then Ending.returned (.tuple #[]) else .panicked (stop 64)) = .returned (.tuple #[]) from if_pos (decide_eq_true (by omega))]
    refine .inl ⟨_, rfl, ?_⟩
    refine L.nil ?_
    refine N.th ?_
    refine W.seq ?_
    refine W.reg <| mv rfl rfl <| nilc rfl rfl <| fad rfl fl_Rd_0 rfl <| ld1 rfl ag_bytes rfl hc0 <| mv rfl rfl <| slVh rfl rfl u_bytes el_bytes.szB rfl (by omega) (by omega) <| asg rfl rfl <| L.nil ?_
    refine N.th ?_
    refine W.seq ?_
    refine W.reg <| mv rfl rfl <| mv rfl rfl <| nilc rfl rfl <| fad rfl fl_Rd_0 rfl <| ld1 rfl ag_bytes rfl hc0 <| mv rfl rfl <| slVl rfl rfl u_bytes el_bytes.szB rfl (by omega) (by omega) <| nilc rfl rfl <| fad rfl fl_Rd_0 rfl <| st1 rfl rfl sz_bytes rfl hc rfl <| L.nil ?_
    refine N.th ?_
    refine W.seq ?_
    refine W.reg <| mv rfl rfl <| asg rfl rfl <| L.nil ?_
    refine N.th ?_
    refine W.ret ?_
    refine N.ret1 rfl rfl ?_   -- RETURN
    have hxs : ∀ {v1 : Value} {o1 : Nat}, Ext (fun k => k = rb) w (w.setCell ⟨rb, o1, none⟩ v1) := Ext.setCell (S := fun k => k = rb) _ (fun _ => rfl) _
    have h1 : BytA w (.slice a n c) (b.take n) := by
      have := RowA.take (m := n) (k := n) hb hle
      unfold BytA
      rw [show (b.take n).length = n by rw [List.length_take]; omega, show encB (b.take n) = (encB b).take n by simp [encB]]
      exact this
    refine .inr ⟨hle, _, _, rfl, h1.rd hc ⟨_, _, _, rfl⟩ hxs, ⟨by rw [setCell_heap hc]; rfl, ?_⟩, hxs, by cases a <;> rfl, ownBlock_if _ _ _ _ _ _⟩
    refine BytA.rd ?_ hc ⟨_, _, _, rfl⟩ hxs
    exact BytA.cut hb hle
  · rw [show (if decide ((n : Int) ≤ (b.length : Int)) = true then Ending.returned (.tuple #[]) else .panicked (stop 64)) = .panicked (stop 64) from if_neg (by rw [decide_eq_false (by omega)]; simp)]
    refine .inr ⟨_, rfl, ?_⟩
    refine N.pth <| N.pan ?_
    exact .inl ⟨by omega, rfl, rfl⟩
end Go.Proofs.YtmdpmpdlkaogdaaGreatDoor

namespace Go.Proofs.YtmdpmpdlkaogdaaGreatDoor
namespace Ar
/-- A number out of its bytes. -/
def val (l : List UInt8) : Nat := l.foldl (fun n c => n * 256 + c.toNat) 0
theorem val_snoc (l : List UInt8) (c : UInt8) : val (l ++ [c]) = val l * 256 + c.toNat := by simp [val]
theorem val_lt (l : List UInt8) : val l < 256 ^ l.length := by
  rw [← List.reverse_reverse l]
  induction l.reverse with
  | nil => decide
  | cons c r ih =>
    rw [List.reverse_cons, val_snoc, List.length_append, List.length_singleton, Nat.pow_succ]
    have := c.toNat_lt
    omega
end Ar
open Go Go.RowKit Vc
theorem ok_rnumber : FnOk P 94 := ⟨_, Tryz.func94, by kernel_rfl, by kernel_rfl⟩
theorem or64 {n c : Nat} (hn : n * 256 + c < 18446744073709551616) (hc : c < 256) : IntKind.u64.wrap ((BitVec.ofInt 64 ((n * 256 : Nat) : Int) ||| BitVec.ofInt 64 (c : Int)).toNat : Int) = ((n * 256 + c : Nat) : Int) := by
  have h1 : (BitVec.ofInt 64 ((n * 256 : Nat) : Int)).toNat = n * 256 := by rw [BitVec.toNat_ofInt]; omega
  have h2 : (BitVec.ofInt 64 (c : Int)).toNat = c := by rw [BitVec.toNat_ofInt]; omega
  have h3 : n * 256 ||| c = n * 256 + c := by
    have := Nat.shiftLeft_add_eq_or_of_lt (i := 8) (b := c) (by omega) n
    rw [Nat.shiftLeft_eq] at this
    exact this.symm
  rw [BitVec.toNat_or, h1, h2, h3]
  exact wu64 (by omega) (by omega)

theorem c_rnumber {w : World} {rb : Nat} {v : Value} {b : List UInt8} (n : Nat) (h : RdAt w rb v b) (hn : n ≤ 8) (hl : b.length ≤ 1000000000) :
    Calls P 94 #[.pointer (some ⟨rb, 0, none⟩), .int .u64 n] w fun e w' => (b.length < n ∧ e = .panicked (stop 64) ∧ w = w') ∨ (n ≤ b.length ∧ e = .returned (.int .u64 (Ar.val (b.take n))) ∧ ∃ v2, RdAt w' rb v2 (b.drop n) ∧ Ext (fun k => k = rb) w w' ∧ v2.ownBlock = v.ownBlock) := by
  refine enter (l := [_, _]) (n := 23) Tryz.func94 rfl rfl rfl ?_
  refine W.seq ?_
  refine W.reg <| asg rfl rfl <| L.nil ?_
  refine N.th ?_
  refine W.seq ?_
  refine W.reg <| asg rfl rfl <| L.nil ?_
  refine N.th ?_
  refine W.seq ?_
  refine W.seq ?_
  refine W.reg <| mv rfl rfl <| mv rfl rfl <| callP (vs := [_, _]) rfl rfl ok_take (c_take n h (by omega) hl) ?_
  rintro e w1 (⟨h1, rfl, rfl⟩ | ⟨h1, v1, v2, rfl, hv1, hr2, hx1, -, ho2⟩)
  · refine .inr ⟨_, rfl, ?_⟩
    refine N.pth <| N.pth <| N.pan ?_
    exact .inl ⟨h1, rfl, rfl⟩
  refine .inl ⟨_, rfl, ?_⟩
  obtain ⟨l, hll⟩ : ∃ l, l = b.take n := ⟨_, rfl⟩
  have hln : l.length ≤ 8 := by rw [hll, List.length_take]; omega
  rw [← hll] at hv1 ⊢
  obtain ⟨a, c, rfl, -, -, -, -⟩ := id hv1
  refine lenV (t := 25) rfl u_bytes rfl <| mv rfl rfl <| L.nil ?_
  refine N.th ?_
  refine W.block ?_
  refine W.loop (X := Nat) (fun i => [(12, .int .i64 i), (11, .int .i64 l.length), (10, .slice a l.length c), (5, .int .u64 (Ar.val (l.take i)))]) (fun i w' => i ≤ l.length ∧ w' = w1) (fun i => l.length - i) 0 ⟨rfl, rfl, rfl, rfl, trivial⟩ ⟨by omega, rfl⟩ ?_
  rintro i w2 ⟨hi, rfl⟩
  refine W.seq ?_
  refine W.reg <| lssI rfl rfl rfl <| L.nil ?_
  refine N.th ?_
  refine W.seq ?_
  refine W.cond rfl (fun h => ?_) (fun h => ?_)
  · refine W.skip ?_
    refine N.th ?_
    have hi1 : i < l.length := by have := of_decide_eq_true h; omega
    obtain ⟨bb, bo, bc, e, hcell⟩ := byt_at hv1 hi1
    cases e
    have hy : l[i]? = some (l[i]?.getD 0) := by rw [List.getElem?_eq_getElem hi1]; rfl
    have hlt := Ar.val_lt (l.take (i + 1))
    have hlen : (l.take (i + 1)).length = i + 1 := by rw [List.length_take]; omega
    have hval : Ar.val (l.take (i + 1)) = Ar.val (l.take i) * 256 + (l[i]?.getD 0).toNat := by
      conv => lhs; rw [List.take_add_one, hy]
      exact Ar.val_snoc _ _
    have hp : 256 ^ (i + 1) ≤ 256 ^ 8 := Nat.pow_le_pow_right (by decide) (by omega)
    have hmax : Ar.val (l.take i) * 256 + (l[i]?.getD 0).toNat < 18446744073709551616 := by
      rw [← hval]
      rw [hlen] at hlt
      have : (256 : Nat) ^ 8 = 18446744073709551616 := by decide
      omega
    have hb8 := (l[i]?.getD 0).toNat_lt
    refine W.seq ?_
    refine W.block ?_
    refine W.seq ?_
    refine W.reg <| ixa rfl rfl u_bytes el_bytes.szB rfl (by omega) (by omega) <| ld1 (v := .int .u8 (l[i]?.getD 0).toNat) rfl ag_u8 rfl (hcell i hi1) <| asg rfl rfl <| L.nil ?_
    refine N.th ?_
    refine W.reg <| mv rfl rfl <| shlI (c := ((Ar.val (l.take i) * 256 : Nat) : Int)) rfl rfl rfl (by decide) (by
        show IntKind.u64.wrap ((Ar.val (l.take i) : Int) * 256) = _
        rw [wu64 (by omega) (by omega)]; omega) <| mv rfl rfl <| cvtI (c := ((l[i]?.getD 0).toNat : Int)) rfl u_u64 u_u8 rfl (wu64 (by omega) (by omega)) <|
      binI (v := .int .u64 (Ar.val (l.take (i + 1)) : Int)) rfl rfl (fun w => by
        show (pure (.int .u64 (IntKind.u64.wrap ((BitVec.ofInt 64 ((Ar.val (l.take i) * 256 : Nat) : Int) ||| BitVec.ofInt 64 ((l[i]?.getD 0).toNat : Int)).toNat))) : Sem Value).run P w = _
        rw [or64 hmax (by omega), hval]; rfl) rfl <| asg rfl rfl <| L.nil ?_
    refine N.inb ?_
    refine N.th ?_
    refine W.reg <| addI (c := ((i + 1 : Nat) : Int)) rfl rfl rfl (by rw [w64 (by omega) (by omega)]; simp) <| mv rfl rfl <| L.nil ?_
    exact N.th (N.round (x := i + 1) ⟨rfl, rfl, rfl, rfl, trivial⟩ ⟨by omega, rfl⟩ (by omega))   -- ROUND
  · refine W.exit ?_
    refine N.xth ?_
    refine N.xth ?_
    refine N.xeq ?_
    refine N.th ?_
    have hil : i = l.length := by have := of_decide_eq_false h; omega
    subst hil
    refine W.seq ?_
    refine W.reg <| mv rfl rfl <| asg rfl rfl <| L.nil ?_
    refine N.th ?_
    refine W.ret ?_
    refine N.ret1 rfl rfl ?_   -- RETURN
    rw [List.take_length]
    exact .inr ⟨h1, rfl, _, hr2, hx1, ho2⟩
end Go.Proofs.YtmdpmpdlkaogdaaGreatDoor

namespace Go.Proofs.YtmdpmpdlkaogdaaGreatDoor
namespace Tr
open Sp (Cl)

/-- Is a directory told twice? -/
def isDir (o : Option Nd) : Bool := match o with | some x => x.1 | none => false
/-- One file. -/
def step (m : T) (k : Bytes) (x : Nd) : T × Int := if x.1 then mkdir m k else write m k x.2
theorem Ok.step {m : T} (h : Ok m) (k : Bytes) (x : Nd) : Ok (Tr.step m k x).1 := by
  unfold Tr.step
  split
  · exact h.mkdir _
  · exact h.write _ _
/-- The tree of files, one after another; none: refused. -/
def ofF : T → List Bytes → T → Option T × Int
  | m, _, [] => (some m, 0)
  | m, seen, (s, x) :: l =>
    if (Sp.clean s).2 ≠ 0 then (none, (Sp.clean s).2)
    else if seen.contains (Sp.clean s).1 || (x.1 && isDir (at_ m (Sp.clean s).1)) then (none, 53)
    else if (step m (Sp.clean s).1 x).2 ≠ 0 then (none, (step m (Sp.clean s).1 x).2)
    else ofF (step m (Sp.clean s).1 x).1 (seen ++ [(Sp.clean s).1]) l
def of (l : T) : Option T × Int := ofF [] [] l
theorem ofF_none : ∀ (l m : T) (seen : List Bytes), (ofF m seen l).1 = none → (ofF m seen l).2 ≠ 0 := by
  intro l
  induction l with
  | nil => intro m seen h; cases h
  | cons p l ih =>
    intro m seen
    obtain ⟨s, x⟩ := p
    unfold ofF
    split
    · rename_i h; intro _; exact h
    · split
      · intro _; simp
      · split
        · rename_i h; intro _; exact h
        · exact ih _ _
theorem ofF_some : ∀ (l m : T) (seen : List Bytes), (ofF m seen l).1 ≠ none → (ofF m seen l).2 = 0 := by
  intro l
  induction l with
  | nil => intro m seen _; rfl
  | cons p l ih =>
    intro m seen
    obtain ⟨s, x⟩ := p
    unfold ofF
    split
    · intro h; exact absurd rfl h
    · split
      · intro h; exact absurd rfl h
      · split
        · intro h; exact absurd rfl h
        · exact ih _ _
theorem ofF_ok : ∀ (l m : T) (seen : List Bytes) (m' : T), Ok m → (ofF m seen l).1 = some m' → Ok m' := by
  intro l
  induction l with
  | nil => intro m seen m' h e; cases e; exact h
  | cons p l ih =>
    intro m seen m' h
    obtain ⟨s, x⟩ := p
    unfold ofF
    split
    · intro e; cases e
    · split
      · intro e; cases e
      · split
        · intro e; cases e
        · exact ih _ _ _ (h.step _ _)
/-- What is written by a path is written by its one form. -/
theorem mkdir_clean {m : T} {s : Bytes} (h : (Sp.clean s).2 = 0) : mkdir m s = mkdir m (Sp.clean s).1 := by
  unfold mkdir
  rw [(Sp.clean_cl h).clean, h]
theorem write_clean {m : T} {s b : Bytes} (h : (Sp.clean s).2 = 0) : write m s b = write m (Sp.clean s).1 b := by
  unfold write put
  rw [(Sp.clean_cl h).clean, h]

theorem lt_append (a b : Bytes) (h : b ≠ []) : a < a ++ b := by
  induction a with
  | nil =>
    cases b with
    | nil => exact absurd rfl h
    | cons c b => exact List.nil_lt_cons c b
  | cons c a ih => exact List.cons_lt_cons_iff.2 (.inr ⟨rfl, ih⟩)
theorem Above.less {e k : Bytes} (h : Above e k) : e < k := by
  obtain ⟨h0, -, hw, hne⟩ := h
  obtain ⟨r, rfl, hr⟩ := (Sp.within_iff h0).1 hw
  exact lt_append _ _ fun e => hne (by rw [e]; simp)
theorem set_new {α : Type} {m : List (Bytes × α)} {k : Bytes} (v : α) (h : get m k = none) : set m k v = m ++ [(k, v)] := by
  unfold set
  rw [if_neg (by have := get_none.1 h; simpa using this)]
/-- A tree's files, in order, are that tree. -/
theorem of_again {L : T} (hok : Ok L) (hs : Sorted L) : ∀ (rest pre : T), L = pre ++ rest → ofF pre (pre.map (·.1)) rest = (some L, 0) := by
  intro rest
  induction rest with
  | nil => intro pre h; rw [List.append_nil] at h; rw [h]; rfl
  | cons p rest ih =>
    intro pre h
    obtain ⟨k, x⟩ := p
    have hmem : (k, x) ∈ L := by rw [h]; simp
    have hgk : get L k = some x := mem_get hok.nodup hmem
    obtain ⟨hk0, hcl, -, hdir, hmax⟩ := hok.sound hgk
    have hn := hok.nodup
    rw [h, List.map_append, List.nodup_append] at hn
    have hkpre : k ∉ pre.map (·.1) := fun hm => hn.2.2 k hm k (by simp) rfl
    have hgp : get pre k = none := get_none.2 hkpre
    have hlt : ∀ q ∈ rest, k < q.1 := by
      unfold Sorted at hs
      rw [h, List.pairwise_append] at hs
      exact (List.pairwise_cons.1 hs.2.1).1
    have habv : ∀ e, Above e k → get pre e = some (true, []) := fun e he => by
      have hge := hok.abv hgk he
      have hm := get_mem hge
      rw [h] at hm
      rcases List.mem_append.1 hm with hm | hm
      · exact mem_get hn.1 hm
      · rcases List.mem_cons.1 hm with hm | hm
        · have : e = k := congrArg Prod.fst hm
          exact absurd this he.2.2.2
        · exact absurd (lt_tr (hlt _ hm) he.less) (lt_irr _)
    have hah : ahead pre k = some [] := by
      obtain ⟨l, hl⟩ := ahead_of (m := pre) hcl (fun e he b hb => by rw [habv e he] at hb; cases hb)
      obtain ⟨-, b2⟩ := ahead_some hcl hl
      cases l with
      | nil => exact hl
      | cons e l =>
        obtain ⟨c1, c2⟩ := b2 e (by simp)
        rw [habv e c1] at c2; cases c2
    have hsz : size L = size pre + (x.2.length + size rest) := by rw [h, size_append, size_cons]
    have hln : L.length = pre.length + (rest.length + 1) := by rw [h]; simp
    have hL1 := hok.len
    have hL2 := hok.bytes
    unfold ofF
    rw [hcl.clean]
    simp only [ne_eq, not_true_eq_false, if_false]
    have hcon : ((pre.map (·.1)).contains k || (x.1 && isDir (at_ pre k))) = false := by
      rw [at_of hk0, hgp]
      simp only [isDir, Bool.and_false, Bool.or_false]
      rw [← Bool.not_eq_true]
      simpa using hkpre
    rw [if_neg (by rw [hcon]; simp)]
    have hnext : ∀ m', m' = pre ++ [(k, x)] → ofF m' (pre.map (·.1) ++ [k]) rest = (some L, 0) := fun m' e => by
      rw [e]
      have := ih (pre ++ [(k, x)]) (by rw [h]; simp)
      simpa using this
    obtain ⟨d, b⟩ := x
    cases d with
    | true =>
      have hb : b = [] := hdir rfl
      subst hb
      have hr : mkdir pre k = (pre ++ [(k, (true, []))], 0) := by
        unfold mkdir
        rw [hcl.clean]
        simp only [ne_eq, not_true_eq_false, if_false]
        rw [at_of hk0, hgp, hah]
        have hroom : room pre (([] : List Bytes).length + 1) 0 = true := by
          unfold room
          simp only [List.length_nil, Bool.and_eq_true, decide_eq_true_eq]
          omega
        simp only [hroom, Bool.true_eq_false, if_false, List.nil_append]
        rw [show make pre [k] = set pre k (true, []) from rfl, set_new _ hgp]
      have hst : step pre k (true, []) = (pre ++ [(k, (true, []))], 0) := hr
      rw [hst, if_neg (by simp)]
      exact hnext _ rfl
    | false =>
      have hr : write pre k b = (pre ++ [(k, (false, b))], 0) := by
        obtain ⟨-, hput⟩ := put_ok (m := pre) (s := k) (b := b) (more := false) (ox := none) (lack := []) (by rw [hcl.clean]; simp) (by rw [hcl.clean, at_of hk0]; exact hgp) (fun x hx => by cases hx) (by rw [hcl.clean]; exact hah)
        unfold write
        rw [hput, hcl.clean]
        have hroom : room pre (putN none []) ((putB none b false).length - old pre k) = true := by
          unfold room putN putB old
          rw [hgp]
          simp only [List.length_nil, Bool.and_eq_true, decide_eq_true_eq, Option.getD_none]
          dsimp only at hsz
          omega
        rw [if_neg (by
          rw [hroom]
          simp only [putB, Bool.true_eq_false, or_false]
          dsimp only at hmax
          omega)]
        rw [show make pre [] = pre from rfl, set_new _ hgp]
        rfl
      have hst : step pre k (false, b) = (pre ++ [(k, (false, b))], 0) := hr
      rw [hst, if_neg (by simp)]
      exact hnext _ rfl
theorem of_files {m : T} (hok : Ok m) : of (files m) = (some (files m), 0) := by
  have hp : (files m).Perm m := List.mergeSort_perm m _
  have hok' : Ok (files m) := Ok.mk' (files_nodup hok.nodup) (fun k x hk => by
    rw [files_get hok.nodup] at hk
    obtain ⟨a, b, c, d⟩ := hok.sound hk
    exact ⟨a, b, by rw [files_get hok.nodup]; exact c, d⟩) (by rw [files_len]; exact hok.len) (by rw [files_size]; exact hok.bytes)
  exact of_again hok' (files_sorted hok.nodup) (files m) [] rfl
theorem files_files {m : T} (hn : (m.map (·.1)).Nodup) : files (files m) = files m := files_perm hn (List.mergeSort_perm m _)
end Tr
end Go.Proofs.YtmdpmpdlkaogdaaGreatDoor

namespace Go.Proofs.YtmdpmpdlkaogdaaGreatDoor
namespace Ar
/-- The entries behind the sign, one after another; none: refused. -/
def par : Nat → List UInt8 → Tr.T → Option Tr.T × Int
  | 0, _, _ => (none, 64)
  | _ + 1, [], _ => (none, 64)
  | f + 1, k :: b, acc =>
    if k = 255 then (if b = [] then (some acc, 0) else (none, 64))
    else if ¬ (k.toNat ≤ 1 ∧ acc.length < 500) then (none, 64)
    else if b.length < 2 then (none, 64)
    else if (b.drop 2).length < val (b.take 2) then (none, 64)
    else
      if (Sp.clean ((b.drop 2).take (val (b.take 2)))).2 = 51 then (none, 51)
      else if (Sp.clean ((b.drop 2).take (val (b.take 2)))).2 ≠ 0 then (none, 64)
      else if k = 1 then par f ((b.drop 2).drop (val (b.take 2))) (acc ++ [((b.drop 2).take (val (b.take 2)), true, [])])
      else if ((b.drop 2).drop (val (b.take 2))).length < 8 then (none, 64)
      else if (((b.drop 2).drop (val (b.take 2))).drop 8).length < val (((b.drop 2).drop (val (b.take 2))).take 8) then (none, 64)
      else par f ((((b.drop 2).drop (val (b.take 2))).drop 8).drop (val (((b.drop 2).drop (val (b.take 2))).take 8)))
        (acc ++ [((b.drop 2).take (val (b.take 2)), false, (((b.drop 2).drop (val (b.take 2))).drop 8).take (val (((b.drop 2).drop (val (b.take 2))).take 8)))])
/-- An archive, opened; none: refused. -/
def opn (b : List UInt8) : Option Tr.T × Int :=
  if ¬ (b.length ≤ 262144 ∧ sign.isPrefixOf b = true) then (none, 64)
  else match par (b.length + 1) (b.drop 4) [] with
    | (none, c) => (none, c)
    | (some l, _) => match Tr.of l with
      | (none, _) => (none, 64)
      | (some m, _) => (some (Tr.files m), 0)
end Ar
end Go.Proofs.YtmdpmpdlkaogdaaGreatDoor

namespace Go.Proofs.YtmdpmpdlkaogdaaGreatDoor
open Go Go.RowKit Vc
theorem run_bytA_str {P : Program} {w : World} {t u e : TypeId} {v : Value} {l : List UInt8} (ht : P.underlying t = some (.slice e)) (he : P.underlying e = some (.int .u8)) (hu : P.underlying u = some .string) (hr : BytA w v l) :
    (convert t u v).run P w = .ok (.string (S l)) w := by
  by_cases hl : l = []
  · subst hl
    obtain ⟨a, c, rfl, -, -, -, -⟩ := id hr
    cases a with
    | none => exact run_convert_bytes_nil w t e ht he _ c u hu
    | some ad =>
      have hl : (loadCells ad 0).run P w = .ok #[] w := by
        simpa using run_loadCells_list (P := P) w ad [] (fun j v hj => by simp at hj)
      rw [run_convert_bytes_string w t u e _ _ c ht he hu]
      rw [show ([] : List UInt8).length = 0 from rfl]
      rw [run_bytesToString w ad 0 c [] (by simpa using hl)]
      rfl
  · obtain ⟨b, o, c, rfl, hcell⟩ := byt_at (j := 0) hr (List.length_pos_iff.2 hl)
    have h := run_convert_bytes_arg (P := P) w t e ht he b o l.length c (l.map fun x => (x.toNat : Int)) (by simp) (fun i hi => by
      have := hcell i (by simpa using hi)
      rw [Nat.mul_one] at this
      rw [this]
      simp [hi]) u hu
    rw [h]
    have : strOfNums (l.map fun x => (x.toNat : Int)) = S l := by
      apply ByteArray.ext; apply Array.ext'
      rw [strOfNums_data, List.map_map]
      show _ = l
      conv => rhs; rw [← List.map_id l]
      refine List.map_congr_left fun x _ => ?_
      simp
    rw [this]
namespace Vc
variable {st : Sty} [Wy st] {P : Program} {ds : List Deferred} {n : Nat} {Q : Exit → Act → World → Prop} {E : Env} {w : World} {ops : Array Oper} {l : List Oper}
variable {d : Nat} {ty : TypeId} {pos : String} {af : Array Edge}
theorem cvtBA {t u e : TypeId} {x : Operand} {v : Value} {a : List UInt8} (hx : opd E x = some v) (ht : P.underlying t = some (.slice e)) (he : P.underlying e = some (.int .u8)) (hu : P.underlying u = some .string) (hd : Nat.blt d n = true) (hr : Kn st w fun w => BytA w v a)
    (k : LY st P ds n ops l Q ((d, .string (S a)) :: E) w) : LY st P ds n ops (⟨some d, .convert t u x, ty, pos, af, none⟩ :: l) Q E w :=
  LY.rd _ hd (fun ac ha w hs => by simp [execOp, opd_eval ha hx, run_bytA_str ht he hu (hr w hs)]) k
end Vc
end Go.Proofs.YtmdpmpdlkaogdaaGreatDoor

namespace Go.Proofs.YtmdpmpdlkaogdaaGreatDoor
open Go Go.RowKit Vc
theorem ok_all : FnOk P 63 := ⟨_, Tryz.func63, by kernel_rfl, by kernel_rfl⟩
theorem ze_F3 : zeroB P tF = some (.agg #[.string (S []), .bool false, .slice none 0 0]) := by kernel_rfl
/-- What reading all answers. -/
def AllR (w : World) (rb : Nat) (r : Option Tr.T × Int) (e : Ending) (w' : World) : Prop := Ext (fun k => k = rb) w w' ∧ (r.1 = none → e = .panicked (stop r.2)) ∧
  ∀ l, r.1 = some l → ∃ v K, e = .returned v ∧ w'.ownsRow w.heap.size tF 3 v K.length (K.flatMap fcells) ∧ (∀ x ∈ K, BytA w' x.2.2.1 x.2.2.2) ∧ fm K = l
theorem AllR.fail {w w' : World} {rb : Nat} {r : Option Tr.T × Int} {c : Int} (hx : Ext (fun k => k = rb) w w') (h : r = (none, c)) : AllR w rb r (.panicked (stop c)) w' := by
  subst h
  exact ⟨hx, fun _ => rfl, fun l hl => by cases hl⟩

theorem fbuildS {x : FE} (hv : ∃ a n c, x.2.2.1 = .slice a n c) : (∀ w, (Instr.buildSlice 22 1 #[(0, .agg (fcells x).toArray)]).run P w = .ok (.slice (some ⟨w.heap.size, 0, none⟩) 1 1) (w.alloc (.cells (fcells x).toArray tF))) ∧ ((fcells x).toArray.toList.all (·.oneCell')) = true := by
  obtain ⟨p, d, v, l⟩ := x
  obtain ⟨a, n, c, rfl⟩ := hv
  exact ⟨fun _ => by kernel_rfl, rfl⟩
theorem encB_get {l : List UInt8} {i : Nat} {y : UInt8} (h : l[i]? = some y) : (encB l)[i]? = some (.int .u8 y.toNat) := by simp [encB, h]
theorem BytA.blk0 {w w' : World} {v : Value} (h : BytA w v []) : BytA w' v [] := by
  obtain ⟨a, cap, rfl, h1, h2, h3, hc⟩ := h
  exact ⟨a, cap, rfl, h1, h2, h3, fun j u hj => by cases hj⟩

set_option maxHeartbeats 1000000 in
theorem c_all {w : World} {rb : Nat} {v : Value} {b : List UInt8} (h : RdAt w rb v b) (hl : b.length ≤ 1000000) :
    Calls P 63 #[.pointer (some ⟨rb, 0, none⟩)] w (AllR w rb (Ar.par (b.length + 1) b [])) := by
  generalize hr : Ar.par (b.length + 1) b [] = r
  have hst := h
  refine enter (l := [_]) (n := 62) Tryz.func63 rfl rfl rfl ?_
  refine W.seq ?_
  refine W.reg <| asg rfl rfl <| L.nil ?_
  refine N.th ?_
  refine W.seq ?_
  refine W.reg <| asg rfl rfl <| L.nil ?_
  refine N.th ?_
  refine W.block ?_
  refine W.loop (X := Nat × List UInt8 × Value × List FE × Value) (fun x => [(0, .pointer (some ⟨rb, 0, none⟩)), (3, x.2.2.2.2)])
    (fun x w' => RdAt w' rb x.2.2.1 x.2.1 ∧ Ar.par x.1 x.2.1 (fm x.2.2.2.1) = r ∧ x.2.1.length < x.1 ∧ x.2.1.length ≤ 1000000 ∧ w'.ownsRow w.heap.size tF 3 x.2.2.2.2 x.2.2.2.1.length (x.2.2.2.1.flatMap fcells) ∧ (∀ y ∈ x.2.2.2.1, BytA w' y.2.2.1 y.2.2.2) ∧ x.2.2.2.1.length ≤ 500 ∧ Ext (fun k => k = rb) w w' ∧ x.2.1.length ≤ b.length ∧ x.2.2.1.ownBlock = v.ownBlock ∧ ∀ y ∈ x.2.2.2.1, y.2.2.2 = [] ∨ y.2.2.1.ownBlock = v.ownBlock) (fun x => x.1)
    (b.length + 1, b, v, [], .slice none 0 0) ⟨rfl, rfl, trivial⟩ ⟨h, hr, by dsimp only; omega, hl, own_nil _ _ _ _, by simp, by simp, Ext.refl _ _, Nat.le_refl _, rfl, by simp⟩ ?_
  rintro ⟨f, b1, v1, K, sv⟩ w1 ⟨hrd, hpar, hf, hl1, hown, hbs, hK5, hx1, hlb, hov, hoK⟩
  dsimp only at hrd hpar hf hl1 hown hbs hK5 hlb hov hoK ⊢
  obtain ⟨f, rfl⟩ : ∃ g, f = g + 1 := ⟨f - 1, by omega⟩
  refine W.block ?_
  refine W.seq ?_
  refine W.reg <| mv rfl rfl <| callP (vs := [_, .int .u64 ((1 : Nat) : Int)]) rfl rfl ok_take (c_take 1 hrd (by omega) (by omega)) ?_
  rintro e w2 (⟨h1, rfl, rfl⟩ | ⟨h1, u1, u2, rfl, hu1, hrd2, hx2, -, ho2⟩)
  · refine .inr ⟨_, rfl, ?_⟩
    refine fun _ ha => ⟨ha.1, ?_⟩
    refine AllR.fail hx1 ?_
    rw [← hpar, List.eq_nil_of_length_eq_zero (by omega : b1.length = 0)]; rfl
  have hrbl : rb < w.heap.size := (Array.getElem?_eq_some_iff.1 h.1).1
  have hnb : ∀ k, sv.ownBlock = some k → k ≠ rb := by
    intro k hk hkr
    rcases hown.2 with ⟨e, -⟩ | ⟨g, cap, cur, e, hg, -⟩
    · rw [e] at hk; cases hk
    · rw [e] at hk; have hgk : g = k := Option.some.inj hk; omega
  have hbsx : ∀ {w' : World}, Ext (fun k => k = rb) w1 w' → ∀ x ∈ K, BytA w' x.2.2.1 x.2.2.2 := fun hx y hy => (hbs y hy).rd hrd.1 (by obtain ⟨a, c, e, -⟩ := hrd.2; exact ⟨_, _, _, e⟩) hx
  have own2 := own_ext hown hx2 hnb
  have hbs2 := hbsx hx2
  obtain ⟨k, b1, rfl⟩ : ∃ k l, b1 = k :: l := by
    cases b1 with
    | nil => simp at h1
    | cons k l => exact ⟨k, l, rfl⟩
  refine .inl ⟨_, rfl, ?_⟩
  obtain ⟨bb, bo, bc, e, hcell⟩ := byt_at (j := 0) hu1 (by simp)
  subst e
  refine ixa rfl rfl u_bytes el_bytes.szB rfl (by decide) (by simp) <| ld1 (v := .int .u8 k.toNat) rfl ag_u8 rfl (hcell 0 (by simp)) <| asg rfl rfl <| L.nil ?_
  refine N.th ?_
  refine W.seq ?_
  refine W.seq ?_
  refine W.reg <| mv rfl rfl <| eqlI rfl rfl rfl <| L.nil ?_
  refine N.th ?_
  refine W.cond rfl (fun h => ?_) (fun h => ?_)
  · have hk : k = 255 := by
      have := of_decide_eq_true h
      apply UInt8.toNat_inj.1
      show k.toNat = 255
      omega
    subst hk
    obtain ⟨hc2, hb2⟩ := id hrd2
    obtain ⟨a2, c2, rfl, hbn, hbm, -, -⟩ := id hb2
    have hcc : w2.cell? ⟨rb, 0, none⟩ = some (.slice a2 (List.drop 1 (255 :: b1)).length c2) := cell_of hc2 rfl
    refine W.seq ?_
    refine W.reg <| mv rfl rfl <| nilc rfl rfl <| fad rfl fl_Rd_0 rfl <| ld1 rfl ag_bytes rfl hcc <| lenV (t := 25) rfl u_bytes rfl <| eqlI rfl rfl rfl <| callP (vs := [_, .int .i64 64]) rfl rfl ok_must (c_must _ 64 w2) ?_
    rintro e w3 ⟨rfl, rfl⟩
    by_cases hb0 : b1 = []
    · subst hb0
      refine .inl ⟨_, rfl, ?_⟩
      refine L.nil ?_
      refine N.th ?_
      refine W.seq ?_
      refine W.reg <| mv rfl rfl <| asg rfl rfl <| L.nil ?_
      refine N.th ?_
      refine W.ret ?_
      refine N.rth <| N.rinb <| N.rth <| N.rinb ?_
      refine N.ret1 rfl rfl ?_   -- RETURN
      refine ⟨hx1.trans hx2, fun hn => ?_, fun l hn => ?_⟩
      · rw [← hpar] at hn; simp [Ar.par] at hn
      · rw [← hpar] at hn
        have hn : fm K = l := by simpa [Ar.par] using hn
        exact ⟨sv, K, rfl, own2, hbs2, hn⟩
    · refine .inr ⟨stop 64, ?_, ?_⟩
      · simp [hb0]
      · refine fun _ ha => ⟨ha.1, ?_⟩
        refine AllR.fail (hx1.trans hx2) ?_
        rw [← hpar]; simp [Ar.par, hb0]
  have hk255 : k ≠ 255 := by
    rintro rfl
    simp at h
  have hk8 := k.toNat_lt
  refine W.skip ?_
  refine N.th ?_
  refine W.seq ?_
  have hsv : ∃ a c, sv = .slice a K.length c := by
    rcases hown.2 with ⟨e, h0⟩ | ⟨g, cap, cur, e, -⟩
    · exact ⟨none, 0, by rw [e, h0]⟩
    · exact ⟨_, _, e⟩
  obtain ⟨sa, sc, rfl⟩ := hsv
  by_cases hok : k.toNat ≤ 1 ∧ K.length < 500
  case neg =>
    have hfail : ∀ {w' : World}, w2 = w' → AllR w rb r (.panicked (stop 64)) w' := by
      rintro w' rfl
      refine AllR.fail (hx1.trans hx2) ?_
      rw [← hpar, Ar.par, if_neg hk255, if_pos (by rw [fm, List.length_map]; exact hok)]
    by_cases hk1 : k.toNat ≤ 1
    · refine W.reg <| mv rfl rfl <| leqI rfl rfl rfl <| Vc.bt (by simp; omega) ?_
      refine mv rfl rfl <| L.on rfl rfl rfl <| mv rfl rfl <| L.on rfl rfl rfl <| lenV rfl u_files rfl <| L.on rfl rfl rfl <| lssI rfl rfl rfl <| Vc.bf (by simp; omega) ?_
      refine pickT rfl rfl rfl <| callP (vs := [_, _]) rfl rfl ok_must (c_must _ 64 w2) ?_
      rintro e w3 ⟨rfl, rfl⟩
      exact .inr ⟨_, rfl, fun _ ha => ⟨ha.1, hfail rfl⟩⟩
    · refine W.reg <| mv rfl rfl <| leqI rfl rfl rfl <| Vc.bf (by simp; omega) ?_
      refine mv rfl rfl <| L.off rfl rfl rfl rfl rfl <| L.off rfl rfl rfl rfl rfl <| L.off rfl rfl rfl rfl rfl ?_
      refine pickF rfl rfl rfl <| callP (vs := [_, _]) rfl rfl ok_must (c_must _ 64 w2) ?_
      rintro e w3 ⟨rfl, rfl⟩
      exact .inr ⟨_, rfl, fun _ ha => ⟨ha.1, hfail rfl⟩⟩
  refine W.reg <| mv rfl rfl <| leqI rfl rfl rfl <| Vc.bt (by simp; omega) ?_
  refine mv rfl rfl <| L.on rfl rfl rfl <| mv rfl rfl <| L.on rfl rfl rfl <| lenV rfl u_files rfl <| L.on rfl rfl rfl <| lssI rfl rfl rfl <| Vc.bt (by simp; omega) ?_
  refine pickT rfl rfl rfl <| callP (vs := [_, _]) rfl rfl ok_must (c_must _ 64 w2) ?_
  rintro e w3 ⟨rfl, rfl⟩
  refine .inl ⟨_, rfl, ?_⟩
  refine L.nil ?_
  refine N.th ?_
  refine W.seq ?_
  refine W.reg <| mv rfl rfl <| mv rfl rfl <| callP (vs := [_, _]) rfl rfl ok_rnumber (c_rnumber 2 hrd2 (by omega) (by simp at hl1 ⊢; omega)) ?_
  rintro e w3 (⟨h3, rfl, rfl⟩ | ⟨h3, rfl, u3, hrd3, hx3, ho3⟩)
  · refine .inr ⟨_, rfl, ?_⟩
    refine fun _ ha => ⟨ha.1, ?_⟩
    refine AllR.fail (hx1.trans hx2) ?_
    rw [← hpar]
    simp only [List.drop_one, List.tail_cons] at h3
    simp [Ar.par, hk255, hok, fm, h3]
  refine .inl ⟨_, rfl, ?_⟩
  simp only [List.drop_one, List.tail_cons] at h3 hrd3 ⊢
  obtain ⟨m, hm⟩ : ∃ m, m = Ar.val (b1.take 2) := ⟨_, rfl⟩
  have hmb : m < 65536 := by
    have := Ar.val_lt (b1.take 2)
    rw [show (b1.take 2).length = 2 by rw [List.length_take]; omega] at this
    omega
  rw [← hm]
  refine callP (vs := [_, _]) rfl rfl ok_take (c_take m hrd3 (by omega) (by simp at hl1 ⊢; omega)) ?_
  rintro e w4 (⟨h4, rfl, rfl⟩ | ⟨h4, u4, u5, rfl, hu4, hrd4, hx4, -, ho4⟩)
  · refine .inr ⟨_, rfl, ?_⟩
    refine fun _ ha => ⟨ha.1, ?_⟩
    refine AllR.fail ((hx1.trans hx2).trans hx3) ?_
    rw [← hpar]
    rw [hm] at h4
    have h5 : ¬ b1.length < 2 := by omega
    simp [Ar.par, hk255, hok, fm, h5]
    rw [List.length_drop] at h4
    intro h6; omega
  refine .inl ⟨_, rfl, ?_⟩
  refine cvtBA (a := (b1.drop 2).take m) rfl u_bytes u_u8 u_str rfl (Kn.here hu4) ?_
  refine mv rfl rfl <| eqlI rfl rfl rfl ?_
  obtain ⟨bd, hbd⟩ : ∃ bd : Bool, bd = decide ((k.toNat : Int) = 1) := ⟨_, rfl⟩
  obtain ⟨p, hp⟩ : ∃ p, p = (b1.drop 2).take m := ⟨_, rfl⟩
  rw [← hbd, ← hp]
  have hparB := hpar
  have hlA : ¬ b1.length < 2 := by omega
  have hlB : ¬ (b1.drop 2).length < m := by omega
  have hcA : ¬ ¬ (k.toNat ≤ 1 ∧ (fm K).length < 500) := fun hc => hc (by rw [fm, List.length_map]; exact hok)
  rw [Ar.par, if_neg hk255, if_neg hcA, if_neg hlA, ← hm, if_neg hlB, ← hp] at hparB
  refine bld (vs := #[(0, .string (S p)), (1, .bool bd)]) (v := .agg #[.string (S p), .bool bd, .slice none 0 0]) rfl rfl (fun _ => by kernel_rfl) <| new ze_F3 rfl <|
    stR (cells := #[.string (S p), .bool bd, .slice none 0 0]) rfl rfl sz_File rfl (heap_new _ _) rfl <| L.nil ?_
  refine N.th ?_
  refine W.seq ?_
  obtain ⟨w5, hw5⟩ : ∃ w5, w5 = (w4.alloc (.cells (Value.cells (.agg #[.string (S []), .bool false, .slice none 0 0])) tF)).setRow w4.heap.size #[.string (S p), .bool bd, .slice none 0 0] := ⟨_, rfl⟩
  obtain ⟨fb, hfb⟩ : ∃ f, f = w4.heap.size := ⟨_, rfl⟩
  have hx45 : Ext none_ w4 w5 := by rw [hw5]; exact (Ext.alloc none_ _ _).trans' (Ext.setRow (S := fun k => k = w4.heap.size) _ (fun _ => rfl) _) (fun i hi e => by omega)
  have hf5 : w5.heap[fb]? = some (.cells #[.string (S p), .bool bd, .slice none 0 0] tF (0, 0)) := by rw [hw5, hfb]; exact setRow_heap _ _ _ _ _ _ (heap_new _ _)
  rw [show (w4.alloc (.cells (Value.cells (.agg #[.string (S []), .bool false, .slice none 0 0])) tF)).setRow w4.heap.size #[.string (S p), .bool bd, .slice none 0 0] = w5 from hw5.symm, ← hfb]
  refine W.reg <| fad rfl fl_File_0 rfl <| ld1 (v := .string (S p)) rfl ag_str rfl (cell_of hf5 rfl) <| call (vs := [_]) rfl rfl ok_Clean (c_Clean p _) ?_
  rintro e w6 ⟨rfl, hx56⟩
  refine ⟨_, rfl, ?_⟩
  refine mv rfl rfl <| ext rfl rfl rfl <| ext rfl rfl rfl <| asg rfl rfl <| asg rfl rfl <| L.nil ?_
  refine N.th ?_
  refine W.seq ?_
  refine W.reg <| mv rfl rfl <| neqI rfl rfl rfl <| callP (vs := [_, _]) rfl rfl ok_must (c_must _ 51 w6) ?_
  rintro e w7 ⟨rfl, rfl⟩
  have hx6 : Ext (fun k => k = rb) w w6 := ((((hx1.trans hx2).trans hx3).trans hx4).trans' hx45 (fun _ _ h => h.elim)).trans' hx56 (fun _ _ h => h.elim)
  by_cases h51 : (Sp.clean p).2 = 51
  · refine .inr ⟨stop 51, by simp [h51], ?_⟩
    refine fun _ ha => ⟨ha.1, ?_⟩
    refine AllR.fail hx6 ?_
    rw [← hparB, if_pos h51]
  refine .inl ⟨_, if_pos (by simp [h51]), ?_⟩
  refine L.nil ?_
  refine N.th ?_
  refine W.seq ?_
  refine W.reg <| mv rfl rfl <| eqlI rfl rfl rfl <| callP (vs := [_, _]) rfl rfl ok_must (c_must _ 64 w6) ?_
  rintro e w7 ⟨rfl, rfl⟩
  by_cases h0 : (Sp.clean p).2 = 0
  case neg =>
    refine .inr ⟨stop 64, by simp [h0], ?_⟩
    refine fun _ ha => ⟨ha.1, ?_⟩
    refine AllR.fail hx6 ?_
    rw [← hparB, if_neg h51, if_pos h0]
  refine .inl ⟨_, if_pos (by simp [h0]), ?_⟩
  refine L.nil ?_
  refine N.th ?_
  have hf6 : w6.heap[fb]? = some (.cells #[.string (S p), .bool bd, .slice none 0 0] tF (0, 0)) := hx56.obj hf5 id
  have hoB : u5.ownBlock = v.ownBlock := ho4.trans (ho3.trans (ho2.trans hov))
  refine W.seqM (fun E' w' => ∃ (bv : Value) (bl : List UInt8) (v9 : Value) (b9 : List UInt8), E' = [(0, .pointer (some ⟨rb, 0, none⟩)), (3, .slice sa K.length sc), (5, .pointer (some ⟨fb, 0, none⟩))] ∧ w'.heap[fb]? = some (.cells #[.string (S p), .bool bd, bv] tF (0, 0)) ∧ BytA w' bv bl ∧ (bl = [] ∨ bv.ownBlock = v.ownBlock) ∧ v9.ownBlock = v.ownBlock ∧ RdAt w' rb v9 b9 ∧ Ar.par f b9 (fm K ++ [(p, bd, bl)]) = r ∧ b9.length < (k :: b1).length ∧ Ext (fun i => i = rb) w w' ∧ Ext (fun i => i = rb) w1 w') ?_ ?_   -- CUT
  · refine W.seq ?_
    refine W.reg <| fad rfl fl_File_1 rfl <| ld1 rfl ag_bool rfl (cell_of hf6 rfl) <| notB rfl rfl <| L.nil ?_
    refine N.th ?_
    refine W.cond rfl (fun hb => ?_) (fun hb => ?_)
    · have hbt : bd = false := by simpa using hb
      have hk1 : k ≠ 1 := by
        rintro rfl
        rw [hbd] at hbt
        simp at hbt
      rw [if_neg h51, if_neg (fun hc => hc h0), if_neg hk1] at hparB
      have hx46 := hx45.trans hx56
      have hr6 : RdAt w6 rb u5 ((b1.drop 2).drop m) := ⟨hx46.obj hrd4.1 id, hrd4.2.ext0 hx46⟩
      refine W.reg <| mv rfl rfl <| mv rfl rfl <| callP (vs := [_, _]) rfl rfl ok_rnumber (c_rnumber 8 hr6 (by omega) (by simp at hl1 ⊢; omega)) ?_
      rintro e w7 (⟨h8, rfl, rfl⟩ | ⟨h8, rfl, u7, hrd7, hx7, ho7⟩)
      · refine .inr ⟨_, rfl, ?_⟩
        refine fun _ ha => ⟨ha.1, ?_⟩
        refine AllR.fail hx6 ?_
        rw [← hparB, if_pos h8]
      refine .inl ⟨_, rfl, ?_⟩
      obtain ⟨q, hq⟩ : ∃ q, q = Ar.val (((b1.drop 2).drop m).take 8) := ⟨_, rfl⟩
      have hqb : q < 18446744073709551616 := by
        have := Ar.val_lt (((b1.drop 2).drop m).take 8)
        rw [show (((b1.drop 2).drop m).take 8).length = 8 by rw [List.length_take]; omega] at this
        rw [hq]
        exact Nat.lt_of_lt_of_le this (by decide)
      rw [← hq]
      refine callP (vs := [_, _]) rfl rfl ok_take (c_take q hrd7 hqb (by simp at hl1 ⊢; omega)) ?_
      rintro e w8 (⟨h9, rfl, rfl⟩ | ⟨h9, u8, u9, rfl, hu8, hrd8, hx8, ho8, ho9⟩)
      · refine .inr ⟨_, rfl, ?_⟩
        refine fun _ ha => ⟨ha.1, ?_⟩
        refine AllR.fail (hx6.trans hx7) ?_
        rw [← hparB, if_neg (by omega), ← hq, if_pos h9]
      refine .inl ⟨_, rfl, ?_⟩
      have hfne : fb ≠ rb := by
        intro e; have := hx1.size; have := hx2.size; have := hx3.size; have := hx4.size; omega
      have hf8 : w8.heap[fb]? = some (.cells #[.string (S p), .bool bd, .slice none 0 0] tF (0, 0)) := (hx7.trans hx8).obj hf6 hfne
      obtain ⟨ua, uc, rfl, -, -, -, -⟩ := id hu8
      refine fad rfl fl_File_2 rfl <| st1 rfl rfl sz_bytes rfl hf8 rfl <| L.nil ?_
      have hx89 : Ext (fun i => i = fb) w8 (w8.setCell ⟨fb, 0 + 2, none⟩ (.slice ua (List.take q (((b1.drop 2).drop m).drop 8)).length uc)) := Ext.setCell (S := fun i => i = fb) _ (fun _ => rfl) _
      have hf9 := setCell_heap (i := 0 + 2) hf8 (.slice ua (List.take q (((b1.drop 2).drop m).drop 8)).length uc)
      generalize hw9 : w8.setCell _ _ = w9 at hx89 hf9 ⊢
      have hnf : ∀ u ∈ (#[.string (S p), .bool bd, .slice none 0 0] : Array Value).toList, ∀ κ i, u ≠ .int κ i := by
        intro u hu κ i e
        subst e
        simp at hu
      have hub : BytA w9 (.slice ua (List.take q (((b1.drop 2).drop m).drop 8)).length uc) (List.take q (((b1.drop 2).drop m).drop 8)) := hu8.off hf8 hnf hx89
      have hr9 : RdAt w9 rb u9 (List.drop q (((b1.drop 2).drop m).drop 8)) := ⟨hx89.obj hrd8.1 (fun e => hfne e.symm), hrd8.2.off hf8 hnf hx89⟩
      have hfn : ∀ {v : World}, Ext (fun i => i = rb) w v → v.heap.size ≤ fb → ∀ i, i < v.heap.size → i = fb → i = rb := fun _ h i hi e => by omega
      have hfw : w4.heap.size = fb := hfb.symm
      have hx09 : Ext (fun i => i = rb) w w9 := ((hx6.trans hx7).trans hx8).trans' hx89 (fun i hi e => by
        have := (((hx1.trans hx2).trans hx3).trans hx4).size; omega)
      have hx19 : Ext (fun i => i = rb) w1 w9 := ((((((hx2.trans hx3).trans hx4).trans' hx46 (fun _ _ h => h.elim)).trans hx7).trans hx8)).trans' hx89 (fun i hi e => by
        have := ((hx2.trans hx3).trans hx4).size; omega)
      rw [if_neg (by omega), ← hq, if_neg (by omega)] at hparB
      refine N.th (N.meet [(0, .pointer (some ⟨rb, 0, none⟩)), (3, .slice sa K.length sc), (5, .pointer (some ⟨fb, 0, none⟩))] ⟨rfl, rfl, rfl, trivial⟩ ⟨_, _, u9, _, rfl, by rw [hf9]; rfl, hub, ?_, ?_, hr9, ?_, ?_, hx09, hx19⟩)
      · exact .inr (ho8.trans (ho7.trans hoB))
      · exact ho9.trans (ho7.trans hoB)
      · rw [hbt]; exact hparB
      · simp; omega
    · refine W.skip ?_
      have hbt : bd = true := by simpa using hb
      have hk1 : k = 1 := by
        rw [hbd] at hbt
        have := of_decide_eq_true hbt
        apply UInt8.toNat_inj.1
        show k.toNat = 1
        omega
      rw [if_neg h51, if_neg (fun hc => hc h0), if_pos hk1] at hparB
      have hx46 := hx45.trans hx56
      have hr6 : RdAt w6 rb u5 ((b1.drop 2).drop m) := ⟨hx46.obj hrd4.1 id, hrd4.2.ext0 hx46⟩
      have hx16 : Ext (fun i => i = rb) w1 w6 := (((hx2.trans hx3).trans hx4).trans' hx46 (fun _ _ h => h.elim))
      refine N.th (N.meet [(0, .pointer (some ⟨rb, 0, none⟩)), (3, .slice sa K.length sc), (5, .pointer (some ⟨fb, 0, none⟩))] ⟨rfl, rfl, rfl, trivial⟩ ⟨.slice none 0 0, [], u5, _, rfl, hf6, (Row.nil w6 tB 1).arg, .inl rfl, hoB, hr6, ?_, ?_, hx6, hx16⟩)
      · rw [hbt]; exact hparB
      · simp; omega
  · rintro E w7 ⟨bv, bl, v9, b9, rfl, hf7, hbv, hobv, hov9, hr9, hpar9, hlt9, hx07, hx17⟩
    obtain ⟨ba, bc, rfl, -, -, -, -⟩ := id hbv
    obtain ⟨y, hy⟩ : ∃ y : FE, y = (p, bd, .slice ba bl.length bc, bl) := ⟨_, rfl⟩
    have hf7' : w7.heap[fb]? = some (.cells (fcells y).toArray tF (0, 0)) := by rw [hf7, hy]; rfl
    have own7 := own_ext hown hx17 hnb
    obtain ⟨hb1, hb2⟩ := fbuildS (x := y) (by rw [hy]; exact ⟨_, _, _, rfl⟩)
    have hK6 : K.length + 1 ≤ 500 := by have := hok.2; omega
    refine W.reg <| mv rfl rfl <| ldk (cs := fcells y) rfl ag_File sz_File rfl rfl (fun i u hi => row_cells hf7' i u hi) <|
      push1 (cs := (fcells y).toArray) rfl rfl rfl rfl hb1 el_files rfl hb2 own7 (by omega) (by simp only [maxLen]; omega) hx07.size fun v' w9 hown9 hx9 => ?_
    refine asg rfl rfl <| L.nil ?_
    have hvb : ∀ k, v.ownBlock = some k → k < w.heap.size := by
      intro k hk
      have hbne : 0 < b.length := by simp at hlb; omega
      obtain ⟨bb, bo, bc, e, -⟩ := byt_at (j := 0) hst.2 hbne
      obtain ⟨a', c', e', -, -, -, hc⟩ := id hst.2
      obtain ⟨ad, e2, hlt, -⟩ := hc 0 _ (encB_get (by rw [List.getElem?_eq_getElem hbne]))
      rw [e'] at hk
      rw [e2] at hk
      cases hk
      exact hlt
    have hxo : ∀ k, v.ownBlock = some k → ¬ ((Value.slice sa K.length sc).ownBlock = some k) := by
      intro k hk hk2
      have := hvb k hk
      have := own_new own7 k hk2
      omega
    have hx79 : Ext (fun i => i = rb) w w9 := hx07.trans' hx9 (fun i hi hk => by have := own_new own7 i hk; omega)
    have hr79 : RdAt w9 rb v9 b9 := ⟨hx9.obj hr9.1 (fun hk => by have := own_new own7 rb hk; omega), hr9.2.blk hx9 (fun k hk _ => hxo k (hov9 ▸ hk))⟩
    have hkb : ∀ {z : FE}, (z.2.2.2 = [] ∨ z.2.2.1.ownBlock = v.ownBlock) → BytA w7 z.2.2.1 z.2.2.2 → BytA w9 z.2.2.1 z.2.2.2 := fun {z} hz hb => by
      rcases hz with hz | hz
      · rw [hz] at hb ⊢
        exact hb.blk0
      · exact hb.blk hx9 (fun k hk _ => hxo k (hz ▸ hk))
    refine N.inb ?_
    refine N.th (N.round (x := (f, b9, v9, K ++ [y], v')) ⟨rfl, rfl, trivial⟩ ⟨hr79, ?_, ?_, ?_, ?_, ?_, ?_, hx79, ?_, hov9, ?_⟩ (by dsimp only; omega))   -- ROUND
    · simp only [fm, List.map_append, hy]
      exact hpar9
    · dsimp only; omega
    · dsimp only; omega
    · dsimp only
      rw [fcells_snoc, List.length_append]; exact hown9
    · intro z hz
      rcases List.mem_append.1 hz with hz | hz
      · exact hkb (hoK z hz) (hbsx hx17 z hz)
      · simp at hz
        rw [hz]
        refine hkb ?_ ?_
        · rw [hy]; exact hobv
        · rw [hy]; exact hbv
    · simp; omega
    · dsimp only; omega
    · intro z hz
      rcases List.mem_append.1 hz with hz | hz
      · exact hoK z hz
      · simp at hz
        rw [hz, hy]; exact hobv
end Go.Proofs.YtmdpmpdlkaogdaaGreatDoor
