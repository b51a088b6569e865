/- Lists of files that came in. The walk of haversackhelp.LightFiles. -/
import Derived.Test.YtmdpmpdlkaogdaaGreatDoorRt
import Derived.Test.YtmdpmpdlkaogdaaGreatDoorTj
namespace Go.Proofs.YtmdpmpdlkaogdaaGreatDoor
open Go Go.RowKit Go.ChangeShapes Go.WideShapes Vc

/-- A list of files that may be read. -/
structure FilesA (w : World) (v : Value) (E : List FE) : Prop where
  row : RowA w v E.length (E.flatMap fcells)
  bytes : ∀ x ∈ E, BytA w x.2.2.1 x.2.2.2
theorem FilesA.ext0 {w w' : World} {v : Value} {E : List FE} (h : FilesA w v E) (hx : Ext none_ w w') : FilesA w' v E := ⟨h.row.ext0 hx, fun x hm => (h.bytes x hm).ext0 hx⟩
theorem FilesAt.arg {w : World} {v : Value} {E : List FE} (h : FilesAt w v E) : FilesA w v E := ⟨h.row.arg, fun x hx => (h.bytes x hx).arg⟩
theorem FilesA.plain {w : World} {v : Value} {E : List FE} {x0 : FE} (h : FilesA w v E) (hm : x0 ∈ E) : ∃ b o c, v = .slice (some ⟨b, o, none⟩) E.length c ∧ b < w.heap.size ∧ ∀ (i : Nat) x, E[i]? = some x →
    w.cell? ⟨b, o + i * 3 + 0, none⟩ = some (.string (S x.1)) ∧ w.cell? ⟨b, o + i * 3 + 1, none⟩ = some (.bool x.2.1) ∧ w.cell? ⟨b, o + i * 3 + 2, none⟩ = some x.2.2.1 := by
  obtain ⟨b, o, c, rfl, -, -, hlt, hc⟩ := h.row.plain (flat_ne fcells_len hm)
  refine ⟨b, o, c, rfl, hlt, fun i x hi => ?_⟩
  have hg : ∀ j, j < 3 → (E.flatMap fcells)[i * 3 + j]? = (fcells x)[j]? := fun j hj => by
    rw [flat_get fcells 3 fcells_len (by omega), show (i * 3 + j) / 3 = i by omega, show (i * 3 + j) % 3 = j by omega, hi]; rfl
  refine ⟨?_, ?_, ?_⟩
  · rw [Nat.add_assoc]; exact hc _ _ (hg 0 (by omega))
  · rw [Nat.add_assoc]; exact hc _ _ (hg 1 (by omega))
  · rw [Nat.add_assoc]; exact hc _ _ (hg 2 (by omega))
theorem FilesA.cell {w : World} {b o n c i : Nat} {E : List FE} {x : FE} (h : FilesA w (.slice (some ⟨b, o, none⟩) n c) E) (hi : E[i]? = some x) :
    w.cell? ⟨b, o + i * 3 + 0, none⟩ = some (.string (S x.1)) ∧ w.cell? ⟨b, o + i * 3 + 1, none⟩ = some (.bool x.2.1) ∧ w.cell? ⟨b, o + i * 3 + 2, none⟩ = some x.2.2.1 := by
  obtain ⟨b', o', c', e, -, hc⟩ := h.plain (List.mem_of_getElem? hi)
  cases e
  exact hc i x hi

section
variable {H : Type} {enc : TypeId × Value → H} {w : World} {base : Nat} {spare : Nat → Bool} {held : Bool} {fuel : Nat} {cs : List Value} {x : DataW H × List MemPlace}
theorem open_bool {e : TypeId} (he : P.underlying e = some .bool) (h : DataW.trod enc P w base spare held fuel e cs = some x) : ∃ b : Bool, cs = [.bool b] := by
  obtain ⟨b, h1, -⟩ := DataW.trod_bool he h
  exact ⟨b, h1⟩
theorem open_file (h : DataW.trod enc P w base spare held fuel tF cs = some x) : ∃ y : FE, cs = fcells y ∧ BytA w y.2.2.1 y.2.2.2 := by
  obtain ⟨xs, n, -, -, hl, hxl, hf⟩ := DataW.trod_struct Tryz.underlying45 h
  have hc3 : P.cellsOf tF = 3 := by kernel_rfl
  have hbo : P.cellsOf 4 = 1 := by kernel_rfl
  have hst : P.cellsOf 9 = 1 := by kernel_rfl
  have hby : P.cellsOf 25 = 1 := by kernel_rfl
  have hu8 : P.cellsOf 5 = 1 := by kernel_rfl
  rw [show Tryz.prog.cellsOf 45 = 3 from hc3] at hl
  have hxl3 : xs.length = 3 := hxl
  obtain ⟨c0, c1, c2, rfl⟩ : ∃ a b c, cs = [a, b, c] := by
    clear h hf
    match cs, hl with
    | [a, b, c], _ => exact ⟨a, b, c, rfl⟩
  have get : ∀ {i : Nat}, i < 3 → ∃ y, xs[i]? = some y := fun {i} hi => ⟨_, List.getElem?_eq_getElem (by omega)⟩
  obtain ⟨y0, hy0⟩ := get (i := 0) (by omega)
  obtain ⟨y1, hy1⟩ := get (i := 1) (by omega)
  obtain ⟨y2, hy2⟩ := get (i := 2) (by omega)
  have h0 : DataW.trod enc Tryz.prog w base spare held n 9 (([c0, c1, c2].drop 0).take (Tryz.prog.cellsOf 9)) = xs[0]? := hf 0 _ rfl
  have h1 : DataW.trod enc Tryz.prog w base spare held n 4 (([c0, c1, c2].drop 1).take (Tryz.prog.cellsOf 4)) = xs[1]? := hf 1 _ rfl
  have h2 : DataW.trod enc Tryz.prog w base spare held n 25 (([c0, c1, c2].drop 2).take (Tryz.prog.cellsOf 25)) = xs[2]? := hf 2 _ rfl
  rw [hy0, show Tryz.prog.cellsOf 9 = 1 from hst] at h0
  rw [hy1, show Tryz.prog.cellsOf 4 = 1 from hbo] at h1
  rw [hy2, show Tryz.prog.cellsOf 25 = 1 from hby] at h2
  obtain ⟨p, e0⟩ := open_str u_str h0
  obtain ⟨d, e1⟩ := open_bool Tryz.underlying4 h1
  obtain ⟨v, l, e2, hb⟩ := open_bytesA u_bytes u_u8 hu8 h2
  simp at e0 e1 e2
  exact ⟨(p, d, v, l), by rw [e0, e1, e2]; rfl, hb⟩
/-- A list of files. -/
theorem open_filesA (h : DataW.trod enc P w base spare held fuel 22 cs = some x) : ∃ v, ∃ E : List FE, cs = [v] ∧ RowA w v E.length (E.flatMap fcells) ∧ ∀ y ∈ E, BytA w y.2.2.1 y.2.2.2 := by
  have hc3 : P.cellsOf tF = 3 := by kernel_rfl
  rcases open_els u_files hc3 h with rfl | ⟨a, len, cap, n, rfl, hl, hm, hel⟩
  · exact ⟨_, [], rfl, (Row.nil w tB 1).arg, fun p h => by cases h⟩
  · obtain ⟨E, hEl, hEr⟩ := list_of (α := FE) len (fun i y => (∀ j u, (fcells y)[j]? = some u → w.cell? (a.add (i * 3 + j)) = some u) ∧ BytA w y.2.2.1 y.2.2.2) (fun i hi => by
      obtain ⟨csi, z, hz, hl2, hc⟩ := hel i hi
      obtain ⟨y, rfl, hb⟩ := open_file hz
      exact ⟨y, hc, hb⟩)
    refine ⟨_, E, rfl, ?_, fun y hy => ?_⟩
    · rw [hEl]
      exact rowA_of (fun y _ => fcells_len y) hl hm fun i y hi => (hEr i y hi).1
    · obtain ⟨j, hj⟩ := List.getElem?_of_mem hy
      exact (hEr j y hj).2
end

theorem ok_LightFiles : FnOk P 17 := ⟨_, Tryz.func17, by kernel_rfl, by kernel_rfl⟩
def lightF (x : FE) : Bool := decide (x.1.length ≤ 300) && decide (x.2.2.2.length ≤ 500)
def lightL (E : List FE) : Bool := decide (E.length ≤ 20) && E.all lightF
theorem lightL_spec {E : List FE} (h : lightL E = true) : E.length ≤ 20 ∧ ∀ x ∈ E, x.1.length ≤ 300 ∧ x.2.2.2.length ≤ 500 := by
  simp only [lightL, Bool.and_eq_true, decide_eq_true_eq, List.all_eq_true, lightF] at h
  exact h
theorem c_LightFiles {w : World} {v : Value} {E : List FE} (h : FilesA w v E) : Calls P 17 #[v] w fun e w' => e = .returned (.bool (lightL E)) ∧ w = w' := by
  obtain ⟨a, c, rfl, hn, hmx, -, -⟩ := id h.row
  refine enter (l := [_]) (n := 29) Tryz.func17 rfl rfl rfl ?_
  refine W.seq ?_
  refine W.reg <| asg rfl rfl <| L.nil ?_
  refine N.th ?_
  refine W.seq ?_
  refine W.seq ?_
  refine W.reg <| mv rfl rfl <| lenV rfl u_files rfl <| gtrI rfl rfl rfl <| L.nil ?_
  refine N.th ?_
  refine W.cond rfl (fun h => ?_) (fun h => ?_)
  · refine W.seq ?_
    refine W.reg <| asg rfl rfl <| L.nil ?_
    refine N.th ?_
    refine W.ret ?_
    refine N.rth ?_
    refine N.ret1 rfl rfl ?_   -- RETURN
    have : ¬ E.length ≤ 20 := by simp at h; omega
    exact ⟨by simp [lightL, this], rfl⟩
  have h40 : E.length ≤ 20 := by simp at h; omega
  refine W.skip ?_
  refine N.th ?_
  refine W.seq ?_
  refine W.seq ?_
  refine W.reg <| asg rfl rfl <| L.nil ?_
  refine N.th ?_
  refine W.block ?_
  refine W.loop (X := Nat) (fun i => [(0, .slice a E.length c), (3, .int .i64 i)]) (fun i w' => i ≤ E.length ∧ w' = w ∧ (E.take i).all lightF = true) (fun i => E.length - i) 0 ⟨rfl, rfl, trivial⟩ ⟨by omega, rfl, rfl⟩ ?_
  rintro i w1 ⟨hi, rfl, hall⟩
  refine W.seq ?_
  refine W.seq ?_
  refine W.reg <| mv rfl rfl <| mv rfl rfl <| lenV rfl u_files rfl <| lssI rfl rfl rfl <| L.nil ?_
  refine N.th ?_
  refine W.cond rfl (fun h => ?_) (fun h => ?_)
  · refine W.skip ?_
    refine N.th ?_
    have hi1 : i < E.length := by simp at h; omega
    obtain ⟨x, hxe⟩ : ∃ x, E[i]? = some x := ⟨_, List.getElem?_eq_getElem hi1⟩
    obtain ⟨b, o, c', hv, -, hcell⟩ := FilesA.plain ‹FilesA w1 _ E› (List.mem_of_getElem? hxe)
    cases hv
    obtain ⟨hc0, -, hc2⟩ := hcell i x hxe
    obtain ⟨ba, bc, hbv, -⟩ := (‹FilesA w1 _ E›).bytes x (List.mem_of_getElem? hxe)
    rw [hbv] at hc2
    refine W.seq ?_
    refine W.block ?_
    refine W.seqM (fun E' w' => E' = [(28, .bool (!lightF x)), (0, .slice (some ⟨b, o, none⟩) E.length c), (3, .int .i64 i)] ∧ w' = w1) ?_ ?_
    · refine W.reg ?_
      (repeat (first | refine mv rfl rfl ?_ | refine asg rfl rfl ?_ | refine L.off rfl rfl rfl rfl rfl ?_ | refine L.offU rfl rfl rfl rfl ?_ | refine L.on rfl rfl rfl ?_ | refine pickT rfl rfl rfl ?_ | refine pickF rfl rfl rfl ?_ | refine ext rfl rfl rfl ?_ | refine nilc rfl rfl ?_ | refine lenV (t := 46) rfl u_strs rfl ?_ | refine lenV (t := 25) rfl u_bytes rfl ?_ | refine lenV (t := 22) rfl u_files rfl ?_ | refine lenS (t := 9) rfl u_str rfl ?_ | refine eqlI rfl rfl rfl ?_ | refine neqI rfl rfl rfl ?_ | refine lssI rfl rfl rfl ?_ | refine leqI rfl rfl rfl ?_ | refine gtrI rfl rfl rfl ?_ | refine geqI rfl rfl rfl ?_))
      refine ixa rfl rfl u_files sz_File rfl (by omega) (by omega) <| fad rfl fl_File_0 rfl <| ld1 rfl ag_str rfl hc0 ?_
      (repeat (first | refine mv rfl rfl ?_ | refine asg rfl rfl ?_ | refine L.off rfl rfl rfl rfl rfl ?_ | refine L.offU rfl rfl rfl rfl ?_ | refine L.on rfl rfl rfl ?_ | refine pickT rfl rfl rfl ?_ | refine pickF rfl rfl rfl ?_ | refine ext rfl rfl rfl ?_ | refine nilc rfl rfl ?_ | refine lenV (t := 46) rfl u_strs rfl ?_ | refine lenV (t := 25) rfl u_bytes rfl ?_ | refine lenV (t := 22) rfl u_files rfl ?_ | refine lenS (t := 9) rfl u_str rfl ?_ | refine eqlI rfl rfl rfl ?_ | refine neqI rfl rfl rfl ?_ | refine lssI rfl rfl rfl ?_ | refine leqI rfl rfl rfl ?_ | refine gtrI rfl rfl rfl ?_ | refine geqI rfl rfl rfl ?_))
      by_cases h1 : x.1.length ≤ 300
      · refine Vc.bf (by simp; omega) ?_
        (repeat (first | refine mv rfl rfl ?_ | refine asg rfl rfl ?_ | refine L.off rfl rfl rfl rfl rfl ?_ | refine L.offU rfl rfl rfl rfl ?_ | refine L.on rfl rfl rfl ?_ | refine pickT rfl rfl rfl ?_ | refine pickF rfl rfl rfl ?_ | refine ext rfl rfl rfl ?_ | refine nilc rfl rfl ?_ | refine lenV (t := 46) rfl u_strs rfl ?_ | refine lenV (t := 25) rfl u_bytes rfl ?_ | refine lenV (t := 22) rfl u_files rfl ?_ | refine lenS (t := 9) rfl u_str rfl ?_ | refine eqlI rfl rfl rfl ?_ | refine neqI rfl rfl rfl ?_ | refine lssI rfl rfl rfl ?_ | refine leqI rfl rfl rfl ?_ | refine gtrI rfl rfl rfl ?_ | refine geqI rfl rfl rfl ?_))
        refine ixa rfl rfl u_files sz_File rfl (by omega) (by omega) <| L.on rfl rfl rfl <| fad rfl fl_File_2 rfl <| L.on rfl rfl rfl <| ld1 rfl ag_bytes rfl hc2 ?_
        (repeat (first | refine mv rfl rfl ?_ | refine asg rfl rfl ?_ | refine L.off rfl rfl rfl rfl rfl ?_ | refine L.offU rfl rfl rfl rfl ?_ | refine L.on rfl rfl rfl ?_ | refine pickT rfl rfl rfl ?_ | refine pickF rfl rfl rfl ?_ | refine ext rfl rfl rfl ?_ | refine nilc rfl rfl ?_ | refine lenV (t := 46) rfl u_strs rfl ?_ | refine lenV (t := 25) rfl u_bytes rfl ?_ | refine lenV (t := 22) rfl u_files rfl ?_ | refine lenS (t := 9) rfl u_str rfl ?_ | refine eqlI rfl rfl rfl ?_ | refine neqI rfl rfl rfl ?_ | refine lssI rfl rfl rfl ?_ | refine leqI rfl rfl rfl ?_ | refine gtrI rfl rfl rfl ?_ | refine geqI rfl rfl rfl ?_))
        refine L.nil <| N.th (N.meet [(28, _), (0, _), (3, _)] ⟨rfl, rfl, rfl, trivial⟩ ⟨?_, rfl⟩)
        have : (!lightF x) = decide ((500 : Int) < (x.2.2.2.length : Int)) := by
          simp only [lightF, h1, decide_true, Bool.true_and]
          rw [← decide_not]
          apply decide_eq_decide.2
          omega
        rw [this]
      · refine Vc.bt (by simp; omega) ?_
        (repeat (first | refine mv rfl rfl ?_ | refine asg rfl rfl ?_ | refine L.off rfl rfl rfl rfl rfl ?_ | refine L.offU rfl rfl rfl rfl ?_ | refine L.on rfl rfl rfl ?_ | refine pickT rfl rfl rfl ?_ | refine pickF rfl rfl rfl ?_ | refine ext rfl rfl rfl ?_ | refine nilc rfl rfl ?_ | refine lenV (t := 46) rfl u_strs rfl ?_ | refine lenV (t := 25) rfl u_bytes rfl ?_ | refine lenV (t := 22) rfl u_files rfl ?_ | refine lenS (t := 9) rfl u_str rfl ?_ | refine eqlI rfl rfl rfl ?_ | refine neqI rfl rfl rfl ?_ | refine lssI rfl rfl rfl ?_ | refine leqI rfl rfl rfl ?_ | refine gtrI rfl rfl rfl ?_ | refine geqI rfl rfl rfl ?_))
        exact L.nil <| N.th (N.meet [(28, .bool true), (0, _), (3, _)] ⟨rfl, rfl, rfl, trivial⟩ ⟨by simp [lightF, h1], rfl⟩)
    rintro E' w2 ⟨rfl, rfl⟩
    refine W.cond rfl (fun h => ?_) (fun h => ?_)
    · refine W.seq ?_
      refine W.reg <| asg rfl rfl <| L.nil ?_
      refine N.th ?_
      refine W.ret ?_
      refine N.rinb <| N.rth <| N.rth <| N.rinb <| N.rth ?_
      refine N.ret1 rfl rfl ?_   -- RETURN
      have hn : E.all lightF = false := by
        rw [List.all_eq_false]
        exact ⟨x, List.mem_of_getElem? hxe, by simpa using h⟩
      exact ⟨by simp [lightL, hn], rfl⟩
    · refine W.skip ?_
      refine N.inb ?_
      refine N.th ?_
      refine W.reg <| mv rfl rfl <| addI (c := ((i + 1 : Nat) : Int)) rfl rfl rfl (by rw [w64 (by omega) (by omega)]; simp) <| asg rfl rfl <| L.nil ?_
      refine N.th (N.round (x := i + 1) ⟨rfl, rfl, trivial⟩ ⟨by omega, rfl, ?_⟩ (by omega))   -- ROUND
      rw [List.take_add_one, hxe, List.all_append, hall]
      simpa using h
  · refine W.exit ?_
    refine N.xth ?_
    refine N.xth ?_
    refine N.xeq ?_
    refine N.th ?_
    refine W.seq ?_
    refine W.reg <| asg rfl rfl <| L.nil ?_
    refine N.th ?_
    refine W.ret ?_
    refine N.ret1 rfl rfl ?_   -- RETURN
    have hi1 : i = E.length := by simp at h; omega
    rw [hi1, List.take_length] at hall
    exact ⟨by simp [lightL, h40, hall], rfl⟩
end Go.Proofs.YtmdpmpdlkaogdaaGreatDoor
