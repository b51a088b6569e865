/- Walks: (*haversackref7.Tree).put, make. -/
import Derived.Test.YtmdpmpdlkaogdaaGreatDoorRu
namespace Go.Proofs.YtmdpmpdlkaogdaaGreatDoor
open Go Go.RowKit Vc

theorem ok_Rput : FnOk P 84 := ⟨_, Tryz.func84, by kernel_rfl, by kernel_rfl⟩
theorem ok_Rmake : FnOk P 79 := ⟨_, Tryz.func79, by kernel_rfl, by kernel_rfl⟩

theorem slVlN {st : Sty} [Wy st] {P : Program} {ds : List Deferred} {n : Nat} {Q : Exit → Act → World → Prop} {E : Env} {w : World} {ops : Array Oper} {l : List Oper} {d : Nat} {ty : TypeId} {pos : String} {af : Array Edge}
    {t e : TypeId} {x lo : Operand} {sz : Nat} {κ : IntKind} (hx : opd E x = some (.slice none 0 0)) (hl : opd E lo = some (.int κ (0 : Nat))) (hu : P.underlying t = some (.slice e)) (hs : szB P e = some sz) (hd : Nat.blt d n = true)
    (k : LY st P ds n ops l Q ((d, .slice none 0 0) :: E) w) : LY st P ds n ops (⟨some d, .slice t x (some lo) none none, ty, pos, af, none⟩ :: l) Q E w := by
  refine slVl hx hl hu hs hd (by omega) (by omega) ?_
  have e1 : (if 0 = ((0 : Nat) : Int).toNat then (none : Option Addr) else (none : Option Addr).map (·.add (((0 : Nat) : Int).toNat * sz))) = none := by split <;> rfl
  rw [e1]
  exact k
/-- The list is put in its place. -/
theorem rt_store {w : World} {B rt : Nat} {lv v' : Value} {E E' : List FE} (h : RTAt w rt lv E) (hown : w.ownsRow B tF 3 v' E'.length (E'.flatMap fcells)) (hb : ∀ y ∈ E', RowB w y.2.2.1 y.2.2.2) :
    RTAt (w.setCell ⟨rt, 0 + 0, none⟩ v') rt v' E' ∧ Ext (fun k => k = rt) w (w.setCell ⟨rt, 0 + 0, none⟩ v') := by
  have hx : Ext (fun k => k = rt) w (w.setCell ⟨rt, 0 + 0, none⟩ v') := Ext.setCell (S := fun k => k = rt) _ (fun _ => rfl) _
  have hF : FilesAt w v' E' := FilesAt.own hown hb
  exact ⟨⟨by rw [setCell_heap h.cell]; rfl, hF.ext hx (rt_kd h)⟩, hx⟩
theorem flat_take {E : List FE} {i j : Nat} {u : Value} (h : ((E.take i).flatMap fcells)[j]? = some u) : (E.flatMap fcells)[j]? = some u := by
  have e : E.flatMap fcells = (E.take i).flatMap fcells ++ (E.drop i).flatMap fcells := by rw [← List.flatMap_append, List.take_append_drop]
  rw [e, List.getElem?_append_left (List.getElem?_eq_some_iff.1 h).1]; exact h
theorem fl_len (E : List FE) : (E.flatMap fcells).length = E.length * 3 := by
  induction E with
  | nil => rfl
  | cons x E ih => rw [List.flatMap_cons, List.length_append, ih, fcells_len, List.length_cons]; omega
theorem flat_drop {E : List FE} {i j : Nat} {u : Value} (hi : i ≤ E.length) (h : ((E.drop i).flatMap fcells)[j]? = some u) : (E.flatMap fcells)[i * 3 + j]? = some u := by
  have e : E.flatMap fcells = (E.take i).flatMap fcells ++ (E.drop i).flatMap fcells := by rw [← List.flatMap_append, List.take_append_drop]
  have hl : ((E.take i).flatMap fcells).length = i * 3 := by rw [fl_len, List.length_take, Nat.min_eq_left hi]
  rw [e, List.getElem?_append_right (by omega), hl, Nat.add_sub_cancel_left]; exact h

theorem c_Rput {w : World} {rt : Nat} {lv : Value} {E : List FE} (x : FE) (h : RTAt w rt lv E) (hx : RowB w x.2.2.1 x.2.2.2) (hl : E.length ≤ 1000000) :
    Calls P 84 #[pT rt, .agg (fcells x).toArray] w fun e w' => e = .returned (.tuple #[]) ∧ ∃ lv' E', RTAt w' rt lv' E' ∧ fm E' = Tr.ins (fm E) x.1 (x.2.1, x.2.2.2) ∧ E'.length ≤ E.length + 1 ∧ Ext (fun k => k = rt) w w' := by
  obtain ⟨a, c, rfl, hc⟩ := h.slice
  refine enter (l := [_, _]) (n := 88) Tryz.func84 rfl rfl rfl ?_
  refine W.seq ?_
  refine W.reg <| box rfl rfl <| L.nil ?_
  refine N.th ?_
  obtain ⟨g, hg⟩ : ∃ g, g = w.heap.size := ⟨_, rfl⟩
  obtain ⟨w1, hw1⟩ : ∃ w1, w1 = w.alloc (.cells (fcells x).toArray tF) := ⟨_, rfl⟩
  have hx1 : Ext none_ w w1 := by rw [hw1]; exact Ext.alloc _ _ _
  have hg1 : w1.heap[g]? = some (.cells (fcells x).toArray tF (0, 0)) := by rw [hw1, hg]; exact heap_new _ _
  refine W.seq ?_
  refine W.reg <| asg rfl rfl <| L.nil ?_
  refine N.th ?_
  show W _ _ _ _ _ _ _ _ (w.alloc (.cells (fcells x).toArray tF))
  rw [← hw1, ← hg]
  have hR1 := h.ext0 hx1
  have hxb1 := hx.ext0 hx1
  have hgc : ∀ {w' : World}, Ext none_ w1 w' → w'.cell? ⟨g, 0 + 0, none⟩ = some (.string (S x.1)) := fun hh => cell_of (hh.obj hg1 id) rfl
  refine W.seq ?_
  refine W.block ?_
  refine W.loop (X := Nat) (fun i => [(0, pT rt), (3, .pointer (some ⟨g, 0, none⟩)), (4, .int .i64 i)]) (fun i w' => i ≤ E.length ∧ Ext none_ w1 w' ∧ ∀ y ∈ E.take i, y.1 < x.1) (fun i => E.length - i) 0 ⟨rfl, rfl, rfl, trivial⟩ ⟨by omega, Ext.refl _ _, by simp⟩ ?_
  rintro i w2 ⟨hi, hx2, hpre⟩
  refine W.seq ?_
  refine W.seqM (fun E' w' => ∃ b, E' = [(24, .bool b), (0, pT rt), (3, .pointer (some ⟨g, 0, none⟩)), (4, .int .i64 i)] ∧ Ext none_ w1 w' ∧ (b = true → ∃ y, E[i]? = some y ∧ y.1 < x.1) ∧ (b = false → i = E.length ∨ ∃ y, E[i]? = some y ∧ ¬ y.1 < x.1)) ?_ ?_
  · refine W.draw [] false (fun w' => Ext none_ w1 w') [0, 1, 2, 3, 4, 5, 6, 7, 8, 9, 10, 11, 12, 13, 14, 15, 16, 17, 18, 19] rfl rfl (by kernel_rfl) (hx2.trans (Ext.drew _ _)) ?_   -- held
    refine mv rfl rfl <| mv rfl rfl <| nilc rfl rfl <| fad rfl fl_RT_0 rfl <| ldK (v := .slice a E.length c) rfl ag_files rfl (fun w' hh => (hR1.ext0 hh).c0) <| lenV rfl u_files rfl <| lssI rfl rfl rfl ?_
    by_cases hil : i < E.length
    · obtain ⟨y, hye⟩ : ∃ y, E[i]? = some y := ⟨_, List.getElem?_eq_getElem hil⟩
      obtain ⟨b, o, rfl, -, -⟩ := hR1.some_ hye
      refine Vc.bt (by simp; omega) ?_
      (repeat (first | refine mv rfl rfl ?_ | refine asg rfl rfl ?_ | refine L.off rfl rfl rfl rfl rfl ?_ | refine L.offU rfl rfl rfl rfl ?_ | refine L.on rfl rfl rfl ?_ | refine pickT rfl rfl rfl ?_ | refine pickF rfl rfl rfl ?_ | refine ext rfl rfl rfl ?_ | refine nilc rfl rfl ?_ | refine lenV (t := 46) rfl u_strs rfl ?_ | refine lenV (t := 25) rfl u_bytes rfl ?_ | refine lenV (t := 22) rfl u_files rfl ?_ | refine lenS (t := 9) rfl u_str rfl ?_ | refine eqlI rfl rfl rfl ?_ | refine neqI rfl rfl rfl ?_ | refine lssI rfl rfl rfl ?_ | refine leqI rfl rfl rfl ?_ | refine gtrI rfl rfl rfl ?_ | refine geqI rfl rfl rfl ?_))
      refine fad rfl fl_RT_0 rfl <| L.on rfl rfl rfl <| ldK (v := .slice (some ⟨b, o, none⟩) E.length c) rfl ag_files rfl (fun w' hh => (hR1.ext0 hh).c0) ?_
      (repeat (first | refine mv rfl rfl ?_ | refine asg rfl rfl ?_ | refine L.off rfl rfl rfl rfl rfl ?_ | refine L.offU rfl rfl rfl rfl ?_ | refine L.on rfl rfl rfl ?_ | refine pickT rfl rfl rfl ?_ | refine pickF rfl rfl rfl ?_ | refine ext rfl rfl rfl ?_ | refine nilc rfl rfl ?_ | refine lenV (t := 46) rfl u_strs rfl ?_ | refine lenV (t := 25) rfl u_bytes rfl ?_ | refine lenV (t := 22) rfl u_files rfl ?_ | refine lenS (t := 9) rfl u_str rfl ?_ | refine eqlI rfl rfl rfl ?_ | refine neqI rfl rfl rfl ?_ | refine lssI rfl rfl rfl ?_ | refine leqI rfl rfl rfl ?_ | refine gtrI rfl rfl rfl ?_ | refine geqI rfl rfl rfl ?_))
      refine ixa rfl rfl u_files sz_File rfl (by omega) (by omega) <| L.on rfl rfl rfl <| fad rfl fl_File_0 rfl <| L.on rfl rfl rfl <| ldK (v := .string (S y.1)) rfl ag_str rfl (fun w' hh => ((hR1.ext0 hh).files.cell hye).1) <| L.on rfl rfl rfl <| fad rfl fl_File_0 rfl <| L.on rfl rfl rfl <| ldK (v := .string (S x.1)) rfl ag_str rfl (fun w' hh => hgc hh) <| L.on rfl rfl rfl <| lssS rfl rfl rfl <| pickT rfl rfl rfl <| L.nilH ?_
      refine N.th (N.meet [(24, _), (0, _), (3, _), (4, _)] ⟨rfl, rfl, rfl, rfl, trivial⟩ ⟨_, rfl, hx2.trans (Ext.drew _ _), fun hb => ⟨y, hye, ?_⟩, fun hb => .inr ⟨y, hye, ?_⟩⟩)
      · rw [bytesLess_lt] at hb; exact of_decide_eq_true hb
      · rw [bytesLess_lt] at hb; exact of_decide_eq_false hb
    · refine Vc.bf (by simp; omega) ?_
      (repeat (first | refine mv rfl rfl ?_ | refine asg rfl rfl ?_ | refine L.off rfl rfl rfl rfl rfl ?_ | refine L.offU rfl rfl rfl rfl ?_ | refine L.on rfl rfl rfl ?_ | refine pickT rfl rfl rfl ?_ | refine pickF rfl rfl rfl ?_ | refine ext rfl rfl rfl ?_ | refine nilc rfl rfl ?_ | refine lenV (t := 46) rfl u_strs rfl ?_ | refine lenV (t := 25) rfl u_bytes rfl ?_ | refine lenV (t := 22) rfl u_files rfl ?_ | refine lenS (t := 9) rfl u_str rfl ?_ | refine eqlI rfl rfl rfl ?_ | refine neqI rfl rfl rfl ?_ | refine lssI rfl rfl rfl ?_ | refine leqI rfl rfl rfl ?_ | refine gtrI rfl rfl rfl ?_ | refine geqI rfl rfl rfl ?_))
      refine L.nilH ?_
      exact N.th (N.meet [(24, .bool false), (0, _), (3, _), (4, _)] ⟨rfl, rfl, rfl, rfl, trivial⟩ ⟨_, rfl, hx2.trans (Ext.drew _ _), fun hb => (by cases hb), fun _ => .inl (by omega)⟩)
  rintro E' w3 ⟨b, rfl, hx3, hb1, hb2⟩
  refine W.cond rfl (fun hh => ?_) (fun hh => ?_)
  · obtain ⟨y, hye, hlt⟩ := hb1 hh
    have hil := (List.getElem?_eq_some_iff.1 hye).1
    refine W.skip ?_
    refine N.th ?_
    refine W.block ?_
    refine W.reg <| mv rfl rfl <| addI (c := ((i + 1 : Nat) : Int)) rfl rfl rfl (by rw [w64 (by omega) (by omega)]; simp) <| asg rfl rfl <| L.nil ?_
    refine N.inb ?_
    refine N.th (N.round (x := i + 1) ⟨rfl, rfl, rfl, trivial⟩ ⟨by omega, hx3, fun z hz => ?_⟩ (by omega))   -- ROUND
    rw [List.take_add_one, hye] at hz
    rcases List.mem_append.1 hz with hz | hz
    · exact hpre z hz
    · simp at hz; subst hz; exact hlt
  refine W.exit ?_
  refine N.xth ?_
  refine N.xth ?_
  refine N.xeq ?_
  refine N.th ?_
  have hstop := hb2 hh
  clear hb1 hb2 hh
  have hsplit : fm E = fm (E.take i) ++ fm (E.drop i) := by rw [← List.map_append, List.take_append_drop]
  have hprel : ∀ p ∈ fm (E.take i), p.1 < x.1 := fun p hp => by
    obtain ⟨y, hy, rfl⟩ := List.mem_map.1 hp
    exact hpre y hy
  have hins := Tr.ins_app (fm (E.take i)) (fm (E.drop i)) x.1 (x.2.1, x.2.2.2) hprel
  rw [← hsplit] at hins
  refine W.seq ?_
  refine W.seqM (fun E' w' => ∃ b, E' = [(46, .bool b), (0, pT rt), (3, .pointer (some ⟨g, 0, none⟩)), (4, .int .i64 i)] ∧ Ext none_ w1 w' ∧ (b = true → ∃ y, E[i]? = some y ∧ y.1 = x.1) ∧ (b = false → i = E.length ∨ ∃ y, E[i]? = some y ∧ y.1 ≠ x.1)) ?_ ?_
  · refine W.draw [] false (fun w' => Ext none_ w1 w') [0, 1, 2, 3, 4, 5, 6, 7, 8, 9, 10, 11, 12, 13, 14, 15, 16, 17, 18, 19] rfl rfl (by kernel_rfl) (hx3.trans (Ext.drew _ _)) ?_   -- held
    refine mv rfl rfl <| mv rfl rfl <| nilc rfl rfl <| fad rfl fl_RT_0 rfl <| ldK (v := .slice a E.length c) rfl ag_files rfl (fun w' hh => (hR1.ext0 hh).c0) <| lenV rfl u_files rfl <| lssI rfl rfl rfl ?_
    by_cases hil : i < E.length
    · obtain ⟨y, hye⟩ : ∃ y, E[i]? = some y := ⟨_, List.getElem?_eq_getElem hil⟩
      obtain ⟨b, o, rfl, -, -⟩ := hR1.some_ hye
      refine Vc.bt (by simp; omega) ?_
      (repeat (first | refine mv rfl rfl ?_ | refine asg rfl rfl ?_ | refine L.off rfl rfl rfl rfl rfl ?_ | refine L.offU rfl rfl rfl rfl ?_ | refine L.on rfl rfl rfl ?_ | refine pickT rfl rfl rfl ?_ | refine pickF rfl rfl rfl ?_ | refine ext rfl rfl rfl ?_ | refine nilc rfl rfl ?_ | refine lenV (t := 46) rfl u_strs rfl ?_ | refine lenV (t := 25) rfl u_bytes rfl ?_ | refine lenV (t := 22) rfl u_files rfl ?_ | refine lenS (t := 9) rfl u_str rfl ?_ | refine eqlI rfl rfl rfl ?_ | refine neqI rfl rfl rfl ?_ | refine lssI rfl rfl rfl ?_ | refine leqI rfl rfl rfl ?_ | refine gtrI rfl rfl rfl ?_ | refine geqI rfl rfl rfl ?_))
      refine fad rfl fl_RT_0 rfl <| L.on rfl rfl rfl <| ldK (v := .slice (some ⟨b, o, none⟩) E.length c) rfl ag_files rfl (fun w' hh => (hR1.ext0 hh).c0) ?_
      (repeat (first | refine mv rfl rfl ?_ | refine asg rfl rfl ?_ | refine L.off rfl rfl rfl rfl rfl ?_ | refine L.offU rfl rfl rfl rfl ?_ | refine L.on rfl rfl rfl ?_ | refine pickT rfl rfl rfl ?_ | refine pickF rfl rfl rfl ?_ | refine ext rfl rfl rfl ?_ | refine nilc rfl rfl ?_ | refine lenV (t := 46) rfl u_strs rfl ?_ | refine lenV (t := 25) rfl u_bytes rfl ?_ | refine lenV (t := 22) rfl u_files rfl ?_ | refine lenS (t := 9) rfl u_str rfl ?_ | refine eqlI rfl rfl rfl ?_ | refine neqI rfl rfl rfl ?_ | refine lssI rfl rfl rfl ?_ | refine leqI rfl rfl rfl ?_ | refine gtrI rfl rfl rfl ?_ | refine geqI rfl rfl rfl ?_))
      refine ixa rfl rfl u_files sz_File rfl (by omega) (by omega) <| L.on rfl rfl rfl <| fad rfl fl_File_0 rfl <| L.on rfl rfl rfl <| ldK (v := .string (S y.1)) rfl ag_str rfl (fun w' hh => ((hR1.ext0 hh).files.cell hye).1) <| L.on rfl rfl rfl <| fad rfl fl_File_0 rfl <| L.on rfl rfl rfl <| ldK (v := .string (S x.1)) rfl ag_str rfl (fun w' hh => hgc hh) <| L.on rfl rfl rfl <| eqlS rfl rfl rfl <| pickT rfl rfl rfl <| L.nilH ?_
      exact N.th (N.meet [(46, _), (0, _), (3, _), (4, _)] ⟨rfl, rfl, rfl, rfl, trivial⟩ ⟨_, rfl, hx3.trans (Ext.drew _ _), fun hb => ⟨y, hye, by simpa using hb⟩, fun hb => .inr ⟨y, hye, by simpa using hb⟩⟩)
    · refine Vc.bf (by simp; omega) ?_
      (repeat (first | refine mv rfl rfl ?_ | refine asg rfl rfl ?_ | refine L.off rfl rfl rfl rfl rfl ?_ | refine L.offU rfl rfl rfl rfl ?_ | refine L.on rfl rfl rfl ?_ | refine pickT rfl rfl rfl ?_ | refine pickF rfl rfl rfl ?_ | refine ext rfl rfl rfl ?_ | refine nilc rfl rfl ?_ | refine lenV (t := 46) rfl u_strs rfl ?_ | refine lenV (t := 25) rfl u_bytes rfl ?_ | refine lenV (t := 22) rfl u_files rfl ?_ | refine lenS (t := 9) rfl u_str rfl ?_ | refine eqlI rfl rfl rfl ?_ | refine neqI rfl rfl rfl ?_ | refine lssI rfl rfl rfl ?_ | refine leqI rfl rfl rfl ?_ | refine gtrI rfl rfl rfl ?_ | refine geqI rfl rfl rfl ?_))
      refine L.nilH ?_
      exact N.th (N.meet [(46, .bool false), (0, _), (3, _), (4, _)] ⟨rfl, rfl, rfl, rfl, trivial⟩ ⟨_, rfl, hx3.trans (Ext.drew _ _), fun hb => (by cases hb), fun _ => .inl (by omega)⟩)
  rintro E' w4 ⟨b, rfl, hx4, hb1, hb2⟩
  have hx4d : Ext none_ w1 w4.drew := hx4.trans (Ext.drew _ _)
  have hgf : ∀ {w' : World}, Ext none_ w4.drew w' → ∀ (j : Nat) u, (fcells x)[j]? = some u → w'.cell? ⟨g, 0 + j, none⟩ = some u := fun hh j u hj => row_cells (hh.obj (hx4d.obj hg1 id) id) j u hj
  have hR4 := hR1.ext0 hx4d
  have hxb4 := hxb1.ext0 hx4d
  obtain ⟨hfb, hf1⟩ := fbuild hx
  have hx04 : Ext none_ w w4.drew := hx1.trans hx4d
  refine W.cond rfl (fun hh => ?_) (fun hh => ?_)
  · obtain ⟨y, hye, hyx⟩ := hb1 hh
    obtain ⟨b, o, rfl, -, hil⟩ := hR1.some_ hye
    refine W.seq ?_
    refine W.draw [] true (fun w' => Ext none_ w4.drew w') [0, 1, 2, 3, 4, 5, 6, 7, 8, 11, 12, 13, 14, 15, 16, 17, 9, 10, 18, 19, 20, 21] rfl rfl (by kernel_rfl) (Ext.refl _ _) ?_   -- held
    refine mv rfl rfl <| mv rfl rfl <| nilc rfl rfl <| fad rfl fl_RT_0 rfl <| ldK (v := .slice (some ⟨b, o, none⟩) E.length c) rfl ag_files rfl (fun w' hh => (hR4.ext0 hh).c0) <| mv rfl rfl <| mv rfl rfl <| slVhm rfl rfl rfl u_files el_files.szB rfl (by omega) (by omega) (by omega) <| ldkK (cs := fcells x) rfl ag_File sz_File rfl rfl (fun w' hh j u hj => hgf hh j u hj) <| mv rfl rfl <| nilc rfl rfl <| fad rfl fl_RT_0 rfl <| ldK (v := .slice (some ⟨b, o, none⟩) E.length c) rfl ag_files rfl (fun w' hh => (hR4.ext0 hh).c0) <| mv rfl rfl <| addI (c := ((i + 1 : Nat) : Int)) rfl rfl rfl (by rw [w64 (by omega) (by omega)]; simp) <| slVlA (i := i + 1) rfl rfl u_files el_files.szB rfl (by omega) fun ad had => ?_
    refine bls (vs := #[(0, .agg (fcells x).toArray)]) (cs := (fcells x).toArray) (e := tF) rfl rfl hfb (hS := .inr fun hh => hh.trans (Ext.alloc none_ _ _)) <| ?_
    have hxa : Ext none_ w4.drew (w4.drew.alloc (.cells (fcells x).toArray tF)) := Ext.alloc _ _ _
    refine appG (olds := (E.take i).flatMap fcells) (news := fcells x) rfl rfl rfl el_files (by rw [fl_len, List.length_take]; omega) (fun j u hj => by
      rw [add_at]; exact (hR4.ext0 hxa).files.row.cells rfl j u (flat_take hj)) rfl (fun j u hj => by rw [add_at]; exact row_cells (heap_new _ _) j u hj) (by omega) (by omega) (by simp only [maxLen]; omega) fun v1 w5 hown5 hx5 => ⟨.inr fun hh => (hh.trans hx5), ?_⟩
    have hx45 : Ext none_ w4.drew w5 := hxa.trans hx5
    have hR5 := hR4.ext0 hx45
    refine appY (news := (E.drop (i + 1)).flatMap fcells) (m := E.length - (i + 1)) rfl rfl rfl el_files hown5 (by rw [fl_len, List.length_drop]) (fun j u hj => by
      have hne : i + 1 < c := by
        have := (List.getElem?_eq_some_iff.1 hj).1
        rw [fl_len, List.length_drop] at this
        omega
      rw [had hne, add_at, Nat.add_assoc]
      exact hR5.files.row.cells rfl _ u (flat_drop (by omega) hj)) (fun u hu => by
      obtain ⟨z, hz, hu⟩ := List.mem_flatMap.1 hu
      have := (fbuild (hR5.files.bytes z (List.mem_of_mem_drop hz))).2
      exact List.all_eq_true.1 this u (by simpa using hu)) (by omega) (by simp only [maxLen]; omega) hx5.size fun v2 w6 hown6 hx6 _ _ => ⟨.inr fun hh => ?_, ?_⟩
    · exact (hxa.trans hx5).trans' hx6 fun k hk e => by have := own_new hown5 k e; have := hxa.size; omega
    have hx46 : Ext none_ w4.drew w6 := hx45.trans' hx6 fun k hk e => by have := own_new hown5 k e; have := hxa.size; omega
    have hR6 := hR4.ext0 hx46
    refine nilc rfl rfl <| fad rfl fl_RT_0 rfl <| st1 rfl rfl sz_files (own_cells hown6).2 hR6.cell rfl (hS := .inl ⟨rfl, rfl⟩) <| L.nilH ?_
    refine N.th ?_
    refine W.ret ?_
    refine N.rth ?_
    have hEl : (E.take i ++ x :: E.drop (i + 1)).length = i + 1 + (E.length - (i + 1)) := by simp; omega
    have hown6' : w6.ownsRow (w4.drew.alloc (.cells (fcells x).toArray tF)).heap.size tF 3 v2 (E.take i ++ x :: E.drop (i + 1)).length ((E.take i ++ x :: E.drop (i + 1)).flatMap fcells) := by
      rw [hEl, List.flatMap_append, List.flatMap_cons, ← List.append_assoc]; exact hown6
    obtain ⟨hR7, hx7⟩ := rt_store hR6 hown6' (fun z hz => by
      rcases List.mem_append.1 hz with hz | hz
      · exact hR6.files.bytes z (List.mem_of_mem_take hz)
      · rcases List.mem_cons.1 hz with rfl | hz
        · exact hxb4.ext0 hx46
        · exact hR6.files.bytes z (List.mem_of_mem_drop hz))
    refine N.ret0 rfl ?_
    refine ⟨rfl, _, _, hR7, ?_, by rw [hEl]; omega, (hx04.trans hx46).none.trans hx7⟩
    rw [hins]
    have hd : E.drop i = y :: E.drop (i + 1) := by
      obtain ⟨hlt, hbb⟩ := List.getElem?_eq_some_iff.1 hye
      rw [List.drop_eq_getElem_cons hlt, hbb]
    rw [hd]
    have hy1 : ¬ (fnd y).1 < x.1 := fun hlt => by rw [show (fnd y).1 = x.1 from hyx] at hlt; exact Tr.lt_irr _ hlt
    show _ = fm (E.take i) ++ Tr.ins (fnd y :: fm (E.drop (i + 1))) x.1 (x.2.1, x.2.2.2)
    unfold Tr.ins
    rw [if_neg hy1, if_pos (show (fnd y).1 = x.1 from hyx)]
    simp [fm, fnd]
  · have hstop2 := hb2 hh
    refine W.skip ?_
    refine N.th ?_
    have hfin : ∀ {w6 : World} {v2 : Value} {B : Nat}, Ext none_ w4.drew w6 → w6.ownsRow B tF 3 v2 (i + (1 + (E.length - i))) ((E.take i).flatMap fcells ++ (fcells x ++ (E.drop i).flatMap fcells)) →
        (∃ lv' E', RTAt (w6.setCell ⟨rt, 0 + 0, none⟩ v2) rt lv' E' ∧ fm E' = Tr.ins (fm E) x.1 (x.2.1, x.2.2.2) ∧ E'.length ≤ E.length + 1 ∧ Ext (fun k => k = rt) w (w6.setCell ⟨rt, 0 + 0, none⟩ v2)) := fun {w6 v2 B} hx46 hown6 => by
      have hR6 := hR4.ext0 hx46
      have hEl : (E.take i ++ x :: E.drop i).length = i + (1 + (E.length - i)) := by simp; omega
      have hown6' : w6.ownsRow B tF 3 v2 (E.take i ++ x :: E.drop i).length ((E.take i ++ x :: E.drop i).flatMap fcells) := by
        rw [hEl, List.flatMap_append, List.flatMap_cons]; exact hown6
      obtain ⟨hR7, hx7⟩ := rt_store hR6 hown6' (fun z hz => by
        rcases List.mem_append.1 hz with hz | hz
        · exact hR6.files.bytes z (List.mem_of_mem_take hz)
        · rcases List.mem_cons.1 hz with rfl | hz
          · exact hxb4.ext0 hx46
          · exact hR6.files.bytes z (List.mem_of_mem_drop hz))
      refine ⟨_, _, hR7, ?_, by rw [hEl]; omega, (hx04.trans hx46).none.trans hx7⟩
      rw [hins]
      rcases hstop with hil | ⟨y, hye, hnlt⟩
      · have hd : E.drop i = [] := List.drop_of_length_le (by omega)
        rw [hd]; simp [fm, fnd, Tr.ins]
      · have hil := (List.getElem?_eq_some_iff.1 hye).1
        have hne : y.1 ≠ x.1 := by
          rcases hstop2 with e | ⟨y', hye', hne⟩
          · omega
          · rw [hye] at hye'; cases hye'; exact hne
        have hd : E.drop i = y :: E.drop (i + 1) := by
          obtain ⟨hlt, hbb⟩ := List.getElem?_eq_some_iff.1 hye
          rw [List.drop_eq_getElem_cons hlt, hbb]
        have e1 : Tr.ins (fm (E.drop i)) x.1 (x.2.1, x.2.2.2) = (x.1, (x.2.1, x.2.2.2)) :: fm (E.drop i) := by
          rw [hd]
          show Tr.ins (fnd y :: fm (E.drop (i + 1))) x.1 (x.2.1, x.2.2.2) = _
          unfold Tr.ins
          rw [if_neg (show ¬ (fnd y).1 < x.1 from hnlt), if_neg (show ¬ (fnd y).1 = x.1 from hne)]
          rfl
        rw [e1]
        simp [fm, fnd]
    refine W.draw [] true (fun w' => Ext none_ w4.drew w') [0, 1, 2, 3, 4, 5, 6, 7, 8, 10, 11, 12, 13, 14, 15, 9, 16, 17, 18, 19, 20] rfl rfl (by kernel_rfl) (Ext.refl _ _) ?_   -- held
    have hxa : Ext none_ w4.drew (w4.drew.alloc (.cells (fcells x).toArray tF)) := Ext.alloc _ _ _
    have hownf : (w4.drew.alloc (.cells (fcells x).toArray tF)).ownsRow w4.drew.heap.size tF 3 (.slice (some ⟨w4.drew.heap.size, 0, none⟩) 1 1) 1 (fcells x) :=
      ⟨rfl, .inr ⟨_, 1, (fcells x).toArray, rfl, Nat.le_refl _, heap_new _ _, Nat.le_refl _, by simp [maxLen], rfl, rfl⟩⟩
    cases a with
    | none =>
      have hE0 : E = [] := by
        rcases h.files.row.form with ⟨h0, h3, _⟩ | ⟨b, o, c', h0, -, -, -, -⟩
        · exact List.eq_nil_of_length_eq_zero h3
        · cases h0
      subst hE0
      have hc0 : c = 0 := by
        rcases h.files.row.form with ⟨h0, h3, _⟩ | ⟨b, o, c', h0, -, -, -, -⟩
        · cases h0; rfl
        · cases h0
      subst hc0
      obtain rfl : i = 0 := by simpa using hi
      refine mv rfl rfl <| mv rfl rfl <| nilc rfl rfl <| fad rfl fl_RT_0 rfl <| ldK (v := .slice none 0 0) rfl ag_files rfl (fun w' hh => (hR4.ext0 hh).c0) <| mv rfl rfl <| mv rfl rfl <| slVhm rfl rfl rfl u_files el_files.szB rfl (by omega) (by omega) (by omega) <| ldkK (cs := fcells x) rfl ag_File sz_File rfl rfl (fun w' hh j u hj => hgf hh j u hj) <| mv rfl rfl <| nilc rfl rfl <| fad rfl fl_RT_0 rfl <| ldK (v := .slice none 0 0) rfl ag_files rfl (fun w' hh => (hR4.ext0 hh).c0) <| mv rfl rfl <| slVlN rfl rfl u_files el_files.szB rfl ?_
      refine bls (vs := #[(0, .agg (fcells x).toArray)]) (cs := (fcells x).toArray) (e := tF) rfl rfl hfb (hS := .inr fun hh => hh.trans (Ext.alloc none_ _ _)) <| appN rfl rfl rfl el_files (Nat.le_refl _) ?_
      refine appY (news := fcells x) (m := 1) rfl rfl rfl el_files (own_nil _ w4.drew.heap.size _ _) rfl (fun j u hj => by rw [add_at]; exact row_cells (heap_new _ _) j u hj) (fun u hu => List.all_eq_true.1 hf1 u (by simpa using hu)) (by omega) (by simp [maxLen]) hxa.size fun v2 w6 hown6 hx6 _ _ => ⟨.inr fun hh => ?_, ?_⟩
      · exact hxa.trans (hx6.mono fun k _ e => by cases e)
      have hx46 : Ext none_ w4.drew w6 := hxa.trans (hx6.mono fun k _ e => by cases e)
      refine nilc rfl rfl <| fad rfl fl_RT_0 rfl <| st1 rfl rfl sz_files (own_cells hown6).2 (hR4.ext0 hx46).cell rfl (hS := .inl ⟨rfl, rfl⟩) <| L.nilH ?_
      refine N.end0 rfl ?_
      exact ⟨rfl, hfin hx46 (by simpa using hown6)⟩
    | some ad0 =>
      obtain ⟨b, o, hv0⟩ : ∃ b o, ad0 = ⟨b, o, none⟩ := by
        rcases h.files.row.form with ⟨h0, h3, _⟩ | ⟨b, o, c', h0, -, -, -, -⟩
        · cases h0
        · cases h0; exact ⟨b, o, rfl⟩
      subst hv0
      refine mv rfl rfl <| mv rfl rfl <| nilc rfl rfl <| fad rfl fl_RT_0 rfl <| ldK (v := .slice (some ⟨b, o, none⟩) E.length c) rfl ag_files rfl (fun w' hh => (hR4.ext0 hh).c0) <| mv rfl rfl <| mv rfl rfl <| slVhm rfl rfl rfl u_files el_files.szB rfl (by omega) (by omega) (by omega) <| ldkK (cs := fcells x) rfl ag_File sz_File rfl rfl (fun w' hh j u hj => hgf hh j u hj) <| mv rfl rfl <| nilc rfl rfl <| fad rfl fl_RT_0 rfl <| ldK (v := .slice (some ⟨b, o, none⟩) E.length c) rfl ag_files rfl (fun w' hh => (hR4.ext0 hh).c0) <| mv rfl rfl <| slVlA (i := i) rfl rfl u_files el_files.szB rfl (by omega) fun ad had => ?_
      refine bls (vs := #[(0, .agg (fcells x).toArray)]) (cs := (fcells x).toArray) (e := tF) rfl rfl hfb (hS := .inr fun hh => hh.trans (Ext.alloc none_ _ _)) <| ?_
      refine appY (news := (E.drop i).flatMap fcells) (m := E.length - i) rfl rfl rfl el_files hownf (by rw [fl_len, List.length_drop]) (fun j u hj => by
        have hne : i < c := by
          have := (List.getElem?_eq_some_iff.1 hj).1
          rw [fl_len, List.length_drop] at this
          omega
        rw [had hne, add_at, Nat.add_assoc]
        exact (hR4.ext0 hxa).files.row.cells rfl _ u (flat_drop (by omega) hj)) (fun u hu => by
        obtain ⟨z, hz, hu⟩ := List.mem_flatMap.1 hu
        have := (fbuild (hR4.files.bytes z (List.mem_of_mem_drop hz))).2
        exact List.all_eq_true.1 this u (by simpa using hu)) (by omega) (by simp only [maxLen]; omega) hxa.size fun v1 w5 hown5 hx5 _ _ => ⟨.inr fun hh => ?_, ?_⟩
      · exact hxa.trans' hx5 fun k hk e => by have := own_new hownf k e; omega
      have hx45 : Ext none_ w4.drew w5 := hxa.trans' hx5 fun k hk e => by have := own_new hownf k e; omega
      rcases (Row.own hown5).form with ⟨-, h3, -⟩ | ⟨g1, o1, c1, rfl, -, -, -, hcell1⟩
      · omega
      refine appG (olds := (E.take i).flatMap fcells) (news := fcells x ++ (E.drop i).flatMap fcells) rfl rfl rfl el_files (by rw [fl_len, List.length_take]; omega) (fun j u hj => by
        rw [add_at]; exact (hR4.ext0 hx45).files.row.cells rfl j u (flat_take hj)) hown5.1 (fun j u hj => by rw [add_at]; exact hcell1 j u hj) (by omega) (by omega) (by simp only [maxLen]; omega) fun v2 w6 hown6 hx6 => ⟨.inr fun hh => hh.trans hx6, ?_⟩
      have hx46 : Ext none_ w4.drew w6 := hx45.trans hx6
      refine nilc rfl rfl <| fad rfl fl_RT_0 rfl <| st1 rfl rfl sz_files (own_cells hown6).2 (hR4.ext0 hx46).cell rfl (hS := .inl ⟨rfl, rfl⟩) <| L.nilH ?_
      refine N.end0 rfl ?_
      exact ⟨rfl, hfin hx46 hown6⟩
end Go.Proofs.YtmdpmpdlkaogdaaGreatDoor
