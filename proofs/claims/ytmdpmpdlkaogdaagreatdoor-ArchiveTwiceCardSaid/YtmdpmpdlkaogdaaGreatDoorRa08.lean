/- The walk of TreeRemoves. The document's tree in memory; walks: (*haversackref7.Tree).at, Size, ahead. Walks: (*haversackref7.Tree).put, make. Walks: (*haversackref7.Tree).make, Write, Append. The walk of the document's pad. -/
import Derived.Test.YtmdpmpdlkaogdaaGreatDoorRa04
import Derived.Test.YtmdpmpdlkaogdaaGreatDoorRa07
import Derived.Test.YtmdpmpdlkaogdaaGreatDoorRa06

namespace Go.Proofs.YtmdpmpdlkaogdaaGreatDoor
open Go Go.RowKit Vc

/-- A File, as a slice's only element. -/
theorem fbuild {x : FE} {l : List UInt8} {w0 : World} (hx : RowB w0 x.2.2.1 l) : (∀ w, (Instr.buildSlice 22 1 #[(0, .agg (fcells x).toArray)]).run P w = .ok (.slice (some ⟨w.heap.size, 0, none⟩) 1 1) (w.alloc (.cells (fcells x).toArray tF))) ∧ ((fcells x).toArray.toList.all (·.oneCell')) = true := by
  obtain ⟨p, d, v, b⟩ := x
  obtain ⟨-, a, c, rfl, -⟩ := hx
  exact ⟨fun w => by kernel_rfl, rfl⟩
theorem FilesAt.cells {w : World} {b o n c i : Nat} {E : List FE} {x : FE} (h : FilesAt w (.slice (some ⟨b, o, none⟩) n c) E) (hi : E[i]? = some x) : ∀ j v, (fcells x)[j]? = some v → w.cell? ⟨b, o + i * 3 + j, none⟩ = some v := fun j v hj => by
  obtain ⟨h0, h1, h2⟩ := h.cell hi
  match j, hj with
  | 0, hj => cases hj; exact h0
  | 1, hj => cases hj; exact h1
  | 2, hj => cases hj; exact h2
  | j + 3, hj => simp [fcells] at hj
theorem FilesAt.own {B : Nat} {w : World} {v : Value} {E : List FE} (hv : w.ownsRow B tF 3 v E.length (E.flatMap fcells)) (hb : ∀ x ∈ E, RowB w x.2.2.1 x.2.2.2) : FilesAt w v E := ⟨Row.own hv, hb⟩

theorem encB_ne {l : List UInt8} {i : Nat} (h : i < l.length) : encB l ≠ [] := fun e => by
  have := congrArg List.length e
  rw [encB_length, List.length_nil] at this
  omega
/-- What is left of a tree's files. -/
def kept (f : Int) (q : Tr.Bytes) (x : FE) : Bool := !decide (f = 0) || !Sp.within x.1 q

theorem remove_left {m : Tr.T} (h : Tr.Ok m) (p : Tr.Bytes) : (Tr.files m).filter (fun x => !decide ((Tr.remove m p).2 = 0) || !Sp.within x.1 (Sp.clean p).1) = Tr.files (Tr.remove m p).1 ∧
    ((Sp.clean p).2 = 0 ∨ (Tr.remove m p).2 = (Sp.clean p).2) ∧ ((Tr.remove m p).2 ≠ 0 ∨ Tr.exists_ (Tr.remove m p).1 p = false) := by
  have hall : ∀ {f : Int}, f ≠ 0 → (Tr.files m).filter (fun x => !decide (f = 0) || !Sp.within x.1 (Sp.clean p).1) = Tr.files m := fun {f} hf => List.filter_eq_self.2 fun x _ => by simp [hf]
  unfold Tr.remove
  split
  · rename_i h0
    exact ⟨hall h0, .inr rfl, .inl h0⟩
  rename_i h0
  have h0' : (Sp.clean p).2 = 0 := by simpa using h0
  dsimp only
  split
  · exact ⟨hall (by simp), .inl h0', .inl (by simp)⟩
  rename_i hp0
  split
  · exact ⟨hall (by simp), .inl h0', .inl (by simp)⟩
  refine ⟨?_, .inl h0', .inr ?_⟩
  · dsimp only
    have e : (fun x : Tr.Bytes × Tr.Nd => !decide ((0 : Int) = 0) || !Sp.within x.1 (Sp.clean p).1) = fun x => (fun k => !Sp.within k (Sp.clean p).1) x.1 := by funext x; simp
    rw [e]
    refine Tr.files_eq_of (Tr.filter_sorted (Tr.files_sorted h.nodup) _) (Tr.nodup_drop _ h.nodup) fun k => ?_
    rw [Tr.get_filter (Tr.files_nodup h.nodup) (fun k => !Sp.within k (Sp.clean p).1), Tr.files_get h.nodup, Tr.get_cut]
    cases Sp.within k (Sp.clean p).1 <;> simp
  · unfold Tr.exists_
    rw [Tr.at_of hp0, Tr.get_cut, if_pos (Sp.within_refl _)]
    simp

theorem c_TreeRemoves (w : World) {v : Value} {l : List UInt8} (hv : BytA w v l) (p : Sp.Bytes) :
    Calls P 10 #[v, .string (S p)] w fun e w' => e = .returned (.bool true) ∧ Ext none_ w w' := by
  obtain ⟨a, c, rfl, hn, hmx, -, -⟩ := id hv
  refine enter (l := [_, _]) (n := 96) Tryz.func10 rfl rfl rfl ?_
  refine W.seq ?_
  refine W.reg <| asg rfl rfl <| L.nil ?_
  refine N.th ?_
  refine W.seq ?_
  refine W.seq ?_
  refine W.reg <| call (vs := []) rfl rfl ok_known (c_known w) ?_
  rintro e w1 ⟨rfl, hx1⟩
  refine ⟨_, rfl, ?_⟩
  refine notB rfl rfl <| L.nil ?_
  refine N.th ?_
  refine W.condF rfl ?_
  refine W.skip ?_
  refine N.th ?_
  refine W.seqM (fun E w' => E = [(0, .slice a l.length c), (1, .string (S p))] ∧ w' = w1 ∧ l.length ≤ 15 ∧ p.length ≤ 100) ?_ ?_
  · refine W.seqM (fun E w' => ∃ b, E = [(22, .bool b), (0, .slice a l.length c), (1, .string (S p))] ∧ w' = w1 ∧ (b = false → l.length ≤ 15 ∧ p.length ≤ 100)) ?_ ?_
    · refine W.reg ?_
      (repeat (first | refine mv rfl rfl ?_ | refine asg rfl rfl ?_ | refine L.off rfl rfl rfl rfl rfl ?_ | refine L.offU rfl rfl rfl rfl ?_ | refine L.on rfl rfl rfl ?_ | refine pickT rfl rfl rfl ?_ | refine pickF rfl rfl rfl ?_ | refine ext rfl rfl rfl ?_ | refine nilc rfl rfl ?_ | refine lenV (t := 46) rfl u_strs rfl ?_ | refine lenV (t := 25) rfl u_bytes rfl ?_ | refine lenV (t := 22) rfl u_files rfl ?_ | refine lenS (t := 9) rfl u_str rfl ?_ | refine eqlI rfl rfl rfl ?_ | refine neqI rfl rfl rfl ?_ | refine lssI rfl rfl rfl ?_ | refine leqI rfl rfl rfl ?_ | refine gtrI rfl rfl rfl ?_ | refine geqI rfl rfl rfl ?_))
      by_cases h1 : 15 < l.length
      · refine Vc.bt (by simp; omega) ?_
        (repeat (first | refine mv rfl rfl ?_ | refine asg rfl rfl ?_ | refine L.off rfl rfl rfl rfl rfl ?_ | refine L.offU rfl rfl rfl rfl ?_ | refine L.on rfl rfl rfl ?_ | refine pickT rfl rfl rfl ?_ | refine pickF rfl rfl rfl ?_ | refine ext rfl rfl rfl ?_ | refine nilc rfl rfl ?_ | refine lenV (t := 46) rfl u_strs rfl ?_ | refine lenV (t := 25) rfl u_bytes rfl ?_ | refine lenV (t := 22) rfl u_files rfl ?_ | refine lenS (t := 9) rfl u_str rfl ?_ | refine eqlI rfl rfl rfl ?_ | refine neqI rfl rfl rfl ?_ | refine lssI rfl rfl rfl ?_ | refine leqI rfl rfl rfl ?_ | refine gtrI rfl rfl rfl ?_ | refine geqI rfl rfl rfl ?_))
        exact L.nil <| N.th (N.meet [(22, .bool true), (0, _), (1, _)] ⟨rfl, rfl, rfl, trivial⟩ ⟨_, rfl, rfl, fun h => by cases h⟩)
      · refine Vc.bf (by simp; omega) ?_
        (repeat (first | refine mv rfl rfl ?_ | refine asg rfl rfl ?_ | refine L.off rfl rfl rfl rfl rfl ?_ | refine L.offU rfl rfl rfl rfl ?_ | refine L.on rfl rfl rfl ?_ | refine pickT rfl rfl rfl ?_ | refine pickF rfl rfl rfl ?_ | refine ext rfl rfl rfl ?_ | refine nilc rfl rfl ?_ | refine lenV (t := 46) rfl u_strs rfl ?_ | refine lenV (t := 25) rfl u_bytes rfl ?_ | refine lenV (t := 22) rfl u_files rfl ?_ | refine lenS (t := 9) rfl u_str rfl ?_ | refine eqlI rfl rfl rfl ?_ | refine neqI rfl rfl rfl ?_ | refine lssI rfl rfl rfl ?_ | refine leqI rfl rfl rfl ?_ | refine gtrI rfl rfl rfl ?_ | refine geqI rfl rfl rfl ?_))
        exact L.nil <| N.th (N.meet [(22, _), (0, _), (1, _)] ⟨rfl, rfl, rfl, trivial⟩ ⟨_, rfl, rfl, fun h => ⟨by omega, by simp at h; omega⟩⟩)
    rintro E w2 ⟨b, rfl, rfl, hb⟩
    refine W.cond rfl (fun h => ?_) (fun h => ?_)
    · refine W.seq ?_
      refine W.reg <| asg rfl rfl <| L.nil ?_
      refine N.th ?_
      refine W.ret ?_
      refine N.rth ?_
      refine N.ret1 rfl rfl ?_   -- RETURN
      exact ⟨rfl, hx1⟩
    · refine W.skip ?_
      exact N.th (N.meet [(0, _), (1, _)] ⟨rfl, rfl, trivial⟩ ⟨rfl, rfl, hb h⟩)
  rintro E w2 ⟨rfl, rfl, hl15, hp100⟩
  refine W.seq ?_
  refine W.reg <| call (vs := []) rfl rfl ok_New (c_New w2) ?_
  rintro e w3 ⟨bt, bm, rfl, hbt, hbm, hT3, hx3⟩
  refine ⟨_, rfl, ?_⟩
  refine asg rfl rfl <| L.nil ?_
  refine N.th ?_
  refine W.seq ?_
  refine W.seq ?_
  refine W.reg <| asg rfl rfl <| L.nil ?_
  refine N.th ?_
  refine W.block ?_
  have hs1 := hx1.size
  have hTwo : ∀ i, i < w.heap.size → Two bt bm i → none_ i := by rintro i hi (e | e) <;> omega
  refine W.loop (X := Nat × Tr.T) (fun x => [(6, .int .i64 x.1), (0, .slice a l.length c), (1, .string (S p)), (5, pT bt)])
    (fun x w' => x.1 ≤ l.length ∧ Tr.Ok x.2 ∧ TreeAt none_ w' bt bm x.2 (Tr.size x.2) ∧ Ext none_ w w') (fun x => l.length - x.1) (0, []) ⟨rfl, rfl, rfl, rfl, trivial⟩ ⟨by omega, Tr.Ok.nil, hT3, hx1.trans hx3⟩ ?_
  rintro ⟨i, m⟩ w4 ⟨hi, hok, hT4, hx4⟩
  dsimp only at hi hok hT4 ⊢
  refine W.seq ?_
  refine W.seq ?_
  refine W.reg <| mv rfl rfl <| mv rfl rfl <| lenV rfl u_bytes rfl <| lssI rfl rfl rfl <| L.nil ?_
  refine N.th ?_
  refine W.cond rfl (fun h => ?_) (fun h => ?_)
  · refine W.skip ?_
    refine N.th ?_
    have hi1 : i < l.length := by simp at h; omega
    obtain ⟨k, hk⟩ : ∃ k, l[i]? = some k := ⟨_, List.getElem?_eq_getElem hi1⟩
    obtain ⟨ab, ao, ac, hv', -, -, -, hcell⟩ := (hv.ext0 hx4).plain (encB_ne hi1)
    cases hv'
    have hck : w4.cell? ⟨ab, ao + i * 1, none⟩ = some (.int .u8 k.toNat) := by rw [Nat.mul_one]; exact hcell i _ (by simp [encB, hk])
    refine W.seq ?_
    refine W.block ?_
    refine W.reg <| mv rfl rfl <| mv rfl rfl <| mv rfl rfl <| ixa rfl rfl u_bytes sz_u8 rfl (by omega) (by omega) <| ld1 rfl ag_u8 rfl hck <| call (vs := [_]) rfl rfl ok_name (c_name k w4) ?_
    rintro e w5 ⟨rfl, hx5⟩
    refine ⟨_, rfl, ?_⟩
    have hT5 : Tree none_ (w5.alloc (.cells #[.int .u8 1] tB)) bt bm m := ⟨(hT4.ext0 hx5).ext0 (Ext.alloc _ _ _), hok.len, hok.bytes⟩
    have hrow : RowB (w5.alloc (.cells #[.int .u8 1] tB)) (.slice (some ⟨w5.heap.size, 0, none⟩) 1 1) [1] := ⟨rfl, _, 1, rfl, Nat.le_refl _, by simp [maxLen], (fun h => by cases h), fun ad had => by
      cases had
      exact ⟨_, _, rfl, heap_new _ _, Nat.le_refl _, rfl⟩⟩
    refine bls (vs := #[(0, .int .u8 1)]) (cs := #[.int .u8 1]) (e := tB) rfl rfl (fun _ => by kernel_rfl) <| call (vs := [_, _, _]) rfl rfl ok_Write (c_Write (nameB k) hT5 hrow.arg (by simp)) ?_
    rintro e w6 ⟨rfl, hT6, hx6⟩
    refine ⟨_, rfl, ?_⟩
    refine L.nil ?_
    refine N.inb ?_
    refine N.th ?_
    refine W.reg <| mv rfl rfl <| addI (c := ((i + 1 : Nat) : Int)) rfl rfl rfl (by rw [w64 (by omega) (by omega)]; simp) <| asg rfl rfl <| L.nil ?_
    exact N.th (N.round (x := (i + 1, (Tr.write m (nameB k) [1]).1)) ⟨rfl, rfl, rfl, rfl, trivial⟩ ⟨by dsimp only; omega, hok.write _ _, hT6, (hx4.trans (hx5.trans (Ext.alloc _ _ _))).trans' hx6 hTwo⟩ (by dsimp only; omega))   -- ROUND
  · refine W.exit ?_
    refine N.xth ?_
    refine N.xth ?_
    refine N.xeq ?_
    refine N.th ?_
    have hml := hok.len
    have hmb := hok.bytes
    refine W.seq ?_
    refine W.reg <| mv rfl rfl <| call (vs := [_]) rfl rfl ok_Files (c_Files hT4 (by omega) (by omega)) ?_
    rintro e w5 ⟨va, Ea, rfl, hEa, hva, hfa, hx5⟩
    refine ⟨_, rfl, ?_⟩
    refine asg rfl rfl <| L.nil ?_
    refine N.th ?_
    refine W.seq ?_
    refine W.reg <| mv rfl rfl <| call (vs := [_]) rfl rfl ok_RClean (c_RClean p w5) ?_
    rintro e w6 ⟨rfl, hx6⟩
    refine ⟨_, rfl, ?_⟩
    refine mv rfl rfl <| ext rfl rfl rfl <| ext rfl rfl rfl <| asg rfl rfl <| asg rfl rfl <| L.nil ?_
    refine N.th ?_
    refine W.seq ?_
    have hT6 : Tree none_ w6 bt bm m := ⟨(hT4.ext0 hx5).ext0 hx6, hml, hmb⟩
    refine W.reg <| mv rfl rfl <| mv rfl rfl <| call (vs := [_, _]) rfl rfl ok_Remove (c_Remove p hT6) ?_
    rintro e w7 ⟨rfl, hT7, hx7⟩
    refine ⟨_, rfl, ?_⟩
    refine asg rfl rfl <| L.nil ?_
    refine N.th ?_
    obtain ⟨hr1, hr2, hr3⟩ := remove_left hok p
    have hok' := hok.remove p
    generalize Tr.remove m p = r at *
    obtain ⟨m', f⟩ := r
    dsimp only at hT7 hr1 hr2 hr3 hok' ⊢
    refine W.seq ?_
    refine W.reg <| asg rfl rfl <| L.nil ?_
    refine N.th ?_
    refine W.seq ?_
    refine W.seq ?_
    refine W.reg <| asg rfl rfl <| L.nil ?_
    refine N.th ?_
    refine W.block ?_
    have hFa5 : FilesAt w5 va Ea := FilesAt.own hva fun z hz => Row.own (hfa z hz)
    have hFa7 : FilesAt w7 va Ea := (hFa5.ext0 hx6).ext hx7 (by
      rintro k (rfl | rfl) c' e' fr hc'
      · rw [hT6.at_.cell] at hc'; cases hc'; exact ⟨by decide, by decide⟩
      · obtain ⟨al, ⟨es, cl, hm, _⟩, _⟩ := hT6.at_.reps
        rw [hm] at hc'; cases hc')
    have hEal : Ea.length = m.length := by have := congrArg List.length hEa; simpa [Tr.files] using this
    obtain ⟨aa, ac, rfl, han, ham⟩ := own_slice hva
    have hx07 : Ext none_ w w7 := (hx4.trans (hx5.trans hx6)).trans' hx7 hTwo
    refine W.loop (X := Nat × List FE × Value) (fun x => [(12, .int .i64 x.1), (11, x.2.2), (10, .int .i64 f), (9, .int .i64 (Sp.clean p).2), (8, .string (S (Sp.clean p).1)), (7, .slice aa Ea.length ac), (5, pT bt), (1, .string (S p))])
      (fun x w' => x.1 ≤ Ea.length ∧ x.2.1 = (Ea.take x.1).filter (kept f (Sp.clean p).1) ∧ w'.ownsRow w7.heap.size tF 3 x.2.2 x.2.1.length (x.2.1.flatMap fcells) ∧ Ext none_ w7 w') (fun x => Ea.length - x.1) (0, [], .slice none 0 0) ⟨rfl, rfl, rfl, rfl, rfl, rfl, rfl, rfl, trivial⟩
      ⟨by simp, rfl, own_nil _ _ _ _, Ext.refl _ _⟩ ?_
    rintro ⟨j, K, vl⟩ w8 ⟨hj, hK, hown, hx8⟩
    dsimp only at hj hK hown ⊢
    have hKl : K.length ≤ j := by rw [hK]; have := List.length_filter_le (kept f (Sp.clean p).1) (Ea.take j); rw [List.length_take] at this; omega
    refine W.seq ?_
    refine W.seq ?_
    refine W.reg <| mv rfl rfl <| mv rfl rfl <| lenV rfl u_files rfl <| lssI rfl rfl rfl <| L.nil ?_
    refine N.th ?_
    refine W.cond rfl (fun h => ?_) (fun h => ?_)
    · refine W.skip ?_
      refine N.th ?_
      have hj1 : j < Ea.length := by simp at h; omega
      obtain ⟨x, hxe⟩ : ∃ x, Ea[j]? = some x := ⟨_, List.getElem?_eq_getElem hj1⟩
      have hF8 := hFa7.ext0 hx8
      rcases hF8.row.form with ⟨h0, h3, _⟩ | ⟨fb, fo, fc, h0, -, -, -, -⟩
      · omega
      cases h0
      have htk : Ea.take (j + 1) = Ea.take j ++ [x] := by rw [List.take_add_one, hxe]; rfl
      obtain ⟨hc0, -, -⟩ := hF8.cell hxe
      refine W.seqM (fun E w' => ∃ vl' : Value, ∃ K' : List FE, E = [(12, .int .i64 j), (11, vl'), (10, .int .i64 f), (9, .int .i64 (Sp.clean p).2), (8, .string (S (Sp.clean p).1)), (7, .slice (some ⟨fb, fo, none⟩) Ea.length ac), (5, pT bt), (1, .string (S p))] ∧ K' = (Ea.take (j + 1)).filter (kept f (Sp.clean p).1) ∧ w'.ownsRow w7.heap.size tF 3 vl' K'.length (K'.flatMap fcells) ∧ Ext none_ w7 w') ?_ ?_   -- CUT
      · refine W.block ?_
        refine W.seqM (fun E w' => E = [(65, .bool (kept f (Sp.clean p).1 x)), (12, .int .i64 j), (11, vl), (10, .int .i64 f), (9, .int .i64 (Sp.clean p).2), (8, .string (S (Sp.clean p).1)), (7, .slice (some ⟨fb, fo, none⟩) Ea.length ac), (5, pT bt), (1, .string (S p))] ∧ w' = w8) ?_ ?_
        · refine W.reg ?_
          (repeat (first | refine mv rfl rfl ?_ | refine asg rfl rfl ?_ | refine L.off rfl rfl rfl rfl rfl ?_ | refine L.offU rfl rfl rfl rfl ?_ | refine L.on rfl rfl rfl ?_ | refine pickT rfl rfl rfl ?_ | refine pickF rfl rfl rfl ?_ | refine ext rfl rfl rfl ?_ | refine nilc rfl rfl ?_ | refine lenV (t := 46) rfl u_strs rfl ?_ | refine lenV (t := 25) rfl u_bytes rfl ?_ | refine lenV (t := 22) rfl u_files rfl ?_ | refine lenS (t := 9) rfl u_str rfl ?_ | refine eqlI rfl rfl rfl ?_ | refine neqI rfl rfl rfl ?_ | refine lssI rfl rfl rfl ?_ | refine leqI rfl rfl rfl ?_ | refine gtrI rfl rfl rfl ?_ | refine geqI rfl rfl rfl ?_))
          by_cases hf : f = 0
          · refine Vc.bf (by simp [hf]) ?_
            (repeat (first | refine mv rfl rfl ?_ | refine asg rfl rfl ?_ | refine L.off rfl rfl rfl rfl rfl ?_ | refine L.offU rfl rfl rfl rfl ?_ | refine L.on rfl rfl rfl ?_ | refine pickT rfl rfl rfl ?_ | refine pickF rfl rfl rfl ?_ | refine ext rfl rfl rfl ?_ | refine nilc rfl rfl ?_ | refine lenV (t := 46) rfl u_strs rfl ?_ | refine lenV (t := 25) rfl u_bytes rfl ?_ | refine lenV (t := 22) rfl u_files rfl ?_ | refine lenS (t := 9) rfl u_str rfl ?_ | refine eqlI rfl rfl rfl ?_ | refine neqI rfl rfl rfl ?_ | refine lssI rfl rfl rfl ?_ | refine leqI rfl rfl rfl ?_ | refine gtrI rfl rfl rfl ?_ | refine geqI rfl rfl rfl ?_))
            refine ixa rfl rfl u_files sz_File rfl (by omega) (by omega) <| L.on rfl rfl rfl <| fad rfl fl_File_0 rfl <| L.on rfl rfl rfl <| ld1 rfl ag_str rfl hc0 <| L.on rfl rfl rfl <| mv rfl rfl <| L.on rfl rfl rfl <| call (vs := [_, _]) rfl rfl ok_RWithin (c_RWithin x.1 (Sp.clean p).1 w8) ?_
            rintro e w9 ⟨rfl, rfl⟩
            refine ⟨_, rfl, ?_⟩
            refine L.on rfl rfl rfl <| notB rfl rfl <| pickF rfl rfl rfl <| L.nil ?_
            exact N.th (N.meet [(65, .bool (!Sp.within x.1 (Sp.clean p).1)), (12, _), (11, _), (10, _), (9, _), (8, _), (7, _), (5, _), (1, _)] ⟨rfl, rfl, rfl, rfl, rfl, rfl, rfl, rfl, rfl, trivial⟩ ⟨by simp [kept, hf], rfl⟩)
          · refine Vc.bt (by simpa using hf) ?_
            (repeat (first | refine mv rfl rfl ?_ | refine asg rfl rfl ?_ | refine L.off rfl rfl rfl rfl rfl ?_ | refine L.offU rfl rfl rfl rfl ?_ | refine L.on rfl rfl rfl ?_ | refine pickT rfl rfl rfl ?_ | refine pickF rfl rfl rfl ?_ | refine ext rfl rfl rfl ?_ | refine nilc rfl rfl ?_ | refine lenV (t := 46) rfl u_strs rfl ?_ | refine lenV (t := 25) rfl u_bytes rfl ?_ | refine lenV (t := 22) rfl u_files rfl ?_ | refine lenS (t := 9) rfl u_str rfl ?_ | refine eqlI rfl rfl rfl ?_ | refine neqI rfl rfl rfl ?_ | refine lssI rfl rfl rfl ?_ | refine leqI rfl rfl rfl ?_ | refine gtrI rfl rfl rfl ?_ | refine geqI rfl rfl rfl ?_))
            refine L.nil ?_
            exact N.th (N.meet [(65, .bool true), (12, _), (11, _), (10, _), (9, _), (8, _), (7, _), (5, _), (1, _)] ⟨rfl, rfl, rfl, rfl, rfl, rfl, rfl, rfl, rfl, trivial⟩ ⟨by simp [kept, hf], rfl⟩)
        rintro E w9 ⟨rfl, rfl⟩
        refine W.cond rfl (fun h => ?_) (fun h => ?_)
        · obtain ⟨hb1, hb2⟩ := fbuild (hF8.bytes x (List.mem_of_getElem? hxe))
          refine W.reg <| mv rfl rfl <| mv rfl rfl <| mv rfl rfl <| ixa rfl rfl u_files sz_File rfl (by omega) (by omega) <| ldk (cs := fcells x) rfl ag_File sz_File rfl rfl (fun j v hj => hF8.cells hxe j v hj) <|
            push1 (cs := (fcells x).toArray) rfl rfl rfl rfl hb1 el_files rfl hb2 hown (by omega) (by simp only [maxLen]; omega) hx8.size fun v' w10 hown10 hx10 => ?_
          refine asg rfl rfl <| L.nil ?_
          refine N.inb ?_
          refine N.th (N.meet [(12, _), (11, v'), (10, _), (9, _), (8, _), (7, _), (5, _), (1, _)] ⟨rfl, rfl, rfl, rfl, rfl, rfl, rfl, rfl, trivial⟩ ⟨v', K ++ [x], rfl, ?_, ?_, hx8.own hown hx10⟩)   -- MEET
          · rw [htk, List.filter_append, hK]; simp [h]
          · rw [fcells_snoc, List.length_append]; exact hown10
        · refine W.skip ?_
          refine N.inb ?_
          refine N.th (N.meet [(12, _), (11, _), (10, _), (9, _), (8, _), (7, _), (5, _), (1, _)] ⟨rfl, rfl, rfl, rfl, rfl, rfl, rfl, rfl, trivial⟩ ⟨vl, K, rfl, ?_, hown, hx8⟩)   -- MEET
          rw [htk, List.filter_append, hK]; simp [h]
      rintro E w9 ⟨vl', K', rfl, hK', hown', hx9⟩
      refine W.reg <| mv rfl rfl <| addI (c := ((j + 1 : Nat) : Int)) rfl rfl rfl (by rw [w64 (by omega) (by omega)]; simp) <| asg rfl rfl <| L.nil ?_
      exact N.th (N.round (x := (j + 1, K', vl')) ⟨rfl, rfl, rfl, rfl, rfl, rfl, rfl, rfl, trivial⟩ ⟨by dsimp only; omega, hK', hown', hx9⟩ (by dsimp only; omega))   -- ROUND
    · refine W.exit ?_
      refine N.xth ?_
      refine N.xth ?_
      refine N.xeq ?_
      refine N.th ?_
      have hjl : j = Ea.length := by simp at h; omega
      rw [hjl, List.take_length] at hK
      have hT8 := hT7.ext0 hx8
      have hml' := hok'.len
      have hmb' := hok'.bytes
      refine W.seq ?_
      refine W.reg <| mv rfl rfl <| call (vs := [_]) rfl rfl ok_Files (c_Files hT8 (by omega) (by omega)) ?_
      rintro e w9 ⟨vb, Eb, rfl, hEb, hvb, hfb, hx9⟩
      refine ⟨_, rfl, ?_⟩
      have hEbl : Eb.length = m'.length := by have := congrArg List.length hEb; simpa [Tr.files] using this
      have hFb : FilesAt w9 vb Eb := FilesAt.own hvb fun z hz => Row.own (hfb z hz)
      have hFl : FilesAt w9 vl K := (FilesAt.own hown fun z hz => (hFa7.ext0 hx8).bytes z (by rw [hK] at hz; exact (List.mem_filter.1 hz).1)).ext0 hx9
      refine mv rfl rfl <| call (vs := [_, _]) rfl rfl ok_HFiles (c_HFiles hFb hFl (by omega) (by omega)) ?_
      rintro e w10 ⟨rfl, hx10⟩
      refine ⟨_, rfl, ?_⟩
      have heq : Eb.map fnd = K.map fnd := by
        rw [hEb, ← hr1, ← hEa, hK, List.filter_map]
        rfl
      rw [decide_eq_true heq]
      have hx010 : Ext none_ w w10 := hx07.trans (hx8.trans (hx9.trans hx10))
      have hT10 := (hT8.ext0 hx9).ext0 hx10
      refine mv rfl rfl <| L.on rfl rfl rfl <| mv rfl rfl <| L.on rfl rfl rfl <| eqlI rfl rfl rfl <| L.on rfl rfl rfl <| ?_
      have fin : ∀ {E : Env} {w' : World}, Ext none_ w w' → getE E 4 = some (.bool true) → W Fence.wide 0 P [] 96 .ret (bodyPost P Tryz.f10 fun e w' => e = .returned (.bool true) ∧ Ext none_ w w') E w' := fun hx hE => by
        refine W.ret ?_
        refine N.ret1 rfl hE ?_
        exact ⟨rfl, hx⟩
      by_cases he : (Sp.clean p).2 = 0
      · refine Vc.bt (by simpa using he) ?_
        (repeat (first | refine mv rfl rfl ?_ | refine asg rfl rfl ?_ | refine L.off rfl rfl rfl rfl rfl ?_ | refine L.offU rfl rfl rfl rfl ?_ | refine L.on rfl rfl rfl ?_ | refine pickT rfl rfl rfl ?_ | refine pickF rfl rfl rfl ?_ | refine ext rfl rfl rfl ?_ | refine nilc rfl rfl ?_ | refine lenV (t := 46) rfl u_strs rfl ?_ | refine lenV (t := 25) rfl u_bytes rfl ?_ | refine lenV (t := 22) rfl u_files rfl ?_ | refine lenS (t := 9) rfl u_str rfl ?_ | refine eqlI rfl rfl rfl ?_ | refine neqI rfl rfl rfl ?_ | refine lssI rfl rfl rfl ?_ | refine leqI rfl rfl rfl ?_ | refine gtrI rfl rfl rfl ?_ | refine geqI rfl rfl rfl ?_))
        by_cases hf : f = 0
        · refine Vc.bf (by simpa using hf) ?_
          (repeat (first | refine mv rfl rfl ?_ | refine asg rfl rfl ?_ | refine L.off rfl rfl rfl rfl rfl ?_ | refine L.offU rfl rfl rfl rfl ?_ | refine L.on rfl rfl rfl ?_ | refine pickT rfl rfl rfl ?_ | refine pickF rfl rfl rfl ?_ | refine ext rfl rfl rfl ?_ | refine nilc rfl rfl ?_ | refine lenV (t := 46) rfl u_strs rfl ?_ | refine lenV (t := 25) rfl u_bytes rfl ?_ | refine lenV (t := 22) rfl u_files rfl ?_ | refine lenS (t := 9) rfl u_str rfl ?_ | refine eqlI rfl rfl rfl ?_ | refine neqI rfl rfl rfl ?_ | refine lssI rfl rfl rfl ?_ | refine leqI rfl rfl rfl ?_ | refine gtrI rfl rfl rfl ?_ | refine geqI rfl rfl rfl ?_))
          refine call (vs := [_, _]) rfl rfl ok_Exists (c_Exists p hT10) ?_
          rintro e w11 ⟨rfl, hx11⟩
          refine ⟨_, rfl, ?_⟩
          refine L.on rfl rfl rfl <| notB rfl rfl <| Vc.bt (by rw [hr3.resolve_left (by simpa using hf)]; rfl) ?_
          (repeat (first | refine mv rfl rfl ?_ | refine asg rfl rfl ?_ | refine L.off rfl rfl rfl rfl rfl ?_ | refine L.offU rfl rfl rfl rfl ?_ | refine L.on rfl rfl rfl ?_ | refine pickT rfl rfl rfl ?_ | refine pickF rfl rfl rfl ?_ | refine ext rfl rfl rfl ?_ | refine nilc rfl rfl ?_ | refine lenV (t := 46) rfl u_strs rfl ?_ | refine lenV (t := 25) rfl u_bytes rfl ?_ | refine lenV (t := 22) rfl u_files rfl ?_ | refine lenS (t := 9) rfl u_str rfl ?_ | refine eqlI rfl rfl rfl ?_ | refine neqI rfl rfl rfl ?_ | refine lssI rfl rfl rfl ?_ | refine leqI rfl rfl rfl ?_ | refine gtrI rfl rfl rfl ?_ | refine geqI rfl rfl rfl ?_))
          exact L.nil <| N.th <| fin (hx010.trans hx11) rfl
        · refine Vc.bt (by simpa using hf) ?_
          (repeat (first | refine mv rfl rfl ?_ | refine asg rfl rfl ?_ | refine L.off rfl rfl rfl rfl rfl ?_ | refine L.offU rfl rfl rfl rfl ?_ | refine L.on rfl rfl rfl ?_ | refine pickT rfl rfl rfl ?_ | refine pickF rfl rfl rfl ?_ | refine ext rfl rfl rfl ?_ | refine nilc rfl rfl ?_ | refine lenV (t := 46) rfl u_strs rfl ?_ | refine lenV (t := 25) rfl u_bytes rfl ?_ | refine lenV (t := 22) rfl u_files rfl ?_ | refine lenS (t := 9) rfl u_str rfl ?_ | refine eqlI rfl rfl rfl ?_ | refine neqI rfl rfl rfl ?_ | refine lssI rfl rfl rfl ?_ | refine leqI rfl rfl rfl ?_ | refine gtrI rfl rfl rfl ?_ | refine geqI rfl rfl rfl ?_))
          exact L.nil <| N.th <| fin hx010 rfl
      · have hfe := hr2.resolve_left he
        have hf : f ≠ 0 := by rw [hfe]; exact he
        refine Vc.bf (by simpa using he) ?_
        (repeat (first | refine mv rfl rfl ?_ | refine asg rfl rfl ?_ | refine L.off rfl rfl rfl rfl rfl ?_ | refine L.offU rfl rfl rfl rfl ?_ | refine L.on rfl rfl rfl ?_ | refine pickT rfl rfl rfl ?_ | refine pickF rfl rfl rfl ?_ | refine ext rfl rfl rfl ?_ | refine nilc rfl rfl ?_ | refine lenV (t := 46) rfl u_strs rfl ?_ | refine lenV (t := 25) rfl u_bytes rfl ?_ | refine lenV (t := 22) rfl u_files rfl ?_ | refine lenS (t := 9) rfl u_str rfl ?_ | refine eqlI rfl rfl rfl ?_ | refine neqI rfl rfl rfl ?_ | refine lssI rfl rfl rfl ?_ | refine leqI rfl rfl rfl ?_ | refine gtrI rfl rfl rfl ?_ | refine geqI rfl rfl rfl ?_))
        refine Vc.bt (by simpa using hfe) ?_
        (repeat (first | refine mv rfl rfl ?_ | refine asg rfl rfl ?_ | refine L.off rfl rfl rfl rfl rfl ?_ | refine L.offU rfl rfl rfl rfl ?_ | refine L.on rfl rfl rfl ?_ | refine pickT rfl rfl rfl ?_ | refine pickF rfl rfl rfl ?_ | refine ext rfl rfl rfl ?_ | refine nilc rfl rfl ?_ | refine lenV (t := 46) rfl u_strs rfl ?_ | refine lenV (t := 25) rfl u_bytes rfl ?_ | refine lenV (t := 22) rfl u_files rfl ?_ | refine lenS (t := 9) rfl u_str rfl ?_ | refine eqlI rfl rfl rfl ?_ | refine neqI rfl rfl rfl ?_ | refine lssI rfl rfl rfl ?_ | refine leqI rfl rfl rfl ?_ | refine gtrI rfl rfl rfl ?_ | refine geqI rfl rfl rfl ?_))
        refine Vc.bt (by simpa using hf) ?_
        (repeat (first | refine mv rfl rfl ?_ | refine asg rfl rfl ?_ | refine L.off rfl rfl rfl rfl rfl ?_ | refine L.offU rfl rfl rfl rfl ?_ | refine L.on rfl rfl rfl ?_ | refine pickT rfl rfl rfl ?_ | refine pickF rfl rfl rfl ?_ | refine ext rfl rfl rfl ?_ | refine nilc rfl rfl ?_ | refine lenV (t := 46) rfl u_strs rfl ?_ | refine lenV (t := 25) rfl u_bytes rfl ?_ | refine lenV (t := 22) rfl u_files rfl ?_ | refine lenS (t := 9) rfl u_str rfl ?_ | refine eqlI rfl rfl rfl ?_ | refine neqI rfl rfl rfl ?_ | refine lssI rfl rfl rfl ?_ | refine leqI rfl rfl rfl ?_ | refine gtrI rfl rfl rfl ?_ | refine geqI rfl rfl rfl ?_))
        exact L.nil <| N.th <| fin hx010 rfl
end Go.Proofs.YtmdpmpdlkaogdaaGreatDoor

namespace Go.Proofs.YtmdpmpdlkaogdaaGreatDoor
open Go Go.RowKit Vc

abbrev tRT : TypeId := 65
theorem ag_files : aggB P 22 = some false := by kernel_rfl
theorem sz_files : szB P 22 = some 1 := by kernel_rfl
theorem fl_RT_0 : fldB P tRT 0 = some 0 := by kernel_rfl
theorem ok_Rat : FnOk P 77 := ⟨_, Tryz.func77, by kernel_rfl, by kernel_rfl⟩
theorem ok_RSize : FnOk P 55 := ⟨_, Tryz.func55, by kernel_rfl, by kernel_rfl⟩
theorem ok_Rahead : FnOk P 78 := ⟨_, Tryz.func78, by kernel_rfl, by kernel_rfl⟩

/-- Block rt is the document's tree: its list lies at lv, and is E. -/
structure RTAt (w : World) (rt : Nat) (lv : Value) (E : List FE) : Prop where
  cell : w.heap[rt]? = some (.cells #[lv] tRT (0, 0))
  files : FilesAt w lv E
theorem RTAt.ext {S : Nat → Prop} {w w' : World} {rt : Nat} {lv : Value} {E : List FE} (h : RTAt w rt lv E) (hx : Ext S w w') (h1 : ¬ S rt) (hS : ∀ k, S k → ∀ c e fr, w.heap[k]? = some (.cells c e fr) → e ≠ tF ∧ e ≠ tB) : RTAt w' rt lv E :=
  ⟨hx.obj h.cell h1, h.files.ext hx hS⟩
theorem RTAt.ext0 {w w' : World} {rt : Nat} {lv : Value} {E : List FE} (h : RTAt w rt lv E) (hx : Ext none_ w w') : RTAt w' rt lv E := h.ext hx id fun _ h => h.elim
theorem RTAt.lt {w : World} {rt : Nat} {lv : Value} {E : List FE} (h : RTAt w rt lv E) : rt < w.heap.size := lt_of_obj h.cell
theorem RTAt.c0 {w : World} {rt : Nat} {lv : Value} {E : List FE} (h : RTAt w rt lv E) : w.cell? ⟨rt, 0, none⟩ = some lv := cell_of h.cell rfl
/-- The lists that came of it stay, whatever is done to it. -/
theorem rt_kd {w : World} {rt : Nat} {lv : Value} {E : List FE} (h : RTAt w rt lv E) : ∀ k, k = rt → ∀ c e fr, w.heap[k]? = some (.cells c e fr) → e ≠ tF ∧ e ≠ tB := by
  rintro k rfl c e fr hc
  rw [h.cell] at hc; cases hc; exact ⟨by decide, by decide⟩
theorem RTAt.slice {w : World} {rt : Nat} {lv : Value} {E : List FE} (h : RTAt w rt lv E) : ∃ a c, lv = .slice a E.length c ∧ E.length ≤ c := by
  obtain ⟨-, a, c, h1, h2, -⟩ := h.files.row
  exact ⟨a, c, h1, h2⟩
/-- Where there is a file, the list lies somewhere. -/
theorem RTAt.some_ {w : World} {rt : Nat} {a : Option Addr} {n c i : Nat} {E : List FE} {x : FE} (h : RTAt w rt (.slice a n c) E) (hi : E[i]? = some x) : ∃ b o, a = some ⟨b, o, none⟩ ∧ n = E.length ∧ i < E.length := by
  have hlt := (List.getElem?_eq_some_iff.1 hi).1
  rcases h.files.row.form with ⟨h0, h3, _⟩ | ⟨b, o, c', h0, -, -, -, -⟩
  · omega
  · cases h0; exact ⟨b, o, rfl, rfl, hlt⟩
abbrev fm (E : List FE) : Tr.T := E.map fnd
theorem fm_len (E : List FE) : (fm E).length = E.length := by simp
/-- What 'at' tells. -/
def AtR (E : List FE) (p : Tr.Bytes) (k : Int) : Prop := (k = -1 ∧ Tr.get (fm E) p = none) ∨ ∃ (i : Nat) (x : FE), k = i ∧ E[i]? = some x ∧ Tr.get (fm E) p = some (x.2.1, x.2.2.2)
theorem get_fm_none {E : List FE} {p : Tr.Bytes} (h : ∀ x ∈ E, x.1 ≠ p) : Tr.get (fm E) p = none := by
  rw [Tr.get_none]
  intro hm
  obtain ⟨y, hy, rfl⟩ := List.mem_map.1 hm
  obtain ⟨x, hx, rfl⟩ := List.mem_map.1 hy
  exact h x hx rfl

theorem c_Rat {w : World} {rt : Nat} {lv : Value} {E : List FE} (p : Tr.Bytes) (h : RTAt w rt lv E) (hl : E.length ≤ 1000000) :
    Calls P 77 #[pT rt, .string (S p)] w fun e w' => ∃ k, e = .returned (.int .i64 k) ∧ AtR E p k ∧ w = w' := by
  obtain ⟨a, c, rfl, hc⟩ := h.slice
  refine enter (l := [_, _]) (n := 26) Tryz.func77 rfl rfl rfl ?_
  refine W.seq ?_
  refine W.reg <| asg rfl rfl <| L.nil ?_
  refine N.th ?_
  refine W.seq ?_
  refine W.seq ?_
  refine W.reg <| asg rfl rfl <| L.nil ?_
  refine N.th ?_
  refine W.block ?_
  refine W.loop (X := Nat) (fun i => [(0, pT rt), (1, .string (S p)), (5, .int .i64 i)]) (fun i w' => i ≤ E.length ∧ w' = w ∧ ∀ x ∈ E.take i, x.1 ≠ p) (fun i => E.length - i) 0 ⟨rfl, rfl, rfl, trivial⟩ ⟨by omega, rfl, by simp⟩ ?_
  rintro i w1 ⟨hi, rfl, hno⟩
  refine W.seq ?_
  refine W.seq ?_
  refine W.reg <| mv rfl rfl <| mv rfl rfl <| nilc rfl rfl <| fad rfl fl_RT_0 rfl <| ld1 rfl ag_files rfl h.c0 <| lenV rfl u_files rfl <| lssI rfl rfl rfl <| L.nil ?_
  refine N.th ?_
  refine W.cond rfl (fun hh => ?_) (fun hh => ?_)
  · refine W.skip ?_
    refine N.th ?_
    have hi1 : i < E.length := by simp at hh; omega
    obtain ⟨x, hxe⟩ : ∃ x, E[i]? = some x := ⟨_, List.getElem?_eq_getElem hi1⟩
    obtain ⟨b, o, rfl, -, -⟩ := h.some_ hxe
    have hc0 := (h.files.cell hxe).1
    refine W.seq ?_
    refine W.block ?_
    refine W.seq ?_
    refine W.reg <| mv rfl rfl <| nilc rfl rfl <| fad rfl fl_RT_0 rfl <| ld1 rfl ag_files rfl h.c0 <| mv rfl rfl <| ixa rfl rfl u_files sz_File rfl (by omega) (by omega) <| fad rfl fl_File_0 rfl <| ld1 rfl ag_str rfl hc0 <| mv rfl rfl <| eqlS rfl rfl rfl <| L.nil ?_
    refine N.th ?_
    refine W.cond rfl (fun hq => ?_) (fun hq => ?_)
    · refine W.seq ?_
      refine W.reg <| mv rfl rfl <| asg rfl rfl <| L.nil ?_
      refine N.th ?_
      refine W.ret ?_
      refine N.rinb <| N.rth <| N.rth <| N.rinb <| N.rth ?_
      refine N.ret1 rfl rfl ?_   -- RETURN
      have hxp : x.1 = p := by simpa using hq
      refine ⟨_, rfl, .inr ⟨i, x, rfl, hxe, ?_⟩, rfl⟩
      have hsplit : E = E.take i ++ x :: E.drop (i + 1) := by
        have e1 := (List.take_append_drop i E).symm
        obtain ⟨hlt, hbb⟩ := List.getElem?_eq_some_iff.1 hxe
        rw [List.drop_eq_getElem_cons hlt, hbb] at e1
        exact e1
      have hfm : fm E = fm (E.take i) ++ fnd x :: fm (E.drop (i + 1)) := by
        have := congrArg fm hsplit
        rw [this]; simp [fm]
      rw [hfm, Tr.get_app, get_fm_none hno, Tr.get_cons, if_pos (show (fnd x).1 = p from hxp)]
      rfl
    · refine W.skip ?_
      refine N.inb ?_
      refine N.th ?_
      refine W.reg <| mv rfl rfl <| addI (c := ((i + 1 : Nat) : Int)) rfl rfl rfl (by rw [w64 (by omega) (by omega)]; simp) <| asg rfl rfl <| L.nil ?_
      refine N.th (N.round (x := i + 1) ⟨rfl, rfl, rfl, trivial⟩ ⟨by omega, rfl, fun y hy => ?_⟩ (by omega))   -- ROUND
      rw [List.take_add_one, hxe] at hy
      rcases List.mem_append.1 hy with hy | hy
      · exact hno y hy
      · simp at hy; subst hy; simpa using hq
  · refine W.exit ?_
    refine N.xth ?_
    refine N.xth ?_
    refine N.xeq ?_
    refine N.th ?_
    refine W.seq ?_
    refine W.reg <| asg rfl rfl <| L.nil ?_
    refine N.th ?_
    refine W.ret ?_
    refine N.ret1 rfl rfl ?_   -- RETURN
    have hi1 : i = E.length := by simp at hh; omega
    rw [hi1, List.take_length] at hno
    exact ⟨_, rfl, .inl ⟨rfl, get_fm_none hno⟩, rfl⟩

theorem size_fm_take (E : List FE) (i : Nat) : Tr.size (fm (E.take i)) ≤ Tr.size (fm E) := by
  have : fm E = fm (E.take i) ++ fm (E.drop i) := by rw [← List.map_append, List.take_append_drop]
  rw [this, Tr.size_append]; omega
theorem size_fm_snoc (E : List FE) (x : FE) : Tr.size (fm (E ++ [x])) = Tr.size (fm E) + x.2.2.2.length := by
  simp [Tr.size, fnd]

theorem c_RSize {w : World} {rt : Nat} {lv : Value} {E : List FE} (h : RTAt w rt lv E) (hl : E.length ≤ 1000000) (hs : Tr.size (fm E) ≤ 1000000000000) :
    Calls P 55 #[pT rt] w fun e w' => e = .returned (.int .i64 (Tr.size (fm E))) ∧ w = w' := by
  obtain ⟨a, c, rfl, hc⟩ := h.slice
  refine enter (l := [_]) (n := 26) Tryz.func55 rfl rfl rfl ?_
  refine W.seq ?_
  refine W.reg <| asg rfl rfl <| L.nil ?_
  refine N.th ?_
  refine W.seq ?_
  refine W.reg <| asg rfl rfl <| L.nil ?_
  refine N.th ?_
  refine W.seq ?_
  refine W.seq ?_
  refine W.reg <| asg rfl rfl <| L.nil ?_
  refine N.th ?_
  refine W.block ?_
  refine W.loop (X := Nat) (fun i => [(0, pT rt), (3, .int .i64 (Tr.size (fm (E.take i)))), (4, .int .i64 i)]) (fun i w' => i ≤ E.length ∧ w' = w) (fun i => E.length - i) 0 ⟨rfl, rfl, rfl, trivial⟩ ⟨by omega, rfl⟩ ?_
  rintro i w1 ⟨hi, rfl⟩
  refine W.seq ?_
  refine W.seq ?_
  refine W.reg <| mv rfl rfl <| mv rfl rfl <| nilc rfl rfl <| fad rfl fl_RT_0 rfl <| ld1 rfl ag_files rfl h.c0 <| lenV rfl u_files rfl <| lssI rfl rfl rfl <| L.nil ?_
  refine N.th ?_
  refine W.cond rfl (fun hh => ?_) (fun hh => ?_)
  · refine W.skip ?_
    refine N.th ?_
    have hi1 : i < E.length := by simp at hh; omega
    obtain ⟨x, hxe⟩ : ∃ x, E[i]? = some x := ⟨_, List.getElem?_eq_getElem hi1⟩
    obtain ⟨b, o, rfl, -, -⟩ := h.some_ hxe
    have hc2 := (h.files.cell hxe).2.2
    obtain ⟨-, xa, xc, hxv, -⟩ := h.files.bytes x (List.mem_of_getElem? hxe)
    rw [hxv] at hc2
    have htk : E.take (i + 1) = E.take i ++ [x] := by rw [List.take_add_one, hxe]; rfl
    have hsz := size_fm_take E (i + 1)
    have hsn := size_fm_snoc (E.take i) x
    rw [← htk] at hsn
    refine W.seq ?_
    refine W.block ?_
    refine W.reg <| mv rfl rfl <| mv rfl rfl <| nilc rfl rfl <| fad rfl fl_RT_0 rfl <| ld1 rfl ag_files rfl h.c0 <| mv rfl rfl <| ixa rfl rfl u_files sz_File rfl (by omega) (by omega) <| fad rfl fl_File_2 rfl <| ld1 rfl ag_bytes rfl hc2 <| lenV rfl u_bytes rfl <| addI (c := (Tr.size (fm (E.take (i + 1))) : Int)) rfl rfl rfl (by rw [w64 (by omega) (by omega)]; omega) <| asg rfl rfl <| L.nil ?_
    refine N.inb ?_
    refine N.th ?_
    refine W.reg <| mv rfl rfl <| addI (c := ((i + 1 : Nat) : Int)) rfl rfl rfl (by rw [w64 (by omega) (by omega)]; simp) <| asg rfl rfl <| L.nil ?_
    exact N.th (N.round (x := i + 1) ⟨rfl, rfl, rfl, trivial⟩ ⟨by omega, rfl⟩ (by omega))   -- ROUND
  · refine W.exit ?_
    refine N.xth ?_
    refine N.xth ?_
    refine N.xeq ?_
    refine N.th ?_
    refine W.seq ?_
    refine W.reg <| mv rfl rfl <| asg rfl rfl <| L.nil ?_
    refine N.th ?_
    refine W.ret ?_
    refine N.ret1 rfl rfl ?_   -- RETURN
    have hi1 : i = E.length := by simp at hh; omega
    rw [hi1, List.take_length]
    exact ⟨rfl, rfl⟩

theorem ups_take (l : List Sp.Bytes) (i : Nat) : (Tr.ups l).take (i + 1) = (Tr.ups l).take i ++ if i + 1 < l.length then [Sp.glue (l.take (i + 1))] else [] := by
  rw [List.take_add_one]
  congr 1
  unfold Tr.ups
  rw [List.getElem?_map]
  by_cases h : i + 1 < l.length
  · rw [if_pos h, List.getElem?_range (by omega)]; rfl
  · rw [if_neg h, List.getElem?_eq_none (by simp; omega)]; rfl
theorem ups_len (l : List Sp.Bytes) : (Tr.ups l).length = l.length - 1 := by simp [Tr.ups]

theorem c_Rahead {w : World} {rt : Nat} {lv : Value} {E : List FE} (p : Tr.Bytes) (h : RTAt w rt lv E) (hl : E.length ≤ 1000000) (hp : p.length ≤ 1000000) :
    Calls P 78 #[pT rt, .string (S p)] w fun e w' => Ext none_ w w' ∧ match Tr.ahd (fm E) (Tr.ups (Sp.parts p)) with
      | none => e = .returned (.tuple #[.bool true, .slice none 0 0])
      | some k => ∃ v, e = .returned (.tuple #[.bool false, v]) ∧ StrsA w.heap.size w' v k := by
  refine enter (l := [_, _]) (n := 42) Tryz.func78 rfl rfl rfl ?_
  refine W.seq ?_
  refine W.reg <| asg rfl rfl <| asg rfl rfl <| L.nil ?_
  refine N.th ?_
  refine W.seq ?_
  refine W.reg <| asg rfl rfl <| L.nil ?_
  refine N.th ?_
  refine W.seq ?_
  refine W.reg <| mv rfl rfl <| call (vs := [_]) rfl rfl ok_RParts (c_RParts p (by omega) w) ?_
  rintro e w1 ⟨pv, rfl, hpv, hx1⟩
  refine ⟨_, rfl, ?_⟩
  obtain ⟨hps, hpl⟩ := parts_sum p
  generalize Sp.parts p = Ls at hpv hps hpl ⊢
  obtain ⟨la, lc, rfl, hlc, hlm⟩ := own_slice hpv
  refine asg rfl rfl <| L.nil ?_
  refine N.th ?_
  refine W.seq ?_
  refine W.seq ?_
  refine W.reg <| asg rfl rfl <| L.nil ?_
  refine N.th ?_
  refine W.block ?_
  have hs1 := hx1.size
  refine W.loop (X := Nat × List Sp.Bytes × Value) (fun x => [(0, pT rt), (6, x.2.2), (7, .slice la Ls.length lc), (8, .int .i64 ((x.1 : Int) + 1))])
    (fun x w' => x.1 ≤ Ls.length ∧ Tr.ahd (fm E) ((Tr.ups Ls).take x.1) = some x.2.1 ∧ x.2.1.length ≤ x.1 ∧ StrsA w1.heap.size w' x.2.2 x.2.1 ∧ Ext none_ w1 w') (fun x => Ls.length - x.1) (0, [], .slice none 0 0) ⟨rfl, rfl, rfl, rfl, trivial⟩
    ⟨by omega, rfl, by simp, own_nil _ _ _ _, Ext.refl _ _⟩ ?_
  rintro ⟨i, K, v⟩ w2 ⟨hi, hah, hKl, hown, hx2⟩
  dsimp only at hi hah hKl hown ⊢
  refine W.seq ?_
  refine W.seq ?_
  refine W.reg <| mv rfl rfl <| mv rfl rfl <| lenV rfl u_strs rfl <| lssI rfl rfl rfl <| L.nil ?_
  refine N.th ?_
  refine W.cond rfl (fun hh => ?_) (fun hh => ?_)
  · have hi1 : i + 1 < Ls.length := by simp at hh; omega
    refine W.skip ?_
    refine N.th ?_
    obtain ⟨d, hd⟩ : ∃ d, d = Sp.glue (Ls.take (i + 1)) := ⟨_, rfl⟩
    have htk := ups_take Ls i
    rw [if_pos hi1, ← hd] at htk
    have hsn := Tr.ahd_snoc (fm E) d ((Tr.ups Ls).take i)
    rw [← htk, hah] at hsn
    simp only at hsn
    have hR2 := (h.ext0 hx1).ext0 hx2
    have hgl : d.length ≤ 1000000000 := by
      rw [hd]
      have a1 := glue_take_len Ls (i + 1)
      have a2 := glue_len Ls
      omega
    refine W.seqM (fun E' w' => ∃ (K' : List Sp.Bytes) (v' : Value), E' = [(0, pT rt), (6, v'), (7, .slice la Ls.length lc), (8, .int .i64 ((i : Int) + 1))] ∧ Tr.ahd (fm E) ((Tr.ups Ls).take (i + 1)) = some K' ∧ K'.length ≤ i + 1 ∧ StrsA w1.heap.size w' v' K' ∧ Ext none_ w1 w') ?_ ?_   -- CUT
    · refine W.block ?_
      refine W.seq ?_
      have htake := own_take (own_ext hpv hx2 fun _ _ => id) (m := i + 1) (by omega)
      have hrow : Row w2 (.slice la (i + 1) lc) 9 1 (Ls.take (i + 1)).length (encT (Ls.take (i + 1))) := by
        have e1 : (encT Ls).take ((i + 1) * 1) = encT (Ls.take (i + 1)) := by simp [encT, List.map_take]
        have e2 : (Ls.take (i + 1)).length = i + 1 := by rw [List.length_take]; omega
        rw [e1] at htake
        rw [e2]; exact Row.own htake
      refine W.reg <| mv rfl rfl <| mv rfl rfl <| slVh rfl rfl u_strs el_strs.szB rfl (by omega) (by omega) <| call (vs := [.slice la (i + 1) lc]) rfl rfl ok_Rglue (c_Rglue w2 _ (Ls.take (i + 1)) hrow (by rw [← hd]; omega) (by rw [List.length_take]; omega)) ?_
      rintro e w3 ⟨rfl, rfl⟩
      refine ⟨_, rfl, ?_⟩
      rw [← hd]
      refine asg rfl rfl <| L.nil ?_
      refine N.th ?_
      refine W.seq ?_
      refine W.reg <| mv rfl rfl <| mv rfl rfl <| call (vs := [_, _]) rfl rfl ok_Rat (c_Rat d hR2 hl) ?_
      rintro e w3 ⟨k, rfl, hk, rfl⟩
      refine ⟨_, rfl, ?_⟩
      refine asg rfl rfl <| L.nil ?_
      refine N.th ?_
      refine W.seq ?_
      rcases hk with ⟨rfl, hg⟩ | ⟨j, x, rfl, hxe, hg⟩
      · rw [hg] at hsn
        refine W.reg <| mv rfl rfl <| lssI rfl rfl rfl <| L.nil ?_
        refine N.th ?_
        refine W.condT rfl ?_
        refine W.reg <| mv rfl rfl <| mv rfl rfl <| push1 (cs := #[.string (S d)]) rfl rfl rfl rfl (fun _ => by kernel_rfl) el_strs rfl rfl hown (by omega) (by simp only [maxLen]; omega) hx2.size fun v' w4 hown4 hx4 => ?_
        refine asg rfl rfl <| L.nil ?_
        refine N.inb ?_
        exact N.th (N.meet [(0, _), (6, v'), (7, _), (8, _)] ⟨rfl, rfl, rfl, rfl, trivial⟩ ⟨K ++ [d], v', rfl, hsn, by simp; omega, by simpa [StrsA, encT] using hown4, hx2.own hown hx4⟩)   -- MEET
      · rw [hg] at hsn
        simp only at hsn
        obtain ⟨ra, rc, rfl, -⟩ := hR2.slice
        obtain ⟨b, o, rfl, -, hjl⟩ := hR2.some_ hxe
        have hc1 := (hR2.files.cell hxe).2.1
        refine W.reg <| mv rfl rfl <| lssI rfl rfl rfl <| Vc.bf (by simp) <| L.nil ?_
        refine N.th ?_
        refine W.condF rfl ?_
        refine W.seq ?_
        refine W.reg <| mv rfl rfl <| nilc rfl rfl <| fad rfl fl_RT_0 rfl <| ld1 rfl ag_files rfl hR2.c0 <| mv rfl rfl <| ixa rfl rfl u_files sz_File rfl (by omega) (by omega) <| fad rfl fl_File_1 rfl <| ld1 rfl ag_bool rfl hc1 <| notB rfl rfl <| L.nil ?_
        refine N.th ?_
        refine W.cond rfl (fun hq => ?_) (fun hq => ?_)
        · have hx0 : x.2.1 = false := by simpa using hq
          rw [if_neg (by rw [hx0]; simp)] at hsn
          refine W.seq ?_
          refine W.reg <| asg rfl rfl <| asg rfl rfl <| L.nil ?_
          refine N.th ?_
          refine W.ret ?_
          refine N.rinb <| N.rth <| N.rth <| N.rinb <| N.rth ?_
          refine N.ret2 rfl rfl rfl ?_   -- RETURN
          have hall := Tr.ahd_app_none (fm E) ((Tr.ups Ls).drop (i + 1)) _ hsn
          rw [List.take_append_drop] at hall
          rw [hall]
          exact ⟨hx1.trans hx2, rfl⟩
        · have hx0 : x.2.1 = true := by simpa using hq
          rw [if_pos hx0] at hsn
          refine W.skip ?_
          refine N.inb ?_
          exact N.th (N.meet [(0, _), (6, v), (7, _), (8, _)] ⟨rfl, rfl, rfl, rfl, trivial⟩ ⟨K, v, rfl, hsn, by omega, hown, hx2⟩)   -- MEET
    rintro E' w3 ⟨K', v', rfl, hah', hKl', hown', hx3⟩
    refine W.reg <| mv rfl rfl <| addI (c := (((i + 1 : Nat) : Int) + 1)) rfl rfl rfl (by rw [w64 (by omega) (by omega)]; omega) <| asg rfl rfl <| L.nil ?_
    exact N.th (N.round (x := (i + 1, K', v')) ⟨rfl, rfl, rfl, rfl, trivial⟩ ⟨by dsimp only; omega, hah', hKl', hown', hx3⟩ (by dsimp only; omega))   -- ROUND
  · refine W.exit ?_
    refine N.xth ?_
    refine N.xth ?_
    refine N.xeq ?_
    refine N.th ?_
    refine W.seq ?_
    refine W.reg <| mv rfl rfl <| asg rfl rfl <| asg rfl rfl <| L.nil ?_
    refine N.th ?_
    refine W.ret ?_
    refine N.ret2 rfl rfl rfl ?_   -- RETURN
    have hi1 : Ls.length ≤ i + 1 := by simp at hh; omega
    rw [List.take_of_length_le (by rw [ups_len]; omega)] at hah
    rw [hah]
    exact ⟨hx1.trans hx2, v, rfl, own_more hown hs1⟩
end Go.Proofs.YtmdpmpdlkaogdaaGreatDoor

namespace Go.Proofs.YtmdpmpdlkaogdaaGreatDoor
open Go Go.RowKit Vc

theorem ok_Rput : FnOk P 84 := ⟨_, Tryz.func84, by kernel_rfl, by kernel_rfl⟩
theorem ok_Rmake : FnOk P 79 := ⟨_, Tryz.func79, by kernel_rfl, by kernel_rfl⟩

theorem slVlN {st : Sty} [Wy st] {P : Program} {ds : List Deferred} {n : Nat} {Q : Exit → Act → World → Prop} {E : Env} {w : World} {ops : Array Oper} {l : List Oper} {d : Nat} {ty : TypeId} {pos : String} {af : Array Edge}
    {t e : TypeId} {x lo : Operand} {sz : Nat} {κ : IntKind} (hx : opd E x = some (.slice none 0 0)) (hl : opd E lo = some (.int κ (0 : Nat))) (hu : P.underlying t = some (.slice e)) (hs : szB P e = some sz) (hd : Nat.blt d n = true)
    (k : LY st P ds n ops l Q ((d, .slice none 0 0) :: E) w) : LY st P ds n ops (⟨some d, .slice t x (some lo) none none, ty, pos, af, none⟩ :: l) Q E w := by
  refine slVl hx hl hu hs hd (by omega) (by omega) ?_
  have e1 : (if 0 = ((0 : Nat) : Int).toNat then (none : Option Addr) else (none : Option Addr).map (·.add (((0 : Nat) : Int).toNat * sz))) = none := by split <;> rfl
  rw [e1]
  exact k
/-- The list is put in its place. -/
theorem rt_store {w : World} {B rt : Nat} {lv v' : Value} {E E' : List FE} (h : RTAt w rt lv E) (hown : w.ownsRow B tF 3 v' E'.length (E'.flatMap fcells)) (hb : ∀ y ∈ E', RowB w y.2.2.1 y.2.2.2) :
    RTAt (w.setCell ⟨rt, 0 + 0, none⟩ v') rt v' E' ∧ Ext (fun k => k = rt) w (w.setCell ⟨rt, 0 + 0, none⟩ v') := by
  have hx : Ext (fun k => k = rt) w (w.setCell ⟨rt, 0 + 0, none⟩ v') := Ext.setCell (S := fun k => k = rt) _ (fun _ => rfl) _
  have hF : FilesAt w v' E' := FilesAt.own hown hb
  exact ⟨⟨by rw [setCell_heap h.cell]; rfl, hF.ext hx (rt_kd h)⟩, hx⟩
theorem flat_take {E : List FE} {i j : Nat} {u : Value} (h : ((E.take i).flatMap fcells)[j]? = some u) : (E.flatMap fcells)[j]? = some u := by
  have e : E.flatMap fcells = (E.take i).flatMap fcells ++ (E.drop i).flatMap fcells := by rw [← List.flatMap_append, List.take_append_drop]
  rw [e, List.getElem?_append_left (List.getElem?_eq_some_iff.1 h).1]; exact h
theorem fl_len (E : List FE) : (E.flatMap fcells).length = E.length * 3 := by
  induction E with
  | nil => rfl
  | cons x E ih => rw [List.flatMap_cons, List.length_append, ih, fcells_len, List.length_cons]; omega
theorem flat_drop {E : List FE} {i j : Nat} {u : Value} (hi : i ≤ E.length) (h : ((E.drop i).flatMap fcells)[j]? = some u) : (E.flatMap fcells)[i * 3 + j]? = some u := by
  have e : E.flatMap fcells = (E.take i).flatMap fcells ++ (E.drop i).flatMap fcells := by rw [← List.flatMap_append, List.take_append_drop]
  have hl : ((E.take i).flatMap fcells).length = i * 3 := by rw [fl_len, List.length_take, Nat.min_eq_left hi]
  rw [e, List.getElem?_append_right (by omega), hl, Nat.add_sub_cancel_left]; exact h

theorem c_Rput {w : World} {rt : Nat} {lv : Value} {E : List FE} (x : FE) (h : RTAt w rt lv E) (hx : RowB w x.2.2.1 x.2.2.2) (hl : E.length ≤ 1000000) :
    Calls P 84 #[pT rt, .agg (fcells x).toArray] w fun e w' => e = .returned (.tuple #[]) ∧ ∃ lv' E', RTAt w' rt lv' E' ∧ fm E' = Tr.ins (fm E) x.1 (x.2.1, x.2.2.2) ∧ E'.length ≤ E.length + 1 ∧ Ext (fun k => k = rt) w w' := by
  obtain ⟨a, c, rfl, hc⟩ := h.slice
  refine enter (l := [_, _]) (n := 88) Tryz.func84 rfl rfl rfl ?_
  refine W.seq ?_
  refine W.reg <| box rfl rfl <| L.nil ?_
  refine N.th ?_
  obtain ⟨g, hg⟩ : ∃ g, g = w.heap.size := ⟨_, rfl⟩
  obtain ⟨w1, hw1⟩ : ∃ w1, w1 = w.alloc (.cells (fcells x).toArray tF) := ⟨_, rfl⟩
  have hx1 : Ext none_ w w1 := by rw [hw1]; exact Ext.alloc _ _ _
  have hg1 : w1.heap[g]? = some (.cells (fcells x).toArray tF (0, 0)) := by rw [hw1, hg]; exact heap_new _ _
  refine W.seq ?_
  refine W.reg <| asg rfl rfl <| L.nil ?_
  refine N.th ?_
  show W _ _ _ _ _ _ _ _ (w.alloc (.cells (fcells x).toArray tF))
  rw [← hw1, ← hg]
  have hR1 := h.ext0 hx1
  have hxb1 := hx.ext0 hx1
  have hgc : ∀ {w' : World}, Ext none_ w1 w' → w'.cell? ⟨g, 0 + 0, none⟩ = some (.string (S x.1)) := fun hh => cell_of (hh.obj hg1 id) rfl
  refine W.seq ?_
  refine W.block ?_
  refine W.loop (X := Nat) (fun i => [(0, pT rt), (3, .pointer (some ⟨g, 0, none⟩)), (4, .int .i64 i)]) (fun i w' => i ≤ E.length ∧ Ext none_ w1 w' ∧ ∀ y ∈ E.take i, y.1 < x.1) (fun i => E.length - i) 0 ⟨rfl, rfl, rfl, trivial⟩ ⟨by omega, Ext.refl _ _, by simp⟩ ?_
  rintro i w2 ⟨hi, hx2, hpre⟩
  refine W.seq ?_
  refine W.seqM (fun E' w' => ∃ b, E' = [(24, .bool b), (0, pT rt), (3, .pointer (some ⟨g, 0, none⟩)), (4, .int .i64 i)] ∧ Ext none_ w1 w' ∧ (b = true → ∃ y, E[i]? = some y ∧ y.1 < x.1) ∧ (b = false → i = E.length ∨ ∃ y, E[i]? = some y ∧ ¬ y.1 < x.1)) ?_ ?_
  · refine W.draw [] false (fun w' => Ext none_ w1 w') [0, 1, 2, 3, 4, 5, 6, 7, 8, 9, 10, 11, 12, 13, 14, 15, 16, 17, 18, 19] rfl rfl (by kernel_rfl) (hx2.trans (Ext.drew _ _)) ?_   -- held
    refine mv rfl rfl <| mv rfl rfl <| nilc rfl rfl <| fad rfl fl_RT_0 rfl <| ldK (v := .slice a E.length c) rfl ag_files rfl (fun w' hh => (hR1.ext0 hh).c0) <| lenV rfl u_files rfl <| lssI rfl rfl rfl ?_
    by_cases hil : i < E.length
    · obtain ⟨y, hye⟩ : ∃ y, E[i]? = some y := ⟨_, List.getElem?_eq_getElem hil⟩
      obtain ⟨b, o, rfl, -, -⟩ := hR1.some_ hye
      refine Vc.bt (by simp; omega) ?_
      (repeat (first | refine mv rfl rfl ?_ | refine asg rfl rfl ?_ | refine L.off rfl rfl rfl rfl rfl ?_ | refine L.offU rfl rfl rfl rfl ?_ | refine L.on rfl rfl rfl ?_ | refine pickT rfl rfl rfl ?_ | refine pickF rfl rfl rfl ?_ | refine ext rfl rfl rfl ?_ | refine nilc rfl rfl ?_ | refine lenV (t := 46) rfl u_strs rfl ?_ | refine lenV (t := 25) rfl u_bytes rfl ?_ | refine lenV (t := 22) rfl u_files rfl ?_ | refine lenS (t := 9) rfl u_str rfl ?_ | refine eqlI rfl rfl rfl ?_ | refine neqI rfl rfl rfl ?_ | refine lssI rfl rfl rfl ?_ | refine leqI rfl rfl rfl ?_ | refine gtrI rfl rfl rfl ?_ | refine geqI rfl rfl rfl ?_))
      refine fad rfl fl_RT_0 rfl <| L.on rfl rfl rfl <| ldK (v := .slice (some ⟨b, o, none⟩) E.length c) rfl ag_files rfl (fun w' hh => (hR1.ext0 hh).c0) ?_
      (repeat (first | refine mv rfl rfl ?_ | refine asg rfl rfl ?_ | refine L.off rfl rfl rfl rfl rfl ?_ | refine L.offU rfl rfl rfl rfl ?_ | refine L.on rfl rfl rfl ?_ | refine pickT rfl rfl rfl ?_ | refine pickF rfl rfl rfl ?_ | refine ext rfl rfl rfl ?_ | refine nilc rfl rfl ?_ | refine lenV (t := 46) rfl u_strs rfl ?_ | refine lenV (t := 25) rfl u_bytes rfl ?_ | refine lenV (t := 22) rfl u_files rfl ?_ | refine lenS (t := 9) rfl u_str rfl ?_ | refine eqlI rfl rfl rfl ?_ | refine neqI rfl rfl rfl ?_ | refine lssI rfl rfl rfl ?_ | refine leqI rfl rfl rfl ?_ | refine gtrI rfl rfl rfl ?_ | refine geqI rfl rfl rfl ?_))
      refine ixa rfl rfl u_files sz_File rfl (by omega) (by omega) <| L.on rfl rfl rfl <| fad rfl fl_File_0 rfl <| L.on rfl rfl rfl <| ldK (v := .string (S y.1)) rfl ag_str rfl (fun w' hh => ((hR1.ext0 hh).files.cell hye).1) <| L.on rfl rfl rfl <| fad rfl fl_File_0 rfl <| L.on rfl rfl rfl <| ldK (v := .string (S x.1)) rfl ag_str rfl (fun w' hh => hgc hh) <| L.on rfl rfl rfl <| lssS rfl rfl rfl <| pickT rfl rfl rfl <| L.nilH ?_
      refine N.th (N.meet [(24, _), (0, _), (3, _), (4, _)] ⟨rfl, rfl, rfl, rfl, trivial⟩ ⟨_, rfl, hx2.trans (Ext.drew _ _), fun hb => ⟨y, hye, ?_⟩, fun hb => .inr ⟨y, hye, ?_⟩⟩)
      · rw [bytesLess_lt] at hb; exact of_decide_eq_true hb
      · rw [bytesLess_lt] at hb; exact of_decide_eq_false hb
    · refine Vc.bf (by simp; omega) ?_
      (repeat (first | refine mv rfl rfl ?_ | refine asg rfl rfl ?_ | refine L.off rfl rfl rfl rfl rfl ?_ | refine L.offU rfl rfl rfl rfl ?_ | refine L.on rfl rfl rfl ?_ | refine pickT rfl rfl rfl ?_ | refine pickF rfl rfl rfl ?_ | refine ext rfl rfl rfl ?_ | refine nilc rfl rfl ?_ | refine lenV (t := 46) rfl u_strs rfl ?_ | refine lenV (t := 25) rfl u_bytes rfl ?_ | refine lenV (t := 22) rfl u_files rfl ?_ | refine lenS (t := 9) rfl u_str rfl ?_ | refine eqlI rfl rfl rfl ?_ | refine neqI rfl rfl rfl ?_ | refine lssI rfl rfl rfl ?_ | refine leqI rfl rfl rfl ?_ | refine gtrI rfl rfl rfl ?_ | refine geqI rfl rfl rfl ?_))
      refine L.nilH ?_
      exact N.th (N.meet [(24, .bool false), (0, _), (3, _), (4, _)] ⟨rfl, rfl, rfl, rfl, trivial⟩ ⟨_, rfl, hx2.trans (Ext.drew _ _), fun hb => (by cases hb), fun _ => .inl (by omega)⟩)
  rintro E' w3 ⟨b, rfl, hx3, hb1, hb2⟩
  refine W.cond rfl (fun hh => ?_) (fun hh => ?_)
  · obtain ⟨y, hye, hlt⟩ := hb1 hh
    have hil := (List.getElem?_eq_some_iff.1 hye).1
    refine W.skip ?_
    refine N.th ?_
    refine W.block ?_
    refine W.reg <| mv rfl rfl <| addI (c := ((i + 1 : Nat) : Int)) rfl rfl rfl (by rw [w64 (by omega) (by omega)]; simp) <| asg rfl rfl <| L.nil ?_
    refine N.inb ?_
    refine N.th (N.round (x := i + 1) ⟨rfl, rfl, rfl, trivial⟩ ⟨by omega, hx3, fun z hz => ?_⟩ (by omega))   -- ROUND
    rw [List.take_add_one, hye] at hz
    rcases List.mem_append.1 hz with hz | hz
    · exact hpre z hz
    · simp at hz; subst hz; exact hlt
  refine W.exit ?_
  refine N.xth ?_
  refine N.xth ?_
  refine N.xeq ?_
  refine N.th ?_
  have hstop := hb2 hh
  clear hb1 hb2 hh
  have hsplit : fm E = fm (E.take i) ++ fm (E.drop i) := by rw [← List.map_append, List.take_append_drop]
  have hprel : ∀ p ∈ fm (E.take i), p.1 < x.1 := fun p hp => by
    obtain ⟨y, hy, rfl⟩ := List.mem_map.1 hp
    exact hpre y hy
  have hins := Tr.ins_app (fm (E.take i)) (fm (E.drop i)) x.1 (x.2.1, x.2.2.2) hprel
  rw [← hsplit] at hins
  refine W.seq ?_
  refine W.seqM (fun E' w' => ∃ b, E' = [(46, .bool b), (0, pT rt), (3, .pointer (some ⟨g, 0, none⟩)), (4, .int .i64 i)] ∧ Ext none_ w1 w' ∧ (b = true → ∃ y, E[i]? = some y ∧ y.1 = x.1) ∧ (b = false → i = E.length ∨ ∃ y, E[i]? = some y ∧ y.1 ≠ x.1)) ?_ ?_
  · refine W.draw [] false (fun w' => Ext none_ w1 w') [0, 1, 2, 3, 4, 5, 6, 7, 8, 9, 10, 11, 12, 13, 14, 15, 16, 17, 18, 19] rfl rfl (by kernel_rfl) (hx3.trans (Ext.drew _ _)) ?_   -- held
    refine mv rfl rfl <| mv rfl rfl <| nilc rfl rfl <| fad rfl fl_RT_0 rfl <| ldK (v := .slice a E.length c) rfl ag_files rfl (fun w' hh => (hR1.ext0 hh).c0) <| lenV rfl u_files rfl <| lssI rfl rfl rfl ?_
    by_cases hil : i < E.length
    · obtain ⟨y, hye⟩ : ∃ y, E[i]? = some y := ⟨_, List.getElem?_eq_getElem hil⟩
      obtain ⟨b, o, rfl, -, -⟩ := hR1.some_ hye
      refine Vc.bt (by simp; omega) ?_
      (repeat (first | refine mv rfl rfl ?_ | refine asg rfl rfl ?_ | refine L.off rfl rfl rfl rfl rfl ?_ | refine L.offU rfl rfl rfl rfl ?_ | refine L.on rfl rfl rfl ?_ | refine pickT rfl rfl rfl ?_ | refine pickF rfl rfl rfl ?_ | refine ext rfl rfl rfl ?_ | refine nilc rfl rfl ?_ | refine lenV (t := 46) rfl u_strs rfl ?_ | refine lenV (t := 25) rfl u_bytes rfl ?_ | refine lenV (t := 22) rfl u_files rfl ?_ | refine lenS (t := 9) rfl u_str rfl ?_ | refine eqlI rfl rfl rfl ?_ | refine neqI rfl rfl rfl ?_ | refine lssI rfl rfl rfl ?_ | refine leqI rfl rfl rfl ?_ | refine gtrI rfl rfl rfl ?_ | refine geqI rfl rfl rfl ?_))
      refine fad rfl fl_RT_0 rfl <| L.on rfl rfl rfl <| ldK (v := .slice (some ⟨b, o, none⟩) E.length c) rfl ag_files rfl (fun w' hh => (hR1.ext0 hh).c0) ?_
      (repeat (first | refine mv rfl rfl ?_ | refine asg rfl rfl ?_ | refine L.off rfl rfl rfl rfl rfl ?_ | refine L.offU rfl rfl rfl rfl ?_ | refine L.on rfl rfl rfl ?_ | refine pickT rfl rfl rfl ?_ | refine pickF rfl rfl rfl ?_ | refine ext rfl rfl rfl ?_ | refine nilc rfl rfl ?_ | refine lenV (t := 46) rfl u_strs rfl ?_ | refine lenV (t := 25) rfl u_bytes rfl ?_ | refine lenV (t := 22) rfl u_files rfl ?_ | refine lenS (t := 9) rfl u_str rfl ?_ | refine eqlI rfl rfl rfl ?_ | refine neqI rfl rfl rfl ?_ | refine lssI rfl rfl rfl ?_ | refine leqI rfl rfl rfl ?_ | refine gtrI rfl rfl rfl ?_ | refine geqI rfl rfl rfl ?_))
      refine ixa rfl rfl u_files sz_File rfl (by omega) (by omega) <| L.on rfl rfl rfl <| fad rfl fl_File_0 rfl <| L.on rfl rfl rfl <| ldK (v := .string (S y.1)) rfl ag_str rfl (fun w' hh => ((hR1.ext0 hh).files.cell hye).1) <| L.on rfl rfl rfl <| fad rfl fl_File_0 rfl <| L.on rfl rfl rfl <| ldK (v := .string (S x.1)) rfl ag_str rfl (fun w' hh => hgc hh) <| L.on rfl rfl rfl <| eqlS rfl rfl rfl <| pickT rfl rfl rfl <| L.nilH ?_
      exact N.th (N.meet [(46, _), (0, _), (3, _), (4, _)] ⟨rfl, rfl, rfl, rfl, trivial⟩ ⟨_, rfl, hx3.trans (Ext.drew _ _), fun hb => ⟨y, hye, by simpa using hb⟩, fun hb => .inr ⟨y, hye, by simpa using hb⟩⟩)
    · refine Vc.bf (by simp; omega) ?_
      (repeat (first | refine mv rfl rfl ?_ | refine asg rfl rfl ?_ | refine L.off rfl rfl rfl rfl rfl ?_ | refine L.offU rfl rfl rfl rfl ?_ | refine L.on rfl rfl rfl ?_ | refine pickT rfl rfl rfl ?_ | refine pickF rfl rfl rfl ?_ | refine ext rfl rfl rfl ?_ | refine nilc rfl rfl ?_ | refine lenV (t := 46) rfl u_strs rfl ?_ | refine lenV (t := 25) rfl u_bytes rfl ?_ | refine lenV (t := 22) rfl u_files rfl ?_ | refine lenS (t := 9) rfl u_str rfl ?_ | refine eqlI rfl rfl rfl ?_ | refine neqI rfl rfl rfl ?_ | refine lssI rfl rfl rfl ?_ | refine leqI rfl rfl rfl ?_ | refine gtrI rfl rfl rfl ?_ | refine geqI rfl rfl rfl ?_))
      refine L.nilH ?_
      exact N.th (N.meet [(46, .bool false), (0, _), (3, _), (4, _)] ⟨rfl, rfl, rfl, rfl, trivial⟩ ⟨_, rfl, hx3.trans (Ext.drew _ _), fun hb => (by cases hb), fun _ => .inl (by omega)⟩)
  rintro E' w4 ⟨b, rfl, hx4, hb1, hb2⟩
  have hx4d : Ext none_ w1 w4.drew := hx4.trans (Ext.drew _ _)
  have hgf : ∀ {w' : World}, Ext none_ w4.drew w' → ∀ (j : Nat) u, (fcells x)[j]? = some u → w'.cell? ⟨g, 0 + j, none⟩ = some u := fun hh j u hj => row_cells (hh.obj (hx4d.obj hg1 id) id) j u hj
  have hR4 := hR1.ext0 hx4d
  have hxb4 := hxb1.ext0 hx4d
  obtain ⟨hfb, hf1⟩ := fbuild hx
  have hx04 : Ext none_ w w4.drew := hx1.trans hx4d
  refine W.cond rfl (fun hh => ?_) (fun hh => ?_)
  · obtain ⟨y, hye, hyx⟩ := hb1 hh
    obtain ⟨b, o, rfl, -, hil⟩ := hR1.some_ hye
    refine W.seq ?_
    refine W.draw [] true (fun w' => Ext none_ w4.drew w') [0, 1, 2, 3, 4, 5, 6, 7, 8, 11, 12, 13, 14, 15, 16, 17, 9, 10, 18, 19, 20, 21] rfl rfl (by kernel_rfl) (Ext.refl _ _) ?_   -- held
    refine mv rfl rfl <| mv rfl rfl <| nilc rfl rfl <| fad rfl fl_RT_0 rfl <| ldK (v := .slice (some ⟨b, o, none⟩) E.length c) rfl ag_files rfl (fun w' hh => (hR4.ext0 hh).c0) <| mv rfl rfl <| mv rfl rfl <| slVhm rfl rfl rfl u_files el_files.szB rfl (by omega) (by omega) (by omega) <| ldkK (cs := fcells x) rfl ag_File sz_File rfl rfl (fun w' hh j u hj => hgf hh j u hj) <| mv rfl rfl <| nilc rfl rfl <| fad rfl fl_RT_0 rfl <| ldK (v := .slice (some ⟨b, o, none⟩) E.length c) rfl ag_files rfl (fun w' hh => (hR4.ext0 hh).c0) <| mv rfl rfl <| addI (c := ((i + 1 : Nat) : Int)) rfl rfl rfl (by rw [w64 (by omega) (by omega)]; simp) <| slVlA (i := i + 1) rfl rfl u_files el_files.szB rfl (by omega) fun ad had => ?_
    refine bls (vs := #[(0, .agg (fcells x).toArray)]) (cs := (fcells x).toArray) (e := tF) rfl rfl hfb (hS := .inr fun hh => hh.trans (Ext.alloc none_ _ _)) <| ?_
    have hxa : Ext none_ w4.drew (w4.drew.alloc (.cells (fcells x).toArray tF)) := Ext.alloc _ _ _
    refine appG (olds := (E.take i).flatMap fcells) (news := fcells x) rfl rfl rfl el_files (by rw [fl_len, List.length_take]; omega) (fun j u hj => by
      rw [add_at]; exact (hR4.ext0 hxa).files.row.cells rfl j u (flat_take hj)) rfl (fun j u hj => by rw [add_at]; exact row_cells (heap_new _ _) j u hj) (by omega) (by omega) (by simp only [maxLen]; omega) fun v1 w5 hown5 hx5 => ⟨.inr fun hh => (hh.trans hx5), ?_⟩
    have hx45 : Ext none_ w4.drew w5 := hxa.trans hx5
    have hR5 := hR4.ext0 hx45
    refine appY (news := (E.drop (i + 1)).flatMap fcells) (m := E.length - (i + 1)) rfl rfl rfl el_files hown5 (by rw [fl_len, List.length_drop]) (fun j u hj => by
      have hne : i + 1 < c := by
        have := (List.getElem?_eq_some_iff.1 hj).1
        rw [fl_len, List.length_drop] at this
        omega
      rw [had hne, add_at, Nat.add_assoc]
      exact hR5.files.row.cells rfl _ u (flat_drop (by omega) hj)) (fun u hu => by
      obtain ⟨z, hz, hu⟩ := List.mem_flatMap.1 hu
      have := (fbuild (hR5.files.bytes z (List.mem_of_mem_drop hz))).2
      exact List.all_eq_true.1 this u (by simpa using hu)) (by omega) (by simp only [maxLen]; omega) hx5.size fun v2 w6 hown6 hx6 _ _ => ⟨.inr fun hh => ?_, ?_⟩
    · exact (hxa.trans hx5).trans' hx6 fun k hk e => by have := own_new hown5 k e; have := hxa.size; omega
    have hx46 : Ext none_ w4.drew w6 := hx45.trans' hx6 fun k hk e => by have := own_new hown5 k e; have := hxa.size; omega
    have hR6 := hR4.ext0 hx46
    refine nilc rfl rfl <| fad rfl fl_RT_0 rfl <| st1 rfl rfl sz_files (own_cells hown6).2 hR6.cell rfl (hS := .inl ⟨rfl, rfl⟩) <| L.nilH ?_
    refine N.th ?_
    refine W.ret ?_
    refine N.rth ?_
    have hEl : (E.take i ++ x :: E.drop (i + 1)).length = i + 1 + (E.length - (i + 1)) := by simp; omega
    have hown6' : w6.ownsRow (w4.drew.alloc (.cells (fcells x).toArray tF)).heap.size tF 3 v2 (E.take i ++ x :: E.drop (i + 1)).length ((E.take i ++ x :: E.drop (i + 1)).flatMap fcells) := by
      rw [hEl, List.flatMap_append, List.flatMap_cons, ← List.append_assoc]; exact hown6
    obtain ⟨hR7, hx7⟩ := rt_store hR6 hown6' (fun z hz => by
      rcases List.mem_append.1 hz with hz | hz
      · exact hR6.files.bytes z (List.mem_of_mem_take hz)
      · rcases List.mem_cons.1 hz with rfl | hz
        · exact hxb4.ext0 hx46
        · exact hR6.files.bytes z (List.mem_of_mem_drop hz))
    refine N.ret0 rfl ?_
    refine ⟨rfl, _, _, hR7, ?_, by rw [hEl]; omega, (hx04.trans hx46).none.trans hx7⟩
    rw [hins]
    have hd : E.drop i = y :: E.drop (i + 1) := by
      obtain ⟨hlt, hbb⟩ := List.getElem?_eq_some_iff.1 hye
      rw [List.drop_eq_getElem_cons hlt, hbb]
    rw [hd]
    have hy1 : ¬ (fnd y).1 < x.1 := fun hlt => by rw [show (fnd y).1 = x.1 from hyx] at hlt; exact Tr.lt_irr _ hlt
    show _ = fm (E.take i) ++ Tr.ins (fnd y :: fm (E.drop (i + 1))) x.1 (x.2.1, x.2.2.2)
    unfold Tr.ins
    rw [if_neg hy1, if_pos (show (fnd y).1 = x.1 from hyx)]
    simp [fm, fnd]
  · have hstop2 := hb2 hh
    refine W.skip ?_
    refine N.th ?_
    have hfin : ∀ {w6 : World} {v2 : Value} {B : Nat}, Ext none_ w4.drew w6 → w6.ownsRow B tF 3 v2 (i + (1 + (E.length - i))) ((E.take i).flatMap fcells ++ (fcells x ++ (E.drop i).flatMap fcells)) →
        (∃ lv' E', RTAt (w6.setCell ⟨rt, 0 + 0, none⟩ v2) rt lv' E' ∧ fm E' = Tr.ins (fm E) x.1 (x.2.1, x.2.2.2) ∧ E'.length ≤ E.length + 1 ∧ Ext (fun k => k = rt) w (w6.setCell ⟨rt, 0 + 0, none⟩ v2)) := fun {w6 v2 B} hx46 hown6 => by
      have hR6 := hR4.ext0 hx46
      have hEl : (E.take i ++ x :: E.drop i).length = i + (1 + (E.length - i)) := by simp; omega
      have hown6' : w6.ownsRow B tF 3 v2 (E.take i ++ x :: E.drop i).length ((E.take i ++ x :: E.drop i).flatMap fcells) := by
        rw [hEl, List.flatMap_append, List.flatMap_cons]; exact hown6
      obtain ⟨hR7, hx7⟩ := rt_store hR6 hown6' (fun z hz => by
        rcases List.mem_append.1 hz with hz | hz
        · exact hR6.files.bytes z (List.mem_of_mem_take hz)
        · rcases List.mem_cons.1 hz with rfl | hz
          · exact hxb4.ext0 hx46
          · exact hR6.files.bytes z (List.mem_of_mem_drop hz))
      refine ⟨_, _, hR7, ?_, by rw [hEl]; omega, (hx04.trans hx46).none.trans hx7⟩
      rw [hins]
      rcases hstop with hil | ⟨y, hye, hnlt⟩
      · have hd : E.drop i = [] := List.drop_of_length_le (by omega)
        rw [hd]; simp [fm, fnd, Tr.ins]
      · have hil := (List.getElem?_eq_some_iff.1 hye).1
        have hne : y.1 ≠ x.1 := by
          rcases hstop2 with e | ⟨y', hye', hne⟩
          · omega
          · rw [hye] at hye'; cases hye'; exact hne
        have hd : E.drop i = y :: E.drop (i + 1) := by
          obtain ⟨hlt, hbb⟩ := List.getElem?_eq_some_iff.1 hye
          rw [List.drop_eq_getElem_cons hlt, hbb]
        have e1 : Tr.ins (fm (E.drop i)) x.1 (x.2.1, x.2.2.2) = (x.1, (x.2.1, x.2.2.2)) :: fm (E.drop i) := by
          rw [hd]
          show Tr.ins (fnd y :: fm (E.drop (i + 1))) x.1 (x.2.1, x.2.2.2) = _
          unfold Tr.ins
          rw [if_neg (show ¬ (fnd y).1 < x.1 from hnlt), if_neg (show ¬ (fnd y).1 = x.1 from hne)]
          rfl
        rw [e1]
        simp [fm, fnd]
    refine W.draw [] true (fun w' => Ext none_ w4.drew w') [0, 1, 2, 3, 4, 5, 6, 7, 8, 10, 11, 12, 13, 14, 15, 9, 16, 17, 18, 19, 20] rfl rfl (by kernel_rfl) (Ext.refl _ _) ?_   -- held
    have hxa : Ext none_ w4.drew (w4.drew.alloc (.cells (fcells x).toArray tF)) := Ext.alloc _ _ _
    have hownf : (w4.drew.alloc (.cells (fcells x).toArray tF)).ownsRow w4.drew.heap.size tF 3 (.slice (some ⟨w4.drew.heap.size, 0, none⟩) 1 1) 1 (fcells x) :=
      ⟨rfl, .inr ⟨_, 1, (fcells x).toArray, rfl, Nat.le_refl _, heap_new _ _, Nat.le_refl _, by simp [maxLen], rfl, rfl⟩⟩
    cases a with
    | none =>
      have hE0 : E = [] := by
        rcases h.files.row.form with ⟨h0, h3, _⟩ | ⟨b, o, c', h0, -, -, -, -⟩
        · exact List.eq_nil_of_length_eq_zero h3
        · cases h0
      subst hE0
      have hc0 : c = 0 := by
        rcases h.files.row.form with ⟨h0, h3, _⟩ | ⟨b, o, c', h0, -, -, -, -⟩
        · cases h0; rfl
        · cases h0
      subst hc0
      obtain rfl : i = 0 := by simpa using hi
      refine mv rfl rfl <| mv rfl rfl <| nilc rfl rfl <| fad rfl fl_RT_0 rfl <| ldK (v := .slice none 0 0) rfl ag_files rfl (fun w' hh => (hR4.ext0 hh).c0) <| mv rfl rfl <| mv rfl rfl <| slVhm rfl rfl rfl u_files el_files.szB rfl (by omega) (by omega) (by omega) <| ldkK (cs := fcells x) rfl ag_File sz_File rfl rfl (fun w' hh j u hj => hgf hh j u hj) <| mv rfl rfl <| nilc rfl rfl <| fad rfl fl_RT_0 rfl <| ldK (v := .slice none 0 0) rfl ag_files rfl (fun w' hh => (hR4.ext0 hh).c0) <| mv rfl rfl <| slVlN rfl rfl u_files el_files.szB rfl ?_
      refine bls (vs := #[(0, .agg (fcells x).toArray)]) (cs := (fcells x).toArray) (e := tF) rfl rfl hfb (hS := .inr fun hh => hh.trans (Ext.alloc none_ _ _)) <| appN rfl rfl rfl el_files (Nat.le_refl _) ?_
      refine appY (news := fcells x) (m := 1) rfl rfl rfl el_files (own_nil _ w4.drew.heap.size _ _) rfl (fun j u hj => by rw [add_at]; exact row_cells (heap_new _ _) j u hj) (fun u hu => List.all_eq_true.1 hf1 u (by simpa using hu)) (by omega) (by simp [maxLen]) hxa.size fun v2 w6 hown6 hx6 _ _ => ⟨.inr fun hh => ?_, ?_⟩
      · exact hxa.trans (hx6.mono fun k _ e => by cases e)
      have hx46 : Ext none_ w4.drew w6 := hxa.trans (hx6.mono fun k _ e => by cases e)
      refine nilc rfl rfl <| fad rfl fl_RT_0 rfl <| st1 rfl rfl sz_files (own_cells hown6).2 (hR4.ext0 hx46).cell rfl (hS := .inl ⟨rfl, rfl⟩) <| L.nilH ?_
      refine N.end0 rfl ?_
      exact ⟨rfl, hfin hx46 (by simpa using hown6)⟩
    | some ad0 =>
      obtain ⟨b, o, hv0⟩ : ∃ b o, ad0 = ⟨b, o, none⟩ := by
        rcases h.files.row.form with ⟨h0, h3, _⟩ | ⟨b, o, c', h0, -, -, -, -⟩
        · cases h0
        · cases h0; exact ⟨b, o, rfl⟩
      subst hv0
      refine mv rfl rfl <| mv rfl rfl <| nilc rfl rfl <| fad rfl fl_RT_0 rfl <| ldK (v := .slice (some ⟨b, o, none⟩) E.length c) rfl ag_files rfl (fun w' hh => (hR4.ext0 hh).c0) <| mv rfl rfl <| mv rfl rfl <| slVhm rfl rfl rfl u_files el_files.szB rfl (by omega) (by omega) (by omega) <| ldkK (cs := fcells x) rfl ag_File sz_File rfl rfl (fun w' hh j u hj => hgf hh j u hj) <| mv rfl rfl <| nilc rfl rfl <| fad rfl fl_RT_0 rfl <| ldK (v := .slice (some ⟨b, o, none⟩) E.length c) rfl ag_files rfl (fun w' hh => (hR4.ext0 hh).c0) <| mv rfl rfl <| slVlA (i := i) rfl rfl u_files el_files.szB rfl (by omega) fun ad had => ?_
      refine bls (vs := #[(0, .agg (fcells x).toArray)]) (cs := (fcells x).toArray) (e := tF) rfl rfl hfb (hS := .inr fun hh => hh.trans (Ext.alloc none_ _ _)) <| ?_
      refine appY (news := (E.drop i).flatMap fcells) (m := E.length - i) rfl rfl rfl el_files hownf (by rw [fl_len, List.length_drop]) (fun j u hj => by
        have hne : i < c := by
          have := (List.getElem?_eq_some_iff.1 hj).1
          rw [fl_len, List.length_drop] at this
          omega
        rw [had hne, add_at, Nat.add_assoc]
        exact (hR4.ext0 hxa).files.row.cells rfl _ u (flat_drop (by omega) hj)) (fun u hu => by
        obtain ⟨z, hz, hu⟩ := List.mem_flatMap.1 hu
        have := (fbuild (hR4.files.bytes z (List.mem_of_mem_drop hz))).2
        exact List.all_eq_true.1 this u (by simpa using hu)) (by omega) (by simp only [maxLen]; omega) hxa.size fun v1 w5 hown5 hx5 _ _ => ⟨.inr fun hh => ?_, ?_⟩
      · exact hxa.trans' hx5 fun k hk e => by have := own_new hownf k e; omega
      have hx45 : Ext none_ w4.drew w5 := hxa.trans' hx5 fun k hk e => by have := own_new hownf k e; omega
      rcases (Row.own hown5).form with ⟨-, h3, -⟩ | ⟨g1, o1, c1, rfl, -, -, -, hcell1⟩
      · omega
      refine appG (olds := (E.take i).flatMap fcells) (news := fcells x ++ (E.drop i).flatMap fcells) rfl rfl rfl el_files (by rw [fl_len, List.length_take]; omega) (fun j u hj => by
        rw [add_at]; exact (hR4.ext0 hx45).files.row.cells rfl j u (flat_take hj)) hown5.1 (fun j u hj => by rw [add_at]; exact hcell1 j u hj) (by omega) (by omega) (by simp only [maxLen]; omega) fun v2 w6 hown6 hx6 => ⟨.inr fun hh => hh.trans hx6, ?_⟩
      have hx46 : Ext none_ w4.drew w6 := hx45.trans hx6
      refine nilc rfl rfl <| fad rfl fl_RT_0 rfl <| st1 rfl rfl sz_files (own_cells hown6).2 (hR4.ext0 hx46).cell rfl (hS := .inl ⟨rfl, rfl⟩) <| L.nilH ?_
      refine N.end0 rfl ?_
      exact ⟨rfl, hfin hx46 hown6⟩
end Go.Proofs.YtmdpmpdlkaogdaaGreatDoor

namespace Go.Proofs.YtmdpmpdlkaogdaaGreatDoor
open Go Go.RowKit Vc

theorem ok_RWrite : FnOk P 48 := ⟨_, Tryz.func48, by kernel_rfl, by kernel_rfl⟩
theorem ok_RAppend : FnOk P 49 := ⟨_, Tryz.func49, by kernel_rfl, by kernel_rfl⟩

/-- A copy of bytes that came in. -/
theorem cpyB {P : Program} {Q : Exit → Act → World → Prop} {ds : List Deferred} {n : Nat} {E : Env} {w : World} {ops : Array Oper} {l : List Oper} {mm : Nat} {d : Nat} {ty : TypeId} {pos : String} {af : Array Edge} {t : TypeId}
    {x : Operand} {bv : Value} {b : List UInt8} (hx : opd E x = some bv) (hb : BytA w bv b) (ht : ElT P t tB (.int .u8 0) 1 1) (hd : Nat.blt d n = true) (hbl : b.length ≤ 1000000000)
    (k : ∀ v' w', Byts w.heap.size w' v' b → Ext none_ w w' → L Fence.wide mm P ds n ops l Q ((d, v') :: E) w') : L Fence.wide mm P ds n ops (⟨some d, .call ⟨.builtin .append, #[.const (.slice none 0 0), x], #[t, t]⟩, ty, pos, af, none⟩ :: l) Q E w := by
  rcases hb.form with ⟨rfl, h0⟩ | ⟨ad, c, rfl, h1, h2, hc⟩
  · obtain rfl : b = [] := List.eq_nil_of_length_eq_zero h0
    exact appN (st := .plain Fence.wide mm) rfl hx hd ht (Nat.le_refl _) (k _ _ (own_nil _ _ _ _) (Ext.refl _ _))
  · exact app rfl hx hd ht (own_nil _ w.heap.size _ _) (by simp) (fun j u hj => (hc j u hj).2) (encB_one b) (by omega) (by simp only [maxLen]; omega) (Nat.le_refl _) fun v' w' ho hx' _ _ => k v' w' (by simpa [Byts] using ho) (hx'.mono fun _ _ h => by cases h)
theorem strs_rt {w w' : World} {rt : Nat} {lv v : Value} {E : List FE} {l : List Sp.Bytes} (h : RTAt w rt lv E) (hv : Row w v 9 1 l.length (encT l)) (hx : Ext (fun k => k = rt) w w') : Row w' v 9 1 l.length (encT l) :=
  hv.ext hx fun k hk e => by
    obtain ⟨cu, fr, hc⟩ := hv.kind k hk
    subst e
    rw [h.cell] at hc; cases hc

theorem c_Rmake {w : World} {rt : Nat} {lv : Value} {E : List FE} {v : Value} (l : List Tr.Bytes) (h : RTAt w rt lv E) (hv : Row w v 9 1 l.length (encT l)) (hl : E.length + l.length ≤ 1000000) :
    Calls P 79 #[pT rt, v] w fun e w' => e = .returned (.tuple #[]) ∧ (∃ lv' E', RTAt w' rt lv' E' ∧ fm E' = Tr.insL (fm E) l ∧ E'.length ≤ E.length + l.length) ∧ Ext (fun k => k = rt) w w' := by
  obtain ⟨-, a, c, rfl, hn, hmx, -, -⟩ := id hv
  refine enter (l := [_, _]) (n := 18) Tryz.func79 rfl rfl rfl ?_
  refine W.seq ?_
  refine W.reg <| asg rfl rfl <| L.nil ?_
  refine N.th ?_
  refine W.block ?_
  refine W.loop (X := Nat) (fun i => [(0, pT rt), (1, .slice a l.length c), (4, .int .i64 i)]) (fun i w' => i ≤ l.length ∧ Ext (fun k => k = rt) w w' ∧ Row w' (.slice a l.length c) 9 1 l.length (encT l) ∧ ∃ lv' E', RTAt w' rt lv' E' ∧ fm E' = Tr.insL (fm E) (l.take i) ∧ E'.length ≤ E.length + i) (fun i => l.length - i) 0 ⟨rfl, rfl, rfl, trivial⟩
    ⟨by omega, Ext.refl _ _, hv, lv, E, h, rfl, Nat.le_refl _⟩ ?_
  rintro i w1 ⟨hi, hx1, hv1, lv1, E1, hR1, hE1, hEl⟩
  refine W.seq ?_
  refine W.seq ?_
  refine W.reg <| mv rfl rfl <| mv rfl rfl <| lenV rfl u_strs rfl <| lssI rfl rfl rfl <| L.nil ?_
  refine N.th ?_
  refine W.cond rfl (fun hh => ?_) (fun hh => ?_)
  · refine W.skip ?_
    refine N.th ?_
    have hi1 : i < l.length := by simp at hh; omega
    obtain ⟨d, hd⟩ : ∃ d, l[i]? = some d := ⟨_, List.getElem?_eq_getElem hi1⟩
    rcases hv1.form with ⟨h0, h3, _⟩ | ⟨b, o, c', h0, -, -, -, hcell⟩
    · omega
    cases h0
    have hcd : w1.cell? ⟨b, o + i * 1, none⟩ = some (.string (S d)) := by rw [Nat.mul_one]; exact hcell i _ (by simp [encT, hd])
    refine W.seq ?_
    refine W.block ?_
    refine W.reg <| mv rfl rfl <| mv rfl rfl <| mv rfl rfl <| ixa rfl rfl u_strs sz_str rfl (by omega) (by omega) <| ld1 rfl ag_str rfl hcd <| bld (vs := #[(0, .string (S d)), (1, .bool true)]) (v := .agg (fcells (d, true, .slice none 0 0, [])).toArray) rfl rfl (fun _ => by kernel_rfl) <|
      call (vs := [_, _]) rfl rfl ok_Rput (c_Rput (d, true, .slice none 0 0, []) hR1 (Row.nil w1 tB 1) (by omega)) ?_
    rintro e w2 ⟨rfl, lv2, E2, hR2, hE2, hEl2, hx2⟩
    refine ⟨_, rfl, ?_⟩
    refine L.nil ?_
    refine N.inb ?_
    refine N.th ?_
    refine W.reg <| mv rfl rfl <| addI (c := ((i + 1 : Nat) : Int)) rfl rfl rfl (by rw [w64 (by omega) (by omega)]; simp) <| asg rfl rfl <| L.nil ?_
    refine N.th (N.round (x := i + 1) ⟨rfl, rfl, rfl, trivial⟩ ⟨by omega, hx1.trans hx2, strs_rt hR1 hv1 hx2, lv2, E2, hR2, ?_, by omega⟩ (by omega))   -- ROUND
    rw [hE2, hE1, List.take_add_one, hd]
    simp [Tr.insL]
  · refine W.exit ?_
    refine N.xth ?_
    refine N.xth ?_
    refine N.xeq ?_
    refine N.end0 rfl ?_
    have hi1 : i = l.length := by simp at hh; omega
    rw [hi1, List.take_length] at hE1
    exact ⟨rfl, ⟨lv1, E1, hR1, hE1, by omega⟩, hx1⟩

/-- What a method that turns the document's tree leaves. -/
abbrev DoesR (rt : Nat) (w : World) (r : Tr.T × Int) (e : Ending) (w' : World) : Prop := e = .returned (.int .i64 r.2) ∧ (∃ lv' E', RTAt w' rt lv' E' ∧ fm E' = Tr.files r.1) ∧ Ext (fun k => k = rt) w w'
/-- What 'at' tells, of the tree. -/
theorem AtR.of {E : List FE} {m : Tr.T} {p : Tr.Bytes} {k : Int} (h : AtR E p k) (hE : fm E = Tr.files m) (hn : (m.map (·.1)).Nodup) : (k = -1 ∧ Tr.get m p = none) ∨ ∃ (i : Nat) (x : FE), k = i ∧ E[i]? = some x ∧ Tr.get m p = some (x.2.1, x.2.2.2) := by
  unfold AtR at h
  rw [hE, Tr.files_get hn] at h
  exact h
theorem len_of {E : List FE} {m : Tr.T} (hE : fm E = Tr.files m) : E.length = m.length := by
  have := congrArg List.length hE
  rw [fm_len, Tr.files_len] at this
  exact this

theorem c_RWrite {w : World} {rt : Nat} {lv bv : Value} {E : List FE} {m : Tr.T} {b : Tr.Bytes} (s : Tr.Bytes) (h : RTAt w rt lv E) (hE : fm E = Tr.files m) (hok : Tr.Ok m) (hb : BytA w bv b) (hbl : b.length ≤ 100000000) :
    Calls P 48 #[pT rt, .string (S s), bv] w (DoesR rt w (Tr.write m s b)) := by
  have hEl := len_of hE
  have hml := hok.len
  have hmb := hok.bytes
  have hsz : Tr.size (fm E) = Tr.size m := by rw [hE, Tr.files_size]
  obtain ⟨ba, bc, rfl, hbn, hbm, -, -⟩ := id hb
  refine enter (l := [_, _, _]) (n := 96) Tryz.func48 rfl rfl rfl ?_
  refine W.seq ?_
  refine W.reg <| asg rfl rfl <| L.nil ?_
  refine N.th ?_
  refine W.seq ?_
  refine W.reg <| mv rfl rfl <| call (vs := [_]) rfl rfl ok_RClean (c_RClean s w) ?_
  rintro e w1 ⟨rfl, hx1⟩
  refine ⟨_, rfl, ?_⟩
  refine mv rfl rfl <| ext rfl rfl rfl <| ext rfl rfl rfl <| asg rfl rfl <| asg rfl rfl <| L.nil ?_
  refine N.th ?_
  have hcl := clean_len s
  refine W.seq ?_
  refine W.seq ?_
  refine W.reg <| mv rfl rfl <| neqI rfl rfl rfl <| L.nil ?_
  refine N.th ?_
  have hR1 := h.ext0 hx1
  refine W.cond rfl (fun hh => ?_) (fun hh => ?_)
  · refine W.seq ?_
    refine W.reg <| mv rfl rfl <| asg rfl rfl <| L.nil ?_
    refine N.th ?_
    refine W.ret ?_
    refine N.rth ?_
    refine N.ret1 rfl rfl ?_   -- RETURN
    have h0 : (Sp.clean s).2 ≠ 0 := by simpa using hh
    unfold Tr.write; rw [put_err h0]
    exact ⟨rfl, ⟨lv, E, hR1, hE⟩, hx1.none⟩
  have hc0 : (Sp.clean s).2 = 0 := by simpa using hh
  obtain ⟨wr1, wr2⟩ := Tr.write_r hok (b := b) hc0
  refine W.skip ?_
  refine N.th ?_
  refine W.seq ?_
  refine W.reg <| mv rfl rfl <| mv rfl rfl <| call (vs := [_, _]) rfl rfl ok_Rat (c_Rat (Sp.clean s).1 hR1 (by omega)) ?_
  rintro e w1' ⟨k, rfl, hk, rfl⟩
  refine ⟨_, rfl, ?_⟩
  refine asg rfl rfl <| L.nil ?_
  refine N.th ?_
  have hk := hk.of hE hok.nodup
  refine W.seq ?_
  refine W.reg <| mv rfl rfl <| mv rfl rfl <| call (vs := [_, _]) rfl rfl ok_Rahead (c_Rahead (Sp.clean s).1 hR1 (by omega) (by omega)) ?_
  rintro e w2 ⟨hx2, hah⟩
  rw [hE, Tr.ahd_files hok.nodup] at hah
  have hR2 := hR1.ext0 hx2
  obtain ⟨fb, lkv, he, hah2⟩ : ∃ (fb : Bool) (lkv : Value), e = .returned (.tuple #[.bool fb, lkv]) ∧ ((fb = true ∧ Tr.ahd m (Tr.ups (Sp.parts (Sp.clean s).1)) = none) ∨ (fb = false ∧ ∃ lk, Tr.ahd m (Tr.ups (Sp.parts (Sp.clean s).1)) = some lk ∧ StrsA w1.heap.size w2 lkv lk)) := by
    cases ha : Tr.ahd m (Tr.ups (Sp.parts (Sp.clean s).1)) with
    | none => rw [ha] at hah; exact ⟨_, _, hah, .inl ⟨rfl, rfl⟩⟩
    | some lk => rw [ha] at hah; obtain ⟨v, he, hv⟩ := hah; exact ⟨_, _, he, .inr ⟨rfl, lk, rfl, hv⟩⟩
  clear hah
  subst he
  refine ⟨_, rfl, ?_⟩
  refine mv rfl rfl <| ext (v := .bool fb) rfl rfl rfl <| ext (v := lkv) rfl rfl rfl <| asg rfl rfl <| asg rfl rfl <| L.nil ?_
  refine N.th ?_
  have hx02 : Ext none_ w w2 := hx1.trans hx2
  obtain ⟨ra, rc, rfl, -⟩ := h.slice
  refine W.seqM (fun E' w' => E' = [(0, pT rt), (2, .slice ba b.length bc), (7, .string (S (Sp.clean s).1)), (9, .int .i64 k), (11, lkv)] ∧ w' = w2 ∧ (Sp.clean s).1 ≠ [] ∧ (∀ c, Tr.get m (Sp.clean s).1 ≠ some (true, c)) ∧ fb = false) ?_ ?_
  · refine W.seqM (fun E' w' => ∃ c, E' = [(49, .bool c), (0, pT rt), (2, .slice ba b.length bc), (7, .string (S (Sp.clean s).1)), (9, .int .i64 k), (11, lkv)] ∧ w' = w2 ∧ (c = true → Tr.write m s b = (m, 54)) ∧ (c = false → (Sp.clean s).1 ≠ [] ∧ (∀ c, Tr.get m (Sp.clean s).1 ≠ some (true, c)) ∧ fb = false)) ?_ ?_
    · refine W.reg ?_
      refine mv rfl rfl <| eqlS (b := []) rfl rfl rfl ?_
      by_cases hp0 : (Sp.clean s).1 = []
      · refine Vc.bt (by simpa using hp0) ?_
        (repeat (first | refine mv rfl rfl ?_ | refine asg rfl rfl ?_ | refine L.off rfl rfl rfl rfl rfl ?_ | refine L.offU rfl rfl rfl rfl ?_ | refine L.on rfl rfl rfl ?_ | refine pickT rfl rfl rfl ?_ | refine pickF rfl rfl rfl ?_ | refine ext rfl rfl rfl ?_ | refine nilc rfl rfl ?_ | refine lenV (t := 46) rfl u_strs rfl ?_ | refine lenV (t := 25) rfl u_bytes rfl ?_ | refine lenV (t := 22) rfl u_files rfl ?_ | refine lenS (t := 9) rfl u_str rfl ?_ | refine eqlI rfl rfl rfl ?_ | refine neqI rfl rfl rfl ?_ | refine lssI rfl rfl rfl ?_ | refine leqI rfl rfl rfl ?_ | refine gtrI rfl rfl rfl ?_ | refine geqI rfl rfl rfl ?_))
        refine L.nil ?_
        exact N.th (N.meet [(49, .bool true), (0, _), (2, _), (7, _), (9, _), (11, _)] ⟨rfl, rfl, rfl, rfl, rfl, rfl, trivial⟩ ⟨_, rfl, rfl, fun _ => wr1 (.inl hp0), fun hc => by cases hc⟩)
      · refine Vc.bf (by simpa using hp0) ?_
        rcases hk with ⟨rfl, hg⟩ | ⟨i, x, rfl, hxe, hg⟩
        · (repeat (first | refine mv rfl rfl ?_ | refine asg rfl rfl ?_ | refine L.off rfl rfl rfl rfl rfl ?_ | refine L.offU rfl rfl rfl rfl ?_ | refine L.on rfl rfl rfl ?_ | refine pickT rfl rfl rfl ?_ | refine pickF rfl rfl rfl ?_ | refine ext rfl rfl rfl ?_ | refine nilc rfl rfl ?_ | refine lenV (t := 46) rfl u_strs rfl ?_ | refine lenV (t := 25) rfl u_bytes rfl ?_ | refine lenV (t := 22) rfl u_files rfl ?_ | refine lenS (t := 9) rfl u_str rfl ?_ | refine eqlI rfl rfl rfl ?_ | refine neqI rfl rfl rfl ?_ | refine lssI rfl rfl rfl ?_ | refine leqI rfl rfl rfl ?_ | refine gtrI rfl rfl rfl ?_ | refine geqI rfl rfl rfl ?_))
          refine L.nil ?_
          refine N.th (N.meet [(49, .bool fb), (0, _), (2, _), (7, _), (9, _), (11, _)] ⟨rfl, rfl, rfl, rfl, rfl, rfl, trivial⟩ ⟨_, rfl, rfl, fun hc => ?_, fun hc => ⟨hp0, (fun c => by rw [hg]; simp), hc⟩⟩)
          rcases hah2 with ⟨-, ha⟩ | ⟨hf, -⟩
          · exact wr1 (.inr (.inr ha))
          · rw [hf] at hc; cases hc
        · obtain ⟨rb, ro, rfl, -, hil⟩ := hR2.some_ hxe
          have hc1 := (hR2.files.cell hxe).2.1
          (repeat (first | refine mv rfl rfl ?_ | refine asg rfl rfl ?_ | refine L.off rfl rfl rfl rfl rfl ?_ | refine L.offU rfl rfl rfl rfl ?_ | refine L.on rfl rfl rfl ?_ | refine pickT rfl rfl rfl ?_ | refine pickF rfl rfl rfl ?_ | refine ext rfl rfl rfl ?_ | refine nilc rfl rfl ?_ | refine lenV (t := 46) rfl u_strs rfl ?_ | refine lenV (t := 25) rfl u_bytes rfl ?_ | refine lenV (t := 22) rfl u_files rfl ?_ | refine lenS (t := 9) rfl u_str rfl ?_ | refine eqlI rfl rfl rfl ?_ | refine neqI rfl rfl rfl ?_ | refine lssI rfl rfl rfl ?_ | refine leqI rfl rfl rfl ?_ | refine gtrI rfl rfl rfl ?_ | refine geqI rfl rfl rfl ?_))
          refine fad rfl fl_RT_0 rfl <| L.on rfl rfl rfl <| ld1 rfl ag_files rfl hR2.c0 ?_
          (repeat (first | refine mv rfl rfl ?_ | refine asg rfl rfl ?_ | refine L.off rfl rfl rfl rfl rfl ?_ | refine L.offU rfl rfl rfl rfl ?_ | refine L.on rfl rfl rfl ?_ | refine pickT rfl rfl rfl ?_ | refine pickF rfl rfl rfl ?_ | refine ext rfl rfl rfl ?_ | refine nilc rfl rfl ?_ | refine lenV (t := 46) rfl u_strs rfl ?_ | refine lenV (t := 25) rfl u_bytes rfl ?_ | refine lenV (t := 22) rfl u_files rfl ?_ | refine lenS (t := 9) rfl u_str rfl ?_ | refine eqlI rfl rfl rfl ?_ | refine neqI rfl rfl rfl ?_ | refine lssI rfl rfl rfl ?_ | refine leqI rfl rfl rfl ?_ | refine gtrI rfl rfl rfl ?_ | refine geqI rfl rfl rfl ?_))
          refine ixa rfl rfl u_files sz_File rfl (by omega) (by omega) <| L.on rfl rfl rfl <| fad rfl fl_File_1 rfl <| L.on rfl rfl rfl <| ld1 rfl ag_bool rfl hc1 ?_
          cases hxd : x.2.1 with
          | true =>
            (repeat (first | refine mv rfl rfl ?_ | refine asg rfl rfl ?_ | refine L.off rfl rfl rfl rfl rfl ?_ | refine L.offU rfl rfl rfl rfl ?_ | refine L.on rfl rfl rfl ?_ | refine pickT rfl rfl rfl ?_ | refine pickF rfl rfl rfl ?_ | refine ext rfl rfl rfl ?_ | refine nilc rfl rfl ?_ | refine lenV (t := 46) rfl u_strs rfl ?_ | refine lenV (t := 25) rfl u_bytes rfl ?_ | refine lenV (t := 22) rfl u_files rfl ?_ | refine lenS (t := 9) rfl u_str rfl ?_ | refine eqlI rfl rfl rfl ?_ | refine neqI rfl rfl rfl ?_ | refine lssI rfl rfl rfl ?_ | refine leqI rfl rfl rfl ?_ | refine gtrI rfl rfl rfl ?_ | refine geqI rfl rfl rfl ?_))
            refine L.nil ?_
            exact N.th (N.meet [(49, .bool true), (0, _), (2, _), (7, _), (9, _), (11, _)] ⟨rfl, rfl, rfl, rfl, rfl, rfl, trivial⟩ ⟨_, rfl, rfl, fun _ => wr1 (.inr (.inl ⟨x.2.2.2, by rw [hg, hxd]⟩)), fun hc => by cases hc⟩)
          | false =>
            (repeat (first | refine mv rfl rfl ?_ | refine asg rfl rfl ?_ | refine L.off rfl rfl rfl rfl rfl ?_ | refine L.offU rfl rfl rfl rfl ?_ | refine L.on rfl rfl rfl ?_ | refine pickT rfl rfl rfl ?_ | refine pickF rfl rfl rfl ?_ | refine ext rfl rfl rfl ?_ | refine nilc rfl rfl ?_ | refine lenV (t := 46) rfl u_strs rfl ?_ | refine lenV (t := 25) rfl u_bytes rfl ?_ | refine lenV (t := 22) rfl u_files rfl ?_ | refine lenS (t := 9) rfl u_str rfl ?_ | refine eqlI rfl rfl rfl ?_ | refine neqI rfl rfl rfl ?_ | refine lssI rfl rfl rfl ?_ | refine leqI rfl rfl rfl ?_ | refine gtrI rfl rfl rfl ?_ | refine geqI rfl rfl rfl ?_))
            refine L.nil ?_
            refine N.th (N.meet [(49, .bool fb), (0, _), (2, _), (7, _), (9, _), (11, _)] ⟨rfl, rfl, rfl, rfl, rfl, rfl, trivial⟩ ⟨_, rfl, rfl, fun hc => ?_, fun hc => ⟨hp0, (fun c => by rw [hg, hxd]; simp), hc⟩⟩)
            rcases hah2 with ⟨-, ha⟩ | ⟨hf, -⟩
            · exact wr1 (.inr (.inr ha))
            · rw [hf] at hc; cases hc
    rintro E' w3 ⟨c, rfl, rfl, hc1, hc2⟩
    refine W.cond rfl (fun hh => ?_) (fun hh => ?_)
    · refine W.seq ?_
      refine W.reg <| asg rfl rfl <| L.nil ?_
      refine N.th ?_
      refine W.ret ?_
      refine N.rth ?_
      refine N.ret1 rfl rfl ?_   -- RETURN
      rw [hc1 hh]
      exact ⟨rfl, ⟨_, E, hR2, hE⟩, hx02.none⟩
    · refine W.skip ?_
      exact N.th (N.meet [(0, _), (2, _), (7, _), (9, _), (11, _)] ⟨rfl, rfl, rfl, rfl, rfl, trivial⟩ ⟨rfl, rfl, hc2 hh⟩)
  rintro E' w2' ⟨rfl, rfl, hp0, hnd, hfb⟩
  obtain ⟨lk, halk, hlk⟩ : ∃ lk, Tr.ahd m (Tr.ups (Sp.parts (Sp.clean s).1)) = some lk ∧ StrsA w1.heap.size w2' lkv lk := by
    rcases hah2 with ⟨hf, -⟩ | ⟨-, lk, h1, h2⟩
    · rw [hfb] at hf; cases hf
    · exact ⟨lk, h1, h2⟩
  obtain ⟨wr3, wr4⟩ := wr2 lk hp0 hnd halk
  have hlkl : lk.length ≤ 12 := by
    have hcp := Sp.clean_cl hc0
    cases ha : Tr.ahead m (Sp.clean s).1 with
    | none => rw [(Tr.ahd_iff hcp).2 ha] at halk; cases halk
    | some l0 =>
      have h1 := (Tr.ahd_some m _ _ halk).2
      have h3 : lk.length ≤ (Tr.ups (Sp.parts (Sp.clean s).1)).length := (h1.2 (Tr.nodup_ups hcp)).length_le_of_subset fun e he => (h1.1 e he).1
      have h4 := (Tr.parts_cl hcp).2.2
      rw [ups_len] at h3
      omega
  obtain ⟨lka, lkc, rfl, hlkn, hlkm⟩ := own_slice hlk
  have hold := old_le m (Sp.clean s).1
  refine W.seq ?_
  refine W.reg <| asg rfl rfl <| asg rfl rfl <| L.nil ?_
  refine N.th ?_
  refine W.seqM (fun E' w' => E' = [(0, pT rt), (2, .slice ba b.length bc), (7, .string (S (Sp.clean s).1)), (11, .slice lka lk.length lkc), (12, .int .i64 (Tr.old m (Sp.clean s).1)), (13, .int .i64 (Tr.more m (Sp.clean s).1))] ∧ w' = w2') ?_ ?_   -- CUT
  · refine W.seq ?_
    rcases hk with ⟨rfl, hg⟩ | ⟨i, x, rfl, hxe, hg⟩
    · refine W.reg <| mv rfl rfl <| geqI rfl rfl rfl <| Vc.bf (by simp) <| L.nil ?_
      refine N.th ?_
      refine W.condF rfl ?_
      refine W.skip ?_
      refine N.th (N.meet [(0, _), (2, _), (7, _), (11, _), (12, .int .i64 0), (13, .int .i64 1)] ⟨rfl, rfl, rfl, rfl, rfl, rfl, trivial⟩ ⟨?_, rfl⟩)   -- MEET
      simp [Tr.old, Tr.more, hg]
    · obtain ⟨rb, ro, rfl, -, hil⟩ := hR2.some_ hxe
      have hc2 := (hR2.files.cell hxe).2.2
      obtain ⟨-, xa, xc, hxv, -⟩ := hR2.files.bytes x (List.mem_of_getElem? hxe)
      rw [hxv] at hc2
      refine W.reg <| mv rfl rfl <| geqI rfl rfl rfl <| Vc.bt (by simp) <| L.nil ?_
      refine N.th ?_
      refine W.condT rfl ?_
      refine W.reg <| mv rfl rfl <| nilc rfl rfl <| fad rfl fl_RT_0 rfl <| ld1 rfl ag_files rfl hR2.c0 <| mv rfl rfl <| ixa rfl rfl u_files sz_File rfl (by omega) (by omega) <| fad rfl fl_File_2 rfl <| ld1 rfl ag_bytes rfl hc2 <| lenV rfl u_bytes rfl <| asg rfl rfl <| asg rfl rfl <| L.nil ?_
      refine N.th (N.meet [(0, _), (2, _), (7, _), (11, _), (12, .int .i64 x.2.2.2.length), (13, .int .i64 0)] ⟨rfl, rfl, rfl, rfl, rfl, rfl, trivial⟩ ⟨?_, rfl⟩)   -- MEET
      simp [Tr.old, Tr.more, hg]
  rintro E' w3 ⟨rfl, rfl⟩
  have hmore : Tr.more m (Sp.clean s).1 ≤ 1 := by unfold Tr.more; split <;> omega
  refine W.seqM (fun E' w' => E' = [(0, pT rt), (2, .slice ba b.length bc), (7, .string (S (Sp.clean s).1)), (11, .slice lka lk.length lkc)] ∧ w' = w3 ∧ ¬ (65536 < b.length ∨ (1048576 : Int) < (Tr.size m : Int) - Tr.old m (Sp.clean s).1 + b.length ∨ 500 < m.length + Tr.more m (Sp.clean s).1 + lk.length)) ?_ ?_
  · refine W.seqM (fun E' w' => ∃ c, E' = [(86, .bool c), (0, pT rt), (2, .slice ba b.length bc), (7, .string (S (Sp.clean s).1)), (11, .slice lka lk.length lkc)] ∧ w' = w3 ∧ (c = true ↔ (65536 < b.length ∨ (1048576 : Int) < (Tr.size m : Int) - Tr.old m (Sp.clean s).1 + b.length ∨ 500 < m.length + Tr.more m (Sp.clean s).1 + lk.length))) ?_ ?_
    · refine W.reg ?_
      (repeat (first | refine mv rfl rfl ?_ | refine asg rfl rfl ?_ | refine L.off rfl rfl rfl rfl rfl ?_ | refine L.offU rfl rfl rfl rfl ?_ | refine L.on rfl rfl rfl ?_ | refine pickT rfl rfl rfl ?_ | refine pickF rfl rfl rfl ?_ | refine ext rfl rfl rfl ?_ | refine nilc rfl rfl ?_ | refine lenV (t := 46) rfl u_strs rfl ?_ | refine lenV (t := 25) rfl u_bytes rfl ?_ | refine lenV (t := 22) rfl u_files rfl ?_ | refine lenS (t := 9) rfl u_str rfl ?_ | refine eqlI rfl rfl rfl ?_ | refine neqI rfl rfl rfl ?_ | refine lssI rfl rfl rfl ?_ | refine leqI rfl rfl rfl ?_ | refine gtrI rfl rfl rfl ?_ | refine geqI rfl rfl rfl ?_))
      by_cases h1 : 65536 < b.length
      · refine Vc.bt (by simp; omega) ?_
        (repeat (first | refine mv rfl rfl ?_ | refine asg rfl rfl ?_ | refine L.off rfl rfl rfl rfl rfl ?_ | refine L.offU rfl rfl rfl rfl ?_ | refine L.on rfl rfl rfl ?_ | refine pickT rfl rfl rfl ?_ | refine pickF rfl rfl rfl ?_ | refine ext rfl rfl rfl ?_ | refine nilc rfl rfl ?_ | refine lenV (t := 46) rfl u_strs rfl ?_ | refine lenV (t := 25) rfl u_bytes rfl ?_ | refine lenV (t := 22) rfl u_files rfl ?_ | refine lenS (t := 9) rfl u_str rfl ?_ | refine eqlI rfl rfl rfl ?_ | refine neqI rfl rfl rfl ?_ | refine lssI rfl rfl rfl ?_ | refine leqI rfl rfl rfl ?_ | refine gtrI rfl rfl rfl ?_ | refine geqI rfl rfl rfl ?_))
        refine L.nil ?_
        exact N.th (N.meet [(86, .bool true), (0, _), (2, _), (7, _), (11, _)] ⟨rfl, rfl, rfl, rfl, rfl, trivial⟩ ⟨_, rfl, rfl, fun _ => .inl h1, fun _ => rfl⟩)
      · refine Vc.bf (by simp; omega) ?_
        (repeat (first | refine mv rfl rfl ?_ | refine asg rfl rfl ?_ | refine L.off rfl rfl rfl rfl rfl ?_ | refine L.offU rfl rfl rfl rfl ?_ | refine L.on rfl rfl rfl ?_ | refine pickT rfl rfl rfl ?_ | refine pickF rfl rfl rfl ?_ | refine ext rfl rfl rfl ?_ | refine nilc rfl rfl ?_ | refine lenV (t := 46) rfl u_strs rfl ?_ | refine lenV (t := 25) rfl u_bytes rfl ?_ | refine lenV (t := 22) rfl u_files rfl ?_ | refine lenS (t := 9) rfl u_str rfl ?_ | refine eqlI rfl rfl rfl ?_ | refine neqI rfl rfl rfl ?_ | refine lssI rfl rfl rfl ?_ | refine leqI rfl rfl rfl ?_ | refine gtrI rfl rfl rfl ?_ | refine geqI rfl rfl rfl ?_))
        refine call (vs := [_]) rfl rfl ok_RSize (c_RSize hR2 (by omega) (by omega)) ?_
        rintro e w4 ⟨rfl, rfl⟩
        refine ⟨_, rfl, ?_⟩
        rw [hsz]
        (repeat (first | refine mv rfl rfl ?_ | refine asg rfl rfl ?_ | refine L.off rfl rfl rfl rfl rfl ?_ | refine L.offU rfl rfl rfl rfl ?_ | refine L.on rfl rfl rfl ?_ | refine pickT rfl rfl rfl ?_ | refine pickF rfl rfl rfl ?_ | refine ext rfl rfl rfl ?_ | refine nilc rfl rfl ?_ | refine lenV (t := 46) rfl u_strs rfl ?_ | refine lenV (t := 25) rfl u_bytes rfl ?_ | refine lenV (t := 22) rfl u_files rfl ?_ | refine lenS (t := 9) rfl u_str rfl ?_ | refine eqlI rfl rfl rfl ?_ | refine neqI rfl rfl rfl ?_ | refine lssI rfl rfl rfl ?_ | refine leqI rfl rfl rfl ?_ | refine gtrI rfl rfl rfl ?_ | refine geqI rfl rfl rfl ?_))
        refine subI (c := (Tr.size m : Int) - Tr.old m (Sp.clean s).1) rfl rfl rfl (w64 (by omega) (by omega)) ?_
        (repeat (first | refine mv rfl rfl ?_ | refine asg rfl rfl ?_ | refine L.off rfl rfl rfl rfl rfl ?_ | refine L.offU rfl rfl rfl rfl ?_ | refine L.on rfl rfl rfl ?_ | refine pickT rfl rfl rfl ?_ | refine pickF rfl rfl rfl ?_ | refine ext rfl rfl rfl ?_ | refine nilc rfl rfl ?_ | refine lenV (t := 46) rfl u_strs rfl ?_ | refine lenV (t := 25) rfl u_bytes rfl ?_ | refine lenV (t := 22) rfl u_files rfl ?_ | refine lenS (t := 9) rfl u_str rfl ?_ | refine eqlI rfl rfl rfl ?_ | refine neqI rfl rfl rfl ?_ | refine lssI rfl rfl rfl ?_ | refine leqI rfl rfl rfl ?_ | refine gtrI rfl rfl rfl ?_ | refine geqI rfl rfl rfl ?_))
        refine addI (c := (Tr.size m : Int) - Tr.old m (Sp.clean s).1 + b.length) rfl rfl rfl (w64 (by omega) (by omega)) ?_
        (repeat (first | refine mv rfl rfl ?_ | refine asg rfl rfl ?_ | refine L.off rfl rfl rfl rfl rfl ?_ | refine L.offU rfl rfl rfl rfl ?_ | refine L.on rfl rfl rfl ?_ | refine pickT rfl rfl rfl ?_ | refine pickF rfl rfl rfl ?_ | refine ext rfl rfl rfl ?_ | refine nilc rfl rfl ?_ | refine lenV (t := 46) rfl u_strs rfl ?_ | refine lenV (t := 25) rfl u_bytes rfl ?_ | refine lenV (t := 22) rfl u_files rfl ?_ | refine lenS (t := 9) rfl u_str rfl ?_ | refine eqlI rfl rfl rfl ?_ | refine neqI rfl rfl rfl ?_ | refine lssI rfl rfl rfl ?_ | refine leqI rfl rfl rfl ?_ | refine gtrI rfl rfl rfl ?_ | refine geqI rfl rfl rfl ?_))
        by_cases h2 : (1048576 : Int) < (Tr.size m : Int) - Tr.old m (Sp.clean s).1 + b.length
        · refine Vc.bt (by simpa using h2) ?_
          (repeat (first | refine mv rfl rfl ?_ | refine asg rfl rfl ?_ | refine L.off rfl rfl rfl rfl rfl ?_ | refine L.offU rfl rfl rfl rfl ?_ | refine L.on rfl rfl rfl ?_ | refine pickT rfl rfl rfl ?_ | refine pickF rfl rfl rfl ?_ | refine ext rfl rfl rfl ?_ | refine nilc rfl rfl ?_ | refine lenV (t := 46) rfl u_strs rfl ?_ | refine lenV (t := 25) rfl u_bytes rfl ?_ | refine lenV (t := 22) rfl u_files rfl ?_ | refine lenS (t := 9) rfl u_str rfl ?_ | refine eqlI rfl rfl rfl ?_ | refine neqI rfl rfl rfl ?_ | refine lssI rfl rfl rfl ?_ | refine leqI rfl rfl rfl ?_ | refine gtrI rfl rfl rfl ?_ | refine geqI rfl rfl rfl ?_))
          refine L.nil ?_
          exact N.th (N.meet [(86, .bool true), (0, _), (2, _), (7, _), (11, _)] ⟨rfl, rfl, rfl, rfl, rfl, trivial⟩ ⟨_, rfl, rfl, fun _ => .inr (.inl h2), fun _ => rfl⟩)
        · refine Vc.bf (by simpa using h2) ?_
          (repeat (first | refine mv rfl rfl ?_ | refine asg rfl rfl ?_ | refine L.off rfl rfl rfl rfl rfl ?_ | refine L.offU rfl rfl rfl rfl ?_ | refine L.on rfl rfl rfl ?_ | refine pickT rfl rfl rfl ?_ | refine pickF rfl rfl rfl ?_ | refine ext rfl rfl rfl ?_ | refine nilc rfl rfl ?_ | refine lenV (t := 46) rfl u_strs rfl ?_ | refine lenV (t := 25) rfl u_bytes rfl ?_ | refine lenV (t := 22) rfl u_files rfl ?_ | refine lenS (t := 9) rfl u_str rfl ?_ | refine eqlI rfl rfl rfl ?_ | refine neqI rfl rfl rfl ?_ | refine lssI rfl rfl rfl ?_ | refine leqI rfl rfl rfl ?_ | refine gtrI rfl rfl rfl ?_ | refine geqI rfl rfl rfl ?_))
          refine fad rfl fl_RT_0 rfl <| L.on rfl rfl rfl <| ld1 rfl ag_files rfl hR2.c0 ?_
          (repeat (first | refine mv rfl rfl ?_ | refine asg rfl rfl ?_ | refine L.off rfl rfl rfl rfl rfl ?_ | refine L.offU rfl rfl rfl rfl ?_ | refine L.on rfl rfl rfl ?_ | refine pickT rfl rfl rfl ?_ | refine pickF rfl rfl rfl ?_ | refine ext rfl rfl rfl ?_ | refine nilc rfl rfl ?_ | refine lenV (t := 46) rfl u_strs rfl ?_ | refine lenV (t := 25) rfl u_bytes rfl ?_ | refine lenV (t := 22) rfl u_files rfl ?_ | refine lenS (t := 9) rfl u_str rfl ?_ | refine eqlI rfl rfl rfl ?_ | refine neqI rfl rfl rfl ?_ | refine lssI rfl rfl rfl ?_ | refine leqI rfl rfl rfl ?_ | refine gtrI rfl rfl rfl ?_ | refine geqI rfl rfl rfl ?_))
          refine addI (c := ((E.length + Tr.more m (Sp.clean s).1 : Nat) : Int)) rfl rfl rfl (by rw [w64 (by omega) (by omega)]; simp) ?_
          (repeat (first | refine mv rfl rfl ?_ | refine asg rfl rfl ?_ | refine L.off rfl rfl rfl rfl rfl ?_ | refine L.offU rfl rfl rfl rfl ?_ | refine L.on rfl rfl rfl ?_ | refine pickT rfl rfl rfl ?_ | refine pickF rfl rfl rfl ?_ | refine ext rfl rfl rfl ?_ | refine nilc rfl rfl ?_ | refine lenV (t := 46) rfl u_strs rfl ?_ | refine lenV (t := 25) rfl u_bytes rfl ?_ | refine lenV (t := 22) rfl u_files rfl ?_ | refine lenS (t := 9) rfl u_str rfl ?_ | refine eqlI rfl rfl rfl ?_ | refine neqI rfl rfl rfl ?_ | refine lssI rfl rfl rfl ?_ | refine leqI rfl rfl rfl ?_ | refine gtrI rfl rfl rfl ?_ | refine geqI rfl rfl rfl ?_))
          refine addI (c := ((E.length + Tr.more m (Sp.clean s).1 + lk.length : Nat) : Int)) rfl rfl rfl (by rw [w64 (by omega) (by omega)]; simp) ?_
          (repeat (first | refine mv rfl rfl ?_ | refine asg rfl rfl ?_ | refine L.off rfl rfl rfl rfl rfl ?_ | refine L.offU rfl rfl rfl rfl ?_ | refine L.on rfl rfl rfl ?_ | refine pickT rfl rfl rfl ?_ | refine pickF rfl rfl rfl ?_ | refine ext rfl rfl rfl ?_ | refine nilc rfl rfl ?_ | refine lenV (t := 46) rfl u_strs rfl ?_ | refine lenV (t := 25) rfl u_bytes rfl ?_ | refine lenV (t := 22) rfl u_files rfl ?_ | refine lenS (t := 9) rfl u_str rfl ?_ | refine eqlI rfl rfl rfl ?_ | refine neqI rfl rfl rfl ?_ | refine lssI rfl rfl rfl ?_ | refine leqI rfl rfl rfl ?_ | refine gtrI rfl rfl rfl ?_ | refine geqI rfl rfl rfl ?_))
          refine L.nil ?_
          refine N.th (N.meet [(86, _), (0, _), (2, _), (7, _), (11, _)] ⟨rfl, rfl, rfl, rfl, rfl, trivial⟩ ⟨_, rfl, rfl, ?_⟩)
          rw [decide_eq_true_iff]
          constructor
          · intro hh; exact .inr (.inr (by omega))
          · rintro (hh | hh | hh)
            · exact absurd hh h1
            · exact absurd hh h2
            · omega
    rintro E' w4 ⟨c, rfl, rfl, hc⟩
    refine W.cond rfl (fun hh => ?_) (fun hh => ?_)
    · refine W.seq ?_
      refine W.reg <| asg rfl rfl <| L.nil ?_
      refine N.th ?_
      refine W.ret ?_
      refine N.rth ?_
      refine N.ret1 rfl rfl ?_   -- RETURN
      rw [wr3 (hc.1 hh)]
      exact ⟨rfl, ⟨_, E, hR2, hE⟩, hx02.none⟩
    · refine W.skip ?_
      exact N.th (N.meet [(0, _), (2, _), (7, _), (11, _)] ⟨rfl, rfl, rfl, rfl, trivial⟩ ⟨rfl, rfl, fun hx => by rw [hc.2 hx] at hh; cases hh⟩)
  rintro E' w4 ⟨rfl, rfl, hfits⟩
  obtain ⟨hw2, hwf⟩ := wr4 hfits
  refine W.seq ?_
  refine W.reg <| mv rfl rfl <| mv rfl rfl <| call (vs := [_, _]) rfl rfl ok_Rmake (c_Rmake lk hR2 (Row.own hlk) (by omega)) ?_
  rintro e w5 ⟨rfl, ⟨lv5, E5, hR5, hE5, hEl5⟩, hx5⟩
  refine ⟨_, rfl, ?_⟩
  refine L.nil ?_
  refine N.th ?_
  have hb5 : BytA w5 (.slice ba b.length bc) b := (hb.ext0 hx02).keep hx5.size fun ad u hu hlt hcell => hx5.block _ hlt fun e => by
    unfold World.cell? at hcell
    rw [e, hR2.cell] at hcell
    simp only at hcell
    split at hcell
    · cases hcell
    · match ad.off, hcell with
      | 0, hcell =>
        simp at hcell
        simp [encB] at hu
        obtain ⟨y, -, rfl⟩ := hu
        cases hcell
      | k + 1, hcell => simp at hcell
  refine W.seq ?_
  refine W.reg <| mv rfl rfl <| mv rfl rfl <| mv rfl rfl <| cpyB rfl hb5 el_bytes rfl (by omega) fun cv w6 hcv hx6 => ?_
  obtain ⟨ca, cc, rfl, -, -⟩ := own_slice hcv
  refine bld (vs := #[(0, .string (S (Sp.clean s).1)), (2, .slice ca b.length cc)]) (v := .agg (fcells ((Sp.clean s).1, false, .slice ca b.length cc, b)).toArray) rfl rfl (fun _ => by kernel_rfl) <|
    call (vs := [_, _]) rfl rfl ok_Rput (c_Rput ((Sp.clean s).1, false, .slice ca b.length cc, b) (hR5.ext0 hx6) (Row.own hcv) (by omega)) ?_
  rintro e w7 ⟨rfl, lv7, E7, hR7, hE7, -, hx7⟩
  refine ⟨_, rfl, ?_⟩
  refine L.nil ?_
  refine N.th ?_
  refine W.seq ?_
  refine W.reg <| asg rfl rfl <| L.nil ?_
  refine N.th ?_
  refine W.ret ?_
  refine N.ret1 rfl rfl ?_   -- RETURN
  refine ⟨by rw [hw2], ⟨lv7, E7, hR7, ?_⟩, hx02.none.trans (hx5.trans (hx6.none.trans hx7))⟩
  rw [hE7, hE5, hE, hwf]
end Go.Proofs.YtmdpmpdlkaogdaaGreatDoor

namespace Go.Proofs.YtmdpmpdlkaogdaaGreatDoor
namespace Sh
/-- A number's eight bytes, the highest first. -/
def len8 (n : Nat) : List UInt8 := (List.range 8).map fun j => UInt8.ofNat (n / 2 ^ (8 * (7 - j)))
def zeros (n : Nat) : Nat := (119 - n % 64) % 64
/-- A text as it is hashed. -/
def pad (b : List UInt8) : List UInt8 := b ++ [128] ++ List.replicate (zeros b.length) 0 ++ len8 (8 * b.length)
theorem len8_len (n : Nat) : (len8 n).length = 8 := by simp [len8]
theorem pad_len (b : List UInt8) : (pad b).length % 64 = 0 ∧ (pad b).length ≤ b.length + 73 := by
  have h : (pad b).length = b.length + 1 + zeros b.length + 8 := by simp [pad, len8_len]; omega
  rw [h]
  unfold zeros
  omega
end Sh
open Go Go.RowKit Vc
theorem u_u64 : P.underlying 40 = some (.int .u64) := Tryz.underlying40
theorem ok_pad : FnOk P 90 := ⟨_, Tryz.func90, by kernel_rfl, by kernel_rfl⟩

theorem c_pad {w : World} {v : Value} {b : List UInt8} (hb : BytA w v b) (hl : b.length ≤ 100000000) : Calls P 90 #[v] w fun e w' => ∃ v', e = .returned v' ∧ Byts w.heap.size w' v' (Sh.pad b) ∧ Ext none_ w w' := by
  obtain ⟨a, c, rfl, hn, hmx, -, -⟩ := id hb
  refine enter (l := [_]) (n := 34) Tryz.func90 rfl rfl rfl ?_
  refine W.seq ?_
  refine W.reg <| asg rfl rfl <| L.nil ?_
  refine N.th ?_
  refine W.seq ?_
  refine W.reg <| mv rfl rfl <| cpyB rfl hb el_bytes rfl (by omega) fun v1 w1 hv1 hx1 => ?_
  refine push1 (cs := #[.int .u8 ((128 : UInt8).toNat : Int)]) rfl rfl rfl rfl (fun _ => by kernel_rfl) el_bytes rfl rfl hv1 (by omega) (by simp only [maxLen]; omega) hx1.size fun v2 w2 hv2 hx2 => ?_
  refine asg rfl rfl <| L.nil ?_
  refine N.th ?_
  have hv2' : Byts w.heap.size w2 v2 (b ++ [128] ++ List.replicate 0 0) := by simpa [Byts, encB] using hv2
  refine W.seq ?_
  refine W.block ?_
  refine W.loop (X := Nat × Value) (fun x => [(3, x.2), (0, .slice a b.length c)]) (fun x w' => x.1 ≤ Sh.zeros b.length ∧ Byts w.heap.size w' x.2 (b ++ [128] ++ List.replicate x.1 0) ∧ Ext none_ w w') (fun x => Sh.zeros b.length - x.1) (0, v2) ⟨rfl, rfl, trivial⟩ ⟨by omega, hv2', hx1.own hv1 hx2⟩ ?_
  rintro ⟨k, v3⟩ w3 ⟨hk, hv3, hx3⟩
  dsimp only at hk hv3 ⊢
  obtain ⟨a3, c3, rfl, hn3, hm3⟩ := own_slice hv3
  have hlen : (b ++ [128] ++ List.replicate k (0 : UInt8)).length = b.length + 1 + k := by simp; omega
  refine W.seq ?_
  refine W.seq ?_
  refine W.reg <| mv rfl rfl <| lenV (t := 25) rfl u_bytes rfl <| remI (c := (((b ++ [128] ++ List.replicate k (0 : UInt8)).length % 64 : Nat) : Int)) rfl rfl rfl (by decide) rfl <| neqI rfl rfl rfl <| L.nil ?_
  refine N.th ?_
  have hz : Sh.zeros b.length = (119 - b.length % 64) % 64 := rfl
  refine W.cond rfl (fun h => ?_) (fun h => ?_)
  · refine W.skip ?_
    refine N.th ?_
    have hk1 : k < Sh.zeros b.length := by
      have h1 : ¬ ((((b ++ [128] ++ List.replicate k (0 : UInt8)).length % 64 : Nat) : Int) = 56) := by simpa using h
      rw [hlen] at h1
      omega
    refine W.block ?_
    refine W.reg <| mv rfl rfl <| push1 (cs := #[.int .u8 ((0 : UInt8).toNat : Int)]) rfl rfl rfl rfl (fun _ => by kernel_rfl) el_bytes rfl rfl hv3 (by omega) (by simp only [maxLen]; omega) hx3.size fun v4 w4 hv4 hx4 => ?_
    refine asg rfl rfl <| L.nil ?_
    refine N.inb ?_
    refine N.th (N.round (x := (k + 1, v4)) ⟨rfl, rfl, trivial⟩ ⟨by dsimp only; omega, ?_, hx3.own hv3 hx4⟩ (by dsimp only; omega))   -- ROUND
    have e : b ++ [128] ++ List.replicate (k + 1) (0 : UInt8) = b ++ [128] ++ List.replicate k 0 ++ [0] := by rw [List.replicate_succ']; simp
    dsimp only
    rw [e]
    unfold Byts
    rw [List.length_append, List.length_singleton, show encB (b ++ [128] ++ List.replicate k 0 ++ [0]) = encB (b ++ [128] ++ List.replicate k 0) ++ [.int .u8 ((0 : UInt8).toNat : Int)] by simp [encB]]
    exact hv4
  refine W.exit ?_
  refine N.xth ?_
  refine N.xth ?_
  refine N.xeq ?_
  refine N.th ?_
  have hk0 : k = Sh.zeros b.length := by
    have h1 : (((b ++ [128] ++ List.replicate k (0 : UInt8)).length % 64 : Nat) : Int) = 56 := by simpa using h
    rw [hlen] at h1
    omega
  subst hk0
  obtain ⟨pre, hpre⟩ : ∃ pre, pre = b ++ [128] ++ List.replicate (Sh.zeros b.length) (0 : UInt8) := ⟨_, rfl⟩
  rw [← hpre] at hv3 hlen ⊢
  refine W.seq ?_
  refine W.reg <| mv rfl rfl <| lenV (t := 25) rfl u_bytes rfl <| cvtI (c := (b.length : Int)) rfl u_u64 u_int rfl (wu64 (by omega) (by omega)) <| mulI (c := ((8 * b.length : Nat) : Int)) rfl rfl rfl (by rw [wu64 (by omega) (by omega)]; omega) <| asg rfl rfl <| L.nil ?_
  refine N.th ?_
  refine W.seq ?_
  refine W.seq ?_
  refine W.reg <| asg rfl rfl <| L.nil ?_
  refine N.th ?_
  refine W.block ?_
  refine W.loop (X := Nat × Value) (fun x => [(5, .int .i64 (7 - (x.1 : Int))), (4, .int .u64 ((8 * b.length : Nat) : Int)), (3, x.2)]) (fun x w' => x.1 ≤ 8 ∧ Byts w.heap.size w' x.2 (pre ++ (Sh.len8 (8 * b.length)).take x.1) ∧ Ext none_ w w') (fun x => 8 - x.1) (0, .slice a3 pre.length c3) ⟨rfl, rfl, rfl, trivial⟩ ⟨by omega, by simpa using hv3, hx3⟩ ?_
  rintro ⟨j, v4⟩ w4 ⟨hj, hv4, hx4⟩
  dsimp only at hj hv4 ⊢
  obtain ⟨a4, c4, rfl, -, -⟩ := own_slice hv4
  refine W.seq ?_
  refine W.seq ?_
  refine W.reg <| mv rfl rfl <| geqI rfl rfl rfl <| L.nil ?_
  refine N.th ?_
  refine W.cond rfl (fun h => ?_) (fun h => ?_)
  · refine W.skip ?_
    refine N.th ?_
    have hj1 : j < 8 := by have := of_decide_eq_true h; omega
    have hz2 : Sh.zeros b.length < 64 := Nat.mod_lt _ (by decide)
    have h8 := Sh.len8_len (8 * b.length)
    have hl4 : (pre ++ (Sh.len8 (8 * b.length)).take j).length ≤ 100000100 := by simp [h8]; omega
    obtain ⟨y, hy⟩ : ∃ y : UInt8, y = UInt8.ofNat (8 * b.length / 2 ^ (8 * (7 - j))) := ⟨_, rfl⟩
    have hget : (Sh.len8 (8 * b.length))[j]? = some y := by rw [hy]; simp [Sh.len8, hj1]
    refine W.seq ?_
    refine W.block ?_
    refine W.reg <| mv rfl rfl <| mv rfl rfl <| mv rfl rfl <| mulI (c := ((8 * (7 - j) : Nat) : Int)) rfl rfl rfl (by rw [w64 (by omega) (by omega)]; omega) <| shrI (c := ((8 * b.length / 2 ^ (8 * (7 - j)) : Nat) : Int)) rfl rfl rfl (by omega) (by
        have h1 : min (((8 * (7 - j) : Nat) : Int)).toNat IntKind.u64.bits = 8 * (7 - j) := by simp [IntKind.bits]; omega
        rw [h1, Int.fdiv_eq_ediv_of_nonneg _ (Int.pow_nonneg (by decide))]
        simp) <| cvtI (c := (y.toNat : Int)) rfl u_u8 u_u64 rfl (by rw [hy]; simp [IntKind.wrap, IntKind.bits, IntKind.signed]) <|
      push1 (cs := #[.int .u8 (y.toNat : Int)]) rfl rfl rfl rfl (fun _ => by kernel_rfl) el_bytes rfl rfl hv4 (by omega) (by simp only [maxLen]; omega) hx4.size fun v5 w5 hv5 hx5 => ?_
    refine asg rfl rfl <| L.nil ?_
    refine N.inb ?_
    refine N.th ?_
    refine W.reg <| mv rfl rfl <| subI (c := 7 - ((j + 1 : Nat) : Int)) rfl rfl rfl (by rw [w64 (by omega) (by omega)]; omega) <| asg rfl rfl <| L.nil ?_
    refine N.th (N.round (x := (j + 1, v5)) ⟨rfl, rfl, rfl, trivial⟩ ⟨by dsimp only; omega, ?_, hx4.own hv4 hx5⟩ (by dsimp only; omega))   -- ROUND
    dsimp only
    rw [List.take_add_one, hget]
    show Byts w.heap.size w5 v5 (pre ++ (_ ++ [y]))
    rw [← List.append_assoc]
    unfold Byts
    rw [List.length_append, List.length_singleton, show encB (pre ++ (Sh.len8 (8 * b.length)).take j ++ [y]) = encB (pre ++ (Sh.len8 (8 * b.length)).take j) ++ [.int .u8 (y.toNat : Int)] by simp [encB]]
    exact hv5
  · refine W.exit ?_
    refine N.xth ?_
    refine N.xth ?_
    refine N.xeq ?_
    refine N.th ?_
    have hj8 : j = 8 := by have := of_decide_eq_false h; omega
    subst hj8
    rw [List.take_of_length_le (by rw [Sh.len8_len]; exact Nat.le_refl _)] at hv4
    refine W.seq ?_
    refine W.reg <| mv rfl rfl <| asg rfl rfl <| L.nil ?_
    refine N.th ?_
    refine W.ret ?_
    refine N.ret1 rfl rfl ?_   -- RETURN
    have hp : Sh.pad b = pre ++ Sh.len8 (8 * b.length) := by rw [hpre]; rfl
    rw [hp]
    refine ⟨_, rfl, ?_, hx4⟩
    rw [List.take_of_length_le (by rw [Sh.len8_len]; exact Nat.le_refl _)]
    exact hv4
end Go.Proofs.YtmdpmpdlkaogdaaGreatDoor
