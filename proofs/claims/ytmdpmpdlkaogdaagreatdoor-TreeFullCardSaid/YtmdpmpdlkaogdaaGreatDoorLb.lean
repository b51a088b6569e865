/- The walk of TreeRemoves. -/
import Derived.Test.YtmdpmpdlkaogdaaGreatDoorRb
import Derived.Test.YtmdpmpdlkaogdaaGreatDoorRs
import Derived.Test.YtmdpmpdlkaogdaaGreatDoorLs
import Derived.Test.YtmdpmpdlkaogdaaGreatDoorTk
import Derived.Test.YtmdpmpdlkaogdaaGreatDoorTl
namespace Go.Proofs.YtmdpmpdlkaogdaaGreatDoor
open Go Go.RowKit Vc

/-- A File, as a slice's only element. -/
theorem fbuild {x : FE} {l : List UInt8} {w0 : World} (hx : RowB w0 x.2.2.1 l) : (∀ w, (Instr.buildSlice 22 1 #[(0, .agg (fcells x).toArray)]).run P w = .ok (.slice (some ⟨w.heap.size, 0, none⟩) 1 1) (w.alloc (.cells (fcells x).toArray tF))) ∧ ((fcells x).toArray.toList.all (·.oneCell')) = true := by
  obtain ⟨p, d, v, b⟩ := x
  obtain ⟨-, a, c, rfl, -⟩ := hx
  exact ⟨fun w => by kernel_rfl, rfl⟩
theorem FilesAt.cells {w : World} {b o n c i : Nat} {E : List FE} {x : FE} (h : FilesAt w (.slice (some ⟨b, o, none⟩) n c) E) (hi : E[i]? = some x) : ∀ j v, (fcells x)[j]? = some v → w.cell? ⟨b, o + i * 3 + j, none⟩ = some v := fun j v hj => by
  obtain ⟨h0, h1, h2⟩ := h.cell hi
  match j, hj with
  | 0, hj => cases hj; exact h0
  | 1, hj => cases hj; exact h1
  | 2, hj => cases hj; exact h2
  | j + 3, hj => simp [fcells] at hj
theorem FilesAt.own {B : Nat} {w : World} {v : Value} {E : List FE} (hv : w.ownsRow B tF 3 v E.length (E.flatMap fcells)) (hb : ∀ x ∈ E, RowB w x.2.2.1 x.2.2.2) : FilesAt w v E := ⟨Row.own hv, hb⟩

theorem encB_ne {l : List UInt8} {i : Nat} (h : i < l.length) : encB l ≠ [] := fun e => by
  have := congrArg List.length e
  rw [encB_length, List.length_nil] at this
  omega
/-- What is left of a tree's files. -/
def kept (f : Int) (q : Tr.Bytes) (x : FE) : Bool := !decide (f = 0) || !Sp.within x.1 q

theorem remove_left {m : Tr.T} (h : Tr.Ok m) (p : Tr.Bytes) : (Tr.files m).filter (fun x => !decide ((Tr.remove m p).2 = 0) || !Sp.within x.1 (Sp.clean p).1) = Tr.files (Tr.remove m p).1 ∧
    ((Sp.clean p).2 = 0 ∨ (Tr.remove m p).2 = (Sp.clean p).2) ∧ ((Tr.remove m p).2 ≠ 0 ∨ Tr.exists_ (Tr.remove m p).1 p = false) := by
  have hall : ∀ {f : Int}, f ≠ 0 → (Tr.files m).filter (fun x => !decide (f = 0) || !Sp.within x.1 (Sp.clean p).1) = Tr.files m := fun {f} hf => List.filter_eq_self.2 fun x _ => by simp [hf]
  unfold Tr.remove
  split
  · rename_i h0
    exact ⟨hall h0, .inr rfl, .inl h0⟩
  rename_i h0
  have h0' : (Sp.clean p).2 = 0 := by simpa using h0
  dsimp only
  split
  · exact ⟨hall (by simp), .inl h0', .inl (by simp)⟩
  rename_i hp0
  split
  · exact ⟨hall (by simp), .inl h0', .inl (by simp)⟩
  refine ⟨?_, .inl h0', .inr ?_⟩
  · dsimp only
    have e : (fun x : Tr.Bytes × Tr.Nd => !decide ((0 : Int) = 0) || !Sp.within x.1 (Sp.clean p).1) = fun x => (fun k => !Sp.within k (Sp.clean p).1) x.1 := by funext x; simp
    rw [e]
    refine Tr.files_eq_of (Tr.filter_sorted (Tr.files_sorted h.nodup) _) (Tr.nodup_drop _ h.nodup) fun k => ?_
    rw [Tr.get_filter (Tr.files_nodup h.nodup) (fun k => !Sp.within k (Sp.clean p).1), Tr.files_get h.nodup, Tr.get_cut]
    cases Sp.within k (Sp.clean p).1 <;> simp
  · unfold Tr.exists_
    rw [Tr.at_of hp0, Tr.get_cut, if_pos (Sp.within_refl _)]
    simp

theorem c_TreeRemoves (w : World) {v : Value} {l : List UInt8} (hv : BytA w v l) (p : Sp.Bytes) :
    Calls P 10 #[v, .string (S p)] w fun e w' => e = .returned (.bool true) ∧ Ext none_ w w' := by
  obtain ⟨a, c, rfl, hn, hmx, -, -⟩ := id hv
  refine enter (l := [_, _]) (n := 96) Tryz.func10 rfl rfl rfl ?_
  refine W.seq ?_
  refine W.reg <| asg rfl rfl <| L.nil ?_
  refine N.th ?_
  refine W.seq ?_
  refine W.seq ?_
  refine W.reg <| call (vs := []) rfl rfl ok_known (c_known w) ?_
  rintro e w1 ⟨rfl, hx1⟩
  refine ⟨_, rfl, ?_⟩
  refine notB rfl rfl <| L.nil ?_
  refine N.th ?_
  refine W.condF rfl ?_
  refine W.skip ?_
  refine N.th ?_
  refine W.seqM (fun E w' => E = [(0, .slice a l.length c), (1, .string (S p))] ∧ w' = w1 ∧ l.length ≤ 15 ∧ p.length ≤ 100) ?_ ?_
  · refine W.seqM (fun E w' => ∃ b, E = [(22, .bool b), (0, .slice a l.length c), (1, .string (S p))] ∧ w' = w1 ∧ (b = false → l.length ≤ 15 ∧ p.length ≤ 100)) ?_ ?_
    · refine W.reg ?_
      (repeat (first | refine mv rfl rfl ?_ | refine asg rfl rfl ?_ | refine L.off rfl rfl rfl rfl rfl ?_ | refine L.offU rfl rfl rfl rfl ?_ | refine L.on rfl rfl rfl ?_ | refine pickT rfl rfl rfl ?_ | refine pickF rfl rfl rfl ?_ | refine ext rfl rfl rfl ?_ | refine nilc rfl rfl ?_ | refine lenV (t := 46) rfl u_strs rfl ?_ | refine lenV (t := 25) rfl u_bytes rfl ?_ | refine lenV (t := 22) rfl u_files rfl ?_ | refine lenS (t := 9) rfl u_str rfl ?_ | refine eqlI rfl rfl rfl ?_ | refine neqI rfl rfl rfl ?_ | refine lssI rfl rfl rfl ?_ | refine leqI rfl rfl rfl ?_ | refine gtrI rfl rfl rfl ?_ | refine geqI rfl rfl rfl ?_))
      by_cases h1 : 15 < l.length
      · refine Vc.bt (by simp; omega) ?_
        (repeat (first | refine mv rfl rfl ?_ | refine asg rfl rfl ?_ | refine L.off rfl rfl rfl rfl rfl ?_ | refine L.offU rfl rfl rfl rfl ?_ | refine L.on rfl rfl rfl ?_ | refine pickT rfl rfl rfl ?_ | refine pickF rfl rfl rfl ?_ | refine ext rfl rfl rfl ?_ | refine nilc rfl rfl ?_ | refine lenV (t := 46) rfl u_strs rfl ?_ | refine lenV (t := 25) rfl u_bytes rfl ?_ | refine lenV (t := 22) rfl u_files rfl ?_ | refine lenS (t := 9) rfl u_str rfl ?_ | refine eqlI rfl rfl rfl ?_ | refine neqI rfl rfl rfl ?_ | refine lssI rfl rfl rfl ?_ | refine leqI rfl rfl rfl ?_ | refine gtrI rfl rfl rfl ?_ | refine geqI rfl rfl rfl ?_))
        exact L.nil <| N.th (N.meet [(22, .bool true), (0, _), (1, _)] ⟨rfl, rfl, rfl, trivial⟩ ⟨_, rfl, rfl, fun h => by cases h⟩)
      · refine Vc.bf (by simp; omega) ?_
        (repeat (first | refine mv rfl rfl ?_ | refine asg rfl rfl ?_ | refine L.off rfl rfl rfl rfl rfl ?_ | refine L.offU rfl rfl rfl rfl ?_ | refine L.on rfl rfl rfl ?_ | refine pickT rfl rfl rfl ?_ | refine pickF rfl rfl rfl ?_ | refine ext rfl rfl rfl ?_ | refine nilc rfl rfl ?_ | refine lenV (t := 46) rfl u_strs rfl ?_ | refine lenV (t := 25) rfl u_bytes rfl ?_ | refine lenV (t := 22) rfl u_files rfl ?_ | refine lenS (t := 9) rfl u_str rfl ?_ | refine eqlI rfl rfl rfl ?_ | refine neqI rfl rfl rfl ?_ | refine lssI rfl rfl rfl ?_ | refine leqI rfl rfl rfl ?_ | refine gtrI rfl rfl rfl ?_ | refine geqI rfl rfl rfl ?_))
        exact L.nil <| N.th (N.meet [(22, _), (0, _), (1, _)] ⟨rfl, rfl, rfl, trivial⟩ ⟨_, rfl, rfl, fun h => ⟨by omega, by simp at h; omega⟩⟩)
    rintro E w2 ⟨b, rfl, rfl, hb⟩
    refine W.cond rfl (fun h => ?_) (fun h => ?_)
    · refine W.seq ?_
      refine W.reg <| asg rfl rfl <| L.nil ?_
      refine N.th ?_
      refine W.ret ?_
      refine N.rth ?_
      refine N.ret1 rfl rfl ?_   -- RETURN
      exact ⟨rfl, hx1⟩
    · refine W.skip ?_
      exact N.th (N.meet [(0, _), (1, _)] ⟨rfl, rfl, trivial⟩ ⟨rfl, rfl, hb h⟩)
  rintro E w2 ⟨rfl, rfl, hl15, hp100⟩
  refine W.seq ?_
  refine W.reg <| call (vs := []) rfl rfl ok_New (c_New w2) ?_
  rintro e w3 ⟨bt, bm, rfl, hbt, hbm, hT3, hx3⟩
  refine ⟨_, rfl, ?_⟩
  refine asg rfl rfl <| L.nil ?_
  refine N.th ?_
  refine W.seq ?_
  refine W.seq ?_
  refine W.reg <| asg rfl rfl <| L.nil ?_
  refine N.th ?_
  refine W.block ?_
  have hs1 := hx1.size
  have hTwo : ∀ i, i < w.heap.size → Two bt bm i → none_ i := by rintro i hi (e | e) <;> omega
  refine W.loop (X := Nat × Tr.T) (fun x => [(6, .int .i64 x.1), (0, .slice a l.length c), (1, .string (S p)), (5, pT bt)])
    (fun x w' => x.1 ≤ l.length ∧ Tr.Ok x.2 ∧ TreeAt none_ w' bt bm x.2 (Tr.size x.2) ∧ Ext none_ w w') (fun x => l.length - x.1) (0, []) ⟨rfl, rfl, rfl, rfl, trivial⟩ ⟨by omega, Tr.Ok.nil, hT3, hx1.trans hx3⟩ ?_
  rintro ⟨i, m⟩ w4 ⟨hi, hok, hT4, hx4⟩
  dsimp only at hi hok hT4 ⊢
  refine W.seq ?_
  refine W.seq ?_
  refine W.reg <| mv rfl rfl <| mv rfl rfl <| lenV rfl u_bytes rfl <| lssI rfl rfl rfl <| L.nil ?_
  refine N.th ?_
  refine W.cond rfl (fun h => ?_) (fun h => ?_)
  · refine W.skip ?_
    refine N.th ?_
    have hi1 : i < l.length := by simp at h; omega
    obtain ⟨k, hk⟩ : ∃ k, l[i]? = some k := ⟨_, List.getElem?_eq_getElem hi1⟩
    obtain ⟨ab, ao, ac, hv', -, -, -, hcell⟩ := (hv.ext0 hx4).plain (encB_ne hi1)
    cases hv'
    have hck : w4.cell? ⟨ab, ao + i * 1, none⟩ = some (.int .u8 k.toNat) := by rw [Nat.mul_one]; exact hcell i _ (by simp [encB, hk])
    refine W.seq ?_
    refine W.block ?_
    refine W.reg <| mv rfl rfl <| mv rfl rfl <| mv rfl rfl <| ixa rfl rfl u_bytes sz_u8 rfl (by omega) (by omega) <| ld1 rfl ag_u8 rfl hck <| call (vs := [_]) rfl rfl ok_name (c_name k w4) ?_
    rintro e w5 ⟨rfl, hx5⟩
    refine ⟨_, rfl, ?_⟩
    have hT5 : Tree none_ (w5.alloc (.cells #[.int .u8 1] tB)) bt bm m := ⟨(hT4.ext0 hx5).ext0 (Ext.alloc _ _ _), hok.len, hok.bytes⟩
    have hrow : RowB (w5.alloc (.cells #[.int .u8 1] tB)) (.slice (some ⟨w5.heap.size, 0, none⟩) 1 1) [1] := ⟨rfl, _, 1, rfl, Nat.le_refl _, by simp [maxLen], (fun h => by cases h), fun ad had => by
      cases had
      exact ⟨_, _, rfl, heap_new _ _, Nat.le_refl _, rfl⟩⟩
    refine bls (vs := #[(0, .int .u8 1)]) (cs := #[.int .u8 1]) (e := tB) rfl rfl (fun _ => by kernel_rfl) <| call (vs := [_, _, _]) rfl rfl ok_Write (c_Write (nameB k) hT5 hrow.arg (by simp)) ?_
    rintro e w6 ⟨rfl, hT6, hx6⟩
    refine ⟨_, rfl, ?_⟩
    refine L.nil ?_
    refine N.inb ?_
    refine N.th ?_
    refine W.reg <| mv rfl rfl <| addI (c := ((i + 1 : Nat) : Int)) rfl rfl rfl (by rw [w64 (by omega) (by omega)]; simp) <| asg rfl rfl <| L.nil ?_
    exact N.th (N.round (x := (i + 1, (Tr.write m (nameB k) [1]).1)) ⟨rfl, rfl, rfl, rfl, trivial⟩ ⟨by dsimp only; omega, hok.write _ _, hT6, (hx4.trans (hx5.trans (Ext.alloc _ _ _))).trans' hx6 hTwo⟩ (by dsimp only; omega))   -- ROUND
  · refine W.exit ?_
    refine N.xth ?_
    refine N.xth ?_
    refine N.xeq ?_
    refine N.th ?_
    have hml := hok.len
    have hmb := hok.bytes
    refine W.seq ?_
    refine W.reg <| mv rfl rfl <| call (vs := [_]) rfl rfl ok_Files (c_Files hT4 (by omega) (by omega)) ?_
    rintro e w5 ⟨va, Ea, rfl, hEa, hva, hfa, hx5⟩
    refine ⟨_, rfl, ?_⟩
    refine asg rfl rfl <| L.nil ?_
    refine N.th ?_
    refine W.seq ?_
    refine W.reg <| mv rfl rfl <| call (vs := [_]) rfl rfl ok_RClean (c_RClean p w5) ?_
    rintro e w6 ⟨rfl, hx6⟩
    refine ⟨_, rfl, ?_⟩
    refine mv rfl rfl <| ext rfl rfl rfl <| ext rfl rfl rfl <| asg rfl rfl <| asg rfl rfl <| L.nil ?_
    refine N.th ?_
    refine W.seq ?_
    have hT6 : Tree none_ w6 bt bm m := ⟨(hT4.ext0 hx5).ext0 hx6, hml, hmb⟩
    refine W.reg <| mv rfl rfl <| mv rfl rfl <| call (vs := [_, _]) rfl rfl ok_Remove (c_Remove p hT6) ?_
    rintro e w7 ⟨rfl, hT7, hx7⟩
    refine ⟨_, rfl, ?_⟩
    refine asg rfl rfl <| L.nil ?_
    refine N.th ?_
    obtain ⟨hr1, hr2, hr3⟩ := remove_left hok p
    have hok' := hok.remove p
    generalize Tr.remove m p = r at *
    obtain ⟨m', f⟩ := r
    dsimp only at hT7 hr1 hr2 hr3 hok' ⊢
    refine W.seq ?_
    refine W.reg <| asg rfl rfl <| L.nil ?_
    refine N.th ?_
    refine W.seq ?_
    refine W.seq ?_
    refine W.reg <| asg rfl rfl <| L.nil ?_
    refine N.th ?_
    refine W.block ?_
    have hFa5 : FilesAt w5 va Ea := FilesAt.own hva fun z hz => Row.own (hfa z hz)
    have hFa7 : FilesAt w7 va Ea := (hFa5.ext0 hx6).ext hx7 (by
      rintro k (rfl | rfl) c' e' fr hc'
      · rw [hT6.at_.cell] at hc'; cases hc'; exact ⟨by decide, by decide⟩
      · obtain ⟨al, ⟨es, cl, hm, _⟩, _⟩ := hT6.at_.reps
        rw [hm] at hc'; cases hc')
    have hEal : Ea.length = m.length := by have := congrArg List.length hEa; simpa [Tr.files] using this
    obtain ⟨aa, ac, rfl, han, ham⟩ := own_slice hva
    have hx07 : Ext none_ w w7 := (hx4.trans (hx5.trans hx6)).trans' hx7 hTwo
    refine W.loop (X := Nat × List FE × Value) (fun x => [(12, .int .i64 x.1), (11, x.2.2), (10, .int .i64 f), (9, .int .i64 (Sp.clean p).2), (8, .string (S (Sp.clean p).1)), (7, .slice aa Ea.length ac), (5, pT bt), (1, .string (S p))])
      (fun x w' => x.1 ≤ Ea.length ∧ x.2.1 = (Ea.take x.1).filter (kept f (Sp.clean p).1) ∧ w'.ownsRow w7.heap.size tF 3 x.2.2 x.2.1.length (x.2.1.flatMap fcells) ∧ Ext none_ w7 w') (fun x => Ea.length - x.1) (0, [], .slice none 0 0) ⟨rfl, rfl, rfl, rfl, rfl, rfl, rfl, rfl, trivial⟩
      ⟨by simp, rfl, own_nil _ _ _ _, Ext.refl _ _⟩ ?_
    rintro ⟨j, K, vl⟩ w8 ⟨hj, hK, hown, hx8⟩
    dsimp only at hj hK hown ⊢
    have hKl : K.length ≤ j := by rw [hK]; have := List.length_filter_le (kept f (Sp.clean p).1) (Ea.take j); rw [List.length_take] at this; omega
    refine W.seq ?_
    refine W.seq ?_
    refine W.reg <| mv rfl rfl <| mv rfl rfl <| lenV rfl u_files rfl <| lssI rfl rfl rfl <| L.nil ?_
    refine N.th ?_
    refine W.cond rfl (fun h => ?_) (fun h => ?_)
    · refine W.skip ?_
      refine N.th ?_
      have hj1 : j < Ea.length := by simp at h; omega
      obtain ⟨x, hxe⟩ : ∃ x, Ea[j]? = some x := ⟨_, List.getElem?_eq_getElem hj1⟩
      have hF8 := hFa7.ext0 hx8
      rcases hF8.row.form with ⟨h0, h3, _⟩ | ⟨fb, fo, fc, h0, -, -, -, -⟩
      · omega
      cases h0
      have htk : Ea.take (j + 1) = Ea.take j ++ [x] := by rw [List.take_add_one, hxe]; rfl
      obtain ⟨hc0, -, -⟩ := hF8.cell hxe
      refine W.seqM (fun E w' => ∃ vl' : Value, ∃ K' : List FE, E = [(12, .int .i64 j), (11, vl'), (10, .int .i64 f), (9, .int .i64 (Sp.clean p).2), (8, .string (S (Sp.clean p).1)), (7, .slice (some ⟨fb, fo, none⟩) Ea.length ac), (5, pT bt), (1, .string (S p))] ∧ K' = (Ea.take (j + 1)).filter (kept f (Sp.clean p).1) ∧ w'.ownsRow w7.heap.size tF 3 vl' K'.length (K'.flatMap fcells) ∧ Ext none_ w7 w') ?_ ?_   -- CUT
      · refine W.block ?_
        refine W.seqM (fun E w' => E = [(65, .bool (kept f (Sp.clean p).1 x)), (12, .int .i64 j), (11, vl), (10, .int .i64 f), (9, .int .i64 (Sp.clean p).2), (8, .string (S (Sp.clean p).1)), (7, .slice (some ⟨fb, fo, none⟩) Ea.length ac), (5, pT bt), (1, .string (S p))] ∧ w' = w8) ?_ ?_
        · refine W.reg ?_
          (repeat (first | refine mv rfl rfl ?_ | refine asg rfl rfl ?_ | refine L.off rfl rfl rfl rfl rfl ?_ | refine L.offU rfl rfl rfl rfl ?_ | refine L.on rfl rfl rfl ?_ | refine pickT rfl rfl rfl ?_ | refine pickF rfl rfl rfl ?_ | refine ext rfl rfl rfl ?_ | refine nilc rfl rfl ?_ | refine lenV (t := 46) rfl u_strs rfl ?_ | refine lenV (t := 25) rfl u_bytes rfl ?_ | refine lenV (t := 22) rfl u_files rfl ?_ | refine lenS (t := 9) rfl u_str rfl ?_ | refine eqlI rfl rfl rfl ?_ | refine neqI rfl rfl rfl ?_ | refine lssI rfl rfl rfl ?_ | refine leqI rfl rfl rfl ?_ | refine gtrI rfl rfl rfl ?_ | refine geqI rfl rfl rfl ?_))
          by_cases hf : f = 0
          · refine Vc.bf (by simp [hf]) ?_
            (repeat (first | refine mv rfl rfl ?_ | refine asg rfl rfl ?_ | refine L.off rfl rfl rfl rfl rfl ?_ | refine L.offU rfl rfl rfl rfl ?_ | refine L.on rfl rfl rfl ?_ | refine pickT rfl rfl rfl ?_ | refine pickF rfl rfl rfl ?_ | refine ext rfl rfl rfl ?_ | refine nilc rfl rfl ?_ | refine lenV (t := 46) rfl u_strs rfl ?_ | refine lenV (t := 25) rfl u_bytes rfl ?_ | refine lenV (t := 22) rfl u_files rfl ?_ | refine lenS (t := 9) rfl u_str rfl ?_ | refine eqlI rfl rfl rfl ?_ | refine neqI rfl rfl rfl ?_ | refine lssI rfl rfl rfl ?_ | refine leqI rfl rfl rfl ?_ | refine gtrI rfl rfl rfl ?_ | refine geqI rfl rfl rfl ?_))
            refine ixa rfl rfl u_files sz_File rfl (by omega) (by omega) <| L.on rfl rfl rfl <| fad rfl fl_File_0 rfl <| L.on rfl rfl rfl <| ld1 rfl ag_str rfl hc0 <| L.on rfl rfl rfl <| mv rfl rfl <| L.on rfl rfl rfl <| call (vs := [_, _]) rfl rfl ok_RWithin (c_RWithin x.1 (Sp.clean p).1 w8) ?_
            rintro e w9 ⟨rfl, rfl⟩
            refine ⟨_, rfl, ?_⟩
            refine L.on rfl rfl rfl <| notB rfl rfl <| pickF rfl rfl rfl <| L.nil ?_
            exact N.th (N.meet [(65, .bool (!Sp.within x.1 (Sp.clean p).1)), (12, _), (11, _), (10, _), (9, _), (8, _), (7, _), (5, _), (1, _)] ⟨rfl, rfl, rfl, rfl, rfl, rfl, rfl, rfl, rfl, trivial⟩ ⟨by simp [kept, hf], rfl⟩)
          · refine Vc.bt (by simpa using hf) ?_
            (repeat (first | refine mv rfl rfl ?_ | refine asg rfl rfl ?_ | refine L.off rfl rfl rfl rfl rfl ?_ | refine L.offU rfl rfl rfl rfl ?_ | refine L.on rfl rfl rfl ?_ | refine pickT rfl rfl rfl ?_ | refine pickF rfl rfl rfl ?_ | refine ext rfl rfl rfl ?_ | refine nilc rfl rfl ?_ | refine lenV (t := 46) rfl u_strs rfl ?_ | refine lenV (t := 25) rfl u_bytes rfl ?_ | refine lenV (t := 22) rfl u_files rfl ?_ | refine lenS (t := 9) rfl u_str rfl ?_ | refine eqlI rfl rfl rfl ?_ | refine neqI rfl rfl rfl ?_ | refine lssI rfl rfl rfl ?_ | refine leqI rfl rfl rfl ?_ | refine gtrI rfl rfl rfl ?_ | refine geqI rfl rfl rfl ?_))
            refine L.nil ?_
            exact N.th (N.meet [(65, .bool true), (12, _), (11, _), (10, _), (9, _), (8, _), (7, _), (5, _), (1, _)] ⟨rfl, rfl, rfl, rfl, rfl, rfl, rfl, rfl, rfl, trivial⟩ ⟨by simp [kept, hf], rfl⟩)
        rintro E w9 ⟨rfl, rfl⟩
        refine W.cond rfl (fun h => ?_) (fun h => ?_)
        · obtain ⟨hb1, hb2⟩ := fbuild (hF8.bytes x (List.mem_of_getElem? hxe))
          refine W.reg <| mv rfl rfl <| mv rfl rfl <| mv rfl rfl <| ixa rfl rfl u_files sz_File rfl (by omega) (by omega) <| ldk (cs := fcells x) rfl ag_File sz_File rfl rfl (fun j v hj => hF8.cells hxe j v hj) <|
            push1 (cs := (fcells x).toArray) rfl rfl rfl rfl hb1 el_files rfl hb2 hown (by omega) (by simp only [maxLen]; omega) hx8.size fun v' w10 hown10 hx10 => ?_
          refine asg rfl rfl <| L.nil ?_
          refine N.inb ?_
          refine N.th (N.meet [(12, _), (11, v'), (10, _), (9, _), (8, _), (7, _), (5, _), (1, _)] ⟨rfl, rfl, rfl, rfl, rfl, rfl, rfl, rfl, trivial⟩ ⟨v', K ++ [x], rfl, ?_, ?_, hx8.own hown hx10⟩)   -- MEET
          · rw [htk, List.filter_append, hK]; simp [h]
          · rw [fcells_snoc, List.length_append]; exact hown10
        · refine W.skip ?_
          refine N.inb ?_
          refine N.th (N.meet [(12, _), (11, _), (10, _), (9, _), (8, _), (7, _), (5, _), (1, _)] ⟨rfl, rfl, rfl, rfl, rfl, rfl, rfl, rfl, trivial⟩ ⟨vl, K, rfl, ?_, hown, hx8⟩)   -- MEET
          rw [htk, List.filter_append, hK]; simp [h]
      rintro E w9 ⟨vl', K', rfl, hK', hown', hx9⟩
      refine W.reg <| mv rfl rfl <| addI (c := ((j + 1 : Nat) : Int)) rfl rfl rfl (by rw [w64 (by omega) (by omega)]; simp) <| asg rfl rfl <| L.nil ?_
      exact N.th (N.round (x := (j + 1, K', vl')) ⟨rfl, rfl, rfl, rfl, rfl, rfl, rfl, rfl, trivial⟩ ⟨by dsimp only; omega, hK', hown', hx9⟩ (by dsimp only; omega))   -- ROUND
    · refine W.exit ?_
      refine N.xth ?_
      refine N.xth ?_
      refine N.xeq ?_
      refine N.th ?_
      have hjl : j = Ea.length := by simp at h; omega
      rw [hjl, List.take_length] at hK
      have hT8 := hT7.ext0 hx8
      have hml' := hok'.len
      have hmb' := hok'.bytes
      refine W.seq ?_
      refine W.reg <| mv rfl rfl <| call (vs := [_]) rfl rfl ok_Files (c_Files hT8 (by omega) (by omega)) ?_
      rintro e w9 ⟨vb, Eb, rfl, hEb, hvb, hfb, hx9⟩
      refine ⟨_, rfl, ?_⟩
      have hEbl : Eb.length = m'.length := by have := congrArg List.length hEb; simpa [Tr.files] using this
      have hFb : FilesAt w9 vb Eb := FilesAt.own hvb fun z hz => Row.own (hfb z hz)
      have hFl : FilesAt w9 vl K := (FilesAt.own hown fun z hz => (hFa7.ext0 hx8).bytes z (by rw [hK] at hz; exact (List.mem_filter.1 hz).1)).ext0 hx9
      refine mv rfl rfl <| call (vs := [_, _]) rfl rfl ok_HFiles (c_HFiles hFb hFl (by omega) (by omega)) ?_
      rintro e w10 ⟨rfl, hx10⟩
      refine ⟨_, rfl, ?_⟩
      have heq : Eb.map fnd = K.map fnd := by
        rw [hEb, ← hr1, ← hEa, hK, List.filter_map]
        rfl
      rw [decide_eq_true heq]
      have hx010 : Ext none_ w w10 := hx07.trans (hx8.trans (hx9.trans hx10))
      have hT10 := (hT8.ext0 hx9).ext0 hx10
      refine mv rfl rfl <| L.on rfl rfl rfl <| mv rfl rfl <| L.on rfl rfl rfl <| eqlI rfl rfl rfl <| L.on rfl rfl rfl <| ?_
      have fin : ∀ {E : Env} {w' : World}, Ext none_ w w' → getE E 4 = some (.bool true) → W Fence.wide 0 P [] 96 .ret (bodyPost P Tryz.f10 fun e w' => e = .returned (.bool true) ∧ Ext none_ w w') E w' := fun hx hE => by
        refine W.ret ?_
        refine N.ret1 rfl hE ?_
        exact ⟨rfl, hx⟩
      by_cases he : (Sp.clean p).2 = 0
      · refine Vc.bt (by simpa using he) ?_
        (repeat (first | refine mv rfl rfl ?_ | refine asg rfl rfl ?_ | refine L.off rfl rfl rfl rfl rfl ?_ | refine L.offU rfl rfl rfl rfl ?_ | refine L.on rfl rfl rfl ?_ | refine pickT rfl rfl rfl ?_ | refine pickF rfl rfl rfl ?_ | refine ext rfl rfl rfl ?_ | refine nilc rfl rfl ?_ | refine lenV (t := 46) rfl u_strs rfl ?_ | refine lenV (t := 25) rfl u_bytes rfl ?_ | refine lenV (t := 22) rfl u_files rfl ?_ | refine lenS (t := 9) rfl u_str rfl ?_ | refine eqlI rfl rfl rfl ?_ | refine neqI rfl rfl rfl ?_ | refine lssI rfl rfl rfl ?_ | refine leqI rfl rfl rfl ?_ | refine gtrI rfl rfl rfl ?_ | refine geqI rfl rfl rfl ?_))
        by_cases hf : f = 0
        · refine Vc.bf (by simpa using hf) ?_
          (repeat (first | refine mv rfl rfl ?_ | refine asg rfl rfl ?_ | refine L.off rfl rfl rfl rfl rfl ?_ | refine L.offU rfl rfl rfl rfl ?_ | refine L.on rfl rfl rfl ?_ | refine pickT rfl rfl rfl ?_ | refine pickF rfl rfl rfl ?_ | refine ext rfl rfl rfl ?_ | refine nilc rfl rfl ?_ | refine lenV (t := 46) rfl u_strs rfl ?_ | refine lenV (t := 25) rfl u_bytes rfl ?_ | refine lenV (t := 22) rfl u_files rfl ?_ | refine lenS (t := 9) rfl u_str rfl ?_ | refine eqlI rfl rfl rfl ?_ | refine neqI rfl rfl rfl ?_ | refine lssI rfl rfl rfl ?_ | refine leqI rfl rfl rfl ?_ | refine gtrI rfl rfl rfl ?_ | refine geqI rfl rfl rfl ?_))
          refine call (vs := [_, _]) rfl rfl ok_Exists (c_Exists p hT10) ?_
          rintro e w11 ⟨rfl, hx11⟩
          refine ⟨_, rfl, ?_⟩
          refine L.on rfl rfl rfl <| notB rfl rfl <| Vc.bt (by rw [hr3.resolve_left (by simpa using hf)]; rfl) ?_
          (repeat (first | refine mv rfl rfl ?_ | refine asg rfl rfl ?_ | refine L.off rfl rfl rfl rfl rfl ?_ | refine L.offU rfl rfl rfl rfl ?_ | refine L.on rfl rfl rfl ?_ | refine pickT rfl rfl rfl ?_ | refine pickF rfl rfl rfl ?_ | refine ext rfl rfl rfl ?_ | refine nilc rfl rfl ?_ | refine lenV (t := 46) rfl u_strs rfl ?_ | refine lenV (t := 25) rfl u_bytes rfl ?_ | refine lenV (t := 22) rfl u_files rfl ?_ | refine lenS (t := 9) rfl u_str rfl ?_ | refine eqlI rfl rfl rfl ?_ | refine neqI rfl rfl rfl ?_ | refine lssI rfl rfl rfl ?_ | refine leqI rfl rfl rfl ?_ | refine gtrI rfl rfl rfl ?_ | refine geqI rfl rfl rfl ?_))
          exact L.nil <| N.th <| fin (hx010.trans hx11) rfl
        · refine Vc.bt (by simpa using hf) ?_
          (repeat (first | refine mv rfl rfl ?_ | refine asg rfl rfl ?_ | refine L.off rfl rfl rfl rfl rfl ?_ | refine L.offU rfl rfl rfl rfl ?_ | refine L.on rfl rfl rfl ?_ | refine pickT rfl rfl rfl ?_ | refine pickF rfl rfl rfl ?_ | refine ext rfl rfl rfl ?_ | refine nilc rfl rfl ?_ | refine lenV (t := 46) rfl u_strs rfl ?_ | refine lenV (t := 25) rfl u_bytes rfl ?_ | refine lenV (t := 22) rfl u_files rfl ?_ | refine lenS (t := 9) rfl u_str rfl ?_ | refine eqlI rfl rfl rfl ?_ | refine neqI rfl rfl rfl ?_ | refine lssI rfl rfl rfl ?_ | refine leqI rfl rfl rfl ?_ | refine gtrI rfl rfl rfl ?_ | refine geqI rfl rfl rfl ?_))
          exact L.nil <| N.th <| fin hx010 rfl
      · have hfe := hr2.resolve_left he
        have hf : f ≠ 0 := by rw [hfe]; exact he
        refine Vc.bf (by simpa using he) ?_
        (repeat (first | refine mv rfl rfl ?_ | refine asg rfl rfl ?_ | refine L.off rfl rfl rfl rfl rfl ?_ | refine L.offU rfl rfl rfl rfl ?_ | refine L.on rfl rfl rfl ?_ | refine pickT rfl rfl rfl ?_ | refine pickF rfl rfl rfl ?_ | refine ext rfl rfl rfl ?_ | refine nilc rfl rfl ?_ | refine lenV (t := 46) rfl u_strs rfl ?_ | refine lenV (t := 25) rfl u_bytes rfl ?_ | refine lenV (t := 22) rfl u_files rfl ?_ | refine lenS (t := 9) rfl u_str rfl ?_ | refine eqlI rfl rfl rfl ?_ | refine neqI rfl rfl rfl ?_ | refine lssI rfl rfl rfl ?_ | refine leqI rfl rfl rfl ?_ | refine gtrI rfl rfl rfl ?_ | refine geqI rfl rfl rfl ?_))
        refine Vc.bt (by simpa using hfe) ?_
        (repeat (first | refine mv rfl rfl ?_ | refine asg rfl rfl ?_ | refine L.off rfl rfl rfl rfl rfl ?_ | refine L.offU rfl rfl rfl rfl ?_ | refine L.on rfl rfl rfl ?_ | refine pickT rfl rfl rfl ?_ | refine pickF rfl rfl rfl ?_ | refine ext rfl rfl rfl ?_ | refine nilc rfl rfl ?_ | refine lenV (t := 46) rfl u_strs rfl ?_ | refine lenV (t := 25) rfl u_bytes rfl ?_ | refine lenV (t := 22) rfl u_files rfl ?_ | refine lenS (t := 9) rfl u_str rfl ?_ | refine eqlI rfl rfl rfl ?_ | refine neqI rfl rfl rfl ?_ | refine lssI rfl rfl rfl ?_ | refine leqI rfl rfl rfl ?_ | refine gtrI rfl rfl rfl ?_ | refine geqI rfl rfl rfl ?_))
        refine Vc.bt (by simpa using hf) ?_
        (repeat (first | refine mv rfl rfl ?_ | refine asg rfl rfl ?_ | refine L.off rfl rfl rfl rfl rfl ?_ | refine L.offU rfl rfl rfl rfl ?_ | refine L.on rfl rfl rfl ?_ | refine pickT rfl rfl rfl ?_ | refine pickF rfl rfl rfl ?_ | refine ext rfl rfl rfl ?_ | refine nilc rfl rfl ?_ | refine lenV (t := 46) rfl u_strs rfl ?_ | refine lenV (t := 25) rfl u_bytes rfl ?_ | refine lenV (t := 22) rfl u_files rfl ?_ | refine lenS (t := 9) rfl u_str rfl ?_ | refine eqlI rfl rfl rfl ?_ | refine neqI rfl rfl rfl ?_ | refine lssI rfl rfl rfl ?_ | refine leqI rfl rfl rfl ?_ | refine gtrI rfl rfl rfl ?_ | refine geqI rfl rfl rfl ?_))
        exact L.nil <| N.th <| fin hx010 rfl
end Go.Proofs.YtmdpmpdlkaogdaaGreatDoor
