/- The walk of the document's Of. The walk of the document's Open. The calculus: arrays of bytes, held against one another. Nothing here speaks of the program. Walks: haversackhelp.Place, haversacklaw13.known. The calculus: a region in which two operations that write may come in either order. Nothing here speaks of the program. The calculus: regions whose order is open, in segments: readers and some that come alone; then more is known; then two that part. Nothing here speaks of the program. -/
import Derived.Test.YtmdpmpdlkaogdaaGreatDoorRa11
import Derived.Test.YtmdpmpdlkaogdaaGreatDoorRa02
import Derived.Stop.BytesEq
import Derived.Laws.OwnMore

namespace Go.Proofs.YtmdpmpdlkaogdaaGreatDoor
open Go Go.RowKit Vc

theorem ok_ROf : FnOk P 47 := ⟨_, Tryz.func47, by kernel_rfl, by kernel_rfl⟩
/-- An empty tree of the document's. -/
theorem RTAt.new (w : World) : RTAt (w.alloc (.cells #[.slice none 0 0] tRT)) w.heap.size (.slice none 0 0) [] := ⟨heap_new _ _, ⟨Row.nil _ _ _, fun x h => by cases h⟩⟩
theorem strs_at {B : Nat} {w : World} {v : Value} {l : List Sp.Bytes} {j : Nat} {x : Sp.Bytes} (h : StrsA B w v l) (hj : l[j]? = some x) : ∃ b o c, v = .slice (some ⟨b, o, none⟩) l.length c ∧ w.cell? ⟨b, o + j * 1, none⟩ = some (.string (S x)) := by
  have hlt := (List.getElem?_eq_some_iff.1 hj).1
  rcases (Row.own h).form with ⟨-, h0, -⟩ | ⟨b, o, c, rfl, -, -, -, hc⟩
  · omega
  · exact ⟨b, o, c, rfl, by rw [Nat.mul_one]; exact hc j _ (by simp [encT, hj])⟩
/-- What the document's Of answers. -/
def OfRR (w : World) (E : List FE) (e : Ending) (w' : World) : Prop := Ext none_ w w' ∧ ((Tr.of (fm E)).1 = none → e = .returned (.tuple #[.pointer none, .int .i64 (Tr.of (fm E)).2])) ∧
  ∀ m, (Tr.of (fm E)).1 = some m → ∃ rt lv' E', e = .returned (.tuple #[pT rt, .int .i64 0]) ∧ w.heap.size ≤ rt ∧ RTAt w' rt lv' E' ∧ fm E' = Tr.files m
theorem OfRR.fail {w w' : World} {E : List FE} {c : Int} (hx : Ext none_ w w') (h : Tr.of (fm E) = (none, c)) : OfRR w E (.returned (.tuple #[.pointer none, .int .i64 c])) w' := by
  refine ⟨hx, fun _ => by rw [h], fun m hm => ?_⟩
  rw [h] at hm; cases hm

theorem c_ROf {w : World} {v : Value} {E : List FE} (hv : FilesA w v E) (hE : E.length ≤ 1000000) (hl : ∀ x ∈ E, x.2.2.2.length ≤ 100000000) : Calls P 47 #[v] w (OfRR w E) := by
  obtain ⟨a, c, rfl, hn, hmx, -, -⟩ := id hv.row
  refine enter (l := [_]) (n := 101) Tryz.func47 rfl rfl rfl ?_
  refine W.seq ?_
  refine W.reg <| asg rfl rfl <| asg rfl rfl <| L.nil ?_
  refine N.th ?_
  refine W.seq ?_
  refine W.reg <| bld (vs := #[]) (v := .agg #[.slice none 0 0]) rfl rfl (fun _ => by kernel_rfl) <| box rfl rfl <| asg rfl rfl <| L.nil ?_
  refine N.th ?_
  obtain ⟨w2, hw2⟩ : ∃ w2, w2 = w.alloc (.cells #[.slice none 0 0] tRT) := ⟨_, rfl⟩
  obtain ⟨rt, hrt⟩ : ∃ rt, rt = w.heap.size := ⟨_, rfl⟩
  have hR2 : RTAt w2 rt (.slice none 0 0) [] := by rw [hw2, hrt]; exact RTAt.new w
  have hx2 : Ext none_ w w2 := by rw [hw2]; exact Ext.alloc _ _ _
  rw [show w.alloc (.cells (Value.cells (.agg #[.slice none 0 0])) tRT) = w2 from hw2.symm, ← hrt]
  have hRt : ∀ i, i < w.heap.size → i = rt → none_ i := by rintro i hi e; omega
  refine W.seq ?_
  refine W.reg <| asg rfl rfl <| L.nil ?_
  refine N.th ?_
  refine W.seq ?_
  refine W.seq ?_
  refine W.reg <| asg rfl rfl <| L.nil ?_
  refine N.th ?_
  refine W.block ?_
  refine W.loop (X := Nat × Tr.T × List Tr.Bytes × Value) (fun x => [(6, .int .i64 x.1), (0, .slice a E.length c), (4, pT rt), (5, x.2.2.2)])
    (fun x w' => x.1 ≤ E.length ∧ Tr.Ok x.2.1 ∧ (∃ lv E', RTAt w' rt lv E' ∧ fm E' = Tr.files x.2.1) ∧ StrsA w.heap.size w' x.2.2.2 x.2.2.1 ∧ x.2.2.1.length = x.1 ∧ Ext none_ w w' ∧ Tr.ofF x.2.1 x.2.2.1 (fm (E.drop x.1)) = Tr.of (fm E)) (fun x => E.length - x.1) (0, [], [], .slice none 0 0) ⟨rfl, rfl, rfl, rfl, trivial⟩
    ⟨by omega, Tr.Ok.nil, ⟨_, _, hR2, by simp [Tr.files]⟩, own_nil _ _ _ _, rfl, hx2, rfl⟩ ?_
  rintro ⟨i, m, seen, sv⟩ w4 ⟨hi, hok, ⟨lv, Ea, hR4, hEa⟩, hS4, hsl, hx4, hof⟩
  dsimp only at hi hok hEa hS4 hsl hof ⊢
  refine W.seq ?_
  refine W.seq ?_
  refine W.reg <| mv rfl rfl <| mv rfl rfl <| lenV rfl u_files rfl <| lssI rfl rfl rfl <| L.nil ?_
  refine N.th ?_
  refine W.cond rfl (fun h => ?_) (fun h => ?_)
  · refine W.skip ?_
    refine N.th ?_
    have hi1 : i < E.length := by simp at h; omega
    obtain ⟨x, hxe⟩ : ∃ x, E[i]? = some x := ⟨_, List.getElem?_eq_getElem hi1⟩
    have hxm := List.mem_of_getElem? hxe
    obtain ⟨b, o, c', hv', -, -⟩ := hv.plain hxm
    cases hv'
    have hxl := hl x hxm
    rw [drop_fm hxe] at hof
    have rd : ∀ {wz}, Ext none_ w wz → wz.cell? ⟨b, o + i * 3 + 0, none⟩ = some (.string (S x.1)) ∧ wz.cell? ⟨b, o + i * 3 + 1, none⟩ = some (.bool x.2.1) ∧ wz.cell? ⟨b, o + i * 3 + 2, none⟩ = some x.2.2.1 := fun hz => (hv.ext0 hz).cell hxe
    refine W.seqM (fun E' w' => ∃ sv', E' = [(6, .int .i64 i), (0, .slice (some ⟨b, o, none⟩) E.length c), (4, pT rt), (5, sv')] ∧ ∃ m' seen', Tr.Ok m' ∧ (∃ lv E', RTAt w' rt lv E' ∧ fm E' = Tr.files m') ∧ StrsA w.heap.size w' sv' seen' ∧ seen'.length = i + 1 ∧ Ext none_ w w' ∧ Tr.ofF m' seen' (fm (E.drop (i + 1))) = Tr.of (fm E)) ?_ ?_
    · refine W.block ?_
      refine W.seq ?_
      refine W.reg <| mv rfl rfl <| mv rfl rfl <| ixa rfl rfl u_files sz_File rfl (by omega) (by omega) <| fad rfl fl_File_0 rfl <| ld1 rfl ag_str rfl (rd hx4).1 <| call (vs := [_]) rfl rfl ok_RClean (c_RClean x.1 w4) ?_
      rintro e w6 ⟨rfl, hx6⟩
      refine ⟨_, rfl, ?_⟩
      refine mv rfl rfl <| ext rfl rfl rfl <| ext rfl rfl rfl <| asg rfl rfl <| asg rfl rfl <| L.nil ?_
      refine N.th ?_
      obtain ⟨q, ec, hq⟩ : ∃ q ec, Sp.clean x.1 = (q, ec) := ⟨_, _, rfl⟩
      rw [hq]
      dsimp only
      have hx06 := hx4.trans hx6
      refine W.seq ?_
      refine W.seq ?_
      refine W.reg <| mv rfl rfl <| neqI rfl rfl rfl <| L.nil ?_
      refine N.th ?_
      refine W.cond rfl (fun h => ?_) (fun h => ?_)
      · refine W.seq ?_
        refine W.reg <| mv rfl rfl <| asg rfl rfl <| asg rfl rfl <| L.nil ?_
        refine N.th ?_
        refine W.ret ?_
        refine N.rth <| N.rinb <| N.rth <| N.rth <| N.rinb <| N.rth ?_
        refine N.ret2 rfl rfl rfl ?_   -- RETURN
        have h0 : ec ≠ 0 := by simpa using h
        refine OfRR.fail hx06 ?_
        rw [← hof]
        unfold Tr.ofF
        rw [hq, if_pos h0]
      have h0 : ec = 0 := by simpa using h
      subst h0
      refine W.skip ?_
      refine N.th ?_
      have hR6 := hR4.ext0 hx6
      have hS6 : StrsA w.heap.size w6 sv seen := own_ext hS4 hx6 fun _ _ => id
      obtain ⟨sa, sc, rfl, -, -⟩ := own_slice hS6
      refine W.seq ?_
      refine W.seq ?_
      refine W.reg <| asg rfl rfl <| L.nil ?_
      refine N.th ?_
      refine W.block ?_
      refine W.loop (X := Nat) (fun j => [(9, .int .i64 j), (5, .slice sa seen.length sc), (7, .string (S q)), (6, .int .i64 i), (0, .slice (some ⟨b, o, none⟩) E.length c), (4, pT rt)]) (fun j w' => j ≤ seen.length ∧ w' = w6 ∧ ∀ y ∈ seen.take j, y ≠ q) (fun j => seen.length - j) 0 ⟨rfl, rfl, rfl, rfl, rfl, rfl, trivial⟩ ⟨by omega, rfl, by simp⟩ ?_
      rintro j w7 ⟨hj, rfl, hall⟩
      refine W.seq ?_
      refine W.seq ?_
      refine W.reg <| mv rfl rfl <| mv rfl rfl <| lenV rfl u_strs rfl <| lssI rfl rfl rfl <| L.nil ?_
      refine N.th ?_
      refine W.cond rfl (fun h => ?_) (fun h => ?_)
      · refine W.skip ?_
        refine N.th ?_
        have hj1 : j < seen.length := by simp at h; omega
        obtain ⟨y, hye⟩ : ∃ y, seen[j]? = some y := ⟨_, List.getElem?_eq_getElem hj1⟩
        obtain ⟨sb, so, sc', hsv, hsc⟩ := strs_at hS6 hye
        cases hsv
        refine W.seq ?_
        refine W.block ?_
        refine W.seq ?_
        refine W.reg <| mv rfl rfl <| mv rfl rfl <| ixa rfl rfl u_strs sz_str rfl (by omega) (by omega) <| ld1 rfl ag_str rfl hsc <| mv rfl rfl <| eqlS rfl rfl rfl <| L.nil ?_
        refine N.th ?_
        refine W.cond rfl (fun h => ?_) (fun h => ?_)
        · refine W.seq ?_
          refine W.reg <| asg rfl rfl <| asg rfl rfl <| L.nil ?_
          refine N.th ?_
          refine W.ret ?_
          refine N.rinb <| N.rth <| N.rth <| N.rinb <| N.rth <| N.rinb <| N.rth <| N.rth <| N.rinb <| N.rth ?_
          refine N.ret2 rfl rfl rfl ?_   -- RETURN
          have hyq : y = q := by simpa using h
          subst hyq
          refine OfRR.fail hx06 ?_
          rw [← hof]
          unfold Tr.ofF
          rw [hq]
          simp [List.mem_of_getElem? hye]
        · refine W.skip ?_
          refine N.inb ?_
          refine N.th ?_
          have hyq : y ≠ q := by simpa using h
          refine W.reg <| mv rfl rfl <| addI (c := ((j + 1 : Nat) : Int)) rfl rfl rfl (by rw [w64 (by omega) (by omega)]; simp) <| asg rfl rfl <| L.nil ?_
          refine N.th (N.round (x := j + 1) ⟨rfl, rfl, rfl, rfl, rfl, rfl, trivial⟩ ⟨by omega, rfl, ?_⟩ (by omega))   -- ROUND
          intro z hz
          rw [List.take_add_one, hye] at hz
          rcases List.mem_append.1 hz with hz | hz
          · exact hall z hz
          · simp at hz; rw [hz]; exact hyq
      refine W.exit ?_
      refine N.xth ?_
      refine N.xth ?_
      refine N.xeq ?_
      refine N.th ?_
      have hjl : j = seen.length := by simp at h; omega
      rw [hjl, List.take_length] at hall
      have hseen : q ∉ seen := fun hm => hall q hm rfl
      refine W.seq ?_
      refine W.seqM (fun E' w' => E' = [(68, .bool (x.2.1 && Tr.isDir (Tr.at_ m q))), (5, .slice sa seen.length sc), (7, .string (S q)), (6, .int .i64 i), (0, .slice (some ⟨b, o, none⟩) E.length c), (4, pT rt)] ∧ w' = w7.drew) ?_ ?_
      · have hxd : Ext none_ w w7.drew := hx06.trans (Ext.drew _ _)
        have hRd : RTAt w7.drew rt lv Ea := hR6.ext0 (Ext.drew _ _)
        have hEl := len_of hEa
        have hml := hok.len
        refine W.draw [] false (fun w' => w' = w7.drew) [0, 1, 2, 3, 4, 5, 6, 7, 8, 9, 10, 11, 12, 13, 14, 15, 16, 17, 18, 19, 20, 21, 22, 23, 24, 25, 26] rfl rfl (by kernel_rfl) rfl ?_   -- held
        refine mv rfl rfl <| mv rfl rfl <| ixa rfl rfl u_files sz_File rfl (by omega) (by omega) <| fad rfl fl_File_1 rfl <| ldK (v := .bool x.2.1) rfl ag_bool rfl (fun w' h => by subst h; exact (rd hxd).2.1) ?_
        cases hd : x.2.1 with
        | false =>
          (repeat (first | refine mv rfl rfl ?_ | refine asg rfl rfl ?_ | refine L.off rfl rfl rfl rfl rfl ?_ | refine L.offU rfl rfl rfl rfl ?_ | refine L.on rfl rfl rfl ?_ | refine pickT rfl rfl rfl ?_ | refine pickF rfl rfl rfl ?_ | refine ext rfl rfl rfl ?_ | refine nilc rfl rfl ?_ | refine lenV (t := 46) rfl u_strs rfl ?_ | refine lenV (t := 25) rfl u_bytes rfl ?_ | refine lenV (t := 22) rfl u_files rfl ?_ | refine lenS (t := 9) rfl u_str rfl ?_ | refine eqlI rfl rfl rfl ?_ | refine neqI rfl rfl rfl ?_ | refine lssI rfl rfl rfl ?_ | refine leqI rfl rfl rfl ?_ | refine gtrI rfl rfl rfl ?_ | refine geqI rfl rfl rfl ?_))
          exact L.nilH <| N.th (N.meet [(68, .bool false), (5, _), (7, _), (6, _), (0, _), (4, _)] ⟨rfl, rfl, rfl, rfl, rfl, rfl, trivial⟩ ⟨rfl, rfl⟩)
        | true =>
          (repeat (first | refine mv rfl rfl ?_ | refine asg rfl rfl ?_ | refine L.off rfl rfl rfl rfl rfl ?_ | refine L.offU rfl rfl rfl rfl ?_ | refine L.on rfl rfl rfl ?_ | refine pickT rfl rfl rfl ?_ | refine pickF rfl rfl rfl ?_ | refine ext rfl rfl rfl ?_ | refine nilc rfl rfl ?_ | refine lenV (t := 46) rfl u_strs rfl ?_ | refine lenV (t := 25) rfl u_bytes rfl ?_ | refine lenV (t := 22) rfl u_files rfl ?_ | refine lenS (t := 9) rfl u_str rfl ?_ | refine eqlI rfl rfl rfl ?_ | refine neqI rfl rfl rfl ?_ | refine lssI rfl rfl rfl ?_ | refine leqI rfl rfl rfl ?_ | refine gtrI rfl rfl rfl ?_ | refine geqI rfl rfl rfl ?_))
          refine eqlS (b := []) rfl rfl rfl ?_
          by_cases hq0 : q = []
          · refine Vc.bt (by simpa using hq0) ?_
            (repeat (first | refine mv rfl rfl ?_ | refine asg rfl rfl ?_ | refine L.off rfl rfl rfl rfl rfl ?_ | refine L.offU rfl rfl rfl rfl ?_ | refine L.on rfl rfl rfl ?_ | refine pickT rfl rfl rfl ?_ | refine pickF rfl rfl rfl ?_ | refine ext rfl rfl rfl ?_ | refine nilc rfl rfl ?_ | refine lenV (t := 46) rfl u_strs rfl ?_ | refine lenV (t := 25) rfl u_bytes rfl ?_ | refine lenV (t := 22) rfl u_files rfl ?_ | refine lenS (t := 9) rfl u_str rfl ?_ | refine eqlI rfl rfl rfl ?_ | refine neqI rfl rfl rfl ?_ | refine lssI rfl rfl rfl ?_ | refine leqI rfl rfl rfl ?_ | refine gtrI rfl rfl rfl ?_ | refine geqI rfl rfl rfl ?_))
            exact L.nilH <| N.th (N.meet [(68, .bool true), (5, _), (7, _), (6, _), (0, _), (4, _)] ⟨rfl, rfl, rfl, rfl, rfl, rfl, trivial⟩ ⟨by simp [hq0, Tr.at_, Tr.isDir], rfl⟩)
          · refine Vc.bf (by simpa using hq0) ?_
            (repeat (first | refine mv rfl rfl ?_ | refine asg rfl rfl ?_ | refine L.off rfl rfl rfl rfl rfl ?_ | refine L.offU rfl rfl rfl rfl ?_ | refine L.on rfl rfl rfl ?_ | refine pickT rfl rfl rfl ?_ | refine pickF rfl rfl rfl ?_ | refine ext rfl rfl rfl ?_ | refine nilc rfl rfl ?_ | refine lenV (t := 46) rfl u_strs rfl ?_ | refine lenV (t := 25) rfl u_bytes rfl ?_ | refine lenV (t := 22) rfl u_files rfl ?_ | refine lenS (t := 9) rfl u_str rfl ?_ | refine eqlI rfl rfl rfl ?_ | refine neqI rfl rfl rfl ?_ | refine lssI rfl rfl rfl ?_ | refine leqI rfl rfl rfl ?_ | refine gtrI rfl rfl rfl ?_ | refine geqI rfl rfl rfl ?_))
            refine callH (vs := [_, _]) rfl rfl ok_Rat (c_Rat q hRd (by omega)) ?_
            rintro e w8 ⟨k, rfl, hk, rfl⟩
            refine ⟨_, rfl, .inr id, ?_⟩
            rcases hk.of hEa hok.nodup with ⟨rfl, hg⟩ | ⟨z, y, rfl, hye, hg⟩
            · (repeat (first | refine mv rfl rfl ?_ | refine asg rfl rfl ?_ | refine L.off rfl rfl rfl rfl rfl ?_ | refine L.offU rfl rfl rfl rfl ?_ | refine L.on rfl rfl rfl ?_ | refine pickT rfl rfl rfl ?_ | refine pickF rfl rfl rfl ?_ | refine ext rfl rfl rfl ?_ | refine nilc rfl rfl ?_ | refine lenV (t := 46) rfl u_strs rfl ?_ | refine lenV (t := 25) rfl u_bytes rfl ?_ | refine lenV (t := 22) rfl u_files rfl ?_ | refine lenS (t := 9) rfl u_str rfl ?_ | refine eqlI rfl rfl rfl ?_ | refine neqI rfl rfl rfl ?_ | refine lssI rfl rfl rfl ?_ | refine leqI rfl rfl rfl ?_ | refine gtrI rfl rfl rfl ?_ | refine geqI rfl rfl rfl ?_))
              exact L.nilH <| N.th (N.meet [(68, .bool false), (5, _), (7, _), (6, _), (0, _), (4, _)] ⟨rfl, rfl, rfl, rfl, rfl, rfl, trivial⟩ ⟨by simp [Tr.at_of hq0, hg, Tr.isDir], rfl⟩)
            · (repeat (first | refine mv rfl rfl ?_ | refine asg rfl rfl ?_ | refine L.off rfl rfl rfl rfl rfl ?_ | refine L.offU rfl rfl rfl rfl ?_ | refine L.on rfl rfl rfl ?_ | refine pickT rfl rfl rfl ?_ | refine pickF rfl rfl rfl ?_ | refine ext rfl rfl rfl ?_ | refine nilc rfl rfl ?_ | refine lenV (t := 46) rfl u_strs rfl ?_ | refine lenV (t := 25) rfl u_bytes rfl ?_ | refine lenV (t := 22) rfl u_files rfl ?_ | refine lenS (t := 9) rfl u_str rfl ?_ | refine eqlI rfl rfl rfl ?_ | refine neqI rfl rfl rfl ?_ | refine lssI rfl rfl rfl ?_ | refine leqI rfl rfl rfl ?_ | refine gtrI rfl rfl rfl ?_ | refine geqI rfl rfl rfl ?_))
              obtain ⟨la, lc, rfl, -⟩ := hRd.slice
              obtain ⟨lb, lo, rfl, -, hzl⟩ := hRd.some_ hye
              refine fad rfl fl_RT_0 rfl <| L.on rfl rfl rfl <| ldK (v := .slice (some ⟨lb, lo, none⟩) Ea.length lc) rfl ag_files rfl (fun w' h => by subst h; exact hRd.c0) ?_
              (repeat (first | refine mv rfl rfl ?_ | refine asg rfl rfl ?_ | refine L.off rfl rfl rfl rfl rfl ?_ | refine L.offU rfl rfl rfl rfl ?_ | refine L.on rfl rfl rfl ?_ | refine pickT rfl rfl rfl ?_ | refine pickF rfl rfl rfl ?_ | refine ext rfl rfl rfl ?_ | refine nilc rfl rfl ?_ | refine lenV (t := 46) rfl u_strs rfl ?_ | refine lenV (t := 25) rfl u_bytes rfl ?_ | refine lenV (t := 22) rfl u_files rfl ?_ | refine lenS (t := 9) rfl u_str rfl ?_ | refine eqlI rfl rfl rfl ?_ | refine neqI rfl rfl rfl ?_ | refine lssI rfl rfl rfl ?_ | refine leqI rfl rfl rfl ?_ | refine gtrI rfl rfl rfl ?_ | refine geqI rfl rfl rfl ?_))
              refine callH (vs := [_, _]) rfl rfl ok_Rat (c_Rat q hRd (by omega)) ?_
              rintro e w8 ⟨k, rfl, hk, rfl⟩
              refine ⟨_, rfl, .inr id, ?_⟩
              rcases hk.of hEa hok.nodup with ⟨rfl, hg'⟩ | ⟨z', y', rfl, hye', hg'⟩
              · rw [hg] at hg'; cases hg'
              obtain ⟨-, -, -, -, hzl'⟩ := hRd.some_ hye'
              (repeat (first | refine mv rfl rfl ?_ | refine asg rfl rfl ?_ | refine L.off rfl rfl rfl rfl rfl ?_ | refine L.offU rfl rfl rfl rfl ?_ | refine L.on rfl rfl rfl ?_ | refine pickT rfl rfl rfl ?_ | refine pickF rfl rfl rfl ?_ | refine ext rfl rfl rfl ?_ | refine nilc rfl rfl ?_ | refine lenV (t := 46) rfl u_strs rfl ?_ | refine lenV (t := 25) rfl u_bytes rfl ?_ | refine lenV (t := 22) rfl u_files rfl ?_ | refine lenS (t := 9) rfl u_str rfl ?_ | refine eqlI rfl rfl rfl ?_ | refine neqI rfl rfl rfl ?_ | refine lssI rfl rfl rfl ?_ | refine leqI rfl rfl rfl ?_ | refine gtrI rfl rfl rfl ?_ | refine geqI rfl rfl rfl ?_))
              refine ixa rfl rfl u_files sz_File rfl (by omega) (by omega) <| L.on rfl rfl rfl <| fad rfl fl_File_1 rfl <| L.on rfl rfl rfl <| ldK (v := .bool y'.2.1) rfl ag_bool rfl (fun w' h => by subst h; exact (hRd.files.cell hye').2.1) ?_
              (repeat (first | refine mv rfl rfl ?_ | refine asg rfl rfl ?_ | refine L.off rfl rfl rfl rfl rfl ?_ | refine L.offU rfl rfl rfl rfl ?_ | refine L.on rfl rfl rfl ?_ | refine pickT rfl rfl rfl ?_ | refine pickF rfl rfl rfl ?_ | refine ext rfl rfl rfl ?_ | refine nilc rfl rfl ?_ | refine lenV (t := 46) rfl u_strs rfl ?_ | refine lenV (t := 25) rfl u_bytes rfl ?_ | refine lenV (t := 22) rfl u_files rfl ?_ | refine lenS (t := 9) rfl u_str rfl ?_ | refine eqlI rfl rfl rfl ?_ | refine neqI rfl rfl rfl ?_ | refine lssI rfl rfl rfl ?_ | refine leqI rfl rfl rfl ?_ | refine gtrI rfl rfl rfl ?_ | refine geqI rfl rfl rfl ?_))
              exact L.nilH <| N.th (N.meet [(68, .bool y'.2.1), (5, _), (7, _), (6, _), (0, _), (4, _)] ⟨rfl, rfl, rfl, rfl, rfl, rfl, trivial⟩ ⟨by simp [Tr.at_of hq0, hg', Tr.isDir], rfl⟩)
      rintro E' w9 ⟨rfl, rfl⟩
      have hx09 : Ext none_ w w7.drew := hx06.trans (Ext.drew _ _)
      refine W.cond rfl (fun h => ?_) (fun h => ?_)
      · refine W.seq ?_
        refine W.reg <| asg rfl rfl <| asg rfl rfl <| L.nil ?_
        refine N.th ?_
        refine W.ret ?_
        refine N.rth <| N.rinb <| N.rth <| N.rth <| N.rinb <| N.rth ?_
        refine N.ret2 rfl rfl rfl ?_   -- RETURN
        refine OfRR.fail hx09 ?_
        rw [← hof]
        unfold Tr.ofF
        rw [hq]
        dsimp only
        rw [h]
        simp
      refine W.skip ?_
      refine N.th ?_
      have hof' : (if (Tr.step m q (x.2.1, x.2.2.2)).2 ≠ 0 then (none, (Tr.step m q (x.2.1, x.2.2.2)).2) else Tr.ofF (Tr.step m q (x.2.1, x.2.2.2)).1 (seen ++ [q]) (fm (E.drop (i + 1)))) = Tr.of (fm E) := by
        rw [← hof]
        conv => rhs; unfold Tr.ofF
        rw [hq]
        dsimp only
        rw [h]
        simp [hseen]
      have hR9 : RTAt w7.drew rt lv Ea := hR6.ext0 (Ext.drew _ _)
      have hS9 : StrsA w.heap.size w7.drew (.slice sa seen.length sc) seen := own_ext hS6 (Ext.drew none_ _) fun _ _ => id
      refine W.seq ?_
      refine W.reg <| mv rfl rfl <| mv rfl rfl <| push1 (cs := #[.string (S q)]) rfl rfl rfl rfl (fun _ => by kernel_rfl) el_strs rfl rfl hS9 (by omega) (by simp only [maxLen]; omega) hx09.size fun sv' w10 hS10' hx10 => ?_
      refine asg rfl rfl <| L.nil ?_
      refine N.th ?_
      have hS10 : StrsA w.heap.size w10 sv' (seen ++ [q]) := by simpa [StrsA, encT] using hS10'
      have hx010 : Ext none_ w w10 := hx09.own hS9 hx10
      have hR10 : RTAt w10 rt lv Ea := hR9.ext hx10 (fun e => by
        obtain ⟨ck, fk, hk⟩ := own_kind hS9 _ e
        rw [hR9.cell] at hk; cases hk) (fun k hk ce e fr he => by
        obtain ⟨ck, fk, hk⟩ := own_kind hS9 _ hk
        rw [he] at hk; cases hk; exact ⟨by decide, by decide⟩)
      have hSk : ∀ {wz}, Ext (fun k => k = rt) w10 wz → StrsA w.heap.size wz sv' (seen ++ [q]) := fun hz => own_ext hS10 hz fun k hk e => by
        subst e
        obtain ⟨ck, fk, hk⟩ := own_kind hS10 _ hk
        rw [hR10.cell] at hk; cases hk
      have hqc : (Sp.clean x.1).2 = 0 := by rw [hq]
      refine W.seqM (fun E' w' => E' = [(8, .int .i64 (Tr.step m q (x.2.1, x.2.2.2)).2), (5, sv'), (6, .int .i64 i), (0, .slice (some ⟨b, o, none⟩) E.length c), (4, pT rt)] ∧ (∃ lv E', RTAt w' rt lv E' ∧ fm E' = Tr.files (Tr.step m q (x.2.1, x.2.2.2)).1) ∧ StrsA w.heap.size w' sv' (seen ++ [q]) ∧ Ext none_ w w') ?_ ?_   -- CUT
      · refine W.seq ?_
        refine W.reg <| mv rfl rfl <| mv rfl rfl <| ixa rfl rfl u_files sz_File rfl (by omega) (by omega) <| fad rfl fl_File_1 rfl <| ld1 (v := .bool x.2.1) rfl ag_bool rfl (rd hx010).2.1 <| L.nil ?_
        refine N.th ?_
        cases hd : x.2.1 with
        | true =>
          refine W.condT rfl ?_
          refine W.reg <| mv rfl rfl <| mv rfl rfl <| mv rfl rfl <| ixa rfl rfl u_files sz_File rfl (by omega) (by omega) <| fad rfl fl_File_0 rfl <| ld1 rfl ag_str rfl (rd hx010).1 <| call (vs := [_, _]) rfl rfl ok_RMkdir (c_RMkdir x.1 hR10 hEa hok) ?_
          rintro e w11 ⟨rfl, hR11, hx11⟩
          refine ⟨_, rfl, ?_⟩
          refine asg rfl rfl <| L.nil ?_
          rw [Tr.mkdir_clean hqc, hq] at hR11 ⊢
          exact N.th (N.meet [(8, _), (5, _), (6, _), (0, _), (4, _)] ⟨rfl, rfl, rfl, rfl, rfl, trivial⟩ ⟨rfl, hR11, hSk hx11, hx010.trans' hx11 hRt⟩)   -- MEET
        | false =>
          refine W.condF rfl ?_
          have hxd : Ext none_ w w10.drew := hx010.trans (Ext.drew _ _)
          refine W.draw [] false (fun w' => Ext none_ w w') [0, 1, 2, 3, 4, 5, 6, 7, 8, 9, 10, 11, 12] rfl rfl (by kernel_rfl) hxd ?_   -- held
          refine mv rfl rfl <| mv rfl rfl <| mv rfl rfl <| ixa rfl rfl u_files sz_File rfl (by omega) (by omega) <| fad rfl fl_File_0 rfl <| ldK (v := .string (S x.1)) rfl ag_str rfl (fun w' h => (rd h).1) <| mv rfl rfl <| mv rfl rfl <| ixa rfl rfl u_files sz_File rfl (by omega) (by omega) <| fad rfl fl_File_2 rfl <| ldK (v := x.2.2.1) rfl ag_bytes rfl (fun w' h => (rd h).2.2) <|
            callH (vs := [_, _, _]) rfl rfl ok_RWrite (c_RWrite x.1 (hR10.ext0 (Ext.drew _ _)) hEa hok ((hv.ext0 hxd).bytes x hxm) hxl) ?_
          rintro e w11 ⟨rfl, hR11, hx11⟩
          refine ⟨_, rfl, .inr fun h => h.trans' hx11 hRt, ?_⟩
          refine asg rfl rfl <| L.nilH ?_
          rw [Tr.write_clean hqc, hq] at hR11 ⊢
          exact N.th (N.meet [(8, _), (5, _), (6, _), (0, _), (4, _)] ⟨rfl, rfl, rfl, rfl, rfl, trivial⟩ ⟨rfl, hR11, hSk ((Ext.drew _ _).trans hx11), hxd.trans' hx11 hRt⟩)   -- MEET
      rintro E' w11 ⟨rfl, hR11, hS11, hx11⟩
      refine W.seq ?_
      refine W.reg <| mv rfl rfl <| neqI rfl rfl rfl <| L.nil ?_
      refine N.th ?_
      refine W.cond rfl (fun h => ?_) (fun h => ?_)
      · refine W.seq ?_
        refine W.reg <| mv rfl rfl <| asg rfl rfl <| asg rfl rfl <| L.nil ?_
        refine N.th ?_
        refine W.ret ?_
        refine N.rinb <| N.rth <| N.rth <| N.rinb <| N.rth ?_
        refine N.ret2 rfl rfl rfl ?_   -- RETURN
        have h1 : (Tr.step m q (x.2.1, x.2.2.2)).2 ≠ 0 := by simpa using h
        refine OfRR.fail hx11 ?_
        rw [← hof', if_pos h1]
      · refine W.skip ?_
        refine N.inb ?_
        have h1 : ¬ (Tr.step m q (x.2.1, x.2.2.2)).2 ≠ 0 := by simpa using h
        rw [if_neg h1] at hof'
        exact N.th (N.meet [(6, _), (0, _), (4, _), (5, sv')] ⟨rfl, rfl, rfl, rfl, trivial⟩ ⟨sv', rfl, _, _, hok.step _ _, hR11, hS11, by simp [hsl], hx11, hof'⟩)   -- MEET
    rintro E' w5 ⟨sv', rfl, m', seen', hok', hR5, hS5, hsl5, hx5, hof5⟩
    refine W.reg <| mv rfl rfl <| addI (c := ((i + 1 : Nat) : Int)) rfl rfl rfl (by rw [w64 (by omega) (by omega)]; simp) <| asg rfl rfl <| L.nil ?_
    exact N.th (N.round (x := (i + 1, m', seen', sv')) ⟨rfl, rfl, rfl, rfl, trivial⟩ ⟨by dsimp only; omega, hok', hR5, hS5, hsl5, hx5, hof5⟩ (by dsimp only; omega))   -- ROUND
  · refine W.exit ?_
    refine N.xth ?_
    refine N.xth ?_
    refine N.xeq ?_
    refine N.th ?_
    refine W.seq ?_
    refine W.reg <| mv rfl rfl <| asg rfl rfl <| asg rfl rfl <| L.nil ?_
    refine N.th ?_
    refine W.ret ?_
    refine N.ret2 rfl rfl rfl ?_   -- RETURN
    have hi1 : i = E.length := by simp at h; omega
    rw [hi1, List.drop_length] at hof
    have hof2 : Tr.of (fm E) = (some m, 0) := hof.symm
    refine ⟨hx4, fun h => ?_, fun m' hm' => ?_⟩
    · rw [hof2] at h; cases h
    · rw [hof2] at hm'
      cases hm'
      exact ⟨rt, lv, Ea, rfl, by omega, hR4, hEa⟩
end Go.Proofs.YtmdpmpdlkaogdaaGreatDoor

namespace Go.Proofs.YtmdpmpdlkaogdaaGreatDoor
open Go Go.RowKit Vc
section ops
variable {Fe : Fence} {mm : Nat} [Wd Fe] {P : Program} {ds : List Deferred} {n : Nat} {Q : Exit → Act → World → Prop} {E : Env} {w : World} {ops : Array Oper} {rest : List Oper}
variable {d : Nat} {ty : TypeId} {pos : String} {af : Array Edge}
/-- 'b[k:]' of bytes that came in. -/
theorem slB {w0 : World} {t e : TypeId} {x lo : Operand} {a : Option Addr} {c k : Nat} {l : List UInt8} {κ : IntKind} (hx : opd E x = some (.slice a l.length c)) (hl : opd E lo = some (.int κ (k : Int))) (hu : P.underlying t = some (.slice e)) (hs : szB P e = some 1) (hd : Nat.blt d n = true) (hb : BytA w0 (.slice a l.length c) l) (hk : k ≤ l.length)
    (K : ∀ a' c', BytA w0 (.slice a' (l.drop k).length c') (l.drop k) → L Fe mm P ds n ops rest Q ((d, .slice a' (l.drop k).length c') :: E) w) : L Fe mm P ds n ops (⟨some d, .slice t x (some lo) none none, ty, pos, af, none⟩ :: rest) Q E w := by
  refine slVl hx hl hu hs hd (by omega) (by omega) ?_
  have h := BytA.cut hb hk
  rw [Int.toNat_natCast, show l.length - k = (l.drop k).length by rw [List.length_drop]]
  rw [show l.length - k = (l.drop k).length by rw [List.length_drop]] at h
  exact K _ _ h
/-- 'b[:k]' of bytes that came in. -/
theorem slBh {w0 : World} {t e : TypeId} {x hi : Operand} {a : Option Addr} {c k : Nat} {l : List UInt8} {κ : IntKind} (hx : opd E x = some (.slice a l.length c)) (hl : opd E hi = some (.int κ (k : Int))) (hu : P.underlying t = some (.slice e)) (hs : szB P e = some 1) (hd : Nat.blt d n = true) (hb : BytA w0 (.slice a l.length c) l) (hk : k ≤ l.length)
    (K : BytA w0 (.slice a (l.take k).length c) (l.take k) → L Fe mm P ds n ops rest Q ((d, .slice a (l.take k).length c) :: E) w) : L Fe mm P ds n ops (⟨some d, .slice t x none (some hi) none, ty, pos, af, none⟩ :: rest) Q E w := by
  obtain ⟨a', c', e, hn, -, -, -⟩ := id hb
  cases e
  refine slVh hx hl hu hs hd (by omega) (by omega) ?_
  have h := RowA.take (m := k) (k := k) hb hk
  have e1 : (l.take k).length = k := by rw [List.length_take]; omega
  have K' := K (by unfold BytA; rw [e1, show encB (l.take k) = (encB l).take k by simp [encB]]; exact h)
  rw [e1] at K'
  rw [Int.toNat_natCast]
  exact K'
end ops
theorem BytA.cellx {w : World} {bb o n c i : Nat} {b : List UInt8} (h : BytA w (.slice (some ⟨bb, o, none⟩) n c) b) (hi : i < b.length) : w.cell? ⟨bb, o + i * 1, none⟩ = some (.int .u8 (b[i]?.getD 0).toNat) := by
  obtain ⟨bb', o', c', e, hc⟩ := byt_at h hi
  cases e
  exact hc i hi
theorem ok_ROpen : FnOk P 23 := ⟨_, Tryz.func23, by kernel_rfl, by kernel_rfl⟩
/-- What the document's Open answers. -/
def OpenRR (w : World) (r : Option Tr.T × Int) (e : Ending) (w' : World) : Prop := Ext none_ w w' ∧ (r.1 = none → e = .returned (.tuple #[.slice none 0 0, .int .i64 r.2])) ∧
  ∀ l, r.1 = some l → ∃ v E, e = .returned (.tuple #[v, .int .i64 0]) ∧ FilesAt w' v E ∧ fm E = l
theorem OpenRR.fail {w w' : World} {r : Option Tr.T × Int} {c : Int} (hx : Ext none_ w w') (h : r = (none, c)) : OpenRR w r (.returned (.tuple #[.slice none 0 0, .int .i64 c])) w' := by
  subst h
  exact ⟨hx, fun _ => rfl, fun l hl => by cases hl⟩
theorem prefix_take (a b : List UInt8) : (a.take b.length == b) = b.isPrefixOf a := by
  rw [Bool.eq_iff_iff, beq_iff_eq, List.isPrefixOf_iff_prefix, List.prefix_iff_eq_take]
  exact ⟨fun h => h.symm, fun h => h.symm⟩
theorem sign_eq (b : List UInt8) : (b.take 4 == Ar.sign) = Ar.sign.isPrefixOf b := prefix_take b Ar.sign
theorem val2 {b : List UInt8} (h : 2 ≤ b.length) : Ar.val (b.take 2) = (b[0]?.getD 0).toNat * 256 + (b[1]?.getD 0).toNat := by
  match b, h with
  | x :: y :: l, _ => simp [Ar.val]
theorem or_i64 {n c : Nat} (hn : n * 256 + c < 9223372036854775808) (hc : c < 256) : IntKind.i64.wrap ((BitVec.ofInt 64 ((n * 256 : Nat) : Int) ||| BitVec.ofInt 64 (c : Int)).toNat : Int) = ((n * 256 + c : Nat) : Int) := by
  have h1 : (BitVec.ofInt 64 ((n * 256 : Nat) : Int)).toNat = n * 256 := by rw [BitVec.toNat_ofInt]; omega
  have h2 : (BitVec.ofInt 64 (c : Int)).toNat = c := by rw [BitVec.toNat_ofInt]; omega
  have h3 : n * 256 ||| c = n * 256 + c := by
    have := Nat.shiftLeft_add_eq_or_of_lt (i := 8) (b := c) (by omega) n
    rw [Nat.shiftLeft_eq] at this
    exact this.symm
  rw [BitVec.toNat_or, h1, h2, h3]
  exact w64 (by omega) (by omega)

theorem orI64 {st : Sty} [Wy st] {P : Program} {ds : List Deferred} {n : Nat} {Q : Exit → Act → World → Prop} {E : Env} {w : World} {ops : Array Oper} {rest : List Oper} {d : Nat} {ty : TypeId} {pos : String} {af : Array Edge} {x y : Operand} {t yt : TypeId} {a c : Nat} (hx : opd E x = some (.int .i64 ((a * 256 : Nat) : Int))) (hy : opd E y = some (.int .i64 (c : Int))) (hn : a * 256 + c < 9223372036854775808) (hc : c < 256) (hd : Nat.blt d n = true)
    (k : LY st P ds n ops rest Q ((d, .int .i64 ((a * 256 + c : Nat) : Int)) :: E) w) : LY st P ds n ops (⟨some d, .binOp .or t x y yt, ty, pos, af, none⟩ :: rest) Q E w :=
  binI hx hy (fun w => by
    show (pure (.int .i64 (IntKind.i64.wrap ((BitVec.ofInt 64 ((a * 256 : Nat) : Int) ||| BitVec.ofInt 64 (c : Int)).toNat))) : Sem Value).run P w = _
    rw [or_i64 hn hc]; rfl) hd k

set_option maxHeartbeats 2000000 in
theorem c_ROpen {w : World} {v : Value} {b : List UInt8} (hv : BytA w v b) (hl : b.length ≤ 1000000) : Calls P 23 #[v] w (OpenRR w (Ar.opn b)) := by
  obtain ⟨a, c, rfl, hbn, hbm, -, -⟩ := id hv
  refine enter (l := [_]) (n := 140) Tryz.func23 rfl rfl rfl ?_
  refine W.seq ?_
  refine W.reg <| asg rfl rfl <| asg rfl rfl <| L.nil ?_
  refine N.th ?_
  refine W.seq ?_
  refine W.seq ?_
  refine W.reg <| mv rfl rfl <| lenV rfl u_bytes rfl <| gtrI rfl rfl rfl ?_
  by_cases hlen : b.length ≤ 262144
  case neg =>
    refine Vc.bt (by simp; omega) ?_
    (repeat (first | refine mv rfl rfl ?_ | refine asg rfl rfl ?_ | refine L.off rfl rfl rfl rfl rfl ?_ | refine L.offU rfl rfl rfl rfl ?_ | refine L.on rfl rfl rfl ?_ | refine pickT rfl rfl rfl ?_ | refine pickF rfl rfl rfl ?_ | refine ext rfl rfl rfl ?_ | refine nilc rfl rfl ?_ | refine lenV (t := 46) rfl u_strs rfl ?_ | refine lenV (t := 25) rfl u_bytes rfl ?_ | refine lenV (t := 22) rfl u_files rfl ?_ | refine lenS (t := 9) rfl u_str rfl ?_ | refine eqlI rfl rfl rfl ?_ | refine neqI rfl rfl rfl ?_ | refine lssI rfl rfl rfl ?_ | refine leqI rfl rfl rfl ?_ | refine gtrI rfl rfl rfl ?_ | refine geqI rfl rfl rfl ?_))
    refine L.nil ?_
    refine N.th ?_
    refine W.condT rfl ?_
    refine W.seq ?_
    refine W.reg <| asg rfl rfl <| asg rfl rfl <| L.nil ?_
    refine N.th ?_
    refine W.ret ?_
    refine N.rth ?_
    refine N.ret2 rfl rfl rfl ?_   -- RETURN
    exact OpenRR.fail (Ext.refl _ _) (Ar.opn_bad fun h => hlen h.1)
  refine Vc.bf (by simp; omega) ?_
  (repeat (first | refine mv rfl rfl ?_ | refine asg rfl rfl ?_ | refine L.off rfl rfl rfl rfl rfl ?_ | refine L.offU rfl rfl rfl rfl ?_ | refine L.on rfl rfl rfl ?_ | refine pickT rfl rfl rfl ?_ | refine pickF rfl rfl rfl ?_ | refine ext rfl rfl rfl ?_ | refine nilc rfl rfl ?_ | refine lenV (t := 46) rfl u_strs rfl ?_ | refine lenV (t := 25) rfl u_bytes rfl ?_ | refine lenV (t := 22) rfl u_files rfl ?_ | refine lenS (t := 9) rfl u_str rfl ?_ | refine eqlI rfl rfl rfl ?_ | refine neqI rfl rfl rfl ?_ | refine lssI rfl rfl rfl ?_ | refine leqI rfl rfl rfl ?_ | refine gtrI rfl rfl rfl ?_ | refine geqI rfl rfl rfl ?_))
  by_cases hb4 : 4 ≤ b.length
  case neg =>
    refine Vc.bt (by simp; omega) ?_
    (repeat (first | refine mv rfl rfl ?_ | refine asg rfl rfl ?_ | refine L.off rfl rfl rfl rfl rfl ?_ | refine L.offU rfl rfl rfl rfl ?_ | refine L.on rfl rfl rfl ?_ | refine pickT rfl rfl rfl ?_ | refine pickF rfl rfl rfl ?_ | refine ext rfl rfl rfl ?_ | refine nilc rfl rfl ?_ | refine lenV (t := 46) rfl u_strs rfl ?_ | refine lenV (t := 25) rfl u_bytes rfl ?_ | refine lenV (t := 22) rfl u_files rfl ?_ | refine lenS (t := 9) rfl u_str rfl ?_ | refine eqlI rfl rfl rfl ?_ | refine neqI rfl rfl rfl ?_ | refine lssI rfl rfl rfl ?_ | refine leqI rfl rfl rfl ?_ | refine gtrI rfl rfl rfl ?_ | refine geqI rfl rfl rfl ?_))
    refine L.nil ?_
    refine N.th ?_
    refine W.condT rfl ?_
    refine W.seq ?_
    refine W.reg <| asg rfl rfl <| asg rfl rfl <| L.nil ?_
    refine N.th ?_
    refine W.ret ?_
    refine N.rth ?_
    refine N.ret2 rfl rfl rfl ?_   -- RETURN
    refine OpenRR.fail (Ext.refl _ _) (Ar.opn_bad fun h => ?_)
    have := (List.isPrefixOf_iff_prefix.1 h.2).length_le
    simp [Ar.sign] at this
    omega
  refine Vc.bf (by simp; omega) ?_
  (repeat (first | refine mv rfl rfl ?_ | refine asg rfl rfl ?_ | refine L.off rfl rfl rfl rfl rfl ?_ | refine L.offU rfl rfl rfl rfl ?_ | refine L.on rfl rfl rfl ?_ | refine pickT rfl rfl rfl ?_ | refine pickF rfl rfl rfl ?_ | refine ext rfl rfl rfl ?_ | refine nilc rfl rfl ?_ | refine lenV (t := 46) rfl u_strs rfl ?_ | refine lenV (t := 25) rfl u_bytes rfl ?_ | refine lenV (t := 22) rfl u_files rfl ?_ | refine lenS (t := 9) rfl u_str rfl ?_ | refine eqlI rfl rfl rfl ?_ | refine neqI rfl rfl rfl ?_ | refine lssI rfl rfl rfl ?_ | refine leqI rfl rfl rfl ?_ | refine gtrI rfl rfl rfl ?_ | refine geqI rfl rfl rfl ?_))
  refine slBh (k := 4) rfl rfl u_bytes el_bytes.szB rfl hv hb4 fun hv4 => ?_
  refine L.on rfl rfl rfl <| cvtBA (a := b.take 4) rfl u_bytes u_u8 u_str rfl (Kn.here hv4) <| L.on rfl rfl rfl <| neqS (b := Ar.sign) rfl rfl rfl ?_
  rw [sign_eq b]
  by_cases hsg : Ar.sign.isPrefixOf b = true
  case neg =>
    refine Vc.bt (by simp [hsg]) ?_
    (repeat (first | refine mv rfl rfl ?_ | refine asg rfl rfl ?_ | refine L.off rfl rfl rfl rfl rfl ?_ | refine L.offU rfl rfl rfl rfl ?_ | refine L.on rfl rfl rfl ?_ | refine pickT rfl rfl rfl ?_ | refine pickF rfl rfl rfl ?_ | refine ext rfl rfl rfl ?_ | refine nilc rfl rfl ?_ | refine lenV (t := 46) rfl u_strs rfl ?_ | refine lenV (t := 25) rfl u_bytes rfl ?_ | refine lenV (t := 22) rfl u_files rfl ?_ | refine lenS (t := 9) rfl u_str rfl ?_ | refine eqlI rfl rfl rfl ?_ | refine neqI rfl rfl rfl ?_ | refine lssI rfl rfl rfl ?_ | refine leqI rfl rfl rfl ?_ | refine gtrI rfl rfl rfl ?_ | refine geqI rfl rfl rfl ?_))
    refine L.nil ?_
    refine N.th ?_
    refine W.condT rfl ?_
    refine W.seq ?_
    refine W.reg <| asg rfl rfl <| asg rfl rfl <| L.nil ?_
    refine N.th ?_
    refine W.ret ?_
    refine N.rth ?_
    refine N.ret2 rfl rfl rfl ?_   -- RETURN
    exact OpenRR.fail (Ext.refl _ _) (Ar.opn_bad fun h => hsg h.2)
  refine Vc.bf (by simp [hsg]) ?_
  (repeat (first | refine mv rfl rfl ?_ | refine asg rfl rfl ?_ | refine L.off rfl rfl rfl rfl rfl ?_ | refine L.offU rfl rfl rfl rfl ?_ | refine L.on rfl rfl rfl ?_ | refine pickT rfl rfl rfl ?_ | refine pickF rfl rfl rfl ?_ | refine ext rfl rfl rfl ?_ | refine nilc rfl rfl ?_ | refine lenV (t := 46) rfl u_strs rfl ?_ | refine lenV (t := 25) rfl u_bytes rfl ?_ | refine lenV (t := 22) rfl u_files rfl ?_ | refine lenS (t := 9) rfl u_str rfl ?_ | refine eqlI rfl rfl rfl ?_ | refine neqI rfl rfl rfl ?_ | refine lssI rfl rfl rfl ?_ | refine leqI rfl rfl rfl ?_ | refine gtrI rfl rfl rfl ?_ | refine geqI rfl rfl rfl ?_))
  refine L.nil ?_
  refine N.th ?_
  refine W.condF rfl ?_
  refine W.skip ?_
  refine N.th ?_
  have hopn := Ar.opn_fin ⟨hlen, hsg⟩
  generalize hr : Ar.par (b.length + 1) (b.drop 4) [] = r at hopn
  rw [hopn]
  refine W.seq ?_
  refine W.reg <| mv rfl rfl <| slB (k := 4) rfl rfl u_bytes el_bytes.szB rfl hv hb4 fun a4 c4 hv4 => ?_
  refine asg rfl rfl <| L.nil ?_
  refine N.th ?_
  refine W.seq ?_
  refine W.reg <| asg rfl rfl <| L.nil ?_
  refine N.th ?_
  refine W.seq ?_
  refine W.block ?_
  refine W.loop (X := Nat × List UInt8 × Option Addr × Nat × List FE × Value) (fun x => [(0, .slice x.2.2.1 x.2.1.length x.2.2.2.1), (4, x.2.2.2.2.2)])
    (fun x w' => BytA w (.slice x.2.2.1 x.2.1.length x.2.2.2.1) x.2.1 ∧ Ar.par x.1 x.2.1 (fm x.2.2.2.2.1) = r ∧ x.2.1.length < x.1 ∧ x.2.1.length ≤ 1000000 ∧ w'.ownsRow w.heap.size tF 3 x.2.2.2.2.2 x.2.2.2.2.1.length (x.2.2.2.2.1.flatMap fcells) ∧ (∀ y ∈ x.2.2.2.2.1, Byts w.heap.size w' y.2.2.1 y.2.2.2) ∧ x.2.2.2.2.1.length ≤ 500 ∧ (∀ y ∈ x.2.2.2.2.1, y.2.2.2.length ≤ 1000000) ∧ Ext none_ w w') (fun x => x.1)
    (b.length + 1, b.drop 4, a4, c4, [], .slice none 0 0) ⟨rfl, rfl, trivial⟩ ⟨hv4, hr, by simp; omega, by simp; omega, own_nil _ _ _ _, by simp, by simp, by simp, Ext.refl _ _⟩ ?_
  rintro ⟨f, b1, a1, c1, K, sv⟩ w1 ⟨hb1, hpar, hf, hl1, hown, hbs, hK5, hKl, hx1⟩
  dsimp only at hb1 hpar hf hl1 hown hbs hK5 hKl ⊢
  obtain ⟨f, rfl⟩ : ∃ g, f = g + 1 := ⟨f - 1, by omega⟩
  have hfail : ∀ {w' : World} {c : Int}, Ext none_ w w' → r = (none, c) → OpenRR w (Ar.fin r) (.returned (.tuple #[.slice none 0 0, .int .i64 c])) w' := fun hx h => OpenRR.fail hx (by rw [h]; rfl)
  refine W.block ?_
  refine W.seq ?_
  refine W.seq ?_
  refine W.reg <| mv rfl rfl <| lenV rfl u_bytes rfl <| eqlI rfl rfl rfl <| L.nil ?_
  refine N.th ?_
  refine W.cond rfl (fun h => ?_) (fun h => ?_)
  · refine W.seq ?_
    refine W.reg <| asg rfl rfl <| asg rfl rfl <| L.nil ?_
    refine N.th ?_
    refine W.ret ?_
    refine N.rth <| N.rinb <| N.rth <| N.rinb <| N.rth ?_
    refine N.ret2 rfl rfl rfl ?_   -- RETURN
    refine hfail hx1 ?_
    have h0 : b1.length = 0 := by have := of_decide_eq_true h; omega
    rw [← hpar, List.eq_nil_of_length_eq_zero h0]; rfl
  obtain ⟨k, b2, rfl⟩ : ∃ k l, b1 = k :: l := by
    cases b1 with
    | nil => simp at h
    | cons k l => exact ⟨k, l, rfl⟩
  obtain ⟨bb, bo, bc, e, hcell⟩ := byt_at (j := 0) (hb1.ext0 hx1) (by simp)
  cases e
  refine W.skip ?_
  refine N.th ?_
  refine W.seq ?_
  refine W.reg <| mv rfl rfl <| ixa rfl rfl u_bytes el_bytes.szB rfl (by decide) (by simp) <| ld1 (v := .int .u8 k.toNat) rfl ag_u8 rfl (hcell 0 (by simp)) <| asg rfl rfl <| L.nil ?_
  refine N.th ?_
  refine W.seq ?_
  refine W.reg <| mv rfl rfl <| slB (k := 1) rfl rfl u_bytes el_bytes.szB rfl hb1 (by simp) fun a2 c2 hb2 => ?_
  refine asg rfl rfl <| L.nil ?_
  refine N.th ?_
  simp only [List.drop_one, List.tail_cons] at hb2 ⊢
  refine W.seq ?_
  refine W.seq ?_
  refine W.reg <| mv rfl rfl <| eqlI rfl rfl rfl <| L.nil ?_
  refine N.th ?_
  have hk8 := k.toNat_lt
  refine W.cond rfl (fun h => ?_) (fun h => ?_)
  · have hk : k = 255 := by
      have := of_decide_eq_true h
      apply UInt8.toNat_inj.1
      show k.toNat = 255
      omega
    subst hk
    refine W.exit ?_
    refine N.xth ?_
    refine N.xne rfl ?_
    refine N.xth ?_
    refine N.xeq ?_
    refine N.th ?_
    refine W.seq ?_
    refine W.seq ?_
    refine W.reg <| mv rfl rfl <| lenV rfl u_bytes rfl <| gtrI rfl rfl rfl <| L.nil ?_
    refine N.th ?_
    refine W.cond rfl (fun h => ?_) (fun h => ?_)
    · refine W.seq ?_
      refine W.reg <| asg rfl rfl <| asg rfl rfl <| L.nil ?_
      refine N.th ?_
      refine W.ret ?_
      refine N.rth ?_
      refine N.ret2 rfl rfl rfl ?_   -- RETURN
      refine hfail hx1 ?_
      have : b2 ≠ [] := by rintro rfl; simp at h
      rw [← hpar]; simp [Ar.par, this]
    · have hb0 : b2 = [] := by
        apply List.eq_nil_of_length_eq_zero
        have := of_decide_eq_false h
        omega
      subst hb0
      have hrK : r = (some (fm K), 0) := by rw [← hpar]; simp [Ar.par]
      refine W.skip ?_
      refine N.th ?_
      refine W.seq ?_
      have hFA : FilesA w1 sv K := ⟨(Row.own hown).arg, fun x hx => (Row.own (hbs x hx)).arg⟩
      refine W.reg <| mv rfl rfl <| call (vs := [_]) rfl rfl ok_ROf (c_ROf hFA (by omega) (fun x hx => by have := hKl x hx; omega)) ?_
      rintro e w2 ⟨hx2, hnone, hsome⟩
      have hfin : Ar.fin r = match Tr.of (fm K) with
        | (none, _) => (none, 64)
        | (some m, _) => (some (Tr.files m), 0) := by rw [hrK]; rfl
      cases hof : Tr.of (fm K) with
      | mk o4 c4 =>
      rw [hof] at hnone hsome hfin
      cases o4 with
      | none =>
        rw [hnone rfl]
        have hc4 : c4 ≠ 0 := by
          have := Tr.ofF_none (fm K) [] [] (by have := congrArg Prod.fst hof; exact this)
          rw [show Tr.ofF [] [] (fm K) = (none, c4) from hof] at this
          exact this
        refine ⟨_, rfl, ?_⟩
        refine mv rfl rfl <| ext rfl rfl rfl <| ext (v := .int .i64 c4) rfl rfl rfl <| asg rfl rfl <| asg rfl rfl <| L.nil ?_
        refine N.th ?_
        refine W.seq ?_
        refine W.seq ?_
        refine W.reg <| mv rfl rfl <| neqI rfl rfl rfl <| Vc.bt (by simp [hc4]) <| L.nil ?_
        refine N.th ?_
        refine W.condT rfl ?_
        refine W.seq ?_
        refine W.reg <| asg rfl rfl <| asg rfl rfl <| L.nil ?_
        refine N.th ?_
        refine W.ret ?_
        refine N.rth ?_
        refine N.ret2 rfl rfl rfl ?_   -- RETURN
        exact OpenRR.fail (hx1.trans hx2) hfin
      | some mm =>
        obtain ⟨rt, lv', E', rfl, hrt, hR, hE'⟩ := hsome mm rfl
        refine ⟨_, rfl, ?_⟩
        refine mv rfl rfl <| ext rfl rfl rfl <| ext (v := .int .i64 0) rfl rfl rfl <| asg rfl rfl <| asg rfl rfl <| L.nil ?_
        refine N.th ?_
        refine W.seq ?_
        refine W.seq ?_
        refine W.reg <| mv rfl rfl <| neqI rfl rfl rfl <| L.nil ?_
        refine N.th ?_
        refine W.condF rfl ?_
        refine W.skip ?_
        refine N.th ?_
        refine W.seq ?_
        refine W.reg <| mv rfl rfl <| nilc rfl rfl <| fad rfl fl_RT_0 rfl <| ld1 rfl ag_files rfl hR.c0 <| asg rfl rfl <| asg rfl rfl <| L.nil ?_
        refine N.th ?_
        refine W.ret ?_
        refine N.ret2 rfl rfl rfl ?_   -- RETURN
        refine ⟨hx1.trans hx2, fun hn => ?_, fun l hl' => ?_⟩
        · rw [hfin] at hn; cases hn
        · rw [hfin] at hl'; cases hl'
          exact ⟨lv', E', rfl, hR.files, hE'⟩
  have hk255 : k ≠ 255 := by
    rintro rfl
    simp at h
  refine W.skip ?_
  refine N.th ?_
  refine W.seq ?_
  have hKe : (fm K).length = K.length := by simp
  have hsv : ∃ a c, sv = .slice a K.length c := by
    rcases hown.2 with ⟨e, h0⟩ | ⟨g, cap, cur, e, -⟩
    · exact ⟨none, 0, by rw [e, h0]⟩
    · exact ⟨_, _, e⟩
  obtain ⟨sa, sc, rfl⟩ := hsv
  refine W.seqM (fun E' w' => ∃ t, E' = [(51, .bool t), (0, .slice a2 b2.length c2), (4, .slice sa K.length sc), (5, .int .u8 k.toNat)] ∧ w' = w1 ∧ t = !decide (k.toNat ≤ 1 ∧ 2 ≤ b2.length ∧ K.length < 500)) ?_ ?_
  · refine W.reg <| mv rfl rfl <| gtrI rfl rfl rfl ?_
    by_cases h1 : k.toNat ≤ 1
    case neg =>
      refine Vc.bt (by simp; omega) ?_
      (repeat (first | refine mv rfl rfl ?_ | refine asg rfl rfl ?_ | refine L.off rfl rfl rfl rfl rfl ?_ | refine L.offU rfl rfl rfl rfl ?_ | refine L.on rfl rfl rfl ?_ | refine pickT rfl rfl rfl ?_ | refine pickF rfl rfl rfl ?_ | refine ext rfl rfl rfl ?_ | refine nilc rfl rfl ?_ | refine lenV (t := 46) rfl u_strs rfl ?_ | refine lenV (t := 25) rfl u_bytes rfl ?_ | refine lenV (t := 22) rfl u_files rfl ?_ | refine lenS (t := 9) rfl u_str rfl ?_ | refine eqlI rfl rfl rfl ?_ | refine neqI rfl rfl rfl ?_ | refine lssI rfl rfl rfl ?_ | refine leqI rfl rfl rfl ?_ | refine gtrI rfl rfl rfl ?_ | refine geqI rfl rfl rfl ?_))
      exact L.nil <| N.th (N.meet [(51, .bool true), (0, _), (4, _), (5, _)] ⟨rfl, rfl, rfl, rfl, trivial⟩ ⟨true, rfl, rfl, by simp [h1]⟩)
    refine Vc.bf (by simp; omega) ?_
    (repeat (first | refine mv rfl rfl ?_ | refine asg rfl rfl ?_ | refine L.off rfl rfl rfl rfl rfl ?_ | refine L.offU rfl rfl rfl rfl ?_ | refine L.on rfl rfl rfl ?_ | refine pickT rfl rfl rfl ?_ | refine pickF rfl rfl rfl ?_ | refine ext rfl rfl rfl ?_ | refine nilc rfl rfl ?_ | refine lenV (t := 46) rfl u_strs rfl ?_ | refine lenV (t := 25) rfl u_bytes rfl ?_ | refine lenV (t := 22) rfl u_files rfl ?_ | refine lenS (t := 9) rfl u_str rfl ?_ | refine eqlI rfl rfl rfl ?_ | refine neqI rfl rfl rfl ?_ | refine lssI rfl rfl rfl ?_ | refine leqI rfl rfl rfl ?_ | refine gtrI rfl rfl rfl ?_ | refine geqI rfl rfl rfl ?_))
    by_cases h2 : 2 ≤ b2.length
    case neg =>
      refine Vc.bt (by simp; omega) ?_
      (repeat (first | refine mv rfl rfl ?_ | refine asg rfl rfl ?_ | refine L.off rfl rfl rfl rfl rfl ?_ | refine L.offU rfl rfl rfl rfl ?_ | refine L.on rfl rfl rfl ?_ | refine pickT rfl rfl rfl ?_ | refine pickF rfl rfl rfl ?_ | refine ext rfl rfl rfl ?_ | refine nilc rfl rfl ?_ | refine lenV (t := 46) rfl u_strs rfl ?_ | refine lenV (t := 25) rfl u_bytes rfl ?_ | refine lenV (t := 22) rfl u_files rfl ?_ | refine lenS (t := 9) rfl u_str rfl ?_ | refine eqlI rfl rfl rfl ?_ | refine neqI rfl rfl rfl ?_ | refine lssI rfl rfl rfl ?_ | refine leqI rfl rfl rfl ?_ | refine gtrI rfl rfl rfl ?_ | refine geqI rfl rfl rfl ?_))
      exact L.nil <| N.th (N.meet [(51, .bool true), (0, _), (4, _), (5, _)] ⟨rfl, rfl, rfl, rfl, trivial⟩ ⟨true, rfl, rfl, by simp [h2]⟩)
    refine Vc.bf (by simp; omega) ?_
    (repeat (first | refine mv rfl rfl ?_ | refine asg rfl rfl ?_ | refine L.off rfl rfl rfl rfl rfl ?_ | refine L.offU rfl rfl rfl rfl ?_ | refine L.on rfl rfl rfl ?_ | refine pickT rfl rfl rfl ?_ | refine pickF rfl rfl rfl ?_ | refine ext rfl rfl rfl ?_ | refine nilc rfl rfl ?_ | refine lenV (t := 46) rfl u_strs rfl ?_ | refine lenV (t := 25) rfl u_bytes rfl ?_ | refine lenV (t := 22) rfl u_files rfl ?_ | refine lenS (t := 9) rfl u_str rfl ?_ | refine eqlI rfl rfl rfl ?_ | refine neqI rfl rfl rfl ?_ | refine lssI rfl rfl rfl ?_ | refine leqI rfl rfl rfl ?_ | refine gtrI rfl rfl rfl ?_ | refine geqI rfl rfl rfl ?_))
    exact L.nil <| N.th (N.meet [(51, .bool (decide ((500 : Int) ≤ (K.length : Int)))), (0, _), (4, _), (5, _)] ⟨rfl, rfl, rfl, rfl, trivial⟩ ⟨_, rfl, rfl, by simp only [h1, h2, true_and]; rw [← decide_not]; apply decide_eq_decide.2; omega⟩)
  rintro E' w' ⟨t, rfl, hw', ht⟩
  obtain rfl := hw'.symm
  refine W.cond rfl (fun h => ?_) (fun h => ?_)
  · refine W.seq ?_
    refine W.reg <| asg rfl rfl <| asg rfl rfl <| L.nil ?_
    refine N.th ?_
    refine W.ret ?_
    refine N.rth <| N.rinb <| N.rth <| N.rinb <| N.rth ?_
    refine N.ret2 rfl rfl rfl ?_   -- RETURN
    refine hfail hx1 ?_
    rw [h] at ht
    have hok : ¬ (k.toNat ≤ 1 ∧ 2 ≤ b2.length ∧ K.length < 500) := fun hc => by rw [decide_eq_true hc] at ht; cases ht
    rw [← hpar, Ar.par, if_neg hk255]
    by_cases h1 : k.toNat ≤ 1 ∧ (fm K).length < 500
    · rw [if_neg (fun h => h h1), if_pos (by rw [hKe] at h1; omega)]
    · rw [if_pos h1]
  have hok : k.toNat ≤ 1 ∧ 2 ≤ b2.length ∧ K.length < 500 := by rw [h] at ht; simpa using ht
  refine W.skip ?_
  refine N.th ?_
  refine W.seq ?_
  have hx1d : Ext none_ w w1.drew := hx1.trans (Ext.drew _ _)
  obtain ⟨bb2, bo2, bc2, e2, -⟩ := byt_at (j := 0) hb2 (by omega)
  cases e2
  have hc80 := (b2[0]?.getD 0).toNat_lt
  have hc81 := (b2[1]?.getD 0).toNat_lt
  refine W.draw [3] false (fun w' => Ext none_ w w') [0, 1, 2, 3, 4, 5, 6, 7, 8, 9, 10] rfl rfl (by kernel_rfl) hx1d ?_   -- held
  refine mv rfl rfl <| ixa rfl rfl u_bytes el_bytes.szB rfl (by decide) (by omega) <| ldK (v := .int .u8 ((b2[0]?.getD (0 : UInt8)).toNat : Int)) rfl ag_u8 rfl (fun w' h => BytA.cellx (i := 0) (RowA.ext0 hb2 h) (by omega)) <| cvtI (c := ((b2[0]?.getD 0).toNat : Int)) rfl u_int u_u8 rfl (w64 (by omega) (by omega)) <|
    shlI (c := (((b2[0]?.getD 0).toNat * 256 : Nat) : Int)) rfl rfl rfl (by decide) (by
      show IntKind.i64.wrap (((b2[0]?.getD 0).toNat : Int) * 256) = _
      rw [w64 (by omega) (by omega)]; omega) <| mv rfl rfl <| ixa rfl rfl u_bytes el_bytes.szB rfl (by decide) (by omega) <| ldK (v := .int .u8 ((b2[1]?.getD (0 : UInt8)).toNat : Int)) rfl ag_u8 rfl (fun w' h => BytA.cellx (i := 1) (RowA.ext0 hb2 h) (by omega)) <| cvtI (c := ((b2[1]?.getD 0).toNat : Int)) rfl u_int u_u8 rfl (w64 (by omega) (by omega)) <|
    orI64 rfl rfl (by omega) hc81 rfl <| asg rfl rfl <| L.nilH ?_
  refine N.th ?_
  rw [← val2 hok.2.1]
  have hx1w : Ext none_ w1 w1.drew := Ext.drew _ _
  generalize w1.drew = w2 at hx1d hx1w ⊢
  obtain ⟨m, hm⟩ : ∃ m, m = Ar.val (b2.take 2) := ⟨_, rfl⟩
  have hmb : m < 65536 := by
    have := Ar.val_lt (b2.take 2)
    rw [show (b2.take 2).length = 2 by rw [List.length_take]; omega] at this
    omega
  rw [← hm]
  refine W.seq ?_
  refine W.reg <| mv rfl rfl <| slB (k := 2) rfl rfl u_bytes el_bytes.szB rfl hb2 hok.2.1 fun a3 c3 hb3 => ?_
  refine asg rfl rfl <| L.nil ?_
  refine N.th ?_
  refine W.seq ?_
  refine W.seq ?_
  refine W.reg <| mv rfl rfl <| lenV rfl u_bytes rfl <| mv rfl rfl <| lssI rfl rfl rfl <| L.nil ?_
  refine N.th ?_
  have hparB := hpar
  have hlA : ¬ b2.length < 2 := by omega
  have hcA : ¬ ¬ (k.toNat ≤ 1 ∧ (fm K).length < 500) := fun hc => hc (by rw [hKe]; omega)
  rw [Ar.par, if_neg hk255, if_neg hcA, if_neg hlA, ← hm] at hparB
  refine W.cond rfl (fun h => ?_) (fun h => ?_)
  · refine W.seq ?_
    refine W.reg <| asg rfl rfl <| asg rfl rfl <| L.nil ?_
    refine N.th ?_
    refine W.ret ?_
    refine N.rth <| N.rinb <| N.rth <| N.rinb <| N.rth ?_
    refine N.ret2 rfl rfl rfl ?_   -- RETURN
    refine hfail hx1d ?_
    rw [← hparB, if_pos (by have := of_decide_eq_true h; omega)]
  have hlB : ¬ (b2.drop 2).length < m := by have := of_decide_eq_false h; omega
  obtain ⟨p, hp⟩ : ∃ p, p = (b2.drop 2).take m := ⟨_, rfl⟩
  rw [if_neg hlB, ← hp] at hparB
  refine W.skip ?_
  refine N.th ?_
  refine W.seq ?_
  refine W.reg <| mv rfl rfl <| mv rfl rfl <| slBh (k := m) rfl rfl u_bytes el_bytes.szB rfl hb3 (by omega) fun hpA => ?_
  refine cvtBA (a := (b2.drop 2).take m) rfl u_bytes u_u8 u_str rfl (Kn.here (hpA.ext0 hx1d)) ?_
  refine mv rfl rfl <| eqlI rfl rfl rfl ?_
  obtain ⟨bd, hbd⟩ : ∃ bd : Bool, bd = decide ((k.toNat : Int) = 1) := ⟨_, rfl⟩
  rw [← hbd, ← hp]
  refine bld (vs := #[(0, .string (S p)), (1, .bool bd)]) (v := .agg #[.string (S p), .bool bd, .slice none 0 0]) rfl rfl (fun _ => by kernel_rfl) <| new ze_F3 rfl <|
    stR (cells := #[.string (S p), .bool bd, .slice none 0 0]) rfl rfl sz_File rfl (heap_new _ _) rfl <| L.nil ?_
  refine N.th ?_
  obtain ⟨w5, hw5⟩ : ∃ w5, w5 = (w2.alloc (.cells (Value.cells (.agg #[.string (S []), .bool false, .slice none 0 0])) tF)).setRow w2.heap.size #[.string (S p), .bool bd, .slice none 0 0] := ⟨_, rfl⟩
  obtain ⟨fb, hfb⟩ : ∃ f, f = w2.heap.size := ⟨_, rfl⟩
  have hx25 : Ext none_ w2 w5 := by rw [hw5]; exact (Ext.alloc none_ _ _).trans' (Ext.setRow (S := fun k => k = w2.heap.size) _ (fun _ => rfl) _) (fun i hi e => by omega)
  have hf5 : w5.heap[fb]? = some (.cells #[.string (S p), .bool bd, .slice none 0 0] tF (0, 0)) := by rw [hw5, hfb]; exact setRow_heap _ _ _ _ _ _ (heap_new _ _)
  rw [show (w2.alloc (.cells (Value.cells (.agg #[.string (S []), .bool false, .slice none 0 0])) tF)).setRow w2.heap.size #[.string (S p), .bool bd, .slice none 0 0] = w5 from hw5.symm, ← hfb]
  refine W.seq ?_
  refine W.reg <| mv rfl rfl <| mv rfl rfl <| slB (k := m) rfl rfl u_bytes el_bytes.szB rfl hb3 (by omega) fun a4 c4 hb4 => ?_
  refine asg rfl rfl <| L.nil ?_
  refine N.th ?_
  refine W.seq ?_
  refine W.seq ?_
  refine W.reg <| fad rfl fl_File_0 rfl <| ld1 (v := .string (S p)) rfl ag_str rfl (cell_of hf5 rfl) <| call (vs := [_]) rfl rfl ok_RClean (c_RClean p w5) ?_
  rintro e w6 ⟨rfl, hx56⟩
  refine ⟨_, rfl, ?_⟩
  refine mv rfl rfl <| ext rfl rfl rfl <| ext (v := .int .i64 (Sp.clean p).2) rfl rfl rfl <| asg rfl rfl <| asg rfl rfl <| L.nil ?_
  refine N.th ?_
  have hf6 := hx56.obj hf5 id
  have hx26 := hx25.trans hx56
  have hx06 := hx1d.trans hx26
  have hx16 := hx1w.trans hx26
  refine W.seq ?_
  refine W.reg <| mv rfl rfl <| L.nil ?_
  refine N.th ?_
  refine W.block ?_
  refine W.seq ?_
  refine W.reg <| eqlI rfl rfl rfl <| asg rfl rfl <| L.nil ?_
  refine N.th ?_
  refine W.cond rfl (fun h => ?_) (fun h => ?_)
  case refine_2 =>
    have h0 : (Sp.clean p).2 ≠ 0 := by have := of_decide_eq_false h; exact this
    refine W.seq ?_
    refine W.reg <| eqlI rfl rfl rfl <| asg rfl rfl <| L.nil ?_
    refine N.th ?_
    refine W.cond rfl (fun h => ?_) (fun h => ?_)
    · have h51 : (Sp.clean p).2 = 51 := by have := of_decide_eq_true h; exact this
      refine W.seq ?_
      refine W.reg <| asg rfl rfl <| asg rfl rfl <| L.nil ?_
      refine N.th ?_
      refine W.ret ?_
      refine N.rinb <| N.rth <| N.rinb <| N.rth <| N.rinb <| N.rth ?_
      refine N.ret2 rfl rfl rfl ?_   -- RETURN
      refine hfail hx06 ?_
      rw [← hparB, if_pos h51]
    · have h51 : ¬ (Sp.clean p).2 = 51 := by have := of_decide_eq_false h; exact this
      refine W.seq ?_
      refine W.reg <| asg rfl rfl <| asg rfl rfl <| L.nil ?_
      refine N.th ?_
      refine W.ret ?_
      refine N.rinb <| N.rth <| N.rinb <| N.rth <| N.rinb <| N.rth ?_
      refine N.ret2 rfl rfl rfl ?_   -- RETURN
      refine hfail hx06 ?_
      rw [← hparB, if_neg h51, if_pos h0]
  have h0 : (Sp.clean p).2 = 0 := by have := of_decide_eq_true h; exact this
  rw [if_neg (by rw [h0]; decide), if_neg (fun hc => hc h0)] at hparB
  refine W.skip ?_
  refine N.inb ?_
  refine N.th ?_
  refine W.seqM (fun E' w' => ∃ (bv : Value) (bl : List UInt8) (a9 : Option Addr) (c9 : Nat) (b9 : List UInt8), E' = [(0, .slice a9 b9.length c9), (4, .slice sa K.length sc), (7, .pointer (some ⟨fb, 0, none⟩))] ∧ w'.heap[fb]? = some (.cells #[.string (S p), .bool bd, bv] tF (0, 0)) ∧ Byts w.heap.size w' bv bl ∧ bl.length ≤ 1000000 ∧ BytA w (.slice a9 b9.length c9) b9 ∧ Ar.par f b9 (fm K ++ [(p, bd, bl)]) = r ∧ b9.length < (k :: b2).length ∧ Ext none_ w w' ∧ Ext none_ w1 w') ?_ ?_   -- CUT
  · refine W.seq ?_
    refine W.reg <| fad rfl fl_File_1 rfl <| ld1 rfl ag_bool rfl (cell_of hf6 rfl) <| notB rfl rfl <| L.nil ?_
    refine N.th ?_
    refine W.cond rfl (fun hb => ?_) (fun hb => ?_)
    · have hbt : bd = false := by simpa using hb
      have hk1 : k ≠ 1 := by
        rintro rfl
        rw [hbd] at hbt
        simp at hbt
      rw [if_neg hk1] at hparB
      refine W.seq ?_
      refine W.seq ?_
      refine W.reg <| mv rfl rfl <| lenV rfl u_bytes rfl <| lssI rfl rfl rfl <| L.nil ?_
      refine N.th ?_
      refine W.cond rfl (fun h => ?_) (fun h => ?_)
      · refine W.seq ?_
        refine W.reg <| asg rfl rfl <| asg rfl rfl <| L.nil ?_
        refine N.th ?_
        refine W.ret ?_
        refine N.rth <| N.rth <| N.rinb <| N.rth <| N.rinb <| N.rth ?_
        refine N.ret2 rfl rfl rfl ?_   -- RETURN
        refine hfail hx06 ?_
        rw [← hparB, if_pos (by have := of_decide_eq_true h; omega)]
      have hl8 : ¬ ((b2.drop 2).drop m).length < 8 := by have := of_decide_eq_false h; omega
      rw [if_neg hl8] at hparB
      obtain ⟨b6, hb6e⟩ : ∃ b6, b6 = (b2.drop 2).drop m := ⟨_, rfl⟩
      have hb6l : b6.length ≤ b2.length := by rw [hb6e]; simp
      rw [← hb6e] at hparB hl8 hb4 ⊢
      obtain ⟨bb4, bo4, bc4, e4, -⟩ := byt_at (j := 0) hb4 (by omega)
      cases e4
      refine W.skip ?_
      refine N.th ?_
      refine W.seq ?_
      refine W.reg <| asg rfl rfl <| L.nil ?_
      refine N.th ?_
      refine W.seq ?_
      refine W.seq ?_
      refine W.reg <| asg rfl rfl <| L.nil ?_
      refine N.th ?_
      refine W.block ?_
      refine W.loop (X := Nat) (fun i => [(11, .int .i64 i), (10, .int .u64 (Ar.val (b6.take i))), (0, .slice (some ⟨bb4, bo4, none⟩) b6.length c4), (4, .slice sa K.length sc), (7, .pointer (some ⟨fb, 0, none⟩))]) (fun i w' => i ≤ 8 ∧ w' = w6) (fun i => 8 - i) 0 ⟨rfl, rfl, rfl, rfl, rfl, trivial⟩ ⟨by omega, rfl⟩ ?_
      rintro i w7 ⟨hi, rfl⟩
      refine W.seq ?_
      refine W.seq ?_
      refine W.reg <| mv rfl rfl <| lssI rfl rfl rfl <| L.nil ?_
      refine N.th ?_
      refine W.cond rfl (fun h => ?_) (fun h => ?_)
      · refine W.skip ?_
        refine N.th ?_
        have hi1 : i < 8 := by have := of_decide_eq_true h; omega
        have hy : b6[i]? = some (b6[i]?.getD 0) := by rw [List.getElem?_eq_getElem (by omega)]; rfl
        have hlt := Ar.val_lt (b6.take (i + 1))
        have hlen : (b6.take (i + 1)).length = i + 1 := by rw [List.length_take]; omega
        have hval : Ar.val (b6.take (i + 1)) = Ar.val (b6.take i) * 256 + (b6[i]?.getD 0).toNat := by
          conv => lhs; rw [List.take_add_one, hy]
          exact Ar.val_snoc _ _
        have hp8 : 256 ^ (i + 1) ≤ 256 ^ 8 := Nat.pow_le_pow_right (by decide) (by omega)
        have hmax : Ar.val (b6.take i) * 256 + (b6[i]?.getD 0).toNat < 18446744073709551616 := by
          rw [← hval]
          rw [hlen] at hlt
          have : (256 : Nat) ^ 8 = 18446744073709551616 := by decide
          omega
        have hb8 := (b6[i]?.getD 0).toNat_lt
        refine W.seq ?_
        refine W.block ?_
        refine W.reg <| mv rfl rfl <| shlI (c := ((Ar.val (b6.take i) * 256 : Nat) : Int)) rfl rfl rfl (by decide) (by
            show IntKind.u64.wrap ((Ar.val (b6.take i) : Int) * 256) = _
            rw [wu64 (by omega) (by omega)]; omega) <| mv rfl rfl <| mv rfl rfl <| ixa rfl rfl u_bytes el_bytes.szB rfl (by omega) (by omega) <| ld1 (v := .int .u8 (b6[i]?.getD 0).toNat) rfl ag_u8 rfl (BytA.cellx (i := i) (RowA.ext0 hb4 hx06) (by omega)) <| cvtI (c := ((b6[i]?.getD 0).toNat : Int)) rfl u_u64 u_u8 rfl (wu64 (by omega) (by omega)) <|
          binI (v := .int .u64 (Ar.val (b6.take (i + 1)) : Int)) rfl rfl (fun w => by
            show (pure (.int .u64 (IntKind.u64.wrap ((BitVec.ofInt 64 ((Ar.val (b6.take i) * 256 : Nat) : Int) ||| BitVec.ofInt 64 ((b6[i]?.getD 0).toNat : Int)).toNat))) : Sem Value).run P w = _
            rw [or64 hmax (by omega), hval]; rfl) rfl <| asg rfl rfl <| L.nil ?_
        refine N.inb ?_
        refine N.th ?_
        refine W.reg <| mv rfl rfl <| addI (c := ((i + 1 : Nat) : Int)) rfl rfl rfl (by rw [w64 (by omega) (by omega)]; simp) <| asg rfl rfl <| L.nil ?_
        exact N.th (N.round (x := i + 1) ⟨rfl, rfl, rfl, rfl, rfl, trivial⟩ ⟨by omega, rfl⟩ (by omega))   -- ROUND
      · refine W.exit ?_
        refine N.xth ?_
        refine N.xth ?_
        refine N.xeq ?_
        refine N.th ?_
        have hi8 : i = 8 := by have := of_decide_eq_false h; omega
        subst hi8
        obtain ⟨q, hq⟩ : ∃ q, q = Ar.val (b6.take 8) := ⟨_, rfl⟩
        have hqb : q < 18446744073709551616 := by
          have := Ar.val_lt (b6.take 8)
          rw [show (b6.take 8).length = 8 by rw [List.length_take]; omega] at this
          rw [hq]
          exact Nat.lt_of_lt_of_le this (by decide)
        rw [← hq] at hparB ⊢
        refine W.seq ?_
        refine W.reg <| mv rfl rfl <| slB (k := 8) rfl rfl u_bytes el_bytes.szB rfl hb4 (by omega) fun a8 c8 hb8 => ?_
        refine asg rfl rfl <| L.nil ?_
        refine N.th ?_
        refine W.seq ?_
        refine W.seq ?_
        have hb8l : (b6.drop 8).length ≤ 1000000 := by simp at hl1 ⊢; omega
        refine W.reg <| mv rfl rfl <| mv rfl rfl <| lenV rfl u_bytes rfl <| cvtI (c := ((b6.drop 8).length : Int)) rfl u_u64 u_int rfl (wu64 (by omega) (by omega)) <| gtrI rfl rfl rfl <| L.nil ?_
        refine N.th ?_
        refine W.cond rfl (fun h => ?_) (fun h => ?_)
        · refine W.seq ?_
          refine W.reg <| asg rfl rfl <| asg rfl rfl <| L.nil ?_
          refine N.th ?_
          refine W.ret ?_
          refine N.rth <| N.rth <| N.rinb <| N.rth <| N.rinb <| N.rth ?_
          refine N.ret2 rfl rfl rfl ?_   -- RETURN
          refine hfail hx06 ?_
          rw [← hparB, if_pos (by have := of_decide_eq_true h; omega)]
        have hlq : ¬ (b6.drop 8).length < q := by have := of_decide_eq_false h; omega
        rw [if_neg hlq] at hparB
        refine W.skip ?_
        refine N.th ?_
        refine W.seq ?_
        refine W.reg <| mv rfl rfl <| mv rfl rfl <| slBh (k := q) rfl rfl u_bytes el_bytes.szB rfl hb8 (by omega) fun hqA => ?_
        have hql : ((b6.drop 8).take q).length ≤ 1000000 := by rw [List.length_take]; omega
        refine cpyB rfl (hqA.ext0 hx06) el_bytes rfl (by omega) fun cv w8 hcv hx8 => ?_
        obtain ⟨ca, cc, rfl, -, -⟩ := own_slice hcv
        have hf8 := hx8.obj hf6 id
        refine fad rfl fl_File_2 rfl <| st1 rfl rfl sz_bytes rfl hf8 rfl <| L.nil ?_
        refine N.th ?_
        have hx89 : Ext (fun i => i = fb) w8 (w8.setCell ⟨fb, 0 + 2, none⟩ (.slice ca ((b6.drop 8).take q).length cc)) := Ext.setCell (S := fun i => i = fb) _ (fun _ => rfl) _
        have hf9 := setCell_heap (i := 0 + 2) hf8 (.slice ca ((b6.drop 8).take q).length cc)
        have hfl6 := lt_of_obj hf6
        generalize hw9 : w8.setCell _ _ = w9 at hx89 hf9 ⊢
        refine W.reg <| mv rfl rfl <| mv rfl rfl <| slB (k := q) rfl rfl u_bytes el_bytes.szB rfl hb8 (by omega) fun a9 c9 hb9 => ?_
        refine asg rfl rfl <| L.nil ?_
        have hs1d := hx1d.size
        have hs1w := hx1w.size
        refine N.th (N.meet [(0, _), (4, .slice sa K.length sc), (7, .pointer (some ⟨fb, 0, none⟩))] ⟨rfl, rfl, rfl, trivial⟩ ⟨_, _, a9, c9, _, rfl, by rw [hf9]; rfl, own_low (own_ext hcv hx89 fun k hk e => ?_) hx06.size, hql, hb9, ?_, ?_, (hx06.trans hx8).trans' hx89 (fun i hi e => by omega), (hx16.trans hx8).trans' hx89 (fun i hi e => by omega)⟩)   -- MEET
        · have := own_new hcv k hk; omega
        · rw [hbt]; exact hparB
        · simp; omega
    · have hbt : bd = true := by simpa using hb
      have hk1 : k = 1 := by
        rw [hbd] at hbt
        have := of_decide_eq_true hbt
        apply UInt8.toNat_inj.1
        show k.toNat = 1
        omega
      rw [if_pos hk1] at hparB
      refine W.skip ?_
      refine N.th (N.meet [(0, _), (4, .slice sa K.length sc), (7, .pointer (some ⟨fb, 0, none⟩))] ⟨rfl, rfl, rfl, trivial⟩ ⟨.slice none 0 0, [], a4, c4, _, rfl, hf6, own_nil _ _ _ _, by simp, hb4, ?_, ?_, hx06, hx16⟩)   -- MEET
      · rw [hbt]; exact hparB
      · simp; omega
  · rintro E w7 ⟨bv, bl, a9, c9, b9, rfl, hf7, hbv, hbl, hb9, hpar9, hlt9, hx07, hx17⟩
    obtain ⟨ba, bc, rfl, -, -⟩ := own_slice hbv
    obtain ⟨y, hy⟩ : ∃ y : FE, y = (p, bd, .slice ba bl.length bc, bl) := ⟨_, rfl⟩
    have hf7' : w7.heap[fb]? = some (.cells (fcells y).toArray tF (0, 0)) := by rw [hf7, hy]; rfl
    have own7 := own_ext hown hx17 fun _ _ => id
    obtain ⟨hp1, hp2⟩ := fbuildS (x := y) (by rw [hy]; exact ⟨_, _, _, rfl⟩)
    have hK6 : K.length + 1 ≤ 500 := by have := hok.2.2; omega
    refine W.reg <| mv rfl rfl <| ldk (cs := fcells y) rfl ag_File sz_File rfl rfl (fun i u hi => row_cells hf7' i u hi) <|
      push1 (cs := (fcells y).toArray) rfl rfl rfl rfl hp1 el_files rfl hp2 own7 (by omega) (by simp only [maxLen]; omega) hx07.size fun v' w9 hown9 hx9 => ?_
    refine asg rfl rfl <| L.nil ?_
    refine N.inb ?_
    have hx79 : Ext none_ w w9 := hx07.own own7 hx9
    have hkb : ∀ {z : FE}, Byts w.heap.size w7 z.2.2.1 z.2.2.2 → Byts w.heap.size w9 z.2.2.1 z.2.2.2 := fun {z} hz => own_ext hz hx9 fun k hk hk2 => by
      obtain ⟨c1, f1, h1⟩ := own_kind hz k hk
      obtain ⟨c2, f2, h2⟩ := own_kind own7 k hk2
      rw [h1] at h2; cases h2
    refine N.th (N.round (x := (f, b9, a9, c9, K ++ [y], v')) ⟨rfl, rfl, trivial⟩ ⟨hb9, ?_, ?_, ?_, ?_, ?_, ?_, ?_, hx79⟩ (by dsimp only; omega))   -- ROUND
    · simp only [fm, List.map_append, hy]
      exact hpar9
    · dsimp only; simp at hf hlt9; omega
    · dsimp only; omega
    · dsimp only
      rw [fcells_snoc, List.length_append]; exact hown9
    · intro z hz
      rcases List.mem_append.1 hz with hz | hz
      · exact hkb (own_ext (hbs z hz) hx17 fun _ _ => id)
      · simp at hz
        rw [hz]
        refine hkb ?_
        rw [hy]; exact hbv
    · simp; omega
    · intro z hz
      rcases List.mem_append.1 hz with hz | hz
      · exact hKl z hz
      · simp at hz
        rw [hz, hy]; exact hbl
end Go.Proofs.YtmdpmpdlkaogdaaGreatDoor

namespace Go.Proofs.YtmdpmpdlkaogdaaGreatDoor.Vc
open Go Go.RowKit
variable {st : Sty} [Wy st] {P : Program} {ds : List Deferred} {n : Nat} {Q : Exit → Act → World → Prop} {E : Env} {w : World} {ops : Array Oper} {l : List Oper}
variable {d : Nat} {ty : TypeId} {pos : String} {af : Array Edge}
theorem encB_cell (l : List UInt8) : encB l = l.map Extern.Stop.cell := rfl
theorem run_eqGuard_arr (op : BinOp) (t : TypeId) (x y : Operand) (a b : Array Value) (w : World) (hg : P.eqGuardType P.depth t = false) : (eqGuard op t x y (.agg a) (.agg b)).run P w = .ok () w := by
  simp [eqGuard, program, Sem.run, hg]
theorem run_eqlA {t e : TypeId} {m : Nat} {a b : List UInt8} (w : World) (ht : P.underlying t = some (.array m e)) (he : P.underlying e = some (.int .u8)) (hs : szB P e = some 1) (ha : a.length = m) (hb : b.length = m) :
    (binOp .eql t (.agg (encB a).toArray) (.agg (encB b).toArray)).run P w = .ok (.bool (a == b)) w := run_eql_bytes w t e m ht he (fun _ => run_sizeOf hs) a b ha hb
theorem eqlA {x y : Operand} {t e yt : TypeId} {m : Nat} {a b : List UInt8} (hx : opd E x = some (.agg (encB a).toArray)) (hy : opd E y = some (.agg (encB b).toArray)) (ht : P.underlying t = some (.array m e)) (he : P.underlying e = some (.int .u8)) (hs : szB P e = some 1) (hg : P.eqGuardType P.depth t = false) (ha : a.length = m) (hb : b.length = m) (hd : Nat.blt d n = true)
    (k : LY st P ds n ops l Q ((d, .bool (a == b)) :: E) w) : LY st P ds n ops (⟨some d, .binOp .eql t x y yt, ty, pos, af, none⟩ :: l) Q E w :=
  binG hx hy (fun _ _ _ => run_eqGuard_arr _ _ _ _ _ _ _ hg) (fun w => run_eqlA w ht he hs ha hb) hd k
theorem neqA {x y : Operand} {t e yt : TypeId} {m : Nat} {a b : List UInt8} (hx : opd E x = some (.agg (encB a).toArray)) (hy : opd E y = some (.agg (encB b).toArray)) (ht : P.underlying t = some (.array m e)) (he : P.underlying e = some (.int .u8)) (hs : szB P e = some 1) (hg : P.eqGuardType P.depth t = false) (ha : a.length = m) (hb : b.length = m) (hd : Nat.blt d n = true)
    (k : LY st P ds n ops l Q ((d, .bool (!(a == b))) :: E) w) : LY st P ds n ops (⟨some d, .binOp .neq t x y yt, ty, pos, af, none⟩ :: l) Q E w :=
  binG hx hy (fun _ _ _ => run_eqGuard_arr _ _ _ _ _ _ _ hg) (fun w => by
    rw [run_neq_struct, encB_cell, encB_cell, run_equalIn_bytes w 9998 t e m ht he (fun _ => run_sizeOf hs) a b ha hb]; rfl) hd k
end Go.Proofs.YtmdpmpdlkaogdaaGreatDoor.Vc

namespace Go.Proofs.YtmdpmpdlkaogdaaGreatDoor
open Go Go.RowKit Vc
theorem eg_Key : P.eqGuardType P.depth 28 = false := by kernel_rfl
theorem sum_len (b : List UInt8) : (Sh.sum b).length = 32 := by simp [Sh.sum, Sh.dig_len]

theorem ok_Place : FnOk P 25 := ⟨_, Tryz.func25, by kernel_rfl, by kernel_rfl⟩
/-- Where a number falls. -/
def place (k : Int) (n : Nat) : Nat := (if k.tmod n < 0 then k.tmod n + n else k.tmod n).toNat
theorem place_lt (k : Int) {n : Nat} (hn : 0 < n) : place k n < n := by
  have h1 := Int.tmod_lt_of_pos k (show (0 : Int) < n by omega)
  unfold place
  split <;> omega
theorem place_int (k : Int) {n : Nat} (hn : 0 < n) : ((place k n : Nat) : Int) = if k.tmod n < 0 then k.tmod n + n else k.tmod n := by
  have h1 := Int.natAbs_tmod k n
  have h2 : (k.tmod n).natAbs < n := by rw [h1, Int.natAbs_natCast]; exact Nat.mod_lt _ hn
  unfold place
  split <;> omega
theorem c_Place (k : Int) {n : Nat} (hn : 0 < n) (hl : n ≤ 1000000000) (w : World) : Calls P 25 #[.int .i64 k, .int .i64 n] w fun e w' => e = .returned (.int .i64 (place k n)) ∧ w = w' := by
  have h1 := Int.natAbs_tmod k n
  have h2 : (k.tmod n).natAbs < n := by rw [h1, Int.natAbs_natCast]; exact Nat.mod_lt _ hn
  refine enter (l := [_, _]) (n := 14) Tryz.func25 rfl rfl rfl ?_
  refine W.seq ?_
  refine W.reg <| asg rfl rfl <| L.nil ?_
  refine N.th ?_
  refine W.seq ?_
  refine W.reg <| mv rfl rfl <| mv rfl rfl <| remI (c := k.tmod n) rfl rfl rfl (by omega) rfl <| asg rfl rfl <| L.nil ?_
  refine N.th ?_
  refine W.seqM (fun E' w' => E' = [(0, .int .i64 (place k n))] ∧ w' = w) ?_ ?_
  · refine W.seq ?_
    refine W.reg <| mv rfl rfl <| lssI rfl rfl rfl <| L.nil ?_
    refine N.th ?_
    refine W.cond rfl (fun h => ?_) (fun h => ?_)
    · have h3 := of_decide_eq_true h
      refine W.reg <| mv rfl rfl <| mv rfl rfl <| addI (c := ((place k n : Nat) : Int)) rfl rfl rfl (by rw [w64 (by omega) (by omega), place_int k hn, if_pos h3]) <| asg rfl rfl <| L.nil ?_
      exact N.th (N.meet [(0, _)] ⟨rfl, trivial⟩ ⟨rfl, rfl⟩)
    · have h3 := of_decide_eq_false h
      refine W.skip ?_
      refine N.th (N.meet [(0, .int .i64 (k.tmod n))] ⟨rfl, trivial⟩ ⟨?_, rfl⟩)
      rw [place_int k hn, if_neg h3]
  rintro E' w' ⟨rfl, rfl⟩
  refine W.seq ?_
  refine W.reg <| mv rfl rfl <| asg rfl rfl <| L.nil ?_
  refine N.th ?_
  refine W.ret ?_
  exact N.ret1 rfl rfl ⟨rfl, rfl⟩

namespace Kn13
def f1 : Tr.T := [([97, 47, 98], (false, [120]))]
def f2 : Tr.T := [([46, 46, 47, 97], (false, []))]
def k1 : Tr.T := [([97], (true, [])), ([97, 47, 98], (false, [120]))]
theorem o1 : Ar.opn (Ar.pk f1) = (some k1, 0) := by
  have h1 : Ar.par ((Ar.pk f1).length + 1) ((Ar.pk f1).drop 4) [] = (some f1, 0) := by kernel_rfl
  have h2 : Tr.of f1 = (some k1, 0) := by kernel_rfl
  have h3 : Tr.files k1 = k1 := List.mergeSort_of_pairwise (by decide)
  rw [Ar.opn_fin ⟨Nat.le_of_ble_eq_true (by kernel_rfl), by kernel_rfl⟩, h1]
  show (match Tr.of f1 with
    | (none, _) => ((none : Option Tr.T), (64 : Int))
    | (some m, _) => (some (Tr.files m), 0)) = _
  rw [h2]
  show (some (Tr.files k1), (0 : Int)) = _
  rw [h3]
theorem o2 : Ar.opn [80, 65, 75, 49] = (none, 64) := by kernel_rfl
theorem o3 : Ar.opn (Ar.pk f2) = (none, 51) := by kernel_rfl
end Kn13
theorem FilesA.one {w : World} {x : FE} {g : Nat} (hg : w.heap[g]? = some (.cells (fcells x).toArray tF (0, 0))) (hb : BytA w x.2.2.1 x.2.2.2) : FilesA w (.slice (some ⟨g, 0, none⟩) 1 1) [x] :=
  ⟨⟨_, 1, rfl, Nat.le_refl _, by simp [maxLen], (fun h => by cases h), fun j u hj => ⟨_, rfl, lt_of_obj hg, by rw [add_at]; exact cell_of hg (by simpa using hj)⟩⟩, by simp [hb]⟩
theorem FilesA.nil (w : World) : FilesA w (.slice none 0 0) [] := ⟨(Row.nil w tF 3).arg, by simp⟩
theorem FilesA.own {B : Nat} {w : World} {v : Value} {E : List FE} (h : w.ownsRow B tF 3 v E.length (E.flatMap fcells)) (hb : ∀ x ∈ E, Byts B w x.2.2.1 x.2.2.2) : FilesAt w v E := ⟨Row.own h, fun x hx => Row.own (hb x hx)⟩
theorem ok_known13 : FnOk P 16 := ⟨_, Tryz.func16, by kernel_rfl, by kernel_rfl⟩
theorem lit_arg {w : World} {g : Nat} {l : List UInt8} {f : Nat × Nat} (hg : w.heap[g]? = some (.cells (encB l).toArray tB f)) (hl : l.length ≤ 1000) : BytA w (.slice (some ⟨g, 0, none⟩) l.length l.length) l :=
  ⟨_, _, rfl, Nat.le_refl _, by simp only [maxLen]; omega, (fun h => by cases h), fun j u hj => ⟨_, rfl, lt_of_obj hg, by rw [add_at]; exact cell_of hg (by simpa using hj)⟩⟩

set_option maxHeartbeats 1000000 in
theorem c_known13 (w : World) : Calls P 16 #[] w fun e w' => e = .returned (.bool true) ∧ Ext none_ w w' := by
  refine enter (l := []) (n := 71) Tryz.func16 rfl rfl rfl ?_
  refine W.seq ?_
  refine W.reg <| asg rfl rfl <| L.nil ?_
  refine N.th ?_
  refine W.seq ?_
  refine W.reg <| bls (vs := #[(0, .int .u8 120)]) (cs := #[.int .u8 120]) (e := tB) rfl rfl (fun _ => by kernel_rfl) <| cvtBB rfl u_bytes u_u8 rfl (heap_new _ _) trivial fun w1 hg1 hx1 => ⟨trivial, ?_⟩
  have hx01 : Ext none_ w w1 := (Ext.alloc none_ _ _).trans' hx1 fun i hi e => by omega
  have hb1 : BytA w1 (.slice (some ⟨w.heap.size, 0, none⟩) 1 1) [120] := lit_arg (l := [120]) hg1 (by simp)
  refine bld (vs := #[(0, .string (S [97, 47, 98])), (2, .slice (some ⟨w.heap.size, 0, none⟩) 1 1)]) (v := .agg (fcells ([97, 47, 98], false, .slice (some ⟨w.heap.size, 0, none⟩) 1 1, [120])).toArray) rfl rfl (fun _ => by kernel_rfl) <|
    bls (vs := #[(0, .agg (fcells ([97, 47, 98], false, .slice (some ⟨w.heap.size, 0, none⟩) 1 1, [120])).toArray)]) (cs := (fcells ([97, 47, 98], false, .slice (some ⟨w.heap.size, 0, none⟩) 1 1, [120])).toArray) (e := tF) rfl rfl (fbuildS ⟨_, _, _, rfl⟩).1 ?_
  have hx2 : Ext none_ w1 (w1.alloc (.cells (fcells ([97, 47, 98], false, .slice (some ⟨w.heap.size, 0, none⟩) 1 1, [120])).toArray tF)) := Ext.alloc _ _ _
  have hF2 := FilesA.one (x := ([97, 47, 98], false, .slice (some ⟨w.heap.size, 0, none⟩) 1 1, [120])) (heap_new w1 (.cells (fcells ([97, 47, 98], false, .slice (some ⟨w.heap.size, 0, none⟩) 1 1, [120])).toArray tF)) (hb1.ext0 hx2)
  generalize w1.alloc _ = w2 at hx2 hF2 ⊢
  refine call (vs := [_]) rfl rfl ok_Pack (c_Pack hF2 (by simp) (Nat.le_of_ble_eq_true (by kernel_rfl)) (by simp)) ?_
  rintro e w3 ⟨v3, rfl, hp3, hx3⟩
  refine ⟨_, rfl, ?_⟩
  refine asg rfl rfl <| L.nil ?_
  refine N.th ?_
  have hp3' : Byts w2.heap.size w3 v3 (Ar.pk Kn13.f1) := hp3
  refine W.seq ?_
  refine W.reg <| mv rfl rfl <| call (vs := [_]) rfl rfl ok_AOpen (c_AOpen (Row.own hp3').arg (Nat.le_of_ble_eq_true (by kernel_rfl))) ?_
  rintro e w4 ⟨hx4, -, hs4⟩
  obtain ⟨v4, E4, rfl, hown4, hb4, hE4⟩ := hs4 Kn13.k1 (by rw [Kn13.o1])
  have hF4 := FilesA.own hown4 hb4
  refine ⟨_, rfl, ?_⟩
  refine mv rfl rfl <| ext rfl rfl rfl <| ext (v := .int .i64 0) rfl rfl rfl <| asg rfl rfl <| asg rfl rfl <| L.nil ?_
  refine N.th ?_
  refine W.seq ?_
  refine W.reg <| bls (vs := #[(0, .int .u8 80), (1, .int .u8 65), (2, .int .u8 75), (3, .int .u8 49)]) (cs := #[.int .u8 80, .int .u8 65, .int .u8 75, .int .u8 49]) (e := tB) rfl rfl (fun _ => by kernel_rfl) <| cvtBB rfl u_bytes u_u8 rfl (heap_new _ _) trivial fun w5 hg5 hx5 => ⟨trivial, ?_⟩
  have hx45 : Ext none_ w4 w5 := (Ext.alloc none_ _ _).trans' hx5 fun i hi e => by omega
  have hb5 : BytA w5 (.slice (some ⟨w4.heap.size, 0, none⟩) 4 4) [80, 65, 75, 49] := lit_arg (l := [80, 65, 75, 49]) hg5 (by simp)
  refine call (vs := [_]) rfl rfl ok_AOpen (c_AOpen hb5 (by simp)) ?_
  rintro e w6 ⟨hx6, hn6, -⟩
  rw [Kn13.o2] at hn6
  rw [hn6 rfl]
  refine ⟨_, rfl, ?_⟩
  refine mv rfl rfl <| ext rfl rfl rfl <| ext (v := .int .i64 64) rfl rfl rfl <| asg rfl rfl <| asg rfl rfl <| L.nil ?_
  refine N.th ?_
  refine W.seq ?_
  refine W.reg <| bld (vs := #[(0, .string (S [46, 46, 47, 97]))]) (v := .agg (fcells ([46, 46, 47, 97], false, .slice none 0 0, [])).toArray) rfl rfl (fun _ => by kernel_rfl) <|
    bls (vs := #[(0, .agg (fcells ([46, 46, 47, 97], false, .slice none 0 0, [])).toArray)]) (cs := (fcells ([46, 46, 47, 97], false, .slice none 0 0, [])).toArray) (e := tF) rfl rfl (fbuildS ⟨_, _, _, rfl⟩).1 ?_
  have hx7 : Ext none_ w6 (w6.alloc (.cells (fcells ([46, 46, 47, 97], false, .slice none 0 0, [])).toArray tF)) := Ext.alloc _ _ _
  have hF7 := FilesA.one (x := ([46, 46, 47, 97], false, .slice none 0 0, [])) (heap_new w6 (.cells (fcells ([46, 46, 47, 97], false, .slice none 0 0, [])).toArray tF)) (Row.nil _ tB 1).arg
  generalize w6.alloc _ = w7 at hx7 hF7 ⊢
  refine call (vs := [_]) rfl rfl ok_Pack (c_Pack hF7 (by simp) (Nat.le_of_ble_eq_true (by kernel_rfl)) (by simp)) ?_
  rintro e w8 ⟨v8, rfl, hp8, hx8⟩
  refine ⟨_, rfl, ?_⟩
  have hp8' : Byts w7.heap.size w8 v8 (Ar.pk Kn13.f2) := hp8
  refine call (vs := [_]) rfl rfl ok_AOpen (c_AOpen (Row.own hp8').arg (Nat.le_of_ble_eq_true (by kernel_rfl))) ?_
  rintro e w9 ⟨hx9, hn9, -⟩
  rw [Kn13.o3] at hn9
  rw [hn9 rfl]
  refine ⟨_, rfl, ?_⟩
  refine mv rfl rfl <| ext rfl rfl rfl <| ext (v := .int .i64 51) rfl rfl rfl <| asg rfl rfl <| asg rfl rfl <| L.nil ?_
  refine N.th ?_
  refine W.seq ?_
  refine W.reg <| call (vs := [_]) rfl rfl ok_Pack (c_Pack (FilesA.nil w9) (by simp) (by simp [Ar.ents]) (by simp)) ?_
  rintro e w10 ⟨v10, rfl, hp10, hx10⟩
  refine ⟨_, rfl, ?_⟩
  have hp10' : Byts w9.heap.size w10 v10 [80, 65, 75, 49, 255] := hp10
  have hF10 : FilesA w10 v4 E4 := (((((hF4.arg.ext0 hx45).ext0 hx6).ext0 hx7).ext0 hx8).ext0 hx9).ext0 hx10
  have hEl : E4.length = 2 := by have := congrArg List.length hE4; simpa [Kn13.k1] using this
  obtain ⟨x, y, rfl⟩ := two_of hEl
  obtain ⟨px, py⟩ : fnd x = ([97], (true, [])) ∧ fnd y = ([97, 47, 98], (false, [120])) := by
    simp [Kn13.k1] at hE4
    exact hE4
  obtain ⟨gb, go, gc, rfl, -, hcell⟩ := hF10.plain (x0 := x) (by simp)
  obtain ⟨hc0, hc1, hc2⟩ := hcell 1 y rfl
  have hy1 : y.1 = [97, 47, 98] := congrArg Prod.fst py
  have hy2 : y.2.2.2 = [120] := congrArg (·.2.2) py
  have hyb := hF10.bytes y (by simp)
  rw [hy1] at hc0
  rw [hy2] at hyb
  refine cvtBS (a := [80, 65, 75, 49, 255]) rfl u_bytes u_u8 u_str rfl (Kn.here (Row.own hp10')) ?_
  refine eqlS (b := [80, 65, 75, 49, 255]) rfl rfl rfl ?_
  (repeat (first | refine mv rfl rfl ?_ | refine asg rfl rfl ?_ | refine L.off rfl rfl rfl rfl rfl ?_ | refine L.offU rfl rfl rfl rfl ?_ | refine L.on rfl rfl rfl ?_ | refine pickT rfl rfl rfl ?_ | refine pickF rfl rfl rfl ?_ | refine ext rfl rfl rfl ?_ | refine nilc rfl rfl ?_ | refine lenV (t := 46) rfl u_strs rfl ?_ | refine lenV (t := 25) rfl u_bytes rfl ?_ | refine lenV (t := 22) rfl u_files rfl ?_ | refine lenS (t := 9) rfl u_str rfl ?_ | refine eqlI rfl rfl rfl ?_ | refine neqI rfl rfl rfl ?_ | refine lssI rfl rfl rfl ?_ | refine leqI rfl rfl rfl ?_ | refine gtrI rfl rfl rfl ?_ | refine geqI rfl rfl rfl ?_))
  refine ixa rfl rfl u_files sz_File rfl (by decide) (by simp) <| L.on rfl rfl rfl <| fad rfl fl_File_0 rfl <| L.on rfl rfl rfl <| ld1 rfl ag_str rfl hc0 <| L.on rfl rfl rfl <| eqlS (b := [97, 47, 98]) rfl rfl rfl ?_
  (repeat (first | refine mv rfl rfl ?_ | refine asg rfl rfl ?_ | refine L.off rfl rfl rfl rfl rfl ?_ | refine L.offU rfl rfl rfl rfl ?_ | refine L.on rfl rfl rfl ?_ | refine pickT rfl rfl rfl ?_ | refine pickF rfl rfl rfl ?_ | refine ext rfl rfl rfl ?_ | refine nilc rfl rfl ?_ | refine lenV (t := 46) rfl u_strs rfl ?_ | refine lenV (t := 25) rfl u_bytes rfl ?_ | refine lenV (t := 22) rfl u_files rfl ?_ | refine lenS (t := 9) rfl u_str rfl ?_ | refine eqlI rfl rfl rfl ?_ | refine neqI rfl rfl rfl ?_ | refine lssI rfl rfl rfl ?_ | refine leqI rfl rfl rfl ?_ | refine gtrI rfl rfl rfl ?_ | refine geqI rfl rfl rfl ?_))
  refine ixa rfl rfl u_files sz_File rfl (by decide) (by simp) <| L.on rfl rfl rfl <| fad rfl fl_File_2 rfl <| L.on rfl rfl rfl <| ld1 rfl ag_bytes rfl hc2 <| L.on rfl rfl rfl <| cvtBA (a := [120]) rfl u_bytes u_u8 u_str rfl (Kn.here hyb) <| L.on rfl rfl rfl <| eqlS (b := [120]) rfl rfl rfl ?_
  (repeat (first | refine mv rfl rfl ?_ | refine asg rfl rfl ?_ | refine L.off rfl rfl rfl rfl rfl ?_ | refine L.offU rfl rfl rfl rfl ?_ | refine L.on rfl rfl rfl ?_ | refine pickT rfl rfl rfl ?_ | refine pickF rfl rfl rfl ?_ | refine ext rfl rfl rfl ?_ | refine nilc rfl rfl ?_ | refine lenV (t := 46) rfl u_strs rfl ?_ | refine lenV (t := 25) rfl u_bytes rfl ?_ | refine lenV (t := 22) rfl u_files rfl ?_ | refine lenS (t := 9) rfl u_str rfl ?_ | refine eqlI rfl rfl rfl ?_ | refine neqI rfl rfl rfl ?_ | refine lssI rfl rfl rfl ?_ | refine leqI rfl rfl rfl ?_ | refine gtrI rfl rfl rfl ?_ | refine geqI rfl rfl rfl ?_))
  refine call (vs := [_]) rfl rfl ok_Digest (c_Digest (b := []) (Row.nil w10 tB 1).arg (by simp)) ?_
  rintro e w11 ⟨rfl, hx11⟩
  refine ⟨_, rfl, ?_⟩
  refine L.on rfl rfl rfl <| call (vs := [_]) rfl rfl ok_r1Of (c_r1Of (vs := []) (Row.nil w11 25 1).arg (by simp) (by simp [total]) (by simp)) ?_
  rintro e w12 ⟨rfl, hx12⟩
  refine ⟨_, rfl, ?_⟩
  refine L.on rfl rfl rfl <| eqlA rfl rfl u_Key u_u8 el_bytes.szB eg_Key (sum_len _) (sum_len _) rfl ?_
  (repeat (first | refine mv rfl rfl ?_ | refine asg rfl rfl ?_ | refine L.off rfl rfl rfl rfl rfl ?_ | refine L.offU rfl rfl rfl rfl ?_ | refine L.on rfl rfl rfl ?_ | refine pickT rfl rfl rfl ?_ | refine pickF rfl rfl rfl ?_ | refine ext rfl rfl rfl ?_ | refine nilc rfl rfl ?_ | refine lenV (t := 46) rfl u_strs rfl ?_ | refine lenV (t := 25) rfl u_bytes rfl ?_ | refine lenV (t := 22) rfl u_files rfl ?_ | refine lenS (t := 9) rfl u_str rfl ?_ | refine eqlI rfl rfl rfl ?_ | refine neqI rfl rfl rfl ?_ | refine lssI rfl rfl rfl ?_ | refine leqI rfl rfl rfl ?_ | refine gtrI rfl rfl rfl ?_ | refine geqI rfl rfl rfl ?_))
  refine L.nil ?_
  refine N.th ?_
  refine W.ret ?_
  refine N.ret1 rfl rfl ⟨?_, ?_⟩   -- RETURN
  · simp [total]
  · exact ((((((((hx01.trans hx2).trans hx3).trans hx4).trans hx45).trans hx6).trans hx7).trans hx8).trans hx9).trans (hx10.trans (hx11.trans hx12))
end Go.Proofs.YtmdpmpdlkaogdaaGreatDoor

namespace Go.Proofs.YtmdpmpdlkaogdaaGreatDoor.Vc
open Go Go.RowKit

section held
variable {P : Program} {ops : Array Oper} {Q : Exit → Act → World → Prop} {S T : World → Prop} {x : Bool}
theorem wpAnyG_mono (h : ∀ w, S w → T w) : ∀ (fuel : Nat) (listed : Array Bool) (a : Act) (w : World), wpAnyG x P ops Q S fuel listed a w → wpAnyG x P ops Q T fuel listed a w
  | 0, _, _, _, k => k
  | fuel + 1, _, _, _, k => ⟨k.1, fun i hi => wpOp_mono (fun a' w' k' => ⟨k'.1.imp (h w') id, wpAnyG_mono h fuel _ a' w' k'.2⟩) (k.2 i hi)⟩
end held

/-- From here on more is known of all worlds. -/
def nextQ (ts : List Nat) (T : World → Prop) (P : Program) (ops : Array Oper) (Q : Exit → Act → World → Prop) (l : List Oper) : Exit → Act → World → Prop
  | .normal, a, w => ∃ S : World → Prop, (∀ w, S w → T w) ∧ S w ∧ wpHeld ts false S P ops Q l a w
  | e, a, w => Q e a w
/-- What is to be shown where two ways part. -/
def forkQ (ts : List Nat) (T : World → Prop) (P : Program) (ops : Array Oper) (Q : Exit → Act → World → Prop) (u1 l1 u2 l2 : List Oper) : Exit → Act → World → Prop
  | .normal, a, w => wpHeld ts false T P ops (nextQ ts T P ops Q l1) u1 a w ∧ wpHeld ts false T P ops (nextQ ts T P ops Q l2) u2 a w
  | e, a, w => Q e a w
/-- Some alone, then all others. -/
def contB (ts : List Nat) (ops : List Oper) (s : List Nat) : List Nat → Array Bool → Bool
  | [], listed => schedB ts false ops s listed
  | i :: r, listed => decide (i < ops.length) && !rdB ts (nth ops i) && decide (Region.ready .any ops.toArray listed = [i]) && contB ts ops s r (listed.setIfInBounds i true)
/-- Readers, then two that part. -/
def forkB (ts : List Nat) (ops : List Oper) (s1 s2 : List Nat) : List Nat → List Nat → List Nat → Array Bool → Bool
  | [], i :: r, j :: t, listed => decide (i < ops.length) && decide (j < ops.length) && !rdB ts (nth ops i) && !rdB ts (nth ops j) && decide (Region.ready .any ops.toArray listed = [i, j]) && contB ts ops s1 r (listed.setIfInBounds i true) && contB ts ops s2 t (listed.setIfInBounds j true) && Nat.beq (r.length + s1.length) (t.length + s2.length)
  | k :: s, u1, u2, listed => decide (k < ops.length) && rdB ts (nth ops k) && (Region.ready .any ops.toArray listed).contains k && Region.free .any ops.toArray listed k && forkB ts ops s1 s2 s u1 u2 (listed.setIfInBounds k true)
  | _, _, _, _ => false

section held
variable {P : Program} {Q : Exit → Act → World → Prop} {T : World → Prop}
theorem wp_exits {o : Oper} {a : Act} {w : World} {K K' : Act → World → Prop} {Q1 Q2 : Exit → Act → World → Prop} (h : ∀ a w, K a w → K' a w) (hq : ∀ e a w, Q1 e a w → e ≠ .normal → Q2 e a w) (hh : o.wp P a w K Q1) : o.wp P a w K' Q2 := by
  have hp : ∀ c a w, Q1 (.panic c) a w → Q2 (.panic c) a w := fun c a w k => hq _ a w k (by simp)
  have hl : LetsOut Q1 → LetsOut Q2 := fun ⟨a, w, k⟩ => ⟨a, w, hq _ a w k (by simp)⟩
  unfold Oper.wp at *
  generalize (execOp a.eval o).run P w = r at *
  cases r with
  | ok n w' =>
    cases n <;> simp only [Oper.upon] at hh ⊢ <;>
      first
        | exact h _ _ hh
        | exact Calls.mono hh (fun e w'' he => by cases e <;> first | exact h _ _ he | exact hp _ _ _ he | exact hl he | exact he)
        | exact Rows.mono hh (fun _ _ he => h _ _ he)
  | halt x w' => cases x <;> simp only [Oper.upon] at hh ⊢ <;> first | exact hp _ _ _ hh | exact hh
theorem nextQ_panic {ts : List Nat} {ops : Array Oper} {l : List Oper} : ∀ e a w, noPanic (nextQ ts T P ops Q l) e a w → e ≠ .normal → noPanic Q e a w := by
  intro e a w h hn
  cases e <;> first | exact h | exact absurd rfl hn
theorem G_one {K : Exit → Act → World → Prop} {ts : List Nat} {ops : List Oper} {i : Nat} {l : List Oper} {fuel : Nat} {listed : Array Bool} {a : Act} {w : World} (hil : i < ops.length) (hrd : rdB ts (nth ops i) = false)
    (hK : ∀ e a w, noPanic K e a w → e ≠ .normal → noPanic Q e a w)
    (hG : ∀ a' w', wpHeld ts false T P ops.toArray K l a' w' → wpAnyG false P ops.toArray (noPanic Q) T fuel (listed.setIfInBounds i true) a' w') (h : wpHeld ts false T P ops.toArray K (nth ops i :: l) a w) :
    wpOp P ops.toArray (noPanic Q) i (fun a' w' => (T w' ∨ (false = true ∧ i + 1 = ops.toArray.size)) ∧ wpAnyG false P ops.toArray (noPanic Q) T fuel (listed.setIfInBounds i true) a' w') a w := by
  have h0 : ops.toArray[i]? = some (nth ops i) := by simpa using nth_get hil
  simp only [wpHeld] at h
  rcases h with ⟨hr2, -⟩ | ⟨-, h⟩
  · rw [hrd] at hr2; cases hr2
  unfold wpOp
  simp only [h0]
  have hc : ∀ w', (T w' ∨ (false = true ∧ l = [])) → (T w' ∨ (false = true ∧ i + 1 = ops.toArray.size)) := fun w' k => k.elim (fun k => .inl k) fun k => absurd k.1 (by decide)
  by_cases hw : Region.wanted (nth ops i) (yielded ops.toArray a.tmps) = true
  · rw [if_pos hw] at h ⊢
    exact .inl (wp_exits (fun a' w' h' => ⟨hc _ h'.1, hG a' w' h'.2⟩) hK h)
  · rw [if_neg hw] at h ⊢
    exact ⟨hc _ h.1, hG _ _ h.2⟩

theorem G_cont {ts : List Nat} {ops : List Oper} {s : List Nat} (hsel : Region.noSelect ops.toArray = true) : ∀ (u : List Nat) (listed : Array Bool) (a : Act) (w : World), Lasts false ops.toArray listed → contB ts ops s u listed = true →
    wpHeld ts false T P ops.toArray (nextQ ts T P ops.toArray Q (pickL s ops)) (pickL u ops) a w → wpAnyG false P ops.toArray (noPanic Q) T (u.length + s.length) listed a w
  | [], listed, a, w, inv, hB, h => by
    obtain ⟨S, h1, h2, h3⟩ : ∃ S : World → Prop, (∀ w, S w → T w) ∧ S w ∧ wpHeld ts false S P ops.toArray Q (pickL s ops) a w := h
    rw [show ([] : List Nat).length + s.length = s.length by simp]
    exact wpAnyG_mono h1 _ _ _ _ (G_of_held hsel s listed a w inv hB h3)
  | i :: r, listed, a, w, inv, hB, h => by
    simp only [contB, Bool.and_eq_true, decide_eq_true_eq, Bool.not_eq_true'] at hB
    obtain ⟨⟨⟨hi, hri⟩, hready⟩, hB⟩ := hB
    have hi' : i ∈ Region.ready .any ops.toArray listed := by rw [hready]; simp
    rw [show (i :: r).length + s.length = r.length + s.length + 1 by simp; omega]
    refine ⟨fun k => (by rw [hready] at k; cases k), fun k hk => ?_⟩
    rw [hready] at hk
    simp only [List.mem_cons, List.not_mem_nil, or_false] at hk
    subst hk
    exact G_one hi hri nextQ_panic (fun a' w' k => G_cont hsel r _ a' w' (inv.set hi') hB k) h

theorem G_of_fork {ts : List Nat} {ops : List Oper} {s1 s2 u1 u2 : List Nat} (hsel : Region.noSelect ops.toArray = true) : ∀ (s : List Nat) (listed : Array Bool) (a : Act) (w : World), Lasts false ops.toArray listed → forkB ts ops s1 s2 s u1 u2 listed = true →
    wpHeld ts false T P ops.toArray (forkQ ts T P ops.toArray Q (pickL u1 ops) (pickL s1 ops) (pickL u2 ops) (pickL s2 ops)) (pickL s ops) a w → wpAnyG false P ops.toArray (noPanic Q) T (s.length + (u1.length + s1.length)) listed a w
  | [], listed, a, w, inv, hB, h => by
    match u1, u2, hB with
    | i :: r, j :: t, hB =>
      simp only [forkB, Bool.and_eq_true, decide_eq_true_eq, Bool.not_eq_true'] at hB
      obtain ⟨⟨⟨⟨⟨⟨⟨hi, hj⟩, hri⟩, hrj⟩, hready⟩, hBi⟩, hBj⟩, hl⟩ := hB
      have hl := Nat.eq_of_beq_eq_true hl
      obtain ⟨k1, k2⟩ : wpHeld ts false T P ops.toArray (nextQ ts T P ops.toArray Q (pickL s1 ops)) (pickL (i :: r) ops) a w ∧ wpHeld ts false T P ops.toArray (nextQ ts T P ops.toArray Q (pickL s2 ops)) (pickL (j :: t) ops) a w := h
      have hi' : i ∈ Region.ready .any ops.toArray listed := by rw [hready]; simp
      have hj' : j ∈ Region.ready .any ops.toArray listed := by rw [hready]; simp
      rw [show ([] : List Nat).length + ((i :: r).length + s1.length) = r.length + s1.length + 1 by simp; omega]
      refine ⟨fun k => (by rw [hready] at k; cases k), fun k hk => ?_⟩
      rw [hready] at hk
      simp only [List.mem_cons, List.not_mem_nil, or_false] at hk
      rcases hk with rfl | rfl
      · exact G_one hi hri nextQ_panic (fun a' w' q => G_cont hsel r _ a' w' (inv.set hi') hBi q) k1
      · rw [hl]
        exact G_one hj hrj nextQ_panic (fun a' w' q => G_cont hsel t _ a' w' (inv.set hj') hBj q) k2
  | k :: s, listed, a, w, inv, hB, h => by
    have hB' : (decide (k < ops.length) && rdB ts (nth ops k) && (Region.ready .any ops.toArray listed).contains k && Region.free .any ops.toArray listed k && forkB ts ops s1 s2 s u1 u2 (listed.setIfInBounds k true)) = true := by
      rcases u1 with _ | ⟨i, r⟩ <;> rcases u2 with _ | ⟨j, t⟩ <;> exact hB
    simp only [Bool.and_eq_true, decide_eq_true_eq] at hB'
    obtain ⟨⟨⟨⟨hil, hrd⟩, hr⟩, hf⟩, hB2⟩ := hB'
    have h0 : ops.toArray[k]? = some (nth ops k) := by simpa using nth_get hil
    simp only [pickL, wpHeld] at h
    rcases h with ⟨-, hS, v, hy, h⟩ | ⟨hrd', -⟩
    · have hr' : k ∈ Region.ready .any ops.toArray listed := by simpa using hr
      have := G_first (Q := noPanic Q) (x := false) h0 (Region.noSelect_spec hsel) (fun _ _ _ h => h) (fun h => by cases h) (s.length + (u1.length + s1.length)) listed a w inv (Region.free_spec h0 hf) hr' hy hS
        (G_of_fork hsel s _ _ _ (inv.set hr') hB2 h)
      rw [show (k :: s).length + (u1.length + s1.length) = s.length + (u1.length + s1.length) + 1 by simp; omega]
      exact this
    · rw [hrd] at hrd'; cases hrd'

/-- A region whose order is open, with two that write: readers, then u1 and s1, or u2 and s2. -/
theorem W.draw2 {ds : List Deferred} {n mm id : Nat} {l : List Oper} {E : Env} {w : World} (ts : List Nat) (T : World → Prop) (s u1 s1 u2 s2 : List Nat) (hm : P.follows .mixedOrders = true) (hs : Nat.beq (s.length + (u1.length + s1.length)) l.length = true) (hsel : Region.noSelect l.toArray = true) (hB : forkB ts l s1 s2 s u1 u2 (Array.replicate l.length false) = true) (hS : T w.drew)
    (h : LY (.held ts false T) P ds n l.toArray (pickL s l) (forkQ ts T P l.toArray Q (pickL u1 l) (pickL s1 l) (pickL u2 l) (pickL s2 l)) E w.drew) : W Fence.wide mm P ds n (.region id l.toArray true) Q E w := fun a ha => by
  have hlen := Nat.eq_of_beq_eq_true hs
  refine wpIn_wide.2 (wp_mono (Q := noPanic Q) (wp_region_any hm ?_) fun e a w q => by cases e <;> first | exact q | exact q.elim)
  have inv : Lasts false l.toArray (Array.replicate l.length false) := ⟨fun hx => (by cases hx), by simp, fun j oj _ hl => by rw [getD_replicate_false] at hl; cases hl⟩
  have H := G_of_fork hsel s _ a w.drew inv hB (h a ha (.inl hS))
  have := wpAny_of_G _ _ _ _ H
  rw [hlen] at this
  simpa using this
theorem L.forkH {ds : List Deferred} {n : Nat} {E : Env} {w : World} {ts : List Nat} {ops : Array Oper} {u1 u2 l1 l2 : List Oper} (k1 : LY (.held ts false T) P ds n ops u1 (nextQ ts T P ops Q l1) E w) (k2 : LY (.held ts false T) P ds n ops u2 (nextQ ts T P ops Q l2) E w) : LY (.held ts false T) P ds n ops [] (forkQ ts T P ops Q u1 l1 u2 l2) E w :=
  fun a ha hS => ⟨k1 a ha (.inl (hS.elim id fun k => absurd k.1 (by decide))), k2 a ha (.inl (hS.elim id fun k => absurd k.1 (by decide)))⟩
theorem L.nextH {ds : List Deferred} {n : Nat} {E : Env} {w : World} {ts : List Nat} {ops : Array Oper} {l : List Oper} (S : World → Prop) (hST : ∀ w, S w → T w) (hS : S w) (k : LY (.held ts false S) P ds n ops l Q E w) : LY (.held ts false T) P ds n ops [] (nextQ ts T P ops Q l) E w :=
  fun a ha _ => ⟨S, hST, hS, k a ha (.inl hS)⟩
end held

section ops
variable {st : Sty} [Wy st] {P : Program} {ds : List Deferred} {n : Nat} {Q : Exit → Act → World → Prop} {E : Env} {w : World} {ops : Array Oper} {l : List Oper}
variable {d : Nat} {ty : TypeId} {pos : String} {af : Array Edge}
/-- Zeros. -/
theorem mks {t e : TypeId} {x y : Operand} {κ κ' : IntKind} {k : Nat} (hx : opd E x = some (.int κ k)) (hy : opd E y = some (.int κ' k)) (ht : ElT P t e (.int .u8 0) 1 1) (hd : Nat.blt d n = true) (hk : k ≤ 16777216)
    (kk : ∀ w', w'.ownsRow w.heap.size e 1 (.slice (some ⟨w.heap.size, 0, none⟩) k k) k (encB (List.replicate k 0)) → Ext none_ w w' → w'.heap.size = w.heap.size + 1 → st.keeps l w w' ∧ LY st P ds n ops l Q ((d, .slice (some ⟨w.heap.size, 0, none⟩) k k) :: E) w') : LY st P ds n ops (⟨some d, .makeSlice t x y, ty, pos, af, none⟩ :: l) Q E w := by
  obtain ⟨i, hi, hz, hsz, hby⟩ := ht.info
  obtain ⟨w', hr, ho, hg⟩ := run_makeSlice_full (P := P) (w := w) w.heap.size t e i (.int .u8 0) 1 ht.u hi hz hsz κ κ' k (by omega) (by rw [hby]; omega) (by simp [maxLen]; omega) (Nat.le_refl _)
  have hm : (madeCells (Value.int .u8 0).cells (k * 1)).toList = encB (List.replicate k 0) := by
    rw [encB, List.map_replicate]
    refine List.eq_replicate_iff.2 ⟨by simp [size_madeCells], fun u hu => ?_⟩
    simp only [madeCells, Array.toList_map, List.mem_map] at hu
    obtain ⟨i, -, rfl⟩ := hu
    simp [Value.cells, Nat.mod_one]
  rw [hm] at ho
  have hr2 := run_makeSlice (P := P) (w := w) t e i (.int .u8 0) ht.u hi hz κ κ' k k (by omega) (by omega) (by rw [hsz]; omega) (by rw [hby]; omega) (by omega)
  rw [hr] at hr2
  have hw' : w'.heap.size = w.heap.size + 1 := by
    injection hr2 with _ h2
    rw [h2]; simp
  obtain ⟨hs, kk⟩ := kk w' ho ((Ext.grown hg).mono fun _ _ h => by cases h) hw'
  exact LY.val _ w' hd (fun ac ha => by simp [execOp, opd_eval ha hx, opd_eval ha hy, hr]) kk (fun _ _ _ _ => rfl) hs
end ops
end Go.Proofs.YtmdpmpdlkaogdaaGreatDoor.Vc

namespace Go.Proofs.YtmdpmpdlkaogdaaGreatDoor.Vc
open Go Go.RowKit
section held
variable {P : Program} {Q : Exit → Act → World → Prop} {S T : World → Prop}
/-- Readers and some that come alone, then what is to come. -/
def prefB (ts : List Nat) (ops : List Oper) (kB : Array Bool → Bool) : List Nat → Array Bool → Bool
  | [], listed => kB listed
  | i :: r, listed => decide (i < ops.length) && (if rdB ts (nth ops i) then (Region.ready .any ops.toArray listed).contains i && Region.free .any ops.toArray listed i else decide (Region.ready .any ops.toArray listed = [i])) && prefB ts ops kB r (listed.setIfInBounds i true)
theorem G_pref {K : Exit → Act → World → Prop} {ts : List Nat} {ops : List Oper} {kB : Array Bool → Bool} {fuel : Nat} (hsel : Region.noSelect ops.toArray = true) (hK : ∀ e a w, noPanic K e a w → e ≠ .normal → noPanic Q e a w)
    (hend : ∀ listed a w, Lasts false ops.toArray listed → kB listed = true → K .normal a w → wpAnyG false P ops.toArray (noPanic Q) S fuel listed a w) :
    ∀ (s : List Nat) (listed : Array Bool) (a : Act) (w : World), Lasts false ops.toArray listed → prefB ts ops kB s listed = true → wpHeld ts false S P ops.toArray K (pickL s ops) a w → wpAnyG false P ops.toArray (noPanic Q) S (s.length + fuel) listed a w
  | [], listed, a, w, inv, hB, h => by
    rw [show ([] : List Nat).length + fuel = fuel by simp]
    exact hend listed a w inv hB h
  | k :: s, listed, a, w, inv, hB, h => by
    simp only [prefB, Bool.and_eq_true, decide_eq_true_eq] at hB
    obtain ⟨⟨hil, hB1⟩, hB2⟩ := hB
    have h0 : ops.toArray[k]? = some (nth ops k) := by simpa using nth_get hil
    rw [show (k :: s).length + fuel = s.length + fuel + 1 by simp; omega]
    cases hrd : rdB ts (nth ops k) with
    | true =>
      rw [if_pos hrd] at hB1
      simp only [Bool.and_eq_true] at hB1
      obtain ⟨hr, hf⟩ := hB1
      simp only [pickL, wpHeld] at h
      rcases h with ⟨-, hS, v, hy, h⟩ | ⟨hrd', -⟩
      · have hr' : k ∈ Region.ready .any ops.toArray listed := by simpa using hr
        exact G_first (Q := noPanic Q) (x := false) h0 (Region.noSelect_spec hsel) (fun _ _ _ h => h) (fun h => by cases h) (s.length + fuel) listed a w inv (Region.free_spec h0 hf) hr' hy hS
          (G_pref hsel hK hend s _ _ _ (inv.set hr') hB2 h)
      · rw [hrd] at hrd'; cases hrd'
    | false =>
      rw [if_neg (by rw [hrd]; decide)] at hB1
      simp only [decide_eq_true_eq] at hB1
      have hk' : k ∈ Region.ready .any ops.toArray listed := by rw [hB1]; simp
      refine ⟨fun q => (by rw [hB1] at q; cases q), fun q hq => ?_⟩
      rw [hB1] at hq
      simp only [List.mem_cons, List.not_mem_nil, or_false] at hq
      subst hq
      exact G_one hil hrd hK (fun a' w' q' => G_pref hsel hK hend s _ a' w' (inv.set hk') hB2 q') h
/-- From here on more is known of all worlds. -/
def segQ (ts : List Nat) (T : World → Prop) (P : Program) (ops : Array Oper) (Q : Exit → Act → World → Prop) (K : (World → Prop) → Exit → Act → World → Prop) (l : List Oper) : Exit → Act → World → Prop
  | .normal, a, w => ∃ S : World → Prop, (∀ w, S w → T w) ∧ S w ∧ wpHeld ts false S P ops (K S) l a w
  | e, a, w => Q e a w
theorem segQ_panic {ts : List Nat} {ops : Array Oper} {l : List Oper} {K : (World → Prop) → Exit → Act → World → Prop} : ∀ e a w, noPanic (segQ ts T P ops Q K l) e a w → e ≠ .normal → noPanic Q e a w := by
  intro e a w h hn
  cases e <;> first | exact h | exact absurd rfl hn
theorem forkQ_panic {ts : List Nat} {ops : Array Oper} {u1 l1 u2 l2 : List Oper} : ∀ e a w, noPanic (forkQ ts T P ops Q u1 l1 u2 l2) e a w → e ≠ .normal → noPanic Q e a w := by
  intro e a w h hn
  cases e <;> first | exact h | exact absurd rfl hn
/-- Two that part. -/
def partB (ts : List Nat) (ops : List Oper) (u1 s1 u2 s2 : List Nat) (listed : Array Bool) : Bool := forkB ts ops s1 s2 [] u1 u2 listed
/-- Readers and some alone; more is known; readers and some alone; two that part. -/
theorem W.draw3 {ds : List Deferred} {n mm id : Nat} {l : List Oper} {E : Env} {w : World} (ts : List Nat) (T : World → Prop) (s s' u1 s1 u2 s2 : List Nat) (hm : P.follows .mixedOrders = true) (hs : Nat.beq (s.length + (s'.length + (u1.length + s1.length))) l.length = true) (hsel : Region.noSelect l.toArray = true)
    (hB : prefB ts l (prefB ts l (partB ts l u1 s1 u2 s2) s') s (Array.replicate l.length false) = true) (hS : T w.drew)
    (h : LY (.held ts false T) P ds n l.toArray (pickL s l) (segQ ts T P l.toArray Q (fun S => forkQ ts S P l.toArray Q (pickL u1 l) (pickL s1 l) (pickL u2 l) (pickL s2 l)) (pickL s' l)) E w.drew) : W Fence.wide mm P ds n (.region id l.toArray true) Q E w := fun a ha => by
  have hlen := Nat.eq_of_beq_eq_true hs
  refine wpIn_wide.2 (wp_mono (Q := noPanic Q) (wp_region_any hm ?_) fun e a w q => by cases e <;> first | exact q | exact q.elim)
  have inv : Lasts false l.toArray (Array.replicate l.length false) := ⟨fun hx => (by cases hx), by simp, fun j oj _ hl => by rw [getD_replicate_false] at hl; cases hl⟩
  have H := G_pref (Q := Q) (fuel := s'.length + (u1.length + s1.length)) hsel segQ_panic (fun listed a w inv hB h => by
    obtain ⟨S, h1, h2, h3⟩ : ∃ S : World → Prop, (∀ w, S w → T w) ∧ S w ∧ wpHeld ts false S P l.toArray (forkQ ts S P l.toArray Q (pickL u1 l) (pickL s1 l) (pickL u2 l) (pickL s2 l)) (pickL s' l) a w := h
    refine wpAnyG_mono h1 _ _ _ _ ?_
    refine G_pref (Q := Q) (fuel := u1.length + s1.length) hsel forkQ_panic (fun listed a w inv hB h => ?_) s' listed a w inv hB h3
    have := G_of_fork (T := S) hsel [] listed a w inv hB h
    rw [show ([] : List Nat).length + (u1.length + s1.length) = u1.length + s1.length by simp] at this
    exact this) s _ a w.drew inv hB (h a ha (.inl hS))
  have := wpAny_of_G _ _ _ _ H
  rw [hlen] at this
  simpa using this
/-- Readers and some alone; more is known; then all others. -/
theorem W.draw1 {ds : List Deferred} {n mm id : Nat} {l : List Oper} {E : Env} {w : World} (ts : List Nat) (T : World → Prop) (s s' : List Nat) (hm : P.follows .mixedOrders = true) (hs : Nat.beq (s.length + s'.length) l.length = true) (hsel : Region.noSelect l.toArray = true)
    (hB : prefB ts l (schedB ts false l s') s (Array.replicate l.length false) = true) (hS : T w.drew)
    (h : LY (.held ts false T) P ds n l.toArray (pickL s l) (segQ ts T P l.toArray Q (fun _ => Q) (pickL s' l)) E w.drew) : W Fence.wide mm P ds n (.region id l.toArray true) Q E w := fun a ha => by
  have hlen := Nat.eq_of_beq_eq_true hs
  refine wpIn_wide.2 (wp_mono (Q := noPanic Q) (wp_region_any hm ?_) fun e a w q => by cases e <;> first | exact q | exact q.elim)
  have inv : Lasts false l.toArray (Array.replicate l.length false) := ⟨fun hx => (by cases hx), by simp, fun j oj _ hl => by rw [getD_replicate_false] at hl; cases hl⟩
  have H := G_pref (Q := Q) (fuel := s'.length) hsel segQ_panic (fun listed a w inv hB h => by
    obtain ⟨S, h1, h2, h3⟩ : ∃ S : World → Prop, (∀ w, S w → T w) ∧ S w ∧ wpHeld ts false S P l.toArray Q (pickL s' l) a w := h
    exact wpAnyG_mono h1 _ _ _ _ (G_of_held hsel s' listed a w inv hB h3)) s _ a w.drew inv hB (h a ha (.inl hS))
  have := wpAny_of_G _ _ _ _ H
  rw [hlen] at this
  simpa using this
theorem L.segH {ds : List Deferred} {n : Nat} {E : Env} {w : World} {ts : List Nat} {ops : Array Oper} {l : List Oper} {K : (World → Prop) → Exit → Act → World → Prop} (S : World → Prop) (hST : ∀ w, S w → T w) (hS : S w) (k : LY (.held ts false S) P ds n ops l (K S) E w) : LY (.held ts false T) P ds n ops [] (segQ ts T P ops Q K l) E w :=
  fun a ha _ => ⟨S, hST, hS, k a ha (.inl hS)⟩
end held
end Go.Proofs.YtmdpmpdlkaogdaaGreatDoor.Vc
