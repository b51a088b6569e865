/- The walk of the document's Of. -/
import Derived.Test.YtmdpmpdlkaogdaaGreatDoorOg
namespace Go.Proofs.YtmdpmpdlkaogdaaGreatDoor
open Go Go.RowKit Vc

theorem ok_ROf : FnOk P 47 := ⟨_, Tryz.func47, by kernel_rfl, by kernel_rfl⟩
/-- An empty tree of the document's. -/
theorem RTAt.new (w : World) : RTAt (w.alloc (.cells #[.slice none 0 0] tRT)) w.heap.size (.slice none 0 0) [] := ⟨heap_new _ _, ⟨Row.nil _ _ _, fun x h => by cases h⟩⟩
theorem strs_at {B : Nat} {w : World} {v : Value} {l : List Sp.Bytes} {j : Nat} {x : Sp.Bytes} (h : StrsA B w v l) (hj : l[j]? = some x) : ∃ b o c, v = .slice (some ⟨b, o, none⟩) l.length c ∧ w.cell? ⟨b, o + j * 1, none⟩ = some (.string (S x)) := by
  have hlt := (List.getElem?_eq_some_iff.1 hj).1
  rcases (Row.own h).form with ⟨-, h0, -⟩ | ⟨b, o, c, rfl, -, -, -, hc⟩
  · omega
  · exact ⟨b, o, c, rfl, by rw [Nat.mul_one]; exact hc j _ (by simp [encT, hj])⟩
/-- What the document's Of answers. -/
def OfRR (w : World) (E : List FE) (e : Ending) (w' : World) : Prop := Ext none_ w w' ∧ ((Tr.of (fm E)).1 = none → e = .returned (.tuple #[.pointer none, .int .i64 (Tr.of (fm E)).2])) ∧
  ∀ m, (Tr.of (fm E)).1 = some m → ∃ rt lv' E', e = .returned (.tuple #[pT rt, .int .i64 0]) ∧ w.heap.size ≤ rt ∧ RTAt w' rt lv' E' ∧ fm E' = Tr.files m
theorem OfRR.fail {w w' : World} {E : List FE} {c : Int} (hx : Ext none_ w w') (h : Tr.of (fm E) = (none, c)) : OfRR w E (.returned (.tuple #[.pointer none, .int .i64 c])) w' := by
  refine ⟨hx, fun _ => by rw [h], fun m hm => ?_⟩
  rw [h] at hm; cases hm

theorem c_ROf {w : World} {v : Value} {E : List FE} (hv : FilesA w v E) (hE : E.length ≤ 1000000) (hl : ∀ x ∈ E, x.2.2.2.length ≤ 100000000) : Calls P 47 #[v] w (OfRR w E) := by
  obtain ⟨a, c, rfl, hn, hmx, -, -⟩ := id hv.row
  refine enter (l := [_]) (n := 101) Tryz.func47 rfl rfl rfl ?_
  refine W.seq ?_
  refine W.reg <| asg rfl rfl <| asg rfl rfl <| L.nil ?_
  refine N.th ?_
  refine W.seq ?_
  refine W.reg <| bld (vs := #[]) (v := .agg #[.slice none 0 0]) rfl rfl (fun _ => by kernel_rfl) <| box rfl rfl <| asg rfl rfl <| L.nil ?_
  refine N.th ?_
  obtain ⟨w2, hw2⟩ : ∃ w2, w2 = w.alloc (.cells #[.slice none 0 0] tRT) := ⟨_, rfl⟩
  obtain ⟨rt, hrt⟩ : ∃ rt, rt = w.heap.size := ⟨_, rfl⟩
  have hR2 : RTAt w2 rt (.slice none 0 0) [] := by rw [hw2, hrt]; exact RTAt.new w
  have hx2 : Ext none_ w w2 := by rw [hw2]; exact Ext.alloc _ _ _
  rw [show w.alloc (.cells (Value.cells (.agg #[.slice none 0 0])) tRT) = w2 from hw2.symm, ← hrt]
  have hRt : ∀ i, i < w.heap.size → i = rt → none_ i := by rintro i hi e; omega
  refine W.seq ?_
  refine W.reg <| asg rfl rfl <| L.nil ?_
  refine N.th ?_
  refine W.seq ?_
  refine W.seq ?_
  refine W.reg <| asg rfl rfl <| L.nil ?_
  refine N.th ?_
  refine W.block ?_
  refine W.loop (X := Nat × Tr.T × List Tr.Bytes × Value) (fun x => [(6, .int .i64 x.1), (0, .slice a E.length c), (4, pT rt), (5, x.2.2.2)])
    (fun x w' => x.1 ≤ E.length ∧ Tr.Ok x.2.1 ∧ (∃ lv E', RTAt w' rt lv E' ∧ fm E' = Tr.files x.2.1) ∧ StrsA w.heap.size w' x.2.2.2 x.2.2.1 ∧ x.2.2.1.length = x.1 ∧ Ext none_ w w' ∧ Tr.ofF x.2.1 x.2.2.1 (fm (E.drop x.1)) = Tr.of (fm E)) (fun x => E.length - x.1) (0, [], [], .slice none 0 0) ⟨rfl, rfl, rfl, rfl, trivial⟩
    ⟨by omega, Tr.Ok.nil, ⟨_, _, hR2, by simp [Tr.files]⟩, own_nil _ _ _ _, rfl, hx2, rfl⟩ ?_
  rintro ⟨i, m, seen, sv⟩ w4 ⟨hi, hok, ⟨lv, Ea, hR4, hEa⟩, hS4, hsl, hx4, hof⟩
  dsimp only at hi hok hEa hS4 hsl hof ⊢
  refine W.seq ?_
  refine W.seq ?_
  refine W.reg <| mv rfl rfl <| mv rfl rfl <| lenV rfl u_files rfl <| lssI rfl rfl rfl <| L.nil ?_
  refine N.th ?_
  refine W.cond rfl (fun h => ?_) (fun h => ?_)
  · refine W.skip ?_
    refine N.th ?_
    have hi1 : i < E.length := by simp at h; omega
    obtain ⟨x, hxe⟩ : ∃ x, E[i]? = some x := ⟨_, List.getElem?_eq_getElem hi1⟩
    have hxm := List.mem_of_getElem? hxe
    obtain ⟨b, o, c', hv', -, -⟩ := hv.plain hxm
    cases hv'
    have hxl := hl x hxm
    rw [drop_fm hxe] at hof
    have rd : ∀ {wz}, Ext none_ w wz → wz.cell? ⟨b, o + i * 3 + 0, none⟩ = some (.string (S x.1)) ∧ wz.cell? ⟨b, o + i * 3 + 1, none⟩ = some (.bool x.2.1) ∧ wz.cell? ⟨b, o + i * 3 + 2, none⟩ = some x.2.2.1 := fun hz => (hv.ext0 hz).cell hxe
    refine W.seqM (fun E' w' => ∃ sv', E' = [(6, .int .i64 i), (0, .slice (some ⟨b, o, none⟩) E.length c), (4, pT rt), (5, sv')] ∧ ∃ m' seen', Tr.Ok m' ∧ (∃ lv E', RTAt w' rt lv E' ∧ fm E' = Tr.files m') ∧ StrsA w.heap.size w' sv' seen' ∧ seen'.length = i + 1 ∧ Ext none_ w w' ∧ Tr.ofF m' seen' (fm (E.drop (i + 1))) = Tr.of (fm E)) ?_ ?_
    · refine W.block ?_
      refine W.seq ?_
      refine W.reg <| mv rfl rfl <| mv rfl rfl <| ixa rfl rfl u_files sz_File rfl (by omega) (by omega) <| fad rfl fl_File_0 rfl <| ld1 rfl ag_str rfl (rd hx4).1 <| call (vs := [_]) rfl rfl ok_RClean (c_RClean x.1 w4) ?_
      rintro e w6 ⟨rfl, hx6⟩
      refine ⟨_, rfl, ?_⟩
      refine mv rfl rfl <| ext rfl rfl rfl <| ext rfl rfl rfl <| asg rfl rfl <| asg rfl rfl <| L.nil ?_
      refine N.th ?_
      obtain ⟨q, ec, hq⟩ : ∃ q ec, Sp.clean x.1 = (q, ec) := ⟨_, _, rfl⟩
      rw [hq]
      dsimp only
      have hx06 := hx4.trans hx6
      refine W.seq ?_
      refine W.seq ?_
      refine W.reg <| mv rfl rfl <| neqI rfl rfl rfl <| L.nil ?_
      refine N.th ?_
      refine W.cond rfl (fun h => ?_) (fun h => ?_)
      · refine W.seq ?_
        refine W.reg <| mv rfl rfl <| asg rfl rfl <| asg rfl rfl <| L.nil ?_
        refine N.th ?_
        refine W.ret ?_
        refine N.rth <| N.rinb <| N.rth <| N.rth <| N.rinb <| N.rth ?_
        refine N.ret2 rfl rfl rfl ?_   -- RETURN
        have h0 : ec ≠ 0 := by simpa using h
        refine OfRR.fail hx06 ?_
        rw [← hof]
        unfold Tr.ofF
        rw [hq, if_pos h0]
      have h0 : ec = 0 := by simpa using h
      subst h0
      refine W.skip ?_
      refine N.th ?_
      have hR6 := hR4.ext0 hx6
      have hS6 : StrsA w.heap.size w6 sv seen := own_ext hS4 hx6 fun _ _ => id
      obtain ⟨sa, sc, rfl, -, -⟩ := own_slice hS6
      refine W.seq ?_
      refine W.seq ?_
      refine W.reg <| asg rfl rfl <| L.nil ?_
      refine N.th ?_
      refine W.block ?_
      refine W.loop (X := Nat) (fun j => [(9, .int .i64 j), (5, .slice sa seen.length sc), (7, .string (S q)), (6, .int .i64 i), (0, .slice (some ⟨b, o, none⟩) E.length c), (4, pT rt)]) (fun j w' => j ≤ seen.length ∧ w' = w6 ∧ ∀ y ∈ seen.take j, y ≠ q) (fun j => seen.length - j) 0 ⟨rfl, rfl, rfl, rfl, rfl, rfl, trivial⟩ ⟨by omega, rfl, by simp⟩ ?_
      rintro j w7 ⟨hj, rfl, hall⟩
      refine W.seq ?_
      refine W.seq ?_
      refine W.reg <| mv rfl rfl <| mv rfl rfl <| lenV rfl u_strs rfl <| lssI rfl rfl rfl <| L.nil ?_
      refine N.th ?_
      refine W.cond rfl (fun h => ?_) (fun h => ?_)
      · refine W.skip ?_
        refine N.th ?_
        have hj1 : j < seen.length := by simp at h; omega
        obtain ⟨y, hye⟩ : ∃ y, seen[j]? = some y := ⟨_, List.getElem?_eq_getElem hj1⟩
        obtain ⟨sb, so, sc', hsv, hsc⟩ := strs_at hS6 hye
        cases hsv
        refine W.seq ?_
        refine W.block ?_
        refine W.seq ?_
        refine W.reg <| mv rfl rfl <| mv rfl rfl <| ixa rfl rfl u_strs sz_str rfl (by omega) (by omega) <| ld1 rfl ag_str rfl hsc <| mv rfl rfl <| eqlS rfl rfl rfl <| L.nil ?_
        refine N.th ?_
        refine W.cond rfl (fun h => ?_) (fun h => ?_)
        · refine W.seq ?_
          refine W.reg <| asg rfl rfl <| asg rfl rfl <| L.nil ?_
          refine N.th ?_
          refine W.ret ?_
          refine N.rinb <| N.rth <| N.rth <| N.rinb <| N.rth <| N.rinb <| N.rth <| N.rth <| N.rinb <| N.rth ?_
          refine N.ret2 rfl rfl rfl ?_   -- RETURN
          have hyq : y = q := by simpa using h
          subst hyq
          refine OfRR.fail hx06 ?_
          rw [← hof]
          unfold Tr.ofF
          rw [hq]
          simp [List.mem_of_getElem? hye]
        · refine W.skip ?_
          refine N.inb ?_
          refine N.th ?_
          have hyq : y ≠ q := by simpa using h
          refine W.reg <| mv rfl rfl <| addI (c := ((j + 1 : Nat) : Int)) rfl rfl rfl (by rw [w64 (by omega) (by omega)]; simp) <| asg rfl rfl <| L.nil ?_
          refine N.th (N.round (x := j + 1) ⟨rfl, rfl, rfl, rfl, rfl, rfl, trivial⟩ ⟨by omega, rfl, ?_⟩ (by omega))   -- ROUND
          intro z hz
          rw [List.take_add_one, hye] at hz
          rcases List.mem_append.1 hz with hz | hz
          · exact hall z hz
          · simp at hz; rw [hz]; exact hyq
      refine W.exit ?_
      refine N.xth ?_
      refine N.xth ?_
      refine N.xeq ?_
      refine N.th ?_
      have hjl : j = seen.length := by simp at h; omega
      rw [hjl, List.take_length] at hall
      have hseen : q ∉ seen := fun hm => hall q hm rfl
      refine W.seq ?_
      refine W.seqM (fun E' w' => E' = [(68, .bool (x.2.1 && Tr.isDir (Tr.at_ m q))), (5, .slice sa seen.length sc), (7, .string (S q)), (6, .int .i64 i), (0, .slice (some ⟨b, o, none⟩) E.length c), (4, pT rt)] ∧ w' = w7.drew) ?_ ?_
      · have hxd : Ext none_ w w7.drew := hx06.trans (Ext.drew _ _)
        have hRd : RTAt w7.drew rt lv Ea := hR6.ext0 (Ext.drew _ _)
        have hEl := len_of hEa
        have hml := hok.len
        refine W.draw [] false (fun w' => w' = w7.drew) [0, 1, 2, 3, 4, 5, 6, 7, 8, 9, 10, 11, 12, 13, 14, 15, 16, 17, 18, 19, 20, 21, 22, 23, 24, 25, 26] rfl rfl (by kernel_rfl) rfl ?_   -- held
        refine mv rfl rfl <| mv rfl rfl <| ixa rfl rfl u_files sz_File rfl (by omega) (by omega) <| fad rfl fl_File_1 rfl <| ldK (v := .bool x.2.1) rfl ag_bool rfl (fun w' h => by subst h; exact (rd hxd).2.1) ?_
        cases hd : x.2.1 with
        | false =>
          (repeat (first | refine mv rfl rfl ?_ | refine asg rfl rfl ?_ | refine L.off rfl rfl rfl rfl rfl ?_ | refine L.offU rfl rfl rfl rfl ?_ | refine L.on rfl rfl rfl ?_ | refine pickT rfl rfl rfl ?_ | refine pickF rfl rfl rfl ?_ | refine ext rfl rfl rfl ?_ | refine nilc rfl rfl ?_ | refine lenV (t := 46) rfl u_strs rfl ?_ | refine lenV (t := 25) rfl u_bytes rfl ?_ | refine lenV (t := 22) rfl u_files rfl ?_ | refine lenS (t := 9) rfl u_str rfl ?_ | refine eqlI rfl rfl rfl ?_ | refine neqI rfl rfl rfl ?_ | refine lssI rfl rfl rfl ?_ | refine leqI rfl rfl rfl ?_ | refine gtrI rfl rfl rfl ?_ | refine geqI rfl rfl rfl ?_))
          exact L.nilH <| N.th (N.meet [(68, .bool false), (5, _), (7, _), (6, _), (0, _), (4, _)] ⟨rfl, rfl, rfl, rfl, rfl, rfl, trivial⟩ ⟨rfl, rfl⟩)
        | true =>
          (repeat (first | refine mv rfl rfl ?_ | refine asg rfl rfl ?_ | refine L.off rfl rfl rfl rfl rfl ?_ | refine L.offU rfl rfl rfl rfl ?_ | refine L.on rfl rfl rfl ?_ | refine pickT rfl rfl rfl ?_ | refine pickF rfl rfl rfl ?_ | refine ext rfl rfl rfl ?_ | refine nilc rfl rfl ?_ | refine lenV (t := 46) rfl u_strs rfl ?_ | refine lenV (t := 25) rfl u_bytes rfl ?_ | refine lenV (t := 22) rfl u_files rfl ?_ | refine lenS (t := 9) rfl u_str rfl ?_ | refine eqlI rfl rfl rfl ?_ | refine neqI rfl rfl rfl ?_ | refine lssI rfl rfl rfl ?_ | refine leqI rfl rfl rfl ?_ | refine gtrI rfl rfl rfl ?_ | refine geqI rfl rfl rfl ?_))
          refine eqlS (b := []) rfl rfl rfl ?_
          by_cases hq0 : q = []
          · refine Vc.bt (by simpa using hq0) ?_
            (repeat (first | refine mv rfl rfl ?_ | refine asg rfl rfl ?_ | refine L.off rfl rfl rfl rfl rfl ?_ | refine L.offU rfl rfl rfl rfl ?_ | refine L.on rfl rfl rfl ?_ | refine pickT rfl rfl rfl ?_ | refine pickF rfl rfl rfl ?_ | refine ext rfl rfl rfl ?_ | refine nilc rfl rfl ?_ | refine lenV (t := 46) rfl u_strs rfl ?_ | refine lenV (t := 25) rfl u_bytes rfl ?_ | refine lenV (t := 22) rfl u_files rfl ?_ | refine lenS (t := 9) rfl u_str rfl ?_ | refine eqlI rfl rfl rfl ?_ | refine neqI rfl rfl rfl ?_ | refine lssI rfl rfl rfl ?_ | refine leqI rfl rfl rfl ?_ | refine gtrI rfl rfl rfl ?_ | refine geqI rfl rfl rfl ?_))
            exact L.nilH <| N.th (N.meet [(68, .bool true), (5, _), (7, _), (6, _), (0, _), (4, _)] ⟨rfl, rfl, rfl, rfl, rfl, rfl, trivial⟩ ⟨by simp [hq0, Tr.at_, Tr.isDir], rfl⟩)
          · refine Vc.bf (by simpa using hq0) ?_
            (repeat (first | refine mv rfl rfl ?_ | refine asg rfl rfl ?_ | refine L.off rfl rfl rfl rfl rfl ?_ | refine L.offU rfl rfl rfl rfl ?_ | refine L.on rfl rfl rfl ?_ | refine pickT rfl rfl rfl ?_ | refine pickF rfl rfl rfl ?_ | refine ext rfl rfl rfl ?_ | refine nilc rfl rfl ?_ | refine lenV (t := 46) rfl u_strs rfl ?_ | refine lenV (t := 25) rfl u_bytes rfl ?_ | refine lenV (t := 22) rfl u_files rfl ?_ | refine lenS (t := 9) rfl u_str rfl ?_ | refine eqlI rfl rfl rfl ?_ | refine neqI rfl rfl rfl ?_ | refine lssI rfl rfl rfl ?_ | refine leqI rfl rfl rfl ?_ | refine gtrI rfl rfl rfl ?_ | refine geqI rfl rfl rfl ?_))
            refine callH (vs := [_, _]) rfl rfl ok_Rat (c_Rat q hRd (by omega)) ?_
            rintro e w8 ⟨k, rfl, hk, rfl⟩
            refine ⟨_, rfl, .inr id, ?_⟩
            rcases hk.of hEa hok.nodup with ⟨rfl, hg⟩ | ⟨z, y, rfl, hye, hg⟩
            · (repeat (first | refine mv rfl rfl ?_ | refine asg rfl rfl ?_ | refine L.off rfl rfl rfl rfl rfl ?_ | refine L.offU rfl rfl rfl rfl ?_ | refine L.on rfl rfl rfl ?_ | refine pickT rfl rfl rfl ?_ | refine pickF rfl rfl rfl ?_ | refine ext rfl rfl rfl ?_ | refine nilc rfl rfl ?_ | refine lenV (t := 46) rfl u_strs rfl ?_ | refine lenV (t := 25) rfl u_bytes rfl ?_ | refine lenV (t := 22) rfl u_files rfl ?_ | refine lenS (t := 9) rfl u_str rfl ?_ | refine eqlI rfl rfl rfl ?_ | refine neqI rfl rfl rfl ?_ | refine lssI rfl rfl rfl ?_ | refine leqI rfl rfl rfl ?_ | refine gtrI rfl rfl rfl ?_ | refine geqI rfl rfl rfl ?_))
              exact L.nilH <| N.th (N.meet [(68, .bool false), (5, _), (7, _), (6, _), (0, _), (4, _)] ⟨rfl, rfl, rfl, rfl, rfl, rfl, trivial⟩ ⟨by simp [Tr.at_of hq0, hg, Tr.isDir], rfl⟩)
            · (repeat (first | refine mv rfl rfl ?_ | refine asg rfl rfl ?_ | refine L.off rfl rfl rfl rfl rfl ?_ | refine L.offU rfl rfl rfl rfl ?_ | refine L.on rfl rfl rfl ?_ | refine pickT rfl rfl rfl ?_ | refine pickF rfl rfl rfl ?_ | refine ext rfl rfl rfl ?_ | refine nilc rfl rfl ?_ | refine lenV (t := 46) rfl u_strs rfl ?_ | refine lenV (t := 25) rfl u_bytes rfl ?_ | refine lenV (t := 22) rfl u_files rfl ?_ | refine lenS (t := 9) rfl u_str rfl ?_ | refine eqlI rfl rfl rfl ?_ | refine neqI rfl rfl rfl ?_ | refine lssI rfl rfl rfl ?_ | refine leqI rfl rfl rfl ?_ | refine gtrI rfl rfl rfl ?_ | refine geqI rfl rfl rfl ?_))
              obtain ⟨la, lc, rfl, -⟩ := hRd.slice
              obtain ⟨lb, lo, rfl, -, hzl⟩ := hRd.some_ hye
              refine fad rfl fl_RT_0 rfl <| L.on rfl rfl rfl <| ldK (v := .slice (some ⟨lb, lo, none⟩) Ea.length lc) rfl ag_files rfl (fun w' h => by subst h; exact hRd.c0) ?_
              (repeat (first | refine mv rfl rfl ?_ | refine asg rfl rfl ?_ | refine L.off rfl rfl rfl rfl rfl ?_ | refine L.offU rfl rfl rfl rfl ?_ | refine L.on rfl rfl rfl ?_ | refine pickT rfl rfl rfl ?_ | refine pickF rfl rfl rfl ?_ | refine ext rfl rfl rfl ?_ | refine nilc rfl rfl ?_ | refine lenV (t := 46) rfl u_strs rfl ?_ | refine lenV (t := 25) rfl u_bytes rfl ?_ | refine lenV (t := 22) rfl u_files rfl ?_ | refine lenS (t := 9) rfl u_str rfl ?_ | refine eqlI rfl rfl rfl ?_ | refine neqI rfl rfl rfl ?_ | refine lssI rfl rfl rfl ?_ | refine leqI rfl rfl rfl ?_ | refine gtrI rfl rfl rfl ?_ | refine geqI rfl rfl rfl ?_))
              refine callH (vs := [_, _]) rfl rfl ok_Rat (c_Rat q hRd (by omega)) ?_
              rintro e w8 ⟨k, rfl, hk, rfl⟩
              refine ⟨_, rfl, .inr id, ?_⟩
              rcases hk.of hEa hok.nodup with ⟨rfl, hg'⟩ | ⟨z', y', rfl, hye', hg'⟩
              · rw [hg] at hg'; cases hg'
              obtain ⟨-, -, -, -, hzl'⟩ := hRd.some_ hye'
              (repeat (first | refine mv rfl rfl ?_ | refine asg rfl rfl ?_ | refine L.off rfl rfl rfl rfl rfl ?_ | refine L.offU rfl rfl rfl rfl ?_ | refine L.on rfl rfl rfl ?_ | refine pickT rfl rfl rfl ?_ | refine pickF rfl rfl rfl ?_ | refine ext rfl rfl rfl ?_ | refine nilc rfl rfl ?_ | refine lenV (t := 46) rfl u_strs rfl ?_ | refine lenV (t := 25) rfl u_bytes rfl ?_ | refine lenV (t := 22) rfl u_files rfl ?_ | refine lenS (t := 9) rfl u_str rfl ?_ | refine eqlI rfl rfl rfl ?_ | refine neqI rfl rfl rfl ?_ | refine lssI rfl rfl rfl ?_ | refine leqI rfl rfl rfl ?_ | refine gtrI rfl rfl rfl ?_ | refine geqI rfl rfl rfl ?_))
              refine ixa rfl rfl u_files sz_File rfl (by omega) (by omega) <| L.on rfl rfl rfl <| fad rfl fl_File_1 rfl <| L.on rfl rfl rfl <| ldK (v := .bool y'.2.1) rfl ag_bool rfl (fun w' h => by subst h; exact (hRd.files.cell hye').2.1) ?_
              (repeat (first | refine mv rfl rfl ?_ | refine asg rfl rfl ?_ | refine L.off rfl rfl rfl rfl rfl ?_ | refine L.offU rfl rfl rfl rfl ?_ | refine L.on rfl rfl rfl ?_ | refine pickT rfl rfl rfl ?_ | refine pickF rfl rfl rfl ?_ | refine ext rfl rfl rfl ?_ | refine nilc rfl rfl ?_ | refine lenV (t := 46) rfl u_strs rfl ?_ | refine lenV (t := 25) rfl u_bytes rfl ?_ | refine lenV (t := 22) rfl u_files rfl ?_ | refine lenS (t := 9) rfl u_str rfl ?_ | refine eqlI rfl rfl rfl ?_ | refine neqI rfl rfl rfl ?_ | refine lssI rfl rfl rfl ?_ | refine leqI rfl rfl rfl ?_ | refine gtrI rfl rfl rfl ?_ | refine geqI rfl rfl rfl ?_))
              exact L.nilH <| N.th (N.meet [(68, .bool y'.2.1), (5, _), (7, _), (6, _), (0, _), (4, _)] ⟨rfl, rfl, rfl, rfl, rfl, rfl, trivial⟩ ⟨by simp [Tr.at_of hq0, hg', Tr.isDir], rfl⟩)
      rintro E' w9 ⟨rfl, rfl⟩
      have hx09 : Ext none_ w w7.drew := hx06.trans (Ext.drew _ _)
      refine W.cond rfl (fun h => ?_) (fun h => ?_)
      · refine W.seq ?_
        refine W.reg <| asg rfl rfl <| asg rfl rfl <| L.nil ?_
        refine N.th ?_
        refine W.ret ?_
        refine N.rth <| N.rinb <| N.rth <| N.rth <| N.rinb <| N.rth ?_
        refine N.ret2 rfl rfl rfl ?_   -- RETURN
        refine OfRR.fail hx09 ?_
        rw [← hof]
        unfold Tr.ofF
        rw [hq]
        dsimp only
        rw [h]
        simp
      refine W.skip ?_
      refine N.th ?_
      have hof' : (if (Tr.step m q (x.2.1, x.2.2.2)).2 ≠ 0 then (none, (Tr.step m q (x.2.1, x.2.2.2)).2) else Tr.ofF (Tr.step m q (x.2.1, x.2.2.2)).1 (seen ++ [q]) (fm (E.drop (i + 1)))) = Tr.of (fm E) := by
        rw [← hof]
        conv => rhs; unfold Tr.ofF
        rw [hq]
        dsimp only
        rw [h]
        simp [hseen]
      have hR9 : RTAt w7.drew rt lv Ea := hR6.ext0 (Ext.drew _ _)
      have hS9 : StrsA w.heap.size w7.drew (.slice sa seen.length sc) seen := own_ext hS6 (Ext.drew none_ _) fun _ _ => id
      refine W.seq ?_
      refine W.reg <| mv rfl rfl <| mv rfl rfl <| push1 (cs := #[.string (S q)]) rfl rfl rfl rfl (fun _ => by kernel_rfl) el_strs rfl rfl hS9 (by omega) (by simp only [maxLen]; omega) hx09.size fun sv' w10 hS10' hx10 => ?_
      refine asg rfl rfl <| L.nil ?_
      refine N.th ?_
      have hS10 : StrsA w.heap.size w10 sv' (seen ++ [q]) := by simpa [StrsA, encT] using hS10'
      have hx010 : Ext none_ w w10 := hx09.own hS9 hx10
      have hR10 : RTAt w10 rt lv Ea := hR9.ext hx10 (fun e => by
        obtain ⟨ck, fk, hk⟩ := own_kind hS9 _ e
        rw [hR9.cell] at hk; cases hk) (fun k hk ce e fr he => by
        obtain ⟨ck, fk, hk⟩ := own_kind hS9 _ hk
        rw [he] at hk; cases hk; exact ⟨by decide, by decide⟩)
      have hSk : ∀ {wz}, Ext (fun k => k = rt) w10 wz → StrsA w.heap.size wz sv' (seen ++ [q]) := fun hz => own_ext hS10 hz fun k hk e => by
        subst e
        obtain ⟨ck, fk, hk⟩ := own_kind hS10 _ hk
        rw [hR10.cell] at hk; cases hk
      have hqc : (Sp.clean x.1).2 = 0 := by rw [hq]
      refine W.seqM (fun E' w' => E' = [(8, .int .i64 (Tr.step m q (x.2.1, x.2.2.2)).2), (5, sv'), (6, .int .i64 i), (0, .slice (some ⟨b, o, none⟩) E.length c), (4, pT rt)] ∧ (∃ lv E', RTAt w' rt lv E' ∧ fm E' = Tr.files (Tr.step m q (x.2.1, x.2.2.2)).1) ∧ StrsA w.heap.size w' sv' (seen ++ [q]) ∧ Ext none_ w w') ?_ ?_   -- CUT
      · refine W.seq ?_
        refine W.reg <| mv rfl rfl <| mv rfl rfl <| ixa rfl rfl u_files sz_File rfl (by omega) (by omega) <| fad rfl fl_File_1 rfl <| ld1 (v := .bool x.2.1) rfl ag_bool rfl (rd hx010).2.1 <| L.nil ?_
        refine N.th ?_
        cases hd : x.2.1 with
        | true =>
          refine W.condT rfl ?_
          refine W.reg <| mv rfl rfl <| mv rfl rfl <| mv rfl rfl <| ixa rfl rfl u_files sz_File rfl (by omega) (by omega) <| fad rfl fl_File_0 rfl <| ld1 rfl ag_str rfl (rd hx010).1 <| call (vs := [_, _]) rfl rfl ok_RMkdir (c_RMkdir x.1 hR10 hEa hok) ?_
          rintro e w11 ⟨rfl, hR11, hx11⟩
          refine ⟨_, rfl, ?_⟩
          refine asg rfl rfl <| L.nil ?_
          rw [Tr.mkdir_clean hqc, hq] at hR11 ⊢
          exact N.th (N.meet [(8, _), (5, _), (6, _), (0, _), (4, _)] ⟨rfl, rfl, rfl, rfl, rfl, trivial⟩ ⟨rfl, hR11, hSk hx11, hx010.trans' hx11 hRt⟩)   -- MEET
        | false =>
          refine W.condF rfl ?_
          have hxd : Ext none_ w w10.drew := hx010.trans (Ext.drew _ _)
          refine W.draw [] false (fun w' => Ext none_ w w') [0, 1, 2, 3, 4, 5, 6, 7, 8, 9, 10, 11, 12] rfl rfl (by kernel_rfl) hxd ?_   -- held
          refine mv rfl rfl <| mv rfl rfl <| mv rfl rfl <| ixa rfl rfl u_files sz_File rfl (by omega) (by omega) <| fad rfl fl_File_0 rfl <| ldK (v := .string (S x.1)) rfl ag_str rfl (fun w' h => (rd h).1) <| mv rfl rfl <| mv rfl rfl <| ixa rfl rfl u_files sz_File rfl (by omega) (by omega) <| fad rfl fl_File_2 rfl <| ldK (v := x.2.2.1) rfl ag_bytes rfl (fun w' h => (rd h).2.2) <|
            callH (vs := [_, _, _]) rfl rfl ok_RWrite (c_RWrite x.1 (hR10.ext0 (Ext.drew _ _)) hEa hok ((hv.ext0 hxd).bytes x hxm) hxl) ?_
          rintro e w11 ⟨rfl, hR11, hx11⟩
          refine ⟨_, rfl, .inr fun h => h.trans' hx11 hRt, ?_⟩
          refine asg rfl rfl <| L.nilH ?_
          rw [Tr.write_clean hqc, hq] at hR11 ⊢
          exact N.th (N.meet [(8, _), (5, _), (6, _), (0, _), (4, _)] ⟨rfl, rfl, rfl, rfl, rfl, trivial⟩ ⟨rfl, hR11, hSk ((Ext.drew _ _).trans hx11), hxd.trans' hx11 hRt⟩)   -- MEET
      rintro E' w11 ⟨rfl, hR11, hS11, hx11⟩
      refine W.seq ?_
      refine W.reg <| mv rfl rfl <| neqI rfl rfl rfl <| L.nil ?_
      refine N.th ?_
      refine W.cond rfl (fun h => ?_) (fun h => ?_)
      · refine W.seq ?_
        refine W.reg <| mv rfl rfl <| asg rfl rfl <| asg rfl rfl <| L.nil ?_
        refine N.th ?_
        refine W.ret ?_
        refine N.rinb <| N.rth <| N.rth <| N.rinb <| N.rth ?_
        refine N.ret2 rfl rfl rfl ?_   -- RETURN
        have h1 : (Tr.step m q (x.2.1, x.2.2.2)).2 ≠ 0 := by simpa using h
        refine OfRR.fail hx11 ?_
        rw [← hof', if_pos h1]
      · refine W.skip ?_
        refine N.inb ?_
        have h1 : ¬ (Tr.step m q (x.2.1, x.2.2.2)).2 ≠ 0 := by simpa using h
        rw [if_neg h1] at hof'
        exact N.th (N.meet [(6, _), (0, _), (4, _), (5, sv')] ⟨rfl, rfl, rfl, rfl, trivial⟩ ⟨sv', rfl, _, _, hok.step _ _, hR11, hS11, by simp [hsl], hx11, hof'⟩)   -- MEET
    rintro E' w5 ⟨sv', rfl, m', seen', hok', hR5, hS5, hsl5, hx5, hof5⟩
    refine W.reg <| mv rfl rfl <| addI (c := ((i + 1 : Nat) : Int)) rfl rfl rfl (by rw [w64 (by omega) (by omega)]; simp) <| asg rfl rfl <| L.nil ?_
    exact N.th (N.round (x := (i + 1, m', seen', sv')) ⟨rfl, rfl, rfl, rfl, trivial⟩ ⟨by dsimp only; omega, hok', hR5, hS5, hsl5, hx5, hof5⟩ (by dsimp only; omega))   -- ROUND
  · refine W.exit ?_
    refine N.xth ?_
    refine N.xth ?_
    refine N.xeq ?_
    refine N.th ?_
    refine W.seq ?_
    refine W.reg <| mv rfl rfl <| asg rfl rfl <| asg rfl rfl <| L.nil ?_
    refine N.th ?_
    refine W.ret ?_
    refine N.ret2 rfl rfl rfl ?_   -- RETURN
    have hi1 : i = E.length := by simp at h; omega
    rw [hi1, List.drop_length] at hof
    have hof2 : Tr.of (fm E) = (some m, 0) := hof.symm
    refine ⟨hx4, fun h => ?_, fun m' hm' => ?_⟩
    · rw [hof2] at h; cases h
    · rw [hof2] at hm'
      cases hm'
      exact ⟨rt, lv, Ea, rfl, by omega, hR4, hEa⟩
end Go.Proofs.YtmdpmpdlkaogdaaGreatDoor
