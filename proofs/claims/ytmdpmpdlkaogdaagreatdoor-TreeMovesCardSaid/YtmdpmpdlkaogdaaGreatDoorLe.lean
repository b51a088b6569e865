/- The walk of TreeMoves. -/
import Derived.Test.YtmdpmpdlkaogdaaGreatDoorRt
import Derived.Test.YtmdpmpdlkaogdaaGreatDoorLb
namespace Go.Proofs.YtmdpmpdlkaogdaaGreatDoor
open Go Go.RowKit Vc

theorem ActsA.cells {w : World} {b o n c i : Nat} {E : List AE} {x : AE} (h : ActsA w (.slice (some ⟨b, o, none⟩) n c) E) (hi : E[i]? = some x) :
    w.cell? ⟨b, o + i * 4 + 0, none⟩ = some (.int .u8 x.1.toNat) ∧ w.cell? ⟨b, o + i * 4 + 1, none⟩ = some (.string (S x.2.1)) ∧ w.cell? ⟨b, o + i * 4 + 2, none⟩ = some (.string (S x.2.2.1)) ∧ w.cell? ⟨b, o + i * 4 + 3, none⟩ = some x.2.2.2.1 := by
  obtain ⟨b', o', c', e, hc⟩ := h.plain (List.mem_of_getElem? hi)
  cases e
  exact hc i x hi
theorem head_cl {x0 : Sp.Bytes} {t : List Sp.Bytes} (h : Sp.Cl (Sp.glue (x0 :: t))) (hg : Sp.Goods (x0 :: t)) : Sp.Cl x0 := by
  obtain ⟨l, e1, g1, e2, e3⟩ := h
  refine ⟨[x0], rfl, fun y hy => by simp at hy; subst hy; exact hg _ (by simp), by simp, ?_⟩
  cases t with
  | nil => exact e3
  | cons y t =>
    have : (Sp.glue (x0 :: y :: t)).length = x0.length + (1 + (Sp.glue (y :: t)).length) := by show (x0 ++ 47 :: Sp.glue (y :: t)).length = _; simp; omega
    omega
theorem cl_head {d : Sp.Bytes} (h : Sp.Cl d) (h0 : d ≠ []) : ∃ x0 t, d = Sp.glue (x0 :: t) ∧ Sp.Goods (x0 :: t) ∧ Sp.parts d = x0 :: t := by
  obtain ⟨l, rfl, g, -⟩ := h
  cases l with
  | nil => exact absurd rfl h0
  | cons x0 t =>
    refine ⟨x0, t, rfl, g, ?_⟩
    unfold Sp.parts
    rw [if_neg h0, Sp.split_glue (by simp) g.no]
theorem rparent_eq {d : Sp.Bytes} (h : Sp.Cl d) : Sp.glue (Sp.parts d).dropLast = Sp.parent d := by
  by_cases h0 : d = []
  · subst h0; rfl
  · obtain ⟨l, x, rfl, g, -, hp, -⟩ := h.parts h0
    rw [hp]
    unfold Sp.parts
    rw [if_neg h0, Sp.split_glue (by simp) g.no, List.dropLast_concat]
theorem rename_zero {m m1 : Tr.T} {s d : Tr.Bytes} (h : Tr.rename m s d = (m1, 0)) : ∃ v, Tr.plan m s d = (some v, 0) ∧ Tr.room m v.lack.length 0 = true := by
  unfold Tr.rename at h
  split at h
  · rename_i v e hp
    have := (plan_spec hp).1
    subst this
    refine ⟨v, hp, ?_⟩
    cases hr : Tr.room m v.lack.length 0 with
    | true => rfl
    | false => rw [if_pos hr] at h; cases h
  · rename_i e hp
    cases h
    exact absurd rfl (plan_none hp)
theorem rename_fail {m : Tr.T} {s d : Tr.Bytes} (h : (Tr.rename m s d).2 ≠ 0) : (Tr.rename m s d).1 = m := by
  unfold Tr.rename at h ⊢
  split
  · rename_i v e hp
    rw [hp] at h
    dsimp only at h
    split
    · rfl
    · rename_i hr
      rw [if_neg hr] at h
      exact absurd rfl h
  · rfl
theorem Tr.Ok.keys {m : Tr.T} (h : Tr.Ok m) : ∀ p ∈ m, p.1.length ≤ 100000 := fun p hp => by
  obtain ⟨l, e, -, -, hl⟩ := Sp.Cl.of (h.cleaned p hp).2
  omega
theorem strs_first {B : Nat} {w : World} {v : Value} {x : Sp.Bytes} {l : List Sp.Bytes} (h : StrsA B w v (x :: l)) : ∃ b o c, v = .slice (some ⟨b, o, none⟩) (x :: l).length c ∧ w.cell? ⟨b, o + 0 * 1, none⟩ = some (.string (S x)) := by
  rcases (Row.own h).form with ⟨-, h0, -⟩ | ⟨b, o, c, rfl, -, -, -, hc⟩
  · simp at h0
  · exact ⟨b, o, c, rfl, hc 0 _ rfl⟩

theorem c_TreeMoves (w : World) {v : Value} {E : List AE} (hv : RowA w v E.length (E.flatMap acells)) (hb : ∀ x ∈ E, BytA w x.2.2.2.1 x.2.2.2.2) (p q : Sp.Bytes) :
    Calls P 13 #[v, .string (S p), .string (S q)] w fun e w' => e = .returned (.bool true) ∧ Ext none_ w w' := by
  have hA : ActsA w v E := ⟨hv, hb⟩
  obtain ⟨a, c, rfl, hn, hmx, -, -⟩ := id hv
  refine enter (l := [_, _, _]) (n := 133) Tryz.func13 rfl rfl rfl ?_
  refine W.seq ?_
  refine W.reg <| asg rfl rfl <| L.nil ?_
  refine N.th ?_
  refine W.seq ?_
  refine W.seq ?_
  refine W.reg <| call (vs := []) rfl rfl ok_known (c_known w) ?_
  rintro e w1 ⟨rfl, hx1⟩
  refine ⟨_, rfl, ?_⟩
  refine notB rfl rfl <| L.nil ?_
  refine N.th ?_
  refine W.condF rfl ?_
  refine W.skip ?_
  refine N.th ?_
  refine W.seqM (fun E' w' => E' = [(0, .slice a E.length c), (1, .string (S p)), (2, .string (S q))] ∧ w' = w1 ∧ light8 E = true ∧ p.length ≤ 100 ∧ q.length ≤ 100) ?_ ?_
  · refine W.seqM (fun E' w' => ∃ b, E' = [(28, .bool b), (0, .slice a E.length c), (1, .string (S p)), (2, .string (S q))] ∧ w' = w1 ∧ (b = false → light8 E = true ∧ p.length ≤ 100 ∧ q.length ≤ 100)) ?_ ?_
    · refine W.reg ?_
      refine mv rfl rfl <| call (vs := [_]) rfl rfl ok_light (c_light (hA.ext0 hx1)) ?_
      rintro e w2 ⟨rfl, rfl⟩
      refine ⟨_, rfl, ?_⟩
      refine notB rfl rfl ?_
      cases hlt : light8 E with
      | false =>
        refine Vc.bt rfl ?_
        (repeat (first | refine mv rfl rfl ?_ | refine asg rfl rfl ?_ | refine L.off rfl rfl rfl rfl rfl ?_ | refine L.offU rfl rfl rfl rfl ?_ | refine L.on rfl rfl rfl ?_ | refine pickT rfl rfl rfl ?_ | refine pickF rfl rfl rfl ?_ | refine ext rfl rfl rfl ?_ | refine nilc rfl rfl ?_ | refine lenV (t := 46) rfl u_strs rfl ?_ | refine lenV (t := 25) rfl u_bytes rfl ?_ | refine lenV (t := 22) rfl u_files rfl ?_ | refine lenS (t := 9) rfl u_str rfl ?_ | refine eqlI rfl rfl rfl ?_ | refine neqI rfl rfl rfl ?_ | refine lssI rfl rfl rfl ?_ | refine leqI rfl rfl rfl ?_ | refine gtrI rfl rfl rfl ?_ | refine geqI rfl rfl rfl ?_))
        exact L.nil <| N.th (N.meet [(28, .bool true), (0, _), (1, _), (2, _)] ⟨rfl, rfl, rfl, rfl, trivial⟩ ⟨_, rfl, rfl, fun h => by cases h⟩)
      | true =>
        refine Vc.bf rfl ?_
        (repeat (first | refine mv rfl rfl ?_ | refine asg rfl rfl ?_ | refine L.off rfl rfl rfl rfl rfl ?_ | refine L.offU rfl rfl rfl rfl ?_ | refine L.on rfl rfl rfl ?_ | refine pickT rfl rfl rfl ?_ | refine pickF rfl rfl rfl ?_ | refine ext rfl rfl rfl ?_ | refine nilc rfl rfl ?_ | refine lenV (t := 46) rfl u_strs rfl ?_ | refine lenV (t := 25) rfl u_bytes rfl ?_ | refine lenV (t := 22) rfl u_files rfl ?_ | refine lenS (t := 9) rfl u_str rfl ?_ | refine eqlI rfl rfl rfl ?_ | refine neqI rfl rfl rfl ?_ | refine lssI rfl rfl rfl ?_ | refine leqI rfl rfl rfl ?_ | refine gtrI rfl rfl rfl ?_ | refine geqI rfl rfl rfl ?_))
        by_cases h1 : 100 < p.length
        · refine Vc.bt (by simp; omega) ?_
          (repeat (first | refine mv rfl rfl ?_ | refine asg rfl rfl ?_ | refine L.off rfl rfl rfl rfl rfl ?_ | refine L.offU rfl rfl rfl rfl ?_ | refine L.on rfl rfl rfl ?_ | refine pickT rfl rfl rfl ?_ | refine pickF rfl rfl rfl ?_ | refine ext rfl rfl rfl ?_ | refine nilc rfl rfl ?_ | refine lenV (t := 46) rfl u_strs rfl ?_ | refine lenV (t := 25) rfl u_bytes rfl ?_ | refine lenV (t := 22) rfl u_files rfl ?_ | refine lenS (t := 9) rfl u_str rfl ?_ | refine eqlI rfl rfl rfl ?_ | refine neqI rfl rfl rfl ?_ | refine lssI rfl rfl rfl ?_ | refine leqI rfl rfl rfl ?_ | refine gtrI rfl rfl rfl ?_ | refine geqI rfl rfl rfl ?_))
          exact L.nil <| N.th (N.meet [(28, .bool true), (0, _), (1, _), (2, _)] ⟨rfl, rfl, rfl, rfl, trivial⟩ ⟨_, rfl, rfl, fun h => by cases h⟩)
        · refine Vc.bf (by simp; omega) ?_
          (repeat (first | refine mv rfl rfl ?_ | refine asg rfl rfl ?_ | refine L.off rfl rfl rfl rfl rfl ?_ | refine L.offU rfl rfl rfl rfl ?_ | refine L.on rfl rfl rfl ?_ | refine pickT rfl rfl rfl ?_ | refine pickF rfl rfl rfl ?_ | refine ext rfl rfl rfl ?_ | refine nilc rfl rfl ?_ | refine lenV (t := 46) rfl u_strs rfl ?_ | refine lenV (t := 25) rfl u_bytes rfl ?_ | refine lenV (t := 22) rfl u_files rfl ?_ | refine lenS (t := 9) rfl u_str rfl ?_ | refine eqlI rfl rfl rfl ?_ | refine neqI rfl rfl rfl ?_ | refine lssI rfl rfl rfl ?_ | refine leqI rfl rfl rfl ?_ | refine gtrI rfl rfl rfl ?_ | refine geqI rfl rfl rfl ?_))
          exact L.nil <| N.th (N.meet [(28, _), (0, _), (1, _), (2, _)] ⟨rfl, rfl, rfl, rfl, trivial⟩ ⟨_, rfl, rfl, fun h => ⟨rfl, by omega, by simp at h; omega⟩⟩)
    rintro E' w2 ⟨b, rfl, rfl, hb'⟩
    refine W.cond rfl (fun h => ?_) (fun h => ?_)
    · refine W.seq ?_
      refine W.reg <| asg rfl rfl <| L.nil ?_
      refine N.th ?_
      refine W.ret ?_
      refine N.rth ?_
      refine N.ret1 rfl rfl ?_   -- RETURN
      exact ⟨rfl, hx1⟩
    · refine W.skip ?_
      exact N.th (N.meet [(0, _), (1, _), (2, _)] ⟨rfl, rfl, rfl, trivial⟩ ⟨rfl, rfl, hb' h⟩)
  rintro E' w2 ⟨rfl, rfl, hlight, hp100, hq100⟩
  have hl40 : E.length ≤ 40 ∧ ∀ x ∈ E, x.2.2.2.2.length ≤ 200 := by
    simp only [light8, Bool.and_eq_true, decide_eq_true_eq, List.all_eq_true, lightA] at hlight
    exact ⟨hlight.1, fun x hx => (hlight.2 x hx).2.2⟩
  refine W.seq ?_
  refine W.reg <| call (vs := []) rfl rfl ok_New (c_New w2) ?_
  rintro e w3 ⟨bt, bm, rfl, hbt, hbm, hT3, hx3⟩
  refine ⟨_, rfl, ?_⟩
  refine asg rfl rfl <| L.nil ?_
  refine N.th ?_
  refine W.seq ?_
  refine W.seq ?_
  refine W.reg <| asg rfl rfl <| L.nil ?_
  refine N.th ?_
  refine W.block ?_
  have hs1 := hx1.size
  have hTwo : ∀ i, i < w.heap.size → Two bt bm i → none_ i := by rintro i hi (e | e) <;> omega
  refine W.loop (X := Nat × Tr.T) (fun x => [(8, .int .i64 x.1), (7, pT bt), (0, .slice a E.length c), (1, .string (S p)), (2, .string (S q))])
    (fun x w' => x.1 ≤ E.length ∧ Tr.Ok x.2 ∧ TreeAt none_ w' bt bm x.2 (Tr.size x.2) ∧ Ext none_ w w') (fun x => E.length - x.1) (0, []) ⟨rfl, rfl, rfl, rfl, rfl, trivial⟩ ⟨by omega, Tr.Ok.nil, hT3, hx1.trans hx3⟩ ?_
  rintro ⟨i, m⟩ w4 ⟨hi, hok, hT4, hx4⟩
  dsimp only at hi hok hT4 ⊢
  refine W.seq ?_
  refine W.seq ?_
  refine W.reg <| mv rfl rfl <| mv rfl rfl <| lenV rfl u_acts rfl <| lssI rfl rfl rfl <| L.nil ?_
  refine N.th ?_
  refine W.cond rfl (fun h => ?_) (fun h => ?_)
  · refine W.skip ?_
    refine N.th ?_
    have hi1 : i < E.length := by simp at h; omega
    obtain ⟨x, hxe⟩ : ∃ x, E[i]? = some x := ⟨_, List.getElem?_eq_getElem hi1⟩
    have hxm := List.mem_of_getElem? hxe
    obtain ⟨ab, ao, ac, hv', -⟩ := hA.plain hxm
    cases hv'
    refine W.seq ?_
    refine W.block ?_
    have hx4d : Ext none_ w w4.drew := hx4.trans (Ext.drew _ _)
    refine W.draw [] false (fun w' => Ext none_ w w') [0, 1, 2, 3, 4, 5, 6, 7, 8, 9, 10, 11] rfl rfl (by kernel_rfl) hx4d ?_   -- held
    have hT4d : Tree none_ w4.drew bt bm m := ⟨hT4.ext0 (Ext.drew _ _), hok.len, hok.bytes⟩
    refine mv rfl rfl <| mv rfl rfl <| mv rfl rfl <| ixa rfl rfl u_acts sz_Act rfl (by omega) (by omega) <| fad rfl fl_Act_1 rfl <| ldK (v := .string (S x.2.1)) rfl ag_str rfl (fun w' h => ((hA.ext0 h).cells hxe).2.1) <| mv rfl rfl <| mv rfl rfl <| ixa rfl rfl u_acts sz_Act rfl (by omega) (by omega) <| fad rfl fl_Act_3 rfl <| ldK (v := x.2.2.2.1) rfl ag_bytes rfl (fun w' h => ((hA.ext0 h).cells hxe).2.2.2) <|
      callH (vs := [_, _, _]) rfl rfl ok_Write (c_Write x.2.1 hT4d ((hA.ext0 hx4d).bytes x hxm) (by have := hl40.2 x hxm; omega)) ?_
    rintro e w5 ⟨rfl, hT5, hx5⟩
    refine ⟨_, rfl, .inr fun h => h.trans' hx5 hTwo, ?_⟩
    refine L.nilH ?_
    refine N.inb ?_
    refine N.th ?_
    refine W.reg <| mv rfl rfl <| addI (c := ((i + 1 : Nat) : Int)) rfl rfl rfl (by rw [w64 (by omega) (by omega)]; simp) <| asg rfl rfl <| L.nil ?_
    exact N.th (N.round (x := (i + 1, (Tr.write m x.2.1 x.2.2.2.2).1)) ⟨rfl, rfl, rfl, rfl, rfl, trivial⟩ ⟨by dsimp only; omega, hok.write _ _, hT5, hx4d.trans' hx5 hTwo⟩ (by dsimp only; omega))   -- ROUND
  refine W.exit ?_
  refine N.xth ?_
  refine N.xth ?_
  refine N.xeq ?_
  refine N.th ?_
  have hml := hok.len
  have hmb := hok.bytes
  refine W.seq ?_
  refine W.reg <| mv rfl rfl <| call (vs := [_]) rfl rfl ok_Files (c_Files hT4 (by omega) (by omega)) ?_
  rintro e w5 ⟨va, Ea, rfl, hEa, hva, hfa, hx5⟩
  refine ⟨_, rfl, ?_⟩
  refine asg rfl rfl <| L.nil ?_
  refine N.th ?_
  have hFa5 : FilesAt w5 va Ea := FilesAt.own hva fun z hz => Row.own (hfa z hz)
  have hEal : Ea.length = m.length := by have := congrArg List.length hEa; simpa [Tr.files] using this
  refine W.seq ?_
  refine W.reg <| mv rfl rfl <| call (vs := [_]) rfl rfl ok_RClean (c_RClean q w5) ?_
  rintro e w6 ⟨rfl, hx6⟩
  refine ⟨_, rfl, ?_⟩
  refine mv rfl rfl <| ext rfl rfl rfl <| ext rfl rfl rfl <| asg rfl rfl <| asg rfl rfl <| L.nil ?_
  refine N.th ?_
  have hql := clean_len q
  have hx46 : Ext none_ w4 w6 := hx5.trans hx6
  refine W.seqM (fun E' w' => E' = [(9, va), (7, pT bt), (1, .string (S p)), (2, .string (S q))] ∧ Ext none_ w6 w' ∧ ∃ x0 t, (Sp.clean q).2 = 0 ∧ (Sp.clean q).1 = Sp.glue (x0 :: t) ∧ Sp.Goods (x0 :: t) ∧ Tr.get m x0 = none) ?_ ?_
  · refine W.seqM (fun E' w' => ∃ b, E' = [(68, .bool b), (9, va), (7, pT bt), (1, .string (S p)), (2, .string (S q))] ∧ Ext none_ w6 w' ∧ (b = false → ∃ x0 t, (Sp.clean q).2 = 0 ∧ (Sp.clean q).1 = Sp.glue (x0 :: t) ∧ Sp.Goods (x0 :: t) ∧ Tr.get m x0 = none)) ?_ ?_
    · refine W.reg ?_
      (repeat (first | refine mv rfl rfl ?_ | refine asg rfl rfl ?_ | refine L.off rfl rfl rfl rfl rfl ?_ | refine L.offU rfl rfl rfl rfl ?_ | refine L.on rfl rfl rfl ?_ | refine pickT rfl rfl rfl ?_ | refine pickF rfl rfl rfl ?_ | refine ext rfl rfl rfl ?_ | refine nilc rfl rfl ?_ | refine lenV (t := 46) rfl u_strs rfl ?_ | refine lenV (t := 25) rfl u_bytes rfl ?_ | refine lenV (t := 22) rfl u_files rfl ?_ | refine lenS (t := 9) rfl u_str rfl ?_ | refine eqlI rfl rfl rfl ?_ | refine neqI rfl rfl rfl ?_ | refine lssI rfl rfl rfl ?_ | refine leqI rfl rfl rfl ?_ | refine gtrI rfl rfl rfl ?_ | refine geqI rfl rfl rfl ?_))
      by_cases he : (Sp.clean q).2 = 0
      · refine Vc.bf (by simpa using he) ?_
        (repeat (first | refine mv rfl rfl ?_ | refine asg rfl rfl ?_ | refine L.off rfl rfl rfl rfl rfl ?_ | refine L.offU rfl rfl rfl rfl ?_ | refine L.on rfl rfl rfl ?_ | refine pickT rfl rfl rfl ?_ | refine pickF rfl rfl rfl ?_ | refine ext rfl rfl rfl ?_ | refine nilc rfl rfl ?_ | refine lenV (t := 46) rfl u_strs rfl ?_ | refine lenV (t := 25) rfl u_bytes rfl ?_ | refine lenV (t := 22) rfl u_files rfl ?_ | refine lenS (t := 9) rfl u_str rfl ?_ | refine eqlI rfl rfl rfl ?_ | refine neqI rfl rfl rfl ?_ | refine lssI rfl rfl rfl ?_ | refine leqI rfl rfl rfl ?_ | refine gtrI rfl rfl rfl ?_ | refine geqI rfl rfl rfl ?_))
        refine eqlS (b := []) rfl rfl rfl ?_
        by_cases hd : (Sp.clean q).1 = []
        · refine Vc.bt (by simpa using hd) ?_
          (repeat (first | refine mv rfl rfl ?_ | refine asg rfl rfl ?_ | refine L.off rfl rfl rfl rfl rfl ?_ | refine L.offU rfl rfl rfl rfl ?_ | refine L.on rfl rfl rfl ?_ | refine pickT rfl rfl rfl ?_ | refine pickF rfl rfl rfl ?_ | refine ext rfl rfl rfl ?_ | refine nilc rfl rfl ?_ | refine lenV (t := 46) rfl u_strs rfl ?_ | refine lenV (t := 25) rfl u_bytes rfl ?_ | refine lenV (t := 22) rfl u_files rfl ?_ | refine lenS (t := 9) rfl u_str rfl ?_ | refine eqlI rfl rfl rfl ?_ | refine neqI rfl rfl rfl ?_ | refine lssI rfl rfl rfl ?_ | refine leqI rfl rfl rfl ?_ | refine gtrI rfl rfl rfl ?_ | refine geqI rfl rfl rfl ?_))
          exact L.nil <| N.th (N.meet [(68, .bool true), (9, _), (7, _), (1, _), (2, _)] ⟨rfl, rfl, rfl, rfl, rfl, trivial⟩ ⟨_, rfl, Ext.refl _ _, fun h => by cases h⟩)
        · refine Vc.bf (by simpa using hd) ?_
          have hcl := Sp.clean_cl he
          obtain ⟨x0, t, hxt, hg, hpt⟩ := cl_head hcl hd
          (repeat (first | refine mv rfl rfl ?_ | refine asg rfl rfl ?_ | refine L.off rfl rfl rfl rfl rfl ?_ | refine L.offU rfl rfl rfl rfl ?_ | refine L.on rfl rfl rfl ?_ | refine pickT rfl rfl rfl ?_ | refine pickF rfl rfl rfl ?_ | refine ext rfl rfl rfl ?_ | refine nilc rfl rfl ?_ | refine lenV (t := 46) rfl u_strs rfl ?_ | refine lenV (t := 25) rfl u_bytes rfl ?_ | refine lenV (t := 22) rfl u_files rfl ?_ | refine lenS (t := 9) rfl u_str rfl ?_ | refine eqlI rfl rfl rfl ?_ | refine neqI rfl rfl rfl ?_ | refine lssI rfl rfl rfl ?_ | refine leqI rfl rfl rfl ?_ | refine gtrI rfl rfl rfl ?_ | refine geqI rfl rfl rfl ?_))
          refine call (vs := [_]) rfl rfl ok_RParts (c_RParts (Sp.clean q).1 (by omega) w6) ?_
          rintro e w7 ⟨pv, rfl, hpv, hx7⟩
          refine ⟨_, rfl, ?_⟩
          rw [hpt] at hpv
          obtain ⟨sb, so, sc, rfl, hsc⟩ := strs_first hpv
          refine L.on rfl rfl rfl <| ixa rfl rfl u_strs sz_str rfl (by omega) (by simp) <| L.on rfl rfl rfl <| ld1 rfl ag_str rfl hsc <| L.on rfl rfl rfl <| call (vs := [_, _]) rfl rfl ok_Exists (c_Exists x0 ((hT4.ext0 hx46).ext0 hx7)) ?_
          rintro e w8 ⟨rfl, hx8⟩
          refine ⟨_, rfl, ?_⟩
          (repeat (first | refine mv rfl rfl ?_ | refine asg rfl rfl ?_ | refine L.off rfl rfl rfl rfl rfl ?_ | refine L.offU rfl rfl rfl rfl ?_ | refine L.on rfl rfl rfl ?_ | refine pickT rfl rfl rfl ?_ | refine pickF rfl rfl rfl ?_ | refine ext rfl rfl rfl ?_ | refine nilc rfl rfl ?_ | refine lenV (t := 46) rfl u_strs rfl ?_ | refine lenV (t := 25) rfl u_bytes rfl ?_ | refine lenV (t := 22) rfl u_files rfl ?_ | refine lenS (t := 9) rfl u_str rfl ?_ | refine eqlI rfl rfl rfl ?_ | refine neqI rfl rfl rfl ?_ | refine lssI rfl rfl rfl ?_ | refine leqI rfl rfl rfl ?_ | refine gtrI rfl rfl rfl ?_ | refine geqI rfl rfl rfl ?_))
          refine L.nil <| N.th (N.meet [(68, _), (9, _), (7, _), (1, _), (2, _)] ⟨rfl, rfl, rfl, rfl, rfl, trivial⟩ ⟨_, rfl, hx7.trans hx8, fun h => ⟨x0, t, he, hxt, hg, ?_⟩⟩)
          have hc0 : Sp.Cl x0 := head_cl (by rw [← hxt]; exact hcl) hg
          have h00 := (hg x0 (by simp)).1
          unfold Tr.exists_ at h
          rw [hc0.clean] at h
          simp only [Tr.at_of h00, beq_self_eq_true, Bool.true_and] at h
          cases hgx : Tr.get m x0 with
          | none => rfl
          | some y => rw [hgx] at h; cases h
      · refine Vc.bt (by simpa using he) ?_
        (repeat (first | refine mv rfl rfl ?_ | refine asg rfl rfl ?_ | refine L.off rfl rfl rfl rfl rfl ?_ | refine L.offU rfl rfl rfl rfl ?_ | refine L.on rfl rfl rfl ?_ | refine pickT rfl rfl rfl ?_ | refine pickF rfl rfl rfl ?_ | refine ext rfl rfl rfl ?_ | refine nilc rfl rfl ?_ | refine lenV (t := 46) rfl u_strs rfl ?_ | refine lenV (t := 25) rfl u_bytes rfl ?_ | refine lenV (t := 22) rfl u_files rfl ?_ | refine lenS (t := 9) rfl u_str rfl ?_ | refine eqlI rfl rfl rfl ?_ | refine neqI rfl rfl rfl ?_ | refine lssI rfl rfl rfl ?_ | refine leqI rfl rfl rfl ?_ | refine gtrI rfl rfl rfl ?_ | refine geqI rfl rfl rfl ?_))
        exact L.nil <| N.th (N.meet [(68, .bool true), (9, _), (7, _), (1, _), (2, _)] ⟨rfl, rfl, rfl, rfl, rfl, trivial⟩ ⟨_, rfl, Ext.refl _ _, fun h => by cases h⟩)
    rintro E' w7 ⟨b, rfl, hx7, hb'⟩
    refine W.cond rfl (fun h => ?_) (fun h => ?_)
    · refine W.seq ?_
      refine W.reg <| asg rfl rfl <| L.nil ?_
      refine N.th ?_
      refine W.ret ?_
      refine N.rth ?_
      refine N.ret1 rfl rfl ?_   -- RETURN
      exact ⟨rfl, hx4.trans (hx46.trans hx7)⟩
    · refine W.skip ?_
      exact N.th (N.meet [(9, _), (7, _), (1, _), (2, _)] ⟨rfl, rfl, rfl, rfl, trivial⟩ ⟨rfl, hx7, hb' h⟩)
  rintro E' w7 ⟨rfl, hx67, x0, t, hqe, hqd, hgs, hg0⟩
  have hx47 := hx46.trans hx67
  have hT7 : Tree none_ w7 bt bm m := ⟨hT4.ext0 hx47, hml, hmb⟩
  have hFa7 := (hFa5.ext0 hx6).ext0 hx67
  have hx07 : Ext none_ w w7 := hx4.trans hx47
  have hqcl := Sp.clean_cl hqe
  have keepF : ∀ {w8 w9 : World} {m8 : Tr.T} {sz : Int}, TreeAt none_ w8 bt bm m8 sz → FilesAt w8 va Ea → Ext (Two bt bm) w8 w9 → FilesAt w9 va Ea := fun {w8 w9 m8 sz} hT hF hx => hF.ext hx (by
    rintro k (rfl | rfl) c' e' fr hc'
    · rw [hT.cell] at hc'; cases hc'; exact ⟨by decide, by decide⟩
    · obtain ⟨al, ⟨es, cl, hm, _⟩, _⟩ := hT.reps
      rw [hm] at hc'; cases hc')
  refine W.seqM (fun E' w' => E' = [(9, va), (7, pT bt), (1, .string (S p)), (2, .string (S q))] ∧ ∃ m' : Tr.T, Tr.Ok m' ∧ (∀ j, Tr.get m' j = Tr.get m j) ∧ TreeAt none_ w' bt bm m' (Tr.size m') ∧ FilesAt w' va Ea ∧ Ext none_ w w') ?_ ?_   -- CUT
  · refine W.seq ?_
    refine W.reg <| mv rfl rfl <| mv rfl rfl <| mv rfl rfl <| call (vs := [_, _, _]) rfl rfl ok_Rename (c_Rename p q hT7 hok.keys (hok.copied p q)) ?_
    rintro e w8 ⟨rfl, hT8, hx8⟩
    refine ⟨_, rfl, ?_⟩
    have hok8 := hok.rename p q
    have hF8 := keepF hT7.at_ hFa7 hx8
    have hx08 : Ext none_ w w8 := hx07.trans' hx8 hTwo
    refine eqlI rfl rfl rfl <| L.nil ?_
    refine N.th ?_
    refine W.cond rfl (fun h => ?_) (fun h => ?_)
    · have hr0 : (Tr.rename m p q).2 = 0 := by simpa using h
      obtain ⟨v, hpl, hroom⟩ := rename_zero (m1 := (Tr.rename m p q).1) (Prod.ext rfl hr0)
      obtain ⟨e1, hex1, hex2, m2, hren2, hget2⟩ := hok.back hpl hroom
      rw [e1] at hT8 hok8
      dsimp only at hT8 hok8
      generalize Tr.drop (Tr.copy m v) v.src = m1 at hT8 hok8 hex1 hex2 hren2
      refine W.seq ?_
      refine W.seq ?_
      refine W.reg <| mv rfl rfl <| mv rfl rfl <| call (vs := [_, _]) rfl rfl ok_Exists (c_Exists p hT8) ?_
      rintro e w9 ⟨rfl, hx9⟩
      refine ⟨_, rfl, ?_⟩
      rw [hex1]
      (repeat (first | refine mv rfl rfl ?_ | refine asg rfl rfl ?_ | refine L.off rfl rfl rfl rfl rfl ?_ | refine L.offU rfl rfl rfl rfl ?_ | refine L.on rfl rfl rfl ?_ | refine pickT rfl rfl rfl ?_ | refine pickF rfl rfl rfl ?_ | refine ext rfl rfl rfl ?_ | refine nilc rfl rfl ?_ | refine lenV (t := 46) rfl u_strs rfl ?_ | refine lenV (t := 25) rfl u_bytes rfl ?_ | refine lenV (t := 22) rfl u_files rfl ?_ | refine lenS (t := 9) rfl u_str rfl ?_ | refine eqlI rfl rfl rfl ?_ | refine neqI rfl rfl rfl ?_ | refine lssI rfl rfl rfl ?_ | refine leqI rfl rfl rfl ?_ | refine gtrI rfl rfl rfl ?_ | refine geqI rfl rfl rfl ?_))
      refine call (vs := [_, _]) rfl rfl ok_Exists (c_Exists q (hT8.ext0 hx9)) ?_
      rintro e w10 ⟨rfl, hx10⟩
      refine ⟨_, rfl, ?_⟩
      rw [hex2]
      have hT10 : Tree none_ w10 bt bm m1 := ⟨(hT8.ext0 hx9).ext0 hx10, hok8.len, hok8.bytes⟩
      refine L.on rfl rfl rfl <| notB rfl rfl <| pickF rfl rfl rfl ?_
      (repeat (first | refine mv rfl rfl ?_ | refine asg rfl rfl ?_ | refine L.off rfl rfl rfl rfl rfl ?_ | refine L.offU rfl rfl rfl rfl ?_ | refine L.on rfl rfl rfl ?_ | refine pickT rfl rfl rfl ?_ | refine pickF rfl rfl rfl ?_ | refine ext rfl rfl rfl ?_ | refine nilc rfl rfl ?_ | refine lenV (t := 46) rfl u_strs rfl ?_ | refine lenV (t := 25) rfl u_bytes rfl ?_ | refine lenV (t := 22) rfl u_files rfl ?_ | refine lenS (t := 9) rfl u_str rfl ?_ | refine eqlI rfl rfl rfl ?_ | refine neqI rfl rfl rfl ?_ | refine lssI rfl rfl rfl ?_ | refine leqI rfl rfl rfl ?_ | refine gtrI rfl rfl rfl ?_ | refine geqI rfl rfl rfl ?_))
      refine call (vs := [_, _, _]) rfl rfl ok_Rename (c_Rename q p hT10 hok8.keys (hok8.copied q p)) ?_
      rintro e w11 ⟨rfl, hT11, hx11⟩
      refine ⟨_, rfl, ?_⟩
      have hok11 := hok8.rename q p
      rw [hren2] at hT11 hok11 ⊢
      dsimp only at hT11 hok11 ⊢
      refine L.on rfl rfl rfl <| neqI rfl rfl rfl <| pickF rfl rfl rfl <| L.nil ?_
      refine N.th ?_
      refine W.condF rfl ?_
      refine W.skip ?_
      refine N.th ?_
      have hF11 := keepF hT10.at_ ((hF8.ext0 hx9).ext0 hx10) hx11
      have hx011 : Ext none_ w w11 := ((hx08.trans hx9).trans hx10).trans' hx11 hTwo
      refine W.seq ?_
      refine W.reg <| mv rfl rfl <| call (vs := [_]) rfl rfl ok_RClean (c_RClean q w11) ?_
      rintro e w12 ⟨rfl, hx12⟩
      refine ⟨_, rfl, ?_⟩
      refine mv rfl rfl <| ext rfl rfl rfl <| ext rfl rfl rfl <| asg rfl rfl <| asg rfl rfl <| L.nil ?_
      refine N.th ?_
      have hall := hok.back_all hpl hqd hgs hg0 hget2
      refine W.seq ?_
      refine W.reg <| mv rfl rfl <| call (vs := [_]) rfl rfl ok_RParent (c_RParent (Sp.clean q).1 (by omega) w12) ?_
      rintro e w13 ⟨rfl, hx13⟩
      refine ⟨_, rfl, ?_⟩
      rw [rparent_eq hqcl]
      refine neqS (b := []) rfl rfl rfl <| L.nil ?_
      refine N.th ?_
      have hT13 := (hT11.ext0 hx12).ext0 hx13
      have hF13 := (hF11.ext0 hx12).ext0 hx13
      have hx013 := (hx011.trans hx12).trans hx13
      refine W.cond rfl (fun h => ?_) (fun h => ?_)
      · have hpar : Sp.parent (Sp.clean q).1 ≠ [] := by simpa using h
        rw [if_neg hpar] at hall
        have hpt : Sp.parts (Sp.clean q).1 = x0 :: t := by
          unfold Sp.parts
          rw [if_neg (fun e => hpar (by rw [e]; rfl)), hqd, Sp.split_glue (by simp) hgs.no]
        refine W.reg <| mv rfl rfl <| mv rfl rfl <| call (vs := [_]) rfl rfl ok_RParts (c_RParts (Sp.clean q).1 (by omega) w13) ?_
        rintro e w14 ⟨pv, rfl, hpv, hx14⟩
        refine ⟨_, rfl, ?_⟩
        rw [hpt] at hpv
        obtain ⟨sb, so, sc, rfl, hsc⟩ := strs_first hpv
        have hT14 : Tree none_ w14 bt bm m2 := ⟨hT13.ext0 hx14, hok11.len, hok11.bytes⟩
        refine ixa rfl rfl u_strs sz_str rfl (by omega) (by simp) <| ld1 rfl ag_str rfl hsc <| call (vs := [_, _]) rfl rfl ok_Remove (c_Remove x0 hT14) ?_
        rintro e w15 ⟨rfl, hT15, hx15⟩
        refine ⟨_, rfl, ?_⟩
        refine L.nil ?_
        exact N.th (N.meet [(9, _), (7, _), (1, _), (2, _)] ⟨rfl, rfl, rfl, rfl, trivial⟩ ⟨rfl, (Tr.remove m2 x0).1, hok11.remove x0, hall, hT15, keepF hT14.at_ (hF13.ext0 hx14) hx15, (hx013.trans hx14).trans' hx15 hTwo⟩)   -- MEET
      · have hpar : Sp.parent (Sp.clean q).1 = [] := by simpa using h
        rw [if_pos hpar] at hall
        refine W.skip ?_
        exact N.th (N.meet [(9, _), (7, _), (1, _), (2, _)] ⟨rfl, rfl, rfl, rfl, trivial⟩ ⟨rfl, m2, hok11, hall, hT13, hF13, hx013⟩)   -- MEET
    · have hr0 : (Tr.rename m p q).2 ≠ 0 := by simpa using h
      have hsame := rename_fail hr0
      rw [hsame] at hT8
      refine W.skip ?_
      exact N.th (N.meet [(9, _), (7, _), (1, _), (2, _)] ⟨rfl, rfl, rfl, rfl, trivial⟩ ⟨rfl, m, hok, fun _ => rfl, hT8, hF8, hx08⟩)   -- MEET
  rintro E' w8 ⟨rfl, m', hok', hsame, hT8, hF8, hx08⟩
  have hml' := hok'.len
  have hmb' := hok'.bytes
  refine W.seq ?_
  refine W.seq ?_
  refine W.reg <| mv rfl rfl <| call (vs := [_]) rfl rfl ok_Files (c_Files hT8 (by omega) (by omega)) ?_
  rintro e w9 ⟨vb, Eb, rfl, hEb, hvb, hfb, hx9⟩
  refine ⟨_, rfl, ?_⟩
  have hFb : FilesAt w9 vb Eb := FilesAt.own hvb fun z hz => Row.own (hfb z hz)
  have hEbl : Eb.length = m'.length := by have := congrArg List.length hEb; simpa [Tr.files] using this
  refine mv rfl rfl <| call (vs := [_, _]) rfl rfl ok_HFiles (c_HFiles hFb (hF8.ext0 hx9) (by omega) (by omega)) ?_
  rintro e w10 ⟨rfl, hx10⟩
  refine ⟨_, rfl, ?_⟩
  rw [decide_eq_true (show Eb.map fnd = Ea.map fnd by rw [hEb, hEa, Tr.files_congr hok'.nodup hok.nodup hsame])]
  refine notB rfl rfl <| L.nil ?_
  refine N.th ?_
  refine W.condF rfl ?_
  refine W.skip ?_
  refine N.th ?_
  have hT10 : Tree none_ w10 bt bm m' := ⟨(hT8.ext0 hx9).ext0 hx10, hml', hmb'⟩
  have hx010 := (hx08.trans hx9).trans hx10
  refine W.seq ?_
  refine W.seq ?_
  refine W.reg <| mv rfl rfl <| mv rfl rfl <| mv rfl rfl <| call (vs := [_, _, _]) rfl rfl ok_Copy (c_Copy p q hT10 hok'.keys (hok'.copied p q)) ?_
  rintro e w11 ⟨rfl, hT11, hx11⟩
  refine ⟨_, rfl, ?_⟩
  have hok11 := hok'.cpy p q
  have hx011 := hx010.trans' hx11 hTwo
  refine neqI rfl rfl rfl <| L.nil ?_
  refine N.th ?_
  refine W.cond rfl (fun h => ?_) (fun h => ?_)
  · refine W.seq ?_
    refine W.reg <| asg rfl rfl <| L.nil ?_
    refine N.th ?_
    refine W.ret ?_
    refine N.rth ?_
    refine N.ret1 rfl rfl ?_   -- RETURN
    exact ⟨rfl, hx011⟩
  · have hc0 : (Tr.cpy m' p q).2 = 0 := by simpa using h
    obtain ⟨t1, t2, t3, t4⟩ := hok'.twin (m2 := (Tr.cpy m' p q).1) (Prod.ext rfl hc0)
    generalize (Tr.cpy m' p q).1 = m4 at hT11 hok11 t1 t2 t3 t4
    refine W.skip ?_
    refine N.th ?_
    refine W.seq ?_
    refine W.reg <| mv rfl rfl <| mv rfl rfl <| call (vs := [_, _]) rfl rfl ok_Exists (c_Exists p hT11) ?_
    rintro e w12 ⟨rfl, hx12⟩
    refine ⟨_, rfl, ?_⟩
    rw [t1]
    (repeat (first | refine mv rfl rfl ?_ | refine asg rfl rfl ?_ | refine L.off rfl rfl rfl rfl rfl ?_ | refine L.offU rfl rfl rfl rfl ?_ | refine L.on rfl rfl rfl ?_ | refine pickT rfl rfl rfl ?_ | refine pickF rfl rfl rfl ?_ | refine ext rfl rfl rfl ?_ | refine nilc rfl rfl ?_ | refine lenV (t := 46) rfl u_strs rfl ?_ | refine lenV (t := 25) rfl u_bytes rfl ?_ | refine lenV (t := 22) rfl u_files rfl ?_ | refine lenS (t := 9) rfl u_str rfl ?_ | refine eqlI rfl rfl rfl ?_ | refine neqI rfl rfl rfl ?_ | refine lssI rfl rfl rfl ?_ | refine leqI rfl rfl rfl ?_ | refine gtrI rfl rfl rfl ?_ | refine geqI rfl rfl rfl ?_))
    refine call (vs := [_, _]) rfl rfl ok_Exists (c_Exists q (hT11.ext0 hx12)) ?_
    rintro e w13 ⟨rfl, hx13⟩
    refine ⟨_, rfl, ?_⟩
    rw [t2]
    (repeat (first | refine mv rfl rfl ?_ | refine asg rfl rfl ?_ | refine L.off rfl rfl rfl rfl rfl ?_ | refine L.offU rfl rfl rfl rfl ?_ | refine L.on rfl rfl rfl ?_ | refine pickT rfl rfl rfl ?_ | refine pickF rfl rfl rfl ?_ | refine ext rfl rfl rfl ?_ | refine nilc rfl rfl ?_ | refine lenV (t := 46) rfl u_strs rfl ?_ | refine lenV (t := 25) rfl u_bytes rfl ?_ | refine lenV (t := 22) rfl u_files rfl ?_ | refine lenS (t := 9) rfl u_str rfl ?_ | refine eqlI rfl rfl rfl ?_ | refine neqI rfl rfl rfl ?_ | refine lssI rfl rfl rfl ?_ | refine leqI rfl rfl rfl ?_ | refine gtrI rfl rfl rfl ?_ | refine geqI rfl rfl rfl ?_))
    have hT13 : Tree none_ w13 bt bm m4 := ⟨(hT11.ext0 hx12).ext0 hx13, hok11.len, hok11.bytes⟩
    refine call (vs := [_, _]) rfl rfl ok_Remove (c_Remove q hT13) ?_
    rintro e w14 ⟨rfl, hT14, hx14⟩
    refine ⟨_, rfl, ?_⟩
    rw [t3]
    refine L.on rfl rfl rfl <| eqlI rfl rfl rfl ?_
    (repeat (first | refine mv rfl rfl ?_ | refine asg rfl rfl ?_ | refine L.off rfl rfl rfl rfl rfl ?_ | refine L.offU rfl rfl rfl rfl ?_ | refine L.on rfl rfl rfl ?_ | refine pickT rfl rfl rfl ?_ | refine pickF rfl rfl rfl ?_ | refine ext rfl rfl rfl ?_ | refine nilc rfl rfl ?_ | refine lenV (t := 46) rfl u_strs rfl ?_ | refine lenV (t := 25) rfl u_bytes rfl ?_ | refine lenV (t := 22) rfl u_files rfl ?_ | refine lenS (t := 9) rfl u_str rfl ?_ | refine eqlI rfl rfl rfl ?_ | refine neqI rfl rfl rfl ?_ | refine lssI rfl rfl rfl ?_ | refine leqI rfl rfl rfl ?_ | refine gtrI rfl rfl rfl ?_ | refine geqI rfl rfl rfl ?_))
    refine call (vs := [_, _]) rfl rfl ok_Exists (c_Exists p hT14) ?_
    rintro e w15 ⟨rfl, hx15⟩
    refine ⟨_, rfl, ?_⟩
    rw [t4]
    (repeat (first | refine mv rfl rfl ?_ | refine asg rfl rfl ?_ | refine L.off rfl rfl rfl rfl rfl ?_ | refine L.offU rfl rfl rfl rfl ?_ | refine L.on rfl rfl rfl ?_ | refine pickT rfl rfl rfl ?_ | refine pickF rfl rfl rfl ?_ | refine ext rfl rfl rfl ?_ | refine nilc rfl rfl ?_ | refine lenV (t := 46) rfl u_strs rfl ?_ | refine lenV (t := 25) rfl u_bytes rfl ?_ | refine lenV (t := 22) rfl u_files rfl ?_ | refine lenS (t := 9) rfl u_str rfl ?_ | refine eqlI rfl rfl rfl ?_ | refine neqI rfl rfl rfl ?_ | refine lssI rfl rfl rfl ?_ | refine leqI rfl rfl rfl ?_ | refine gtrI rfl rfl rfl ?_ | refine geqI rfl rfl rfl ?_))
    refine L.nil ?_
    refine N.th ?_
    refine W.ret ?_
    refine N.ret1 rfl rfl ?_   -- RETURN
    exact ⟨rfl, (((hx011.trans hx12).trans hx13).trans' hx14 hTwo).trans hx15⟩
end Go.Proofs.YtmdpmpdlkaogdaaGreatDoor
