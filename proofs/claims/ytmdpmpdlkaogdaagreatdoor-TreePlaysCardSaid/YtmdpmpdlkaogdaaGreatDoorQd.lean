/- The walk of TreePlays. -/
import Derived.Test.YtmdpmpdlkaogdaaGreatDoorQc
import Derived.Test.YtmdpmpdlkaogdaaGreatDoorRt
import Derived.Test.YtmdpmpdlkaogdaaGreatDoorTm
namespace Go.Proofs.YtmdpmpdlkaogdaaGreatDoor
open Go Go.RowKit Vc

theorem ze_Act : zeroB P tAct = some (.agg #[.int .u8 0, .string (S []), .string (S []), .slice none 0 0]) := by kernel_rfl
theorem Tr.Ok.perm {m n : Tr.T} (h : Tr.Ok m) (p : n.Perm m) : Tr.Ok n := by
  have hn : (n.map (·.1)).Nodup := (p.map (·.1)).nodup_iff.2 h.nodup
  have hg : ∀ k, Tr.get n k = Tr.get m k := fun k => by rw [← Tr.files_get hn, ← Tr.files_get h.nodup, Tr.files_perm h.nodup p]
  refine Tr.Ok.mk' hn (fun k x hk => ?_) (by rw [p.length_eq]; exact h.len) (by rw [Tr.size_perm p]; exact h.bytes)
  rw [hg] at hk
  obtain ⟨a, b, c, d⟩ := h.sound hk
  exact ⟨a, b, by rw [hg]; exact c, d⟩
theorem Tr.Ok.keyl {m : Tr.T} (h : Tr.Ok m) : ∀ p ∈ m, p.1.length ≤ 100000 := fun p hp => by
  obtain ⟨l, e, -, -, hl⟩ := Sp.Cl.of (h.cleaned p hp).2
  omega
theorem ActsA.act {w : World} {b o n c i : Nat} {E : List AE} {x : AE} (h : ActsA w (.slice (some ⟨b, o, none⟩) n c) E) (hi : E[i]? = some x) : ∀ j u, (acells x)[j]? = some u → w.cell? ⟨b, o + i * 4 + j, none⟩ = some u := by
  obtain ⟨b', o', c', e, hc⟩ := h.plain (List.mem_of_getElem? hi)
  cases e
  obtain ⟨h0, h1, h2, h3⟩ := hc i x hi
  rintro (_ | _ | _ | _ | j) u hj
  · cases hj; exact h0
  · cases hj; exact h1
  · cases hj; exact h2
  · cases hj; exact h3
  · cases hj

/-- The tree and the document's, side by side. -/
structure Both (w : World) (bt bm rt : Nat) (lv : Value) (E : List FE) (m : Tr.T) : Prop where
  ok : Tr.Ok m
  tree : TreeAt none_ w bt bm m (Tr.size m)
  ref : RTAt w rt lv E
  same : fm E = Tr.files m
theorem Both.ext0 {w w' : World} {bt bm rt : Nat} {lv : Value} {E : List FE} {m : Tr.T} (h : Both w bt bm rt lv E m) (hx : Ext none_ w w') : Both w' bt bm rt lv E m := ⟨h.ok, h.tree.ext0 hx, h.ref.ext0 hx, h.same⟩
theorem two_rt {w : World} {bt bm rt : Nat} {lv : Value} {E : List FE} {m : Tr.T} {sz : Int} (hT : TreeAt none_ w bt bm m sz) (hR : RTAt w rt lv E) : ¬ Two bt bm rt := by
  rintro (e | e)
  · subst e
    have h1 := hR.cell
    rw [hT.cell] at h1; cases h1
  · subst e
    obtain ⟨al, ⟨es, ck, h1, -⟩, -⟩ := hT.reps
    rw [hR.cell] at h1; cases h1
theorem rt_tree {w w' : World} {bt bm rt : Nat} {lv : Value} {E : List FE} {m : Tr.T} {sz : Int} (hT : TreeAt none_ w bt bm m sz) (hR : RTAt w rt lv E) (hx : Ext (Two bt bm) w w') : RTAt w' rt lv E := hR.ext hx (two_rt hT hR) fun k hk c e fr hc => by
  rcases hk with hk | hk
  · subst hk
    rw [hT.cell] at hc; cases hc; exact ⟨by decide, by decide⟩
  · subst hk
    obtain ⟨al, ⟨es, ck, h1, -⟩, -⟩ := hT.reps
    rw [hc] at h1; cases h1
theorem tree_rt {w w' : World} {bt bm rt : Nat} {lv : Value} {E : List FE} {m : Tr.T} {sz : Int} (hT : TreeAt none_ w bt bm m sz) (hR : RTAt w rt lv E) (hx : Ext (fun k => k = rt) w w') : TreeAt none_ w' bt bm m sz := by
  refine hT.ext hx (fun k hk c e fr hc => ?_) (fun e => two_rt hT hR (.inl e.symm)) (fun e => two_rt hT hR (.inr e.symm))
  subst hk
  rw [hR.cell] at hc; cases hc; exact ⟨by decide, by decide⟩
theorem Both.step {w w6 w7 : World} {bt bm rt : Nat} {lv lv' : Value} {E E' : List FE} {m : Tr.T} {r : Tr.T × Int} (_h : Both w bt bm rt lv E m) (hok : Tr.Ok r.1) (hT6 : TreeAt none_ w6 bt bm r.1 (Tr.size r.1)) (hR6 : RTAt w6 rt lv E) (hR7 : RTAt w7 rt lv' E') (hE7 : fm E' = Tr.files r.1) (hx7 : Ext (fun k => k = rt) w6 w7) : Both w7 bt bm rt lv' E' r.1 :=
  ⟨hok, tree_rt hT6 hR6 hx7, hR7, hE7⟩

set_option maxHeartbeats 1000000 in
theorem c_TreePlays (w : World) {v : Value} {E : List AE} (hv : RowA w v E.length (E.flatMap acells)) (hb : ∀ x ∈ E, BytA w x.2.2.2.1 x.2.2.2.2) :
    Calls P 15 #[v] w fun e w' => e = .returned (.bool true) ∧ Ext none_ w w' := by
  have hA : ActsA w v E := ⟨hv, hb⟩
  obtain ⟨a, c, rfl, hn, hmx, -, -⟩ := id hv
  refine enter (l := [_]) (n := 179) Tryz.func15 rfl rfl rfl ?_
  refine W.seq ?_
  refine W.reg <| asg rfl rfl <| L.nil ?_
  refine N.th ?_
  refine W.seq ?_
  refine W.seq ?_
  refine W.reg <| call (vs := []) rfl rfl ok_known (c_known w) ?_
  rintro e w1 ⟨rfl, hx1⟩
  refine ⟨_, rfl, ?_⟩
  refine notB rfl rfl <| L.nil ?_
  refine N.th ?_
  refine W.condF rfl ?_
  refine W.skip ?_
  refine N.th ?_
  refine W.seq ?_
  refine W.seq ?_
  refine W.reg <| mv rfl rfl <| call (vs := [_]) rfl rfl ok_light (c_light (hA.ext0 hx1)) ?_
  rintro e w2 ⟨rfl, rfl⟩
  refine ⟨_, rfl, ?_⟩
  refine notB rfl rfl <| L.nil ?_
  refine N.th ?_
  refine W.cond rfl (fun h => ?_) (fun h => ?_)
  · refine W.seq ?_
    refine W.reg <| asg rfl rfl <| L.nil ?_
    refine N.th ?_
    refine W.ret ?_
    refine N.rth ?_
    refine N.ret1 rfl rfl ?_   -- RETURN
    exact ⟨rfl, hx1⟩
  have hlight : light8 E = true := by simpa using h
  have hl40 : E.length ≤ 40 ∧ ∀ x ∈ E, x.2.2.2.2.length ≤ 200 := by
    simp only [light8, Bool.and_eq_true, decide_eq_true_eq, List.all_eq_true, lightA] at hlight
    exact ⟨hlight.1, fun x hx => (hlight.2 x hx).2.2⟩
  refine W.skip ?_
  refine N.th ?_
  refine W.seq ?_
  refine W.reg <| call (vs := []) rfl rfl ok_New (c_New w1) ?_
  rintro e w3 ⟨bt0, bm0, rfl, hbt0, hbm0, hT3, hx3⟩
  refine ⟨_, rfl, ?_⟩
  refine bld (vs := #[]) (v := .agg #[.slice none 0 0]) rfl rfl (fun _ => by kernel_rfl) <| box rfl rfl <| asg rfl rfl <| asg rfl rfl <| L.nil ?_
  refine N.th ?_
  have hs1 := hx1.size
  have hs3 := hx3.size
  obtain ⟨w4, hw4⟩ : ∃ w4, w4 = w3.alloc (.cells #[.slice none 0 0] tRT) := ⟨_, rfl⟩
  obtain ⟨rt, hrt⟩ : ∃ rt, rt = w3.heap.size := ⟨_, rfl⟩
  have hR4 : RTAt w4 rt (.slice none 0 0) [] := by rw [hw4, hrt]; exact ⟨heap_new _ _, ⟨Row.nil _ _ _, fun x h => by cases h⟩⟩
  have hx34 : Ext none_ w3 w4 := by rw [hw4]; exact Ext.alloc _ _ _
  rw [show w3.alloc (.cells (Value.cells (.agg #[.slice none 0 0])) tRT) = w4 from hw4.symm, ← hrt]
  have hB4 : Both w4 bt0 bm0 rt (.slice none 0 0) [] [] := ⟨Tr.Ok.nil, hT3.ext0 hx34, hR4, by simp [Tr.files]⟩
  have hRt : ∀ i, i < w.heap.size → i = rt → none_ i := by rintro i hi e; omega
  refine W.seq ?_
  refine W.seq ?_
  refine W.reg <| asg rfl rfl <| L.nil ?_
  refine N.th ?_
  refine W.block ?_
  refine W.loop (X := Nat × Nat × Nat × Tr.T) (fun x => [(5, .int .i64 x.1), (3, pT x.2.1), (4, pT rt), (0, .slice a E.length c)])
    (fun x w' => x.1 ≤ E.length ∧ w.heap.size ≤ x.2.1 ∧ w.heap.size ≤ x.2.2.1 ∧ (∃ lv E', Both w' x.2.1 x.2.2.1 rt lv E' x.2.2.2) ∧ Ext none_ w w') (fun x => E.length - x.1) (0, bt0, bm0, []) ⟨rfl, rfl, rfl, rfl, trivial⟩
    ⟨by omega, by dsimp only; omega, by dsimp only; omega, ⟨_, _, hB4⟩, (hx1.trans hx3).trans hx34⟩ ?_
  rintro ⟨i, bt, bm, m⟩ w4 ⟨hi, hbt, hbm, ⟨lv, Er, hB⟩, hx4⟩
  dsimp only at hi hbt hbm hB ⊢
  refine W.seq ?_
  refine W.seq ?_
  refine W.reg <| mv rfl rfl <| mv rfl rfl <| lenV rfl u_acts rfl <| lssI rfl rfl rfl <| L.nil ?_
  refine N.th ?_
  refine W.cond rfl (fun h => ?_) (fun h => ?_)
  · refine W.skip ?_
    refine N.th ?_
    have hi1 : i < E.length := by simp at h; omega
    obtain ⟨x, hxe⟩ : ∃ x, E[i]? = some x := ⟨_, List.getElem?_eq_getElem hi1⟩
    have hxm := List.mem_of_getElem? hxe
    obtain ⟨ab, ao, ac, hv', -⟩ := hA.plain hxm
    cases hv'
    have hxl := hl40.2 x hxm
    obtain ⟨xa, xc, hbv, -⟩ := id (hb x hxm)
    refine W.seqM (fun E' w' => ∃ bt' bm', E' = [(5, .int .i64 i), (3, pT bt'), (4, pT rt), (0, .slice (some ⟨ab, ao, none⟩) E.length c)] ∧ w.heap.size ≤ bt' ∧ w.heap.size ≤ bm' ∧ (∃ lv E' m', Both w' bt' bm' rt lv E' m') ∧ Ext none_ w w') ?_ ?_   -- CUT
    · refine W.block ?_
      refine W.seq ?_
      refine W.reg <| mv rfl rfl <| mv rfl rfl <| ixa rfl rfl u_acts sz_Act rfl (by omega) (by omega) <| ldk (cs := acells x) rfl ag_Act sz_Act rfl rfl (fun j u hj => (hA.ext0 hx4).act hxe j u hj) <| new ze_Act rfl <|
        stR (cells := (acells x).toArray) rfl rfl sz_Act (by rw [show acells x = [.int .u8 x.1.toNat, .string (S x.2.1), .string (S x.2.2.1), x.2.2.2.1] from rfl, hbv]; rfl) (heap_new _ _) rfl <| L.nil ?_
      refine N.th ?_
      obtain ⟨w5, hw5⟩ : ∃ w5, w5 = (w4.alloc (.cells (Value.cells (.agg #[.int .u8 0, .string (S []), .string (S []), .slice none 0 0])) tAct)).setRow w4.heap.size (acells x).toArray := ⟨_, rfl⟩
      obtain ⟨f, hf⟩ : ∃ f, f = w4.heap.size := ⟨_, rfl⟩
      have hx45 : Ext none_ w4 w5 := by rw [hw5]; exact (Ext.alloc none_ _ _).trans' (Ext.setRow (S := fun k => k = w4.heap.size) _ (fun _ => rfl) _) (fun i hi e => by omega)
      have hf5 : w5.heap[f]? = some (.cells (acells x).toArray tAct (0, 0)) := by rw [hw5, hf]; exact setRow_heap _ _ _ _ _ _ (heap_new _ _)
      rw [show (w4.alloc (.cells (Value.cells (.agg #[.int .u8 0, .string (S []), .string (S []), .slice none 0 0])) tAct)).setRow w4.heap.size (acells x).toArray = w5 from hw5.symm, ← hf]
      have hB5 := hB.ext0 hx45
      have hx05 := hx4.trans hx45
      have hTwo : ∀ i, i < w.heap.size → Two bt bm i → none_ i := by rintro i hi (e | e) <;> omega
      have hltB := hB.tree.lt
      have hltR := hB.ref.lt
      have hfT : ¬ Two bt bm f := by rintro (e | e) <;> omega
      have hfR : ¬ f = rt := by omega
      refine W.seq ?_
      refine W.reg <| asg rfl rfl <| asg rfl rfl <| L.nil ?_
      refine N.th ?_
      have hd5 : Ext none_ w5 w5.drew := Ext.drew _ _
      have hBd := hB5.ext0 hd5
      have hxd := hx05.trans hd5
      have hTd : Tree none_ w5.drew bt bm m := ⟨hBd.tree, hBd.ok.len, hBd.ok.bytes⟩
      have hfd := hd5.obj hf5 id
      refine W.seqM (fun E' w' => ∃ cc bt' bm', E' = [(7, .int .i64 cc), (8, .int .i64 cc), (6, .pointer (some ⟨f, 0, none⟩)), (5, .int .i64 i), (3, pT bt'), (4, pT rt), (0, .slice (some ⟨ab, ao, none⟩) E.length c)] ∧ w.heap.size ≤ bt' ∧ w.heap.size ≤ bm' ∧ (∃ lv E' m', Both w' bt' bm' rt lv E' m') ∧ w'.heap[f]? = some (.cells (acells x).toArray tAct (0, 0)) ∧ Ext none_ w w') ?_ ?_   -- CUT
      · refine W.seq ?_
        refine W.reg <| fad rfl fl_Act_0 rfl <| ld1 (v := .int .u8 x.1.toNat) rfl ag_u8 rfl (cell_of hf5 rfl) <| remI (c := ((x.1.toNat % 8 : Nat) : Int)) rfl rfl rfl (by decide) rfl ?_
        refine L.nil ?_
        refine N.th ?_
        refine W.block ?_
        -- 0: Write
        refine W.seq ?_
        refine W.reg <| eqlI rfl rfl rfl <| asg rfl rfl <| L.nil ?_
        refine N.th ?_
        refine W.cond rfl (fun h => ?_) (fun h => ?_)
        · refine W.draw [] false (fun w' => w'.heap[f]? = some (.cells (acells x).toArray tAct (0, 0))) [0, 1, 2, 3, 4, 6, 7, 8, 9, 10, 5, 11, 12, 13] rfl rfl (by kernel_rfl) hfd ?_   -- held
          refine mv rfl rfl <| fad rfl fl_Act_1 rfl <| ldK (v := .string (S x.2.1)) rfl ag_str rfl (fun w' h => cell_of h rfl) <| fad rfl fl_Act_3 rfl <| ldK (v := x.2.2.2.1) rfl ag_bytes rfl (fun w' h => cell_of h rfl) <| mv rfl rfl <| fad rfl fl_Act_1 rfl <| ldK (v := .string (S x.2.1)) rfl ag_str rfl (fun w' h => cell_of h rfl) <| fad rfl fl_Act_3 rfl <| ldK (v := x.2.2.2.1) rfl ag_bytes rfl (fun w' h => cell_of h rfl) <|
            callH (vs := [_, _, _]) rfl rfl ok_Write (c_Write x.2.1 hTd ((hA.ext0 hxd).bytes x hxm) (by omega)) ?_
          rintro e w6 ⟨rfl, hT6, hx6⟩
          refine ⟨_, rfl, .inr fun h => hx6.obj h hfT, ?_⟩
          have hR6 := rt_tree hBd.tree hBd.ref hx6
          have hx06 := hxd.trans' hx6 hTwo
          refine callH (vs := [_, _, _]) rfl rfl ok_RWrite (c_RWrite x.2.1 hR6 hBd.same hBd.ok ((hA.ext0 hx06).bytes x hxm) (by omega)) ?_
          rintro e w7 ⟨rfl, ⟨lv', E', hR7, hE7⟩, hx7⟩
          refine ⟨_, rfl, .inr fun h => hx7.obj h hfR, ?_⟩
          refine asg rfl rfl <| asg rfl rfl <| L.nilH ?_
          refine N.inb ?_
          exact N.th (N.meet [(7, _), (8, _), (6, _), (5, _), (3, _), (4, _), (0, _)] ⟨rfl, rfl, rfl, rfl, rfl, rfl, rfl, trivial⟩ ⟨_, bt, bm, rfl, hbt, hbm, ⟨_, _, _, hBd.step (hBd.ok.write _ _) hT6 hR6 hR7 hE7 hx7⟩, hx7.obj (hx6.obj hfd hfT) hfR, hx06.trans' hx7 hRt⟩)   -- MEET
        -- 1: Append
        refine W.seq ?_
        refine W.reg <| eqlI rfl rfl rfl <| asg rfl rfl <| L.nil ?_
        refine N.th ?_
        refine W.cond rfl (fun h => ?_) (fun h => ?_)
        · refine W.draw [] false (fun w' => w'.heap[f]? = some (.cells (acells x).toArray tAct (0, 0))) [0, 1, 2, 3, 4, 6, 7, 8, 9, 10, 5, 11, 12, 13] rfl rfl (by kernel_rfl) hfd ?_   -- held
          refine mv rfl rfl <| fad rfl fl_Act_1 rfl <| ldK (v := .string (S x.2.1)) rfl ag_str rfl (fun w' h => cell_of h rfl) <| fad rfl fl_Act_3 rfl <| ldK (v := x.2.2.2.1) rfl ag_bytes rfl (fun w' h => cell_of h rfl) <| mv rfl rfl <| fad rfl fl_Act_1 rfl <| ldK (v := .string (S x.2.1)) rfl ag_str rfl (fun w' h => cell_of h rfl) <| fad rfl fl_Act_3 rfl <| ldK (v := x.2.2.2.1) rfl ag_bytes rfl (fun w' h => cell_of h rfl) <|
            callH (vs := [_, _, _]) rfl rfl ok_Append (c_Append x.2.1 hTd ((hA.ext0 hxd).bytes x hxm) (by omega)) ?_
          rintro e w6 ⟨rfl, hT6, hx6⟩
          refine ⟨_, rfl, .inr fun h => hx6.obj h hfT, ?_⟩
          have hR6 := rt_tree hBd.tree hBd.ref hx6
          have hx06 := hxd.trans' hx6 hTwo
          refine callH (vs := [_, _, _]) rfl rfl ok_RAppend (c_RAppend x.2.1 hR6 hBd.same hBd.ok ((hA.ext0 hx06).bytes x hxm) (by omega)) ?_
          rintro e w7 ⟨rfl, ⟨lv', E', hR7, hE7⟩, hx7⟩
          refine ⟨_, rfl, .inr fun h => hx7.obj h hfR, ?_⟩
          refine asg rfl rfl <| asg rfl rfl <| L.nilH ?_
          refine N.inb ?_
          exact N.th (N.meet [(7, _), (8, _), (6, _), (5, _), (3, _), (4, _), (0, _)] ⟨rfl, rfl, rfl, rfl, rfl, rfl, rfl, trivial⟩ ⟨_, bt, bm, rfl, hbt, hbm, ⟨_, _, _, hBd.step (hBd.ok.append _ _) hT6 hR6 hR7 hE7 hx7⟩, hx7.obj (hx6.obj hfd hfT) hfR, hx06.trans' hx7 hRt⟩)   -- MEET
        -- 2: Mkdir
        refine W.seq ?_
        refine W.reg <| eqlI rfl rfl rfl <| asg rfl rfl <| L.nil ?_
        refine N.th ?_
        refine W.cond rfl (fun h => ?_) (fun h => ?_)
        · refine W.draw [] false (fun w' => w'.heap[f]? = some (.cells (acells x).toArray tAct (0, 0))) [0, 1, 2, 4, 5, 6, 3, 7, 8, 9] rfl rfl (by kernel_rfl) hfd ?_   -- held
          refine mv rfl rfl <| fad rfl fl_Act_1 rfl <| ldK (v := .string (S x.2.1)) rfl ag_str rfl (fun w' h => cell_of h rfl) <| mv rfl rfl <| fad rfl fl_Act_1 rfl <| ldK (v := .string (S x.2.1)) rfl ag_str rfl (fun w' h => cell_of h rfl) <|
            callH (vs := [_, _]) rfl rfl ok_Mkdir (c_Mkdir x.2.1 hTd) ?_
          rintro e w6 ⟨rfl, hT6, hx6⟩
          refine ⟨_, rfl, .inr fun h => hx6.obj h hfT, ?_⟩
          have hR6 := rt_tree hBd.tree hBd.ref hx6
          have hx06 := hxd.trans' hx6 hTwo
          refine callH (vs := [_, _]) rfl rfl ok_RMkdir (c_RMkdir x.2.1 hR6 hBd.same hBd.ok) ?_
          rintro e w7 ⟨rfl, ⟨lv', E', hR7, hE7⟩, hx7⟩
          refine ⟨_, rfl, .inr fun h => hx7.obj h hfR, ?_⟩
          refine asg rfl rfl <| asg rfl rfl <| L.nilH ?_
          refine N.inb ?_
          exact N.th (N.meet [(7, _), (8, _), (6, _), (5, _), (3, _), (4, _), (0, _)] ⟨rfl, rfl, rfl, rfl, rfl, rfl, rfl, trivial⟩ ⟨_, bt, bm, rfl, hbt, hbm, ⟨_, _, _, hBd.step (hBd.ok.mkdir _) hT6 hR6 hR7 hE7 hx7⟩, hx7.obj (hx6.obj hfd hfT) hfR, hx06.trans' hx7 hRt⟩)   -- MEET
        -- 3: Remove
        refine W.seq ?_
        refine W.reg <| eqlI rfl rfl rfl <| asg rfl rfl <| L.nil ?_
        refine N.th ?_
        refine W.cond rfl (fun h => ?_) (fun h => ?_)
        · refine W.draw [] false (fun w' => w'.heap[f]? = some (.cells (acells x).toArray tAct (0, 0))) [0, 1, 2, 4, 5, 6, 3, 7, 8, 9] rfl rfl (by kernel_rfl) hfd ?_   -- held
          refine mv rfl rfl <| fad rfl fl_Act_1 rfl <| ldK (v := .string (S x.2.1)) rfl ag_str rfl (fun w' h => cell_of h rfl) <| mv rfl rfl <| fad rfl fl_Act_1 rfl <| ldK (v := .string (S x.2.1)) rfl ag_str rfl (fun w' h => cell_of h rfl) <|
            callH (vs := [_, _]) rfl rfl ok_Remove (c_Remove x.2.1 hTd) ?_
          rintro e w6 ⟨rfl, hT6, hx6⟩
          refine ⟨_, rfl, .inr fun h => hx6.obj h hfT, ?_⟩
          have hR6 := rt_tree hBd.tree hBd.ref hx6
          have hx06 := hxd.trans' hx6 hTwo
          refine callH (vs := [_, _]) rfl rfl ok_RRemove (c_RRemove x.2.1 hR6 hBd.same hBd.ok) ?_
          rintro e w7 ⟨rfl, ⟨lv', E', hR7, hE7⟩, hx7⟩
          refine ⟨_, rfl, .inr fun h => hx7.obj h hfR, ?_⟩
          refine asg rfl rfl <| asg rfl rfl <| L.nilH ?_
          refine N.inb ?_
          exact N.th (N.meet [(7, _), (8, _), (6, _), (5, _), (3, _), (4, _), (0, _)] ⟨rfl, rfl, rfl, rfl, rfl, rfl, rfl, trivial⟩ ⟨_, bt, bm, rfl, hbt, hbm, ⟨_, _, _, hBd.step (hBd.ok.remove _) hT6 hR6 hR7 hE7 hx7⟩, hx7.obj (hx6.obj hfd hfT) hfR, hx06.trans' hx7 hRt⟩)   -- MEET
        -- 4: Rename
        refine W.seq ?_
        refine W.reg <| eqlI rfl rfl rfl <| asg rfl rfl <| L.nil ?_
        refine N.th ?_
        refine W.cond rfl (fun h => ?_) (fun h => ?_)
        · refine W.draw [] false (fun w' => w'.heap[f]? = some (.cells (acells x).toArray tAct (0, 0))) [0, 1, 2, 3, 4, 6, 7, 8, 9, 10, 5, 11, 12, 13] rfl rfl (by kernel_rfl) hfd ?_   -- held
          refine mv rfl rfl <| fad rfl fl_Act_1 rfl <| ldK (v := .string (S x.2.1)) rfl ag_str rfl (fun w' h => cell_of h rfl) <| fad rfl fl_Act_2 rfl <| ldK (v := .string (S x.2.2.1)) rfl ag_str rfl (fun w' h => cell_of h rfl) <| mv rfl rfl <| fad rfl fl_Act_1 rfl <| ldK (v := .string (S x.2.1)) rfl ag_str rfl (fun w' h => cell_of h rfl) <| fad rfl fl_Act_2 rfl <| ldK (v := .string (S x.2.2.1)) rfl ag_str rfl (fun w' h => cell_of h rfl) <|
            callH (vs := [_, _, _]) rfl rfl ok_Rename (c_Rename x.2.1 x.2.2.1 hTd hBd.ok.keyl (hBd.ok.copied _ _)) ?_
          rintro e w6 ⟨rfl, hT6, hx6⟩
          refine ⟨_, rfl, .inr fun h => hx6.obj h hfT, ?_⟩
          have hR6 := rt_tree hBd.tree hBd.ref hx6
          have hx06 := hxd.trans' hx6 hTwo
          refine callH (vs := [_, _, _]) rfl rfl ok_RRename (c_RRename x.2.1 x.2.2.1 hR6 hBd.same hBd.ok) ?_
          rintro e w7 ⟨rfl, ⟨lv', E', hR7, hE7⟩, hx7⟩
          refine ⟨_, rfl, .inr fun h => hx7.obj h hfR, ?_⟩
          refine asg rfl rfl <| asg rfl rfl <| L.nilH ?_
          refine N.inb ?_
          exact N.th (N.meet [(7, _), (8, _), (6, _), (5, _), (3, _), (4, _), (0, _)] ⟨rfl, rfl, rfl, rfl, rfl, rfl, rfl, trivial⟩ ⟨_, bt, bm, rfl, hbt, hbm, ⟨_, _, _, hBd.step (hBd.ok.rename _ _) hT6 hR6 hR7 hE7 hx7⟩, hx7.obj (hx6.obj hfd hfT) hfR, hx06.trans' hx7 hRt⟩)   -- MEET
        -- 5: Copy
        refine W.seq ?_
        refine W.reg <| eqlI rfl rfl rfl <| asg rfl rfl <| L.nil ?_
        refine N.th ?_
        refine W.cond rfl (fun h => ?_) (fun h => ?_)
        · refine W.draw [] false (fun w' => w'.heap[f]? = some (.cells (acells x).toArray tAct (0, 0))) [0, 1, 2, 3, 4, 6, 7, 8, 9, 10, 5, 11, 12, 13] rfl rfl (by kernel_rfl) hfd ?_   -- held
          refine mv rfl rfl <| fad rfl fl_Act_1 rfl <| ldK (v := .string (S x.2.1)) rfl ag_str rfl (fun w' h => cell_of h rfl) <| fad rfl fl_Act_2 rfl <| ldK (v := .string (S x.2.2.1)) rfl ag_str rfl (fun w' h => cell_of h rfl) <| mv rfl rfl <| fad rfl fl_Act_1 rfl <| ldK (v := .string (S x.2.1)) rfl ag_str rfl (fun w' h => cell_of h rfl) <| fad rfl fl_Act_2 rfl <| ldK (v := .string (S x.2.2.1)) rfl ag_str rfl (fun w' h => cell_of h rfl) <|
            callH (vs := [_, _, _]) rfl rfl ok_Copy (c_Copy x.2.1 x.2.2.1 hTd hBd.ok.keyl (hBd.ok.copied _ _)) ?_
          rintro e w6 ⟨rfl, hT6, hx6⟩
          refine ⟨_, rfl, .inr fun h => hx6.obj h hfT, ?_⟩
          have hR6 := rt_tree hBd.tree hBd.ref hx6
          have hx06 := hxd.trans' hx6 hTwo
          refine callH (vs := [_, _, _]) rfl rfl ok_RCopy (c_RCopy x.2.1 x.2.2.1 hR6 hBd.same hBd.ok) ?_
          rintro e w7 ⟨rfl, ⟨lv', E', hR7, hE7⟩, hx7⟩
          refine ⟨_, rfl, .inr fun h => hx7.obj h hfR, ?_⟩
          refine asg rfl rfl <| asg rfl rfl <| L.nilH ?_
          refine N.inb ?_
          exact N.th (N.meet [(7, _), (8, _), (6, _), (5, _), (3, _), (4, _), (0, _)] ⟨rfl, rfl, rfl, rfl, rfl, rfl, rfl, trivial⟩ ⟨_, bt, bm, rfl, hbt, hbm, ⟨_, _, _, hBd.step (hBd.ok.cpy _ _) hT6 hR6 hR7 hE7 hx7⟩, hx7.obj (hx6.obj hfd hfT) hfR, hx06.trans' hx7 hRt⟩)   -- MEET
        -- 6: Clone
        refine W.seq ?_
        refine W.reg <| eqlI rfl rfl rfl <| asg rfl rfl <| L.nil ?_
        refine N.th ?_
        refine W.cond rfl (fun h => ?_) (fun h => ?_)
        · refine W.seq ?_
          refine W.reg <| mv rfl rfl <| call (vs := [_]) rfl rfl ok_TClone (c_TClone hB5.tree) ?_
          rintro e w6 ⟨ct, cm, m', rfl, hct, hcm, hC6, hperm, hx6⟩
          refine ⟨_, rfl, ?_⟩
          refine asg rfl rfl <| L.nil ?_
          refine N.th ?_
          refine W.seq ?_
          refine W.seq ?_
          refine W.reg <| mv rfl rfl <| eqlPN rfl u_pTree rfl <| L.nil ?_
          refine N.th ?_
          refine W.condF rfl ?_
          refine W.skip ?_
          refine N.th ?_
          have hB6 := hB5.ext0 hx6
          have hx06 := hx05.trans hx6
          have hf6 := hx6.obj hf5 id
          have hs5 := hx45.size
          have hs4 := hx4.size
          refine W.seq ?_
          refine W.reg <| mv rfl rfl <| fad rfl fl_Act_3 rfl <| ld1 (v := x.2.2.2.1) rfl ag_bytes rfl (cell_of hf6 rfl) <| call (vs := [_, .string (S [122, 122]), _]) rfl rfl ok_Write (c_Write [122, 122] ⟨hB6.tree, hB6.ok.len, hB6.ok.bytes⟩ ((hA.ext0 hx06).bytes x hxm) (by omega)) ?_
          rintro e w7 ⟨rfl, hT7, hx7⟩
          refine ⟨_, rfl, ?_⟩
          refine L.nil ?_
          refine N.th ?_
          refine W.reg <| mv rfl rfl <| asg rfl rfl <| L.nil ?_
          refine N.inb ?_
          have hC7 : TreeAt none_ w7 ct cm m' (Tr.size m') := by rw [Tr.size_perm hperm]; exact hC6.other hB6.tree hx7 (by omega) (by omega)
          exact N.th (N.meet [(7, .int .i64 0), (8, .int .i64 0), (6, _), (5, _), (3, _), (4, _), (0, _)] ⟨rfl, rfl, rfl, rfl, rfl, rfl, rfl, trivial⟩ ⟨0, ct, cm, rfl, by omega, by omega, ⟨_, _, m', ⟨hB6.ok.perm hperm, hC7, rt_tree hB6.tree hB6.ref hx7, by rw [hB6.same, Tr.files_perm hB6.ok.nodup hperm]⟩⟩, hx7.obj hf6 hfT, hx06.trans' hx7 hTwo⟩)   -- MEET
        · refine W.skip ?_
          refine N.inb ?_
          exact N.th (N.meet [(7, .int .i64 0), (8, .int .i64 0), (6, _), (5, _), (3, _), (4, _), (0, _)] ⟨rfl, rfl, rfl, rfl, rfl, rfl, rfl, trivial⟩ ⟨0, bt, bm, rfl, hbt, hbm, ⟨_, _, _, hB5⟩, hf5, hx05⟩)   -- MEET
      rintro E' w6 ⟨cc, bt', bm', rfl, hbt', hbm', ⟨lv6, E6, m6, hB6⟩, hf6, hx06⟩
      clear hB hB5 hBd hTd hfd hxd hd5 hf5 hx05 hx45
      have hml := hB6.ok.len
      have hmb := hB6.ok.bytes
      have hEl := len_of hB6.same
      refine W.seq ?_
      refine W.reg <| mv rfl rfl <| fad rfl fl_Act_1 rfl <| ld1 (v := .string (S x.2.1)) rfl ag_str rfl (cell_of hf6 rfl) <| call (vs := [_, _]) rfl rfl ok_Read (c_Read x.2.1 ⟨hB6.tree, hml, hmb⟩) ?_
      rintro e w7 ⟨rv1, rfl, hr1, hx7⟩
      refine ⟨_, rfl, ?_⟩
      refine mv rfl rfl <| ext rfl rfl rfl <| ext rfl rfl rfl <| asg rfl rfl <| asg rfl rfl <| L.nil ?_
      refine N.th ?_
      have hB7 := hB6.ext0 hx7
      refine W.seq ?_
      refine W.reg <| mv rfl rfl <| fad rfl fl_Act_1 rfl <| ld1 (v := .string (S x.2.1)) rfl ag_str rfl (cell_of (hx7.obj hf6 id) rfl) <| call (vs := [_, _]) rfl rfl ok_RRead (c_RRead x.2.1 hB7.ref hB7.same hB7.ok) ?_
      rintro e w8 ⟨rv2, rfl, hr2, hx8⟩
      refine ⟨_, rfl, ?_⟩
      refine mv rfl rfl <| ext rfl rfl rfl <| ext rfl rfl rfl <| asg rfl rfl <| asg rfl rfl <| L.nil ?_
      refine N.th ?_
      have hx68 := hx7.trans hx8
      have hB8 := hB6.ext0 hx68
      have hf8 := hx68.obj hf6 id
      have hr18 : RowB w8 rv1 (Tr.read m6 x.2.1).1 := (Row.own hr1).ext0 hx8
      have hr28 : RowB w8 rv2 (Tr.read m6 x.2.1).1 := Row.own hr2
      generalize (Tr.read m6 x.2.1).2 = rc
      generalize (Tr.read m6 x.2.1).1 = rb at hr18 hr28
      clear hr1 hr2
      have hd8 : Ext none_ w8 w8.drew := Ext.drew _ _
      refine W.seq ?_
      refine W.draw [9] false (fun w' => Ext none_ w8 w') [0, 1, 2, 3, 4, 5, 6, 7, 8, 9, 10, 11, 12, 13, 14, 15, 16, 17, 18, 20, 21, 22, 19, 23, 24, 25, 26, 27, 29, 28, 30, 31, 32, 33, 34, 36, 37, 38, 39, 35, 40, 41, 42] rfl rfl (by kernel_rfl) hd8 ?_   -- held
      refine mv rfl rfl <| mv rfl rfl <| neqI rfl rfl rfl <| Vc.bf (by simp) ?_
      (repeat (first | refine mv rfl rfl ?_ | refine asg rfl rfl ?_ | refine L.off rfl rfl rfl rfl rfl ?_ | refine L.offU rfl rfl rfl rfl ?_ | refine L.on rfl rfl rfl ?_ | refine pickT rfl rfl rfl ?_ | refine pickF rfl rfl rfl ?_ | refine ext rfl rfl rfl ?_ | refine nilc rfl rfl ?_ | refine lenV (t := 46) rfl u_strs rfl ?_ | refine lenV (t := 25) rfl u_bytes rfl ?_ | refine lenV (t := 22) rfl u_files rfl ?_ | refine lenS (t := 9) rfl u_str rfl ?_ | refine eqlI rfl rfl rfl ?_ | refine neqI rfl rfl rfl ?_ | refine lssI rfl rfl rfl ?_ | refine leqI rfl rfl rfl ?_ | refine gtrI rfl rfl rfl ?_ | refine geqI rfl rfl rfl ?_))
      refine Vc.bf (by simp) ?_
      (repeat (first | refine mv rfl rfl ?_ | refine asg rfl rfl ?_ | refine L.off rfl rfl rfl rfl rfl ?_ | refine L.offU rfl rfl rfl rfl ?_ | refine L.on rfl rfl rfl ?_ | refine pickT rfl rfl rfl ?_ | refine pickF rfl rfl rfl ?_ | refine ext rfl rfl rfl ?_ | refine nilc rfl rfl ?_ | refine lenV (t := 46) rfl u_strs rfl ?_ | refine lenV (t := 25) rfl u_bytes rfl ?_ | refine lenV (t := 22) rfl u_files rfl ?_ | refine lenS (t := 9) rfl u_str rfl ?_ | refine eqlI rfl rfl rfl ?_ | refine neqI rfl rfl rfl ?_ | refine lssI rfl rfl rfl ?_ | refine leqI rfl rfl rfl ?_ | refine gtrI rfl rfl rfl ?_ | refine geqI rfl rfl rfl ?_))
      refine cvtBS (a := rb) rfl u_bytes u_u8 u_str rfl (fun w' h => hr18.ext0 h) ?_
      (repeat (first | refine mv rfl rfl ?_ | refine asg rfl rfl ?_ | refine L.off rfl rfl rfl rfl rfl ?_ | refine L.offU rfl rfl rfl rfl ?_ | refine L.on rfl rfl rfl ?_ | refine pickT rfl rfl rfl ?_ | refine pickF rfl rfl rfl ?_ | refine ext rfl rfl rfl ?_ | refine nilc rfl rfl ?_ | refine lenV (t := 46) rfl u_strs rfl ?_ | refine lenV (t := 25) rfl u_bytes rfl ?_ | refine lenV (t := 22) rfl u_files rfl ?_ | refine lenS (t := 9) rfl u_str rfl ?_ | refine eqlI rfl rfl rfl ?_ | refine neqI rfl rfl rfl ?_ | refine lssI rfl rfl rfl ?_ | refine leqI rfl rfl rfl ?_ | refine gtrI rfl rfl rfl ?_ | refine geqI rfl rfl rfl ?_))
      refine cvtBS (a := rb) rfl u_bytes u_u8 u_str rfl (fun w' h => hr28.ext0 h) ?_
      refine L.on rfl rfl rfl <| neqS rfl rfl rfl <| Vc.bf (by simp) ?_
      (repeat (first | refine mv rfl rfl ?_ | refine asg rfl rfl ?_ | refine L.off rfl rfl rfl rfl rfl ?_ | refine L.offU rfl rfl rfl rfl ?_ | refine L.on rfl rfl rfl ?_ | refine pickT rfl rfl rfl ?_ | refine pickF rfl rfl rfl ?_ | refine ext rfl rfl rfl ?_ | refine nilc rfl rfl ?_ | refine lenV (t := 46) rfl u_strs rfl ?_ | refine lenV (t := 25) rfl u_bytes rfl ?_ | refine lenV (t := 22) rfl u_files rfl ?_ | refine lenS (t := 9) rfl u_str rfl ?_ | refine eqlI rfl rfl rfl ?_ | refine neqI rfl rfl rfl ?_ | refine lssI rfl rfl rfl ?_ | refine leqI rfl rfl rfl ?_ | refine gtrI rfl rfl rfl ?_ | refine geqI rfl rfl rfl ?_))
      refine fad rfl fl_Act_2 rfl <| L.on rfl rfl rfl <| ldK (v := .string (S x.2.2.1)) rfl ag_str rfl (fun w' h => cell_of (h.obj hf8 id) rfl) ?_
      (repeat (first | refine mv rfl rfl ?_ | refine asg rfl rfl ?_ | refine L.off rfl rfl rfl rfl rfl ?_ | refine L.offU rfl rfl rfl rfl ?_ | refine L.on rfl rfl rfl ?_ | refine pickT rfl rfl rfl ?_ | refine pickF rfl rfl rfl ?_ | refine ext rfl rfl rfl ?_ | refine nilc rfl rfl ?_ | refine lenV (t := 46) rfl u_strs rfl ?_ | refine lenV (t := 25) rfl u_bytes rfl ?_ | refine lenV (t := 22) rfl u_files rfl ?_ | refine lenS (t := 9) rfl u_str rfl ?_ | refine eqlI rfl rfl rfl ?_ | refine neqI rfl rfl rfl ?_ | refine lssI rfl rfl rfl ?_ | refine leqI rfl rfl rfl ?_ | refine gtrI rfl rfl rfl ?_ | refine geqI rfl rfl rfl ?_))
      refine fad rfl fl_Act_2 rfl <| L.on rfl rfl rfl <| ldK (v := .string (S x.2.2.1)) rfl ag_str rfl (fun w' h => cell_of (h.obj hf8 id) rfl) ?_
      (repeat (first | refine mv rfl rfl ?_ | refine asg rfl rfl ?_ | refine L.off rfl rfl rfl rfl rfl ?_ | refine L.offU rfl rfl rfl rfl ?_ | refine L.on rfl rfl rfl ?_ | refine pickT rfl rfl rfl ?_ | refine pickF rfl rfl rfl ?_ | refine ext rfl rfl rfl ?_ | refine nilc rfl rfl ?_ | refine lenV (t := 46) rfl u_strs rfl ?_ | refine lenV (t := 25) rfl u_bytes rfl ?_ | refine lenV (t := 22) rfl u_files rfl ?_ | refine lenS (t := 9) rfl u_str rfl ?_ | refine eqlI rfl rfl rfl ?_ | refine neqI rfl rfl rfl ?_ | refine lssI rfl rfl rfl ?_ | refine leqI rfl rfl rfl ?_ | refine gtrI rfl rfl rfl ?_ | refine geqI rfl rfl rfl ?_))
      refine callH (vs := [_, _]) rfl rfl ok_Exists (c_Exists x.2.2.1 (hB8.ext0 hd8).tree) ?_
      rintro e w9 ⟨rfl, hx9⟩
      refine ⟨_, rfl, .inr fun h => h.trans hx9, ?_⟩
      have hx89 := hd8.trans hx9
      have hB9 := hB8.ext0 hx89
      (repeat (first | refine mv rfl rfl ?_ | refine asg rfl rfl ?_ | refine L.off rfl rfl rfl rfl rfl ?_ | refine L.offU rfl rfl rfl rfl ?_ | refine L.on rfl rfl rfl ?_ | refine pickT rfl rfl rfl ?_ | refine pickF rfl rfl rfl ?_ | refine ext rfl rfl rfl ?_ | refine nilc rfl rfl ?_ | refine lenV (t := 46) rfl u_strs rfl ?_ | refine lenV (t := 25) rfl u_bytes rfl ?_ | refine lenV (t := 22) rfl u_files rfl ?_ | refine lenS (t := 9) rfl u_str rfl ?_ | refine eqlI rfl rfl rfl ?_ | refine neqI rfl rfl rfl ?_ | refine lssI rfl rfl rfl ?_ | refine leqI rfl rfl rfl ?_ | refine gtrI rfl rfl rfl ?_ | refine geqI rfl rfl rfl ?_))
      refine callH (vs := [_, _]) rfl rfl ok_RExists (c_RExists x.2.2.1 hB9.ref hB9.same hB9.ok) ?_
      rintro e w10 ⟨rfl, hx10⟩
      refine ⟨_, rfl, .inr fun h => h.trans hx10, ?_⟩
      have hx810 := hx89.trans hx10
      have hB10 := hB8.ext0 hx810
      refine L.on rfl rfl rfl <| neqB rfl rfl u_bool rfl <| Vc.bf (by simp) ?_
      (repeat (first | refine mv rfl rfl ?_ | refine asg rfl rfl ?_ | refine L.off rfl rfl rfl rfl rfl ?_ | refine L.offU rfl rfl rfl rfl ?_ | refine L.on rfl rfl rfl ?_ | refine pickT rfl rfl rfl ?_ | refine pickF rfl rfl rfl ?_ | refine ext rfl rfl rfl ?_ | refine nilc rfl rfl ?_ | refine lenV (t := 46) rfl u_strs rfl ?_ | refine lenV (t := 25) rfl u_bytes rfl ?_ | refine lenV (t := 22) rfl u_files rfl ?_ | refine lenS (t := 9) rfl u_str rfl ?_ | refine eqlI rfl rfl rfl ?_ | refine neqI rfl rfl rfl ?_ | refine lssI rfl rfl rfl ?_ | refine leqI rfl rfl rfl ?_ | refine gtrI rfl rfl rfl ?_ | refine geqI rfl rfl rfl ?_))
      refine callH (vs := [_]) rfl rfl ok_Size (c_Size hB10.tree) ?_
      rintro e w11 ⟨rfl, rfl⟩
      refine ⟨_, rfl, .inr id, ?_⟩
      (repeat (first | refine mv rfl rfl ?_ | refine asg rfl rfl ?_ | refine L.off rfl rfl rfl rfl rfl ?_ | refine L.offU rfl rfl rfl rfl ?_ | refine L.on rfl rfl rfl ?_ | refine pickT rfl rfl rfl ?_ | refine pickF rfl rfl rfl ?_ | refine ext rfl rfl rfl ?_ | refine nilc rfl rfl ?_ | refine lenV (t := 46) rfl u_strs rfl ?_ | refine lenV (t := 25) rfl u_bytes rfl ?_ | refine lenV (t := 22) rfl u_files rfl ?_ | refine lenS (t := 9) rfl u_str rfl ?_ | refine eqlI rfl rfl rfl ?_ | refine neqI rfl rfl rfl ?_ | refine lssI rfl rfl rfl ?_ | refine leqI rfl rfl rfl ?_ | refine gtrI rfl rfl rfl ?_ | refine geqI rfl rfl rfl ?_))
      refine callH (vs := [_]) rfl rfl ok_RSize (c_RSize hB10.ref (by omega) (by rw [hB10.same, Tr.files_size]; omega)) ?_
      rintro e w11 ⟨rfl, rfl⟩
      refine ⟨_, rfl, .inr id, ?_⟩
      rw [show Tr.size (fm E6) = Tr.size m6 by rw [hB10.same, Tr.files_size]]
      refine L.on rfl rfl rfl <| neqI rfl rfl rfl <| Vc.bf (by simp) ?_
      (repeat (first | refine mv rfl rfl ?_ | refine asg rfl rfl ?_ | refine L.off rfl rfl rfl rfl rfl ?_ | refine L.offU rfl rfl rfl rfl ?_ | refine L.on rfl rfl rfl ?_ | refine pickT rfl rfl rfl ?_ | refine pickF rfl rfl rfl ?_ | refine ext rfl rfl rfl ?_ | refine nilc rfl rfl ?_ | refine lenV (t := 46) rfl u_strs rfl ?_ | refine lenV (t := 25) rfl u_bytes rfl ?_ | refine lenV (t := 22) rfl u_files rfl ?_ | refine lenS (t := 9) rfl u_str rfl ?_ | refine eqlI rfl rfl rfl ?_ | refine neqI rfl rfl rfl ?_ | refine lssI rfl rfl rfl ?_ | refine leqI rfl rfl rfl ?_ | refine gtrI rfl rfl rfl ?_ | refine geqI rfl rfl rfl ?_))
      refine fad rfl fl_RT_0 rfl <| L.on rfl rfl rfl <| ldK (v := lv6) rfl ag_files rfl (fun w' h => (hB8.ref.ext0 h).c0) ?_
      (repeat (first | refine mv rfl rfl ?_ | refine asg rfl rfl ?_ | refine L.off rfl rfl rfl rfl rfl ?_ | refine L.offU rfl rfl rfl rfl ?_ | refine L.on rfl rfl rfl ?_ | refine pickT rfl rfl rfl ?_ | refine pickF rfl rfl rfl ?_ | refine ext rfl rfl rfl ?_ | refine nilc rfl rfl ?_ | refine lenV (t := 46) rfl u_strs rfl ?_ | refine lenV (t := 25) rfl u_bytes rfl ?_ | refine lenV (t := 22) rfl u_files rfl ?_ | refine lenS (t := 9) rfl u_str rfl ?_ | refine eqlI rfl rfl rfl ?_ | refine neqI rfl rfl rfl ?_ | refine lssI rfl rfl rfl ?_ | refine leqI rfl rfl rfl ?_ | refine gtrI rfl rfl rfl ?_ | refine geqI rfl rfl rfl ?_))
      refine callH (vs := [_]) rfl rfl ok_Files (c_Files hB10.tree (by omega) (by omega)) ?_
      rintro e w12 ⟨vf, Ef, rfl, hEf, hvf, hff, hx12⟩
      refine ⟨_, rfl, .inr fun h => h.trans hx12, ?_⟩
      have hF12 : FilesAt w12 vf Ef := FilesAt.own hvf fun z hz => Row.own (hff z hz)
      have hEfl := len_of hEf
      (repeat (first | refine mv rfl rfl ?_ | refine asg rfl rfl ?_ | refine L.off rfl rfl rfl rfl rfl ?_ | refine L.offU rfl rfl rfl rfl ?_ | refine L.on rfl rfl rfl ?_ | refine pickT rfl rfl rfl ?_ | refine pickF rfl rfl rfl ?_ | refine ext rfl rfl rfl ?_ | refine nilc rfl rfl ?_ | refine lenV (t := 46) rfl u_strs rfl ?_ | refine lenV (t := 25) rfl u_bytes rfl ?_ | refine lenV (t := 22) rfl u_files rfl ?_ | refine lenS (t := 9) rfl u_str rfl ?_ | refine eqlI rfl rfl rfl ?_ | refine neqI rfl rfl rfl ?_ | refine lssI rfl rfl rfl ?_ | refine leqI rfl rfl rfl ?_ | refine gtrI rfl rfl rfl ?_ | refine geqI rfl rfl rfl ?_))
      refine callH (vs := [_, _]) rfl rfl ok_HFiles (c_HFiles hF12 (hB10.ref.ext0 hx12).files (by omega) (by omega)) ?_
      rintro e w13 ⟨rfl, hx13⟩
      refine ⟨_, rfl, .inr fun h => h.trans hx13, ?_⟩
      refine Vc.bt (decide_eq_true (hEf.trans hB10.same.symm)) ?_
      refine L.on rfl rfl rfl <| notB rfl rfl ?_
      (repeat (first | refine mv rfl rfl ?_ | refine asg rfl rfl ?_ | refine L.off rfl rfl rfl rfl rfl ?_ | refine L.offU rfl rfl rfl rfl ?_ | refine L.on rfl rfl rfl ?_ | refine pickT rfl rfl rfl ?_ | refine pickF rfl rfl rfl ?_ | refine ext rfl rfl rfl ?_ | refine nilc rfl rfl ?_ | refine lenV (t := 46) rfl u_strs rfl ?_ | refine lenV (t := 25) rfl u_bytes rfl ?_ | refine lenV (t := 22) rfl u_files rfl ?_ | refine lenS (t := 9) rfl u_str rfl ?_ | refine eqlI rfl rfl rfl ?_ | refine neqI rfl rfl rfl ?_ | refine lssI rfl rfl rfl ?_ | refine leqI rfl rfl rfl ?_ | refine gtrI rfl rfl rfl ?_ | refine geqI rfl rfl rfl ?_))
      refine L.nilH ?_
      refine N.th ?_
      refine W.condF rfl ?_
      refine W.skip ?_
      refine N.inb ?_
      have hx813 := (hx810.trans hx12).trans hx13
      exact N.th (N.meet [(5, _), (3, _), (4, _), (0, _)] ⟨rfl, rfl, rfl, rfl, trivial⟩ ⟨bt', bm', rfl, hbt', hbm', ⟨_, _, _, hB8.ext0 hx813⟩, (hx06.trans hx68).trans hx813⟩)   -- MEET
    rintro E' w5 ⟨bt', bm', rfl, hbt', hbm', ⟨lv', E', m', hB5⟩, hx5⟩
    refine W.reg <| mv rfl rfl <| addI (c := ((i + 1 : Nat) : Int)) rfl rfl rfl (by rw [w64 (by omega) (by omega)]; simp) <| asg rfl rfl <| L.nil ?_
    exact N.th (N.round (x := (i + 1, bt', bm', m')) ⟨rfl, rfl, rfl, rfl, trivial⟩ ⟨by dsimp only; omega, hbt', hbm', ⟨_, _, hB5⟩, hx5⟩ (by dsimp only; omega))   -- ROUND
  · refine W.exit ?_
    refine N.xth ?_
    refine N.xth ?_
    refine N.xeq ?_
    refine N.th ?_
    refine W.seq ?_
    refine W.reg <| asg rfl rfl <| L.nil ?_
    refine N.th ?_
    refine W.ret ?_
    refine N.ret1 rfl rfl ?_   -- RETURN
    exact ⟨rfl, hx4⟩
end Go.Proofs.YtmdpmpdlkaogdaaGreatDoor
