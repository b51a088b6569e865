/- Walks: haversackhelp.Files, haversacklaw8.name. -/
import Derived.Test.YtmdpmpdlkaogdaaGreatDoorTj
import Derived.Test.YtmdpmpdlkaogdaaGreatDoorVs
namespace Go.Proofs.YtmdpmpdlkaogdaaGreatDoor
open Go Go.RowKit Vc

theorem ok_HFiles : FnOk P 24 := ⟨_, Tryz.func24, by kernel_rfl, by kernel_rfl⟩
theorem ok_name : FnOk P 30 := ⟨_, Tryz.func30, by kernel_rfl, by kernel_rfl⟩

def nameD : List Tr.Bytes := [[], [97, 47], [98, 47, 99, 47], [98, 47, 100, 47]]
def nameB (k : UInt8) : Tr.Bytes := (nameD[k.toNat / 64]?.getD [] ++ [102]) ++ [UInt8.ofNat (97 + k.toNat % 26)]
theorem nameB_len (k : UInt8) : (nameB k).length ≤ 6 := by
  have : k.toNat / 64 < 4 := by have := k.toNat_lt; omega
  unfold nameB nameD
  rcases hk : k.toNat / 64 with _ | _ | _ | _ | j
  · simp
  · simp
  · simp
  · simp
  · omega

theorem c_name (k : UInt8) (w : World) : Calls P 30 #[.int .u8 k.toNat] w fun e w' => e = .returned (.string (S (nameB k))) ∧ Ext none_ w w' := by
  have hk := k.toNat_lt
  refine enter (l := [_]) (n := 17) Tryz.func30 rfl rfl rfl ?_
  refine W.seq ?_
  refine W.reg <| asg rfl rfl <| L.nil ?_
  refine N.th ?_
  refine W.seq ?_
  refine W.reg <| bls (vs := #[(0, .string (S [])), (1, .string (S [97, 47])), (2, .string (S [98, 47, 99, 47])), (3, .string (S [98, 47, 100, 47]))]) (cs := #[.string (S []), .string (S [97, 47]), .string (S [98, 47, 99, 47]), .string (S [98, 47, 100, 47])]) (e := 9) rfl rfl (fun _ => by kernel_rfl) <| mv rfl rfl <|
    quoI (c := ((k.toNat / 64 : Nat) : Int)) rfl rfl rfl (by decide) (by rw [show ((k.toNat : Int).tdiv 64) = ((k.toNat / 64 : Nat) : Int) from rfl]; exact wu8 (by omega) (by omega)) <| ?_
  obtain ⟨w1, hw1⟩ : ∃ w1, w1 = w.alloc (.cells #[.string (S []), .string (S [97, 47]), .string (S [98, 47, 99, 47]), .string (S [98, 47, 100, 47])] 9) := ⟨_, rfl⟩
  have hb : w1.heap[w.heap.size]? = some (.cells #[.string (S []), .string (S [97, 47]), .string (S [98, 47, 99, 47]), .string (S [98, 47, 100, 47])] 9 (0, 0)) := by rw [hw1]; exact heap_new _ _
  have hx1 : Ext none_ w w1 := by rw [hw1]; exact Ext.alloc _ _ _
  rw [← hw1]
  have hcell : w1.cell? ⟨w.heap.size, 0 + (k.toNat / 64) * 1, none⟩ = some (.string (S (nameD[k.toNat / 64]?.getD []))) := by
    have : k.toNat / 64 < 4 := by omega
    rcases hk2 : k.toNat / 64 with _ | _ | _ | _ | j
    · exact cell_of hb rfl
    · exact cell_of hb rfl
    · exact cell_of hb rfl
    · exact cell_of hb rfl
    · omega
  have hnl : (nameD[k.toNat / 64]?.getD []).length ≤ 4 := by
    have := nameB_len k
    unfold nameB at this
    simp at this; omega
  refine ixa rfl rfl u_strs sz_str rfl (by omega) (by omega) <| ld1 rfl ag_str rfl hcell <| asg rfl rfl <| L.nil ?_
  refine N.th ?_
  refine W.seq ?_
  have hc : (UInt8.ofNat (97 + k.toNat % 26)).toNat = 97 + k.toNat % 26 := by simp; omega
  refine W.reg <| mv rfl rfl <| addS (b := [102]) rfl rfl rfl (by simp; omega) <| mv rfl rfl <| remI (c := ((k.toNat % 26 : Nat) : Int)) rfl rfl rfl (by decide) rfl <|
    addI (c := ((97 + k.toNat % 26 : Nat) : Int)) rfl rfl rfl (by rw [wu8 (by omega) (by omega)]; omega) <| bls (vs := #[(0, .int .u8 ((97 + k.toNat % 26 : Nat) : Int))]) (cs := #[.int .u8 ((97 + k.toNat % 26 : Nat) : Int)]) (e := tB) rfl rfl (fun _ => by kernel_rfl) <|
    cvtBS (a := [UInt8.ofNat (97 + k.toNat % 26)]) rfl u_bytes u_u8 u_str rfl (Kn.here ?_) <| addS rfl rfl rfl (by simp; omega) <| asg rfl rfl <| L.nil ?_
  · refine ⟨rfl, some ⟨w1.heap.size, 0, none⟩, 1, rfl, Nat.le_refl _, by simp [maxLen], (fun h => by cases h), fun ad had => ?_⟩
    cases had
    refine ⟨_, _, rfl, heap_new _ _, Nat.le_refl _, ?_⟩
    simp [encB]; omega
  refine N.th ?_
  refine W.ret ?_
  refine N.ret1 rfl rfl ?_   -- RETURN
  exact ⟨rfl, hx1.trans (Ext.alloc _ _ _)⟩

theorem FilesAt.ext {S : Nat → Prop} {w w' : World} {v : Value} {E : List FE} (h : FilesAt w v E) (hx : Ext S w w') (hS : ∀ k, S k → ∀ c e fr, w.heap[k]? = some (.cells c e fr) → e ≠ tF ∧ e ≠ tB) : FilesAt w' v E :=
  ⟨h.row.ext hx fun k hk hk2 => by obtain ⟨c, fr, hc⟩ := h.row.kind k hk; exact (hS k hk2 _ _ _ hc).1 rfl,
   fun x hm => (h.bytes x hm).ext hx fun k hk hk2 => by obtain ⟨c, fr, hc⟩ := (h.bytes x hm).kind k hk; exact (hS k hk2 _ _ _ hc).2 rfl⟩
theorem FilesAt.ext0 {w w' : World} {v : Value} {E : List FE} (h : FilesAt w v E) (hx : Ext none_ w w') : FilesAt w' v E := h.ext hx fun _ h => h.elim
theorem FilesAt.cell {w : World} {b o n c i : Nat} {E : List FE} {x : FE} (h : FilesAt w (.slice (some ⟨b, o, none⟩) n c) E) (hi : E[i]? = some x) : w.cell? ⟨b, o + i * 3 + 0, none⟩ = some (.string (S x.1)) ∧ w.cell? ⟨b, o + i * 3 + 1, none⟩ = some (.bool x.2.1) ∧ w.cell? ⟨b, o + i * 3 + 2, none⟩ = some x.2.2.1 := by
  have hg : ∀ j, j < 3 → (E.flatMap fcells)[i * 3 + j]? = (fcells x)[j]? := fun j hj => by
    rw [flat_get fcells 3 fcells_len (by omega), show (i * 3 + j) / 3 = i by omega, show (i * 3 + j) % 3 = j by omega, hi]; rfl
  refine ⟨?_, ?_, ?_⟩
  · rw [Nat.add_assoc]; exact h.row.cells rfl _ _ (hg 0 (by omega))
  · rw [Nat.add_assoc]; exact h.row.cells rfl _ _ (hg 1 (by omega))
  · rw [Nat.add_assoc]; exact h.row.cells rfl _ _ (hg 2 (by omega))

theorem fnd_eq (x y : FE) : decide (fnd x = fnd y) = (x.1 == y.1 && (x.2.1 == y.2.1 && x.2.2.2 == y.2.2.2)) := by
  rw [Bool.eq_iff_iff]
  simp [fnd, Prod.ext_iff]

theorem c_HFiles {w : World} {v1 v2 : Value} {E1 E2 : List FE} (h1 : FilesAt w v1 E1) (h2 : FilesAt w v2 E2) (hl1 : E1.length ≤ 1000000000) (_hl2 : E2.length ≤ 1000000000) :
    Calls P 24 #[v1, v2] w fun e w' => e = .returned (.bool (decide (E1.map fnd = E2.map fnd))) ∧ Ext none_ w w' := by
  obtain ⟨-, a1, c1, rfl, hn1, hm1, -, -⟩ := id h1.row
  obtain ⟨-, a2, c2, rfl, hn2, hm2, -, -⟩ := id h2.row
  refine enter (l := [_, _]) (n := 56) Tryz.func24 rfl rfl rfl ?_
  refine W.seq ?_
  refine W.reg <| asg rfl rfl <| L.nil ?_
  refine N.th ?_
  refine W.seq ?_
  refine W.seq ?_
  refine W.reg <| mv rfl rfl <| lenV rfl u_files rfl <| mv rfl rfl <| lenV rfl u_files rfl <| neqI rfl rfl rfl <| L.nil ?_
  refine N.th ?_
  refine W.cond rfl (fun h => ?_) (fun h => ?_)
  · refine W.seq ?_
    refine W.reg <| asg rfl rfl <| L.nil ?_
    refine N.th ?_
    refine W.ret ?_
    refine N.rth ?_
    refine N.ret1 rfl rfl ?_   -- RETURN
    have hne : E1.map fnd ≠ E2.map fnd := fun e => by
      have := congrArg List.length e
      simp at this h
      omega
    exact ⟨by rw [decide_eq_false hne], Ext.refl _ _⟩
  have hll : E1.length = E2.length := by simp at h; omega
  refine W.skip ?_
  refine N.th ?_
  refine W.seq ?_
  refine W.seq ?_
  refine W.reg <| asg rfl rfl <| L.nil ?_
  refine N.th ?_
  refine W.block ?_
  refine W.loop (X := Nat) (fun i => [(5, .int .i64 i), (0, .slice a1 E1.length c1), (1, .slice a2 E2.length c2)]) (fun i w' => i ≤ E1.length ∧ (E1.take i).map fnd = (E2.take i).map fnd ∧ Ext none_ w w') (fun i => E1.length - i) 0 ⟨rfl, rfl, rfl, trivial⟩ ⟨by omega, rfl, Ext.refl _ _⟩ ?_
  rintro i w1 ⟨hi, heq, hx⟩
  refine W.seq ?_
  refine W.seq ?_
  refine W.reg <| mv rfl rfl <| mv rfl rfl <| lenV rfl u_files rfl <| lssI rfl rfl rfl <| L.nil ?_
  refine N.th ?_
  refine W.cond rfl (fun h => ?_) (fun h => ?_)
  · refine W.skip ?_
    refine N.th ?_
    have hi1 : i < E1.length := by simp at h; omega
    obtain ⟨x, hxe⟩ : ∃ x, E1[i]? = some x := ⟨_, List.getElem?_eq_getElem hi1⟩
    obtain ⟨y, hye⟩ : ∃ y, E2[i]? = some y := ⟨_, List.getElem?_eq_getElem (by omega)⟩
    have hxm : x ∈ E1 := List.mem_of_getElem? hxe
    have hym : y ∈ E2 := List.mem_of_getElem? hye
    rcases h1.row.form with ⟨h0, h3, _⟩ | ⟨b1, o1, c1', h0, -⟩
    · omega
    rcases h2.row.form with ⟨h0', h3, _⟩ | ⟨b2, o2, c2', h0', -⟩
    · omega
    cases h0; cases h0'
    have hA := h1.ext0 (hx.trans (Ext.drew none_ w1))
    have hB := h2.ext0 (hx.trans (Ext.drew none_ w1))
    have k1 : ∀ w', Ext none_ w1.drew w' → _ := fun w' h => (hA.ext0 h).cell hxe
    have k2 : ∀ w', Ext none_ w1.drew w' → _ := fun w' h => (hB.ext0 h).cell hye
    have hneq : (E1.map fnd = E2.map fnd) → fnd x = fnd y := fun e => by
      have := congrArg (fun l => l[i]?) e
      simpa [hxe, hye] using this
    refine W.seq ?_
    refine W.block ?_
    refine W.seqM (fun E w' => ∃ b, E = [(55, .bool b), (5, .int .i64 i), (0, .slice (some ⟨b1, o1, none⟩) E1.length c1), (1, .slice (some ⟨b2, o2, none⟩) E2.length c2)] ∧ w' = w1.drew ∧ b = !decide (fnd x = fnd y)) ?_ ?_
    · refine W.draw [9] false (fun w' => Ext none_ w1.drew w') [0, 1, 2, 3, 4, 5, 6, 7, 8, 9, 10, 11, 12, 13, 14, 15, 16, 17, 18, 19, 20, 21, 22, 23, 24, 25, 26, 27, 28, 29, 30, 31, 32, 33, 34, 35, 36, 37, 38] rfl rfl (by kernel_rfl) (Ext.refl _ _) ?_   -- held
      refine mv rfl rfl <| mv rfl rfl <| ixa rfl rfl u_files sz_File rfl (by omega) (by omega) <| fad rfl fl_File_0 rfl <| ldK (v := .string (S x.1)) rfl ag_str rfl (fun w' h => (k1 w' h).1) <| mv rfl rfl <| mv rfl rfl <| ixa rfl rfl u_files sz_File rfl (by omega) (by omega) <| fad rfl fl_File_0 rfl <| ldK (v := .string (S y.1)) rfl ag_str rfl (fun w' h => (k2 w' h).1) <| neqS rfl rfl rfl <| ?_
      rw [fnd_eq]
      cases hp : (x.1 == y.1) with
      | false =>
        refine mv rfl rfl <| L.off rfl rfl rfl rfl rfl <| L.off rfl rfl rfl rfl rfl <| L.off rfl rfl rfl rfl rfl <| L.off rfl rfl rfl rfl rfl <| L.off rfl rfl rfl rfl rfl <| L.off rfl rfl rfl rfl rfl <| L.off rfl rfl rfl rfl rfl <| L.off rfl rfl rfl rfl rfl <| L.off rfl rfl rfl rfl rfl <| L.off rfl rfl rfl rfl rfl <| L.off rfl rfl rfl rfl rfl <| pickT rfl rfl rfl <| mv rfl rfl <|
          L.off rfl rfl rfl rfl rfl <| L.off rfl rfl rfl rfl rfl <| L.off rfl rfl rfl rfl rfl <| L.off rfl rfl rfl rfl rfl <| L.off rfl rfl rfl rfl rfl <| L.off rfl rfl rfl rfl rfl <| L.off rfl rfl rfl rfl rfl <| L.off rfl rfl rfl rfl rfl <| L.off rfl rfl rfl rfl rfl <| L.off rfl rfl rfl rfl rfl <| L.off rfl rfl rfl rfl rfl <| L.off rfl rfl rfl rfl rfl <| L.off rfl rfl rfl rfl rfl <| pickT rfl rfl rfl <| L.nilH ?_
        exact N.th (N.meet [(55, .bool true), (5, _), (0, _), (1, _)] ⟨rfl, rfl, rfl, rfl, trivial⟩ ⟨true, rfl, rfl, rfl⟩)
      | true =>
        refine mv rfl rfl <| L.on rfl rfl rfl <| mv rfl rfl <| L.on rfl rfl rfl <| mv rfl rfl <| L.on rfl rfl rfl <| ixa rfl rfl u_files sz_File rfl (by omega) (by omega) <| L.on rfl rfl rfl <| fad rfl fl_File_1 rfl <| L.on rfl rfl rfl <| ldK (v := .bool x.2.1) rfl ag_bool rfl (fun w' h => (k1 w' h).2.1) <| L.on rfl rfl rfl <| mv rfl rfl <| L.on rfl rfl rfl <| mv rfl rfl <| L.on rfl rfl rfl <| ixa rfl rfl u_files sz_File rfl (by omega) (by omega) <| L.on rfl rfl rfl <| fad rfl fl_File_1 rfl <| L.on rfl rfl rfl <| ldK (v := .bool y.2.1) rfl ag_bool rfl (fun w' h => (k2 w' h).2.1) <| L.on rfl rfl rfl <| neqB rfl rfl u_bool rfl <| pickF rfl rfl rfl <| ?_
        cases hq : (x.2.1 == y.2.1) with
        | false =>
          refine mv rfl rfl <| L.off rfl rfl rfl rfl rfl <| L.off rfl rfl rfl rfl rfl <| L.off rfl rfl rfl rfl rfl <| L.off rfl rfl rfl rfl rfl <| L.off rfl rfl rfl rfl rfl <| L.off rfl rfl rfl rfl rfl <| L.off rfl rfl rfl rfl rfl <| L.off rfl rfl rfl rfl rfl <| L.off rfl rfl rfl rfl rfl <| L.off rfl rfl rfl rfl rfl <| L.off rfl rfl rfl rfl rfl <| L.off rfl rfl rfl rfl rfl <| L.off rfl rfl rfl rfl rfl <| pickT rfl rfl rfl <| L.nilH ?_
          exact N.th (N.meet [(55, .bool true), (5, _), (0, _), (1, _)] ⟨rfl, rfl, rfl, rfl, trivial⟩ ⟨true, rfl, rfl, rfl⟩)
        | true =>
          refine mv rfl rfl <| L.on rfl rfl rfl <| mv rfl rfl <| L.on rfl rfl rfl <| mv rfl rfl <| L.on rfl rfl rfl <| ixa rfl rfl u_files sz_File rfl (by omega) (by omega) <| L.on rfl rfl rfl <| fad rfl fl_File_2 rfl <| L.on rfl rfl rfl <| ldK (v := x.2.2.1) rfl ag_bytes rfl (fun w' h => (k1 w' h).2.2) <| L.on rfl rfl rfl <| cvtBS (a := x.2.2.2) rfl u_bytes u_u8 u_str rfl (fun w' h => (hA.ext0 h).bytes x hxm) <| L.on rfl rfl rfl <| mv rfl rfl <| L.on rfl rfl rfl <| mv rfl rfl <| L.on rfl rfl rfl <| ixa rfl rfl u_files sz_File rfl (by omega) (by omega) <| L.on rfl rfl rfl <| fad rfl fl_File_2 rfl <| L.on rfl rfl rfl <| ldK (v := y.2.2.1) rfl ag_bytes rfl (fun w' h => (k2 w' h).2.2) <| L.on rfl rfl rfl <| cvtBS (a := y.2.2.2) rfl u_bytes u_u8 u_str rfl (fun w' h => (hB.ext0 h).bytes y hym) <| L.on rfl rfl rfl <| neqS rfl rfl rfl <| pickF rfl rfl rfl <| L.nilH ?_
          exact N.th (N.meet [(55, .bool (!(x.2.2.2 == y.2.2.2))), (5, _), (0, _), (1, _)] ⟨rfl, rfl, rfl, rfl, trivial⟩ ⟨_, rfl, rfl, rfl⟩)
    rintro E w2 ⟨b, rfl, rfl, hb⟩
    refine W.cond rfl (fun h => ?_) (fun h => ?_)
    · refine W.seq ?_
      refine W.reg <| asg rfl rfl <| L.nil ?_
      refine N.th ?_
      refine W.ret ?_
      refine N.rinb <| N.rth <| N.rth <| N.rinb <| N.rth ?_
      refine N.ret1 rfl rfl ?_   -- RETURN
      have hne : E1.map fnd ≠ E2.map fnd := fun e => by rw [hb] at h; simp [hneq e] at h
      exact ⟨by rw [decide_eq_false hne], hx.trans (Ext.drew _ _)⟩
    · refine W.skip ?_
      refine N.inb ?_
      refine N.th ?_
      refine W.reg <| mv rfl rfl <| addI (c := (i : Int) + 1) rfl rfl rfl (w64 (by omega) (by omega)) <| asg rfl rfl <| L.nil ?_
      have hf : fnd x = fnd y := by rw [hb] at h; simpa using h
      refine N.th (N.round (x := i + 1) ⟨?_, rfl, rfl, trivial⟩ ⟨by omega, ?_, hx.trans (Ext.drew _ _)⟩ (by omega))   -- ROUND
      · simp [getE]
      · rw [List.take_add_one, List.take_add_one, hxe, hye]
        simp [heq, hf]
  · refine W.exit ?_
    refine N.xth ?_
    refine N.xth ?_
    refine N.xeq ?_
    refine N.th ?_
    refine W.seq ?_
    refine W.reg <| asg rfl rfl <| L.nil ?_
    refine N.th ?_
    refine W.ret ?_
    refine N.ret1 rfl rfl ?_   -- RETURN
    have hi1 : i = E1.length := by simp at h; omega
    have he : E1.map fnd = E2.map fnd := by
      rw [hi1, List.take_length, hll, List.take_length] at heq; exact heq
    exact ⟨by rw [decide_eq_true he], hx⟩
end Go.Proofs.YtmdpmpdlkaogdaaGreatDoor
