/- The document's tree in memory; walks: (*haversackref7.Tree).at, Size, ahead. -/
import Derived.Test.YtmdpmpdlkaogdaaGreatDoorRb
import Derived.Test.YtmdpmpdlkaogdaaGreatDoorRx
import Derived.Test.YtmdpmpdlkaogdaaGreatDoorLb
namespace Go.Proofs.YtmdpmpdlkaogdaaGreatDoor
open Go Go.RowKit Vc

abbrev tRT : TypeId := 65
theorem ag_files : aggB P 22 = some false := by kernel_rfl
theorem sz_files : szB P 22 = some 1 := by kernel_rfl
theorem fl_RT_0 : fldB P tRT 0 = some 0 := by kernel_rfl
theorem ok_Rat : FnOk P 77 := ⟨_, Tryz.func77, by kernel_rfl, by kernel_rfl⟩
theorem ok_RSize : FnOk P 55 := ⟨_, Tryz.func55, by kernel_rfl, by kernel_rfl⟩
theorem ok_Rahead : FnOk P 78 := ⟨_, Tryz.func78, by kernel_rfl, by kernel_rfl⟩

/-- Block rt is the document's tree: its list lies at lv, and is E. -/
structure RTAt (w : World) (rt : Nat) (lv : Value) (E : List FE) : Prop where
  cell : w.heap[rt]? = some (.cells #[lv] tRT (0, 0))
  files : FilesAt w lv E
theorem RTAt.ext {S : Nat → Prop} {w w' : World} {rt : Nat} {lv : Value} {E : List FE} (h : RTAt w rt lv E) (hx : Ext S w w') (h1 : ¬ S rt) (hS : ∀ k, S k → ∀ c e fr, w.heap[k]? = some (.cells c e fr) → e ≠ tF ∧ e ≠ tB) : RTAt w' rt lv E :=
  ⟨hx.obj h.cell h1, h.files.ext hx hS⟩
theorem RTAt.ext0 {w w' : World} {rt : Nat} {lv : Value} {E : List FE} (h : RTAt w rt lv E) (hx : Ext none_ w w') : RTAt w' rt lv E := h.ext hx id fun _ h => h.elim
theorem RTAt.lt {w : World} {rt : Nat} {lv : Value} {E : List FE} (h : RTAt w rt lv E) : rt < w.heap.size := lt_of_obj h.cell
theorem RTAt.c0 {w : World} {rt : Nat} {lv : Value} {E : List FE} (h : RTAt w rt lv E) : w.cell? ⟨rt, 0, none⟩ = some lv := cell_of h.cell rfl
/-- The lists that came of it stay, whatever is done to it. -/
theorem rt_kd {w : World} {rt : Nat} {lv : Value} {E : List FE} (h : RTAt w rt lv E) : ∀ k, k = rt → ∀ c e fr, w.heap[k]? = some (.cells c e fr) → e ≠ tF ∧ e ≠ tB := by
  rintro k rfl c e fr hc
  rw [h.cell] at hc; cases hc; exact ⟨by decide, by decide⟩
theorem RTAt.slice {w : World} {rt : Nat} {lv : Value} {E : List FE} (h : RTAt w rt lv E) : ∃ a c, lv = .slice a E.length c ∧ E.length ≤ c := by
  obtain ⟨-, a, c, h1, h2, -⟩ := h.files.row
  exact ⟨a, c, h1, h2⟩
/-- Where there is a file, the list lies somewhere. -/
theorem RTAt.some_ {w : World} {rt : Nat} {a : Option Addr} {n c i : Nat} {E : List FE} {x : FE} (h : RTAt w rt (.slice a n c) E) (hi : E[i]? = some x) : ∃ b o, a = some ⟨b, o, none⟩ ∧ n = E.length ∧ i < E.length := by
  have hlt := (List.getElem?_eq_some_iff.1 hi).1
  rcases h.files.row.form with ⟨h0, h3, _⟩ | ⟨b, o, c', h0, -, -, -, -⟩
  · omega
  · cases h0; exact ⟨b, o, rfl, rfl, hlt⟩
abbrev fm (E : List FE) : Tr.T := E.map fnd
theorem fm_len (E : List FE) : (fm E).length = E.length := by simp
/-- What 'at' tells. -/
def AtR (E : List FE) (p : Tr.Bytes) (k : Int) : Prop := (k = -1 ∧ Tr.get (fm E) p = none) ∨ ∃ (i : Nat) (x : FE), k = i ∧ E[i]? = some x ∧ Tr.get (fm E) p = some (x.2.1, x.2.2.2)
theorem get_fm_none {E : List FE} {p : Tr.Bytes} (h : ∀ x ∈ E, x.1 ≠ p) : Tr.get (fm E) p = none := by
  rw [Tr.get_none]
  intro hm
  obtain ⟨y, hy, rfl⟩ := List.mem_map.1 hm
  obtain ⟨x, hx, rfl⟩ := List.mem_map.1 hy
  exact h x hx rfl

theorem c_Rat {w : World} {rt : Nat} {lv : Value} {E : List FE} (p : Tr.Bytes) (h : RTAt w rt lv E) (hl : E.length ≤ 1000000) :
    Calls P 77 #[pT rt, .string (S p)] w fun e w' => ∃ k, e = .returned (.int .i64 k) ∧ AtR E p k ∧ w = w' := by
  obtain ⟨a, c, rfl, hc⟩ := h.slice
  refine enter (l := [_, _]) (n := 26) Tryz.func77 rfl rfl rfl ?_
  refine W.seq ?_
  refine W.reg <| asg rfl rfl <| L.nil ?_
  refine N.th ?_
  refine W.seq ?_
  refine W.seq ?_
  refine W.reg <| asg rfl rfl <| L.nil ?_
  refine N.th ?_
  refine W.block ?_
  refine W.loop (X := Nat) (fun i => [(0, pT rt), (1, .string (S p)), (5, .int .i64 i)]) (fun i w' => i ≤ E.length ∧ w' = w ∧ ∀ x ∈ E.take i, x.1 ≠ p) (fun i => E.length - i) 0 ⟨rfl, rfl, rfl, trivial⟩ ⟨by omega, rfl, by simp⟩ ?_
  rintro i w1 ⟨hi, rfl, hno⟩
  refine W.seq ?_
  refine W.seq ?_
  refine W.reg <| mv rfl rfl <| mv rfl rfl <| nilc rfl rfl <| fad rfl fl_RT_0 rfl <| ld1 rfl ag_files rfl h.c0 <| lenV rfl u_files rfl <| lssI rfl rfl rfl <| L.nil ?_
  refine N.th ?_
  refine W.cond rfl (fun hh => ?_) (fun hh => ?_)
  · refine W.skip ?_
    refine N.th ?_
    have hi1 : i < E.length := by simp at hh; omega
    obtain ⟨x, hxe⟩ : ∃ x, E[i]? = some x := ⟨_, List.getElem?_eq_getElem hi1⟩
    obtain ⟨b, o, rfl, -, -⟩ := h.some_ hxe
    have hc0 := (h.files.cell hxe).1
    refine W.seq ?_
    refine W.block ?_
    refine W.seq ?_
    refine W.reg <| mv rfl rfl <| nilc rfl rfl <| fad rfl fl_RT_0 rfl <| ld1 rfl ag_files rfl h.c0 <| mv rfl rfl <| ixa rfl rfl u_files sz_File rfl (by omega) (by omega) <| fad rfl fl_File_0 rfl <| ld1 rfl ag_str rfl hc0 <| mv rfl rfl <| eqlS rfl rfl rfl <| L.nil ?_
    refine N.th ?_
    refine W.cond rfl (fun hq => ?_) (fun hq => ?_)
    · refine W.seq ?_
      refine W.reg <| mv rfl rfl <| asg rfl rfl <| L.nil ?_
      refine N.th ?_
      refine W.ret ?_
      refine N.rinb <| N.rth <| N.rth <| N.rinb <| N.rth ?_
      refine N.ret1 rfl rfl ?_   -- RETURN
      have hxp : x.1 = p := by simpa using hq
      refine ⟨_, rfl, .inr ⟨i, x, rfl, hxe, ?_⟩, rfl⟩
      have hsplit : E = E.take i ++ x :: E.drop (i + 1) := by
        have e1 := (List.take_append_drop i E).symm
        obtain ⟨hlt, hbb⟩ := List.getElem?_eq_some_iff.1 hxe
        rw [List.drop_eq_getElem_cons hlt, hbb] at e1
        exact e1
      have hfm : fm E = fm (E.take i) ++ fnd x :: fm (E.drop (i + 1)) := by
        have := congrArg fm hsplit
        rw [this]; simp [fm]
      rw [hfm, Tr.get_app, get_fm_none hno, Tr.get_cons, if_pos (show (fnd x).1 = p from hxp)]
      rfl
    · refine W.skip ?_
      refine N.inb ?_
      refine N.th ?_
      refine W.reg <| mv rfl rfl <| addI (c := ((i + 1 : Nat) : Int)) rfl rfl rfl (by rw [w64 (by omega) (by omega)]; simp) <| asg rfl rfl <| L.nil ?_
      refine N.th (N.round (x := i + 1) ⟨rfl, rfl, rfl, trivial⟩ ⟨by omega, rfl, fun y hy => ?_⟩ (by omega))   -- ROUND
      rw [List.take_add_one, hxe] at hy
      rcases List.mem_append.1 hy with hy | hy
      · exact hno y hy
      · simp at hy; subst hy; simpa using hq
  · refine W.exit ?_
    refine N.xth ?_
    refine N.xth ?_
    refine N.xeq ?_
    refine N.th ?_
    refine W.seq ?_
    refine W.reg <| asg rfl rfl <| L.nil ?_
    refine N.th ?_
    refine W.ret ?_
    refine N.ret1 rfl rfl ?_   -- RETURN
    have hi1 : i = E.length := by simp at hh; omega
    rw [hi1, List.take_length] at hno
    exact ⟨_, rfl, .inl ⟨rfl, get_fm_none hno⟩, rfl⟩

theorem size_fm_take (E : List FE) (i : Nat) : Tr.size (fm (E.take i)) ≤ Tr.size (fm E) := by
  have : fm E = fm (E.take i) ++ fm (E.drop i) := by rw [← List.map_append, List.take_append_drop]
  rw [this, Tr.size_append]; omega
theorem size_fm_snoc (E : List FE) (x : FE) : Tr.size (fm (E ++ [x])) = Tr.size (fm E) + x.2.2.2.length := by
  simp [Tr.size, fnd]

theorem c_RSize {w : World} {rt : Nat} {lv : Value} {E : List FE} (h : RTAt w rt lv E) (hl : E.length ≤ 1000000) (hs : Tr.size (fm E) ≤ 1000000000000) :
    Calls P 55 #[pT rt] w fun e w' => e = .returned (.int .i64 (Tr.size (fm E))) ∧ w = w' := by
  obtain ⟨a, c, rfl, hc⟩ := h.slice
  refine enter (l := [_]) (n := 26) Tryz.func55 rfl rfl rfl ?_
  refine W.seq ?_
  refine W.reg <| asg rfl rfl <| L.nil ?_
  refine N.th ?_
  refine W.seq ?_
  refine W.reg <| asg rfl rfl <| L.nil ?_
  refine N.th ?_
  refine W.seq ?_
  refine W.seq ?_
  refine W.reg <| asg rfl rfl <| L.nil ?_
  refine N.th ?_
  refine W.block ?_
  refine W.loop (X := Nat) (fun i => [(0, pT rt), (3, .int .i64 (Tr.size (fm (E.take i)))), (4, .int .i64 i)]) (fun i w' => i ≤ E.length ∧ w' = w) (fun i => E.length - i) 0 ⟨rfl, rfl, rfl, trivial⟩ ⟨by omega, rfl⟩ ?_
  rintro i w1 ⟨hi, rfl⟩
  refine W.seq ?_
  refine W.seq ?_
  refine W.reg <| mv rfl rfl <| mv rfl rfl <| nilc rfl rfl <| fad rfl fl_RT_0 rfl <| ld1 rfl ag_files rfl h.c0 <| lenV rfl u_files rfl <| lssI rfl rfl rfl <| L.nil ?_
  refine N.th ?_
  refine W.cond rfl (fun hh => ?_) (fun hh => ?_)
  · refine W.skip ?_
    refine N.th ?_
    have hi1 : i < E.length := by simp at hh; omega
    obtain ⟨x, hxe⟩ : ∃ x, E[i]? = some x := ⟨_, List.getElem?_eq_getElem hi1⟩
    obtain ⟨b, o, rfl, -, -⟩ := h.some_ hxe
    have hc2 := (h.files.cell hxe).2.2
    obtain ⟨-, xa, xc, hxv, -⟩ := h.files.bytes x (List.mem_of_getElem? hxe)
    rw [hxv] at hc2
    have htk : E.take (i + 1) = E.take i ++ [x] := by rw [List.take_add_one, hxe]; rfl
    have hsz := size_fm_take E (i + 1)
    have hsn := size_fm_snoc (E.take i) x
    rw [← htk] at hsn
    refine W.seq ?_
    refine W.block ?_
    refine W.reg <| mv rfl rfl <| mv rfl rfl <| nilc rfl rfl <| fad rfl fl_RT_0 rfl <| ld1 rfl ag_files rfl h.c0 <| mv rfl rfl <| ixa rfl rfl u_files sz_File rfl (by omega) (by omega) <| fad rfl fl_File_2 rfl <| ld1 rfl ag_bytes rfl hc2 <| lenV rfl u_bytes rfl <| addI (c := (Tr.size (fm (E.take (i + 1))) : Int)) rfl rfl rfl (by rw [w64 (by omega) (by omega)]; omega) <| asg rfl rfl <| L.nil ?_
    refine N.inb ?_
    refine N.th ?_
    refine W.reg <| mv rfl rfl <| addI (c := ((i + 1 : Nat) : Int)) rfl rfl rfl (by rw [w64 (by omega) (by omega)]; simp) <| asg rfl rfl <| L.nil ?_
    exact N.th (N.round (x := i + 1) ⟨rfl, rfl, rfl, trivial⟩ ⟨by omega, rfl⟩ (by omega))   -- ROUND
  · refine W.exit ?_
    refine N.xth ?_
    refine N.xth ?_
    refine N.xeq ?_
    refine N.th ?_
    refine W.seq ?_
    refine W.reg <| mv rfl rfl <| asg rfl rfl <| L.nil ?_
    refine N.th ?_
    refine W.ret ?_
    refine N.ret1 rfl rfl ?_   -- RETURN
    have hi1 : i = E.length := by simp at hh; omega
    rw [hi1, List.take_length]
    exact ⟨rfl, rfl⟩

theorem ups_take (l : List Sp.Bytes) (i : Nat) : (Tr.ups l).take (i + 1) = (Tr.ups l).take i ++ if i + 1 < l.length then [Sp.glue (l.take (i + 1))] else [] := by
  rw [List.take_add_one]
  congr 1
  unfold Tr.ups
  rw [List.getElem?_map]
  by_cases h : i + 1 < l.length
  · rw [if_pos h, List.getElem?_range (by omega)]; rfl
  · rw [if_neg h, List.getElem?_eq_none (by simp; omega)]; rfl
theorem ups_len (l : List Sp.Bytes) : (Tr.ups l).length = l.length - 1 := by simp [Tr.ups]

theorem c_Rahead {w : World} {rt : Nat} {lv : Value} {E : List FE} (p : Tr.Bytes) (h : RTAt w rt lv E) (hl : E.length ≤ 1000000) (hp : p.length ≤ 1000000) :
    Calls P 78 #[pT rt, .string (S p)] w fun e w' => Ext none_ w w' ∧ match Tr.ahd (fm E) (Tr.ups (Sp.parts p)) with
      | none => e = .returned (.tuple #[.bool true, .slice none 0 0])
      | some k => ∃ v, e = .returned (.tuple #[.bool false, v]) ∧ StrsA w.heap.size w' v k := by
  refine enter (l := [_, _]) (n := 42) Tryz.func78 rfl rfl rfl ?_
  refine W.seq ?_
  refine W.reg <| asg rfl rfl <| asg rfl rfl <| L.nil ?_
  refine N.th ?_
  refine W.seq ?_
  refine W.reg <| asg rfl rfl <| L.nil ?_
  refine N.th ?_
  refine W.seq ?_
  refine W.reg <| mv rfl rfl <| call (vs := [_]) rfl rfl ok_RParts (c_RParts p (by omega) w) ?_
  rintro e w1 ⟨pv, rfl, hpv, hx1⟩
  refine ⟨_, rfl, ?_⟩
  obtain ⟨hps, hpl⟩ := parts_sum p
  generalize Sp.parts p = Ls at hpv hps hpl ⊢
  obtain ⟨la, lc, rfl, hlc, hlm⟩ := own_slice hpv
  refine asg rfl rfl <| L.nil ?_
  refine N.th ?_
  refine W.seq ?_
  refine W.seq ?_
  refine W.reg <| asg rfl rfl <| L.nil ?_
  refine N.th ?_
  refine W.block ?_
  have hs1 := hx1.size
  refine W.loop (X := Nat × List Sp.Bytes × Value) (fun x => [(0, pT rt), (6, x.2.2), (7, .slice la Ls.length lc), (8, .int .i64 ((x.1 : Int) + 1))])
    (fun x w' => x.1 ≤ Ls.length ∧ Tr.ahd (fm E) ((Tr.ups Ls).take x.1) = some x.2.1 ∧ x.2.1.length ≤ x.1 ∧ StrsA w1.heap.size w' x.2.2 x.2.1 ∧ Ext none_ w1 w') (fun x => Ls.length - x.1) (0, [], .slice none 0 0) ⟨rfl, rfl, rfl, rfl, trivial⟩
    ⟨by omega, rfl, by simp, own_nil _ _ _ _, Ext.refl _ _⟩ ?_
  rintro ⟨i, K, v⟩ w2 ⟨hi, hah, hKl, hown, hx2⟩
  dsimp only at hi hah hKl hown ⊢
  refine W.seq ?_
  refine W.seq ?_
  refine W.reg <| mv rfl rfl <| mv rfl rfl <| lenV rfl u_strs rfl <| lssI rfl rfl rfl <| L.nil ?_
  refine N.th ?_
  refine W.cond rfl (fun hh => ?_) (fun hh => ?_)
  · have hi1 : i + 1 < Ls.length := by simp at hh; omega
    refine W.skip ?_
    refine N.th ?_
    obtain ⟨d, hd⟩ : ∃ d, d = Sp.glue (Ls.take (i + 1)) := ⟨_, rfl⟩
    have htk := ups_take Ls i
    rw [if_pos hi1, ← hd] at htk
    have hsn := Tr.ahd_snoc (fm E) d ((Tr.ups Ls).take i)
    rw [← htk, hah] at hsn
    simp only at hsn
    have hR2 := (h.ext0 hx1).ext0 hx2
    have hgl : d.length ≤ 1000000000 := by
      rw [hd]
      have a1 := glue_take_len Ls (i + 1)
      have a2 := glue_len Ls
      omega
    refine W.seqM (fun E' w' => ∃ (K' : List Sp.Bytes) (v' : Value), E' = [(0, pT rt), (6, v'), (7, .slice la Ls.length lc), (8, .int .i64 ((i : Int) + 1))] ∧ Tr.ahd (fm E) ((Tr.ups Ls).take (i + 1)) = some K' ∧ K'.length ≤ i + 1 ∧ StrsA w1.heap.size w' v' K' ∧ Ext none_ w1 w') ?_ ?_   -- CUT
    · refine W.block ?_
      refine W.seq ?_
      have htake := own_take (own_ext hpv hx2 fun _ _ => id) (m := i + 1) (by omega)
      have hrow : Row w2 (.slice la (i + 1) lc) 9 1 (Ls.take (i + 1)).length (encT (Ls.take (i + 1))) := by
        have e1 : (encT Ls).take ((i + 1) * 1) = encT (Ls.take (i + 1)) := by simp [encT, List.map_take]
        have e2 : (Ls.take (i + 1)).length = i + 1 := by rw [List.length_take]; omega
        rw [e1] at htake
        rw [e2]; exact Row.own htake
      refine W.reg <| mv rfl rfl <| mv rfl rfl <| slVh rfl rfl u_strs el_strs.szB rfl (by omega) (by omega) <| call (vs := [.slice la (i + 1) lc]) rfl rfl ok_Rglue (c_Rglue w2 _ (Ls.take (i + 1)) hrow (by rw [← hd]; omega) (by rw [List.length_take]; omega)) ?_
      rintro e w3 ⟨rfl, rfl⟩
      refine ⟨_, rfl, ?_⟩
      rw [← hd]
      refine asg rfl rfl <| L.nil ?_
      refine N.th ?_
      refine W.seq ?_
      refine W.reg <| mv rfl rfl <| mv rfl rfl <| call (vs := [_, _]) rfl rfl ok_Rat (c_Rat d hR2 hl) ?_
      rintro e w3 ⟨k, rfl, hk, rfl⟩
      refine ⟨_, rfl, ?_⟩
      refine asg rfl rfl <| L.nil ?_
      refine N.th ?_
      refine W.seq ?_
      rcases hk with ⟨rfl, hg⟩ | ⟨j, x, rfl, hxe, hg⟩
      · rw [hg] at hsn
        refine W.reg <| mv rfl rfl <| lssI rfl rfl rfl <| L.nil ?_
        refine N.th ?_
        refine W.condT rfl ?_
        refine W.reg <| mv rfl rfl <| mv rfl rfl <| push1 (cs := #[.string (S d)]) rfl rfl rfl rfl (fun _ => by kernel_rfl) el_strs rfl rfl hown (by omega) (by simp only [maxLen]; omega) hx2.size fun v' w4 hown4 hx4 => ?_
        refine asg rfl rfl <| L.nil ?_
        refine N.inb ?_
        exact N.th (N.meet [(0, _), (6, v'), (7, _), (8, _)] ⟨rfl, rfl, rfl, rfl, trivial⟩ ⟨K ++ [d], v', rfl, hsn, by simp; omega, by simpa [StrsA, encT] using hown4, hx2.own hown hx4⟩)   -- MEET
      · rw [hg] at hsn
        simp only at hsn
        obtain ⟨ra, rc, rfl, -⟩ := hR2.slice
        obtain ⟨b, o, rfl, -, hjl⟩ := hR2.some_ hxe
        have hc1 := (hR2.files.cell hxe).2.1
        refine W.reg <| mv rfl rfl <| lssI rfl rfl rfl <| Vc.bf (by simp) <| L.nil ?_
        refine N.th ?_
        refine W.condF rfl ?_
        refine W.seq ?_
        refine W.reg <| mv rfl rfl <| nilc rfl rfl <| fad rfl fl_RT_0 rfl <| ld1 rfl ag_files rfl hR2.c0 <| mv rfl rfl <| ixa rfl rfl u_files sz_File rfl (by omega) (by omega) <| fad rfl fl_File_1 rfl <| ld1 rfl ag_bool rfl hc1 <| notB rfl rfl <| L.nil ?_
        refine N.th ?_
        refine W.cond rfl (fun hq => ?_) (fun hq => ?_)
        · have hx0 : x.2.1 = false := by simpa using hq
          rw [if_neg (by rw [hx0]; simp)] at hsn
          refine W.seq ?_
          refine W.reg <| asg rfl rfl <| asg rfl rfl <| L.nil ?_
          refine N.th ?_
          refine W.ret ?_
          refine N.rinb <| N.rth <| N.rth <| N.rinb <| N.rth ?_
          refine N.ret2 rfl rfl rfl ?_   -- RETURN
          have hall := Tr.ahd_app_none (fm E) ((Tr.ups Ls).drop (i + 1)) _ hsn
          rw [List.take_append_drop] at hall
          rw [hall]
          exact ⟨hx1.trans hx2, rfl⟩
        · have hx0 : x.2.1 = true := by simpa using hq
          rw [if_pos hx0] at hsn
          refine W.skip ?_
          refine N.inb ?_
          exact N.th (N.meet [(0, _), (6, v), (7, _), (8, _)] ⟨rfl, rfl, rfl, rfl, trivial⟩ ⟨K, v, rfl, hsn, by omega, hown, hx2⟩)   -- MEET
    rintro E' w3 ⟨K', v', rfl, hah', hKl', hown', hx3⟩
    refine W.reg <| mv rfl rfl <| addI (c := (((i + 1 : Nat) : Int) + 1)) rfl rfl rfl (by rw [w64 (by omega) (by omega)]; omega) <| asg rfl rfl <| L.nil ?_
    exact N.th (N.round (x := (i + 1, K', v')) ⟨rfl, rfl, rfl, rfl, trivial⟩ ⟨by dsimp only; omega, hah', hKl', hown', hx3⟩ (by dsimp only; omega))   -- ROUND
  · refine W.exit ?_
    refine N.xth ?_
    refine N.xth ?_
    refine N.xeq ?_
    refine N.th ?_
    refine W.seq ?_
    refine W.reg <| mv rfl rfl <| asg rfl rfl <| asg rfl rfl <| L.nil ?_
    refine N.th ?_
    refine W.ret ?_
    refine N.ret2 rfl rfl rfl ?_   -- RETURN
    have hi1 : Ls.length ≤ i + 1 := by simp at hh; omega
    rw [List.take_of_length_le (by rw [ups_len]; omega)] at hah
    rw [hah]
    exact ⟨hx1.trans hx2, v, rfl, own_more hown hs1⟩
end Go.Proofs.YtmdpmpdlkaogdaaGreatDoor
