/- path.Join from the root, path.Clean. -/
import Derived.Test.YtmdpmpdlkaogdaaGreatDoorPd
namespace Go.Proofs.YtmdpmpdlkaogdaaGreatDoor
open Go Go.RowKit Vc

theorem ok_walk : FnOk P 117 := ⟨_, Tryz.func117, by kernel_rfl, by kernel_rfl⟩
theorem ok_Parts : FnOk P 118 := ⟨_, Tryz.func118, by kernel_rfl, by kernel_rfl⟩
theorem ok_Join : FnOk P 100 := ⟨_, Tryz.func100, by kernel_rfl, by kernel_rfl⟩
theorem ok_Clean : FnOk P 70 := ⟨_, Tryz.func70, by kernel_rfl, by kernel_rfl⟩

theorem c_walk_abs (w : World) (a : Option Addr) (m cp : Nat) (s : Sp.Bytes) (hs : s.head? = some 47) :
    Calls P 117 #[.slice a m cp, .string (S s)] w fun e w' => e = .returned (.tuple #[.slice none 0 0, .int .i64 51]) ∧ Ext none_ w w' := by
  refine enterM (n := 44) Tryz.func117 rfl rfl rfl ?_
  refine W.seq ?_
  refine W.reg <| box rfl rfl <| new ze_strs rfl <| new ze_Errno rfl <| L.nil ?_
  refine N.th ?_
  refine W.seq ?_
  obtain ⟨w1, hw1⟩ : ∃ w1, ((w.alloc (.cells (Value.slice a m cp).cells 46)).alloc (.cells (Value.slice none 0 0).cells 46)).alloc (.cells (Value.int .i64 0).cells 32) = w1 := ⟨_, rfl⟩
  have hz1 : w1.heap.size = w.heap.size + 3 := by rw [← hw1]; simp
  have hx1 : Ext none_ w w1 := by rw [← hw1]; exact ((Ext.alloc _ _ _).trans (Ext.alloc _ _ _)).trans (Ext.alloc _ _ _)
  have hb0 : w1.heap[w.heap.size]? = some (.cells #[.slice a m cp] 46) := by
    rw [← hw1]; exact (heap_alloc _ _ (by simp; omega)).trans ((heap_alloc _ _ (by simp)).trans (heap_new w _))
  have hb1 : w1.heap[w.heap.size + 1]? = some (.cells #[.slice none 0 0] 46) := by
    rw [← hw1]
    have h := heap_new (w.alloc (.cells (Value.slice a m cp).cells 46)) (.cells (Value.slice none 0 0).cells 46)
    rw [World.size_alloc] at h
    exact (heap_alloc _ _ (by simp)).trans h
  have hb2 : w1.heap[w.heap.size + 2]? = some (.cells #[.int .i64 0] 32) := by
    rw [← hw1]
    have h := heap_new ((w.alloc (.cells (Value.slice a m cp).cells 46)).alloc (.cells (Value.slice none 0 0).cells 46)) (.cells (Value.int .i64 0).cells 32)
    rw [World.size_alloc, World.size_alloc] at h
    exact h
  have e4 : (w.alloc (.cells (Value.slice a m cp).cells 46)).heap.size = w.heap.size + 1 := by simp
  have e5 : ((w.alloc (.cells (Value.slice a m cp).cells 46)).alloc (.cells (Value.slice none 0 0).cells 46)).heap.size = w.heap.size + 2 := by simp
  rw [hw1, e4, e5]
  refine N.sub (F := [(1, .string (S s)), (2, .pointer (some ⟨w.heap.size, 0, none⟩)), (4, .pointer (some ⟨w.heap.size + 1, 0, none⟩)), (5, .pointer (some ⟨w.heap.size + 2, 0, none⟩))]) ⟨rfl, rfl, rfl, rfl, trivial⟩ ?_
  refine W.reg <| ld1 rfl ag_strs rfl (cell1 hb0) <| lenV rfl u_strs rfl <| new ze_int rfl <| st1 rfl rfl sz_int (v := .int .i64 m) rfl (heap_new w1 _) rfl <| L.nil ?_
  refine N.th ?_
  obtain ⟨w2, hw2⟩ : ∃ w2, (w1.alloc (.cells (Value.int .i64 0).cells 3)).setCell ⟨w1.heap.size, 0, none⟩ (.int .i64 m) = w2 := ⟨_, rfl⟩
  have hx2 : Ext none_ w1 w2 := by
    rw [← hw2]
    exact (Ext.alloc _ _ _).trans' (Ext.setCell (S := fun k => k = w1.heap.size) _ (fun _ => rfl) _) (fun i hi e => by omega)
  rw [hw2]
  refine W.seq <| W.seq ?_
  refine W.reg <| mv rfl rfl <| call (vs := [_, _]) rfl rfl ok_HasPrefix (c_HasPrefix s [47] _) ?_
  rintro e w' ⟨rfl, rfl⟩
  refine ⟨_, rfl, bt ?_ <| L.nil ?_⟩
  · cases s with
    | nil => cases hs
    | cons c s => simp at hs; simp [List.isPrefixOf, hs]
  have r1 := hx2.obj hb1 id
  have r2 := hx2.obj hb2 id
  refine N.th <| W.condT rfl <| W.seq ?_
  refine W.reg <| st1 rfl rfl sz_strs rfl r1 rfl <| st1 rfl rfl sz_Errno rfl ((setCell_other (by simp) _).trans r2) rfl <| L.nil ?_
  refine N.th <| W.ret <| N.rth ?_
  refine N.retC2 rfl rfl rfl ag_strs ag_Errno (cell1 ((setCell_other (by simp) _).trans (set1 r1 _))) (cell1 (set1 ((setCell_other (by simp) _).trans r2) _)) ⟨rfl, ?_⟩
  exact (hx1.trans hx2).trans' (ext_two w2 _ _ _) (fun i hi h => by omega)

theorem glue_eq (ls : List Sp.Bytes) : Lib.join ls [47] = Sp.glue ls := by
  induction ls with
  | nil => rfl
  | cons x l ih =>
    cases l with
    | nil => simp [Sp.glue, Lib.join_one]
    | cons y l =>
      rw [Sp.glue, ← ih]
      simp [Lib.join, List.intercalate, List.intersperse]
theorem glue_len (ls : List Sp.Bytes) : (Sp.glue ls).length ≤ (ls.map (fun x => x.length + 1)).sum := by
  induction ls with
  | nil => simp [Sp.glue]
  | cons x l ih =>
    cases l with
    | nil => simp [Sp.glue]
    | cons y l => rw [Sp.glue]; simp at ih ⊢; omega

theorem c_JoinS (w : World) (v : Value) (ls : List Sp.Bytes) (h : Row w v 9 1 ls.length (encT ls)) (hlen : (Sp.glue ls).length ≤ 1000000000000) (hn : ls.length ≤ 1000000000000) :
    Calls P 119 #[v, .string (S [47])] w fun e w' => e = .returned (.string (S (Sp.glue ls))) ∧ Ext none_ w w' := by
  rcases h.form with ⟨rfl, h0, h1⟩ | ⟨b, o, cap, rfl, h1, h2, h3, h4⟩
  · obtain rfl : ls = [] := List.eq_nil_of_length_eq_zero h0
    exact (Tryz.strings_Join_none none 0 (S [47]) w).mono fun _ _ ⟨e1, e2⟩ => ⟨e1, e2 ▸ Ext.refl _ _⟩
  · have hm : (ls.map S).map (·.data.toList) = ls := by simp [Function.comp_def, S]
    have := Tryz.strings_Join b o cap (ls.map S) (S [47]) w (fun j x hj => by
      refine h4 j _ ?_
      rw [List.getElem?_map] at hj
      simp only [encT, List.getElem?_map]
      cases hx : ls[j]? with
      | none => rw [hx] at hj; cases hj
      | some y => rw [hx] at hj; cases hj; rfl) h3 (by simp; omega) (by simpa using h1) (by rw [hm]; show (Lib.join ls [47]).length ≤ _; rw [glue_eq]; omega)
    rw [hm, List.length_map] at this
    exact this.mono fun _ _ ⟨e1, e2⟩ => ⟨by rw [e1]; show Ending.returned (.string (S (Lib.join ls [47]))) = _; rw [glue_eq], Ext.of_below e2⟩

theorem walk_bd (stay : Nat) : ∀ (xs l : List Sp.Bytes), ((Sp.walk stay l xs).1.map (fun x => x.length + 1)).sum ≤ (l.map (fun x => x.length + 1)).sum + (xs.map (fun x => x.length + 1)).sum ∧ (Sp.walk stay l xs).1.length ≤ l.length + xs.length := by
  intro xs
  induction xs with
  | nil => intro l; unfold Sp.walk; split <;> simp
  | cons x xs ih =>
    intro l
    unfold Sp.walk
    split
    · have := ih l; simp; omega
    split
    · have := ih l; simp; omega
    split
    · split
      · simp
      · have h1 := ih l.dropLast
        have h2 : (l.dropLast.map (fun x => x.length + 1)).sum ≤ (l.map (fun x => x.length + 1)).sum := by
          have : l.dropLast <+: l := List.dropLast_prefix l
          obtain ⟨t, ht⟩ := this
          have e : (l.map (fun x => x.length + 1)).sum = ((l.dropLast ++ t).map (fun x => x.length + 1)).sum := by rw [ht]
          rw [e, List.map_append, List.sum_append]; omega
        simp at h1 h2 ⊢
        omega
    split
    · have := ih (l ++ [x]); simp at this ⊢; omega
    · simp
theorem split_sum (s : Sp.Bytes) : ((Sp.split s).map (fun x => x.length + 1)).sum = s.length + 1 := by
  induction s with
  | nil => simp [Sp.split]
  | cons c s ih =>
    unfold Sp.split
    split
    · simp [ih]; omega
    · cases h : Sp.split s with
      | nil => rw [h] at ih; simp at ih
      | cons x l => rw [h] at ih; simp at ih ⊢; omega

theorem c_Parts0 (w : World) : Calls P 118 #[.string (S [])] w fun e w' => e = .returned (.slice none 0 0) ∧ w = w' := by
  refine enter (n := 7) Tryz.func118 rfl rfl rfl ?_
  refine W.seq ?_
  refine W.reg <| asg rfl rfl <| L.nil ?_
  refine N.th <| W.seq <| W.seq ?_
  refine W.reg <| mv rfl rfl <| eqlS (a := []) (b := []) rfl rfl rfl <| L.nil ?_
  refine N.th <| W.condT rfl <| W.seq ?_
  refine W.reg <| asg rfl rfl <| L.nil ?_
  exact N.th <| W.ret <| N.rth <| N.ret1 rfl rfl ⟨rfl, rfl⟩

theorem clean_long {s : Sp.Bytes} (h : 200 < s.length) : Sp.clean s = ([], 50) := by simp [Sp.clean, Sp.join, h]
theorem clean_abs {s : Sp.Bytes} (h : ¬ 200 < s.length) (hs : s.head? = some 47) : Sp.clean s = ([], 51) := by simp [Sp.clean, Sp.join, h, hs]
theorem clean_walk {s : Sp.Bytes} (h : ¬ 200 < s.length) (hs : s.head? ≠ some 47) : Sp.clean s = if (Sp.walk 0 [] (Sp.split s)).2 = 0 then (Sp.glue (Sp.walk 0 [] (Sp.split s)).1, 0) else ([], (Sp.walk 0 [] (Sp.split s)).2) := by
  simp only [Sp.clean, Sp.join, if_true, Nat.add_zero, if_neg h, if_neg hs, Sp.parts, List.length_nil]

/-- A path from the root. -/
theorem c_Join0 (s : Sp.Bytes) (w : World) : Calls P 100 #[.string (S []), .string (S s)] w fun e w' => e = .returned (.tuple #[.string (S (Sp.clean s).1), .int .i64 (Sp.clean s).2]) ∧ Ext none_ w w' := by
  refine enter (n := 32) Tryz.func100 rfl rfl rfl ?_
  refine W.seq ?_
  refine W.reg <| asg rfl rfl <| asg rfl rfl <| L.nil ?_
  refine N.th <| W.seq ?_
  refine W.reg <| mv rfl rfl <| lenS rfl u_str rfl <| asg rfl rfl <| L.nil ?_
  refine N.th <| W.seq <| W.seq ?_
  refine W.reg <| mv rfl rfl <| neqS (a := []) (b := []) rfl rfl rfl <| L.nil ?_
  refine N.th <| W.condF rfl <| W.skip <| N.th ?_
  refine W.seq <| W.seq ?_
  refine W.reg <| mv rfl rfl <| gtrI rfl rfl rfl ?_
  by_cases hl : 200 < s.length
  · refine bt (by simp; omega) <| L.nil <| N.th <| W.condT rfl <| W.seq ?_
    refine W.reg <| asg rfl rfl <| asg rfl rfl <| L.nil ?_
    refine N.th <| W.ret <| N.rth <| N.ret2 rfl rfl rfl ⟨?_, Ext.refl _ _⟩
    rw [clean_long hl]; rfl
  refine bf (by simp; omega) <| L.nil <| N.th <| W.condF rfl <| W.skip <| N.th <| W.seq ?_
  refine W.reg <| mv rfl rfl <| call (vs := [_]) rfl rfl ok_Parts (c_Parts0 _) ?_
  rintro e w' ⟨rfl, rfl⟩
  refine ⟨_, rfl, ?_⟩
  by_cases hs : s.head? = some 47
  · refine mv rfl rfl <| call (vs := [_, _]) rfl rfl ok_walk (c_walk_abs w none 0 0 s hs) ?_
    rintro e w1 ⟨rfl, hx⟩
    refine ⟨_, rfl, ?_⟩
    refine mv rfl rfl <| ext rfl rfl rfl <| ext rfl rfl rfl <| asg rfl rfl <| asg rfl rfl <| L.nil ?_
    refine N.th <| W.seq <| W.seq ?_
    refine W.reg <| mv rfl rfl <| neqI rfl rfl rfl <| bt (by decide) <| L.nil <| N.th <| W.condT rfl <| W.seq ?_
    refine W.reg <| mv rfl rfl <| asg rfl rfl <| asg rfl rfl <| L.nil ?_
    refine N.th <| W.ret <| N.rth <| N.ret2 rfl rfl rfl ⟨?_, hx⟩
    rw [clean_abs hl hs]; rfl
  · refine mv rfl rfl <| call (vs := [_, _]) rfl rfl ok_walk (c_walk w w.heap.size [] (.slice none 0 0) (World.ownsRow_nil _ _ _ _) (Nat.le_refl _) s (by simp; omega) hs) ?_
    rintro e w1 ⟨v', he0, hown, hx, -⟩
    simp only [List.length_nil] at he0 hown
    subst he0
    have hx0 : Ext none_ w w1 := hx.mono fun i _ h => by cases h
    refine ⟨_, rfl, ?_⟩
    refine mv rfl rfl <| ext rfl rfl rfl <| ext rfl rfl rfl <| asg rfl rfl <| asg rfl rfl <| L.nil ?_
    refine N.th <| W.seq <| W.seq ?_
    refine W.reg <| mv rfl rfl <| neqI rfl rfl rfl ?_
    have hcl := clean_walk hl hs
    by_cases he : (Sp.walk 0 [] (Sp.split s)).2 = 0
    · refine bf (by simp [he]) <| L.nil <| N.th <| W.condF rfl <| W.skip <| N.th <| W.seq ?_
      have hb := walk_bd 0 (Sp.split s) []
      have hss := split_sum s
      have hsl := (split_len s).1
      have hgl := glue_len (Sp.walk 0 [] (Sp.split s)).1
      refine W.reg <| mv rfl rfl <| call (vs := [_, _]) rfl rfl ok_Join_ (c_JoinS w1 v' _ (Row.own hown) (by simp at hb; omega) (by simp at hb; omega)) ?_
      rintro e w2 ⟨rfl, hx2⟩
      refine ⟨_, rfl, asg rfl rfl <| asg rfl rfl <| L.nil <| N.th <| W.ret <| N.ret2 rfl rfl rfl ⟨?_, hx0.trans hx2⟩⟩
      rw [hcl, if_pos he]
    · refine bt (by simp [he]) <| L.nil <| N.th <| W.condT rfl <| W.seq ?_
      refine W.reg <| mv rfl rfl <| asg rfl rfl <| asg rfl rfl <| L.nil ?_
      refine N.th <| W.ret <| N.rth <| N.ret2 rfl rfl rfl ⟨?_, hx0⟩
      rw [hcl, if_neg he]; rfl

theorem c_Clean (s : Sp.Bytes) (w : World) : Calls P 70 #[.string (S s)] w fun e w' => e = .returned (.tuple #[.string (S (Sp.clean s).1), .int .i64 (Sp.clean s).2]) ∧ Ext none_ w w' := by
  refine enter (n := 8) Tryz.func70 rfl rfl rfl ?_
  refine W.seq ?_
  refine W.reg <| asg rfl rfl <| asg rfl rfl <| L.nil ?_
  refine N.th <| W.seq ?_
  refine W.reg <| mv rfl rfl <| call (vs := [.string (S []), _]) rfl rfl ok_Join (c_Join0 s w) ?_
  rintro e w' ⟨rfl, hx⟩
  refine ⟨_, rfl, ?_⟩
  refine ext rfl rfl rfl <| ext rfl rfl rfl <| asg rfl rfl <| asg rfl rfl <| L.nil ?_
  exact N.th <| W.ret <| N.ret2 rfl rfl rfl ⟨rfl, hx⟩
end Go.Proofs.YtmdpmpdlkaogdaaGreatDoor
