/- strings.SplitSeq at a slash: the iterator's contract. -/
import Derived.Test.YtmdpmpdlkaogdaaGreatDoorPb
namespace Go.Proofs.YtmdpmpdlkaogdaaGreatDoor
open Go Go.RowKit Vc

theorem index_spec (l : Sp.Bytes) : (Lib.indexByte l 47 = -1 ∧ Sp.split l = [l]) ∨ ∃ i : Nat, Lib.indexByte l 47 = i ∧ i < l.length ∧ Sp.split l = l.take i :: Sp.split (l.drop (i + 1)) := by
  induction l with
  | nil => exact .inl ⟨rfl, rfl⟩
  | cons c l ih =>
    by_cases hc : c = 47
    · subst hc
      exact .inr ⟨0, by simp [Lib.indexByte], by simp, by simp [Sp.split]⟩
    · have hb : (c == 47) = false := by simpa using hc
      rcases ih with ⟨h1, h2⟩ | ⟨i, h1, h2, h3⟩
      · exact .inl ⟨by simp [Lib.indexByte, hb, h1], by simp [Sp.split, hc, h2]⟩
      · refine .inr ⟨i + 1, ?_, by simpa using h2, by simp [Sp.split, hc, h3]⟩
        simp [Lib.indexByte, hb, h1]

theorem c_Index (s : Sp.Bytes) (w : World) : Calls P 154 #[.string (S s), .string (S [47])] w fun e w' => e = .returned (.int .i64 (Lib.indexByte s 47)) ∧ w = w' :=
  (Tryz.strings_Index_one (S s) 47 w).mono fun _ _ ⟨h1, h2⟩ => ⟨h1, h2.symm⟩

/-- The three variables that the iterator has caught: what is left, the slash, 0. -/
structure SplitBoxes (b : Nat) (s : Sp.Bytes) (w : World) : Prop where
  s : w.heap[b]? = some (.cells #[.string (S s)] 9)
  sep : w.heap[b + 1]? = some (.cells #[.string (S [47])] 9)
  save : w.heap[b + 2]? = some (.cells #[.int .i64 0] 3)

def splitFn (b : Nat) : Value := .func (.func 152) #[] #[.pointer (some ⟨b + 1, 0, none⟩), .pointer (some ⟨b, 0, none⟩), .pointer (some ⟨b + 2, 0, none⟩)]

theorem c_splitSeq (s : Sp.Bytes) (w : World) : Calls P 144 #[.string (S s), .string (S [47]), .int .i64 0] w fun e w' => e = .returned (splitFn w.heap.size) ∧ SplitBoxes w.heap.size s w' ∧ Ext none_ w w' ∧ w'.heap.size = w.heap.size + 3 := by
  refine enter (n := 8) Tryz.func144 rfl rfl rfl ?_
  refine W.seq ?_
  refine W.reg <| box rfl rfl <| box rfl rfl <| box rfl rfl <| asg rfl rfl <| L.nil ?_
  refine N.th ?_
  refine W.seq ?_
  refine W.reg <| mkf3 rfl rfl rfl rfl <| asg rfl rfl <| L.nil ?_
  refine N.th ?_
  refine W.ret ?_
  refine N.ret1 rfl rfl ⟨?_, ⟨?_, ?_, ?_⟩, ?_, ?_⟩
  · simp [splitFn]
  · exact (heap_alloc _ _ (by simp; omega)).trans ((heap_alloc _ _ (by simp)).trans (heap_new w _))
  · have h := heap_new (w.alloc (.cells (Value.string (S s)).cells 9)) (.cells (Value.string (S [47])).cells 9)
    rw [World.size_alloc] at h
    exact (heap_alloc _ _ (by simp)).trans h
  · have h := heap_new ((w.alloc (.cells (Value.string (S s)).cells 9)).alloc (.cells (Value.string (S [47])).cells 9)) (.cells (Value.int .i64 0).cells 3)
    rw [World.size_alloc, World.size_alloc] at h
    exact h
  · exact ((Ext.alloc _ _ _).trans (Ext.alloc _ _ _)).trans (Ext.alloc _ _ _)
  · simp

theorem c_SplitSeq (s : Sp.Bytes) (w : World) : Calls P 127 #[.string (S s), .string (S [47])] w fun e w' => e = .returned (splitFn w.heap.size) ∧ SplitBoxes w.heap.size s w' ∧ Ext none_ w w' ∧ w'.heap.size = w.heap.size + 3 := by
  refine enter (n := 8) Tryz.func127 rfl rfl rfl ?_
  refine W.seq ?_
  refine W.reg <| asg rfl rfl <| L.nil ?_
  refine N.th ?_
  refine W.seq ?_
  refine W.reg <| mv rfl rfl <| mv rfl rfl <| call (vs := [_, _, _]) rfl rfl ok_splitSeq (c_splitSeq s _) ?_
  rintro e w' ⟨rfl, h⟩
  refine ⟨_, rfl, ?_⟩
  refine asg rfl rfl <| L.nil ?_
  refine N.th ?_
  refine W.ret ?_
  exact N.ret1 rfl rfl ⟨rfl, h⟩

theorem split_seq (b : Nat) (s : Sp.Bytes) (hs : s.length ≤ 1000000000000) : SeqJ P 152 #[.pointer (some ⟨b + 1, 0, none⟩), .pointer (some ⟨b, 0, none⟩), .pointer (some ⟨b + 2, 0, none⟩)] (fun x => .string (S x)) (SplitBoxes b s)
    (fun A B => ∀ k, b ≤ k → k < b + 3 → B.heap[k]? = A.heap[k]?) (fun A B => Ext (fun k => k = b) A B) (Sp.split s) := by
  intro l J Jx wI hpre hJ hJx hy h0
  refine callsIn_wide.2 ?_
  refine enter (l := [.func (.yield l) #[] #[], .pointer (some ⟨b + 1, 0, none⟩), .pointer (some ⟨b, 0, none⟩), .pointer (some ⟨b + 2, 0, none⟩)]) (n := 52) Tryz.func152 rfl rfl rfl ?_
  refine W.seq ?_
  refine W.seq ?_
  refine W.reg <| ld1 rfl ag_str rfl (cell_of hpre.sep rfl) <| lenS rfl u_str rfl <| eqlI rfl rfl rfl <| bf (by decide) <| L.nil ?_
  refine N.th ?_
  refine W.condF rfl ?_
  refine W.skip ?_
  refine N.th ?_
  refine W.seq ?_
  refine W.block ?_
  refine W.loop (X := List Sp.Bytes × Sp.Bytes) (fun x => [(0, .func (.yield l) #[] #[]), (1, .pointer (some ⟨b + 1, 0, none⟩)), (2, .pointer (some ⟨b, 0, none⟩)), (3, .pointer (some ⟨b + 2, 0, none⟩))])
    (fun x w => SplitBoxes b x.2 w ∧ J x.1 w ∧ Sp.split s = x.1 ++ Sp.split x.2 ∧ x.2.length ≤ 1000000000000) (fun x => x.2.length) ([], s) ⟨rfl, rfl, rfl, rfl, trivial⟩ ⟨hpre, h0, rfl, hs⟩ ?_
  rintro ⟨pre, cur⟩ w ⟨hb, hj, hsp, hlen⟩
  dsimp only at hb hj hsp hlen ⊢
  have hs1 : w.cell? ⟨b, 0, none⟩ = some (.string (S cur)) := cell_of hb.s rfl
  have hs2 : w.cell? ⟨b + 1, 0, none⟩ = some (.string (S [47])) := cell_of hb.sep rfl
  have hs3 : w.cell? ⟨b + 2, 0, none⟩ = some (.int .i64 0) := cell_of hb.save rfl
  refine W.block ?_
  refine W.seq ?_
  refine W.reg <| ld1 rfl ag_str rfl hs1 <| ld1 rfl ag_str rfl hs2 <| call (vs := [_, _]) rfl rfl ok_Index (c_Index cur _) ?_
  rintro e w' ⟨rfl, rfl⟩
  refine ⟨_, rfl, ?_⟩
  refine asg rfl rfl <| L.nil ?_
  refine N.th ?_
  refine W.seq ?_
  refine W.seq ?_
  rcases index_spec cur with ⟨hi, hc⟩ | ⟨i, hi, hlt, hc⟩
  · -- no slash is left
    refine W.reg <| mv rfl rfl <| lssI rfl rfl rfl <| bt (by rw [hi]; decide) <| L.nil ?_
    refine N.th ?_
    refine W.condT rfl ?_
    refine W.exit ?_
    refine N.xth <| N.xne rfl <| N.xth <| N.xeq <| N.th ?_
    refine W.reg ?_
    refine mv rfl rfl <| ld1 rfl ag_str rfl hs1 <| yieldC rfl rfl rfl (hy pre cur [] w (by rw [hsp, hc]) hj) ?_
    rintro e w' (⟨rfl, hj', -⟩ | ⟨rfl, hj', -⟩)
    · refine ⟨_, rfl, L.nil ?_⟩
      exact N.end0 rfl ⟨⟨_, rfl⟩, .inl (by rw [hsp, hc]; exact hj')⟩
    · refine ⟨_, rfl, L.nil ?_⟩
      exact N.end0 rfl ⟨⟨_, rfl⟩, .inr ⟨pre, cur, [], by rw [hsp, hc], hj'⟩⟩
  · refine W.reg <| mv rfl rfl <| lssI rfl rfl rfl <| bf (by rw [hi]; simp) <| L.nil ?_
    refine N.th ?_
    refine W.condF rfl ?_
    refine W.skip ?_
    refine N.th ?_
    refine W.seq ?_
    refine W.reg <| ld1 rfl ag_str rfl hs1 <| mv rfl rfl <| ld1 rfl ag_int rfl hs3 <| addI rfl rfl rfl (w64 (by omega) (by omega)) <| slSh rfl rfl u_str rfl (by omega) (by omega) <| asg rfl rfl <| L.nil ?_
    refine N.th ?_
    have htk : List.take (Lib.indexByte cur 47 + 0).toNat cur = cur.take i := by rw [hi]; simp
    rw [htk]
    refine W.seq ?_
    refine W.seq ?_
    refine W.reg ?_
    refine mv rfl rfl <| mv rfl rfl <| yieldC rfl rfl rfl (hy pre (cur.take i) (Sp.split (cur.drop (i + 1))) w (by rw [hsp, hc]) hj) ?_
    rintro e w' (⟨rfl, hj', hk⟩ | ⟨rfl, hj', -⟩)
    · refine ⟨_, rfl, ?_⟩
      refine notB rfl rfl <| L.nil ?_
      refine N.th ?_
      refine W.condF rfl ?_
      refine W.skip ?_
      refine N.th ?_
      have hb' : SplitBoxes b cur w' := ⟨(hk b (by omega) (by omega)).trans hb.s, (hk _ (by omega) (by omega)).trans hb.sep, (hk _ (by omega) (by omega)).trans hb.save⟩
      have hs1' : w'.cell? ⟨b, 0, none⟩ = some (.string (S cur)) := cell_of hb'.s rfl
      have hs2' : w'.cell? ⟨b + 1, 0, none⟩ = some (.string (S [47])) := cell_of hb'.sep rfl
      refine W.reg <| ld1 rfl ag_str rfl hs1' <| mv rfl rfl <| ld1 rfl ag_str rfl hs2' <| lenS rfl u_str rfl <| addI rfl rfl rfl (w64 (by simp; omega) (by simp; omega)) <| slSl rfl rfl u_str rfl (by simp; omega) (by simp; omega) <| st1 rfl rfl sz_str rfl hb'.s rfl <| L.nil ?_
      refine N.inb ?_
      have hdr : List.drop (Lib.indexByte cur 47 + (([47] : List UInt8).length : Int)).toNat cur = cur.drop (i + 1) := by rw [hi]; simp
      rw [hdr]
      refine N.th (N.round (pre ++ [cur.take i], cur.drop (i + 1)) ⟨rfl, rfl, rfl, rfl, trivial⟩ ⟨⟨?_, ?_, ?_⟩, ?_, ?_, ?_⟩ ?_)
      · rw [setCell_heap hb'.s]; rfl
      · rw [setCell_other (by simp)]; exact hb'.sep
      · rw [setCell_other (by simp)]; exact hb'.save
      · exact hJ _ _ _ hj' (Ext.setCell (S := fun k => k = b) _ (fun _ => rfl) _)
      · dsimp only; rw [hsp, hc, List.append_assoc]; rfl
      · simp; omega
      · simp; omega
    · refine ⟨_, rfl, ?_⟩
      refine notB rfl rfl <| L.nil ?_
      refine N.th ?_
      refine W.condT rfl ?_
      refine W.ret ?_
      refine N.rth <| N.rinb <| N.rth <| N.rinb <| N.rth ?_
      exact N.ret0 rfl ⟨⟨_, rfl⟩, .inr ⟨pre, cur.take i, Sp.split (cur.drop (i + 1)), by rw [hsp, hc], hj'⟩⟩
end Go.Proofs.YtmdpmpdlkaogdaaGreatDoor
