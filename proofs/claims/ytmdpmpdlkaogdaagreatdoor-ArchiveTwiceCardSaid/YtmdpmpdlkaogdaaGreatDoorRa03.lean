/- path.walk. path.Join from the root, path.Clean. The calculus' laws on maps with strings for keys: a look-up, a store, delete, a range. Nothing here speaks of the program. The plain laws' words: the tree, as a list of paths with what stands there. No Go here. How a tree lies in memory. Walks: package tree, its small functions. -/
import Derived.Test.YtmdpmpdlkaogdaaGreatDoorRa02

namespace Go.Proofs.YtmdpmpdlkaogdaaGreatDoor
open Go Go.RowKit Vc

/-- What stands between two rounds: pre has been walked over. -/
structure WalkI (w0 : World) (v : Value) (B stay : Nat) (ls : List Sp.Bytes) (s : Sp.Bytes) (pre : List Sp.Bytes) (u : World) : Prop where
  l : ∃ ls' v', u.heap[w0.heap.size]? = some (.cells #[v'] 46) ∧ u.ownsRow B 9 1 v' ls'.length (encT ls') ∧ (v'.ownBlock = v.ownBlock ∨ ∀ k, v'.ownBlock = some k → w0.heap.size + 9 ≤ k) ∧
    stay ≤ ls'.length ∧ ls'.length ≤ stay + pre.length ∧ ∀ rest, Sp.split s = pre ++ rest → Sp.walk stay ls (Sp.split s) = Sp.walk stay ls' rest
  r1 : u.heap[w0.heap.size + 1]? = some (.cells #[.slice none 0 0] 46)
  r2 : u.heap[w0.heap.size + 2]? = some (.cells #[.int .i64 0] 32)
  st : u.heap[w0.heap.size + 3]? = some (.cells #[.int .i64 stay] 3)
  ext : Ext (fun k => v.ownBlock = some k) w0 u
/-- A round has said why there is no such path. -/
structure WalkX (w0 : World) (v : Value) (stay : Nat) (ls : List Sp.Bytes) (s : Sp.Bytes) (u : World) : Prop where
  r : ∃ e : Int, u.heap[w0.heap.size + 1]? = some (.cells #[.slice none 0 0] 46) ∧ u.heap[w0.heap.size + 2]? = some (.cells #[.int .i64 e] 32) ∧ Sp.walk stay ls (Sp.split s) = ([], e)
  ext : Ext (fun k => v.ownBlock = some k) w0 u

theorem WalkI.step {w0 : World} {v : Value} {B stay : Nat} {ls : List Sp.Bytes} {s : Sp.Bytes} {pre : List Sp.Bytes} {A C : World} (h : WalkI w0 v B stay ls s pre A) (hv : ∀ k, v.ownBlock = some k → k < w0.heap.size) {j : Nat} (hj : w0.heap.size + 3 < j) (hj9 : j < w0.heap.size + 9) (hx : Ext (fun k => k = j) A C) : WalkI w0 v B stay ls s pre C := by
  obtain ⟨⟨ls', v', h1, h2, h3, h4⟩, h5, h6, h7, h8⟩ := h
  refine ⟨⟨ls', v', hx.obj h1 (by omega), own_ext h2 hx ?_, h3, h4⟩, hx.obj h5 (by omega), hx.obj h6 (by omega), hx.obj h7 (by omega), h8.trans' hx (fun i hi e => by omega)⟩
  intro k hk
  rcases h3 with h3 | h3
  · have := hv k (h3 ▸ hk); omega
  · have := h3 k hk; omega
theorem WalkX.step {w0 : World} {v : Value} {stay : Nat} {ls : List Sp.Bytes} {s : Sp.Bytes} {A C : World} (h : WalkX w0 v stay ls s A) {j : Nat} (hj : w0.heap.size + 3 < j) (hx : Ext (fun k => k = j) A C) : WalkX w0 v stay ls s C := by
  obtain ⟨⟨e, h1, h2, h3⟩, h4⟩ := h
  exact ⟨⟨e, hx.obj h1 (by omega), hx.obj h2 (by omega), h3⟩, h4.trans' hx (fun i hi e => by omega)⟩

theorem walk_skip {stay : Nat} {l : List Sp.Bytes} {x : Sp.Bytes} {xs : List Sp.Bytes} (h : x = [] ∨ x = [46]) : Sp.walk stay l (x :: xs) = Sp.walk stay l xs := by
  rcases h with rfl | rfl
  · rw [Sp.walk, if_pos rfl]
  · rw [Sp.walk, if_neg (by decide), if_pos rfl]
theorem walk_up {stay : Nat} {l xs : List Sp.Bytes} (h : l.length ≠ stay) : Sp.walk stay l ([46, 46] :: xs) = Sp.walk stay l.dropLast xs := by
  rw [Sp.walk, if_neg (by decide), if_neg (by decide), if_pos rfl, if_neg h]
theorem walk_esc {stay : Nat} {l xs : List Sp.Bytes} (h : l.length = stay) : Sp.walk stay l ([46, 46] :: xs) = ([], 51) := by
  rw [Sp.walk, if_neg (by decide), if_neg (by decide), if_pos rfl, if_pos h]
theorem walk_part {stay : Nat} {l : List Sp.Bytes} {x : Sp.Bytes} {xs : List Sp.Bytes} (h1 : x ≠ []) (h2 : x ≠ [46]) (h3 : x ≠ [46, 46]) (h : Sp.part x = 0) : Sp.walk stay l (x :: xs) = Sp.walk stay (l ++ [x]) xs := by
  rw [Sp.walk, if_neg h1, if_neg h2, if_neg h3, if_pos h]
theorem walk_bad {stay : Nat} {l : List Sp.Bytes} {x : Sp.Bytes} {xs : List Sp.Bytes} (h1 : x ≠ []) (h2 : x ≠ [46]) (h3 : x ≠ [46, 46]) (h : Sp.part x ≠ 0) : Sp.walk stay l (x :: xs) = ([], Sp.part x) := by
  rw [Sp.walk, if_neg h1, if_neg h2, if_neg h3, if_neg h]
theorem split_len (s : Sp.Bytes) : (Sp.split s).length ≤ s.length + 1 ∧ ∀ x ∈ Sp.split s, x.length ≤ s.length := by
  induction s with
  | nil => simp [Sp.split]
  | cons c s ih =>
    unfold Sp.split
    split
    · refine ⟨by simp; omega, ?_⟩
      intro x hx
      simp only [List.mem_cons] at hx
      rcases hx with rfl | hx
      · simp
      · have := ih.2 x hx; simp; omega
    · cases h : Sp.split s with
      | nil => simp
      | cons x l =>
        rw [h] at ih
        refine ⟨by simpa using Nat.le_succ_of_le ih.1, ?_⟩
        intro y hy
        simp only [List.mem_cons] at hy
        rcases hy with rfl | hy
        · have := ih.2 x (by simp); simp; omega
        · have := ih.2 y (by simp [hy]); simp; omega

/-- What path.walk hands back: a slice of the call's own, a number. -/
def WalkPost (B stay : Nat) (ls : List Sp.Bytes) (v : Value) (s : Sp.Bytes) (w : World) (e : Ending) (w' : World) : Prop :=
  ∃ v', e = .returned (.tuple #[v', .int .i64 (Sp.walk stay ls (Sp.split s)).2]) ∧ w'.ownsRow B 9 1 v' (Sp.walk stay ls (Sp.split s)).1.length (encT (Sp.walk stay ls (Sp.split s)).1) ∧ Ext (fun k => v.ownBlock = some k) w w' ∧
    (v'.ownBlock = v.ownBlock ∨ ∀ k, v'.ownBlock = some k → w.heap.size ≤ k)

theorem WalkPost.err {B : Nat} {ls : List Sp.Bytes} {v : Value} {s : Sp.Bytes} {w w' : World} {e : Int} (h : Sp.walk ls.length ls (Sp.split s) = ([], e)) (hx : Ext (fun k => v.ownBlock = some k) w w') :
    WalkPost B ls.length ls v s w (.returned (.tuple #[.slice none 0 0, .int .i64 e])) w' := by
  refine ⟨.slice none 0 0, by rw [h], ?_, hx, .inr (fun k hk => by cases hk)⟩
  rw [h]
  exact World.ownsRow_nil w' B _ 1

theorem ob_len (a : Option Addr) (n m c d : Nat) : (Value.slice a n c).ownBlock = (Value.slice a m d).ownBlock := by cases a <;> rfl
theorem ext_two (u : World) (b : Nat) (x y : Value) : Ext (fun k => k = b + 1 ∨ k = b + 2) u ((u.setCell ⟨b + 1, 0, none⟩ x).setCell ⟨b + 2, 0, none⟩ y) :=
  (Ext.setCell (S := fun k => k = b + 1 ∨ k = b + 2) u (fun _ => .inl rfl) x).trans (Ext.setCell (S := fun k => k = b + 1 ∨ k = b + 2) _ (fun _ => .inr rfl) y)
theorem ext_last (u : World) (b : Nat) (x y : Value) (o : Obj) : Ext (fun k => b ≤ k ∧ k < b + 9) u (((u.setCell ⟨b + 1, 0, none⟩ x).setCell ⟨b + 2, 0, none⟩ y).putObj (b + 7) o) :=
  ((ext_two u b x y).mono fun i _ h => by omega).trans (Ext.putObj _ (by omega) o)
theorem ext_end {S : Nat → Prop} {w u : World} {x y : Value} {o : Obj} (h : Ext S w u) : Ext S w (((u.setCell ⟨w.heap.size + 1, 0, none⟩ x).setCell ⟨w.heap.size + 2, 0, none⟩ y).putObj (w.heap.size + 7) o) :=
  h.trans' (ext_last u _ _ _ _) (fun i hi h => by omega)

set_option maxHeartbeats 1000000 in
theorem c_walk (w : World) (B : Nat) (ls : List Sp.Bytes) (v : Value) (hown : w.ownsRow B 9 1 v ls.length (encT ls)) (hB : B ≤ w.heap.size) (s : Sp.Bytes) (hbd : ls.length + s.length ≤ 1000000) (hns : s.head? ≠ some 47) :
    Calls P 117 #[v, .string (S s)] w (WalkPost B ls.length ls v s w) := by
  have hv : ∀ k, v.ownBlock = some k → k < w.heap.size := fun k hk => (hown.lt k hk).2
  obtain ⟨hvc, hv1⟩ := own_cells hown
  obtain ⟨av, cv, hvs, hcv, hcm⟩ := own_slice hown
  refine enterM (n := 44) Tryz.func117 rfl rfl rfl ?_
  refine W.seq ?_
  -- region 0
  refine W.reg <| box (v := v) rfl rfl <| new ze_strs rfl <| new ze_Errno rfl <| L.nil ?_
  refine N.th ?_
  refine W.seq ?_
  -- region 1
  rw [hvc]
  obtain ⟨w1, hw1⟩ : ∃ w1, ((w.alloc (.cells #[v] 46)).alloc (.cells (Value.slice none 0 0).cells 46)).alloc (.cells (Value.int .i64 0).cells 32) = w1 := ⟨_, rfl⟩
  have hz1 : w1.heap.size = w.heap.size + 3 := by rw [← hw1]; simp
  have hx1 : Ext none_ w w1 := by rw [← hw1]; exact ((Ext.alloc _ _ _).trans (Ext.alloc _ _ _)).trans (Ext.alloc _ _ _)
  have hb0 : w1.heap[w.heap.size]? = some (.cells #[v] 46) := by
    rw [← hw1]; exact (heap_alloc _ _ (by simp; omega)).trans ((heap_alloc _ _ (by simp)).trans (heap_new w _))
  have hb1 : w1.heap[w.heap.size + 1]? = some (.cells #[.slice none 0 0] 46) := by
    rw [← hw1]
    have h := heap_new (w.alloc (.cells #[v] 46)) (.cells (Value.slice none 0 0).cells 46)
    rw [World.size_alloc] at h
    exact (heap_alloc _ _ (by simp)).trans h
  have hb2 : w1.heap[w.heap.size + 2]? = some (.cells #[.int .i64 0] 32) := by
    rw [← hw1]
    have h := heap_new ((w.alloc (.cells #[v] 46)).alloc (.cells (Value.slice none 0 0).cells 46)) (.cells (Value.int .i64 0).cells 32)
    rw [World.size_alloc, World.size_alloc] at h
    exact h
  have e4 : (w.alloc (.cells #[v] 46)).heap.size = w.heap.size + 1 := by simp
  have e5 : ((w.alloc (.cells #[v] 46)).alloc (.cells (Value.slice none 0 0).cells 46)).heap.size = w.heap.size + 2 := by simp
  rw [hw1, e4, e5]
  refine N.sub (F := [(0, v), (1, .string (S s)), (2, .pointer (some ⟨w.heap.size, 0, none⟩)), (4, .pointer (some ⟨w.heap.size + 1, 0, none⟩)), (5, .pointer (some ⟨w.heap.size + 2, 0, none⟩))]) ⟨rfl, rfl, rfl, rfl, rfl, trivial⟩ ?_
  have hc0 : w1.cell? ⟨w.heap.size, 0, none⟩ = some (.slice av ls.length cv) := by rw [← hvs]; exact cell_of hb0 rfl
  refine W.reg <| ld1 rfl ag_strs rfl hc0 <| lenV rfl u_strs rfl <| new ze_int rfl <| st1 rfl rfl sz_int (v := .int .i64 ls.length) rfl (heap_new w1 _) rfl <| L.nil ?_
  refine N.th ?_
  obtain ⟨w2, hw2⟩ : ∃ w2, (w1.alloc (.cells (Value.int .i64 0).cells 3)).setCell ⟨w1.heap.size, 0, none⟩ (.int .i64 ls.length) = w2 := ⟨_, rfl⟩
  have hz2 : w2.heap.size = w.heap.size + 4 := by rw [← hw2]; simp [hz1]
  have hx2 : Ext none_ w1 w2 := by
    rw [← hw2]
    exact (Ext.alloc _ _ _).trans' (Ext.setCell (S := fun k => k = w1.heap.size) _ (fun _ => rfl) _) (fun i hi e => by omega)
  have hb3 : w2.heap[w.heap.size + 3]? = some (.cells #[.int .i64 ls.length] 3) := by
    rw [← hw2, ← hz1, setCell_heap (heap_new w1 _)]; rfl
  rw [hw2, hz1]
  have hx02 := hx1.trans hx2
  refine N.sub (F := [(1, .string (S s)), (2, .pointer (some ⟨w.heap.size, 0, none⟩)), (4, .pointer (some ⟨w.heap.size + 1, 0, none⟩)), (5, .pointer (some ⟨w.heap.size + 2, 0, none⟩)), (6, .pointer (some ⟨w.heap.size + 3, 0, none⟩))]) ⟨rfl, rfl, rfl, rfl, rfl, trivial⟩ ?_
  refine W.seq ?_
  refine W.seq ?_
  -- region 2
  refine W.reg <| mv rfl rfl <| call (vs := [_, _]) rfl rfl ok_HasPrefix (c_HasPrefix s [47] _) ?_
  rintro e w' ⟨rfl, rfl⟩
  refine ⟨_, rfl, bf ?_ <| L.nil ?_⟩
  · cases s with
    | nil => rfl
    | cons c s => simp at hns; simp [List.isPrefixOf]; exact fun h => hns h.symm
  refine N.th ?_
  refine W.condF rfl ?_
  refine W.skip ?_
  refine N.th ?_
  refine W.seq ?_
  refine W.seq ?_
  -- region 4
  refine W.reg <| mv rfl rfl <| call (vs := [_, _]) rfl rfl ok_SplitSeq (c_SplitSeq s _) ?_
  rintro e w3 ⟨rfl, hsb, hx3, hz3⟩
  refine ⟨_, rfl, L.nil ?_⟩
  rw [hz2] at hz3 hsb
  rw [hz2]
  refine N.th ?_
  refine W.block ?_
  have hx03 := hx02.trans hx3
  refine N.sub (F := [(14, splitFn (w.heap.size + 4)), (2, .pointer (some ⟨w.heap.size, 0, none⟩)), (4, .pointer (some ⟨w.heap.size + 1, 0, none⟩)), (5, .pointer (some ⟨w.heap.size + 2, 0, none⟩)), (6, .pointer (some ⟨w.heap.size + 3, 0, none⟩))]) ⟨rfl, rfl, rfl, rfl, rfl, trivial⟩ ?_
  have hz3' : w3.heap.size = w.heap.size + 7 := by omega
  have hI0 : ∀ u, Ext none_ w3 u → WalkI w v B ls.length ls s [] u := by
    intro u hu
    have hu2 := hx3.trans hu
    have hu1 := hx2.trans hu2
    refine ⟨⟨ls, v, hu1.obj hb0 id, own_ext hown (hx1.trans hu1) (fun _ _ => id), .inl rfl, Nat.le_refl _, by simp, fun rest h => by rw [h]; rfl⟩, hu1.obj hb1 id, hu1.obj hb2 id, hu2.obj hb3 id, (hx1.trans hu1).none⟩
  refine W.range (enc := fun x => .string (S x)) (xs := Sp.split s) rfl rfl rfl Tryz.func152 (by kernel_rfl) (by kernel_rfl) (split_seq (w.heap.size + 4) s (by omega)) (fun h1 h2 k hk1 hk2 => (h2 k hk1 hk2).trans (h1 k hk1 hk2))
    (fun u o k hk1 hk2 => World.putObj_heap_other (by omega))
    (fun A C h hlt => ⟨h.block' (by omega) (by omega), h.block' (by omega) (by omega)⟩)
    (fun u hu => ⟨hu.obj hsb.s id, hu.obj hsb.sep id, hu.obj hsb.save id⟩)
    (WalkI w v B ls.length ls s) (fun c _ u => c = .ret ∧ WalkX w v ls.length ls s u)
    (fun pre A C h hs => h.step hv (by omega) (by omega) hs) (fun c pre A C h hs => ⟨h.1, h.2.step (by omega) hs⟩)
    (fun pre A o h => h.step hv (j := w.heap.size + 8) (by omega) (by omega) (Ext.putObj _ (by omega) o)) (fun c pre A o h => ⟨h.1, h.2.step (j := w.heap.size + 8) (by omega) (Ext.putObj _ (by omega) o)⟩)
    (fun u hu _ => hI0 u hu) ?body ?done ?stop
  case done =>
    rintro u ⟨⟨ls', v', g1, g2, g3, g4, g5, g6⟩, r1, r2, st, hx⟩ hD
    have hfin := g6 [] (by simp)
    rw [hz3'] at hD ⊢
    refine N.inb <| N.th ?_
    refine W.seq ?_
    refine W.seq ?_
    obtain ⟨a', c', hvs', hc', hm'⟩ := own_slice g2
    have hl := cell1 g1
    rw [hvs'] at hl
    refine W.reg <| ld1 rfl ag_strs rfl hl <| lenV rfl u_strs rfl <| gtrI rfl rfl rfl ?_
    by_cases h12 : 12 < ls'.length
    · refine bt (by simp; omega) <| L.nil ?_
      refine N.th <| W.condT rfl <| W.seq ?_
      refine W.reg <| st1 rfl rfl sz_strs rfl r1 rfl <| st1 rfl rfl sz_Errno rfl ((setCell_other (by simp) _).trans r2) rfl <| L.nil ?_
      refine N.th <| W.ret <| N.rth ?_
      have e1 : Sp.walk ls.length ls (Sp.split s) = ([], 50) := by rw [hfin, Sp.walk, if_pos h12]
      refine N.retMC2 (D := w.heap.size + 7) rfl rfl rfl ag_strs ag_Errno (cell1 ((setCell_other (by simp) _).trans (set1 r1 _))) (cell1 (set1 ((setCell_other (by simp) _).trans r2) _)) ((setCell_other (by simp) _).trans ((setCell_other (by simp) _).trans hD)) ?_
      exact WalkPost.err e1 (ext_end hx)
    · refine bf (by simp; omega) <| L.nil ?_
      refine N.th <| W.condF rfl <| W.skip <| N.th <| W.seq ?_
      refine W.reg <| ld1 rfl ag_strs rfl hl <| st1 rfl rfl sz_strs rfl r1 rfl <| st1 rfl rfl sz_Errno rfl ((setCell_other (by simp) _).trans r2) rfl <| L.nil ?_
      refine N.th <| W.ret ?_
      have e1 : Sp.walk ls.length ls (Sp.split s) = (ls', 0) := by rw [hfin, Sp.walk, if_neg h12]
      refine N.retMC2 (D := w.heap.size + 7) rfl rfl rfl ag_strs ag_Errno (cell1 ((setCell_other (by simp) _).trans (set1 r1 _))) (cell1 (set1 ((setCell_other (by simp) _).trans r2) _)) ((setCell_other (by simp) _).trans ((setCell_other (by simp) _).trans hD)) ?_
      refine ⟨.slice a' ls'.length c', by rw [e1], ?_, ext_end hx, ?_⟩
      · rw [e1, ← hvs']
        refine own_ext (S := fun k => w.heap.size ≤ k ∧ k < w.heap.size + 9) g2 (ext_last u _ _ _ _) ?_
        intro k hk ⟨k1, k2⟩
        rcases g3 with g3 | g3
        · have := hv k (g3 ▸ hk); omega
        · have := g3 k hk; omega
      · rw [← hvs']
        rcases g3 with g3 | g3
        · exact .inl g3
        · exact .inr fun k hk => by have := g3 k hk; omega
  case stop =>
    rintro c pre x rest u hsp ⟨rfl, ⟨e, r1, r2, he⟩, hx⟩ hD
    rw [hz3'] at hD ⊢
    refine W.ret <| N.rinb <| N.rth ?_
    refine N.retMC2 (D := w.heap.size + 7) rfl rfl rfl ag_strs ag_Errno (cell1 r1) (cell1 r2) hD ?_
    refine WalkPost.err he (hx.trans' (Ext.putObj (S := fun k => k = w.heap.size + 7) _ rfl _) (fun i hi e => by omega))
  case body =>
    rintro pre x rest u hsp ⟨⟨ls', v', g1, g2, g3, g4, g5, g6⟩, r1, r2, st, hx⟩ hu
    have hsl := (split_len s).2 x (by rw [hsp]; simp)
    have hsn := (split_len s).1
    have hpl : pre.length + rest.length + 1 = (Sp.split s).length := by rw [hsp]; simp; omega
    have hfin := g6 (x :: rest) hsp
    obtain ⟨a', c', hvs', hc', hm'⟩ := own_slice g2
    have hl := cell1 g1
    rw [hvs'] at hl
    rw [hz3'] at hu ⊢
    -- what a round that goes on leaves: the list turned to ls2, in a value v2
    have goes : ∀ (u2 : World) (ls2 : List Sp.Bytes) (v2 : Value), Ext (fun k => k = w.heap.size ∨ v'.ownBlock = some k) u u2 → u2.heap[w.heap.size]? = some (.cells #[v2] 46) → u2.ownsRow B 9 1 v2 ls2.length (encT ls2) →
        (v2.ownBlock = v'.ownBlock ∨ ∀ k, v2.ownBlock = some k → u.heap.size ≤ k) → ls.length ≤ ls2.length → ls2.length ≤ ls'.length + 1 → Sp.walk ls.length ls' (x :: rest) = Sp.walk ls.length ls2 rest →
        WalkI w v B ls.length ls s (pre ++ [x]) u2 := by
      intro u2 ls2 v2 hx2 k1 k2 k3 k4 k5 k6
      have hno : ∀ j, w.heap.size < j → j < w.heap.size + 9 → ¬ (j = w.heap.size ∨ v'.ownBlock = some j) := by
        rintro j j1 j2 (h | h)
        · omega
        · rcases g3 with g3 | g3
          · have := hv j (g3 ▸ h); omega
          · have := g3 j h; omega
      refine ⟨⟨ls2, v2, k1, k2, ?_, k4, by simp; omega, ?_⟩, hx2.obj r1 (hno _ (by omega) (by omega)), hx2.obj r2 (hno _ (by omega) (by omega)), hx2.obj st (hno _ (by omega) (by omega)), hx.trans' hx2 ?_⟩
      · rcases k3 with k3 | k3
        · rw [k3]; exact g3
        · exact .inr fun k hk => by have := k3 k hk; omega
      · intro rest2 h2
        have : rest2 = rest := by
          rw [hsp] at h2
          simpa using h2.symm
        rw [this, hfin, k6]
      · rintro i hi (h | h)
        · omega
        · rcases g3 with g3 | g3
          · rw [← g3]; exact h
          · have := g3 i h; omega
    have kept : ∀ (u2 : World), Ext (fun k => (w.heap.size ≤ k ∧ k < w.heap.size + 4) ∨ v'.ownBlock = some k) u u2 → u2.heap[w.heap.size + 7 + 1]? = u.heap[w.heap.size + 7 + 1]? ∧ u2.heap[w.heap.size + 7 + 1 - 1]? = u.heap[w.heap.size + 7 + 1 - 1]? ∧ ∀ k, w.heap.size + 4 ≤ k → k < w.heap.size + 4 + 3 → u2.heap[k]? = u.heap[k]? := by
      intro u2 h2
      have hno : ∀ j, w.heap.size + 4 ≤ j → j < w.heap.size + 9 → ¬ ((w.heap.size ≤ j ∧ j < w.heap.size + 4) ∨ v'.ownBlock = some j) := by
        rintro j j1 j2 (h | h)
        · omega
        · rcases g3 with g3 | g3
          · have := hv j (g3 ▸ h); omega
          · have := g3 j h; omega
      exact ⟨h2.block _ (by omega) (hno _ (by omega) (by omega)), h2.block _ (by omega) (hno _ (by omega) (by omega)), fun k k1 k2 => h2.block _ (by omega) (hno _ (by omega) (by omega))⟩
    have stops : ∀ (e : Int), Sp.walk ls.length ls' (x :: rest) = ([], e) → WalkX w v ls.length ls s ((u.setCell ⟨w.heap.size + 1, 0, none⟩ (.slice none 0 0)).setCell ⟨w.heap.size + 2, 0, none⟩ (.int .i64 e)) := by
      intro e he
      refine ⟨⟨e, (setCell_other (by simp) _).trans (set1 r1 _), set1 ((setCell_other (by simp) _).trans r2) _, by rw [hfin, he]⟩, hx.trans' (ext_two u _ _ _) (fun i hi h => by omega)⟩
    refine W.block <| W.seq ?_
    refine W.reg <| mv rfl rfl <| L.nil ?_
    refine N.th <| W.block ?_
    refine W.seq <| W.seq ?_
    refine N.sub (F := [(7, .string (S x)), (16, .string (S x)), (2, .pointer (some ⟨w.heap.size, 0, none⟩)), (4, .pointer (some ⟨w.heap.size + 1, 0, none⟩)), (5, .pointer (some ⟨w.heap.size + 2, 0, none⟩)), (6, .pointer (some ⟨w.heap.size + 3, 0, none⟩))]) ⟨rfl, rfl, rfl, rfl, rfl, rfl, trivial⟩ ?_
    by_cases hx1 : x = []
    · refine W.reg <| eqlS (a := x) (b := []) rfl rfl rfl <| bt (by simp [hx1]) <| asg rfl rfl <| L.nil ?_
      refine N.th <| W.condT rfl <| W.skip <| N.th <| W.condT rfl <| W.skip <| N.inb <| N.inb ?_
      exact fun _ _ => ⟨kept u (Ext.refl _ _), goes u ls' v' (Ext.refl _ _) g1 g2 (.inl rfl) g4 (by omega) (walk_skip (.inl hx1))⟩
    by_cases hx2 : x = [46]
    · refine W.reg <| eqlS (a := x) (b := []) rfl rfl rfl <| bf (by simp [hx1]) <| asg rfl rfl <| L.nil ?_
      refine N.th <| W.condF rfl ?_
      refine W.reg <| eqlS (a := x) (b := [46]) rfl rfl rfl <| bt (by simp [hx2]) <| asg rfl rfl <| L.nil ?_
      refine N.th <| W.condT rfl <| W.skip <| N.inb <| N.inb ?_
      exact fun _ _ => ⟨kept u (Ext.refl _ _), goes u ls' v' (Ext.refl _ _) g1 g2 (.inl rfl) g4 (by omega) (walk_skip (.inr hx2))⟩
    refine W.reg <| eqlS (a := x) (b := []) rfl rfl rfl <| bf (by simp [hx1]) <| asg rfl rfl <| L.nil ?_
    refine N.th <| W.condF rfl ?_
    refine W.reg <| eqlS (a := x) (b := [46]) rfl rfl rfl <| bf (by simp [hx2]) <| asg rfl rfl <| L.nil ?_
    refine N.th <| W.condF rfl <| W.seq ?_
    by_cases hx3 : x = [46, 46]
    · refine W.reg <| eqlS (a := x) (b := [46, 46]) rfl rfl rfl <| bt (by simp [hx3]) <| asg rfl rfl <| L.nil ?_
      refine N.th <| W.condT rfl <| W.seq <| W.seq ?_
      refine W.reg <| ld1 rfl ag_strs rfl hl <| lenV rfl u_strs rfl <| ld1 rfl ag_int rfl (cell1 st) <| eqlI rfl rfl rfl ?_
      by_cases hlen : ls'.length = ls.length
      · refine bt (by simp; omega) <| L.nil ?_
        refine N.th <| W.condT rfl <| W.seq ?_
        refine W.reg <| st1 rfl rfl sz_strs rfl r1 rfl <| st1 rfl rfl sz_Errno rfl ((setCell_other (by simp) _).trans r2) rfl <| L.nil ?_
        refine N.th <| W.ret <| N.rth <| N.rinb <| N.rinb ?_
        exact fun _ _ => ⟨kept _ ((ext_two u _ _ _).mono fun i _ h => .inl (by omega)), rfl, stops 51 (by rw [hx3]; exact walk_esc hlen)⟩
      · refine bf (by simp; omega) <| L.nil ?_
        refine N.th <| W.condF rfl <| W.skip <| N.th ?_
        refine W.reg <| ld1 rfl ag_strs rfl hl <| ld1 rfl ag_strs rfl hl <| lenV rfl u_strs rfl <| subI rfl rfl rfl (w64 (by omega) (by omega)) <| slVh rfl rfl u_strs sz_str rfl (by omega) (by omega) <| st1 rfl rfl sz_strs rfl g1 rfl <| L.nil ?_
        refine N.inb <| N.inb ?_
        have e1 : ((ls'.length : Int) - 1).toNat = ls'.dropLast.length := by simp
        rw [e1]
        rw [hvs'] at g2
        have hd := own_take g2 (m := ls'.dropLast.length) (by simp)
        have e2 : (encT ls').take (ls'.dropLast.length * 1) = encT ls'.dropLast := by
          rw [Nat.mul_one, encT, ← List.map_take]; simp [encT, List.dropLast_eq_take]
        rw [e2] at hd
        have hxs : Ext (fun k => k = w.heap.size) u (u.setCell ⟨w.heap.size, 0, none⟩ (.slice a' ls'.dropLast.length c')) := Ext.setCell (S := fun k => k = w.heap.size) _ (fun _ => rfl) _
        exact fun _ _ => ⟨kept _ (hxs.mono fun i _ h => .inl (by omega)), goes _ ls'.dropLast (.slice a' ls'.dropLast.length c') (hxs.mono fun i _ h => .inl h) (set1 g1 _) (own_ext hd hxs (by
          intro k hk h
          rw [ob_len a' _ ls'.length c' c'] at hk
          rw [hvs'] at g3
          rcases g3 with g3 | g3
          · have := hv k (g3 ▸ hk); omega
          · have := g3 k hk; omega)) (.inl (by rw [hvs']; exact ob_len _ _ _ _ _)) (by simp; omega) (by simp; omega) (by rw [hx3]; exact walk_up hlen)⟩
    · refine W.reg <| eqlS (a := x) (b := [46, 46]) rfl rfl rfl <| bf (by simp [hx3]) <| asg rfl rfl <| L.nil ?_
      refine N.th <| W.condF rfl <| W.seq <| W.seq ?_
      refine W.reg <| mv rfl rfl <| call (vs := [_]) rfl rfl ok_part (c_part x (by unfold maxLen; omega) _) ?_
      rintro e w' ⟨rfl, rfl⟩
      refine ⟨_, rfl, asg rfl rfl <| L.nil ?_⟩
      refine N.th <| W.seq ?_
      refine W.reg <| mv rfl rfl <| neqI rfl rfl rfl ?_
      by_cases hp : Sp.part x = 0
      · refine bf (by simp [hp]) <| L.nil ?_
        refine N.th <| W.condF rfl <| W.skip <| N.th ?_
        refine W.reg <| ld1 rfl ag_strs rfl (cell1 g1) <| mv rfl rfl <| bls (vs := #[(0, .string (S x))]) (cs := #[.string (S x)]) (e := 9) rfl rfl (fun _ => by kernel_rfl) <| app (news := [.string (S x)]) rfl rfl rfl el_strs (g2.alloc _) rfl (cell_one_new _ _ _) (by simp [Value.oneCell']) (by omega) (by unfold maxLen; omega) (by simp; omega) ?_
        intro v2 w2 hown2 hx2' hnil hat
        have hwne : w.heap.size ≠ u.heap.size := by omega
        have hnv : v'.ownBlock ≠ some w.heap.size := by
          intro h
          rcases g3 with g3 | g3
          · have := hv _ (g3 ▸ h); omega
          · have := g3 _ h; omega
        have g1' : w2.heap[w.heap.size]? = some (.cells #[v'] 46) := hx2'.obj ((heap_alloc _ _ (by omega)).trans g1) hnv
        obtain ⟨hvc2, hv12⟩ := own_cells hown2
        refine st1 rfl rfl sz_strs hv12 g1' rfl <| L.nil ?_
        refine N.inb <| N.inb ?_
        have hxs : Ext (fun k => k = w.heap.size) w2 (w2.setCell ⟨w.heap.size, 0, none⟩ v2) := Ext.setCell (S := fun k => k = w.heap.size) _ (fun _ => rfl) _
        have hxt : Ext (fun k => k = w.heap.size ∨ v'.ownBlock = some k) u (w2.setCell ⟨w.heap.size, 0, none⟩ v2) := ((Ext.alloc _ u _).trans (hx2'.mono fun i _ h => .inr h)).trans (hxs.mono fun i _ h => .inl h)
        have hsz2 : u.heap.size + 1 ≤ w2.heap.size := by have := hx2'.size; simpa using this
        exact fun _ _ => ⟨kept _ (hxt.mono fun i _ h => h.elim (fun h => .inl (by omega)) .inr), goes _ (ls' ++ [x]) v2 hxt (set1 g1' _) (by
            have := own_ext hown2 hxs (by
              intro k hk h
              rcases hat with hat | hat
              · exact hnv (by rw [← hat, hk, h])
              · rw [hat] at hk; simp at hk; omega)
            simpa [encT] using this) (by
            rcases hat with hat | hat
            · exact .inl hat
            · exact .inr fun k hk => by rw [hat] at hk; simp at hk; omega) (by simp; omega) (by simp) (walk_part hx1 hx2 hx3 hp)⟩
      · refine bt (by simp [hp]) <| L.nil ?_
        refine N.th <| W.condT rfl <| W.seq ?_
        refine W.reg <| mv rfl rfl <| st1 rfl rfl sz_strs rfl r1 rfl <| st1 rfl rfl sz_Errno rfl ((setCell_other (by simp) _).trans r2) rfl <| L.nil ?_
        refine N.th <| W.ret <| N.rth <| N.rinb <| N.rinb ?_
        exact fun _ _ => ⟨kept _ ((ext_two u _ _ _).mono fun i _ h => .inl (by omega)), rfl, stops _ (walk_bad hx1 hx2 hx3 hp)⟩
end Go.Proofs.YtmdpmpdlkaogdaaGreatDoor

namespace Go.Proofs.YtmdpmpdlkaogdaaGreatDoor
open Go Go.RowKit Vc

theorem ok_walk : FnOk P 117 := ⟨_, Tryz.func117, by kernel_rfl, by kernel_rfl⟩
theorem ok_Parts : FnOk P 118 := ⟨_, Tryz.func118, by kernel_rfl, by kernel_rfl⟩
theorem ok_Join : FnOk P 100 := ⟨_, Tryz.func100, by kernel_rfl, by kernel_rfl⟩
theorem ok_Clean : FnOk P 70 := ⟨_, Tryz.func70, by kernel_rfl, by kernel_rfl⟩

theorem c_walk_abs (w : World) (a : Option Addr) (m cp : Nat) (s : Sp.Bytes) (hs : s.head? = some 47) :
    Calls P 117 #[.slice a m cp, .string (S s)] w fun e w' => e = .returned (.tuple #[.slice none 0 0, .int .i64 51]) ∧ Ext none_ w w' := by
  refine enterM (n := 44) Tryz.func117 rfl rfl rfl ?_
  refine W.seq ?_
  refine W.reg <| box rfl rfl <| new ze_strs rfl <| new ze_Errno rfl <| L.nil ?_
  refine N.th ?_
  refine W.seq ?_
  obtain ⟨w1, hw1⟩ : ∃ w1, ((w.alloc (.cells (Value.slice a m cp).cells 46)).alloc (.cells (Value.slice none 0 0).cells 46)).alloc (.cells (Value.int .i64 0).cells 32) = w1 := ⟨_, rfl⟩
  have hz1 : w1.heap.size = w.heap.size + 3 := by rw [← hw1]; simp
  have hx1 : Ext none_ w w1 := by rw [← hw1]; exact ((Ext.alloc _ _ _).trans (Ext.alloc _ _ _)).trans (Ext.alloc _ _ _)
  have hb0 : w1.heap[w.heap.size]? = some (.cells #[.slice a m cp] 46) := by
    rw [← hw1]; exact (heap_alloc _ _ (by simp; omega)).trans ((heap_alloc _ _ (by simp)).trans (heap_new w _))
  have hb1 : w1.heap[w.heap.size + 1]? = some (.cells #[.slice none 0 0] 46) := by
    rw [← hw1]
    have h := heap_new (w.alloc (.cells (Value.slice a m cp).cells 46)) (.cells (Value.slice none 0 0).cells 46)
    rw [World.size_alloc] at h
    exact (heap_alloc _ _ (by simp)).trans h
  have hb2 : w1.heap[w.heap.size + 2]? = some (.cells #[.int .i64 0] 32) := by
    rw [← hw1]
    have h := heap_new ((w.alloc (.cells (Value.slice a m cp).cells 46)).alloc (.cells (Value.slice none 0 0).cells 46)) (.cells (Value.int .i64 0).cells 32)
    rw [World.size_alloc, World.size_alloc] at h
    exact h
  have e4 : (w.alloc (.cells (Value.slice a m cp).cells 46)).heap.size = w.heap.size + 1 := by simp
  have e5 : ((w.alloc (.cells (Value.slice a m cp).cells 46)).alloc (.cells (Value.slice none 0 0).cells 46)).heap.size = w.heap.size + 2 := by simp
  rw [hw1, e4, e5]
  refine N.sub (F := [(1, .string (S s)), (2, .pointer (some ⟨w.heap.size, 0, none⟩)), (4, .pointer (some ⟨w.heap.size + 1, 0, none⟩)), (5, .pointer (some ⟨w.heap.size + 2, 0, none⟩))]) ⟨rfl, rfl, rfl, rfl, trivial⟩ ?_
  refine W.reg <| ld1 rfl ag_strs rfl (cell1 hb0) <| lenV rfl u_strs rfl <| new ze_int rfl <| st1 rfl rfl sz_int (v := .int .i64 m) rfl (heap_new w1 _) rfl <| L.nil ?_
  refine N.th ?_
  obtain ⟨w2, hw2⟩ : ∃ w2, (w1.alloc (.cells (Value.int .i64 0).cells 3)).setCell ⟨w1.heap.size, 0, none⟩ (.int .i64 m) = w2 := ⟨_, rfl⟩
  have hx2 : Ext none_ w1 w2 := by
    rw [← hw2]
    exact (Ext.alloc _ _ _).trans' (Ext.setCell (S := fun k => k = w1.heap.size) _ (fun _ => rfl) _) (fun i hi e => by omega)
  rw [hw2]
  refine W.seq <| W.seq ?_
  refine W.reg <| mv rfl rfl <| call (vs := [_, _]) rfl rfl ok_HasPrefix (c_HasPrefix s [47] _) ?_
  rintro e w' ⟨rfl, rfl⟩
  refine ⟨_, rfl, bt ?_ <| L.nil ?_⟩
  · cases s with
    | nil => cases hs
    | cons c s => simp at hs; simp [List.isPrefixOf, hs]
  have r1 := hx2.obj hb1 id
  have r2 := hx2.obj hb2 id
  refine N.th <| W.condT rfl <| W.seq ?_
  refine W.reg <| st1 rfl rfl sz_strs rfl r1 rfl <| st1 rfl rfl sz_Errno rfl ((setCell_other (by simp) _).trans r2) rfl <| L.nil ?_
  refine N.th <| W.ret <| N.rth ?_
  refine N.retC2 rfl rfl rfl ag_strs ag_Errno (cell1 ((setCell_other (by simp) _).trans (set1 r1 _))) (cell1 (set1 ((setCell_other (by simp) _).trans r2) _)) ⟨rfl, ?_⟩
  exact (hx1.trans hx2).trans' (ext_two w2 _ _ _) (fun i hi h => by omega)

theorem glue_eq (ls : List Sp.Bytes) : Lib.join ls [47] = Sp.glue ls := by
  induction ls with
  | nil => rfl
  | cons x l ih =>
    cases l with
    | nil => simp [Sp.glue, Lib.join_one]
    | cons y l =>
      rw [Sp.glue, ← ih]
      simp [Lib.join, List.intercalate, List.intersperse]
theorem glue_len (ls : List Sp.Bytes) : (Sp.glue ls).length ≤ (ls.map (fun x => x.length + 1)).sum := by
  induction ls with
  | nil => simp [Sp.glue]
  | cons x l ih =>
    cases l with
    | nil => simp [Sp.glue]
    | cons y l => rw [Sp.glue]; simp at ih ⊢; omega

theorem c_JoinS (w : World) (v : Value) (ls : List Sp.Bytes) (h : Row w v 9 1 ls.length (encT ls)) (hlen : (Sp.glue ls).length ≤ 1000000000000) (hn : ls.length ≤ 1000000000000) :
    Calls P 119 #[v, .string (S [47])] w fun e w' => e = .returned (.string (S (Sp.glue ls))) ∧ Ext none_ w w' := by
  rcases h.form with ⟨rfl, h0, h1⟩ | ⟨b, o, cap, rfl, h1, h2, h3, h4⟩
  · obtain rfl : ls = [] := List.eq_nil_of_length_eq_zero h0
    exact (Tryz.strings_Join_none none 0 (S [47]) w).mono fun _ _ ⟨e1, e2⟩ => ⟨e1, e2 ▸ Ext.refl _ _⟩
  · have hm : (ls.map S).map (·.data.toList) = ls := by simp [Function.comp_def, S]
    have := Tryz.strings_Join b o cap (ls.map S) (S [47]) w (fun j x hj => by
      refine h4 j _ ?_
      rw [List.getElem?_map] at hj
      simp only [encT, List.getElem?_map]
      cases hx : ls[j]? with
      | none => rw [hx] at hj; cases hj
      | some y => rw [hx] at hj; cases hj; rfl) h3 (by simp; omega) (by simpa using h1) (by rw [hm]; show (Lib.join ls [47]).length ≤ _; rw [glue_eq]; omega)
    rw [hm, List.length_map] at this
    exact this.mono fun _ _ ⟨e1, e2⟩ => ⟨by rw [e1]; show Ending.returned (.string (S (Lib.join ls [47]))) = _; rw [glue_eq], Ext.of_below e2⟩

theorem walk_bd (stay : Nat) : ∀ (xs l : List Sp.Bytes), ((Sp.walk stay l xs).1.map (fun x => x.length + 1)).sum ≤ (l.map (fun x => x.length + 1)).sum + (xs.map (fun x => x.length + 1)).sum ∧ (Sp.walk stay l xs).1.length ≤ l.length + xs.length := by
  intro xs
  induction xs with
  | nil => intro l; unfold Sp.walk; split <;> simp
  | cons x xs ih =>
    intro l
    unfold Sp.walk
    split
    · have := ih l; simp; omega
    split
    · have := ih l; simp; omega
    split
    · split
      · simp
      · have h1 := ih l.dropLast
        have h2 : (l.dropLast.map (fun x => x.length + 1)).sum ≤ (l.map (fun x => x.length + 1)).sum := by
          have : l.dropLast <+: l := List.dropLast_prefix l
          obtain ⟨t, ht⟩ := this
          have e : (l.map (fun x => x.length + 1)).sum = ((l.dropLast ++ t).map (fun x => x.length + 1)).sum := by rw [ht]
          rw [e, List.map_append, List.sum_append]; omega
        simp at h1 h2 ⊢
        omega
    split
    · have := ih (l ++ [x]); simp at this ⊢; omega
    · simp
theorem split_sum (s : Sp.Bytes) : ((Sp.split s).map (fun x => x.length + 1)).sum = s.length + 1 := by
  induction s with
  | nil => simp [Sp.split]
  | cons c s ih =>
    unfold Sp.split
    split
    · simp [ih]; omega
    · cases h : Sp.split s with
      | nil => rw [h] at ih; simp at ih
      | cons x l => rw [h] at ih; simp at ih ⊢; omega

theorem c_Parts0 (w : World) : Calls P 118 #[.string (S [])] w fun e w' => e = .returned (.slice none 0 0) ∧ w = w' := by
  refine enter (n := 7) Tryz.func118 rfl rfl rfl ?_
  refine W.seq ?_
  refine W.reg <| asg rfl rfl <| L.nil ?_
  refine N.th <| W.seq <| W.seq ?_
  refine W.reg <| mv rfl rfl <| eqlS (a := []) (b := []) rfl rfl rfl <| L.nil ?_
  refine N.th <| W.condT rfl <| W.seq ?_
  refine W.reg <| asg rfl rfl <| L.nil ?_
  exact N.th <| W.ret <| N.rth <| N.ret1 rfl rfl ⟨rfl, rfl⟩

theorem clean_long {s : Sp.Bytes} (h : 200 < s.length) : Sp.clean s = ([], 50) := by simp [Sp.clean, Sp.join, h]
theorem clean_abs {s : Sp.Bytes} (h : ¬ 200 < s.length) (hs : s.head? = some 47) : Sp.clean s = ([], 51) := by simp [Sp.clean, Sp.join, h, hs]
theorem clean_walk {s : Sp.Bytes} (h : ¬ 200 < s.length) (hs : s.head? ≠ some 47) : Sp.clean s = if (Sp.walk 0 [] (Sp.split s)).2 = 0 then (Sp.glue (Sp.walk 0 [] (Sp.split s)).1, 0) else ([], (Sp.walk 0 [] (Sp.split s)).2) := by
  simp only [Sp.clean, Sp.join, if_true, Nat.add_zero, if_neg h, if_neg hs, Sp.parts, List.length_nil]

/-- A path from the root. -/
theorem c_Join0 (s : Sp.Bytes) (w : World) : Calls P 100 #[.string (S []), .string (S s)] w fun e w' => e = .returned (.tuple #[.string (S (Sp.clean s).1), .int .i64 (Sp.clean s).2]) ∧ Ext none_ w w' := by
  refine enter (n := 32) Tryz.func100 rfl rfl rfl ?_
  refine W.seq ?_
  refine W.reg <| asg rfl rfl <| asg rfl rfl <| L.nil ?_
  refine N.th <| W.seq ?_
  refine W.reg <| mv rfl rfl <| lenS rfl u_str rfl <| asg rfl rfl <| L.nil ?_
  refine N.th <| W.seq <| W.seq ?_
  refine W.reg <| mv rfl rfl <| neqS (a := []) (b := []) rfl rfl rfl <| L.nil ?_
  refine N.th <| W.condF rfl <| W.skip <| N.th ?_
  refine W.seq <| W.seq ?_
  refine W.reg <| mv rfl rfl <| gtrI rfl rfl rfl ?_
  by_cases hl : 200 < s.length
  · refine bt (by simp; omega) <| L.nil <| N.th <| W.condT rfl <| W.seq ?_
    refine W.reg <| asg rfl rfl <| asg rfl rfl <| L.nil ?_
    refine N.th <| W.ret <| N.rth <| N.ret2 rfl rfl rfl ⟨?_, Ext.refl _ _⟩
    rw [clean_long hl]; rfl
  refine bf (by simp; omega) <| L.nil <| N.th <| W.condF rfl <| W.skip <| N.th <| W.seq ?_
  refine W.reg <| mv rfl rfl <| call (vs := [_]) rfl rfl ok_Parts (c_Parts0 _) ?_
  rintro e w' ⟨rfl, rfl⟩
  refine ⟨_, rfl, ?_⟩
  by_cases hs : s.head? = some 47
  · refine mv rfl rfl <| call (vs := [_, _]) rfl rfl ok_walk (c_walk_abs w none 0 0 s hs) ?_
    rintro e w1 ⟨rfl, hx⟩
    refine ⟨_, rfl, ?_⟩
    refine mv rfl rfl <| ext rfl rfl rfl <| ext rfl rfl rfl <| asg rfl rfl <| asg rfl rfl <| L.nil ?_
    refine N.th <| W.seq <| W.seq ?_
    refine W.reg <| mv rfl rfl <| neqI rfl rfl rfl <| bt (by decide) <| L.nil <| N.th <| W.condT rfl <| W.seq ?_
    refine W.reg <| mv rfl rfl <| asg rfl rfl <| asg rfl rfl <| L.nil ?_
    refine N.th <| W.ret <| N.rth <| N.ret2 rfl rfl rfl ⟨?_, hx⟩
    rw [clean_abs hl hs]; rfl
  · refine mv rfl rfl <| call (vs := [_, _]) rfl rfl ok_walk (c_walk w w.heap.size [] (.slice none 0 0) (World.ownsRow_nil _ _ _ _) (Nat.le_refl _) s (by simp; omega) hs) ?_
    rintro e w1 ⟨v', he0, hown, hx, -⟩
    simp only [List.length_nil] at he0 hown
    subst he0
    have hx0 : Ext none_ w w1 := hx.mono fun i _ h => by cases h
    refine ⟨_, rfl, ?_⟩
    refine mv rfl rfl <| ext rfl rfl rfl <| ext rfl rfl rfl <| asg rfl rfl <| asg rfl rfl <| L.nil ?_
    refine N.th <| W.seq <| W.seq ?_
    refine W.reg <| mv rfl rfl <| neqI rfl rfl rfl ?_
    have hcl := clean_walk hl hs
    by_cases he : (Sp.walk 0 [] (Sp.split s)).2 = 0
    · refine bf (by simp [he]) <| L.nil <| N.th <| W.condF rfl <| W.skip <| N.th <| W.seq ?_
      have hb := walk_bd 0 (Sp.split s) []
      have hss := split_sum s
      have hsl := (split_len s).1
      have hgl := glue_len (Sp.walk 0 [] (Sp.split s)).1
      refine W.reg <| mv rfl rfl <| call (vs := [_, _]) rfl rfl ok_Join_ (c_JoinS w1 v' _ (Row.own hown) (by simp at hb; omega) (by simp at hb; omega)) ?_
      rintro e w2 ⟨rfl, hx2⟩
      refine ⟨_, rfl, asg rfl rfl <| asg rfl rfl <| L.nil <| N.th <| W.ret <| N.ret2 rfl rfl rfl ⟨?_, hx0.trans hx2⟩⟩
      rw [hcl, if_pos he]
    · refine bt (by simp [he]) <| L.nil <| N.th <| W.condT rfl <| W.seq ?_
      refine W.reg <| mv rfl rfl <| asg rfl rfl <| asg rfl rfl <| L.nil ?_
      refine N.th <| W.ret <| N.rth <| N.ret2 rfl rfl rfl ⟨?_, hx0⟩
      rw [hcl, if_neg he]; rfl

theorem c_Clean (s : Sp.Bytes) (w : World) : Calls P 70 #[.string (S s)] w fun e w' => e = .returned (.tuple #[.string (S (Sp.clean s).1), .int .i64 (Sp.clean s).2]) ∧ Ext none_ w w' := by
  refine enter (n := 8) Tryz.func70 rfl rfl rfl ?_
  refine W.seq ?_
  refine W.reg <| asg rfl rfl <| asg rfl rfl <| L.nil ?_
  refine N.th <| W.seq ?_
  refine W.reg <| mv rfl rfl <| call (vs := [.string (S []), _]) rfl rfl ok_Join (c_Join0 s w) ?_
  rintro e w' ⟨rfl, hx⟩
  refine ⟨_, rfl, ?_⟩
  refine ext rfl rfl rfl <| ext rfl rfl rfl <| asg rfl rfl <| asg rfl rfl <| L.nil ?_
  exact N.th <| W.ret <| N.ret2 rfl rfl rfl ⟨rfl, hx⟩
end Go.Proofs.YtmdpmpdlkaogdaaGreatDoor

namespace Go.Proofs.YtmdpmpdlkaogdaaGreatDoor.Vc
open Go Go.RowKit

theorem absM_modify (k : List UInt8) (v : Value) : ∀ (es : List MapEntry) (j : Nat), es.findIdx? (fun e => keyB e.key == k) = some j → ((absM es).map (·.1)).Nodup →
    absM (es.modify j fun e => { e with key := .string (S k), val := v }) = (absM es).map (fun p => if p.1 == k then (k, v) else p) := by
  intro es
  induction es with
  | nil => intro j h; simp at h
  | cons e es ih =>
    intro j h hn
    simp only [List.findIdx?_cons] at h
    simp only [absM, List.map_cons, List.nodup_cons] at hn
    cases hb : (keyB e.key == k) with
    | true =>
      simp only [hb, if_true, Option.some.injEq] at h
      subst h
      have hk : keyB e.key = k := by simpa using hb
      have hno : ∀ p ∈ absM es, (p.1 == k) = false := by
        intro p hp
        simp only [beq_eq_false_iff_ne]
        intro hpk
        apply hn.1
        rw [hk]
        exact List.mem_map.2 ⟨p, hp, hpk⟩
      simp only [List.modify_zero_cons, absM, List.map_cons, hb, if_true]
      rw [show keyB (Value.string (S k)) = k from rfl]
      refine congrArg _ ?_
      symm
      calc (absM es).map (fun p => if p.1 == k then (k, v) else p) = (absM es).map id := List.map_congr_left fun p hp => by simp [hno p hp]
        _ = _ := by simp [absM]
    | false =>
      simp only [hb, Bool.false_eq_true, if_false] at h
      cases hj : List.findIdx? (fun e => keyB e.key == k) es with
      | none => rw [hj] at h; cases h
      | some i =>
        rw [hj] at h
        simp at h
        subst h
        have := ih i hj (by simpa [absM] using hn.2)
        simp only [List.modify_succ_cons, absM, List.map_cons, hb, Bool.false_eq_true, if_false] at this ⊢
        rw [this]

theorem findIdx_mem (k : List UInt8) (es : List MapEntry) : (es.findIdx? (fun e => keyB e.key == k)).isSome = ((absM es).map (·.1)).contains k := by
  rw [List.findIdx?_isSome, Bool.eq_iff_iff]
  simp only [List.any_eq_true, List.contains_iff_mem, List.mem_map, absM, beq_iff_eq]
  constructor
  · rintro ⟨e, he, hk⟩; exact ⟨_, ⟨e, he, rfl⟩, hk⟩
  · rintro ⟨p, ⟨e, he, rfl⟩, hk⟩; exact ⟨e, he, hk⟩

theorem sameBits_S (a : ByteArray) (k : List UInt8) (h : a.data.toList = k) : Instr.sameBits 10000 (.string a) (.string (S k)) = true := by
  subst h; rw [S_of]
  show Instr.sameBits 10000 (.string a) (.string a) = true
  have : (a == a) = true := by
    show (a.data == a.data) = true
    simp
  unfold Instr.sameBits; exact this

section run
variable {P : Program} {w : World} {t kt e r : Nat} {al : AL}

theorem run_mapUpdate (hu : P.underlying t = some (.map kt e)) (hk : P.underlying kt = some .string) (hm : MapAt w r al) (k : List UInt8) (v : Value) :
    ∃ w', (Instr.mapUpdate t (.map (some r)) (.string (S k)) v).run P w = .ok () w' ∧ MapAt w' r (aset al k v) ∧ Ext (fun i => i = r) w w' ∧ w'.heap.size = w.heap.size := by
  obtain ⟨es, c, hr, hok, rfl⟩ := hm
  have hlt := lt_of_obj hr
  have hf := run_findKey_str (P := P) (w := w) hk k hok.str
  have hmem := findIdx_mem k es.toList
  cases hj : List.findIdx? (fun e => keyB e.key == k) es.toList with
  | none =>
    rw [hj] at hf hmem
    simp only [Option.map_none] at hf
    refine ⟨{ w with heap := w.heap.setIfInBounds r (.map (es.push { key := .string (S k), val := v, born := c }) (c + 1)) }, ?_, ⟨es.push { key := .string (S k), val := v, born := c }, c + 1, by simp [hlt], ⟨?_, ?_, ?_, ?_⟩, ?_⟩, Ext.setObj (S := fun i => i = r) w (fun _ => rfl) _, by simp⟩
    · simp only [Instr.mapUpdate, Sem.run_bind, run_underlying hu, Result.andThen_ok, getObj, Sem.run, hr, run_checkKey_str hk, hf, setObj]
    · intro x hx
      simp only [Array.toList_push, List.mem_append, List.mem_singleton] at hx
      rcases hx with hx | rfl
      · exact hok.str x hx
      · exact ⟨_, rfl⟩
    · intro x hx
      simp only [Array.toList_push, List.mem_append, List.mem_singleton] at hx
      rcases hx with hx | rfl
      · have := hok.born x hx; omega
      · exact Nat.lt_succ_self _
    · simp only [Array.toList_push, List.map_append, List.map_cons, List.map_nil, List.nodup_append, List.nodup_cons, List.not_mem_nil, not_false_eq_true, List.nodup_nil, and_self, true_and, hok.stamps]
      intro a ha b hb
      simp only [List.mem_singleton] at hb
      obtain ⟨x, hx, rfl⟩ := List.mem_map.1 ha
      have := hok.born x hx
      omega
    · have hno : k ∉ (absM es.toList).map (·.1) := by
        intro h; rw [← List.contains_iff_mem, ← hmem] at h; cases h
      simp only [Array.toList_push, absM, List.map_append, List.map_cons, List.map_nil, List.nodup_append, List.nodup_cons, List.not_mem_nil, not_false_eq_true, List.nodup_nil, and_self, true_and]
      refine ⟨by simpa [absM] using hok.keys, ?_⟩
      intro a ha b hb
      simp only [List.mem_singleton] at hb
      have hkk : keyB (Value.string (S k)) = k := rfl
      rw [hkk] at hb
      subst hb
      intro hab
      subst hab
      exact hno (by simpa [absM] using ha)
    · have : ((absM es.toList).map (·.1)).contains k = false := by rw [← hmem]; rfl
      simp only [aset, this, Bool.false_eq_true, if_false]
      simp [absM, keyB, S]
  | some j =>
    rw [hj] at hf hmem
    simp only [Option.map_some] at hf
    obtain ⟨hjl, hjk, _⟩ := List.findIdx?_eq_some_iff_getElem.1 hj
    obtain ⟨s, hs⟩ := hok.str es.toList[j] (List.getElem_mem _)
    have hkey : s.data.toList = k := by
      have : keyB es.toList[j].key = k := by simpa using hjk
      rw [hs] at this; exact this
    have hjs : j < es.size := by simpa using hjl
    have hget : (es[j]?).map (·.key) = some (.string s) := by
      simp only [Array.getElem?_eq_getElem hjs, Option.map_some]
      rw [← hs]; simp
    have hkeep : (Instr.keyThatStays (.string s) (.string (S k))).run P w = .ok (.string (S k)) w := by
      simp [Instr.keyThatStays, sameBits_S s k hkey]
    have hm := absM_modify k v es.toList j hj hok.keys
    have hmod : ∀ {β : Type} (f : MapEntry → β) (hf : ∀ e : MapEntry, f { e with key := Value.string (S k), val := v } = f e), (es.toList.modify j fun e => { e with key := Value.string (S k), val := v }).map f = es.toList.map f := by
      intro β f hf'
      apply List.ext_getElem?
      intro i
      simp only [List.getElem?_map, List.getElem?_modify]
      cases es.toList[i]? with
      | none => simp
      | some x => simp; split <;> simp [hf']
    refine ⟨{ w with heap := w.heap.setIfInBounds r (.map (es.modify j fun e => { e with key := .string (S k), val := v }) c) }, ?_, ⟨es.modify j fun e => { e with key := .string (S k), val := v }, c, by simp [hlt], ⟨?_, ?_, ?_, ?_⟩, ?_⟩, Ext.setObj (S := fun i => i = r) w (fun _ => rfl) _, by simp⟩
    · simp only [Instr.mapUpdate, Sem.run_bind, run_underlying hu, Result.andThen_ok, getObj, Sem.run, hr, run_checkKey_str hk, hf, setObj, hget, Option.getD_some, hkeep]
    · intro x hx
      rw [Array.toList_modify] at hx
      obtain ⟨i, hi, rfl⟩ := List.mem_iff_getElem.1 hx
      rw [List.getElem_modify]
      split
      · exact ⟨_, rfl⟩
      · exact hok.str _ (List.getElem_mem _)
    · intro x hx
      have h1 : x.born ∈ (es.toList.modify j fun e => { e with key := Value.string (S k), val := v }).map (·.born) := List.mem_map.2 ⟨x, by rw [← Array.toList_modify]; exact hx, rfl⟩
      rw [hmod (·.born) (fun _ => rfl)] at h1
      obtain ⟨y, hy, hxy⟩ := List.mem_map.1 h1
      rw [← hxy]; exact hok.born y hy
    · rw [Array.toList_modify, hmod (·.born) (fun _ => rfl)]; exact hok.stamps
    · rw [Array.toList_modify, hm, List.map_map]
      have : ((fun p : List UInt8 × Value => p.1) ∘ fun p => if p.1 == k then (k, v) else p) = (·.1) := by
        funext p; simp only [Function.comp]; split
        · rename_i h; simp at h; exact h.symm
        · rfl
      rw [this]; exact hok.keys
    · have : ((absM es.toList).map (·.1)).contains k = true := by rw [← hmem]; rfl
      rw [Array.toList_modify, hm, aset, this, if_pos rfl]

theorem absM_erase (k : List UInt8) : ∀ (es : List MapEntry) (j : Nat), es.findIdx? (fun e => keyB e.key == k) = some j → ((absM es).map (·.1)).Nodup → absM (es.eraseIdx j) = adel (absM es) k := by
  intro es
  induction es with
  | nil => intro j h; simp at h
  | cons e es ih =>
    intro j h hn
    simp only [List.findIdx?_cons] at h
    simp only [absM, List.map_cons, List.nodup_cons] at hn
    cases hb : (keyB e.key == k) with
    | true =>
      simp only [hb, if_true, Option.some.injEq] at h
      subst h
      have hk : keyB e.key = k := by simpa using hb
      have hno : ∀ p ∈ absM es, (!(p.1 == k)) = true := by
        intro p hp
        simp only [Bool.not_eq_true', beq_eq_false_iff_ne]
        intro hpk
        apply hn.1
        rw [hk]
        exact List.mem_map.2 ⟨p, hp, hpk⟩
      simp only [List.eraseIdx_zero, List.tail_cons, adel, absM, List.map_cons, List.filter_cons, hb, Bool.not_true, Bool.false_eq_true, if_false]
      symm
      exact List.filter_eq_self.2 hno
    | false =>
      simp only [hb, Bool.false_eq_true, if_false] at h
      cases hj : List.findIdx? (fun e => keyB e.key == k) es with
      | none => rw [hj] at h; cases h
      | some i =>
        rw [hj] at h
        simp at h
        subst h
        have := ih i hj (by simpa [absM] using hn.2)
        simp only [List.eraseIdx_cons_succ, adel, absM, List.map_cons, List.filter_cons, hb, Bool.not_false, if_true] at this ⊢
        rw [this]
theorem eraseIdx_sub (es : List MapEntry) (j : Nat) : (es.eraseIdx j).Sublist es := List.eraseIdx_sublist es j

theorem run_delete (hu : P.underlying t = some (.map kt e)) (hk : P.underlying kt = some .string) (hm : MapAt w r al) (k : List UInt8) (tys : Array TypeId) (ht : tys[0]? = some t) (ty : TypeId) :
    ∃ w', (Builtin.delete_ tys ty #[.map (some r), .string (S k)]).run P w = .ok (.tuple #[]) w' ∧ MapAt w' r (adel al k) ∧ Ext (fun i => i = r) w w' ∧ w'.heap.size = w.heap.size := by
  obtain ⟨es, c, hr, hok, rfl⟩ := hm
  have hlt := lt_of_obj hr
  have hf := run_findKey_str (P := P) (w := w) hk k hok.str
  have hmem := findIdx_mem k es.toList
  cases hj : List.findIdx? (fun e => keyB e.key == k) es.toList with
  | none =>
    rw [hj] at hf hmem
    simp only [Option.map_none] at hf
    refine ⟨{ w with heap := w.heap.setIfInBounds r (.map es c) }, ?_, ⟨es, c, by simp [hlt], hok, ?_⟩, Ext.setObj (S := fun i => i = r) w (fun _ => rfl) _, by simp⟩
    · simp [Builtin.delete_, ht, run_underlying hu, getObj, Sem.run, hr, run_checkKey_str hk, hf, setObj]
    · have hno : k ∉ (absM es.toList).map (·.1) := by
        intro h; rw [← List.contains_iff_mem, ← hmem] at h; cases h
      symm
      refine List.filter_eq_self.2 fun p hp => ?_
      simp only [Bool.not_eq_true', beq_eq_false_iff_ne]
      intro h
      exact hno (List.mem_map.2 ⟨p, hp, h⟩)
  | some j =>
    rw [hj] at hf
    simp only [Option.map_some] at hf
    obtain ⟨hjl, _, _⟩ := List.findIdx?_eq_some_iff_getElem.1 hj
    have hjs : j < es.size := by simpa using hjl
    have hel : (es.eraseIdxIfInBounds j).toList = es.toList.eraseIdx j := by simp [Array.eraseIdxIfInBounds, hjs]
    have hsub := eraseIdx_sub es.toList j
    refine ⟨{ w with heap := w.heap.setIfInBounds r (.map (es.eraseIdxIfInBounds j) c) }, ?_, ⟨es.eraseIdxIfInBounds j, c, by simp [hlt], ⟨?_, ?_, ?_, ?_⟩, ?_⟩, Ext.setObj (S := fun i => i = r) w (fun _ => rfl) _, by simp⟩
    · simp [Builtin.delete_, ht, run_underlying hu, getObj, Sem.run, hr, run_checkKey_str hk, hf, setObj]
    · rw [hel]; exact fun x hx => hok.str x (hsub.subset hx)
    · rw [hel]; exact fun x hx => hok.born x (hsub.subset hx)
    · rw [hel]; exact (hsub.map _).nodup hok.stamps
    · rw [hel]; exact ((hsub.map _).map _).nodup hok.keys
    · rw [hel]; exact absM_erase k _ j hj hok.keys

/-- An iterator over map r, of which 'left' is still to come. -/
def IterAt (w : World) (it r : Nat) (al left : AL) : Prop := ∃ es clock seen, w.heap[it]? = some (.mapIter (some r) clock seen clock) ∧ w.heap[r]? = some (.map es clock) ∧ MapOk es.toList clock ∧ absM es.toList = al ∧
  absM (es.toList.filter fun e => !seen.contains e.born) = left

theorem IterAt.ext {S : Nat → Prop} {w w' : World} {it r : Nat} {al left : AL} (h : IterAt w it r al left) (hx : Ext S w w') (h1 : ¬ S it) (h2 : ¬ S r) : IterAt w' it r al left := by
  obtain ⟨es, c, seen, k1, k2, k3⟩ := h
  exact ⟨es, c, seen, hx.obj k1 h1, hx.obj k2 h2, k3⟩
theorem IterAt.map {w : World} {it r : Nat} {al left : AL} (h : IterAt w it r al left) : MapAt w r al := by
  obtain ⟨es, c, seen, k1, k2, k3, k4, _⟩ := h
  exact ⟨es, c, k2, k3, k4⟩

theorem run_range (hu : P.underlying t = some (.map kt e)) (hm : MapAt w r al) :
    ∃ w', (Instr.range t (.map (some r))).run P w = .ok (.pointer (some ⟨w.heap.size, 0, none⟩)) w' ∧ IterAt w' w.heap.size r al al ∧ Ext none_ w w' ∧ w'.heap.size = w.heap.size + 1 := by
  obtain ⟨es, c, hr, hok, rfl⟩ := hm
  refine ⟨w.alloc (.mapIter (some r) c #[] c), ?_, ⟨es, c, #[], heap_new w _, (heap_alloc w _ (lt_of_obj hr)).trans hr, hok, rfl, congrArg absM (List.filter_eq_self.2 (by simp))⟩, Ext.alloc _ _ _, by simp⟩
  simp [Instr.range, run_underlying hu, getObj, Sem.run, hr, newObj]

theorem next_cands (es : Array MapEntry) (c : Nat) (seen : Array Nat) (hb : ∀ e ∈ es.toList, e.born < c) :
    ((es.filter fun e => !seen.contains e.born).filter fun e => decide (e.born < c)) = (es.filter fun e => !seen.contains e.born) ∧ ((es.filter fun e => !seen.contains e.born).filter fun e => decide (e.born ≥ c)) = #[] := by
  constructor
  · apply Array.ext'
    simp only [Array.toList_filter]
    refine List.filter_eq_self.2 fun x hx => ?_
    have := hb x (List.mem_filter.1 hx).1
    simpa using this
  · apply Array.ext'
    simp only [Array.toList_filter]
    refine List.filter_eq_nil_iff.2 fun x hx => ?_
    have := hb x (List.mem_filter.1 hx).1
    simpa using this

/-- What iterator it has come to. -/
def CurAt (w : World) (it r : Nat) (p : List UInt8 × Value) : Prop := ∃ es clock seen e, w.heap[it]? = some (.mapIter (some r) clock (Array.push seen e.born) clock) ∧ w.heap[r]? = some (.map es clock) ∧ MapOk es.toList clock ∧ e ∈ es ∧ e.key = .string (S p.1) ∧ e.val = p.2

theorem run_entry {it : Nat} {p : List UInt8 × Value} (h : CurAt w it r p) : (Instr.entry (.pointer (some ⟨it, 0, none⟩))).run P w = .ok (.tuple #[.string (S p.1), p.2]) w := by
  obtain ⟨es, c, seen, e, h1, h2, hok, hm, hk, hv⟩ := h
  have hf : Array.find? (fun x => x.born == e.born) es = some e := by
    cases hq : Array.find? (fun x => x.born == e.born) es with
    | none =>
      rw [Array.find?_eq_none] at hq
      exact absurd (by simp) (hq e hm)
    | some e' =>
      have h3 := Array.find?_some hq
      have h4 := Array.mem_of_find?_eq_some hq
      simp only [beq_iff_eq] at h3
      congr 1
      have hnd := hok.stamps
      obtain ⟨i, hi, rfl⟩ := List.mem_iff_getElem.1 (show e ∈ es.toList by simpa using hm)
      obtain ⟨j, hj, rfl⟩ := List.mem_iff_getElem.1 (show e' ∈ es.toList by simpa using h4)
      have hb : (es.toList.map (·.born))[j]'(by simpa using hj) = (es.toList.map (·.born))[i]'(by simpa using hi) := by simpa using h3
      have hji : j = i := by
        rcases Nat.lt_trichotomy j i with h | h | h
        · exact absurd hb (List.pairwise_iff_getElem.1 hnd j i (by simpa using hj) (by simpa using hi) h)
        · exact h
        · exact absurd hb.symm (List.pairwise_iff_getElem.1 hnd i j (by simpa using hi) (by simpa using hj) h)
      subst hji; rfl
  simp [Instr.entry, getObj, Sem.run, h1, h2, hf, hk, hv]

theorem run_next {it : Nat} {left : AL} (hi : IterAt w it r al left) (ty : TypeId) :
    (left = [] ∧ (Instr.next (.pointer (some ⟨it, 0, none⟩)) false ty).run P w = .ok (.tuple #[.bool false]) w) ∨
    ∃ l1 p l2 w', left = l1 ++ p :: l2 ∧ (Instr.next (.pointer (some ⟨it, 0, none⟩)) false ty).run P w = .ok (.tuple #[.bool true, .string (S p.1), p.2]) w' ∧ IterAt w' it r al (l1 ++ l2) ∧ Ext (fun i => i = it) w w' ∧ w'.heap.size = w.heap.size ∧ CurAt w' it r p := by
  obtain ⟨es, c, seen, h1, h2, hok, rfl, rfl⟩ := hi
  obtain ⟨hc1, hc2⟩ := next_cands es c seen hok.born
  obtain ⟨le, hle⟩ : ∃ le, es.filter (fun e => !seen.contains e.born) = le := ⟨_, rfl⟩
  have hlel : es.toList.filter (fun e => !seen.contains e.born) = le.toList := by rw [← hle]; simp
  rw [hle] at hc1 hc2
  rw [hlel]
  have hlt := lt_of_obj h1
  have hne : it ≠ r := by intro h; subst h; rw [h1] at h2; cases h2
  have hguard : (!seen.isEmpty && !es.isEmpty && es.all (fun e => decide (e.born ≥ c))) = false := by
    cases hE : es.isEmpty with
    | true => simp
    | false =>
      have hpos : 0 < es.size := by
        rcases Nat.eq_zero_or_pos es.size with h | h
        · rw [Array.isEmpty_eq_false_iff_exists_mem] at hE; obtain ⟨x, hx⟩ := hE; have := Array.size_pos_of_mem hx; omega
        · exact h
      have h0 := hok.born es.toList[0] (List.getElem_mem (by simpa using hpos))
      have : es.all (fun e => decide (e.born ≥ c)) = false := by
        rw [Array.all_eq_false]
        refine ⟨0, hpos, ?_⟩
        simp at h0 ⊢; exact h0
      simp [this]
  by_cases he : le = #[]
  · refine .inl ⟨by rw [he]; rfl, ?_⟩
    have hch0 : (choose (.mapNext (((if le.isEmpty then #[none] else #[]) ++ Array.map some (le ++ #[]) : Array (Option MapEntry)).size))).run P w = .ok 0 w := by simp [choose, Sem.run, Question.forced, he]
    have hcand0 : ((if le.isEmpty then #[none] else #[]) ++ Array.map some (le ++ #[]) : Array (Option MapEntry))[0]? = some none := by simp [he]
    simp only [Instr.next, Sem.run_bind, getObj, Sem.run, h1, h2, Result.andThen_ok, hguard, Bool.false_eq_true, if_false, hle, hc1, hc2, hch0, hcand0, Sem.run_pure]
  · right
    have hpos : 0 < le.size := by
      rcases Nat.eq_zero_or_pos le.size with h | h
      · exact absurd (Array.eq_empty_of_size_eq_zero h) he
      · exact h
    have hie : le.isEmpty = false := by simp [he]
    -- which one comes
    obtain ⟨i, w1, hil, hw1, hch⟩ : ∃ i w1, i < le.size ∧ (w1 = w ∨ w1 = w.drew) ∧ (choose (.mapNext le.size)).run P w = .ok i w1 := by
      by_cases hf : le.size ≤ 1
      · exact ⟨0, w, hpos, .inl rfl, by simp [choose, Sem.run, Question.forced, hf]⟩
      · exact ⟨w.tape w.drawn (.mapNext le.size) % le.size, w.drew, Nat.mod_lt _ hpos, .inr rfl, by simp [choose, Sem.run, Question.forced, hf, Question.cut]⟩
    have hheap : w1.heap = w.heap := by rcases hw1 with rfl | rfl <;> rfl
    have hin : ∀ x ∈ le, x ∈ es := by rw [← hle]; intro x hx; exact (Array.mem_filter.1 hx).1
    have hmem : le[i] ∈ es := hin _ (Array.getElem_mem hil)
    obtain ⟨s, hs⟩ := hok.str le[i] (by simpa using hmem)
    have hcand : ((if le.isEmpty then #[none] else #[]) ++ Array.map some (le ++ #[]))[i]? = some (some le[i]) := by simp [hie, hil]
    have hsz : ((if le.isEmpty then #[none] else #[]) ++ Array.map some (le ++ #[]) : Array (Option MapEntry)).size = le.size := by simp [hie]
    have hsp : le.toList = le.toList.take i ++ le[i] :: le.toList.drop (i + 1) := by
      rw [show le[i] = le.toList[i]'(by simpa using hil) by simp]
      rw [← List.drop_eq_getElem_cons, List.take_append_drop]
    have hnd : (le.toList.map (·.born)).Nodup := by rw [← hlel]; exact (List.filter_sublist.map _).nodup hok.stamps
    refine ⟨absM (le.toList.take i), (keyB le[i].key, le[i].val), absM (le.toList.drop (i + 1)), { w1 with heap := w1.heap.setIfInBounds it (.mapIter (some r) c (seen.push le[i].born) c) }, ?_, ?_, ⟨es, c, seen.push le[i].born, by simp [hheap, hlt], ?_, hok, rfl, ?_⟩, ?_, by simp [hheap], es, c, seen, le[i], by simp [hheap, hlt], by rw [hheap]; simp [hne, h2], hok, hmem, by rw [hs]; simp [keyB, S_of], rfl⟩
    · conv => lhs; rw [hsp]
      simp [absM]
    · have hset : (setObj it (.mapIter (some r) c (seen.push le[i].born) c)).run P w1 = .ok () { w1 with heap := w1.heap.setIfInBounds it (.mapIter (some r) c (seen.push le[i].born) c) } := by simp [setObj, Sem.run, hheap, h1]
      have hkS : le[i].key = .string (S (keyB le[i].key)) := by rw [hs]; simp [keyB, S_of]
      simp only [Instr.next, Sem.run_bind, getObj, Sem.run, h1, h2, Result.andThen_ok, hguard, Bool.false_eq_true, if_false, hle, hc1, hc2, hsz, hch, hcand, hset, Sem.run_pure, ← hkS]
    · rw [hheap] ; simp [hne, h2]
    · have : es.toList.filter (fun e => !(seen.push le[i].born).contains e.born) = (le.toList.take i ++ le.toList.drop (i + 1)) := by
        have e1 : es.toList.filter (fun e => !(seen.push le[i].born).contains e.born) = le.toList.filter (fun e => !(e.born == le[i].born)) := by
          rw [← hlel, List.filter_filter]
          congr 1
          funext x
          rw [Bool.eq_iff_iff]
          simp only [Array.contains_push, Bool.not_or, Bool.and_eq_true, Bool.not_eq_true', beq_eq_false_iff_ne]
          constructor
          · rintro ⟨h1, h2⟩; exact ⟨fun h => h2 (by rw [h]), h1⟩
          · rintro ⟨h1, h2⟩; exact ⟨h2, fun h => h1 (by rw [h])⟩
        obtain ⟨lA, hA⟩ : ∃ lA, le.toList.take i = lA := ⟨_, rfl⟩
        obtain ⟨lB, hB⟩ : ∃ lB, le.toList.drop (i + 1) = lB := ⟨_, rfl⟩
        rw [hA, hB] at hsp ⊢
        rw [e1, hsp, List.filter_append, List.filter_cons]
        simp only [beq_self_eq_true, Bool.not_true, Bool.false_eq_true, if_false]
        rw [hsp] at hnd
        simp only [List.map_append, List.map_cons, List.nodup_append, List.nodup_cons] at hnd
        congr 1
        · refine List.filter_eq_self.2 fun x hx => ?_
          simp only [Bool.not_eq_true', beq_eq_false_iff_ne]
          exact hnd.2.2 _ (List.mem_map.2 ⟨x, hx, rfl⟩) _ (by simp)
        · refine List.filter_eq_self.2 fun x hx => ?_
          simp only [Bool.not_eq_true', beq_eq_false_iff_ne]
          intro hxb
          exact hnd.2.1.1 (List.mem_map.2 ⟨x, hx, hxb⟩)
      rw [this]; simp [absM]
    · refine ⟨?_, ?_, ?_, by simp [hheap], fun k hk hn => ?_⟩
      · rcases hw1 with rfl | rfl <;> rfl
      · rcases hw1 with rfl | rfl <;> rfl
      · rcases hw1 with rfl | rfl <;> rfl
      · have : it ≠ k := fun h => hn h.symm
        simp [hheap, this]
end run

section ops
variable {st : Sty} [Wy st] {Fe : Fence} {mm : Nat} [Wd Fe] {P : Program} {ds : List Deferred} {n : Nat} {Q : Exit → Act → World → Prop} {E : Env} {w : World} {ops : Array Oper} {l : List Oper}
variable {d : Nat} {ty : TypeId} {pos : String} {af : Array Edge}

omit [Wd Fe] in
theorem lkuK {t kt e r : Nat} {al : AL} {z : Value} {x y : Operand} {k : List UInt8} (hx : opd E x = some (.map (some r))) (hy : opd E y = some (.string (S k))) (hu : P.underlying t = some (.map kt e)) (hk : P.underlying kt = some .string) (hz : zeroB P e = some z) (hd : Nat.blt d n = true)
    (hm : Kn st w fun w => MapAt w r al) (kk : LY st P ds n ops l Q ((d, (aget al k).getD z) :: E) w) : LY st P ds n ops (⟨some d, .lookup t x y false, ty, pos, af, none⟩ :: l) Q E w :=
  LY.rd _ hd (fun ac ha w hs => by simp [execOp, opd_eval ha hx, opd_eval ha hy, run_lookup hu hk hz (hm w hs) k false]) kk
theorem lku {t kt e r : Nat} {al : AL} {z : Value} {x y : Operand} {k : List UInt8} (hx : opd E x = some (.map (some r))) (hy : opd E y = some (.string (S k))) (hu : P.underlying t = some (.map kt e)) (hk : P.underlying kt = some .string) (hz : zeroB P e = some z) (hd : Nat.blt d n = true)
    (hm : MapAt w r al) (kk : L Fe mm P ds n ops l Q ((d, (aget al k).getD z) :: E) w) : L Fe mm P ds n ops (⟨some d, .lookup t x y false, ty, pos, af, none⟩ :: l) Q E w := lkuK hx hy hu hk hz hd (Kn.here hm) kk
omit [Wd Fe] in
theorem mupY {t kt e r : Nat} {al : AL} {x y z : Operand} {k : List UInt8} {v : Value} (hx : opd E x = some (.map (some r))) (hy : opd E y = some (.string (S k))) (hz : opd E z = some v) (hu : P.underlying t = some (.map kt e)) (hk : P.underlying kt = some .string)
    (hm : MapAt w r al) (kk : ∀ w', MapAt w' r (aset al k v) → Ext (fun i => i = r) w w' → w'.heap.size = w.heap.size → st.keeps l w w' ∧ LY st P ds n ops l Q E w') : LY st P ds n ops (⟨none, .mapUpdate t x y z, ty, pos, af, none⟩ :: l) Q E w := by
  obtain ⟨w', hr, h1, h2, h3⟩ := run_mapUpdate hu hk hm k v
  obtain ⟨hs, kk⟩ := kk w' h1 h2 h3
  exact LY.act w' (fun ac ha => by simp [execOp, opd_eval ha hx, opd_eval ha hy, opd_eval ha hz, hr]) kk (fun _ _ _ _ => rfl) hs
theorem mup {t kt e r : Nat} {al : AL} {x y z : Operand} {k : List UInt8} {v : Value} (hx : opd E x = some (.map (some r))) (hy : opd E y = some (.string (S k))) (hz : opd E z = some v) (hu : P.underlying t = some (.map kt e)) (hk : P.underlying kt = some .string)
    (hm : MapAt w r al) (kk : ∀ w', MapAt w' r (aset al k v) → Ext (fun i => i = r) w w' → w'.heap.size = w.heap.size → L Fe mm P ds n ops l Q E w') : L Fe mm P ds n ops (⟨none, .mapUpdate t x y z, ty, pos, af, none⟩ :: l) Q E w :=
  mupY (st := .plain Fe mm) hx hy hz hu hk hm fun w' a b c => ⟨trivial, kk w' a b c⟩
theorem del {t kt e r : Nat} {al : AL} {x y : Operand} {k : List UInt8} {tys : Array TypeId} (hx : opd E x = some (.map (some r))) (hy : opd E y = some (.string (S k))) (ht : tys[0]? = some t) (hu : P.underlying t = some (.map kt e)) (hk : P.underlying kt = some .string)
    (hm : MapAt w r al) (kk : ∀ w', MapAt w' r (adel al k) → Ext (fun i => i = r) w w' → w'.heap.size = w.heap.size → L Fe mm P ds n ops l Q E w') : L Fe mm P ds n ops (⟨none, .call ⟨.builtin .delete, #[x, y], tys⟩, ty, pos, af, none⟩ :: l) Q E w := by
  obtain ⟨w', hr, h1, h2, h3⟩ := run_delete (P := P) hu hk hm k tys ht ty
  exact LY.drop (y := .plain Fe mm) (.tuple #[]) w' (fun ac ha => by simp [execOp, resolve, opd_eval ha hx, opd_eval ha hy, invoke, builtin, hr]) (kk w' h1 h2 h3) (fun _ _ _ h => by cases h) trivial
theorem rng {t kt e r : Nat} {al : AL} {x : Operand} (hx : opd E x = some (.map (some r))) (hu : P.underlying t = some (.map kt e)) (hd : Nat.blt d n = true) (hm : MapAt w r al)
    (kk : ∀ w', IterAt w' w.heap.size r al al → Ext none_ w w' → w'.heap.size = w.heap.size + 1 → L Fe mm P ds n ops l Q ((d, .pointer (some ⟨w.heap.size, 0, none⟩)) :: E) w') : L Fe mm P ds n ops (⟨some d, .range t x, ty, pos, af, none⟩ :: l) Q E w := by
  obtain ⟨w', hr, h1, h2, h3⟩ := run_range (P := P) hu hm
  exact L.val _ w' hd (fun ac ha => by simp [execOp, opd_eval ha hx, hr]) (kk w' h1 h2 h3)
theorem nxt {it r : Nat} {al left : AL} {x : Operand} (hx : opd E x = some (.pointer (some ⟨it, 0, none⟩))) (hd : Nat.blt d n = true) (hi : IterAt w it r al left)
    (k0 : left = [] → L Fe mm P ds n ops l Q ((d, .tuple #[.bool false]) :: E) w)
    (k1 : ∀ l1 p l2 w', left = l1 ++ p :: l2 → IterAt w' it r al (l1 ++ l2) → Ext (fun i => i = it) w w' → w'.heap.size = w.heap.size → CurAt w' it r p → L Fe mm P ds n ops l Q ((d, .tuple #[.bool true, .string (S p.1), p.2]) :: E) w') : L Fe mm P ds n ops (⟨some d, .next x false, ty, pos, af, none⟩ :: l) Q E w := by
  rcases run_next (P := P) hi ty with ⟨h0, hr⟩ | ⟨l1, p, l2, w', h0, hr, h1, h2, h3, h4⟩
  · exact L.val _ w hd (fun ac ha => by simp [execOp, opd_eval ha hx, hr]) (k0 h0)
  · exact L.val _ w' hd (fun ac ha => by simp [execOp, opd_eval ha hx, hr]) (k1 l1 p l2 w' h0 h1 h2 h3 h4)
theorem ent {it r : Nat} {p : List UInt8 × Value} {x : Operand} (hx : opd E x = some (.pointer (some ⟨it, 0, none⟩))) (hd : Nat.blt d n = true) (hc : CurAt w it r p)
    (k : L Fe mm P ds n ops l Q ((d, .tuple #[.string (S p.1), p.2]) :: E) w) : L Fe mm P ds n ops (⟨some d, .entry x, ty, pos, af, none⟩ :: l) Q E w :=
  L.val _ w hd (fun ac ha => by simp [execOp, opd_eval ha hx, run_entry hc]) k
end ops
end Go.Proofs.YtmdpmpdlkaogdaaGreatDoor.Vc

namespace Go.Proofs.YtmdpmpdlkaogdaaGreatDoor
namespace Tr
abbrev Bytes := Sp.Bytes
abbrev Nd := Bool × Bytes
abbrev T := List (Bytes × Nd)

def get {α : Type} (m : List (Bytes × α)) (k : Bytes) : Option α := (m.find? (·.1 == k)).map (·.2)
def set {α : Type} (m : List (Bytes × α)) (k : Bytes) (v : α) : List (Bytes × α) := if (m.map (·.1)).contains k then m.map (fun p => if p.1 == k then (k, v) else p) else m ++ [(k, v)]
def del {α : Type} (m : List (Bytes × α)) (k : Bytes) : List (Bytes × α) := m.filter (fun p => !(p.1 == k))
/-- The bytes of all files. -/
def size (m : T) : Nat := (m.map (·.2.2.length)).sum
def at_ (m : T) (p : Bytes) : Option Nd := if p = [] then some (true, []) else get m p
def aheadF (m : T) : Nat → Bytes → Option (List Bytes)
  | 0, _ => some []
  | n + 1, d => if d = [] then some [] else match get m d with
    | none => (aheadF m n (Sp.parent d)).map (d :: ·)
    | some x => if x.1 then aheadF m n (Sp.parent d) else none
/-- The directories that lack ahead of a path, from behind; none: a file is ahead. -/
def ahead (m : T) (p : Bytes) : Option (List Bytes) := aheadF m p.length (Sp.parent p)
def room (m : T) (files bytes : Int) : Bool := decide (files ≤ 500 - m.length) && decide (bytes ≤ 1048576 - size m)
def make (m : T) (l : List Bytes) : T := l.foldl (fun m d => set m d (true, [])) m
def put (m : T) (s : Bytes) (b : Bytes) (more : Bool) : T × Int :=
  if (Sp.clean s).2 ≠ 0 then (m, (Sp.clean s).2) else
  let p := (Sp.clean s).1
  match at_ m p with
  | some x =>
    if x.1 then (m, 54) else
    match ahead m p with
    | none => (m, 54)
    | some lack =>
      let b' := if more then x.2 ++ b else b
      if 65536 < b'.length ∨ room m 0 ((b'.length : Int) - x.2.length) = false then (m, 55) else (set (make m lack) p (false, b'), 0)
  | none =>
    match ahead m p with
    | none => (m, 54)
    | some lack => if 65536 < b.length ∨ room m (lack.length + 1) b.length = false then (m, 55) else (set (make m lack) p (false, b), 0)
def write (m : T) (s b : Bytes) : T × Int := put m s b false
def append (m : T) (s b : Bytes) : T × Int := put m s (if 65536 < b.length then b.take 65537 else b) true
def read (m : T) (s : Bytes) : Bytes × Int :=
  if (Sp.clean s).2 ≠ 0 then ([], (Sp.clean s).2) else
  let p := (Sp.clean s).1
  match at_ m p with
  | some x => if x.1 then ([], 54) else match ahead m p with
    | none => ([], 54)
    | some _ => (x.2, 0)
  | none => match ahead m p with
    | none => ([], 54)
    | some _ => ([], 52)
def mkdir (m : T) (s : Bytes) : T × Int :=
  if (Sp.clean s).2 ≠ 0 then (m, (Sp.clean s).2) else
  let p := (Sp.clean s).1
  match at_ m p with
  | some x => if x.1 then (m, 0) else (m, 54)
  | none => match ahead m p with
    | none => (m, 54)
    | some lack => if room m (lack.length + 1) 0 = false then (m, 55) else (make m (lack ++ [p]), 0)
def sort (l : List Bytes) : List Bytes := l.mergeSort fun x y => decide (x ≤ y)
def below (m : T) (p : Bytes) : List Bytes := sort ((m.map (·.1)).filter fun k => Sp.within k p)
def drop (m : T) (l : List Bytes) : T := l.foldl del m
def remove (m : T) (s : Bytes) : T × Int :=
  if (Sp.clean s).2 ≠ 0 then (m, (Sp.clean s).2) else
  let p := (Sp.clean s).1
  if p = [] then (m, 54) else if (get m p).isNone then (m, 52) else (drop m (below m p), 0)
def exists_ (m : T) (s : Bytes) : Bool := (Sp.clean s).2 == 0 && (at_ m (Sp.clean s).1).isSome
structure Move where
  src : List Bytes
  dst : List Bytes
  lack : List Bytes
  bytes : Nat
/-- Where the paths come to; none: a path is too long or too deep there. -/
def dests (n : Nat) (q : Bytes) : List Bytes → List Bytes × Int
  | [] => ([], 0)
  | k :: l => let c := Sp.clean (q ++ k.drop n); if c.2 ≠ 0 then ([], c.2) else let r := dests n q l; if r.2 ≠ 0 then ([], r.2) else (c.1 :: r.1, 0)
def plan (m : T) (s d : Bytes) : Option Move × Int :=
  if (Sp.clean s).2 ≠ 0 then (none, (Sp.clean s).2) else
  if (Sp.clean d).2 ≠ 0 then (none, (Sp.clean d).2) else
  let p := (Sp.clean s).1
  let q := (Sp.clean d).1
  if (at_ m p).isNone then (none, 52) else
  if p = [] ∨ Sp.within q p = true then (none, 54) else
  if (at_ m q).isSome then (none, 53) else
  match ahead m q with
  | none => (none, 54)
  | some lack =>
    let l := below m p
    let r := dests p.length q l
    if r.2 ≠ 0 then (none, r.2) else (some ⟨l, r.1, lack, (l.map fun k => ((get m k).getD (true, [])).2.length).sum⟩, 0)
def copyL (m : T) : List Bytes → List Bytes → T
  | k :: l, d :: r => copyL (set m d ((get m k).getD (true, []))) l r
  | _, _ => m
def copy (m : T) (v : Move) : T := copyL (make m v.lack) v.src v.dst
def rename (m : T) (s d : Bytes) : T × Int :=
  match plan m s d with
  | (some v, _) => if room m v.lack.length 0 = false then (m, 55) else (drop (copy m v) v.src, 0)
  | (none, e) => (m, e)
def cpy (m : T) (s d : Bytes) : T × Int :=
  match plan m s d with
  | (some v, _) => if room m (v.lack.length + v.src.length) v.bytes = false then (m, 55) else (copy m v, 0)
  | (none, e) => (m, e)
/-- All, in order. -/
def files (m : T) : T := m.mergeSort fun x y => decide (x.1 ≤ y.1)

/-- What a tree always is. -/
structure Ok (m : T) : Prop where
  nodup : (m.map (·.1)).Nodup
  cleaned : ∀ p ∈ m, p.1 ≠ [] ∧ Sp.clean p.1 = (p.1, 0)
  up : ∀ p ∈ m, Sp.parent p.1 = [] ∨ ∃ b, get m (Sp.parent p.1) = some (true, b)
  dir : ∀ p ∈ m, p.2.1 = true → p.2.2 = []
  max : ∀ p ∈ m, p.2.2.length ≤ 65536
  len : m.length ≤ 500
  bytes : size m ≤ 1048576

theorem Ok.nil : Ok [] := ⟨by simp, by simp, by simp, by simp, by simp, by simp, by simp [size]⟩
theorem get_mem {α : Type} {m : List (Bytes × α)} {k : Bytes} {v : α} (h : get m k = some v) : (k, v) ∈ m := by
  unfold get at h
  cases hf : m.find? (·.1 == k) with
  | none => rw [hf] at h; cases h
  | some p =>
    rw [hf] at h
    have h1 := List.find?_some hf
    have h2 := List.mem_of_find?_eq_some hf
    simp only [beq_iff_eq] at h1
    simp only [Option.map_some, Option.some.injEq] at h
    obtain ⟨a, b⟩ := p
    subst h1; subst h; exact h2
theorem mem_get {α : Type} {m : List (Bytes × α)} {k : Bytes} {v : α} (hn : (m.map (·.1)).Nodup) (h : (k, v) ∈ m) : get m k = some v := by
  induction m with
  | nil => cases h
  | cons p m ih =>
    simp only [List.map_cons, List.nodup_cons] at hn
    unfold get
    rw [List.find?_cons]
    rcases List.mem_cons.1 h with h | h
    · subst h; simp
    · have : p.1 ≠ k := fun e => hn.1 (List.mem_map.2 ⟨_, h, e.symm⟩)
      rw [show (p.1 == k) = false from by simpa using this]
      exact ih hn.2 h
theorem get_none {α : Type} {m : List (Bytes × α)} {k : Bytes} : get m k = none ↔ k ∉ m.map (·.1) := by
  unfold get
  rw [Option.map_eq_none_iff, List.find?_eq_none]
  simp only [beq_iff_eq, List.mem_map, not_exists, not_and]
end Tr
end Go.Proofs.YtmdpmpdlkaogdaaGreatDoor

namespace Go.Proofs.YtmdpmpdlkaogdaaGreatDoor
open Go Go.RowKit Vc

abbrev tN : TypeId := 104
abbrev tT : TypeId := 100
abbrev tB : TypeId := 5

/-- Blocks that hold neither a tree's node nor bytes. -/
def Kd (w : World) (S : Nat → Prop) : Prop := ∀ k, S k → ∀ c e fr, w.heap[k]? = some (.cells c e fr) → e ≠ tN ∧ e ≠ tB
theorem Kd.none (w : World) : Kd w none_ := fun _ h => h.elim
variable {A : Nat → Prop}
/-- A pointer to a node, whose bytes lie in no block of A. -/
def NodeAt (A : Nat → Prop) (w : World) (v : Value) (x : Tr.Nd) : Prop := ∃ b sl, v = .pointer (some ⟨b, 0, none⟩) ∧ w.heap[b]? = some (.cells #[.bool x.1, sl] tN (0, 0)) ∧ (∀ k, sl.ownBlock = some k → ¬ A k) ∧ Row w sl tB 1 x.2.length (encB x.2)
theorem Vc.Row.extK {S : Nat → Prop} {w w' : World} {v : Value} {sz n : Nat} {xs : List Value} (h : Row w v tB sz n xs) (hx : Ext S w w') (hk : Kd w S) : Row w' v tB sz n xs :=
  h.ext hx fun k hkv hS => by
    obtain ⟨cur, fr, hc⟩ := h.kind k hkv
    exact (hk k hS _ _ _ hc).2 rfl
theorem NodeAt.ext {S : Nat → Prop} {w w' : World} {v : Value} {x : Tr.Nd} (h : NodeAt A w v x) (hx : Ext S w w') (hk : Kd w S) : NodeAt A w' v x := by
  obtain ⟨b, sl, rfl, hb, ha, hr⟩ := h
  exact ⟨b, sl, rfl, hx.obj hb (fun hS => (hk b hS _ _ _ hb).1 rfl), ha, hr.extK hx hk⟩
/-- What a look-up may give. -/
def PtrAt (A : Nat → Prop) (w : World) (v : Value) : Option Tr.Nd → Prop
  | none => v = .pointer none
  | some x => NodeAt A w v x
theorem PtrAt.ext {S : Nat → Prop} {w w' : World} {v : Value} {x : Option Tr.Nd} (h : PtrAt A w v x) (hx : Ext S w w') (hk : Kd w S) : PtrAt A w' v x := by
  cases x with
  | none => exact h
  | some x => exact NodeAt.ext h hx hk
def Reps (A : Nat → Prop) (w : World) : AL → Tr.T → Prop
  | [], [] => True
  | (k, v) :: al, (k', x) :: m => k = k' ∧ NodeAt A w v x ∧ Reps A w al m
  | _, _ => False
theorem Reps.ext {S : Nat → Prop} {w w' : World} : ∀ {al : AL} {m : Tr.T}, Reps A w al m → Ext S w w' → Kd w S → Reps A w' al m
  | [], [], _, _, _ => trivial
  | (_, _) :: _, (_, _) :: _, h, hx, hk => ⟨h.1, h.2.1.ext hx hk, h.2.2.ext hx hk⟩
  | [], _ :: _, h, _, _ => h.elim
  | _ :: _, [], h, _, _ => h.elim
theorem Reps.keys {w : World} : ∀ {al : AL} {m : Tr.T}, Reps A w al m → al.map (·.1) = m.map (·.1)
  | [], [], _ => rfl
  | (_, _) :: _, (_, _) :: _, h => by simp only [List.map_cons]; rw [h.1, h.2.2.keys]
  | [], _ :: _, h => h.elim
  | _ :: _, [], h => h.elim
theorem Reps.length {w : World} {al : AL} {m : Tr.T} (h : Reps A w al m) : al.length = m.length := by have := congrArg List.length h.keys; simpa using this
theorem Reps.look {w : World} {al : AL} {m : Tr.T} (h : Reps A w al m) (k : Tr.Bytes) : PtrAt A w ((aget al k).getD (.pointer none)) (Tr.get m k) := by
  induction al generalizing m with
  | nil => cases m with | nil => exact rfl | cons _ _ => exact h.elim
  | cons p al ih =>
    cases m with
    | nil => exact h.elim
    | cons q m =>
      obtain ⟨k1, v⟩ := p
      obtain ⟨k2, x⟩ := q
      obtain ⟨rfl, hn, h⟩ := h
      unfold aget Tr.get
      simp only [List.find?_cons]
      cases hb : (k1 == k) with
      | true => exact hn
      | false => exact ih h
theorem Reps.isSome {w : World} {al : AL} {m : Tr.T} (h : Reps A w al m) (k : Tr.Bytes) : (aget al k).isSome = (Tr.get m k).isSome := by
  induction al generalizing m with
  | nil => cases m with | nil => exact rfl | cons _ _ => exact h.elim
  | cons p al ih =>
    cases m with
    | nil => exact h.elim
    | cons q m =>
      obtain ⟨k1, v⟩ := p
      obtain ⟨k2, x⟩ := q
      obtain ⟨rfl, hn, h⟩ := h
      unfold aget Tr.get
      simp only [List.find?_cons]
      cases hb : (k1 == k) with
      | true => rfl
      | false => exact ih h
theorem Reps.put {w : World} {al : AL} {m : Tr.T} (h : Reps A w al m) (k : Tr.Bytes) {v : Value} {x : Tr.Nd} (hv : NodeAt A w v x) : Reps A w (aset al k v) (Tr.set m k x) := by
  unfold aset Tr.set
  rw [h.keys]
  split
  · rename_i hh; clear hh
    induction al generalizing m with
    | nil => cases m with | nil => trivial | cons _ _ => exact h.elim
    | cons p al ih =>
      cases m with
      | nil => exact h.elim
      | cons q m =>
        obtain ⟨k1, v1⟩ := p
        obtain ⟨k2, x1⟩ := q
        obtain ⟨rfl, hn, h⟩ := h
        simp only [List.map_cons]
        cases hb : (k1 == k) with
        | true => exact ⟨rfl, hv, ih h⟩
        | false => exact ⟨rfl, hn, ih h⟩
  · rename_i hh; clear hh
    induction al generalizing m with
    | nil => cases m with | nil => exact ⟨rfl, hv, trivial⟩ | cons _ _ => exact h.elim
    | cons p al ih =>
      cases m with
      | nil => exact h.elim
      | cons q m => exact ⟨h.1, h.2.1, ih h.2.2⟩
theorem Reps.del {w : World} {al : AL} {m : Tr.T} (h : Reps A w al m) (k : Tr.Bytes) : Reps A w (adel al k) (Tr.del m k) := by
  unfold adel Tr.del
  induction al generalizing m with
  | nil => cases m with | nil => trivial | cons _ _ => exact h.elim
  | cons p al ih =>
    cases m with
    | nil => exact h.elim
    | cons q m =>
      obtain ⟨k1, v1⟩ := p
      obtain ⟨k2, x1⟩ := q
      obtain ⟨rfl, hn, h⟩ := h
      simp only [List.filter_cons]
      cases hb : (k1 == k) with
      | true => exact ih h
      | false => exact ⟨rfl, hn, ih h⟩

/-- Block bt is a tree: its map is block bm, its paths and nodes are m, the bytes that it counts sz. -/
structure TreeAt (A : Nat → Prop) (w : World) (bt bm : Nat) (m : Tr.T) (sz : Int) : Prop where
  cell : w.heap[bt]? = some (.cells #[.map (some bm), .int .i64 sz] tT (0, 0))
  reps : ∃ al, MapAt w bm al ∧ Reps A w al m
  low : ∀ k, A k → k < w.heap.size
theorem TreeAt.lowAt {w w' : World} {bt bm : Nat} {m : Tr.T} {sz : Int} (h : TreeAt A w bt bm m sz) (hs : w.heap.size ≤ w'.heap.size) : ∀ k, A k → k < w'.heap.size := fun k hk => Nat.lt_of_lt_of_le (h.low k hk) hs
theorem TreeAt.nil_any {w : World} {bt bm : Nat} {sz : Int} (h : TreeAt none_ w bt bm [] sz) (hA : ∀ k, A k → k < w.heap.size) : TreeAt A w bt bm [] sz := by
  obtain ⟨al, h1, h2⟩ := h.reps
  cases al with
  | nil => exact ⟨h.cell, ⟨[], h1, trivial⟩, hA⟩
  | cons _ _ => exact h2.elim
/-- The blocks that a tree's methods turn. -/
def Two (bt bm : Nat) : Nat → Prop := fun k => k = bt ∨ k = bm
theorem TreeAt.kd {w : World} {bt bm : Nat} {m : Tr.T} {sz : Int} (h : TreeAt A w bt bm m sz) : Kd w (Two bt bm) := by
  rintro k (rfl | rfl) c e fr hc
  · rw [h.cell] at hc; cases hc; exact ⟨by decide, by decide⟩
  · obtain ⟨al, ⟨es, cl, hm, _⟩, _⟩ := h.reps
    rw [hm] at hc; cases hc
theorem TreeAt.ne {w : World} {bt bm : Nat} {m : Tr.T} {sz : Int} (h : TreeAt A w bt bm m sz) : bt ≠ bm := by
  rintro rfl
  obtain ⟨al, ⟨es, cl, hm, _⟩, _⟩ := h.reps
  rw [h.cell] at hm; cases hm
theorem TreeAt.lt {w : World} {bt bm : Nat} {m : Tr.T} {sz : Int} (h : TreeAt A w bt bm m sz) : bt < w.heap.size ∧ bm < w.heap.size := by
  obtain ⟨al, hm, _⟩ := h.reps
  exact ⟨lt_of_obj h.cell, hm.lt⟩
theorem TreeAt.nodup {w : World} {bt bm : Nat} {m : Tr.T} {sz : Int} (h : TreeAt A w bt bm m sz) : (m.map (·.1)).Nodup := by
  obtain ⟨al, hm, hr⟩ := h.reps
  rw [← hr.keys]; exact hm.nodup
theorem TreeAt.ext {S : Nat → Prop} {w w' : World} {bt bm : Nat} {m : Tr.T} {sz : Int} (h : TreeAt A w bt bm m sz) (hx : Ext S w w') (hk : Kd w S) (h1 : ¬ S bt) (h2 : ¬ S bm) : TreeAt A w' bt bm m sz := by
  obtain ⟨al, hm, hr⟩ := h.reps
  exact ⟨hx.obj h.cell h1, ⟨al, hm.ext hx h2, hr.ext hx hk⟩, fun k hk => Nat.lt_of_lt_of_le (h.low k hk) hx.size⟩
theorem TreeAt.ext0 {w w' : World} {bt bm : Nat} {m : Tr.T} {sz : Int} (h : TreeAt A w bt bm m sz) (hx : Ext none_ w w') : TreeAt A w' bt bm m sz := h.ext hx (Kd.none w) id id
/-- Another tree stays as it is. -/
theorem TreeAt.other {w w' : World} {bt bm ct cm : Nat} {m k : Tr.T} {sz tz : Int} (h : TreeAt A w bt bm m sz) (h' : TreeAt A w ct cm k tz) (hx : Ext (Two ct cm) w w') (h1 : bt ≠ ct) (h2 : bm ≠ cm) : TreeAt A w' bt bm m sz := by
  refine h.ext hx h'.kd ?_ ?_
  · rintro (e | e)
    · exact h1 e
    · subst e
      obtain ⟨al, ⟨es, cl, hm, _⟩, _⟩ := h'.reps
      rw [h.cell] at hm; cases hm
  · rintro (e | e)
    · subst e
      obtain ⟨al, ⟨es, cl, hm, _⟩, _⟩ := h.reps
      rw [h'.cell] at hm; cases hm
    · exact h2 e
theorem NodeAt.step {B : Nat → Prop} {w w' : World} {v : Value} {x : Tr.Nd} (h : NodeAt A w v x) (hx : Ext A w w') (hk : ∀ k, A k → ∃ c fr, w.heap[k]? = some (.cells c tB fr)) (hB : ∀ k, B k → A k ∨ w.heap.size ≤ k) : NodeAt B w' v x := by
  obtain ⟨b, sl, rfl, hb, ha, hr⟩ := h
  refine ⟨b, sl, rfl, hx.obj hb (fun hA => ?_), fun k hkv hBk => ?_, hr.ext hx ha⟩
  · obtain ⟨c, fr, h⟩ := hk b hA
    rw [hb] at h; cases h
  · rcases hB k hBk with h | h
    · exact ha k hkv h
    · have := hr.lt k hkv; omega
theorem Reps.step {B : Nat → Prop} {w w' : World} : ∀ {al : AL} {m : Tr.T}, Reps A w al m → Ext A w w' → (∀ k, A k → ∃ c fr, w.heap[k]? = some (.cells c tB fr)) → (∀ k, B k → A k ∨ w.heap.size ≤ k) → Reps B w' al m
  | [], [], _, _, _, _ => trivial
  | (_, _) :: _, (_, _) :: _, h, hx, hk, hB => ⟨h.1, h.2.1.step hx hk hB, h.2.2.step hx hk hB⟩
  | [], _ :: _, h, _, _, _ => h.elim
  | _ :: _, [], h, _, _, _ => h.elim
/-- Bytes that a tree has nothing of may turn; and the tree has nothing of what is new. -/
theorem TreeAt.step {B : Nat → Prop} {w w' : World} {bt bm : Nat} {m : Tr.T} {sz : Int} (h : TreeAt A w bt bm m sz) (hx : Ext A w w') (hk : ∀ k, A k → ∃ c fr, w.heap[k]? = some (.cells c tB fr)) (hB : ∀ k, B k → A k ∨ w.heap.size ≤ k) (hlt : ∀ k, B k → k < w'.heap.size) : TreeAt B w' bt bm m sz := by
  obtain ⟨al, ⟨es, cl, hm, h2⟩, hr⟩ := h.reps
  refine ⟨hx.obj h.cell (fun hA => ?_), ⟨al, ⟨es, cl, hx.obj hm (fun hA => ?_), h2⟩, hr.step hx hk hB⟩, hlt⟩
  · obtain ⟨c, fr, h'⟩ := hk bt hA
    rw [h.cell] at h'; cases h'
  · obtain ⟨c, fr, h'⟩ := hk bm hA
    rw [hm] at h'; cases h'
/-- It has nothing of what is new. -/
theorem TreeAt.fresh {B : Nat → Prop} {w w' : World} {bt bm : Nat} {m : Tr.T} {sz : Int} (h : TreeAt none_ w bt bm m sz) (hx : Ext none_ w w') (hB : ∀ k, B k → w.heap.size ≤ k ∧ k < w'.heap.size) : TreeAt B w' bt bm m sz :=
  h.step hx (fun _ h => h.elim) (fun k hk => .inr (hB k hk).1) (fun k hk => (hB k hk).2)
/-- Cells that a tree's own blocks have not. -/
def calm : Value → Bool | .map _ | .int .i64 _ => false | _ => true
/-- What came in stays as it is, whatever is done to the tree. -/
theorem Vc.RowA.two {w w' : World} {bt bm : Nat} {m : Tr.T} {sz : Int} {v : Value} {n : Nat} {xs : List Value} (h : RowA w v n xs) (hT : TreeAt A w bt bm m sz) (hx : Ext (Two bt bm) w w') (hc : ∀ u ∈ xs, calm u = true) : RowA w' v n xs :=
  h.keep hx.size fun ad u hu hb hcell => hx.block _ hb fun hS => by
    have hcu := hc u hu
    rcases hS with e | e
    · unfold World.cell? at hcell
      rw [e, hT.cell] at hcell
      simp only at hcell
      split at hcell
      · cases hcell
      · match ad.off, hcell with
        | 0, hcell => simp at hcell; subst hcell; cases hcu
        | 1, hcell => simp at hcell; subst hcell; cases hcu
        | k + 2, hcell => simp at hcell
    · obtain ⟨al, ⟨es, cl, hm, _⟩, _⟩ := hT.reps
      unfold World.cell? at hcell
      rw [e, hm] at hcell
      cases hcell
theorem calmB (l : List UInt8) : ∀ u ∈ encB l, calm u = true := by intro u hu; simp [encB] at hu; obtain ⟨b, _, rfl⟩ := hu; rfl
theorem TreeAt.c0 {w : World} {bt bm : Nat} {m : Tr.T} {sz : Int} (h : TreeAt A w bt bm m sz) : w.cell? ⟨bt, 0, none⟩ = some (.map (some bm)) := cell_of h.cell rfl
theorem TreeAt.c1 {w : World} {bt bm : Nat} {m : Tr.T} {sz : Int} (h : TreeAt A w bt bm m sz) : w.cell? ⟨bt, 1, none⟩ = some (.int .i64 sz) := cell_of h.cell rfl
theorem TreeAt.len {w : World} {bt bm : Nat} {m : Tr.T} {sz : Int} (h : TreeAt A w bt bm m sz) : ∃ es c, w.heap[bm]? = some (.map es c) ∧ es.size = m.length := by
  obtain ⟨al, ⟨es, c, h1, h2, rfl⟩, hr⟩ := h.reps
  refine ⟨es, c, h1, ?_⟩
  have := hr.length
  simpa [absM] using this
abbrev pT (b : Nat) : Value := .pointer (some ⟨b, 0, none⟩)
/-- The string list of a call's own. -/
abbrev Strs (B : Nat) (w : World) (v : Value) (l : List Tr.Bytes) : Prop := w.ownsRow B 9 1 v l.length (encT l)
end Go.Proofs.YtmdpmpdlkaogdaaGreatDoor

namespace Go.Proofs.YtmdpmpdlkaogdaaGreatDoor
open Go Go.RowKit Vc
variable {A : Nat → Prop}

theorem ok_New : FnOk P 28 := ⟨_, Tryz.func28, by kernel_rfl, by kernel_rfl⟩
theorem ok_at : FnOk P 73 := ⟨_, Tryz.func73, by kernel_rfl, by kernel_rfl⟩
theorem ok_ahead : FnOk P 74 := ⟨_, Tryz.func74, by kernel_rfl, by kernel_rfl⟩
theorem ok_room : FnOk P 75 := ⟨_, Tryz.func75, by kernel_rfl, by kernel_rfl⟩
theorem ok_make : FnOk P 76 := ⟨_, Tryz.func76, by kernel_rfl, by kernel_rfl⟩

theorem c_New (w : World) : Calls P 28 #[] w fun e w' => ∃ bt bm, e = .returned (pT bt) ∧ w.heap.size ≤ bt ∧ w.heap.size ≤ bm ∧ TreeAt none_ w' bt bm [] 0 ∧ Ext none_ w w' := by
  refine enter (l := []) (n := 4) Tryz.func28 rfl rfl rfl ?_
  refine W.seq ?_
  refine W.reg <| asg rfl rfl <| L.nil ?_
  refine N.th ?_
  refine W.seq ?_
  refine W.reg <| mkm rfl <| bld (vs := #[(0, _)]) (v := .agg #[.map (some w.heap.size), .int .i64 0]) rfl rfl (fun _ => by kernel_rfl) <| box rfl rfl <| asg rfl rfl <| L.nil ?_
  refine N.th ?_
  refine W.ret ?_
  refine N.ret1 rfl rfl ?_   -- RETURN
  refine ⟨_, w.heap.size, rfl, by simp, Nat.le_refl _, ⟨heap_new _ _, ⟨[], ⟨#[], 0, ?_, ⟨by simp, by simp, by simp, by simp [absM]⟩, rfl⟩, trivial⟩, fun _ h => h.elim⟩, (Ext.alloc _ _ _).trans (Ext.alloc _ _ _)⟩
  exact (heap_alloc _ _ (by simp)).trans (heap_new w _)

theorem c_at {w : World} {bt bm : Nat} {m : Tr.T} {sz : Int} (p : Tr.Bytes) (ht : TreeAt A w bt bm m sz) : Calls P 73 #[pT bt, .string (S p)] w fun e w' => ∃ v, e = .returned v ∧ PtrAt A w' v (Tr.at_ m p) ∧ Ext none_ w w' := by
  refine enter (l := [_, _]) (n := 15) Tryz.func73 rfl rfl rfl ?_
  refine W.seq ?_
  refine W.reg <| asg rfl rfl <| L.nil ?_
  refine N.th ?_
  refine W.seq ?_
  refine W.seq ?_
  refine W.reg <| mv rfl rfl <| eqlS (a := p) (b := []) rfl rfl rfl <| L.nil ?_
  refine N.th ?_
  refine W.cond rfl (fun h => ?_) (fun h => ?_)
  · refine W.seq ?_
    refine W.reg <| bld (vs := #[(0, .bool true)]) (v := .agg #[.bool true, .slice none 0 0]) rfl rfl (fun _ => by kernel_rfl) <| box rfl rfl <| asg rfl rfl <| L.nil ?_
    refine N.th ?_
    refine W.ret ?_
    refine N.rth ?_
    refine N.ret1 rfl rfl ?_   -- RETURN
    have hp : p = [] := by simpa using h
    subst hp
    exact ⟨_, rfl, ⟨_, _, rfl, heap_new _ _, (fun k h => by cases h), Row.nil _ _ _⟩, Ext.alloc _ _ _⟩
  · refine W.skip ?_
    refine N.th ?_
    refine W.seq ?_
    obtain ⟨al, hm, hr⟩ := ht.reps
    refine W.reg <| mv rfl rfl <| nilc rfl rfl <| fad rfl fl_Tree_0 rfl <| ld1 rfl ag_mNode rfl ht.c0 <| mv rfl rfl <| lku rfl rfl u_mNode u_str ze_pNode rfl hm <| asg rfl rfl <| L.nil ?_
    refine N.th ?_
    refine W.ret ?_
    refine N.ret1 rfl rfl ?_   -- RETURN
    have hp : p ≠ [] := by simpa using h
    refine ⟨_, rfl, ?_, Ext.refl _ _⟩
    unfold Tr.at_; rw [if_neg hp]
    exact hr.look p

theorem c_room {w : World} {bt bm : Nat} {m : Tr.T} {sz : Int} {a b : Int} (ht : TreeAt A w bt bm m sz) (h1 : m.length ≤ 100000) (h2 : -1000000000000 ≤ sz) (h3 : sz ≤ 1000000000000) :
    Calls P 75 #[pT bt, .int .i64 a, .int .i64 b] w fun e w' => e = .returned (.bool (decide (a ≤ 500 - m.length) && decide (b ≤ 1048576 - sz))) ∧ w = w' := by
  refine enter (l := [_, _, _]) (n := 24) Tryz.func75 rfl rfl rfl ?_
  refine W.seq ?_
  refine W.reg <| asg rfl rfl <| L.nil ?_
  refine N.th ?_
  refine W.seq ?_
  obtain ⟨es, c, hb, hl⟩ := ht.len
  refine W.reg <| mv rfl rfl <| mv rfl rfl <| nilc rfl rfl <| fad rfl fl_Tree_0 rfl <| ld1 rfl ag_mNode rfl ht.c0 <| lenM rfl u_mNode (Kn.here hb) rfl <| subI (c := 500 - es.size) rfl rfl rfl (w64 (by omega) (by omega)) <| leqI rfl rfl rfl <| ?_
  by_cases hc : a ≤ 500 - (es.size : Int)
  · refine Vc.bt (by simpa using hc) ?_
    refine mv rfl rfl <| L.on rfl rfl rfl <| mv rfl rfl <| L.on rfl rfl rfl <| mv rfl rfl <| L.on rfl rfl rfl <| nilc rfl rfl <| L.on rfl rfl rfl <| fad rfl fl_Tree_1 rfl <| L.on rfl rfl rfl <| ld1 rfl ag_int rfl ht.c1 <| L.on rfl rfl rfl <| subI rfl rfl rfl (w64 (by omega) (by omega)) <| L.on rfl rfl rfl <| leqI rfl rfl rfl <| pickT rfl rfl rfl <| asg rfl rfl <| L.nil ?_
    refine N.th ?_
    refine W.ret ?_
    refine N.ret1 rfl rfl ?_   -- RETURN
    refine ⟨?_, rfl⟩
    rw [← hl, show decide (a ≤ 500 - (es.size : Int)) = true by simpa using hc, Bool.true_and]
  · refine Vc.bf (by simpa using hc) ?_
    refine mv rfl rfl <| L.off rfl rfl rfl rfl rfl <| L.off rfl rfl rfl rfl rfl <| L.off rfl rfl rfl rfl rfl <| L.off rfl rfl rfl rfl rfl <| L.off rfl rfl rfl rfl rfl <| L.off rfl rfl rfl rfl rfl <| L.off rfl rfl rfl rfl rfl <| pickF rfl rfl rfl <| asg rfl rfl <| L.nil ?_
    refine N.th ?_
    refine W.ret ?_
    refine N.ret1 rfl rfl ?_   -- RETURN
    refine ⟨?_, rfl⟩
    rw [← hl, show decide (a ≤ 500 - (es.size : Int)) = false by simpa using hc, Bool.false_and]

/-- One directory more. -/
theorem TreeAt.mapSet {w w' : World} {bt bm : Nat} {m : Tr.T} {sz : Int} {k : Tr.Bytes} {v : Value} {x : Tr.Nd} {al : AL} (hm : MapAt w bm al) (hr : Reps A w al m) (hc : w.heap[bt]? = some (.cells #[.map (some bm), .int .i64 sz] tT (0, 0))) (hv : NodeAt A w v x)
    (hm' : MapAt w' bm (aset al k v)) (hx : Ext (fun i => i = bm) w w') (hlow : ∀ k, A k → k < w.heap.size) : TreeAt A w' bt bm (Tr.set m k x) sz := by
  have hT : TreeAt A w bt bm m sz := ⟨hc, ⟨al, hm, hr⟩, hlow⟩
  have hkd : Kd w (fun i => i = bm) := fun i hi => hT.kd i (.inr hi)
  exact ⟨hx.obj hc hT.ne, ⟨_, hm', (hr.put k hv).ext hx hkd⟩, hT.lowAt hx.size⟩

theorem c_make {w : World} {bt bm : Nat} {m : Tr.T} {sz : Int} (l : List Tr.Bytes) (v : Value) (ht : TreeAt A w bt bm m sz) (hv : Row w v 9 1 l.length (encT l)) :
    Calls P 76 #[pT bt, v] w fun e w' => e = .returned (.tuple #[]) ∧ TreeAt A w' bt bm (Tr.make m l) sz ∧ Ext (Two bt bm) w w' := by
  obtain ⟨-, a, cap, rfl, hn, hmx, -, -⟩ := id hv
  have hlm : l.length ≤ maxLen := by omega
  simp only [maxLen] at hlm
  refine enter (l := [_, _]) (n := 20) Tryz.func76 rfl rfl rfl ?_
  refine W.seq ?_
  refine W.reg <| mv rfl rfl <| lenV rfl u_strs rfl <| mv rfl rfl <| L.nil ?_
  refine N.th ?_
  refine W.block ?_
  refine W.loop (X := List Tr.Bytes × List Tr.Bytes) (fun x => [(8, .int .i64 x.1.length), (7, .int .i64 l.length), (6, .slice a l.length cap), (0, pT bt)])
    (fun x w' => l = x.1 ++ x.2 ∧ TreeAt A w' bt bm (Tr.make m x.1) sz ∧ Ext (Two bt bm) w w') (fun x => x.2.length) ([], l) ⟨rfl, rfl, rfl, rfl, trivial⟩ ⟨rfl, ht, Ext.refl _ _⟩ ?_
  rintro ⟨pre, rest⟩ w1 ⟨hl, ht1, hx1⟩
  dsimp only at hl ht1 ⊢
  refine W.seq ?_
  refine W.reg <| lssI rfl rfl rfl <| L.nil ?_
  refine N.th ?_
  refine W.seq ?_
  refine W.cond rfl (fun h => ?_) (fun h => ?_)
  · refine W.skip ?_
    refine N.th ?_
    refine W.seq ?_
    refine W.block ?_
    refine W.seq ?_
    cases rest with
    | nil => simp [hl] at h
    | cons d rest =>
    have hpl : pre.length + 1 ≤ l.length := by rw [hl]; simp
    have hv1 : Row w1 (.slice a l.length cap) 9 1 l.length (encT l) := hv.ext hx1 (fun k hk => by
      obtain ⟨cur, fr, hc⟩ := hv.kind k hk
      rintro (rfl | rfl)
      · rw [ht.cell] at hc; cases hc
      · obtain ⟨_, ⟨_, _, hm, _⟩, _⟩ := ht.reps
        rw [hm] at hc; cases hc)
    rcases hv1.form with ⟨h0, h1, _⟩ | ⟨b, o, c, h0, h1, h2, h3, hcell⟩
    · rw [hl] at h1; simp at h1
    cases h0
    have hd : w1.cell? ⟨b, o + pre.length, none⟩ = some (.string (S d)) := hcell pre.length _ (by rw [hl]; simp [encT])
    obtain ⟨al, hm, hr⟩ := ht1.reps
    refine W.reg <| ixa rfl rfl u_strs sz_str rfl (by omega) (by simp [hl]; omega) <| ld1 rfl ag_str rfl (by rw [Nat.mul_one]; exact hd) <| asg rfl rfl <| L.nil ?_
    refine N.th ?_
    refine W.reg <| mv rfl rfl <| nilc rfl rfl <| fad rfl fl_Tree_0 rfl <| ld1 rfl ag_mNode rfl ht1.c0 <| mv rfl rfl <| bld (vs := #[(0, .bool true)]) (v := .agg #[.bool true, .slice none 0 0]) rfl rfl (fun _ => by kernel_rfl) <| box rfl rfl <|
      mup rfl rfl rfl u_mNode u_str (hm.ext (Ext.alloc none_ _ _) id) fun w2 hm2 hx2 hs2 => ?_
    have hT2 : TreeAt A w2 bt bm (Tr.set (Tr.make m pre) d (true, [])) sz :=
      TreeAt.mapSet (hm.ext (Ext.alloc none_ _ _) id) (hr.ext (Ext.alloc none_ _ _) (Kd.none _)) ((heap_alloc _ _ ht1.lt.1).trans ht1.cell) ⟨_, _, rfl, heap_new _ _, (fun k h => by cases h), Row.nil _ _ _⟩ hm2 hx2 (ht1.lowAt (by simp))
    refine L.nil ?_
    refine N.inb ?_
    refine N.th ?_
    refine W.reg <| addI (c := (pre.length : Int) + 1) rfl rfl rfl (w64 (by omega) (by omega)) <| mv rfl rfl <| L.nil ?_
    refine N.th (N.round (x := (pre ++ [d], rest)) ⟨?_, rfl, rfl, rfl, trivial⟩ ?_ ?_)   -- ROUND
    · simp [getE]
    · refine ⟨by simp [hl], ?_, ?_⟩
      · rw [show Tr.make m (pre ++ [d]) = Tr.set (Tr.make m pre) d (true, []) by simp [Tr.make]]; exact hT2
      · exact hx1.trans ((Ext.alloc _ _ _).trans (hx2.mono fun _ _ h => .inr h))
    · simp
  · refine W.exit ?_
    refine N.xth ?_
    refine N.xth ?_
    refine N.xeq ?_
    refine N.end0 rfl ?_
    cases rest with
    | cons d rest => simp [hl] at h; omega
    | nil =>
    obtain rfl : l = pre := by simpa using hl
    exact ⟨rfl, ht1, hx1⟩

theorem parent_lt {d : Tr.Bytes} (h : d ≠ []) : (Sp.parent d).length < d.length := by
  have := lastSlash_bd d
  have hp : 0 < d.length := List.length_pos_iff.2 h
  simp only [Sp.parent, List.length_take]
  omega
theorem parent_le (d : Tr.Bytes) : (Sp.parent d).length ≤ d.length := by simp only [Sp.parent, List.length_take]; omega
theorem aheadF_more (m : Tr.T) : ∀ (n : Nat) (d : Tr.Bytes), d.length ≤ n → ∀ k, n ≤ k → Tr.aheadF m k d = Tr.aheadF m n d := by
  intro n
  induction n with
  | zero =>
    intro d hd k _
    have : d = [] := List.eq_nil_of_length_eq_zero (by omega)
    subst this
    cases k <;> simp [Tr.aheadF]
  | succ n ih =>
    intro d hd k hk
    cases k with
    | zero => omega
    | succ k =>
      by_cases h0 : d = []
      · subst h0; simp [Tr.aheadF]
      · have := parent_lt h0
        simp only [Tr.aheadF, if_neg h0]
        rw [ih _ (by omega) k (by omega)]
theorem aheadF_step (m : Tr.T) {n : Nat} {d : Tr.Bytes} (hd : d.length ≤ n) (h0 : d ≠ []) : Tr.aheadF m n d = match Tr.get m d with
    | none => (Tr.aheadF m n (Sp.parent d)).map (d :: ·)
    | some x => if x.1 then Tr.aheadF m n (Sp.parent d) else none := by
  cases n with
  | zero => exact absurd (List.eq_nil_of_length_eq_zero (by omega)) h0
  | succ n =>
    have := parent_lt h0
    rw [aheadF_more m n (Sp.parent d) (by omega) (n + 1) (by omega)]
    (simp only [Tr.aheadF, if_neg h0]) <;> (cases Tr.get m d <;> rfl)

theorem c_ahead {w : World} {bt bm : Nat} {m : Tr.T} {sz : Int} (p : Tr.Bytes) (hp : p.length ≤ 1000000) (ht : TreeAt A w bt bm m sz) :
    Calls P 74 #[pT bt, .string (S p)] w fun e w' => Ext none_ w w' ∧ match Tr.ahead m p with
      | none => e = .returned (.tuple #[.slice none 0 0, .int .i64 54])
      | some l => ∃ v, e = .returned (.tuple #[v, .int .i64 0]) ∧ Strs w.heap.size w' v l := by
  refine enter (l := [_, _]) (n := 35) Tryz.func74 rfl rfl rfl ?_
  refine W.seq ?_
  refine W.reg <| asg rfl rfl <| asg rfl rfl <| L.nil ?_
  refine N.th ?_
  refine W.seq ?_
  refine W.reg <| asg rfl rfl <| L.nil ?_
  refine N.th ?_
  refine W.seq ?_
  refine W.seq ?_
  refine W.reg <| mv rfl rfl <| call (vs := [_]) rfl rfl ok_Parent (c_Parent p (by omega) w) ?_
  rintro e w0 ⟨rfl, rfl⟩
  refine ⟨_, rfl, ?_⟩
  refine asg rfl rfl <| L.nil ?_
  refine N.th ?_
  refine W.block ?_
  refine W.loop (X := Tr.Bytes × List Tr.Bytes × Value) (fun x => [(7, .string (S x.1)), (6, x.2.2), (0, pT bt)])
    (fun x w' => x.1.length ≤ p.length ∧ x.2.1.length + x.1.length ≤ p.length ∧ Tr.ahead m p = (Tr.aheadF m p.length x.1).map (x.2.1 ++ ·) ∧ Strs w.heap.size w' x.2.2 x.2.1 ∧ Ext none_ w w') (fun x => x.1.length) (Sp.parent p, [], .slice none 0 0) ⟨rfl, rfl, rfl, trivial⟩
    ⟨parent_le p, by simpa using parent_le p, by simp [Tr.ahead], ⟨rfl, .inl ⟨rfl, rfl⟩⟩, Ext.refl _ _⟩ ?_
  rintro ⟨d, acc, v⟩ w1 ⟨hd, hacc, heq, hown, hx⟩
  dsimp only at hd hacc heq hown ⊢
  have ht1 := ht.ext0 hx
  refine W.seq ?_
  refine W.seq ?_
  refine W.reg <| mv rfl rfl <| neqS (a := d) (b := []) rfl rfl rfl <| L.nil ?_
  refine N.th ?_
  refine W.cond rfl (fun h => ?_) (fun h => ?_)
  · refine W.skip ?_
    refine N.th ?_
    have h0 : d ≠ [] := by simpa using h
    have hlt := parent_lt h0
    have hst := aheadF_step m hd h0
    refine W.seqM (fun E w2 => ∃ acc' v', E = [(7, .string (S d)), (6, v'), (0, pT bt)] ∧ acc'.length + d.length ≤ p.length + 1 ∧ Tr.ahead m p = (Tr.aheadF m p.length (Sp.parent d)).map (acc' ++ ·) ∧ Strs w.heap.size w2 v' acc' ∧ Ext none_ w w2) ?_ ?_   -- CUT
    · refine W.block ?_
      refine W.seq ?_
      obtain ⟨al, hm, hr⟩ := ht1.reps
      refine W.reg <| mv rfl rfl <| nilc rfl rfl <| fad rfl fl_Tree_0 rfl <| ld1 rfl ag_mNode rfl ht1.c0 <| mv rfl rfl <| lku rfl rfl u_mNode u_str ze_pNode rfl hm <| asg rfl rfl <| L.nil ?_
      refine N.th ?_
      refine W.block ?_
      refine W.seq ?_
      have hlook := hr.look d
      revert hlook
      generalize (aget al d).getD (.pointer none) = u
      cases hg : Tr.get m d with
      | none =>
        rintro rfl
        rw [hg] at hst
        simp only at hst
        refine W.reg <| mv rfl rfl <| eqlPN rfl u_pNode rfl <| asg rfl rfl <| L.nil ?_
        refine N.th ?_
        refine W.condT rfl ?_
        refine W.reg <| mv rfl rfl <| mv rfl rfl <| bls (vs := #[(0, .string (S d))]) (cs := #[.string (S d)]) (e := 9) rfl rfl (fun _ => by kernel_rfl) <|
          app rfl rfl rfl el_strs (own_ext hown (Ext.alloc none_ _ _) fun _ _ => id) (news := [.string (S d)]) rfl (fun j u hj => by
            cases j with
            | zero => cases hj; exact cell1 (heap_new _ _)
            | succ j => cases hj) (by simp [Value.oneCell']) (by omega) (by simp only [maxLen]; omega) (by have := hx.size; simp; omega) fun v' w2 hown2 hx2 _ _ => ?_
        refine asg rfl rfl <| L.nil ?_
        refine N.inb ?_
        refine N.inb ?_
        refine N.th (N.meet [(7, .string (S d)), (6, v'), (0, pT bt)] ⟨rfl, rfl, rfl, trivial⟩ ⟨acc ++ [d], v', rfl, ?_, ?_, ?_, ?_⟩)   -- MEET
        · simp; omega
        · rw [heq, hst]
          cases Tr.aheadF m p.length (Sp.parent d) with
          | none => rfl
          | some r => simp
        · simpa [Strs, encT] using hown2
        · refine (hx.trans (Ext.alloc none_ _ _)).trans' hx2 fun i hi hh => ?_
          obtain ⟨_, ⟨rfl, _⟩ | ⟨g, c, cu, rfl, hb, _⟩⟩ := hown
          · cases hh
          · have : g = i := by simpa [Value.ownBlock] using hh
            omega
      | some x =>
        rintro ⟨b, sl, rfl, hb, hav, hrow⟩
        rw [hg] at hst
        simp only at hst
        refine W.reg <| mv rfl rfl <| eqlPN rfl u_pNode rfl <| asg rfl rfl <| L.nil ?_
        refine N.th ?_
        refine W.condF rfl ?_
        refine W.seq ?_
        have hc0 : w1.cell? ⟨b, 0, none⟩ = some (.bool x.1) := cell_of hb rfl
        refine W.reg <| mv rfl rfl <| nilc rfl rfl <| fad rfl fl_Node_0 rfl <| ld1 rfl ag_bool rfl hc0 <| notB rfl rfl <| asg rfl rfl <| L.nil ?_
        refine N.th ?_
        refine W.cond rfl (fun h => ?_) (fun h => ?_)
        · refine W.seq ?_
          refine W.reg <| asg rfl rfl <| asg rfl rfl <| L.nil ?_
          refine N.th ?_
          refine W.ret ?_
          refine N.rinb <| N.rinb <| N.rth <| N.rth <| N.rinb <| N.rth ?_
          refine N.ret2 rfl rfl rfl ?_   -- RETURN
          have hx1 : x.1 = false := by simpa using h
          refine ⟨hx, ?_⟩
          rw [heq, hst, hx1]
          rfl
        · refine W.skip ?_
          refine N.inb ?_
          refine N.inb ?_
          have hx1 : x.1 = true := by simpa using h
          refine N.th (N.meet [(7, .string (S d)), (6, v), (0, pT bt)] ⟨rfl, rfl, rfl, trivial⟩ ⟨acc, v, rfl, ?_, ?_, hown, hx⟩)   -- MEET
          · omega
          · rw [heq, hst, hx1]; rfl
    rintro E w2 ⟨acc', v', rfl, hacc', heq', hown', hx'⟩
    refine W.reg <| mv rfl rfl <| call (vs := [_]) rfl rfl ok_Parent (c_Parent d (by omega) w2) ?_
    rintro e w3 ⟨rfl, rfl⟩
    refine ⟨_, rfl, ?_⟩
    refine asg rfl rfl <| L.nil ?_
    refine N.th (N.round (x := (Sp.parent d, acc', v')) ⟨rfl, rfl, rfl, trivial⟩ ⟨by dsimp only; omega, by dsimp only; omega, heq', hown', hx'⟩ ?_)   -- ROUND
    simpa using hlt
  · refine W.exit ?_
    refine N.xth ?_
    refine N.xth ?_
    refine N.xeq ?_
    refine N.th ?_
    refine W.seq ?_
    refine W.reg <| mv rfl rfl <| asg rfl rfl <| asg rfl rfl <| L.nil ?_
    refine N.th ?_
    refine W.ret ?_
    refine N.ret2 rfl rfl rfl ?_   -- RETURN
    have h0 : d = [] := by simpa using h
    refine ⟨hx, ?_⟩
    subst h0
    rw [heq, show Tr.aheadF m p.length [] = some [] by cases p.length <;> simp [Tr.aheadF]]
    exact ⟨v, rfl, by simpa using hown⟩
end Go.Proofs.YtmdpmpdlkaogdaaGreatDoor
