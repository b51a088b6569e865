/- path.walk. -/
import Derived.Test.YtmdpmpdlkaogdaaGreatDoorPc
namespace Go.Proofs.YtmdpmpdlkaogdaaGreatDoor
open Go Go.RowKit Vc

/-- What stands between two rounds: pre has been walked over. -/
structure WalkI (w0 : World) (v : Value) (B stay : Nat) (ls : List Sp.Bytes) (s : Sp.Bytes) (pre : List Sp.Bytes) (u : World) : Prop where
  l : ∃ ls' v', u.heap[w0.heap.size]? = some (.cells #[v'] 46) ∧ u.ownsRow B 9 1 v' ls'.length (encT ls') ∧ (v'.ownBlock = v.ownBlock ∨ ∀ k, v'.ownBlock = some k → w0.heap.size + 9 ≤ k) ∧
    stay ≤ ls'.length ∧ ls'.length ≤ stay + pre.length ∧ ∀ rest, Sp.split s = pre ++ rest → Sp.walk stay ls (Sp.split s) = Sp.walk stay ls' rest
  r1 : u.heap[w0.heap.size + 1]? = some (.cells #[.slice none 0 0] 46)
  r2 : u.heap[w0.heap.size + 2]? = some (.cells #[.int .i64 0] 32)
  st : u.heap[w0.heap.size + 3]? = some (.cells #[.int .i64 stay] 3)
  ext : Ext (fun k => v.ownBlock = some k) w0 u
/-- A round has said why there is no such path. -/
structure WalkX (w0 : World) (v : Value) (stay : Nat) (ls : List Sp.Bytes) (s : Sp.Bytes) (u : World) : Prop where
  r : ∃ e : Int, u.heap[w0.heap.size + 1]? = some (.cells #[.slice none 0 0] 46) ∧ u.heap[w0.heap.size + 2]? = some (.cells #[.int .i64 e] 32) ∧ Sp.walk stay ls (Sp.split s) = ([], e)
  ext : Ext (fun k => v.ownBlock = some k) w0 u

theorem WalkI.step {w0 : World} {v : Value} {B stay : Nat} {ls : List Sp.Bytes} {s : Sp.Bytes} {pre : List Sp.Bytes} {A C : World} (h : WalkI w0 v B stay ls s pre A) (hv : ∀ k, v.ownBlock = some k → k < w0.heap.size) {j : Nat} (hj : w0.heap.size + 3 < j) (hj9 : j < w0.heap.size + 9) (hx : Ext (fun k => k = j) A C) : WalkI w0 v B stay ls s pre C := by
  obtain ⟨⟨ls', v', h1, h2, h3, h4⟩, h5, h6, h7, h8⟩ := h
  refine ⟨⟨ls', v', hx.obj h1 (by omega), own_ext h2 hx ?_, h3, h4⟩, hx.obj h5 (by omega), hx.obj h6 (by omega), hx.obj h7 (by omega), h8.trans' hx (fun i hi e => by omega)⟩
  intro k hk
  rcases h3 with h3 | h3
  · have := hv k (h3 ▸ hk); omega
  · have := h3 k hk; omega
theorem WalkX.step {w0 : World} {v : Value} {stay : Nat} {ls : List Sp.Bytes} {s : Sp.Bytes} {A C : World} (h : WalkX w0 v stay ls s A) {j : Nat} (hj : w0.heap.size + 3 < j) (hx : Ext (fun k => k = j) A C) : WalkX w0 v stay ls s C := by
  obtain ⟨⟨e, h1, h2, h3⟩, h4⟩ := h
  exact ⟨⟨e, hx.obj h1 (by omega), hx.obj h2 (by omega), h3⟩, h4.trans' hx (fun i hi e => by omega)⟩

theorem walk_skip {stay : Nat} {l : List Sp.Bytes} {x : Sp.Bytes} {xs : List Sp.Bytes} (h : x = [] ∨ x = [46]) : Sp.walk stay l (x :: xs) = Sp.walk stay l xs := by
  rcases h with rfl | rfl
  · rw [Sp.walk, if_pos rfl]
  · rw [Sp.walk, if_neg (by decide), if_pos rfl]
theorem walk_up {stay : Nat} {l xs : List Sp.Bytes} (h : l.length ≠ stay) : Sp.walk stay l ([46, 46] :: xs) = Sp.walk stay l.dropLast xs := by
  rw [Sp.walk, if_neg (by decide), if_neg (by decide), if_pos rfl, if_neg h]
theorem walk_esc {stay : Nat} {l xs : List Sp.Bytes} (h : l.length = stay) : Sp.walk stay l ([46, 46] :: xs) = ([], 51) := by
  rw [Sp.walk, if_neg (by decide), if_neg (by decide), if_pos rfl, if_pos h]
theorem walk_part {stay : Nat} {l : List Sp.Bytes} {x : Sp.Bytes} {xs : List Sp.Bytes} (h1 : x ≠ []) (h2 : x ≠ [46]) (h3 : x ≠ [46, 46]) (h : Sp.part x = 0) : Sp.walk stay l (x :: xs) = Sp.walk stay (l ++ [x]) xs := by
  rw [Sp.walk, if_neg h1, if_neg h2, if_neg h3, if_pos h]
theorem walk_bad {stay : Nat} {l : List Sp.Bytes} {x : Sp.Bytes} {xs : List Sp.Bytes} (h1 : x ≠ []) (h2 : x ≠ [46]) (h3 : x ≠ [46, 46]) (h : Sp.part x ≠ 0) : Sp.walk stay l (x :: xs) = ([], Sp.part x) := by
  rw [Sp.walk, if_neg h1, if_neg h2, if_neg h3, if_neg h]
theorem split_len (s : Sp.Bytes) : (Sp.split s).length ≤ s.length + 1 ∧ ∀ x ∈ Sp.split s, x.length ≤ s.length := by
  induction s with
  | nil => simp [Sp.split]
  | cons c s ih =>
    unfold Sp.split
    split
    · refine ⟨by simp; omega, ?_⟩
      intro x hx
      simp only [List.mem_cons] at hx
      rcases hx with rfl | hx
      · simp
      · have := ih.2 x hx; simp; omega
    · cases h : Sp.split s with
      | nil => simp
      | cons x l =>
        rw [h] at ih
        refine ⟨by simpa using Nat.le_succ_of_le ih.1, ?_⟩
        intro y hy
        simp only [List.mem_cons] at hy
        rcases hy with rfl | hy
        · have := ih.2 x (by simp); simp; omega
        · have := ih.2 y (by simp [hy]); simp; omega

/-- What path.walk hands back: a slice of the call's own, a number. -/
def WalkPost (B stay : Nat) (ls : List Sp.Bytes) (v : Value) (s : Sp.Bytes) (w : World) (e : Ending) (w' : World) : Prop :=
  ∃ v', e = .returned (.tuple #[v', .int .i64 (Sp.walk stay ls (Sp.split s)).2]) ∧ w'.ownsRow B 9 1 v' (Sp.walk stay ls (Sp.split s)).1.length (encT (Sp.walk stay ls (Sp.split s)).1) ∧ Ext (fun k => v.ownBlock = some k) w w' ∧
    (v'.ownBlock = v.ownBlock ∨ ∀ k, v'.ownBlock = some k → w.heap.size ≤ k)

theorem WalkPost.err {B : Nat} {ls : List Sp.Bytes} {v : Value} {s : Sp.Bytes} {w w' : World} {e : Int} (h : Sp.walk ls.length ls (Sp.split s) = ([], e)) (hx : Ext (fun k => v.ownBlock = some k) w w') :
    WalkPost B ls.length ls v s w (.returned (.tuple #[.slice none 0 0, .int .i64 e])) w' := by
  refine ⟨.slice none 0 0, by rw [h], ?_, hx, .inr (fun k hk => by cases hk)⟩
  rw [h]
  exact World.ownsRow_nil w' B _ 1

theorem ob_len (a : Option Addr) (n m c d : Nat) : (Value.slice a n c).ownBlock = (Value.slice a m d).ownBlock := by cases a <;> rfl
theorem ext_two (u : World) (b : Nat) (x y : Value) : Ext (fun k => k = b + 1 ∨ k = b + 2) u ((u.setCell ⟨b + 1, 0, none⟩ x).setCell ⟨b + 2, 0, none⟩ y) :=
  (Ext.setCell (S := fun k => k = b + 1 ∨ k = b + 2) u (fun _ => .inl rfl) x).trans (Ext.setCell (S := fun k => k = b + 1 ∨ k = b + 2) _ (fun _ => .inr rfl) y)
theorem ext_last (u : World) (b : Nat) (x y : Value) (o : Obj) : Ext (fun k => b ≤ k ∧ k < b + 9) u (((u.setCell ⟨b + 1, 0, none⟩ x).setCell ⟨b + 2, 0, none⟩ y).putObj (b + 7) o) :=
  ((ext_two u b x y).mono fun i _ h => by omega).trans (Ext.putObj _ (by omega) o)
theorem ext_end {S : Nat → Prop} {w u : World} {x y : Value} {o : Obj} (h : Ext S w u) : Ext S w (((u.setCell ⟨w.heap.size + 1, 0, none⟩ x).setCell ⟨w.heap.size + 2, 0, none⟩ y).putObj (w.heap.size + 7) o) :=
  h.trans' (ext_last u _ _ _ _) (fun i hi h => by omega)

set_option maxHeartbeats 1000000 in
theorem c_walk (w : World) (B : Nat) (ls : List Sp.Bytes) (v : Value) (hown : w.ownsRow B 9 1 v ls.length (encT ls)) (hB : B ≤ w.heap.size) (s : Sp.Bytes) (hbd : ls.length + s.length ≤ 1000000) (hns : s.head? ≠ some 47) :
    Calls P 117 #[v, .string (S s)] w (WalkPost B ls.length ls v s w) := by
  have hv : ∀ k, v.ownBlock = some k → k < w.heap.size := fun k hk => (hown.lt k hk).2
  obtain ⟨hvc, hv1⟩ := own_cells hown
  obtain ⟨av, cv, hvs, hcv, hcm⟩ := own_slice hown
  refine enterM (n := 44) Tryz.func117 rfl rfl rfl ?_
  refine W.seq ?_
  -- region 0
  refine W.reg <| box (v := v) rfl rfl <| new ze_strs rfl <| new ze_Errno rfl <| L.nil ?_
  refine N.th ?_
  refine W.seq ?_
  -- region 1
  rw [hvc]
  obtain ⟨w1, hw1⟩ : ∃ w1, ((w.alloc (.cells #[v] 46)).alloc (.cells (Value.slice none 0 0).cells 46)).alloc (.cells (Value.int .i64 0).cells 32) = w1 := ⟨_, rfl⟩
  have hz1 : w1.heap.size = w.heap.size + 3 := by rw [← hw1]; simp
  have hx1 : Ext none_ w w1 := by rw [← hw1]; exact ((Ext.alloc _ _ _).trans (Ext.alloc _ _ _)).trans (Ext.alloc _ _ _)
  have hb0 : w1.heap[w.heap.size]? = some (.cells #[v] 46) := by
    rw [← hw1]; exact (heap_alloc _ _ (by simp; omega)).trans ((heap_alloc _ _ (by simp)).trans (heap_new w _))
  have hb1 : w1.heap[w.heap.size + 1]? = some (.cells #[.slice none 0 0] 46) := by
    rw [← hw1]
    have h := heap_new (w.alloc (.cells #[v] 46)) (.cells (Value.slice none 0 0).cells 46)
    rw [World.size_alloc] at h
    exact (heap_alloc _ _ (by simp)).trans h
  have hb2 : w1.heap[w.heap.size + 2]? = some (.cells #[.int .i64 0] 32) := by
    rw [← hw1]
    have h := heap_new ((w.alloc (.cells #[v] 46)).alloc (.cells (Value.slice none 0 0).cells 46)) (.cells (Value.int .i64 0).cells 32)
    rw [World.size_alloc, World.size_alloc] at h
    exact h
  have e4 : (w.alloc (.cells #[v] 46)).heap.size = w.heap.size + 1 := by simp
  have e5 : ((w.alloc (.cells #[v] 46)).alloc (.cells (Value.slice none 0 0).cells 46)).heap.size = w.heap.size + 2 := by simp
  rw [hw1, e4, e5]
  refine N.sub (F := [(0, v), (1, .string (S s)), (2, .pointer (some ⟨w.heap.size, 0, none⟩)), (4, .pointer (some ⟨w.heap.size + 1, 0, none⟩)), (5, .pointer (some ⟨w.heap.size + 2, 0, none⟩))]) ⟨rfl, rfl, rfl, rfl, rfl, trivial⟩ ?_
  have hc0 : w1.cell? ⟨w.heap.size, 0, none⟩ = some (.slice av ls.length cv) := by rw [← hvs]; exact cell_of hb0 rfl
  refine W.reg <| ld1 rfl ag_strs rfl hc0 <| lenV rfl u_strs rfl <| new ze_int rfl <| st1 rfl rfl sz_int (v := .int .i64 ls.length) rfl (heap_new w1 _) rfl <| L.nil ?_
  refine N.th ?_
  obtain ⟨w2, hw2⟩ : ∃ w2, (w1.alloc (.cells (Value.int .i64 0).cells 3)).setCell ⟨w1.heap.size, 0, none⟩ (.int .i64 ls.length) = w2 := ⟨_, rfl⟩
  have hz2 : w2.heap.size = w.heap.size + 4 := by rw [← hw2]; simp [hz1]
  have hx2 : Ext none_ w1 w2 := by
    rw [← hw2]
    exact (Ext.alloc _ _ _).trans' (Ext.setCell (S := fun k => k = w1.heap.size) _ (fun _ => rfl) _) (fun i hi e => by omega)
  have hb3 : w2.heap[w.heap.size + 3]? = some (.cells #[.int .i64 ls.length] 3) := by
    rw [← hw2, ← hz1, setCell_heap (heap_new w1 _)]; rfl
  rw [hw2, hz1]
  have hx02 := hx1.trans hx2
  refine N.sub (F := [(1, .string (S s)), (2, .pointer (some ⟨w.heap.size, 0, none⟩)), (4, .pointer (some ⟨w.heap.size + 1, 0, none⟩)), (5, .pointer (some ⟨w.heap.size + 2, 0, none⟩)), (6, .pointer (some ⟨w.heap.size + 3, 0, none⟩))]) ⟨rfl, rfl, rfl, rfl, rfl, trivial⟩ ?_
  refine W.seq ?_
  refine W.seq ?_
  -- region 2
  refine W.reg <| mv rfl rfl <| call (vs := [_, _]) rfl rfl ok_HasPrefix (c_HasPrefix s [47] _) ?_
  rintro e w' ⟨rfl, rfl⟩
  refine ⟨_, rfl, bf ?_ <| L.nil ?_⟩
  · cases s with
    | nil => rfl
    | cons c s => simp at hns; simp [List.isPrefixOf]; exact fun h => hns h.symm
  refine N.th ?_
  refine W.condF rfl ?_
  refine W.skip ?_
  refine N.th ?_
  refine W.seq ?_
  refine W.seq ?_
  -- region 4
  refine W.reg <| mv rfl rfl <| call (vs := [_, _]) rfl rfl ok_SplitSeq (c_SplitSeq s _) ?_
  rintro e w3 ⟨rfl, hsb, hx3, hz3⟩
  refine ⟨_, rfl, L.nil ?_⟩
  rw [hz2] at hz3 hsb
  rw [hz2]
  refine N.th ?_
  refine W.block ?_
  have hx03 := hx02.trans hx3
  refine N.sub (F := [(14, splitFn (w.heap.size + 4)), (2, .pointer (some ⟨w.heap.size, 0, none⟩)), (4, .pointer (some ⟨w.heap.size + 1, 0, none⟩)), (5, .pointer (some ⟨w.heap.size + 2, 0, none⟩)), (6, .pointer (some ⟨w.heap.size + 3, 0, none⟩))]) ⟨rfl, rfl, rfl, rfl, rfl, trivial⟩ ?_
  have hz3' : w3.heap.size = w.heap.size + 7 := by omega
  have hI0 : ∀ u, Ext none_ w3 u → WalkI w v B ls.length ls s [] u := by
    intro u hu
    have hu2 := hx3.trans hu
    have hu1 := hx2.trans hu2
    refine ⟨⟨ls, v, hu1.obj hb0 id, own_ext hown (hx1.trans hu1) (fun _ _ => id), .inl rfl, Nat.le_refl _, by simp, fun rest h => by rw [h]; rfl⟩, hu1.obj hb1 id, hu1.obj hb2 id, hu2.obj hb3 id, (hx1.trans hu1).none⟩
  refine W.range (enc := fun x => .string (S x)) (xs := Sp.split s) rfl rfl rfl Tryz.func152 (by kernel_rfl) (by kernel_rfl) (split_seq (w.heap.size + 4) s (by omega)) (fun h1 h2 k hk1 hk2 => (h2 k hk1 hk2).trans (h1 k hk1 hk2))
    (fun u o k hk1 hk2 => World.putObj_heap_other (by omega))
    (fun A C h hlt => ⟨h.block' (by omega) (by omega), h.block' (by omega) (by omega)⟩)
    (fun u hu => ⟨hu.obj hsb.s id, hu.obj hsb.sep id, hu.obj hsb.save id⟩)
    (WalkI w v B ls.length ls s) (fun c _ u => c = .ret ∧ WalkX w v ls.length ls s u)
    (fun pre A C h hs => h.step hv (by omega) (by omega) hs) (fun c pre A C h hs => ⟨h.1, h.2.step (by omega) hs⟩)
    (fun pre A o h => h.step hv (j := w.heap.size + 8) (by omega) (by omega) (Ext.putObj _ (by omega) o)) (fun c pre A o h => ⟨h.1, h.2.step (j := w.heap.size + 8) (by omega) (Ext.putObj _ (by omega) o)⟩)
    (fun u hu _ => hI0 u hu) ?body ?done ?stop
  case done =>
    rintro u ⟨⟨ls', v', g1, g2, g3, g4, g5, g6⟩, r1, r2, st, hx⟩ hD
    have hfin := g6 [] (by simp)
    rw [hz3'] at hD ⊢
    refine N.inb <| N.th ?_
    refine W.seq ?_
    refine W.seq ?_
    obtain ⟨a', c', hvs', hc', hm'⟩ := own_slice g2
    have hl := cell1 g1
    rw [hvs'] at hl
    refine W.reg <| ld1 rfl ag_strs rfl hl <| lenV rfl u_strs rfl <| gtrI rfl rfl rfl ?_
    by_cases h12 : 12 < ls'.length
    · refine bt (by simp; omega) <| L.nil ?_
      refine N.th <| W.condT rfl <| W.seq ?_
      refine W.reg <| st1 rfl rfl sz_strs rfl r1 rfl <| st1 rfl rfl sz_Errno rfl ((setCell_other (by simp) _).trans r2) rfl <| L.nil ?_
      refine N.th <| W.ret <| N.rth ?_
      have e1 : Sp.walk ls.length ls (Sp.split s) = ([], 50) := by rw [hfin, Sp.walk, if_pos h12]
      refine N.retMC2 (D := w.heap.size + 7) rfl rfl rfl ag_strs ag_Errno (cell1 ((setCell_other (by simp) _).trans (set1 r1 _))) (cell1 (set1 ((setCell_other (by simp) _).trans r2) _)) ((setCell_other (by simp) _).trans ((setCell_other (by simp) _).trans hD)) ?_
      exact WalkPost.err e1 (ext_end hx)
    · refine bf (by simp; omega) <| L.nil ?_
      refine N.th <| W.condF rfl <| W.skip <| N.th <| W.seq ?_
      refine W.reg <| ld1 rfl ag_strs rfl hl <| st1 rfl rfl sz_strs rfl r1 rfl <| st1 rfl rfl sz_Errno rfl ((setCell_other (by simp) _).trans r2) rfl <| L.nil ?_
      refine N.th <| W.ret ?_
      have e1 : Sp.walk ls.length ls (Sp.split s) = (ls', 0) := by rw [hfin, Sp.walk, if_neg h12]
      refine N.retMC2 (D := w.heap.size + 7) rfl rfl rfl ag_strs ag_Errno (cell1 ((setCell_other (by simp) _).trans (set1 r1 _))) (cell1 (set1 ((setCell_other (by simp) _).trans r2) _)) ((setCell_other (by simp) _).trans ((setCell_other (by simp) _).trans hD)) ?_
      refine ⟨.slice a' ls'.length c', by rw [e1], ?_, ext_end hx, ?_⟩
      · rw [e1, ← hvs']
        refine own_ext (S := fun k => w.heap.size ≤ k ∧ k < w.heap.size + 9) g2 (ext_last u _ _ _ _) ?_
        intro k hk ⟨k1, k2⟩
        rcases g3 with g3 | g3
        · have := hv k (g3 ▸ hk); omega
        · have := g3 k hk; omega
      · rw [← hvs']
        rcases g3 with g3 | g3
        · exact .inl g3
        · exact .inr fun k hk => by have := g3 k hk; omega
  case stop =>
    rintro c pre x rest u hsp ⟨rfl, ⟨e, r1, r2, he⟩, hx⟩ hD
    rw [hz3'] at hD ⊢
    refine W.ret <| N.rinb <| N.rth ?_
    refine N.retMC2 (D := w.heap.size + 7) rfl rfl rfl ag_strs ag_Errno (cell1 r1) (cell1 r2) hD ?_
    refine WalkPost.err he (hx.trans' (Ext.putObj (S := fun k => k = w.heap.size + 7) _ rfl _) (fun i hi e => by omega))
  case body =>
    rintro pre x rest u hsp ⟨⟨ls', v', g1, g2, g3, g4, g5, g6⟩, r1, r2, st, hx⟩ hu
    have hsl := (split_len s).2 x (by rw [hsp]; simp)
    have hsn := (split_len s).1
    have hpl : pre.length + rest.length + 1 = (Sp.split s).length := by rw [hsp]; simp; omega
    have hfin := g6 (x :: rest) hsp
    obtain ⟨a', c', hvs', hc', hm'⟩ := own_slice g2
    have hl := cell1 g1
    rw [hvs'] at hl
    rw [hz3'] at hu ⊢
    -- what a round that goes on leaves: the list turned to ls2, in a value v2
    have goes : ∀ (u2 : World) (ls2 : List Sp.Bytes) (v2 : Value), Ext (fun k => k = w.heap.size ∨ v'.ownBlock = some k) u u2 → u2.heap[w.heap.size]? = some (.cells #[v2] 46) → u2.ownsRow B 9 1 v2 ls2.length (encT ls2) →
        (v2.ownBlock = v'.ownBlock ∨ ∀ k, v2.ownBlock = some k → u.heap.size ≤ k) → ls.length ≤ ls2.length → ls2.length ≤ ls'.length + 1 → Sp.walk ls.length ls' (x :: rest) = Sp.walk ls.length ls2 rest →
        WalkI w v B ls.length ls s (pre ++ [x]) u2 := by
      intro u2 ls2 v2 hx2 k1 k2 k3 k4 k5 k6
      have hno : ∀ j, w.heap.size < j → j < w.heap.size + 9 → ¬ (j = w.heap.size ∨ v'.ownBlock = some j) := by
        rintro j j1 j2 (h | h)
        · omega
        · rcases g3 with g3 | g3
          · have := hv j (g3 ▸ h); omega
          · have := g3 j h; omega
      refine ⟨⟨ls2, v2, k1, k2, ?_, k4, by simp; omega, ?_⟩, hx2.obj r1 (hno _ (by omega) (by omega)), hx2.obj r2 (hno _ (by omega) (by omega)), hx2.obj st (hno _ (by omega) (by omega)), hx.trans' hx2 ?_⟩
      · rcases k3 with k3 | k3
        · rw [k3]; exact g3
        · exact .inr fun k hk => by have := k3 k hk; omega
      · intro rest2 h2
        have : rest2 = rest := by
          rw [hsp] at h2
          simpa using h2.symm
        rw [this, hfin, k6]
      · rintro i hi (h | h)
        · omega
        · rcases g3 with g3 | g3
          · rw [← g3]; exact h
          · have := g3 i h; omega
    have kept : ∀ (u2 : World), Ext (fun k => (w.heap.size ≤ k ∧ k < w.heap.size + 4) ∨ v'.ownBlock = some k) u u2 → u2.heap[w.heap.size + 7 + 1]? = u.heap[w.heap.size + 7 + 1]? ∧ u2.heap[w.heap.size + 7 + 1 - 1]? = u.heap[w.heap.size + 7 + 1 - 1]? ∧ ∀ k, w.heap.size + 4 ≤ k → k < w.heap.size + 4 + 3 → u2.heap[k]? = u.heap[k]? := by
      intro u2 h2
      have hno : ∀ j, w.heap.size + 4 ≤ j → j < w.heap.size + 9 → ¬ ((w.heap.size ≤ j ∧ j < w.heap.size + 4) ∨ v'.ownBlock = some j) := by
        rintro j j1 j2 (h | h)
        · omega
        · rcases g3 with g3 | g3
          · have := hv j (g3 ▸ h); omega
          · have := g3 j h; omega
      exact ⟨h2.block _ (by omega) (hno _ (by omega) (by omega)), h2.block _ (by omega) (hno _ (by omega) (by omega)), fun k k1 k2 => h2.block _ (by omega) (hno _ (by omega) (by omega))⟩
    have stops : ∀ (e : Int), Sp.walk ls.length ls' (x :: rest) = ([], e) → WalkX w v ls.length ls s ((u.setCell ⟨w.heap.size + 1, 0, none⟩ (.slice none 0 0)).setCell ⟨w.heap.size + 2, 0, none⟩ (.int .i64 e)) := by
      intro e he
      refine ⟨⟨e, (setCell_other (by simp) _).trans (set1 r1 _), set1 ((setCell_other (by simp) _).trans r2) _, by rw [hfin, he]⟩, hx.trans' (ext_two u _ _ _) (fun i hi h => by omega)⟩
    refine W.block <| W.seq ?_
    refine W.reg <| mv rfl rfl <| L.nil ?_
    refine N.th <| W.block ?_
    refine W.seq <| W.seq ?_
    refine N.sub (F := [(7, .string (S x)), (16, .string (S x)), (2, .pointer (some ⟨w.heap.size, 0, none⟩)), (4, .pointer (some ⟨w.heap.size + 1, 0, none⟩)), (5, .pointer (some ⟨w.heap.size + 2, 0, none⟩)), (6, .pointer (some ⟨w.heap.size + 3, 0, none⟩))]) ⟨rfl, rfl, rfl, rfl, rfl, rfl, trivial⟩ ?_
    by_cases hx1 : x = []
    · refine W.reg <| eqlS (a := x) (b := []) rfl rfl rfl <| bt (by simp [hx1]) <| asg rfl rfl <| L.nil ?_
      refine N.th <| W.condT rfl <| W.skip <| N.th <| W.condT rfl <| W.skip <| N.inb <| N.inb ?_
      exact fun _ _ => ⟨kept u (Ext.refl _ _), goes u ls' v' (Ext.refl _ _) g1 g2 (.inl rfl) g4 (by omega) (walk_skip (.inl hx1))⟩
    by_cases hx2 : x = [46]
    · refine W.reg <| eqlS (a := x) (b := []) rfl rfl rfl <| bf (by simp [hx1]) <| asg rfl rfl <| L.nil ?_
      refine N.th <| W.condF rfl ?_
      refine W.reg <| eqlS (a := x) (b := [46]) rfl rfl rfl <| bt (by simp [hx2]) <| asg rfl rfl <| L.nil ?_
      refine N.th <| W.condT rfl <| W.skip <| N.inb <| N.inb ?_
      exact fun _ _ => ⟨kept u (Ext.refl _ _), goes u ls' v' (Ext.refl _ _) g1 g2 (.inl rfl) g4 (by omega) (walk_skip (.inr hx2))⟩
    refine W.reg <| eqlS (a := x) (b := []) rfl rfl rfl <| bf (by simp [hx1]) <| asg rfl rfl <| L.nil ?_
    refine N.th <| W.condF rfl ?_
    refine W.reg <| eqlS (a := x) (b := [46]) rfl rfl rfl <| bf (by simp [hx2]) <| asg rfl rfl <| L.nil ?_
    refine N.th <| W.condF rfl <| W.seq ?_
    by_cases hx3 : x = [46, 46]
    · refine W.reg <| eqlS (a := x) (b := [46, 46]) rfl rfl rfl <| bt (by simp [hx3]) <| asg rfl rfl <| L.nil ?_
      refine N.th <| W.condT rfl <| W.seq <| W.seq ?_
      refine W.reg <| ld1 rfl ag_strs rfl hl <| lenV rfl u_strs rfl <| ld1 rfl ag_int rfl (cell1 st) <| eqlI rfl rfl rfl ?_
      by_cases hlen : ls'.length = ls.length
      · refine bt (by simp; omega) <| L.nil ?_
        refine N.th <| W.condT rfl <| W.seq ?_
        refine W.reg <| st1 rfl rfl sz_strs rfl r1 rfl <| st1 rfl rfl sz_Errno rfl ((setCell_other (by simp) _).trans r2) rfl <| L.nil ?_
        refine N.th <| W.ret <| N.rth <| N.rinb <| N.rinb ?_
        exact fun _ _ => ⟨kept _ ((ext_two u _ _ _).mono fun i _ h => .inl (by omega)), rfl, stops 51 (by rw [hx3]; exact walk_esc hlen)⟩
      · refine bf (by simp; omega) <| L.nil ?_
        refine N.th <| W.condF rfl <| W.skip <| N.th ?_
        refine W.reg <| ld1 rfl ag_strs rfl hl <| ld1 rfl ag_strs rfl hl <| lenV rfl u_strs rfl <| subI rfl rfl rfl (w64 (by omega) (by omega)) <| slVh rfl rfl u_strs sz_str rfl (by omega) (by omega) <| st1 rfl rfl sz_strs rfl g1 rfl <| L.nil ?_
        refine N.inb <| N.inb ?_
        have e1 : ((ls'.length : Int) - 1).toNat = ls'.dropLast.length := by simp
        rw [e1]
        rw [hvs'] at g2
        have hd := own_take g2 (m := ls'.dropLast.length) (by simp)
        have e2 : (encT ls').take (ls'.dropLast.length * 1) = encT ls'.dropLast := by
          rw [Nat.mul_one, encT, ← List.map_take]; simp [encT, List.dropLast_eq_take]
        rw [e2] at hd
        have hxs : Ext (fun k => k = w.heap.size) u (u.setCell ⟨w.heap.size, 0, none⟩ (.slice a' ls'.dropLast.length c')) := Ext.setCell (S := fun k => k = w.heap.size) _ (fun _ => rfl) _
        exact fun _ _ => ⟨kept _ (hxs.mono fun i _ h => .inl (by omega)), goes _ ls'.dropLast (.slice a' ls'.dropLast.length c') (hxs.mono fun i _ h => .inl h) (set1 g1 _) (own_ext hd hxs (by
          intro k hk h
          rw [ob_len a' _ ls'.length c' c'] at hk
          rw [hvs'] at g3
          rcases g3 with g3 | g3
          · have := hv k (g3 ▸ hk); omega
          · have := g3 k hk; omega)) (.inl (by rw [hvs']; exact ob_len _ _ _ _ _)) (by simp; omega) (by simp; omega) (by rw [hx3]; exact walk_up hlen)⟩
    · refine W.reg <| eqlS (a := x) (b := [46, 46]) rfl rfl rfl <| bf (by simp [hx3]) <| asg rfl rfl <| L.nil ?_
      refine N.th <| W.condF rfl <| W.seq <| W.seq ?_
      refine W.reg <| mv rfl rfl <| call (vs := [_]) rfl rfl ok_part (c_part x (by unfold maxLen; omega) _) ?_
      rintro e w' ⟨rfl, rfl⟩
      refine ⟨_, rfl, asg rfl rfl <| L.nil ?_⟩
      refine N.th <| W.seq ?_
      refine W.reg <| mv rfl rfl <| neqI rfl rfl rfl ?_
      by_cases hp : Sp.part x = 0
      · refine bf (by simp [hp]) <| L.nil ?_
        refine N.th <| W.condF rfl <| W.skip <| N.th ?_
        refine W.reg <| ld1 rfl ag_strs rfl (cell1 g1) <| mv rfl rfl <| bls (vs := #[(0, .string (S x))]) (cs := #[.string (S x)]) (e := 9) rfl rfl (fun _ => by kernel_rfl) <| app (news := [.string (S x)]) rfl rfl rfl el_strs (g2.alloc _) rfl (cell_one_new _ _ _) (by simp [Value.oneCell']) (by omega) (by unfold maxLen; omega) (by simp; omega) ?_
        intro v2 w2 hown2 hx2' hnil hat
        have hwne : w.heap.size ≠ u.heap.size := by omega
        have hnv : v'.ownBlock ≠ some w.heap.size := by
          intro h
          rcases g3 with g3 | g3
          · have := hv _ (g3 ▸ h); omega
          · have := g3 _ h; omega
        have g1' : w2.heap[w.heap.size]? = some (.cells #[v'] 46) := hx2'.obj ((heap_alloc _ _ (by omega)).trans g1) hnv
        obtain ⟨hvc2, hv12⟩ := own_cells hown2
        refine st1 rfl rfl sz_strs hv12 g1' rfl <| L.nil ?_
        refine N.inb <| N.inb ?_
        have hxs : Ext (fun k => k = w.heap.size) w2 (w2.setCell ⟨w.heap.size, 0, none⟩ v2) := Ext.setCell (S := fun k => k = w.heap.size) _ (fun _ => rfl) _
        have hxt : Ext (fun k => k = w.heap.size ∨ v'.ownBlock = some k) u (w2.setCell ⟨w.heap.size, 0, none⟩ v2) := ((Ext.alloc _ u _).trans (hx2'.mono fun i _ h => .inr h)).trans (hxs.mono fun i _ h => .inl h)
        have hsz2 : u.heap.size + 1 ≤ w2.heap.size := by have := hx2'.size; simpa using this
        exact fun _ _ => ⟨kept _ (hxt.mono fun i _ h => h.elim (fun h => .inl (by omega)) .inr), goes _ (ls' ++ [x]) v2 hxt (set1 g1' _) (by
            have := own_ext hown2 hxs (by
              intro k hk h
              rcases hat with hat | hat
              · exact hnv (by rw [← hat, hk, h])
              · rw [hat] at hk; simp at hk; omega)
            simpa [encT] using this) (by
            rcases hat with hat | hat
            · exact .inl hat
            · exact .inr fun k hk => by rw [hat] at hk; simp at hk; omega) (by simp; omega) (by simp) (walk_part hx1 hx2 hx3 hp)⟩
      · refine bt (by simp [hp]) <| L.nil ?_
        refine N.th <| W.condT rfl <| W.seq ?_
        refine W.reg <| mv rfl rfl <| st1 rfl rfl sz_strs rfl r1 rfl <| st1 rfl rfl sz_Errno rfl ((setCell_other (by simp) _).trans r2) rfl <| L.nil ?_
        refine N.th <| W.ret <| N.rth <| N.rinb <| N.rinb ?_
        exact fun _ _ => ⟨kept _ ((ext_two u _ _ _).mono fun i _ h => .inl (by omega)), rfl, stops _ (walk_bad hx1 hx2 hx3 hp)⟩
end Go.Proofs.YtmdpmpdlkaogdaaGreatDoor
