/- Walks: (*tree.Tree).Remove, plan. Walks: (*tree.Tree).copy, Rename, Copy. Walks: cmp.Compare, the order of files, slices.SortFunc at files. slices.SortFunc at files: what it leaves. Walks: (*tree.Tree).Files, Clone. Walks: haversackhelp.Files, haversacklaw8.name. The walk of haversacklaw8.known. Plain laws: trees of named files (haversacklaw8.name). Plain laws of trees: what a tree always is, is kept. No Go here. Plain laws of trees: Rename and Copy. No Go here. Plain laws of sorted lists of files: the document's tree beside the program's. No Go here. Plain laws of trees: what is renamed, and renamed back, is as it was (TreeMoves). No Go here. -/
import Derived.Test.YtmdpmpdlkaogdaaDoorMn04
import Derived.Test.YtmdpmpdlkaogdaaDoorSg
import Derived.Test.YtmdpmpdlkaogdaaDoorMn02

namespace Go.Proofs.YtmdpmpdlkaogdaaDoor
open Go Go.RowKit Vc
variable {A : Nat → Prop}

theorem drop_size_le (l : List Tr.Bytes) : ∀ (m : Tr.T), (m.map (·.1)).Nodup → Tr.size (Tr.drop m l) ≤ Tr.size m := by
  induction l with
  | nil => intro m _; exact Nat.le_refl _
  | cons k l ih =>
    intro m h
    have h1 := ih (Tr.del m k) (Tr.nodup_del k h)
    have h2 := Tr.size_del h k
    show Tr.size (Tr.drop (Tr.del m k) l) ≤ _
    omega

theorem below_in {m : Tr.T} {p k : Tr.Bytes} (h : k ∈ Tr.below m p) : (Tr.get m k).isSome = true := by
  have := (Tr.mem_below.1 h).1
  cases hg : Tr.get m k with
  | none => exact absurd this (Tr.get_none.1 hg)
  | some x => rfl

/-- A move as it lies in a value. -/
def MoveV (w : World) (B : Nat) (v : Value) (x : Tr.Move) : Prop := ∃ fv tv lv, v = .agg #[fv, tv, lv, .int .i64 x.bytes] ∧ Strs B w fv x.src ∧ Strs B w tv x.dst ∧ Strs B w lv x.lack
def moveZ : Value := .agg #[.slice none 0 0, .slice none 0 0, .slice none 0 0, .int .i64 0]

theorem own_kind {w : World} {B : Nat} {v : Value} {e : TypeId} {sz n : Nat} {xs : List Value} (h : w.ownsRow B e sz v n xs) : ∀ k, v.ownBlock = some k → ∃ cur fr, w.heap[k]? = some (.cells cur e fr) := (Row.own h).kind
theorem own_more {w : World} {B C : Nat} {v : Value} {e : TypeId} {sz n : Nat} {xs : List Value} (h : w.ownsRow B e sz v n xs) (hC : C ≤ B) : w.ownsRow C e sz v n xs := by
  obtain ⟨h1, h2 | ⟨g, c, cu, hv, hb, hr⟩⟩ := h
  · exact ⟨h1, .inl h2⟩
  · exact ⟨h1, .inr ⟨g, c, cu, hv, by omega, hr⟩⟩
/-- Strings stay where another kind of variable turns. -/
theorem strs_keep {w w' : World} {B : Nat} {v : Value} {l : List Tr.Bytes} {S : Nat → Prop} (h : Strs B w v l) (hx : Ext S w w') (hk : ∀ k, S k → ∀ c fr, w.heap[k]? ≠ some (.cells c 9 fr)) : Strs B w' v l :=
  own_ext h hx fun k hv hS => by obtain ⟨c, fr, hc⟩ := own_kind h k hv; exact hk k hS c fr hc

theorem Strs.ext0' {w w' : World} {B : Nat} {v : Value} {l : List Tr.Bytes} (h : Strs B w v l) (hx : Ext none_ w w') : Strs B w' v l := own_ext h hx fun _ _ => id
theorem bytes_le (m : Tr.T) (l : List Tr.Bytes) : ((l.map fun k => ((Tr.get m k).getD (true, [])).2.length).sum) ≤ l.length * Tr.size m := by
  induction l with
  | nil => simp
  | cons k l ih =>
    have := old_le m k
    unfold Tr.old at this
    simp only [List.map_cons, List.sum_cons, List.length_cons, Nat.add_mul, Nat.one_mul]
    omega

theorem dests_cons (n : Nat) (q k : Tr.Bytes) (l : List Tr.Bytes) : Tr.dests n q (k :: l) = if (Sp.clean (q ++ k.drop n)).2 ≠ 0 then ([], (Sp.clean (q ++ k.drop n)).2) else if (Tr.dests n q l).2 ≠ 0 then ([], (Tr.dests n q l).2) else ((Sp.clean (q ++ k.drop n)).1 :: (Tr.dests n q l).1, 0) := rfl

/-- What plan hands back. -/
def Plans (w : World) (r : Option Tr.Move × Int) (e : Ending) (w' : World) : Prop := Ext none_ w w' ∧ match r.1 with
  | none => e = .returned (.tuple #[moveZ, .int .i64 r.2])
  | some x => ∃ v, e = .returned (.tuple #[v, .int .i64 0]) ∧ MoveV w' w.heap.size v x

theorem within_len {p d : Tr.Bytes} (h : Sp.within p d = true) : d.length ≤ p.length := by
  unfold Sp.within at h
  simp only [Bool.or_eq_true, beq_iff_eq] at h
  rcases h with (h | h) | h
  · subst h; simp
  · subst h; exact Nat.le_refl _
  · have := List.IsPrefix.length_le (List.isPrefixOf_iff_prefix.1 h)
    simp at this; omega

end Go.Proofs.YtmdpmpdlkaogdaaDoor

namespace Go.Proofs.YtmdpmpdlkaogdaaDoor
open Go Go.RowKit Vc
variable {A : Nat → Prop}

theorem copyL_cons (m : Tr.T) (k d : Tr.Bytes) (l r : List Tr.Bytes) : Tr.copyL m (k :: l) (d :: r) = Tr.copyL (Tr.set m d ((Tr.get m k).getD (true, []))) l r := rfl
theorem copyL_nil (m : Tr.T) (r : List Tr.Bytes) : Tr.copyL m [] r = m := by cases r <;> rfl
theorem isSome_set {m : Tr.T} {k d : Tr.Bytes} {x : Tr.Nd} (h : (Tr.get m k).isSome = true) : (Tr.get (Tr.set m d x) k).isSome = true := by
  rw [Tr.get_set]; split
  · rfl
  · exact h
theorem isSome_make {m : Tr.T} {k : Tr.Bytes} {l : List Tr.Bytes} (h : (Tr.get m k).isSome = true) : (Tr.get (Tr.make m l) k).isSome = true := by
  rw [Tr.get_make]; split
  · rfl
  · exact h
/-- Strings of a call's own stay where a tree turns. -/
theorem strs_tree {w w' : World} {B bt bm : Nat} {v : Value} {l : List Tr.Bytes} {m : Tr.T} {sz : Int} (h : Strs B w v l) (ht : TreeAt A w bt bm m sz) (hx : Ext (Two bt bm) w w') : Strs B w' v l :=
  strs_keep h hx (by
    rintro k (rfl | rfl) c fr hc
    · rw [ht.cell] at hc; cases hc
    · obtain ⟨_, ⟨_, _, hm, _⟩, _⟩ := ht.reps
      rw [hm] at hc; cases hc)

theorem dests_len (n : Nat) (q : Tr.Bytes) : ∀ l, (Tr.dests n q l).2 = 0 → (Tr.dests n q l).1.length = l.length := by
  intro l
  induction l with
  | nil => intro _; rfl
  | cons k l ih =>
    intro h
    rw [dests_cons] at h ⊢
    split
    · rename_i hc; rw [if_pos hc] at h; exact absurd h hc
    · rename_i hc
      rw [if_neg hc] at h
      split
      · rename_i hd; rw [if_pos hd] at h; exact absurd h hd
      · rename_i hd
        simp [ih (by simpa using hd)]
theorem plan_spec {m : Tr.T} {s d : Tr.Bytes} {x : Tr.Move} {e : Int} (h : Tr.plan m s d = (some x, e)) : e = 0 ∧ x.src = Tr.below m (Sp.clean s).1 ∧ (Tr.dests (Sp.clean s).1.length (Sp.clean d).1 x.src) = (x.dst, 0) ∧ Tr.ahead m (Sp.clean d).1 = some x.lack ∧
    x.bytes = (x.src.map fun k => ((Tr.get m k).getD (true, [])).2.length).sum ∧ (Sp.clean s).2 = 0 ∧ (Sp.clean d).2 = 0 ∧ (Tr.at_ m (Sp.clean s).1).isSome ∧ (Sp.clean s).1 ≠ [] ∧ Sp.within (Sp.clean d).1 (Sp.clean s).1 = false ∧ Tr.at_ m (Sp.clean d).1 = none := by
  unfold Tr.plan at h
  split at h
  · cases h
  rename_i h1
  split at h
  · cases h
  rename_i h2
  dsimp only at h
  split at h
  · cases h
  rename_i h3
  split at h
  · cases h
  rename_i h4
  split at h
  · cases h
  rename_i h5
  split at h
  · cases h
  rename_i lack h6
  split at h
  · cases h
  rename_i h7
  cases h
  have hk : Tr.at_ m (Sp.clean d).1 = none := by
    cases hh : Tr.at_ m (Sp.clean d).1 with
    | none => rfl
    | some x => rw [hh] at h5; simp at h5
  have hj : (Tr.at_ m (Sp.clean s).1).isSome = true := by
    cases hh : Tr.at_ m (Sp.clean s).1 with
    | none => rw [hh] at h3; simp at h3
    | some x => rfl
  refine ⟨rfl, rfl, Prod.ext rfl (by simpa using h7), h6, rfl, by simpa using h1, by simpa using h2, hj, fun e => h4 (.inl e), ?_, hk⟩
  cases hw : Sp.within (Sp.clean d).1 (Sp.clean s).1 with
  | false => rfl
  | true => exact absurd (.inr hw) h4
theorem isSome_copyL : ∀ (l r : List Tr.Bytes) {m : Tr.T} {k : Tr.Bytes}, (Tr.get m k).isSome = true → (Tr.get (Tr.copyL m l r) k).isSome = true := by
  intro l
  induction l with
  | nil => intro r m k h; rw [copyL_nil]; exact h
  | cons a l ih =>
    intro r m k h
    cases r with
    | nil => exact h
    | cons b r => rw [copyL_cons]; exact ih r (isSome_set h)
theorem nodup_copyL : ∀ (l r : List Tr.Bytes) {m : Tr.T}, (m.map (·.1)).Nodup → ((Tr.copyL m l r).map (·.1)).Nodup := by
  intro l
  induction l with
  | nil => intro r m h; rw [copyL_nil]; exact h
  | cons a l ih =>
    intro r m h
    cases r with
    | nil => exact h
    | cons b r => rw [copyL_cons]; exact ih r (Tr.nodup_set _ _ h)

theorem plan_none {m : Tr.T} {s d : Tr.Bytes} {ee : Int} (hP : Tr.plan m s d = (none, ee)) : ee ≠ 0 := by
  intro e0
  subst e0
  have h := hP
  unfold Tr.plan at h
  split at h
  · rename_i h1; exact h1 (congrArg Prod.snd h)
  split at h
  · rename_i h1; exact h1 (congrArg Prod.snd h)
  dsimp only at h
  split at h
  · cases h
  split at h
  · cases h
  split at h
  · cases h
  split at h
  · cases h
  split at h
  · rename_i h1; exact h1 (congrArg Prod.snd h)
  · cases h

end Go.Proofs.YtmdpmpdlkaogdaaDoor

namespace Go.Proofs.YtmdpmpdlkaogdaaDoor
open Go Go.RowKit Vc

theorem ok_isNaN : FnOk P 45 := ⟨_, Tryd.func45, by kernel_rfl, by kernel_rfl⟩
theorem ok_Compare : FnOk P 31 := ⟨_, Tryd.func31, by kernel_rfl, by kernel_rfl⟩
theorem ok_SortFunc : FnOk P 29 := ⟨_, Tryd.func29, by kernel_rfl, by kernel_rfl⟩

theorem c_isNaN (s : Tr.Bytes) (w : World) : Calls P 45 #[.string (S s)] w fun e w' => e = .returned (.bool false) ∧ w = w' := by
  go_enter Tryd.func45, Tryd.ntmps45
  go_wp2
  all_goals (try go_ret)
  all_goals (refine ⟨?_, rfl⟩)
  all_goals simp

def cmpB (a b : Tr.Bytes) : Int := if Op.bytesLess a b then -1 else if (!(Op.bytesLess a b || a == b)) then 1 else 0
theorem bytesLess_lt (a b : Tr.Bytes) : Op.bytesLess a b = decide (a < b) := Go.Proofs.bytesLess_eq a b

theorem c_Compare (a b : Tr.Bytes) (w : World) : Calls P 31 #[.string (S a), .string (S b)] w fun e w' => e = .returned (.int .i64 (cmpB a b)) ∧ w = w' := by
  refine enter (l := [_, _]) (n := 20) Tryd.func31 rfl rfl rfl ?_
  refine W.seq ?_
  refine W.reg <| asg rfl rfl <| L.nil ?_
  refine N.th ?_
  refine W.seq ?_
  refine W.reg <| mv rfl rfl <| call (vs := [_]) rfl rfl ok_isNaN (c_isNaN a w) ?_
  rintro e w1 ⟨rfl, rfl⟩
  refine ⟨_, rfl, ?_⟩
  refine asg rfl rfl <| L.nil ?_
  refine N.th ?_
  refine W.seq ?_
  refine W.reg <| mv rfl rfl <| call (vs := [_]) rfl rfl ok_isNaN (c_isNaN b w) ?_
  rintro e w1 ⟨rfl, rfl⟩
  refine ⟨_, rfl, ?_⟩
  refine asg rfl rfl <| L.nil ?_
  refine N.th ?_
  refine W.seq ?_
  refine W.seq ?_
  refine W.reg <| mv rfl rfl <| L.nil ?_
  refine N.th ?_
  refine W.condF rfl ?_
  refine W.skip ?_
  refine N.th ?_
  refine W.seq ?_
  refine W.seq ?_
  refine W.reg <| mv rfl rfl <| L.nil ?_
  refine N.th ?_
  refine W.condF rfl ?_
  refine W.skip ?_
  refine N.th ?_
  refine W.seq ?_
  refine W.seq ?_
  refine W.reg <| mv rfl rfl <| mv rfl rfl <| lssS rfl rfl rfl <| L.nil ?_
  refine N.th ?_
  unfold cmpB
  refine W.cond rfl (fun h => ?_) (fun h => ?_)
  · refine W.seq ?_
    refine W.reg <| asg rfl rfl <| L.nil ?_
    refine N.th ?_
    refine W.ret ?_
    refine N.rth ?_
    refine N.ret1 rfl rfl ?_   -- RETURN
    rw [if_pos h]; exact ⟨rfl, rfl⟩
  · refine W.skip ?_
    refine N.th ?_
    refine W.seq ?_
    refine W.seq ?_
    refine W.reg <| mv rfl rfl <| mv rfl rfl <| gtrS rfl rfl rfl <| L.nil ?_
    refine N.th ?_
    rw [if_neg (by rw [h]; simp)]
    refine W.cond rfl (fun h => ?_) (fun h => ?_)
    · refine W.seq ?_
      refine W.reg <| asg rfl rfl <| L.nil ?_
      refine N.th ?_
      refine W.ret ?_
      refine N.rth ?_
      refine N.ret1 rfl rfl ?_   -- RETURN
      rw [if_pos h]; exact ⟨rfl, rfl⟩
    · refine W.skip ?_
      refine N.th ?_
      refine W.seq ?_
      refine W.reg <| asg rfl rfl <| L.nil ?_
      refine N.th ?_
      refine W.ret ?_
      refine N.ret1 rfl rfl ?_   -- RETURN
      rw [if_neg (by rw [h]; simp)]; exact ⟨rfl, rfl⟩

/-- A file as it lies in a list: its path, is it a directory, its bytes: where, and what they are. -/
abbrev FE := Tr.Bytes × Bool × Value × Tr.Bytes
def fcells (x : FE) : List Value := [.string (S x.1), .bool x.2.1, x.2.2.1]
def fnd (x : FE) : Tr.Bytes × Tr.Nd := (x.1, (x.2.1, x.2.2.2))
abbrev tF : TypeId := 26

theorem c_cmp (x y : FE) (w : World) : Calls P 30 #[.agg (fcells x).toArray, .agg (fcells y).toArray] w fun e w' => e = .returned (.int .i64 (cmpB x.1 y.1)) ∧ w' = (w.alloc (.cells (fcells x).toArray tF)).alloc (.cells (fcells y).toArray tF) := by
  refine enter (l := [_, _]) (n := 10) Tryd.func30 rfl rfl rfl ?_
  refine W.seq ?_
  refine W.reg <| box rfl rfl <| box rfl rfl <| asg rfl rfl <| L.nil ?_
  refine N.th ?_
  refine W.seq ?_
  have h1 : ((w.alloc (.cells (fcells x).toArray tF)).alloc (.cells (fcells y).toArray tF)).cell? ⟨w.heap.size, 0, none⟩ = some (.string (S x.1)) := cell_of ((heap_alloc _ _ (by simp)).trans (heap_new _ _)) rfl
  have h2 : ((w.alloc (.cells (fcells x).toArray tF)).alloc (.cells (fcells y).toArray tF)).cell? ⟨(w.alloc (.cells (fcells x).toArray tF)).heap.size, 0, none⟩ = some (.string (S y.1)) := cell_of (heap_new _ _) rfl
  refine W.reg <| fad rfl fl_File_0 rfl <| ld1 rfl ag_str rfl h1 <| fad rfl fl_File_0 rfl <| ld1 rfl ag_str rfl h2 <| call (vs := [_, _]) rfl rfl ok_Compare (c_Compare _ _ _) ?_
  rintro e w1 ⟨rfl, rfl⟩
  refine ⟨_, rfl, ?_⟩
  refine asg rfl rfl <| L.nil ?_
  refine N.th ?_
  refine W.ret ?_
  refine N.ret1 rfl rfl ?_   -- RETURN
  exact ⟨rfl, rfl⟩
end Go.Proofs.YtmdpmpdlkaogdaaDoor

namespace Go.Proofs.YtmdpmpdlkaogdaaDoor
open Go Go.RowKit Vc Go.Sort

theorem ok_cmp : FnOk P 30 := ⟨_, Tryd.func30, by kernel_rfl, by kernel_rfl⟩

theorem flat_get {α β : Type} (f : α → List β) (k : Nat) (hk : ∀ x, (f x).length = k) (hk0 : 0 < k) : ∀ (l : List α) (t : Nat), (l.flatMap f)[t]? = (l[t / k]?).bind fun x => (f x)[t % k]? := by
  intro l
  induction l with
  | nil => intro t; simp
  | cons x l ih =>
    intro t
    rw [List.flatMap_cons]
    by_cases ht : t < k
    · rw [List.getElem?_append_left (by rw [hk]; exact ht), Nat.div_eq_of_lt ht, Nat.mod_eq_of_lt ht]; rfl
    · obtain ⟨u, rfl⟩ : ∃ u, t = k + u := ⟨t - k, by omega⟩
      rw [List.getElem?_append_right (by rw [hk]; omega), hk, Nat.add_sub_cancel_left, ih, Nat.add_div_left _ hk0, Nat.add_mod_left, List.getElem?_cons_succ]
theorem flat_len {α β : Type} (f : α → List β) (k : Nat) (hk : ∀ x, (f x).length = k) (l : List α) : (l.flatMap f).length = l.length * k := by
  induction l with
  | nil => simp
  | cons x l ih => rw [List.flatMap_cons, List.length_append, hk, ih, List.length_cons, Nat.succ_mul]; omega
theorem flatK_eq {α : Type} [Inhabited α] (enc : α → List Value) (k : Nat) (hk : ∀ x, (enc x).length = k) (hk0 : 0 < k) (d : List α) : flatK enc k d.toArray = (d.flatMap enc).toArray := by
  apply Array.ext'
  apply List.ext_getElem?
  intro t
  rw [flat_get enc k hk hk0]
  by_cases ht : t < d.length * k
  · have h1 : t / k < d.length := Nat.div_lt_of_lt_mul (by rw [Nat.mul_comm]; exact ht)
    have h2 : t % k < k := Nat.mod_lt _ hk0
    simp [flatK, ht, h1, hk, h2]
  · have h1 : d.length ≤ t / k := (Nat.le_div_iff_mul_le hk0).2 (by omega)
    simp [flatK, ht, h1]

theorem fcells_len (x : FE) : (fcells x).length = 3 := rfl
theorem ltOf_cmp (a b : Tr.Bytes) : decide (cmpB a b < 0) = decide (a < b) := by
  unfold cmpB
  rw [bytesLess_lt]
  by_cases h : a < b
  · simp [h]
  · simp [h]; split <;> omega

theorem putCells_take (D cur : Array Value) (h : D.size ≤ cur.size) : (Sort.putCells id 0 D cur).toList.take D.size = D.toList := by
  apply List.ext_getElem?
  intro j
  rw [List.getElem?_take, Array.getElem?_toList, Array.getElem?_toList]
  by_cases hj : j < D.size
  · have hjc : j < cur.size := by omega
    simp only [if_pos hj, Sort.putCells, Array.getElem?_mapIdx, Array.getElem?_eq_getElem hjc, Option.map_some]
    rw [if_pos (by omega)]
    simp [hj]
  · simp [hj]

def sortE (E : List FE) : List FE := E.mergeSort fun x y => decide (x.1 ≤ y.1)

theorem path_inj {E : List FE} (hn : (E.map (·.1)).Nodup) {a b : FE} (ha : a ∈ E) (hb : b ∈ E) (hab : a.1 = b.1) : a = b := by
  induction E with
  | nil => cases ha
  | cons c E ih =>
    rw [List.map_cons, List.nodup_cons] at hn
    obtain ⟨h1, h2⟩ := hn
    rcases List.mem_cons.1 ha with e | ha
    · rcases List.mem_cons.1 hb with e' | hb
      · rw [e, e']
      · exact absurd (List.mem_map.2 ⟨b, hb, by rw [← hab, e]⟩) h1
    · rcases List.mem_cons.1 hb with e' | hb
      · exact absurd (List.mem_map.2 ⟨a, ha, by rw [hab, e']⟩) h1
      · exact ih h2 ha hb

theorem c_SortFunc {w : World} {B : Nat} {v : Value} {E : List FE} (h : w.ownsRow B tF 3 v E.length (E.flatMap fcells)) (hn : (E.map (·.1)).Nodup) (hone : ∀ x ∈ E, x.2.2.1.oneCell' = true) (hl : E.length ≤ 1000000000) :
    Calls P 29 #[v, .func (.func 30) #[] #[]] w fun e w' => e = .returned (.tuple #[]) ∧ w'.ownsRow B tF 3 v E.length ((sortE E).flatMap fcells) ∧ Ext (fun k => v.ownBlock = some k) w w' := by
  by_cases hE : E = []
  · subst hE
    obtain ⟨a, cap, rfl, -, -⟩ := own_slice h
    refine (AnyF.slices_SortFunc_none Tryd.laysSF a cap _ w).mono ?_
    rintro e w' ⟨rfl, rfl⟩
    refine ⟨rfl, ?_, Ext.refl _ _⟩
    rw [show sortE [] = [] by simp [sortE]]; exact h
  · obtain ⟨hlen, ⟨rfl, h0⟩ | ⟨g, cap, cur, rfl, hb, hg, hnc, hm, hs, ht⟩⟩ := h
    · exact absurd (List.eq_nil_of_length_eq_zero h0) hE
    obtain ⟨x0, hx0⟩ := List.exists_mem_of_ne_nil E hE
    have inst : Inhabited {x // x ∈ E} := ⟨⟨x0, hx0⟩⟩
    have hsz : E.attach.toArray.size = E.length := by simp
    have hfl : flatK (fun x : {x // x ∈ E} => fcells x.1) 3 E.attach.toArray = (E.flatMap fcells).toArray := by
      rw [flatK_eq _ 3 (fun _ => rfl) (by omega)]
      congr 1
      conv => rhs; rw [← List.attach_map_subtype_val E, List.flatMap_map]
    have hrow : Row w (.slice (some ⟨g, 0, none⟩) E.length cap) tF 3 E.length (E.flatMap fcells) := Row.own ⟨hlen, .inr ⟨g, cap, cur, rfl, hb, hg, hnc, hm, hs, ht⟩⟩
    have hlt : ∀ x y : {x // x ∈ E}, ltOf (fun x y : {x // x ∈ E} => cmpB x.1.1 y.1.1) x y = decide (x.1.1 < y.1.1) := fun x y => ltOf_cmp _ _
    have hso : Sort.SWO (ltOf fun x y : {x // x ∈ E} => cmpB x.1.1 y.1.1) := by
      refine ⟨fun x => ?_, fun x y z h1 h2 => ?_, fun x y z h1 h2 => ?_⟩
      · rw [hlt]; simp
      · rw [hlt] at *; simp only [decide_eq_true_eq] at *; exact List.lt_trans h1 h2
      · rw [hlt] at *; simp only [decide_eq_false_iff_not, List.not_lt] at *; exact List.le_trans h2 h1
    have hcon := AnyQ.slices_SortFunc_total Tryd.laysSF 3 (fun w => Vc.run_isAgg ag_File) (fun w => Vc.run_sizeOf sz_File) (fun x : {x // x ∈ E} => fcells x.1) (fun _ => rfl)
      (fun x u hu => by
        simp only [fcells, List.mem_cons, List.not_mem_nil, or_false] at hu
        rcases hu with rfl | rfl | rfl
        · rfl
        · rfl
        · exact hone _ x.2) (fun x y => cmpB x.1.1 y.1.1) hso 30 #[] g 0 cap E.attach.toArray w
      (fun args w => by
        obtain ⟨fn, h1, h2, h3⟩ := ok_cmp
        have hne' : ¬ fn.name = "runtime.NumGoroutine" := by simpa using h2
        have hbd' : ¬ fn.body = none := by cases h : fn.body with | none => rw [h] at h3; cases h3 | some c => simp
        simp [callFunc, program, Sem.run, h1, hne', hbd'])
      (fun m os dk _ x y => (c_cmp x.1 y.1 _).mono fun e w' ⟨h1, h2⟩ => ⟨h1, 0, #[.cells (fcells x.1).toArray tF, .cells (fcells y.1).toArray tF], by rw [h2, Sort.alloc_eq_grow, Sort.alloc_eq_grow, Sort.grow_grow]; rfl⟩)
      (fun j hj => by
        rw [hfl] at hj ⊢
        refine ⟨?_, by simp [World.frozen?, hg]⟩
        have hj' : j < (E.flatMap fcells).length := by simpa using hj
        have := hrow.cells rfl j _ (List.getElem?_eq_getElem hj')
        rw [this]
        simp
        rw [List.getElem?_eq_getElem hj']
        rfl)
      (lt_of_obj hg) (by rw [hsz]; omega)
      (fun x y h1 h2 => by
        rw [hlt] at h1 h2
        simp only [decide_eq_false_iff_not, List.not_lt] at h1 h2
        have hp : x.1.1 = y.1.1 := List.le_antisymm h2 h1
        apply Subtype.ext
        exact path_inj hn x.2 y.2 hp)
    rw [hsz] at hcon
    refine hcon.mono ?_
    rintro e w' ⟨rfl, n, os, rfl⟩
    have hfs : flatK (fun x : {x // x ∈ E} => fcells x.1) 3 (E.attach.toArray.toList.mergeSort fun x y => !(ltOf fun x y : {x // x ∈ E} => cmpB x.1.1 y.1.1) y x).toArray = ((sortE E).flatMap fcells).toArray := by
      rw [flatK_eq _ 3 (fun _ => rfl) (by omega)]
      congr 1
      have : (E.attach.toArray.toList.mergeSort fun x y => !(ltOf fun x y : {x // x ∈ E} => cmpB x.1.1 y.1.1) y x).map Subtype.val = sortE E := by
        rw [List.map_mergeSort (s := fun x y => decide (x.1 ≤ y.1))]
        · show (E.attach.map Subtype.val).mergeSort _ = _
          rw [List.attach_map_subtype_val]; rfl
        · intro a _ b _
          rw [hlt]
          by_cases h : b.1.1 < a.1.1
          · have : ¬ a.1.1 ≤ b.1.1 := by rw [List.not_le]; exact h
            simp [h, this]
          · have : a.1.1 ≤ b.1.1 := List.not_lt.1 h
            simp [h, this]
      rw [← this, List.flatMap_map]
    unfold sortWorldK putRowK
    rw [hfs]
    have hsl : (sortE E).length = E.length := List.length_mergeSort E
    obtain ⟨D, hD⟩ : ∃ D, D = ((sortE E).flatMap fcells).toArray := ⟨_, rfl⟩
    have hDl : D.size = E.length * 3 := by rw [hD]; simp [flat_len fcells 3 fcells_len, hsl]
    have hDc : D.size ≤ cur.size := by rw [hDl, hs]; omega
    rw [← hD]
    have hgl := lt_of_obj hg
    have hh : (Sort.grow (Sort.putRow id (Sort.ahead w n) g 0 D) os).heap[g]? = some (.cells (Sort.putCells id 0 D cur) tF (0, 0)) := by
      rw [show (Sort.grow (Sort.putRow id (Sort.ahead w n) g 0 D) os).heap = (Sort.putRow id (Sort.ahead w n) g 0 D).heap ++ os from rfl, Array.getElem?_append_left (by simpa [Sort.putRow, Sort.mapBlock, Sort.ahead] using hgl)]
      simp [Sort.putRow, Sort.mapBlock, Sort.ahead, Array.getElem?_modify, hg, Sort.onCells]
    refine ⟨rfl, ⟨by rw [flat_len fcells 3 fcells_len, hsl], .inr ⟨g, cap, _, rfl, hb, hh, hnc, hm, by simpa [Sort.putCells] using hs, ?_⟩⟩, ?_⟩
    · rw [← hDl, putCells_take D cur hDc, hD]
    · refine ⟨rfl, rfl, rfl, by simp [Sort.grow, Sort.putRow, Sort.mapBlock, Sort.ahead], fun k hk hne => ?_⟩
      rw [show (Sort.grow (Sort.putRow id (Sort.ahead w n) g 0 D) os).heap = (Sort.putRow id (Sort.ahead w n) g 0 D).heap ++ os from rfl, Array.getElem?_append_left (by simpa [Sort.putRow, Sort.mapBlock, Sort.ahead] using hk)]
      have : g ≠ k := fun e => hne (by rw [e]; rfl)
      simp [Sort.putRow, Sort.mapBlock, Sort.ahead, Array.getElem?_modify, this]
end Go.Proofs.YtmdpmpdlkaogdaaDoor

namespace Go.Proofs.YtmdpmpdlkaogdaaDoor
open Go Go.RowKit Vc
variable {A : Nat → Prop}

theorem ok_Files : FnOk P 15 := ⟨_, Tryd.func15, by kernel_rfl, by kernel_rfl⟩
/-- A list of files that may be read. -/
structure FilesAt (w : World) (v : Value) (E : List FE) : Prop where
  row : Row w v tF 3 E.length (E.flatMap fcells)
  bytes : ∀ x ∈ E, RowB w x.2.2.1 x.2.2.2

theorem get_map_self {m : Tr.T} (hn : (m.map (·.1)).Nodup) : m.map (fun p => (p.1, (Tr.get m p.1).getD (true, []))) = m := by
  conv => rhs; rw [← List.map_id m]
  refine List.map_congr_left fun p hp => ?_
  rw [Tr.mem_get hn hp]; rfl
theorem Vc.IterAt.sub {w : World} {it r : Nat} {al left : AL} (h : IterAt w it r al left) : ∀ p ∈ left, p ∈ al := by
  obtain ⟨es, c, seen, -, -, -, rfl, rfl⟩ := h
  intro p hp
  obtain ⟨e, he, rfl⟩ := List.mem_map.1 hp
  exact List.mem_map.2 ⟨e, (List.mem_filter.1 he).1, rfl⟩
theorem Vc.IterAt.itlt {w : World} {it r : Nat} {al left : AL} (h : IterAt w it r al left) : it < w.heap.size := by
  obtain ⟨es, c, seen, hi, -⟩ := h
  exact lt_of_obj hi
theorem Reps.at_ {w : World} {al : AL} {m : Tr.T} (h : Reps A w al m) (hn : (m.map (·.1)).Nodup) {p : Tr.Bytes × Value} (hp : p ∈ al) : ∃ x, Tr.get m p.1 = some x ∧ NodeAt A w p.2 x := by
  have ha : aget al p.1 = some p.2 := Tr.mem_get (α := Value) (m := al) (by rw [h.keys]; exact hn) hp
  have := h.look p.1
  rw [ha] at this
  cases hg : Tr.get m p.1 with
  | none =>
    have h2 := h.isSome p.1
    rw [ha, hg] at h2; cases h2
  | some x => rw [hg] at this; exact ⟨x, rfl, this⟩

theorem fcells_snoc (E : List FE) (x : FE) : (E ++ [x]).flatMap fcells = E.flatMap fcells ++ fcells x := by simp
theorem files_eq {E : List FE} {m : Tr.T} (h : (E.map fnd).Perm m) (hn : (m.map (·.1)).Nodup) : (sortE E).map fnd = Tr.files m := by
  have h1 : (sortE E).map fnd = (E.map fnd).mergeSort fun x y => decide (x.1 ≤ y.1) := List.map_mergeSort fun a _ b _ => rfl
  rw [h1]
  unfold Tr.files
  refine List.Perm.eq_of_pairwise (le := fun x y => decide (x.1 ≤ y.1) = true) ?_ (List.pairwise_mergeSort (fun a b c => Tr.le_tr a.1 b.1 c.1) (fun a b => Tr.le_tot a.1 b.1) _) (List.pairwise_mergeSort (fun a b c => Tr.le_tr a.1 b.1 c.1) (fun a b => Tr.le_tot a.1 b.1) _)
    ((List.mergeSort_perm _ _).trans (h.trans (List.mergeSort_perm _ _).symm))
  intro a b ha hb h1 h2
  have hab := Tr.le_as _ _ h1 h2
  have ha' : a ∈ m := h.mem_iff.1 ((List.mergeSort_perm _ _).mem_iff.1 ha)
  have hb' : b ∈ m := (List.mergeSort_perm _ _).mem_iff.1 hb
  have e1 := Tr.mem_get hn (show (a.1, a.2) ∈ m from ha')
  have e2 := Tr.mem_get hn (show (b.1, b.2) ∈ m from hb')
  rw [hab] at e1
  rw [e1] at e2
  exact Prod.ext hab (Option.some.inj e2)

theorem c_Files {w : World} {bt bm : Nat} {m : Tr.T} {sz : Int} (ht : TreeAt A w bt bm m sz) (hm1 : m.length ≤ 100000) (hm2 : Tr.size m ≤ 100000000) :
    Calls P 15 #[pT bt] w fun e w' => ∃ (v : Value) (E : List FE), e = .returned v ∧ E.map fnd = Tr.files m ∧ w'.ownsRow w.heap.size tF 3 v E.length (E.flatMap fcells) ∧ (∀ x ∈ E, Byts w.heap.size w' x.2.2.1 x.2.2.2) ∧ Ext none_ w w' := by
  have hnd := ht.nodup
  refine enter (l := [_]) (n := 33) Tryd.func15 rfl rfl rfl ?_
  refine W.seq ?_
  refine W.reg <| asg rfl rfl <| L.nil ?_
  refine N.th ?_
  refine W.seq ?_
  refine W.reg <| asg rfl rfl <| L.nil ?_
  refine N.th ?_
  refine W.seq ?_
  refine W.seq ?_
  obtain ⟨al, hal, hr⟩ := ht.reps
  refine W.reg <| mv rfl rfl <| nilc rfl rfl <| fad rfl fl_Tree_0 rfl <| ld1 rfl ag_mNode rfl ht.c0 <| rng rfl u_mNode rfl hal fun w1 hi1 hx1 hs1 => ?_
  refine L.nil ?_
  refine N.th ?_
  refine W.block ?_
  obtain ⟨G, hG⟩ : ∃ G : Tr.Bytes × Value → Tr.Bytes × Tr.Nd, G = fun p => (p.1, (Tr.get m p.1).getD (true, [])) := ⟨_, rfl⟩
  have hGal : al.map G = m := by
    have h1 : al.map G = (al.map (·.1)).map fun k => (k, (Tr.get m k).getD (true, [])) := by rw [hG, List.map_map]; rfl
    rw [h1, hr.keys, List.map_map]; exact get_map_self hnd
  refine W.loop (X := AL × List FE × Value) (fun x => [(10, .pointer (some ⟨w.heap.size, 0, none⟩)), (3, x.2.2), (0, pT bt)])
    (fun x w' => IterAt w' w.heap.size bm al x.1 ∧ w'.ownsRow w.heap.size tF 3 x.2.2 x.2.1.length (x.2.1.flatMap fcells) ∧ (x.2.1.map fnd ++ x.1.map G).Perm m ∧ x.2.1.length + x.1.length ≤ m.length ∧ Ext none_ w w' ∧ x.2.2.ownBlock ≠ some w.heap.size ∧
      (∀ y ∈ x.2.1, Byts w.heap.size w' y.2.2.1 y.2.2.2)) (fun x => x.1.length) (al, [], .slice none 0 0) ⟨rfl, rfl, rfl, trivial⟩
    ⟨hi1, own_nil _ _ _ _, by rw [hGal]; simp, by simp [hr.length], hx1, by simp [Value.ownBlock], by simp⟩ ?_
  rintro ⟨left, acc, v⟩ w2 ⟨hi, hown, hperm, hlen, hx, hne, hbs⟩
  dsimp only at hi hown hperm hlen hne hbs ⊢
  refine W.seq ?_
  refine W.reg <| nxt rfl rfl hi ?_ ?_
  · rintro rfl
    refine ext rfl rfl rfl <| L.nil ?_
    refine N.th ?_
    refine W.seq ?_
    refine W.condF rfl ?_
    refine W.exit ?_
    refine N.xth ?_
    refine N.xth ?_
    refine N.xeq ?_
    refine N.th ?_
    refine W.seq ?_
    have hp : (acc.map fnd).Perm m := by simpa using hperm
    have hkn : (acc.map (·.1)).Nodup := by
      have := (hp.map (·.1)).nodup_iff.2 hnd
      rwa [List.map_map] at this
    refine W.reg <| mv rfl rfl <| call (vs := [_, _]) rfl rfl ok_SortFunc (c_SortFunc hown hkn (fun x hx => (own_cells (hbs x hx)).2) (by omega)) ?_
    rintro e w3 ⟨rfl, hs3, hx3⟩
    refine ⟨_, rfl, ?_⟩
    refine L.nil ?_
    refine N.th ?_
    refine W.seq ?_
    refine W.reg <| mv rfl rfl <| asg rfl rfl <| L.nil ?_
    refine N.th ?_
    refine W.ret ?_
    refine N.ret1 rfl rfl ?_   -- RETURN
    have hsl : (sortE acc).length = acc.length := List.length_mergeSort acc
    refine ⟨_, sortE acc, rfl, files_eq hp hnd, by rw [hsl]; exact hs3, fun x hx' => ?_, hx.own hown hx3⟩
    have hxa : x ∈ acc := (List.mergeSort_perm acc _).mem_iff.1 hx'
    refine own_ext (hbs x hxa) hx3 fun k hk hk2 => ?_
    obtain ⟨c1, f1, h1⟩ := own_kind (hbs x hxa) k hk
    obtain ⟨c2, f2, h2⟩ := own_kind hown k hk2
    rw [h1] at h2; cases h2
  · rintro l1 q l2 w3 rfl hi3 hx3 hs3 hcur
    refine ext rfl rfl rfl <| L.nil ?_
    refine N.th ?_
    refine W.seq ?_
    refine W.condT rfl ?_
    refine W.skip ?_
    refine N.th ?_
    refine W.block ?_
    refine W.seq ?_
    refine W.reg <| ent rfl rfl hcur <| ext (v := .string (S q.1)) rfl rfl rfl <| ext (v := q.2) rfl rfl rfl <| asg rfl rfl <| asg rfl rfl <| L.nil ?_
    refine N.th ?_
    have hx03 : Ext none_ w w3 := hx.trans' hx3 fun i hi hh => by omega
    have hown3 := own_ext hown hx3 fun k hk e => hne (e ▸ hk)
    have hbs3 : ∀ y ∈ acc, Byts w.heap.size w3 y.2.2.1 y.2.2.2 := fun y hy => own_ext (hbs y hy) hx3 fun k hk e => by
      subst e
      obtain ⟨c1, f1, h1⟩ := own_kind (hbs y hy) _ hk
      obtain ⟨es, c, seen, h2, -⟩ := hi
      rw [h1] at h2; cases h2
    obtain ⟨x, hgx, nb, sl, hq2, hnb, hav, hrow⟩ := hr.at_ hnd (hi.sub q (by simp))
    have hnb3 := hx03.obj hnb id
    have hrow3 := hrow.ext0 hx03
    have hxl : x.2.length ≤ 100000000 := by have := old_le m q.1; simp [Tr.old, hgx] at this; omega
    simp only [List.length_append, List.length_cons] at hlen
    obtain ⟨va, vc, rfl, hvn, hvm⟩ := own_slice hown
    rw [hq2]
    have hdr := Ext.drew none_ w3
    have hrowd := hrow3.ext0 hdr
    have hnbd := hdr.obj hnb3 id
    refine W.draw [] false (fun w' => Ext none_ w3.drew w' ∨ ∃ w5, Ext none_ w3.drew w5 ∧ Ext (fun k => (Value.slice va acc.length vc).ownBlock = some k) w5 w') [0, 1, 2, 3, 4, 5, 6, 7, 8, 9, 10, 11, 12, 13, 14] rfl rfl (by kernel_rfl) (.inl (Ext.refl _ _)) ?_   -- held
    have keep : ∀ {w'}, (Ext none_ w3.drew w' ∨ ∃ w5, Ext none_ w3.drew w5 ∧ Ext (fun k => (Value.slice va acc.length vc).ownBlock = some k) w5 w') → w'.heap[nb]? = some (.cells #[.bool x.1, sl] tN (0, 0)) := by
      rintro w' (h | ⟨w5, h1, h2⟩)
      · exact h.obj hnbd id
      · refine h2.obj (h1.obj hnbd id) fun e => ?_
        obtain ⟨c2, f2, h3⟩ := own_kind hown3 nb e
        rw [hnb3] at h3; cases h3
    refine mv rfl rfl <| mv rfl rfl <| mv rfl rfl <| nilc rfl rfl <| fad rfl fl_Node_0 rfl <| ldK (v := .bool x.1) rfl ag_bool rfl (fun w' h => cell_of (keep h) rfl) <| mv rfl rfl <| nilc rfl rfl <| fad rfl fl_Node_1 rfl <| ldK (v := sl) rfl ag_bytes rfl (fun w' h => cell_of (keep h) rfl) <|
      callH (vs := [_]) rfl rfl ok_Clone (c_Clone hrowd.arg (by omega)) ?_
    rintro e w5 ⟨cv, rfl, hcv, hx5, -⟩
    refine ⟨_, rfl, .inr fun h => ?_, ?_⟩
    · rcases h with h | ⟨w5', h1, h2⟩
      · exact .inl (h.trans hx5)
      · exact .inl (hx5)
    obtain ⟨ca, cc, rfl, -, -⟩ := own_slice hcv
    obtain ⟨y, hy⟩ : ∃ y : FE, y = (q.1, x.1, .slice ca x.2.length cc, x.2) := ⟨_, rfl⟩
    have hx05 : Ext none_ w w5 := hx03.trans (hdr.trans hx5)
    have hown5 : w5.ownsRow w.heap.size tF 3 (.slice va acc.length vc) acc.length (acc.flatMap fcells) := own_ext hown3 (hdr.trans hx5) fun _ _ => id
    refine bld (vs := #[(0, .string (S q.1)), (1, .bool x.1), (2, .slice ca x.2.length cc)]) (v := .agg (fcells y).toArray) rfl rfl (fun _ => by rw [hy]; kernel_rfl) <| ?_
    refine bls (vs := #[(0, .agg (fcells y).toArray)]) (cs := (fcells y).toArray) (e := tF) rfl rfl (fun _ => by rw [hy]; kernel_rfl) (hS := .inr fun _ => .inl (hx5.trans (Ext.alloc none_ _ _))) <| ?_
    refine appY rfl rfl rfl el_files (own_ext hown5 (Ext.alloc none_ _ _) fun _ _ => id) (news := fcells y) rfl (fun j u hj => by rw [add_at]; exact row_cells (heap_new _ _) j u hj) (fun u hu => by
        rw [hy] at hu
        simp only [fcells, List.mem_cons, List.not_mem_nil, or_false] at hu
        rcases hu with rfl | rfl | rfl <;> rfl) (by omega) (by simp only [maxLen]; omega) (by have := hx05.size; simp; omega) fun v' w6 hown6 hx6 _ hat => ⟨.inr fun h => .inr ⟨_, hx5.trans (Ext.alloc _ _ _), hx6⟩, ?_⟩
    refine asg rfl rfl <| L.nilH ?_
    refine N.inb ?_
    have hx5a : Ext none_ w5 (w5.alloc (.cells (fcells y).toArray tF)) := Ext.alloc _ _ _
    have hx06 : Ext none_ w w6 := (hx05.trans hx5a).trans' hx6 fun i hi hh => by have := own_new hown3 i hh; omega
    have hkeepB : ∀ {z : FE}, Byts w.heap.size w5 z.2.2.1 z.2.2.2 → Byts w.heap.size w6 z.2.2.1 z.2.2.2 := fun {z} hz => own_ext (own_ext hz hx5a fun _ _ => id) hx6 fun k hk hk2 => by
      obtain ⟨c1, f1, h1⟩ := own_kind hz k hk
      obtain ⟨c2, f2, h2⟩ := own_kind hown5 k hk2
      rw [h1] at h2; cases h2
    refine N.th (N.round (x := (l1 ++ l2, acc ++ [y], v')) ⟨rfl, rfl, rfl, trivial⟩ ⟨?_, ?_, ?_, by simp; omega, hx06, ?_, ?_⟩ (by simp))   -- ROUND
    · refine ((hi3.ext (hdr.trans hx5) id id).ext hx5a id id).ext hx6 hne (fun e => ?_)
      have := own_new hown3 _ e
      have := ht.lt.2
      omega
    · rw [fcells_snoc, List.length_append]; exact hown6
    · refine List.Perm.trans ?_ hperm
      have hGq : G q = fnd y := by rw [hG, hy]; simp [fnd, hgx]
      simp only [List.map_append, List.map_cons, List.map_nil, List.append_assoc, hGq, List.cons_append, List.nil_append]
      exact List.Perm.append_left _ List.perm_middle.symm
    · rcases hat with e | e
      · rw [e]; exact hne
      · rw [e]
        intro e'
        have := hi3.itlt
        have := (hdr.trans hx5).size
        simp at e'
        omega
    · intro z hz
      rcases List.mem_append.1 hz with hz | hz
      · exact hkeepB (own_ext (hbs3 z hz) (hdr.trans hx5) fun _ _ => id)
      · simp at hz
        rw [hz]
        refine hkeepB ?_
        rw [hy]
        refine own_more hcv ?_
        have := hx03.size
        exact this
end Go.Proofs.YtmdpmpdlkaogdaaDoor

namespace Go.Proofs.YtmdpmpdlkaogdaaDoor
open Go Go.RowKit Vc

def nameD : List Tr.Bytes := [[], [97, 47], [98, 47, 99, 47], [98, 47, 100, 47]]
def nameB (k : UInt8) : Tr.Bytes := (nameD[k.toNat / 64]?.getD [] ++ [102]) ++ [UInt8.ofNat (97 + k.toNat % 26)]
theorem nameB_len (k : UInt8) : (nameB k).length ≤ 6 := by
  have : k.toNat / 64 < 4 := by have := k.toNat_lt; omega
  unfold nameB nameD
  rcases hk : k.toNat / 64 with _ | _ | _ | _ | j
  · simp
  · simp
  · simp
  · simp
  · omega

theorem FilesAt.ext {S : Nat → Prop} {w w' : World} {v : Value} {E : List FE} (h : FilesAt w v E) (hx : Ext S w w') (hS : ∀ k, S k → ∀ c e fr, w.heap[k]? = some (.cells c e fr) → e ≠ tF ∧ e ≠ tB) : FilesAt w' v E :=
  ⟨h.row.ext hx fun k hk hk2 => by obtain ⟨c, fr, hc⟩ := h.row.kind k hk; exact (hS k hk2 _ _ _ hc).1 rfl,
   fun x hm => (h.bytes x hm).ext hx fun k hk hk2 => by obtain ⟨c, fr, hc⟩ := (h.bytes x hm).kind k hk; exact (hS k hk2 _ _ _ hc).2 rfl⟩
theorem FilesAt.ext0 {w w' : World} {v : Value} {E : List FE} (h : FilesAt w v E) (hx : Ext none_ w w') : FilesAt w' v E := h.ext hx fun _ h => h.elim
theorem FilesAt.cell {w : World} {b o n c i : Nat} {E : List FE} {x : FE} (h : FilesAt w (.slice (some ⟨b, o, none⟩) n c) E) (hi : E[i]? = some x) : w.cell? ⟨b, o + i * 3 + 0, none⟩ = some (.string (S x.1)) ∧ w.cell? ⟨b, o + i * 3 + 1, none⟩ = some (.bool x.2.1) ∧ w.cell? ⟨b, o + i * 3 + 2, none⟩ = some x.2.2.1 := by
  have hg : ∀ j, j < 3 → (E.flatMap fcells)[i * 3 + j]? = (fcells x)[j]? := fun j hj => by
    rw [flat_get fcells 3 fcells_len (by omega), show (i * 3 + j) / 3 = i by omega, show (i * 3 + j) % 3 = j by omega, hi]; rfl
  refine ⟨?_, ?_, ?_⟩
  · rw [Nat.add_assoc]; exact h.row.cells rfl _ _ (hg 0 (by omega))
  · rw [Nat.add_assoc]; exact h.row.cells rfl _ _ (hg 1 (by omega))
  · rw [Nat.add_assoc]; exact h.row.cells rfl _ _ (hg 2 (by omega))

theorem fnd_eq (x y : FE) : decide (fnd x = fnd y) = (x.1 == y.1 && (x.2.1 == y.2.1 && x.2.2.2 == y.2.2.2)) := by
  rw [Bool.eq_iff_iff]
  simp [fnd, Prod.ext_iff]

end Go.Proofs.YtmdpmpdlkaogdaaDoor

namespace Go.Proofs.YtmdpmpdlkaogdaaDoor
open Go Go.RowKit Vc


namespace Kn8
def k1 : Tr.T := [([97], (true, [])), ([97,47,98], (false, [120]))]
def k2 : Tr.T := [([99], (true, [])), ([99,47,98], (false, [120]))]
def kv : Tr.Move := ⟨[[97], [97, 47, 98]], [[99], [99, 47, 98]], [], 1⟩
theorem t1 : Tr.write [] [97, 47, 98] [120] = (k1, 0) := by kernel_rfl
theorem t2 : Tr.write k1 [97] [] = (k1, 54) := by kernel_rfl
theorem tb : Tr.below k1 [97] = [[97], [97, 47, 98]] := by
  have h : (k1.map (·.1)).filter (fun k => Sp.within k [97]) = [[97], [97, 47, 98]] := by kernel_rfl
  unfold Tr.below Tr.sort
  rw [h]
  exact List.mergeSort_of_pairwise (by decide)
theorem tp : Tr.plan k1 [97] [99] = (some kv, 0) := by
  have h : Tr.plan k1 [97] [99] = (if (Tr.dests 1 [99] (Tr.below k1 [97])).2 ≠ 0 then (none, (Tr.dests 1 [99] (Tr.below k1 [97])).2) else (some ⟨Tr.below k1 [97], (Tr.dests 1 [99] (Tr.below k1 [97])).1, [], ((Tr.below k1 [97]).map fun k => ((Tr.get k1 k).getD (true, [])).2.length).sum⟩, 0)) := by kernel_rfl
  rw [h, tb]
  exact rfl
theorem t3 : Tr.rename k1 [97] [99] = (k2, 0) := by
  unfold Tr.rename
  rw [tp]
  show (if Tr.room k1 0 0 = false then (k1, (55 : Int)) else (Tr.drop (Tr.copy k1 kv) kv.src, 0)) = (k2, 0)
  exact rfl
theorem t4 : Tr.read k2 [99, 47, 98] = ([120], 0) := by kernel_rfl
theorem t5 : Tr.files k2 = k2 := List.mergeSort_of_pairwise (by decide)
theorem t6 : Tr.exists_ k2 [99] = true := by kernel_rfl
theorem t7 : Tr.exists_ k2 [97] = false := by kernel_rfl
theorem t8 : Tr.size (Tr.copy k1 kv) = Tr.size k1 + kv.bytes := by kernel_rfl
theorem t9 : Tr.size k2 = 1 := by kernel_rfl
end Kn8

theorem two_of {α : Type} : ∀ {l : List α}, l.length = 2 → ∃ x y, l = [x, y]
  | [x, y], _ => ⟨x, y, rfl⟩

end Go.Proofs.YtmdpmpdlkaogdaaDoor

namespace Go.Proofs.YtmdpmpdlkaogdaaDoor
namespace Tr

/-- A path's parents, from behind. -/
def par : Nat → Bytes → List Bytes
  | 0, _ => []
  | n + 1, d => if d = [] then [] else d :: par n (Sp.parent d)
theorem par_succ (n : Nat) (d : Bytes) : par (n + 1) d = if d = [] then [] else d :: par n (Sp.parent d) := rfl
theorem aheadF_succ (m : T) (n : Nat) (d : Bytes) : aheadF m (n + 1) d = if d = [] then some [] else match get m d with
    | none => (aheadF m n (Sp.parent d)).map (d :: ·)
    | some x => if x.1 then aheadF m n (Sp.parent d) else none := rfl
theorem aheadF_eq (m : T) : ∀ (n : Nat) (d : Bytes), (∀ e ∈ par n d, ∀ x, get m e = some x → x.1 = true) → aheadF m n d = some ((par n d).filter fun e => (get m e).isNone) := by
  intro n
  induction n with
  | zero => intro d _; rfl
  | succ n ih =>
    intro d h
    rw [par_succ] at h ⊢
    rw [aheadF_succ]
    by_cases h0 : d = []
    · rw [if_pos h0, if_pos h0]; rfl
    · rw [if_neg h0] at h ⊢
      rw [if_neg h0]
      have hr := ih (Sp.parent d) fun e he => h e (List.mem_cons_of_mem _ he)
      cases hg : get m d with
      | none =>
        simp only [hr, List.filter_cons, hg, Option.isNone_none, if_true]; rfl
      | some x =>
        have := h d (by simp) x hg
        simp only [hr, List.filter_cons, hg, Option.isNone_some, Bool.false_eq_true, if_false, this, if_true]
/-- Two trees that answer alike have the same files. -/
theorem perm_ext {m n : T} (hm : (m.map (·.1)).Nodup) (hn : (n.map (·.1)).Nodup) (h : ∀ p, get m p = get n p) : m.Perm n := by
  have nd : ∀ {m : T}, (m.map (·.1)).Nodup → m.Nodup := fun {m} h => by
    induction m with
    | nil => simp
    | cons p m ih =>
      rw [List.map_cons, List.nodup_cons] at h
      exact List.nodup_cons.2 ⟨fun hp => h.1 (List.mem_map.2 ⟨p, hp, rfl⟩), ih h.2⟩
  refine (List.perm_ext_iff_of_nodup (nd hm) (nd hn)).2 fun a => ?_
  obtain ⟨k, x⟩ := a
  constructor
  · intro ha; exact get_mem (by rw [← h]; exact mem_get hm ha)
  · intro ha; exact get_mem (by rw [h]; exact mem_get hn ha)
theorem size_perm {m n : T} (h : m.Perm n) : size m = size n := (h.map _).sum_nat
theorem files_perm {m n : T} (hn : (n.map (·.1)).Nodup) (h : m.Perm n) : files m = files n := by
  unfold files
  refine List.Perm.eq_of_pairwise (le := fun x y => decide (x.1 ≤ y.1) = true) ?_ (List.pairwise_mergeSort (fun a b c => le_tr a.1 b.1 c.1) (fun a b => le_tot a.1 b.1) _) (List.pairwise_mergeSort (fun a b c => le_tr a.1 b.1 c.1) (fun a b => le_tot a.1 b.1) _)
    ((List.mergeSort_perm _ _).trans (h.trans (List.mergeSort_perm _ _).symm))
  intro a b ha hb h1 h2
  have hab := le_as _ _ h1 h2
  have ha' : a ∈ n := h.mem_iff.1 ((List.mergeSort_perm _ _).mem_iff.1 ha)
  have hb' : b ∈ n := (List.mergeSort_perm _ _).mem_iff.1 hb
  have e1 := mem_get hn (show (a.1, a.2) ∈ n from ha')
  have e2 := mem_get hn (show (b.1, b.2) ∈ n from hb')
  rw [hab] at e1
  rw [e1] at e2
  exact Prod.ext hab (Option.some.inj e2)

-- the names
def dirs : List Bytes := [[97], [98], [98, 47, 99], [98, 47, 100]]
def nameChk (k : UInt8) : Bool := Sp.clean (nameB k) == (nameB k, 0) && (par (nameB k).length (Sp.parent (nameB k))).all (fun d => dirs.contains d) && !dirs.contains (nameB k) && (nameB k != []) && decide ((par (nameB k).length (Sp.parent (nameB k))).length ≤ 2)
theorem names_ok : (List.range 256).all (fun n => nameChk (UInt8.ofNat n)) = true := by kernel_rfl
theorem name_ok (k : UInt8) : nameChk k = true := by
  have h := List.all_eq_true.1 names_ok k.toNat (List.mem_range.2 k.toNat_lt)
  simpa using h
def up (k : UInt8) : List Bytes := par (nameB k).length (Sp.parent (nameB k))
theorem name_clean (k : UInt8) : Sp.clean (nameB k) = (nameB k, 0) := by
  have := name_ok k
  simp only [nameChk, Bool.and_eq_true, beq_iff_eq] at this
  exact this.1.1.1.1
theorem up_dirs {k : UInt8} {d : Bytes} (h : d ∈ up k) : d ∈ dirs := by
  have := name_ok k
  simp only [nameChk, Bool.and_eq_true] at this
  have := List.all_eq_true.1 this.1.1.1.2 d h
  simpa using this
theorem name_file (k : UInt8) : nameB k ∉ dirs := by
  have := name_ok k
  simp only [nameChk, Bool.and_eq_true] at this
  simpa using this.1.1.2
theorem name_ne (k : UInt8) : nameB k ≠ [] := by
  have := name_ok k
  simp only [nameChk, Bool.and_eq_true] at this
  simpa using this.1.2
theorem up_len (k : UInt8) : (up k).length ≤ 2 := by
  have := name_ok k
  simp only [nameChk, Bool.and_eq_true, decide_eq_true_eq] at this
  exact this.2

/-- A tree in which the named files ks stand, each with the bytes that B tells. -/
structure Names (B : Bytes → Bytes) (m : T) (ks : List UInt8) : Prop where
  nodup : (m.map (·.1)).Nodup
  file : ∀ k ∈ ks, get m (nameB k) = some (false, B (nameB k))
  dir : ∀ k ∈ ks, ∀ d ∈ up k, get m d = some (true, [])
  none : ∀ p, (∀ k ∈ ks, p ≠ nameB k ∧ p ∉ up k) → get m p = none
  len : m.length ≤ 3 * ks.length
  bytes : size m ≤ 200 * ks.length
theorem Names.nil (B : Bytes → Bytes) : Names B [] [] := ⟨by simp, by simp, by simp, fun _ _ => rfl, by simp, by simp [size]⟩
theorem Names.dirs {B : Bytes → Bytes} {m : T} {ks : List UInt8} (h : Names B m ks) {d : Bytes} (hd : d ∈ Tr.dirs) {x : Nd} (hx : get m d = some x) : x = (true, []) := by
  by_cases hk : ∃ k ∈ ks, d ∈ up k
  · obtain ⟨k, hk, hd2⟩ := hk
    rw [h.dir k hk d hd2] at hx; cases hx; rfl
  · have := h.none d fun k hk' => ⟨fun e => name_file k (e ▸ hd), fun e => hk ⟨k, hk', e⟩⟩
    rw [this] at hx; cases hx
/-- One name more is written. -/
theorem Names.write {B : Bytes → Bytes} {m : T} {ks : List UInt8} (h : Names B m ks) (k : UInt8) (hB : (B (nameB k)).length ≤ 200) (hl : ks.length ≤ 100) : ∃ m', Tr.write m (nameB k) (B (nameB k)) = (m', 0) ∧ Names B m' (ks ++ [k]) := by
  have hcl := name_clean k
  have hup : ∀ e ∈ up k, ∀ x, get m e = some x → x.1 = true := fun e he x hx => by rw [h.dirs (up_dirs he) hx]
  have hah : ahead m (nameB k) = some ((up k).filter fun e => (get m e).isNone) := aheadF_eq m _ _ hup
  obtain ⟨lack, hlk⟩ : ∃ lack, lack = (up k).filter fun e => (get m e).isNone := ⟨_, rfl⟩
  rw [← hlk] at hah
  have hlack : lack.length ≤ 2 := by rw [hlk]; exact Nat.le_trans (List.length_filter_le _ _) (up_len k)
  have hnd : ∀ x, at_ m (nameB k) = some x → x.1 = false := by
    intro x hx
    unfold at_ at hx
    rw [if_neg (name_ne k)] at hx
    by_cases hk : ∃ j ∈ ks, nameB k = nameB j
    · obtain ⟨j, hj, e⟩ := hk
      rw [e, h.file j hj] at hx; cases hx; rfl
    · have := h.none (nameB k) fun j hj => ⟨fun e => hk ⟨j, hj, e⟩, fun e => name_file k (up_dirs e)⟩
      rw [this] at hx; cases hx
  have hc2 : ¬ (Sp.clean (nameB k)).2 ≠ 0 := by rw [hcl]; simp
  have hc1 : (Sp.clean (nameB k)).1 = nameB k := by rw [hcl]
  obtain ⟨-, hput⟩ := put_ok (b := B (nameB k)) (more := false) hc2 rfl (by rw [hc1]; exact hnd) (by rw [hc1]; exact hah)
  rw [hc1] at hput
  have hpb : putB (at_ m (nameB k)) (B (nameB k)) false = B (nameB k) := by unfold putB; cases at_ m (nameB k) <;> rfl
  have hpn : putN (at_ m (nameB k)) lack ≤ 3 := by unfold putN; cases at_ m (nameB k) <;> simp; omega
  rw [hpb] at hput
  have hm1 := h.len
  have hm2 := h.bytes
  have hroom : room m (putN (at_ m (nameB k)) lack) (((B (nameB k)).length : Int) - old m (nameB k)) = true := by
    unfold room
    simp only [Bool.and_eq_true, decide_eq_true_eq]
    omega
  rw [if_neg (by rw [hroom]; simp; omega)] at hput
  refine ⟨_, hput, ?_⟩
  have hsz := size_put h.nodup hah (name_ne k) (false, B (nameB k))
  have hget : ∀ j, get (set (make m lack) (nameB k) (false, B (nameB k))) j = if j = nameB k then some (false, B (nameB k)) else if j ∈ lack then some (true, []) else get m j := fun j => by rw [get_set, get_make]
  obtain ⟨ha1, ha2⟩ := ahead_spec hah
  refine ⟨nodup_set _ _ (nodup_make _ h.nodup), fun j hj => ?_, fun j hj d hd => ?_, fun p hp => ?_, ?_, ?_⟩
  · rw [hget]
    by_cases e : nameB j = nameB k
    · rw [if_pos e, e]
    · rw [if_neg e]
      have hj' : j ∈ ks := by
        rcases List.mem_append.1 hj with hj | hj
        · exact hj
        · simp at hj; subst hj; exact absurd rfl e
      have : nameB j ∉ lack := fun hm => name_file j (up_dirs (by rw [hlk] at hm; exact (List.mem_filter.1 hm).1))
      rw [if_neg this]; exact h.file j hj'
  · rw [hget]
    have hdn : d ≠ nameB k := fun e => name_file k (e ▸ up_dirs hd)
    rw [if_neg hdn]
    by_cases hm : d ∈ lack
    · rw [if_pos hm]
    · rw [if_neg hm]
      rcases List.mem_append.1 hj with hj | hj
      · exact h.dir j hj d hd
      · simp at hj
        subst hj
        have : ¬ (get m d).isNone = true := fun hn => hm (by rw [hlk]; exact List.mem_filter.2 ⟨hd, hn⟩)
        cases hg : get m d with
        | none => rw [hg] at this; exact absurd rfl this
        | some x => rw [h.dirs (up_dirs hd) hg]
  · rw [hget]
    have hk := hp k (by simp)
    rw [if_neg hk.1, if_neg (fun hm => hk.2 (by rw [hlk] at hm; exact (List.mem_filter.1 hm).1))]
    exact h.none p fun j hj => hp j (by simp [hj])
  · rw [len_set, len_make lack ha2 (fun d hd => (ha1 d hd).1)]
    simp only [List.length_append, List.length_cons, List.length_nil]
    split <;> omega
  · dsimp only at hsz
    simp only [List.length_append, List.length_cons, List.length_nil]
    omega
/-- Whoever has the same names has the same files. -/
theorem Names.same {B : Bytes → Bytes} {m n : T} {ks js : List UInt8} (h : Names B m ks) (g : Names B n js) (hs : ∀ k, k ∈ ks ↔ k ∈ js) : m.Perm n := by
  refine perm_ext h.nodup g.nodup fun p => ?_
  by_cases h1 : ∃ k ∈ ks, p = nameB k
  · obtain ⟨k, hk, rfl⟩ := h1
    rw [h.file k hk, g.file k ((hs k).1 hk)]
  · by_cases h2 : ∃ k ∈ ks, p ∈ up k
    · obtain ⟨k, hk, hp⟩ := h2
      rw [h.dir k hk p hp, g.dir k ((hs k).1 hk) p hp]
    · rw [h.none p fun k hk => ⟨fun e => h1 ⟨k, hk, e⟩, fun e => h2 ⟨k, hk, e⟩⟩, g.none p fun k hk => ⟨fun e => h1 ⟨k, (hs k).2 hk, e⟩, fun e => h2 ⟨k, (hs k).2 hk, e⟩⟩]
end Tr
end Go.Proofs.YtmdpmpdlkaogdaaDoor

namespace Go.Proofs.YtmdpmpdlkaogdaaDoor
namespace Tr
open Sp (Cl)

theorem par_in : ∀ (n : Nat) {d e : Bytes}, Cl d → e ∈ par n d → e ≠ [] ∧ Cl e ∧ Sp.within d e = true := by
  intro n
  induction n with
  | zero => intro d e _ h; cases h
  | succ n ih =>
    intro d e hd h
    rw [par_succ] at h
    by_cases h0 : d = []
    · rw [if_pos h0] at h; cases h
    · rw [if_neg h0] at h
      rcases List.mem_cons.1 h with rfl | h
      · exact ⟨h0, hd, Sp.within_refl _⟩
      · obtain ⟨a, b, c⟩ := ih hd.up h
        exact ⟨a, b, Sp.within_trans hd hd.up b (Sp.within_parent hd) c⟩
theorem within_nil {e : Bytes} (h : Sp.within [] e = true) : e = [] := by
  unfold Sp.within at h
  simp only [Bool.or_eq_true, beq_iff_eq] at h
  rcases h with (h | h) | h
  · exact h
  · exact h.symm
  · simp at h
theorem par_all : ∀ (n : Nat) {d e : Bytes}, d.length ≤ n → Cl d → Cl e → e ≠ [] → Sp.within d e = true → e ∈ par n d := by
  intro n
  induction n with
  | zero =>
    intro d e hl hd he h0 h
    have : d = [] := List.eq_nil_of_length_eq_zero (by omega)
    subst this
    exact absurd (within_nil h) h0
  | succ n ih =>
    intro d e hl hd he h0 h
    rw [par_succ]
    by_cases hd0 : d = []
    · subst hd0; exact absurd (within_nil h) h0
    · rw [if_neg hd0]
      by_cases hde : d = e
      · subst hde; simp
      · have := parent_lt hd0
        exact List.mem_cons_of_mem _ (ih (by omega) hd.up he h0 (Sp.within_up hd he h hde))
/-- What aheadF tells. -/
theorem aheadF_some (m : T) : ∀ (n : Nat) (d : Bytes) (l : List Bytes), aheadF m n d = some l → (∀ e ∈ par n d, (∃ b, get m e = some (true, b)) ∨ e ∈ l) ∧ (∀ e ∈ l, e ∈ par n d ∧ get m e = none) := by
  intro n
  induction n with
  | zero => intro d l h; cases h; exact ⟨fun e he => (by cases he), fun e he => (by cases he)⟩
  | succ n ih =>
    intro d l h
    rw [aheadF_succ] at h
    rw [par_succ]
    by_cases h0 : d = []
    · rw [if_pos h0] at h ⊢; cases h; exact ⟨fun e he => (by cases he), fun e he => (by cases he)⟩
    · rw [if_neg h0] at h ⊢
      cases hg : get m d with
      | none =>
        rw [hg] at h
        cases hr : aheadF m n (Sp.parent d) with
        | none => rw [hr] at h; cases h
        | some r =>
          rw [hr] at h
          cases h
          obtain ⟨h1, h2⟩ := ih _ _ hr
          refine ⟨fun e he => ?_, fun e he => ?_⟩
          · rcases List.mem_cons.1 he with rfl | he
            · exact .inr (by simp)
            · exact (h1 e he).imp id (List.mem_cons_of_mem _)
          · rcases List.mem_cons.1 he with rfl | he
            · exact ⟨by simp, hg⟩
            · exact ⟨List.mem_cons_of_mem _ (h2 e he).1, (h2 e he).2⟩
      | some x =>
        rw [hg] at h
        obtain ⟨b, y⟩ := x
        simp only at h
        split at h
        · rename_i hb
          subst hb
          obtain ⟨h1, h2⟩ := ih _ _ h
          refine ⟨fun e he => ?_, fun e he => ⟨List.mem_cons_of_mem _ (h2 e he).1, (h2 e he).2⟩⟩
          rcases List.mem_cons.1 he with rfl | he
          · exact .inl ⟨_, hg⟩
          · exact h1 e he
        · cases h
theorem aheadF_none (m : T) : ∀ (n : Nat) (d : Bytes), aheadF m n d = none → ∃ e ∈ par n d, ∃ b, get m e = some (false, b) := by
  intro n
  induction n with
  | zero => intro d h; cases h
  | succ n ih =>
    intro d h
    rw [aheadF_succ] at h
    rw [par_succ]
    by_cases h0 : d = []
    · rw [if_pos h0] at h; cases h
    · rw [if_neg h0] at h ⊢
      cases hg : get m d with
      | none =>
        rw [hg] at h
        cases hr : aheadF m n (Sp.parent d) with
        | none =>
          obtain ⟨e, he, hb⟩ := ih _ hr
          exact ⟨e, List.mem_cons_of_mem _ he, hb⟩
        | some r => rw [hr] at h; cases h
      | some x =>
        rw [hg] at h
        obtain ⟨b, y⟩ := x
        simp only at h
        split at h
        · obtain ⟨e, he, hb⟩ := ih _ h
          exact ⟨e, List.mem_cons_of_mem _ he, hb⟩
        · rename_i hb
          refine ⟨d, by simp, y, ?_⟩
          rw [hg]
          cases b
          · rfl
          · exact absurd rfl hb
/-- A path above another one. -/
def Above (e p : Bytes) : Prop := e ≠ [] ∧ Cl e ∧ Sp.within p e = true ∧ e ≠ p
theorem Above.lt {e p : Bytes} (h : Above e p) : e.length < p.length := by
  have h1 := within_len h.2.2.1
  rcases Nat.lt_or_ge e.length p.length with h2 | h2
  · exact h2
  · obtain ⟨h0, -, hw, hne⟩ := h
    unfold Sp.within at hw
    simp only [Bool.or_eq_true, beq_iff_eq] at hw
    rcases hw with (hw | hw) | hw
    · exact absurd hw h0
    · exact absurd hw.symm hne
    · have := (List.isPrefixOf_iff_prefix.1 hw).length_le
      simp at this; omega
theorem Above.par {e p : Bytes} (hp : Cl p) : Above e p ↔ e ∈ par p.length (Sp.parent p) := by
  constructor
  · rintro ⟨h0, he, hw, hne⟩
    exact par_all _ (parent_le p) hp.up he h0 (Sp.within_up hp he hw (fun x => hne x.symm))
  · intro h
    obtain ⟨h0, he, hw⟩ := par_in _ hp.up h
    have hp0 : p ≠ [] := by intro e0; subst e0; exact h0 (within_nil hw)
    refine ⟨h0, he, Sp.within_trans hp hp.up he (Sp.within_parent hp) hw, ?_⟩
    have h1 := within_len hw
    have h2 := parent_lt hp0
    intro e0; subst e0; omega
theorem Above.trans {a b c : Bytes} (hb : Cl b) (hc : Cl c) (h : Above a b) (g : Above b c) : Above a c := by
  have h1 := h.lt
  have h2 := g.lt
  exact ⟨h.1, h.2.1, Sp.within_trans hc hb h.2.1 g.2.2.1 h.2.2.1, fun e => by subst e; omega⟩
theorem Above.parent {p : Bytes} (hp : Cl p) (h0 : Sp.parent p ≠ []) : Above (Sp.parent p) p := by
  have hp0 : p ≠ [] := by intro e; subst e; exact h0 rfl
  have := parent_lt hp0
  exact ⟨h0, hp.up, Sp.within_parent hp, fun e => by rw [e] at this; omega⟩
theorem Above.up {e p : Bytes} (hp : Cl p) (h : Above e p) : e = Sp.parent p ∨ Above e (Sp.parent p) := by
  have := Sp.within_up hp h.2.1 h.2.2.1 (fun x => h.2.2.2 x.symm)
  by_cases he : e = Sp.parent p
  · exact .inl he
  · exact .inr ⟨h.1, h.2.1, this, he⟩
theorem ahead_some {m : T} {p : Bytes} {l : List Bytes} (hp : Cl p) (h : ahead m p = some l) : (∀ e, Above e p → (∃ b, get m e = some (true, b)) ∨ e ∈ l) ∧ (∀ e ∈ l, Above e p ∧ get m e = none) := by
  obtain ⟨h1, h2⟩ := aheadF_some m _ _ _ h
  exact ⟨fun e he => h1 e ((Above.par hp).1 he), fun e he => ⟨(Above.par hp).2 (h2 e he).1, (h2 e he).2⟩⟩
theorem ahead_none {m : T} {p : Bytes} (hp : Cl p) (h : ahead m p = none) : ∃ e, Above e p ∧ ∃ b, get m e = some (false, b) := by
  obtain ⟨e, he, hb⟩ := aheadF_none m _ _ h
  exact ⟨e, (Above.par hp).2 he, hb⟩
theorem ahead_of {m : T} {p : Bytes} (hp : Cl p) (h : ∀ e, Above e p → ∀ b, get m e ≠ some (false, b)) : ∃ l, ahead m p = some l := by
  cases ha : ahead m p with
  | some l => exact ⟨l, rfl⟩
  | none =>
    obtain ⟨e, he, b, hb⟩ := ahead_none hp ha
    exact absurd hb (h e he b)

/-- What is so of all that stands in a tree. -/
def Sound (m : T) (k : Bytes) (x : Nd) : Prop := k ≠ [] ∧ Cl k ∧ (Sp.parent k = [] ∨ ∃ b, get m (Sp.parent k) = some (true, b)) ∧ (x.1 = true → x.2 = []) ∧ x.2.length ≤ 65536
theorem Ok.mk' {m : T} (hn : (m.map (·.1)).Nodup) (h : ∀ k x, get m k = some x → Sound m k x) (hl : m.length ≤ 500) (hb : size m ≤ 1048576) : Ok m :=
  ⟨hn, fun p hp => ⟨(h p.1 p.2 (mem_get hn hp)).1, (h p.1 p.2 (mem_get hn hp)).2.1.clean⟩, fun p hp => (h p.1 p.2 (mem_get hn hp)).2.2.1, fun p hp => (h p.1 p.2 (mem_get hn hp)).2.2.2.1, fun p hp => (h p.1 p.2 (mem_get hn hp)).2.2.2.2, hl, hb⟩
theorem Ok.sound {m : T} (h : Ok m) {k : Bytes} {x : Nd} (hg : get m k = some x) : Sound m k x := by
  have hm := get_mem hg
  exact ⟨(h.cleaned _ hm).1, Cl.of (h.cleaned _ hm).2, h.up _ hm, h.dir _ hm, h.max _ hm⟩
theorem Ok.is_dir {m : T} (h : Ok m) {k : Bytes} {b : Bytes} (hg : get m k = some (true, b)) : get m k = some (true, []) := by
  have := (h.sound hg).2.2.2.1 rfl
  dsimp only at this
  subst this; exact hg
/-- All above what stands are directories. -/
theorem Ok.above {m : T} (h : Ok m) : ∀ (n : Nat) {k e : Bytes} {x : Nd}, k.length ≤ n → get m k = some x → Above e k → get m e = some (true, []) := by
  intro n
  induction n with
  | zero =>
    intro k e x hl hg ha
    have := ha.lt; omega
  | succ n ih =>
    intro k e x hl hg ha
    obtain ⟨h0, hc, hu, -⟩ := h.sound hg
    have hlt := parent_lt h0
    rcases hu with hu | ⟨b, hu⟩
    · rcases ha.up hc with e1 | e1
      · exact absurd (e1.trans hu) ha.1
      · rw [hu] at e1; exact absurd (within_nil e1.2.2.1) e1.1
    · rcases ha.up hc with e1 | e1
      · rw [e1]; exact h.is_dir hu
      · exact ih (by omega) hu e1
theorem Ok.abv {m : T} (h : Ok m) {k e : Bytes} {x : Nd} (hg : get m k = some x) (ha : Above e k) : get m e = some (true, []) := h.above _ (Nat.le_refl _) hg ha
/-- What isn't there has nothing below it. -/
theorem Ok.bare {m : T} (h : Ok m) {p k : Bytes} (hp : Cl p) (h0 : p ≠ []) (hg : get m p = none) (hw : Sp.within k p = true) : get m k = none := by
  cases hk : get m k with
  | none => rfl
  | some x =>
    by_cases e : p = k
    · subst e; rw [hg] at hk; cases hk
    · rw [h.abv hk ⟨h0, hp, hw, e⟩] at hg; cases hg

/-- One thing more, with the directories ahead of it. -/
theorem Ok.add {m : T} (h : Ok m) {p : Bytes} {lack : List Bytes} {x : Nd} (hp : Cl p) (h0 : p ≠ []) (ha : ahead m p = some lack) (hold : ∀ y, get m p = some y → y.1 = x.1) (hx : x.1 = true → x.2 = []) (hmax : x.2.length ≤ 65536)
    (hlen : (set (make m lack) p x).length ≤ 500) (hbytes : size (set (make m lack) p x) ≤ 1048576) : Ok (set (make m lack) p x) := by
  obtain ⟨a1, a2⟩ := ahead_some hp ha
  have hget : ∀ j, get (set (make m lack) p x) j = if j = p then some x else if j ∈ lack then some (true, []) else get m j := fun j => by rw [get_set, get_make]
  have habv : ∀ e, Above e p → ∃ b, get (set (make m lack) p x) e = some (true, b) := fun e he => by
    rw [hget, if_neg he.2.2.2]
    rcases a1 e he with ⟨b, hb⟩ | hl
    · by_cases hl : e ∈ lack
      · exact ⟨[], by rw [if_pos hl]⟩
      · exact ⟨b, by rw [if_neg hl]; exact hb⟩
    · exact ⟨[], by rw [if_pos hl]⟩
  have hpar : ∀ k, Cl k → (k = p ∨ Above k p) → Sp.parent k = [] ∨ ∃ b, get (set (make m lack) p x) (Sp.parent k) = some (true, b) := fun k hk hh => by
    by_cases hk0 : Sp.parent k = []
    · exact .inl hk0
    · right
      rcases hh with rfl | hh
      · exact habv _ (Above.parent hk hk0)
      · exact habv _ (Above.trans hk hp (Above.parent hk hk0) hh)
  refine Ok.mk' (nodup_set _ _ (nodup_make _ h.nodup)) (fun k y hk => ?_) hlen hbytes
  have hk' := hk
  rw [hget] at hk
  by_cases e1 : k = p
  · rw [if_pos e1] at hk
    cases hk
    subst e1
    exact ⟨h0, hp, hpar _ hp (.inl rfl), hx, hmax⟩
  · rw [if_neg e1] at hk
    by_cases e2 : k ∈ lack
    · rw [if_pos e2] at hk
      cases hk
      have hab := (a2 k e2).1
      exact ⟨hab.1, hab.2.1, hpar k hab.2.1 (.inr hab), fun _ => rfl, by simp⟩
    · rw [if_neg e2] at hk
      obtain ⟨s1, s2, s3, s4, s5⟩ := h.sound hk
      refine ⟨s1, s2, ?_, s4, s5⟩
      rcases s3 with s3 | ⟨b, s3⟩
      · exact .inl s3
      · right
        rw [hget]
        by_cases e3 : Sp.parent k = p
        · rw [if_pos e3]
          rw [e3] at s3
          have := hold _ s3
          obtain ⟨x1, x2⟩ := x
          dsimp only at this
          exact ⟨x2, by rw [this]⟩
        · rw [if_neg e3]
          by_cases e4 : Sp.parent k ∈ lack
          · exact ⟨[], by rw [if_pos e4]⟩
          · exact ⟨b, by rw [if_neg e4]; exact s3⟩
theorem len_add {m : T} {p : Bytes} {lack : List Bytes} (x : Nd) (hp : p ≠ []) (ha : ahead m p = some lack) : (set (make m lack) p x).length = m.length + lack.length + if (get m p).isSome then 0 else 1 := by
  obtain ⟨h1, h2⟩ := ahead_spec ha
  rw [len_set, get_make, len_make lack h2 (fun d hd => (h1 d hd).1)]
  have hpl : p ∉ lack := fun hm => by have := (h1 p hm).2.2 hp; omega
  rw [if_neg hpl]
/-- Where a file is, nothing lacks ahead of it. -/
theorem Ok.ahead_nil {m : T} (h : Ok m) {p : Bytes} {x : Nd} (hg : get m p = some x) : ahead m p = some [] := by
  have hc := (h.sound hg).2.1
  obtain ⟨l, hl⟩ := ahead_of hc (fun e he b hb => by rw [h.abv hg he] at hb; cases hb)
  rw [hl]
  obtain ⟨-, a2⟩ := ahead_some hc hl
  cases l with
  | nil => rfl
  | cons e l =>
    obtain ⟨ha, hn⟩ := a2 e (by simp)
    rw [h.abv hg ha] at hn; cases hn
theorem room_spec {m : T} {f b : Int} (h : room m f b = true) : f ≤ 500 - m.length ∧ b ≤ 1048576 - size m := by
  unfold room at h
  simp only [Bool.and_eq_true, decide_eq_true_eq] at h
  exact h
theorem Ok.put {m : T} (h : Ok m) (s b : Bytes) (more : Bool) : Ok (put m s b more).1 := by
  by_cases h0 : (Sp.clean s).2 ≠ 0
  · rw [put_err h0]; exact h
  have hcl := Sp.clean_cl (s := s) (by simpa using h0)
  obtain ⟨ox, hox⟩ : ∃ ox, at_ m (Sp.clean s).1 = ox := ⟨_, rfl⟩
  by_cases hd : ∀ x, ox = some x → x.1 = false
  · cases ha : ahead m (Sp.clean s).1 with
    | none => rw [put_kind h0 ha]; exact h
    | some lack =>
      obtain ⟨hp, hput⟩ := put_ok (b := b) (more := more) h0 hox hd ha
      rw [hput]
      split
      · exact h
      · rename_i hr
        simp only [not_or, Bool.not_eq_false] at hr
        obtain ⟨hr1, hr2⟩ := hr
        obtain ⟨r1, r2⟩ := room_spec hr2
        have hg : get m (Sp.clean s).1 = ox := by unfold at_ at hox; rwa [if_neg hp] at hox
        have hsz := size_put h.nodup ha hp (false, putB ox b more)
        have hln := len_add (false, putB ox b more) hp ha
        have hl := h.len
        refine h.add hcl hp ha (fun y hy => by rw [hg] at hy; exact hd y hy) (fun e => by cases e) (by dsimp only; omega) ?_ ?_
        · rw [hln, hg]
          cases ox with
          | none => simp only [putN] at r1; simp; omega
          | some x =>
            have := h.ahead_nil hg
            rw [ha] at this
            cases this
            simpa using hl
        · dsimp only at hsz ⊢; omega
  · have ⟨x, hx, hx1⟩ : ∃ x, ox = some x ∧ x.1 = true := by
      cases ox with
      | none => exact absurd (fun x h => by cases h) hd
      | some x =>
        refine ⟨x, rfl, ?_⟩
        cases hh : x.1 with
        | true => rfl
        | false => exact absurd (fun y hy => by cases hy; exact hh) hd
    rw [put_dir h0 (hox.trans hx) hx1]; exact h
theorem Ok.write {m : T} (h : Ok m) (s b : Bytes) : Ok (write m s b).1 := h.put s b false
theorem Ok.append {m : T} (h : Ok m) (s b : Bytes) : Ok (append m s b).1 := h.put s _ true
theorem at_none {m : T} {p : Bytes} (h : at_ m p = none) : p ≠ [] ∧ get m p = none := by
  unfold at_ at h
  split at h
  · cases h
  · rename_i hp; exact ⟨hp, h⟩
theorem Ok.mkdir {m : T} (h : Ok m) (s : Bytes) : Ok (mkdir m s).1 := by
  unfold Tr.mkdir
  split
  · exact h
  rename_i h0
  have hcl := Sp.clean_cl (s := s) (by simpa using h0)
  dsimp only
  split
  · split <;> exact h
  · rename_i hat
    obtain ⟨hp, hg⟩ := at_none hat
    split
    · exact h
    · rename_i lack ha
      split
      · exact h
      · rename_i hr
        simp only [Bool.not_eq_false] at hr
        obtain ⟨r1, r2⟩ := room_spec hr
        rw [make_snoc]
        have hsz := size_put h.nodup ha hp (true, [])
        have hln := len_add (true, []) hp ha
        have hb := h.bytes
        refine h.add hcl hp ha (fun y hy => by rw [hg] at hy; cases hy) (fun _ => rfl) (by simp) ?_ ?_
        · rw [hln, hg]; simp; omega
        · simp [old, hg] at hsz; omega
theorem get_drop (l : List Bytes) : ∀ (m : T) (j : Bytes), get (drop m l) j = if j ∈ l then none else get m j := by
  induction l with
  | nil => intro m j; simp [drop]
  | cons k l ih =>
    intro m j
    show get (drop (del m k) l) j = _
    rw [ih, get_del]
    by_cases h1 : j ∈ l
    · simp [h1]
    · by_cases h2 : j = k
      · simp [h2]
      · simp [h1, h2]
theorem nodup_drop (l : List Bytes) : ∀ {m : T}, (m.map (·.1)).Nodup → ((drop m l).map (·.1)).Nodup := by
  induction l with
  | nil => intro m h; exact h
  | cons k l ih => intro m h; exact ih (nodup_del _ h)
theorem len_drop (l : List Bytes) : ∀ (m : T), (drop m l).length ≤ m.length := by
  induction l with
  | nil => intro m; exact Nat.le_refl _
  | cons k l ih => intro m; exact Nat.le_trans (ih (del m k)) (List.length_filter_le _ _)
theorem get_cut {m : T} (p j : Bytes) : get (drop m (below m p)) j = if Sp.within j p = true then none else get m j := by
  rw [get_drop]
  by_cases hw : Sp.within j p = true
  · rw [if_pos hw]
    split
    · rfl
    · rename_i hb
      cases hg : get m j with
      | none => rfl
      | some x => exact absurd (mem_below.2 ⟨List.mem_map.2 ⟨_, get_mem hg, rfl⟩, hw⟩) hb
  · rw [if_neg hw, if_neg]
    intro hb
    exact hw (mem_below.1 hb).2
/-- Whose parent is at or below p, is so too. -/
theorem within_of_parent {k p : Bytes} (hk : Cl k) (hp : Cl p) (h : Sp.within (Sp.parent k) p = true) : Sp.within k p = true := Sp.within_trans hk hk.up hp (Sp.within_parent hk) h
theorem Ok.remove {m : T} (h : Ok m) (s : Bytes) : Ok (remove m s).1 := by
  unfold Tr.remove
  split
  · exact h
  rename_i h0
  have hcl := Sp.clean_cl (s := s) (by simpa using h0)
  dsimp only
  split
  · exact h
  split
  · exact h
  dsimp only
  refine Ok.mk' (nodup_drop _ h.nodup) (fun k x hk => ?_) (Nat.le_trans (len_drop _ _) h.len) (Nat.le_trans (drop_size_le _ _ h.nodup) h.bytes)
  rw [get_cut] at hk
  split at hk
  · cases hk
  rename_i hw
  obtain ⟨s1, s2, s3, s4, s5⟩ := h.sound hk
  refine ⟨s1, s2, s3.imp id fun ⟨b, hb⟩ => ⟨b, ?_⟩, s4, s5⟩
  rw [get_cut, if_neg (fun e => hw (within_of_parent s2 hcl e))]
  exact hb
end Tr
end Go.Proofs.YtmdpmpdlkaogdaaDoor

namespace Go.Proofs.YtmdpmpdlkaogdaaDoor
namespace Sp
theorem within_iff {j q : Bytes} (hq : q ≠ []) : within j q = true ↔ ∃ r, j = q ++ r ∧ (r = [] ∨ r.head? = some 47) := by
  unfold within
  simp only [Bool.or_eq_true, beq_iff_eq]
  constructor
  · rintro ((h | h) | h)
    · exact absurd h hq
    · exact ⟨[], by simp [h], .inl rfl⟩
    · obtain ⟨t, ht⟩ := List.isPrefixOf_iff_prefix.1 h
      exact ⟨47 :: t, by rw [← ht]; simp, .inr rfl⟩
  · rintro ⟨r, rfl, hr⟩
    rcases hr with rfl | hr
    · exact .inl (.inr (by simp))
    · cases r with
      | nil => cases hr
      | cons c r =>
        simp only [List.head?_cons, Option.some.injEq] at hr
        subst hr
        exact .inr (List.isPrefixOf_iff_prefix.2 ⟨r, by simp⟩)
theorem moved_within {p q k : Bytes} (hp : p ≠ []) (hq : q ≠ []) (h : within k p = true) : within (moved p.length q k) q = true ∧ moved q.length p (moved p.length q k) = k := by
  obtain ⟨r, rfl, hr⟩ := (within_iff hp).1 h
  unfold moved
  rw [List.drop_left, List.drop_left]
  exact ⟨(within_iff hq).2 ⟨r, rfl, hr⟩, rfl⟩
theorem moved_self (p q : Bytes) : moved p.length q p = q := by simp [moved]
theorem moved_parts {p q k : Bytes} (hp : Cl p) (hq : Cl q) (hk : Cl k) (hp0 : p ≠ []) (hq0 : q ≠ []) (h : within k p = true) : ∃ lp lq t, p = glue lp ∧ q = glue lq ∧ k = glue (lp ++ t) ∧ Goods (lp ++ t) ∧ Goods (lq ++ t) ∧ lp ≠ [] ∧ lq ≠ [] ∧ moved p.length q k = glue (lq ++ t) := by
  obtain ⟨lp, rfl, gp, -⟩ := hp
  obtain ⟨lq, rfl, gq, -⟩ := hq
  obtain ⟨lk, rfl, gk, -⟩ := hk
  obtain ⟨t, rfl⟩ := (within_glue gk gp).1 h
  have h1 : lp ≠ [] := fun e => hp0 (by rw [e]; rfl)
  have h2 : lq ≠ [] := fun e => hq0 (by rw [e]; rfl)
  exact ⟨lp, lq, t, rfl, rfl, rfl, gk, gq.app gk.right, h1, h2, moved_glue h1 h2⟩
theorem clean_moved {p q k : Bytes} (hp : Cl p) (hq : Cl q) (hk : Cl k) (hp0 : p ≠ []) (hq0 : q ≠ []) (h : within k p = true) :
    (Cl (moved p.length q k) ∧ clean (moved p.length q k) = (moved p.length q k, 0)) ∨ (¬ Cl (moved p.length q k) ∧ clean (moved p.length q k) = ([], 50)) := by
  obtain ⟨lp, lq, t, rfl, rfl, rfl, g1, g2, -, -, e⟩ := moved_parts hp hq hk hp0 hq0 h
  rw [e, clean_glue g2]
  by_cases hc : 200 < (glue (lq ++ t)).length ∨ 12 < (lq ++ t).length
  · rw [if_pos hc]
    refine .inr ⟨?_, rfl⟩
    rintro ⟨l, e1, g, h1, h2⟩
    have := glue_inj g2 g e1
    subst this; omega
  · rw [if_neg hc]
    exact .inl ⟨⟨_, rfl, g2, by omega, by omega⟩, rfl⟩
theorem moved_parent {p q k : Bytes} (hp : Cl p) (hq : Cl q) (hk : Cl k) (hp0 : p ≠ []) (hq0 : q ≠ []) (h : within k p = true) (hne : k ≠ p) : parent (moved p.length q k) = moved p.length q (parent k) := by
  obtain ⟨lp, lq, t, rfl, rfl, rfl, g1, g2, h1, h2, e⟩ := moved_parts hp hq hk hp0 hq0 h
  have ht : t ≠ [] := by intro e; subst e; simp at hne
  obtain ⟨t, x, rfl⟩ := snoc_of ht
  have hx : (47 : UInt8) ∉ x := g1.no x (by simp)
  rw [e, ← List.append_assoc, ← List.append_assoc, parent_glue hx, parent_glue hx, moved_glue h1 h2]
end Sp
namespace Tr
open Sp (Cl moved)

theorem dests_eq {p q : Bytes} (hp : Cl p) (hq : Cl q) (hp0 : p ≠ []) (hq0 : q ≠ []) : ∀ l, (∀ k ∈ l, Cl k ∧ Sp.within k p = true) →
    ((∀ k ∈ l, Cl (moved p.length q k)) ∧ dests p.length q l = (l.map (moved p.length q), 0)) ∨ ((∃ k ∈ l, ¬ Cl (moved p.length q k)) ∧ dests p.length q l = ([], 50)) := by
  intro l
  induction l with
  | nil => intro _; exact .inl ⟨fun k h => (by cases h), rfl⟩
  | cons k l ih =>
    intro h
    obtain ⟨hk, hw⟩ := h k (by simp)
    have ih := ih fun j hj => h j (List.mem_cons_of_mem _ hj)
    have hd := dests_cons p.length q k l
    rw [show q ++ k.drop p.length = moved p.length q k from rfl] at hd
    rw [hd]
    rcases Sp.clean_moved hp hq hk hp0 hq0 hw with ⟨c1, c2⟩ | ⟨c1, c2⟩
    · rw [c2, if_neg (by simp)]
      rcases ih with ⟨i1, i2⟩ | ⟨i1, i2⟩
      · rw [i2, if_neg (by simp)]
        refine .inl ⟨fun j hj => ?_, rfl⟩
        rcases List.mem_cons.1 hj with rfl | hj
        · exact c1
        · exact i1 j hj
      · rw [i2, if_pos (by simp)]
        obtain ⟨j, hj, hn⟩ := i1
        exact .inr ⟨⟨j, List.mem_cons_of_mem _ hj, hn⟩, rfl⟩
    · rw [c2, if_pos (by simp)]
      exact .inr ⟨⟨k, by simp, c1⟩, rfl⟩

/-- What a plan says. -/
structure Planned (m : T) (p q : Bytes) (v : Move) : Prop where
  hp : Cl p
  hq : Cl q
  p0 : p ≠ []
  q0 : q ≠ []
  src : v.src = below m p
  here : ∃ x, get m p = some x
  out : Sp.within q p = false
  free : get m q = none
  ahead : ahead m q = some v.lack
  dst : v.dst = v.src.map (moved p.length q)
  cl : ∀ k ∈ v.src, Cl (moved p.length q k)
  bytes : v.bytes = (v.src.map fun k => old m k).sum
theorem Ok.planned {m : T} (h : Ok m) {s d : Bytes} {v : Move} {e : Int} (hp : plan m s d = (some v, e)) : Planned m (Sp.clean s).1 (Sp.clean d).1 v := by
  obtain ⟨-, h1, h2, h3, h4, h5, h6, h7, h8, h9, h10⟩ := plan_spec hp
  obtain ⟨q0, hq⟩ := at_none h10
  have cp := Sp.clean_cl h5
  have cq := Sp.clean_cl h6
  have hsrc : ∀ k ∈ v.src, Cl k ∧ Sp.within k (Sp.clean s).1 = true := fun k hk => by
    rw [h1] at hk
    obtain ⟨k1, k2⟩ := mem_below.1 hk
    obtain ⟨x, hx, rfl⟩ := List.mem_map.1 k1
    exact ⟨Cl.of (h.cleaned x hx).2, k2⟩
  have hd := dests_eq cp cq h8 q0 v.src hsrc
  rw [h2] at hd
  have hd' := hd.resolve_right fun ⟨_, e⟩ => absurd (congrArg Prod.snd e) (by simp)
  refine ⟨cp, cq, h8, q0, h1, ?_, h9, hq, h3, (Prod.mk.inj hd'.2).1, hd'.1, h4⟩
  unfold Tr.at_ at h7
  rw [if_neg h8] at h7
  exact Option.isSome_iff_exists.1 h7

theorem get_copyL (f : Bytes → Bytes) : ∀ (l : List Bytes) (m : T), (∀ k ∈ l, ∀ j ∈ l, f k ≠ j) → (l.map f).Nodup →
    (∀ k ∈ l, get (copyL m l (l.map f)) (f k) = some ((get m k).getD (true, []))) ∧ ∀ j, j ∉ l.map f → get (copyL m l (l.map f)) j = get m j := by
  intro l
  induction l with
  | nil => intro m _ _; exact ⟨fun k h => (by cases h), fun j _ => rfl⟩
  | cons k l ih =>
    intro m h hn
    rw [List.map_cons, List.nodup_cons] at hn
    rw [List.map_cons, copyL_cons]
    obtain ⟨i1, i2⟩ := ih (set m (f k) ((get m k).getD (true, []))) (fun a ha b hb => h a (List.mem_cons_of_mem _ ha) b (List.mem_cons_of_mem _ hb)) hn.2
    constructor
    · intro a ha
      rcases List.mem_cons.1 ha with rfl | ha
      · rw [i2 _ hn.1, get_set, if_pos rfl]
      · rw [i1 a ha, get_set, if_neg (fun e => h k (by simp) a (List.mem_cons_of_mem _ ha) e.symm)]
    · intro j hj
      rw [List.mem_cons, not_or] at hj
      rw [i2 j hj.2, get_set, if_neg hj.1]
theorem size_copyL (f : Bytes → Bytes) : ∀ (l : List Bytes) (m : T), (m.map (·.1)).Nodup → (∀ k ∈ l, ∀ j ∈ l, f k ≠ j) → (l.map f).Nodup → (∀ k ∈ l, get m (f k) = none) →
    size (copyL m l (l.map f)) = size m + (l.map fun k => old m k).sum ∧ (copyL m l (l.map f)).length = m.length + l.length := by
  intro l
  induction l with
  | nil => intro m _ _ _ _; exact ⟨rfl, rfl⟩
  | cons k l ih =>
    intro m hm h hn hg
    rw [List.map_cons, List.nodup_cons] at hn
    rw [List.map_cons, copyL_cons]
    have hne : ∀ a ∈ l, f a ≠ f k := fun a ha e => hn.1 (e ▸ List.mem_map.2 ⟨a, ha, rfl⟩)
    have hgk := hg k (by simp)
    obtain ⟨i1, i2⟩ := ih (set m (f k) ((get m k).getD (true, []))) (nodup_set _ _ hm) (fun a ha b hb => h a (List.mem_cons_of_mem _ ha) b (List.mem_cons_of_mem _ hb)) hn.2 (fun a ha => by
      rw [get_set, if_neg (hne a ha)]; exact hg a (List.mem_cons_of_mem _ ha))
    have hs := size_set hm (f k) ((get m k).getD (true, []))
    have hl := len_set m (f k) ((get m k).getD (true, []))
    rw [hgk] at hl
    have ho : (l.map fun a => old (set m (f k) ((get m k).getD (true, []))) a) = l.map fun a => old m a := List.map_congr_left fun a ha => by
      unfold old
      rw [get_set, if_neg (fun e => h k (by simp) a (List.mem_cons_of_mem _ ha) e.symm)]
    rw [ho] at i1
    have hok : old m (f k) = 0 := by unfold old; rw [hgk]; rfl
    have hkk : old m k = ((get m k).getD (true, [])).2.length := rfl
    simp only [List.map_cons, List.sum_cons, List.length_cons]
    simp at hl
    omega
theorem size_drop : ∀ (l : List Bytes) {m : T}, (m.map (·.1)).Nodup → l.Nodup → (∀ k ∈ l, (get m k).isSome = true) → size (drop m l) + (l.map fun k => old m k).sum = size m ∧ (drop m l).length + l.length = m.length := by
  intro l
  induction l with
  | nil => intro m _ _ _; exact ⟨rfl, rfl⟩
  | cons k l ih =>
    intro m hm hn hg
    rw [List.nodup_cons] at hn
    have hne : ∀ a ∈ l, a ≠ k := fun a ha e => hn.1 (e ▸ ha)
    obtain ⟨i1, i2⟩ := ih (m := del m k) (nodup_del _ hm) hn.2 (fun a ha => by rw [get_del, if_neg (hne a ha)]; exact hg a (List.mem_cons_of_mem _ ha))
    have ho : (l.map fun a => old (del m k) a) = l.map fun a => old m a := List.map_congr_left fun a ha => by
      unfold old
      rw [get_del, if_neg (hne a ha)]
    rw [ho] at i1
    have hs := size_del hm k
    have hl : (del m k).length + 1 = m.length := by
      have hk := hg k (by simp)
      clear ih i1 i2 ho hs hg
      induction m with
      | nil => cases hk
      | cons p m ihm =>
        rw [List.map_cons, List.nodup_cons] at hm
        unfold del
        rw [List.filter_cons]
        by_cases hp : p.1 = k
        · have h1 : List.filter (fun p => !(p.1 == k)) m = m := List.filter_eq_self.2 fun q hq => by
            have : q.1 ≠ k := fun e => hm.1 (by rw [hp, ← e]; exact List.mem_map.2 ⟨q, hq, rfl⟩)
            simpa using this
          have : (!(p.1 == k)) = false := by simpa using hp
          rw [this, if_neg (by simp), h1]; rfl
        · have : (!(p.1 == k)) = true := by simpa using hp
          rw [this, if_pos rfl, List.length_cons, List.length_cons]
          rw [get_cons, if_neg hp] at hk
          have := ihm hm.2 hk
          unfold del at this
          omega
    show size (drop (del m k) l) + _ = _ ∧ (drop (del m k) l).length + _ = _
    simp only [List.map_cons, List.sum_cons, List.length_cons]
    omega

section planned
variable {m : T} {p q : Bytes} {v : Move} (h : Ok m) (P : Planned m p q v)
include h P
theorem Planned.mem {k : Bytes} : k ∈ v.src ↔ (∃ x, get m k = some x) ∧ Sp.within k p = true := by
  rw [P.src, mem_below]
  constructor
  · rintro ⟨h1, h2⟩
    refine ⟨?_, h2⟩
    obtain ⟨x, hx, rfl⟩ := List.mem_map.1 h1
    exact ⟨x.2, mem_get h.nodup hx⟩
  · rintro ⟨⟨x, hx⟩, h2⟩
    exact ⟨List.mem_map.2 ⟨_, get_mem hx, rfl⟩, h2⟩
/-- Nothing stands where it comes to. -/
theorem Planned.new {j : Bytes} (hw : Sp.within j q = true) : get m j = none := h.bare P.hq P.q0 P.free hw
omit h in
theorem Planned.lack_out {j : Bytes} (hj : j ∈ v.lack) : Sp.within j q = false := by
  obtain ⟨-, a2⟩ := ahead_some P.hq P.ahead
  have := (a2 j hj).1.lt
  cases hw : Sp.within j q with
  | false => rfl
  | true => have := within_len hw; omega
theorem Planned.inj : (v.src.map (moved p.length q)).Nodup ∧ (∀ k ∈ v.src, ∀ j ∈ v.src, moved p.length q k ≠ j) ∧ ∀ k ∈ v.src, get (make m v.lack) (moved p.length q k) = none := by
  refine ⟨?_, fun k hk j hj e => ?_, fun k hk => ?_⟩
  · have hn : v.src.Nodup := by rw [P.src]; exact nodup_below h.nodup
    unfold List.Nodup at hn ⊢
    rw [List.pairwise_map]
    refine hn.imp_of_mem fun {a b} ha hb hne e => hne ?_
    have h1 := (Sp.moved_within P.p0 P.q0 ((P.mem h).1 ha).2).2
    have h2 := (Sp.moved_within P.p0 P.q0 ((P.mem h).1 hb).2).2
    rw [← h1, e, h2]
  · have h1 := (Sp.moved_within P.p0 P.q0 ((P.mem h).1 hk).2).1
    rw [e] at h1
    obtain ⟨⟨x, hx⟩, -⟩ := (P.mem h).1 hj
    rw [P.new h h1] at hx; cases hx
  · have h1 := (Sp.moved_within P.p0 P.q0 ((P.mem h).1 hk).2).1
    rw [get_make, if_neg (fun hm => by rw [P.lack_out hm] at h1; cases h1), P.new h h1]
theorem Planned.get (j : Bytes) : Tr.get (copy m v) j = if Sp.within j q = true then Tr.get m (moved q.length p j) else if j ∈ v.lack then some (true, []) else Tr.get m j := by
  obtain ⟨n1, n2, n3⟩ := P.inj h
  unfold Tr.copy
  rw [P.dst]
  obtain ⟨g1, g2⟩ := get_copyL (moved p.length q) v.src (make m v.lack) n2 n1
  obtain ⟨-, a2⟩ := ahead_some P.hq P.ahead
  have hmake : ∀ k ∈ v.src, Tr.get (make m v.lack) k = Tr.get m k := fun k hk => by
    rw [get_make, if_neg]
    intro hl
    obtain ⟨⟨x, hx⟩, -⟩ := (P.mem h).1 hk
    rw [(a2 k hl).2] at hx; cases hx
  by_cases hw : Sp.within j q = true
  · rw [if_pos hw]
    obtain ⟨b1, b2⟩ := Sp.moved_within P.q0 P.p0 hw
    cases hk : Tr.get m (moved q.length p j) with
    | some x =>
      have hs : moved q.length p j ∈ v.src := (P.mem h).2 ⟨⟨x, hk⟩, b1⟩
      have := g1 _ hs
      rw [b2, hmake _ hs, hk] at this
      exact this
    | none =>
      rw [g2 j (fun hm => ?_), get_make, if_neg (fun hl => by rw [P.lack_out hl] at hw; cases hw), P.new h hw]
      obtain ⟨k, hk1, hk2⟩ := List.mem_map.1 hm
      have := (Sp.moved_within P.p0 P.q0 ((P.mem h).1 hk1).2).2
      rw [hk2] at this
      rw [this] at hk
      obtain ⟨⟨x, hx⟩, -⟩ := (P.mem h).1 hk1
      rw [hx] at hk; cases hk
  · rw [if_neg hw, g2 j (fun hm => ?_), get_make]
    obtain ⟨k, hk1, hk2⟩ := List.mem_map.1 hm
    have := (Sp.moved_within P.p0 P.q0 ((P.mem h).1 hk1).2).1
    rw [hk2] at this
    exact hw this
theorem Planned.size : Tr.size (copy m v) = Tr.size m + v.bytes ∧ (copy m v).length = m.length + v.lack.length + v.src.length := by
  obtain ⟨n1, n2, n3⟩ := P.inj h
  obtain ⟨a1, a2⟩ := ahead_spec P.ahead
  unfold Tr.copy
  rw [P.dst, P.bytes]
  obtain ⟨s1, s2⟩ := size_copyL (moved p.length q) v.src (make m v.lack) (nodup_make _ h.nodup) n2 n1 n3
  have ho : (v.src.map fun k => old (make m v.lack) k) = v.src.map fun k => old m k := List.map_congr_left fun k hk => by
    unfold old
    rw [get_make, if_neg]
    intro hl
    obtain ⟨⟨x, hx⟩, -⟩ := (P.mem h).1 hk
    rw [(a1 k hl).1] at hx; cases hx
  rw [s1, s2, ho, size_make _ h.nodup a2 (fun d hd => (a1 d hd).1), len_make _ a2 (fun d hd => (a1 d hd).1)]
  exact ⟨rfl, rfl⟩
omit P in
theorem Ok.nodup_copy : ((copy m v).map (·.1)).Nodup := nodup_copyL _ _ (nodup_make _ h.nodup)
/-- What stands in a copied tree is as it should be. -/
theorem Planned.sound {k : Bytes} {x : Nd} (hk : Tr.get (copy m v) k = some x) : Sound (copy m v) k x := by
  obtain ⟨a1, a2⟩ := ahead_some P.hq P.ahead
  have habv : ∀ e, Above e q → ∃ b, Tr.get (copy m v) e = some (true, b) := fun e he => by
    rw [P.get h, if_neg (fun hw => by have := within_len hw; have := he.lt; omega)]
    rcases a1 e he with ⟨b, hb⟩ | hl
    · by_cases hl : e ∈ v.lack
      · exact ⟨[], by rw [if_pos hl]⟩
      · exact ⟨b, by rw [if_neg hl]; exact hb⟩
    · exact ⟨[], by rw [if_pos hl]⟩
  have hpar : ∀ j, Cl j → (j = q ∨ Above j q) → Sp.parent j = [] ∨ ∃ b, Tr.get (copy m v) (Sp.parent j) = some (true, b) := fun j hj hh => by
    by_cases hj0 : Sp.parent j = []
    · exact .inl hj0
    · right
      rcases hh with rfl | hh
      · exact habv _ (Above.parent hj hj0)
      · exact habv _ (Above.trans hj P.hq (Above.parent hj hj0) hh)
  have hk' := hk
  rw [P.get h] at hk
  by_cases hw : Sp.within k q = true
  · rw [if_pos hw] at hk
    obtain ⟨b1, b2⟩ := Sp.moved_within P.q0 P.p0 hw
    have hs : moved q.length p k ∈ v.src := (P.mem h).2 ⟨⟨x, hk⟩, b1⟩
    obtain ⟨s1, s2, s3, s4, s5⟩ := h.sound hk
    have hcl := P.cl _ hs
    rw [b2] at hcl
    refine ⟨fun e => by subst e; exact absurd (within_nil hw) P.q0, hcl, ?_, s4, s5⟩
    by_cases he : moved q.length p k = p
    · have : k = q := by rw [← b2, he, Sp.moved_self]
      exact hpar k hcl (.inl this)
    · right
      have hab : Above (Sp.parent (moved q.length p k)) (moved q.length p k) := Above.parent s2 fun e => by
        have := Sp.within_up s2 P.hp b1 he
        rw [e] at this
        exact absurd (within_nil this) P.p0
      have hpp := Sp.moved_parent P.hp P.hq s2 P.p0 P.q0 b1 he
      rw [b2] at hpp
      obtain ⟨c1, c2⟩ := Sp.moved_within P.p0 P.q0 (Sp.within_up s2 P.hp b1 he)
      refine ⟨[], ?_⟩
      rw [hpp, P.get h, if_pos c1, c2]
      exact h.abv hk hab
  · rw [if_neg hw] at hk
    by_cases hl : k ∈ v.lack
    · rw [if_pos hl] at hk
      cases hk
      have hab := (a2 k hl).1
      exact ⟨hab.1, hab.2.1, hpar k hab.2.1 (.inr hab), fun _ => rfl, by simp⟩
    · rw [if_neg hl] at hk
      obtain ⟨s1, s2, s3, s4, s5⟩ := h.sound hk
      refine ⟨s1, s2, s3.imp id fun ⟨b, hb⟩ => ⟨b, ?_⟩, s4, s5⟩
      rw [P.get h, if_neg (fun e => by rw [P.new h e] at hb; cases hb)]
      by_cases hl2 : Sp.parent k ∈ v.lack
      · rw [(a2 _ hl2).2] at hb; cases hb
      · rw [if_neg hl2]; exact hb
theorem Planned.src_in {k : Bytes} (hk : k ∈ v.src) : Tr.get (copy m v) k = Tr.get m k := by
  obtain ⟨-, a2⟩ := ahead_some P.hq P.ahead
  obtain ⟨⟨x, hx⟩, -⟩ := (P.mem h).1 hk
  rw [P.get h, if_neg (fun e => by rw [P.new h e] at hx; cases hx), if_neg (fun e => by rw [(a2 _ e).2] at hx; cases hx)]
theorem Planned.cut : Tr.size (drop (copy m v) v.src) = Tr.size m ∧ (drop (copy m v) v.src).length = m.length + v.lack.length := by
  obtain ⟨s1, s2⟩ := P.size h
  obtain ⟨d1, d2⟩ := size_drop v.src (h.nodup_copy) (by rw [P.src]; exact nodup_below h.nodup) (fun k hk => by
    rw [P.src_in h hk]
    obtain ⟨⟨x, hx⟩, -⟩ := (P.mem h).1 hk
    rw [hx]; rfl)
  have ho : (v.src.map fun k => old (copy m v) k) = v.src.map fun k => old m k := List.map_congr_left fun k hk => by
    unfold old; rw [P.src_in h hk]
  rw [ho, ← P.bytes] at d1
  omega
omit h P in
theorem rget (j : Bytes) : Tr.get (drop (copy m v) v.src) j = if j ∈ v.src then none else Tr.get (copy m v) j := get_drop _ _ _
theorem Planned.rsound {k : Bytes} {x : Nd} (hk : Tr.get (drop (copy m v) v.src) k = some x) : Sound (drop (copy m v) v.src) k x := by
  rw [rget] at hk
  split at hk
  · cases hk
  rename_i hs
  obtain ⟨s1, s2, s3, s4, s5⟩ := P.sound h hk
  refine ⟨s1, s2, s3.imp id fun ⟨b, hb⟩ => ⟨b, ?_⟩, s4, s5⟩
  rw [rget, if_neg]
  · exact hb
  · intro hps
    obtain ⟨⟨y, hy⟩, hw⟩ := (P.mem h).1 hps
    have hkw := within_of_parent s2 P.hp hw
    rw [P.get h] at hk
    by_cases hq : Sp.within k q = true
    · -- k is below q; its parent stands in m, so k is q, and q is within p
      by_cases e : k = q
      · subst e; rw [P.out] at hkw; cases hkw
      · have := Sp.within_up s2 P.hq hq e
        rw [P.new h this] at hy; cases hy
    · rw [if_neg hq] at hk
      by_cases hl : k ∈ v.lack
      · obtain ⟨-, a2⟩ := ahead_some P.hq P.ahead
        have hab := (a2 k hl).1
        have := Sp.within_trans P.hq hab.2.1 P.hp hab.2.2.1 hkw
        rw [P.out] at this; cases this
      · rw [if_neg hl] at hk
        exact hs ((P.mem h).2 ⟨⟨x, hk⟩, hkw⟩)
end planned
theorem Ok.copied {m : T} (h : Ok m) (s d : Bytes) : ∀ x e, plan m s d = (some x, e) → size (copy m x) = size m + x.bytes := fun _ _ hp => (h.planned hp).size h |>.1
theorem Ok.rename {m : T} (h : Ok m) (s d : Bytes) : Ok (rename m s d).1 := by
  unfold Tr.rename
  split
  · rename_i v e hp
    have P := h.planned hp
    split
    · exact h
    · rename_i hr
      simp only [Bool.not_eq_false] at hr
      obtain ⟨r1, r2⟩ := room_spec hr
      obtain ⟨c1, c2⟩ := P.cut h
      have hb := h.bytes
      exact Ok.mk' (nodup_drop _ (h.nodup_copy)) (fun k x hk => P.rsound h hk) (by dsimp only; omega) (by dsimp only; omega)
  · exact h
theorem Ok.cpy {m : T} (h : Ok m) (s d : Bytes) : Ok (cpy m s d).1 := by
  unfold Tr.cpy
  split
  · rename_i v e hp
    have P := h.planned hp
    split
    · exact h
    · rename_i hr
      simp only [Bool.not_eq_false] at hr
      obtain ⟨r1, r2⟩ := room_spec hr
      obtain ⟨c1, c2⟩ := P.size h
      exact Ok.mk' (h.nodup_copy) (fun k x hk => P.sound h hk) (by dsimp only; omega) (by dsimp only; omega)
  · exact h
end Tr
end Go.Proofs.YtmdpmpdlkaogdaaDoor

namespace Go.Proofs.YtmdpmpdlkaogdaaDoor
namespace Tr
open Sp (Cl moved)

/-- In order, each path once. -/
def Sorted (L : T) : Prop := L.Pairwise fun x y => x.1 < y.1
theorem lt_irr (a : Bytes) : ¬ a < a := List.lt_irrefl a
theorem lt_tr {a b c : Bytes} (h : a < b) (k : b < c) : a < c := List.lt_trans h k
theorem lt_le {a b : Bytes} (h : a < b) : a ≤ b := List.le_of_lt h
theorem le_ne {a b : Bytes} (h : a ≤ b) (hn : a ≠ b) : a < b := by
  rcases List.le_iff_lt_or_eq.1 h with h | h
  · exact h
  · exact absurd h hn
theorem not_lt_of {a b : Bytes} (h : ¬ a < b) : b ≤ a := List.not_lt.1 h
theorem Sorted.nodup {L : T} (h : Sorted L) : (L.map (·.1)).Nodup := by
  unfold List.Nodup
  rw [List.pairwise_map]
  exact h.imp fun hlt e => by rw [e] at hlt; exact lt_irr _ hlt
theorem files_sorted {m : T} (hn : (m.map (·.1)).Nodup) : Sorted (files m) := by
  have h1 := List.pairwise_mergeSort (le := fun (x y : Bytes × Nd) => decide (x.1 ≤ y.1)) (fun a b c => le_tr a.1 b.1 c.1) (fun a b => le_tot a.1 b.1) m
  have h2 : ((files m).map (·.1)).Nodup := ((List.mergeSort_perm m _).map _).nodup_iff.2 hn
  unfold List.Nodup at h2
  rw [List.pairwise_map] at h2
  unfold Sorted
  have h3 : (files m).Pairwise fun x y => decide (x.1 ≤ y.1) = true := h1
  exact List.Pairwise.imp₂ (fun a b (h : decide (a.1 ≤ b.1) = true) (k : a.1 ≠ b.1) => le_ne (by simpa using h) k) h3 h2
theorem files_nodup {m : T} (hn : (m.map (·.1)).Nodup) : ((files m).map (·.1)).Nodup := (files_sorted hn).nodup
theorem files_mem {m : T} {p : Bytes × Nd} : p ∈ files m ↔ p ∈ m := (List.mergeSort_perm m _).mem_iff
theorem files_get {m : T} (hn : (m.map (·.1)).Nodup) (k : Bytes) : get (files m) k = get m k := by
  cases h : get m k with
  | some x => exact mem_get (files_nodup hn) (files_mem.2 (get_mem h))
  | none =>
    rw [get_none] at h ⊢
    intro hk
    obtain ⟨x, hx, rfl⟩ := List.mem_map.1 hk
    exact h (List.mem_map.2 ⟨x, files_mem.1 hx, rfl⟩)
theorem files_len (m : T) : (files m).length = m.length := (List.mergeSort_perm m _).length_eq
theorem files_size (m : T) : size (files m) = size m := size_perm (List.mergeSort_perm m _)
theorem sorted_ext {L K : T} (hL : Sorted L) (hK : Sorted K) (h : ∀ k, get L k = get K k) : L = K := by
  have hp := perm_ext hL.nodup hK.nodup h
  refine List.Perm.eq_of_pairwise (le := fun (x y : Bytes × Nd) => x.1 < y.1) (fun a b _ _ h1 h2 => absurd (lt_tr h1 h2) (lt_irr _)) hL hK hp
/-- Who answers as m does, and is in order, is m's files. -/
theorem files_eq_of {L m : T} (hL : Sorted L) (hn : (m.map (·.1)).Nodup) (h : ∀ k, get L k = get m k) : L = files m := sorted_ext hL (files_sorted hn) fun k => by rw [files_get hn, h]

/-- One thing more, in its place. -/
def ins : T → Bytes → Nd → T
  | [], k, x => [(k, x)]
  | p :: L, k, x => if p.1 < k then p :: ins L k x else if p.1 = k then (k, x) :: L else (k, x) :: p :: L
theorem ins_app (pre L : T) (k : Bytes) (x : Nd) (h : ∀ p ∈ pre, p.1 < k) : ins (pre ++ L) k x = pre ++ ins L k x := by
  induction pre with
  | nil => rfl
  | cons p pre ih =>
    rw [List.cons_append, ins, if_pos (h p (by simp)), ih fun q hq => h q (List.mem_cons_of_mem _ hq)]; rfl
theorem ins_mem {L : T} {k : Bytes} {x : Nd} {p : Bytes × Nd} (h : p ∈ ins L k x) : p = (k, x) ∨ p ∈ L := by
  induction L with
  | nil => left; simpa [ins] using h
  | cons q L ih =>
    unfold ins at h
    split at h
    · rcases List.mem_cons.1 h with h | h
      · exact .inr (by simp [h])
      · exact (ih h).imp id (List.mem_cons_of_mem _)
    · split at h
      · rcases List.mem_cons.1 h with h | h
        · exact .inl h
        · exact .inr (List.mem_cons_of_mem _ h)
      · rcases List.mem_cons.1 h with h | h
        · exact .inl h
        · exact .inr h
theorem ins_sorted {L : T} (h : Sorted L) (k : Bytes) (x : Nd) : Sorted (ins L k x) := by
  induction L with
  | nil => simp [ins, Sorted]
  | cons q L ih =>
    have hq := List.pairwise_cons.1 h
    unfold ins
    split
    · rename_i hlt
      refine List.pairwise_cons.2 ⟨fun p hp => ?_, ih hq.2⟩
      rcases ins_mem hp with rfl | hp
      · exact hlt
      · exact hq.1 p hp
    · rename_i hn
      split
      · rename_i he
        refine List.pairwise_cons.2 ⟨fun p hp => ?_, hq.2⟩
        have := hq.1 p hp
        rwa [he] at this
      · rename_i hne
        have hlt : k < q.1 := le_ne (not_lt_of hn) (fun e => hne e.symm)
        refine List.pairwise_cons.2 ⟨fun p hp => ?_, h⟩
        rcases List.mem_cons.1 hp with rfl | hp
        · exact hlt
        · exact lt_tr hlt (hq.1 p hp)
theorem get_ins {L : T} (h : Sorted L) (k : Bytes) (x : Nd) (j : Bytes) : get (ins L k x) j = if j = k then some x else get L j := by
  induction L with
  | nil =>
    unfold ins
    rw [get_cons, get_nil]
    by_cases e : j = k
    · simp [e]
    · have : ¬ k = j := fun h => e h.symm
      simp [e, this]
  | cons q L ih =>
    have hq := List.pairwise_cons.1 h
    unfold ins
    split
    · rename_i hlt
      rw [get_cons, get_cons, ih hq.2]
      by_cases e : q.1 = j
      · have : j ≠ k := fun e2 => by rw [e, e2] at hlt; exact lt_irr _ hlt
        simp [e, this]
      · simp [e]
    · split
      · rename_i he
        rw [get_cons, get_cons]
        by_cases e : j = k
        · simp [e]
        · have h1 : ¬ k = j := fun e2 => e e2.symm
          have h2 : ¬ q.1 = j := fun e2 => e (by rw [← e2, he])
          simp [e, h1, h2]
      · rw [get_cons]
        by_cases e : j = k
        · simp [e]
        · have h1 : ¬ k = j := fun e2 => e e2.symm
          simp [e, h1]
theorem ins_files {m : T} (hn : (m.map (·.1)).Nodup) (k : Bytes) (x : Nd) : ins (files m) k x = files (set m k x) :=
  files_eq_of (ins_sorted (files_sorted hn) k x) (nodup_set k x hn) fun j => by rw [get_ins (files_sorted hn), get_set, files_get hn]
/-- Directories, one behind another. -/
def insL (L : T) (l : List Bytes) : T := l.foldl (fun L d => ins L d (true, [])) L
theorem insL_files : ∀ (l : List Bytes) {m : T}, (m.map (·.1)).Nodup → insL (files m) l = files (make m l) := by
  intro l
  induction l with
  | nil => intro m _; rfl
  | cons d l ih =>
    intro m hn
    show insL (ins (files m) d (true, [])) l = _
    rw [ins_files hn, ih (nodup_set _ _ hn)]; rfl
theorem files_congr {m n : T} (hm : (m.map (·.1)).Nodup) (hn : (n.map (·.1)).Nodup) (h : ∀ k, get m k = get n k) : files m = files n := files_perm hn (perm_ext hm hn h)
theorem filter_sorted {L : T} (h : Sorted L) (f : Bytes × Nd → Bool) : Sorted (L.filter f) := h.sublist List.filter_sublist
theorem get_filter {L : T} (h : (L.map (·.1)).Nodup) (f : Bytes → Bool) (k : Bytes) : get (L.filter fun p => f p.1) k = if f k = true then get L k else none := by
  induction L with
  | nil => simp [get_nil]
  | cons p L ih =>
    rw [List.map_cons, List.nodup_cons] at h
    rw [List.filter_cons]
    by_cases hf : f p.1 = true
    · rw [if_pos hf, get_cons, get_cons, ih h.2]
      by_cases e : p.1 = k
      · rw [if_pos e, if_pos e]; rw [e] at hf; rw [if_pos hf]
      · rw [if_neg e, if_neg e]
    · rw [if_neg hf, ih h.2, get_cons]
      by_cases e : p.1 = k
      · rw [e] at hf; rw [if_neg hf, if_neg hf]
      · rw [if_neg e]
end Tr
end Go.Proofs.YtmdpmpdlkaogdaaDoor

namespace Go.Proofs.YtmdpmpdlkaogdaaDoor
namespace Tr
open Sp (Cl moved Goods glue)

theorem at_of {m : T} {p : Bytes} (h : p ≠ []) : at_ m p = get m p := by unfold Tr.at_; rw [if_neg h]
/-- A plan that nothing forbids. -/
theorem Ok.plans {m : T} (h : Ok m) {s d p q : Bytes} {lack : List Bytes} (hs : Sp.clean s = (p, 0)) (hd : Sp.clean d = (q, 0)) (hp0 : p ≠ []) (hq0 : q ≠ []) (hx : ∃ x, get m p = some x) (hw : Sp.within q p = false) (hq : get m q = none) (ha : ahead m q = some lack)
    (hcl : ∀ k x, get m k = some x → Sp.within k p = true → Cl (moved p.length q k)) : ∃ v, plan m s d = (some v, 0) ∧ v.lack = lack := by
  have cp : Cl p := by have := Sp.clean_cl (s := s) (by rw [hs]); rwa [hs] at this
  have cq : Cl q := by have := Sp.clean_cl (s := d) (by rw [hd]); rwa [hd] at this
  have hsrc : ∀ k ∈ below m p, Cl k ∧ Sp.within k p = true := fun k hk => by
    obtain ⟨k1, k2⟩ := mem_below.1 hk
    obtain ⟨x, hx, rfl⟩ := List.mem_map.1 k1
    exact ⟨Cl.of (h.cleaned x hx).2, k2⟩
  have hde := dests_eq cp cq hp0 hq0 (below m p) hsrc
  have hde' := hde.resolve_right fun ⟨⟨k, hk, hn⟩, _⟩ => by
    obtain ⟨k1, k2⟩ := mem_below.1 hk
    obtain ⟨x, hx, rfl⟩ := List.mem_map.1 k1
    exact hn (hcl x.1 x.2 (mem_get h.nodup hx) k2)
  obtain ⟨x, hx⟩ := hx
  refine ⟨⟨below m p, (below m p).map (moved p.length q), lack, ((below m p).map fun k => ((get m k).getD (true, [])).2.length).sum⟩, ?_, rfl⟩
  unfold Tr.plan
  rw [hs, hd]
  simp only [ne_eq, not_true_eq_false, if_false]
  rw [at_of hp0, at_of hq0, hx, hq, ha, hw, hde'.2]
  simp [hp0]

section back
variable {m : T} {s d : Bytes} {v : Move}
/-- It goes back. -/
theorem Ok.back (h : Ok m) (hpl : plan m s d = (some v, 0)) (hr : room m v.lack.length 0 = true) :
    Tr.rename m s d = (drop (copy m v) v.src, 0) ∧ exists_ (drop (copy m v) v.src) s = false ∧ exists_ (drop (copy m v) v.src) d = true ∧
      ∃ m2, Tr.rename (drop (copy m v) v.src) d s = (m2, 0) ∧ ∀ j, get m2 j = if j ∈ v.lack then some (true, []) else get m j := by
  have P := h.planned hpl
  obtain ⟨-, -, -, -, -, es, ed, -⟩ := plan_spec hpl
  have hren : Tr.rename m s d = (drop (copy m v) v.src, 0) := by
    unfold Tr.rename; rw [hpl]; simp only [hr, Bool.true_eq_false, if_false]
  have hR : Ok (drop (copy m v) v.src) := by have := h.rename s d; rwa [hren] at this
  have hs : Sp.clean s = ((Sp.clean s).1, 0) := Prod.ext rfl es
  have hd : Sp.clean d = ((Sp.clean d).1, 0) := Prod.ext rfl ed
  generalize (Sp.clean s).1 = p at P hs
  generalize (Sp.clean d).1 = q at P hd
  obtain ⟨a1, a2⟩ := ahead_some P.hq P.ahead
  have hrg := rget (m := m) (v := v)
  have hcg := P.get h
  generalize hRR : drop (copy m v) v.src = R at *
  obtain ⟨xp, hxp⟩ := P.here
  have hps : p ∈ v.src := (P.mem h).2 ⟨⟨xp, hxp⟩, Sp.within_refl p⟩
  have hqs : ∀ {j}, Sp.within j q = true → j ∉ v.src := fun hw hm => by
    obtain ⟨⟨x, hx⟩, -⟩ := (P.mem h).1 hm
    rw [P.new h hw] at hx; cases hx
  have hRp : get R p = none := by rw [hrg, if_pos hps]
  have hRin : ∀ {j}, Sp.within j q = true → get R j = get m (moved q.length p j) := fun hw => by rw [hrg, if_neg (hqs hw), hcg, if_pos hw]
  have hRq : get R q = some xp := by rw [hRin (Sp.within_refl q), Sp.moved_self]; exact hxp
  have hpq : Sp.within p q = false := by
    cases hw : Sp.within p q with
    | false => rfl
    | true => rw [P.new h hw] at hxp; cases hxp
  refine ⟨hren, ?_, ?_, ?_⟩
  · unfold Tr.exists_; rw [hs]; simp only [at_of P.p0, hRp, Option.isSome_none, Bool.and_false]
  · unfold Tr.exists_; rw [hd]; simp only [at_of P.q0, hRq, Option.isSome_some, Bool.and_true, beq_self_eq_true]
  have hRab : ∀ e, Above e p → get R e = some (true, []) := fun e he => by
    have hme := h.abv hxp he
    rw [hrg, if_neg (fun hm => by have := within_len ((P.mem h).1 hm).2; have := he.lt; omega), hcg, if_neg (fun hw => by rw [P.new h hw] at hme; cases hme), if_neg (fun hl => by rw [(a2 e hl).2] at hme; cases hme)]
    exact hme
  obtain ⟨lack', hl'⟩ := ahead_of (m := R) P.hp (fun e he b hb => by rw [hRab e he] at hb; cases hb)
  obtain ⟨b1, b2⟩ := ahead_some P.hp hl'
  obtain rfl : lack' = [] := by
    cases lack' with
    | nil => rfl
    | cons e l =>
      obtain ⟨c1, c2⟩ := b2 e (by simp)
      rw [hRab e c1] at c2; cases c2
  obtain ⟨v', hpl', hvl⟩ := hR.plans hd hs P.q0 P.p0 ⟨xp, hRq⟩ hpq hRp hl' (fun k x hk hw => by
    rw [hRin hw] at hk
    exact (h.sound hk).2.1)
  have P' := hR.planned hpl'
  rw [hs, hd] at P'
  dsimp only at P'
  have hroom : room R v'.lack.length 0 = true := by
    rw [hvl]
    unfold room
    have := hR.len
    have := hR.bytes
    simp only [List.length_nil, Bool.and_eq_true, decide_eq_true_eq]
    omega
  refine ⟨drop (copy R v') v'.src, ?_, fun j => ?_⟩
  · unfold Tr.rename; rw [hpl']; simp only [hroom, Bool.true_eq_false, if_false]
  · rw [rget, P'.get hR, hvl]
    by_cases hjp : Sp.within j p = true
    · have hn : j ∉ v'.src := fun hm => by
        obtain ⟨⟨x, hx⟩, -⟩ := (P'.mem hR).1 hm
        rw [P'.new hR hjp] at hx; cases hx
      obtain ⟨c1, c2⟩ := Sp.moved_within P.p0 P.q0 hjp
      rw [if_neg hn, if_pos hjp, hRin c1, c2, if_neg]
      intro hl
      have hab := (a2 j hl).1
      have := Sp.within_trans P.hq hab.2.1 P.hp hab.2.2.1 hjp
      rw [P.out] at this; cases this
    · rw [if_neg hjp]
      simp only [List.not_mem_nil, if_false]
      have hjs : j ∉ v.src := fun hm => hjp ((P.mem h).1 hm).2
      by_cases hjq : Sp.within j q = true
      · rw [if_neg (show j ∉ v.lack from fun hl => by rw [P.lack_out hl] at hjq; cases hjq), P.new h hjq]
        split
        · rfl
        · rename_i hn
          cases hg : get R j with
          | none => rfl
          | some x => exact absurd ((P'.mem hR).2 ⟨⟨x, hg⟩, hjq⟩) hn
      · rw [if_neg (fun hm => hjq ((P'.mem hR).1 hm).2), hrg, if_neg hjs, hcg, if_neg hjq]
/-- And what was made for it is taken away with its first part. -/
theorem Ok.back_all (h : Ok m) {x0 : Bytes} {t : List Bytes} {m2 : T} (hpl : plan m s d = (some v, 0)) (hq : (Sp.clean d).1 = glue (x0 :: t)) (hg : Goods (x0 :: t)) (h0 : get m x0 = none) (hm2 : ∀ j, get m2 j = if j ∈ v.lack then some (true, []) else get m j) :
    ∀ j, get (if Sp.parent (Sp.clean d).1 = [] then m2 else (Tr.remove m2 x0).1) j = get m j := by
  have P := h.planned hpl
  obtain ⟨a1, a2⟩ := ahead_some P.hq P.ahead
  have hx0 := hg x0 (by simp)
  have c0 : Cl x0 := by
    obtain ⟨l, e1, g1, e2, e3⟩ := P.hq
    refine ⟨[x0], rfl, fun y hy => by simp at hy; subst hy; exact hx0, by simp, ?_⟩
    rw [hq] at e3
    cases t with
    | nil => exact e3
    | cons y t =>
      have : (glue (x0 :: y :: t)).length = x0.length + (1 + (glue (y :: t)).length) := by show (x0 ++ 47 :: glue (y :: t)).length = _; simp; omega
      omega
  have hup : ∀ j, Above j (Sp.clean d).1 → Sp.within j x0 = true := fun j hj => by
    obtain ⟨j0, ⟨l, rfl, gl, -⟩, hw, -⟩ := hj
    rw [hq, Sp.within_glue hg gl] at hw
    rw [show x0 = glue [x0] from rfl, Sp.within_glue gl (fun y hy => by simp at hy; subst hy; exact hx0)]
    cases l with
    | nil => exact absurd rfl j0
    | cons y l =>
      rw [List.cons_prefix_cons] at hw
      rw [hw.1]
      exact ⟨l, rfl⟩
  by_cases hpar : Sp.parent (Sp.clean d).1 = []
  · intro j
    rw [if_pos hpar, hm2, if_neg]
    intro hl
    rcases (a2 j hl).1.up P.hq with e | e
    · exact (a2 j hl).1.1 (e.trans hpar)
    · rw [hpar] at e; exact e.1 (within_nil e.2.2.1)
  · intro j
    rw [if_neg hpar]
    have hab : Above x0 (Sp.clean d).1 := by
      refine ⟨hx0.1, c0, ?_, fun e => ?_⟩
      · rw [hq, show Sp.within (glue (x0 :: t)) x0 = Sp.within (glue (x0 :: t)) (glue [x0]) from rfl, Sp.within_glue hg (fun y hy => by simp at hy; subst hy; exact hx0)]
        exact ⟨t, rfl⟩
      · rw [← e, show x0 = glue ([] ++ [x0]) from rfl, Sp.parent_glue hx0.2.2.2.2] at hpar
        exact hpar rfl
    have hl0 : x0 ∈ v.lack := by
      rcases a1 x0 hab with ⟨b, hb⟩ | hl
      · rw [h0] at hb; cases hb
      · exact hl
    have hg2 : get m2 x0 = some (true, []) := by rw [hm2, if_pos hl0]
    have hrm : (Tr.remove m2 x0).1 = drop m2 (below m2 x0) := by
      unfold Tr.remove
      rw [c0.clean]
      simp only [ne_eq, not_true_eq_false, if_false]
      rw [if_neg hx0.1, hg2]; rfl
    rw [hrm, get_cut]
    split
    · rename_i hw
      exact (h.bare c0 hx0.1 h0 hw).symm
    · rename_i hw
      rw [hm2, if_neg (fun hl => hw (hup j (a2 j hl).1))]
end back

/-- A copy, and that each of the two is its own. -/
theorem Ok.twin {m : T} (h : Ok m) {s d : Bytes} {m2 : T} (hc : Tr.cpy m s d = (m2, 0)) : exists_ m2 s = true ∧ exists_ m2 d = true ∧ (Tr.remove m2 d).2 = 0 ∧ exists_ (Tr.remove m2 d).1 s = true := by
  unfold Tr.cpy at hc
  split at hc
  · rename_i v e hp
    split at hc
    · cases hc
    · cases hc
      have P := h.planned hp
      obtain ⟨-, -, -, -, -, es, ed, -⟩ := plan_spec hp
      have hs : Sp.clean s = ((Sp.clean s).1, 0) := Prod.ext rfl es
      have hd : Sp.clean d = ((Sp.clean d).1, 0) := Prod.ext rfl ed
      generalize (Sp.clean s).1 = p at P hs
      generalize (Sp.clean d).1 = q at P hd
      obtain ⟨xp, hxp⟩ := P.here
      have hps : p ∈ v.src := (P.mem h).2 ⟨⟨xp, hxp⟩, Sp.within_refl p⟩
      have h1 : get (copy m v) p = some xp := by rw [P.src_in h hps]; exact hxp
      have h2 : get (copy m v) q = some xp := by rw [P.get h, if_pos (Sp.within_refl q), Sp.moved_self]; exact hxp
      have hpq : Sp.within p q = false := by
        cases hw : Sp.within p q with
        | false => rfl
        | true => rw [P.new h hw] at hxp; cases hxp
      have hrm : Tr.remove (copy m v) d = (drop (copy m v) (below (copy m v) q), 0) := by
        unfold Tr.remove
        rw [hd]
        simp only [ne_eq, not_true_eq_false, if_false]
        rw [if_neg P.q0, h2]; rfl
      refine ⟨?_, ?_, by rw [hrm], ?_⟩
      · unfold Tr.exists_; rw [hs]; simp only [at_of P.p0, h1, Option.isSome_some, Bool.and_true, beq_self_eq_true]
      · unfold Tr.exists_; rw [hd]; simp only [at_of P.q0, h2, Option.isSome_some, Bool.and_true, beq_self_eq_true]
      · rw [hrm]
        unfold Tr.exists_
        rw [hs]
        simp only [at_of P.p0, get_cut, hpq, Bool.false_eq_true, if_false, h1, Option.isSome_some, Bool.and_true, beq_self_eq_true]
  · rename_i e hp
    cases hc
    exact absurd rfl (plan_none hp)
end Tr
end Go.Proofs.YtmdpmpdlkaogdaaDoor
