/- Walks: cmp.Compare, the order of files, slices.SortFunc at files. -/
import Derived.Test.YtmdpmpdlkaogdaaGreatDoorTg
import Derived.Test.YtmdpmpdlkaogdaaGreatDoorSg
namespace Go.Proofs.YtmdpmpdlkaogdaaGreatDoor
open Go Go.RowKit Vc

theorem ok_isNaN : FnOk P 99 := ⟨_, Tryz.func99, by kernel_rfl, by kernel_rfl⟩
theorem ok_Compare : FnOk P 69 := ⟨_, Tryz.func69, by kernel_rfl, by kernel_rfl⟩
theorem ok_SortFunc : FnOk P 67 := ⟨_, Tryz.func67, by kernel_rfl, by kernel_rfl⟩

theorem c_isNaN (s : Tr.Bytes) (w : World) : Calls P 99 #[.string (S s)] w fun e w' => e = .returned (.bool false) ∧ w = w' := by
  go_enter Tryz.func99, Tryz.ntmps99
  go_wp2
  all_goals (try go_ret)
  all_goals (refine ⟨?_, rfl⟩)
  all_goals simp

def cmpB (a b : Tr.Bytes) : Int := if Op.bytesLess a b then -1 else if (!(Op.bytesLess a b || a == b)) then 1 else 0
theorem bytesLess_lt (a b : Tr.Bytes) : Op.bytesLess a b = decide (a < b) := Go.Proofs.bytesLess_eq a b

theorem c_Compare (a b : Tr.Bytes) (w : World) : Calls P 69 #[.string (S a), .string (S b)] w fun e w' => e = .returned (.int .i64 (cmpB a b)) ∧ w = w' := by
  refine enter (l := [_, _]) (n := 20) Tryz.func69 rfl rfl rfl ?_
  refine W.seq ?_
  refine W.reg <| asg rfl rfl <| L.nil ?_
  refine N.th ?_
  refine W.seq ?_
  refine W.reg <| mv rfl rfl <| call (vs := [_]) rfl rfl ok_isNaN (c_isNaN a w) ?_
  rintro e w1 ⟨rfl, rfl⟩
  refine ⟨_, rfl, ?_⟩
  refine asg rfl rfl <| L.nil ?_
  refine N.th ?_
  refine W.seq ?_
  refine W.reg <| mv rfl rfl <| call (vs := [_]) rfl rfl ok_isNaN (c_isNaN b w) ?_
  rintro e w1 ⟨rfl, rfl⟩
  refine ⟨_, rfl, ?_⟩
  refine asg rfl rfl <| L.nil ?_
  refine N.th ?_
  refine W.seq ?_
  refine W.seq ?_
  refine W.reg <| mv rfl rfl <| L.nil ?_
  refine N.th ?_
  refine W.condF rfl ?_
  refine W.skip ?_
  refine N.th ?_
  refine W.seq ?_
  refine W.seq ?_
  refine W.reg <| mv rfl rfl <| L.nil ?_
  refine N.th ?_
  refine W.condF rfl ?_
  refine W.skip ?_
  refine N.th ?_
  refine W.seq ?_
  refine W.seq ?_
  refine W.reg <| mv rfl rfl <| mv rfl rfl <| lssS rfl rfl rfl <| L.nil ?_
  refine N.th ?_
  unfold cmpB
  refine W.cond rfl (fun h => ?_) (fun h => ?_)
  · refine W.seq ?_
    refine W.reg <| asg rfl rfl <| L.nil ?_
    refine N.th ?_
    refine W.ret ?_
    refine N.rth ?_
    refine N.ret1 rfl rfl ?_   -- RETURN
    rw [if_pos h]; exact ⟨rfl, rfl⟩
  · refine W.skip ?_
    refine N.th ?_
    refine W.seq ?_
    refine W.seq ?_
    refine W.reg <| mv rfl rfl <| mv rfl rfl <| gtrS rfl rfl rfl <| L.nil ?_
    refine N.th ?_
    rw [if_neg (by rw [h]; simp)]
    refine W.cond rfl (fun h => ?_) (fun h => ?_)
    · refine W.seq ?_
      refine W.reg <| asg rfl rfl <| L.nil ?_
      refine N.th ?_
      refine W.ret ?_
      refine N.rth ?_
      refine N.ret1 rfl rfl ?_   -- RETURN
      rw [if_pos h]; exact ⟨rfl, rfl⟩
    · refine W.skip ?_
      refine N.th ?_
      refine W.seq ?_
      refine W.reg <| asg rfl rfl <| L.nil ?_
      refine N.th ?_
      refine W.ret ?_
      refine N.ret1 rfl rfl ?_   -- RETURN
      rw [if_neg (by rw [h]; simp)]; exact ⟨rfl, rfl⟩

/-- A file as it lies in a list: its path, is it a directory, its bytes: where, and what they are. -/
abbrev FE := Tr.Bytes × Bool × Value × Tr.Bytes
def fcells (x : FE) : List Value := [.string (S x.1), .bool x.2.1, x.2.2.1]
def fnd (x : FE) : Tr.Bytes × Tr.Nd := (x.1, (x.2.1, x.2.2.2))
abbrev tF : TypeId := 45

theorem c_cmp (x y : FE) (w : World) : Calls P 68 #[.agg (fcells x).toArray, .agg (fcells y).toArray] w fun e w' => e = .returned (.int .i64 (cmpB x.1 y.1)) ∧ w' = (w.alloc (.cells (fcells x).toArray tF)).alloc (.cells (fcells y).toArray tF) := by
  refine enter (l := [_, _]) (n := 10) Tryz.func68 rfl rfl rfl ?_
  refine W.seq ?_
  refine W.reg <| box rfl rfl <| box rfl rfl <| asg rfl rfl <| L.nil ?_
  refine N.th ?_
  refine W.seq ?_
  have h1 : ((w.alloc (.cells (fcells x).toArray tF)).alloc (.cells (fcells y).toArray tF)).cell? ⟨w.heap.size, 0, none⟩ = some (.string (S x.1)) := cell_of ((heap_alloc _ _ (by simp)).trans (heap_new _ _)) rfl
  have h2 : ((w.alloc (.cells (fcells x).toArray tF)).alloc (.cells (fcells y).toArray tF)).cell? ⟨(w.alloc (.cells (fcells x).toArray tF)).heap.size, 0, none⟩ = some (.string (S y.1)) := cell_of (heap_new _ _) rfl
  refine W.reg <| fad rfl fl_File_0 rfl <| ld1 rfl ag_str rfl h1 <| fad rfl fl_File_0 rfl <| ld1 rfl ag_str rfl h2 <| call (vs := [_, _]) rfl rfl ok_Compare (c_Compare _ _ _) ?_
  rintro e w1 ⟨rfl, rfl⟩
  refine ⟨_, rfl, ?_⟩
  refine asg rfl rfl <| L.nil ?_
  refine N.th ?_
  refine W.ret ?_
  refine N.ret1 rfl rfl ?_   -- RETURN
  exact ⟨rfl, rfl⟩
end Go.Proofs.YtmdpmpdlkaogdaaGreatDoor
