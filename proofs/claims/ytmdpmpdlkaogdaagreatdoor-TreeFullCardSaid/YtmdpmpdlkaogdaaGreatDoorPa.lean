/- Walks: package path, its small functions. -/
import Derived.Test.YtmdpmpdlkaogdaaGreatDoorTy
import Derived.Test.YtmdpmpdlkaogdaaGreatDoorSp
namespace Go.Proofs.YtmdpmpdlkaogdaaGreatDoor
open Go Go.RowKit Vc

theorem ok_right : FnOk P 145 := ⟨_, Tryz.func145, by kernel_rfl, by kernel_rfl⟩
theorem ok_part : FnOk P 128 := ⟨_, Tryz.func128, by kernel_rfl, by kernel_rfl⟩

theorem right_int (c : Int) (w : World) :
    Calls P 145 #[.int .u8 c] w fun e w' => e = .returned (.bool (!(c == 34 || c == 92 || c == 42 || c == 63 || c == 58) && (decide (32 < c) && decide (c < 127)))) ∧ w' = w := by
  go_enter Tryz.func145, Tryz.ntmps145
  go_wp2
  all_goals (try go_ret)
  all_goals (refine ⟨?_, rfl⟩)
  all_goals (congr 2; simp_all; try omega)
theorem right_eq (c : UInt8) : (!((c.toNat : Int) == 34 || (c.toNat : Int) == 92 || (c.toNat : Int) == 42 || (c.toNat : Int) == 63 || (c.toNat : Int) == 58) && (decide (32 < (c.toNat : Int)) && decide ((c.toNat : Int) < 127))) = Sp.right c := by
  have e : ∀ (k : Nat) (_ : k < 256), ((c.toNat : Int) == (k : Int)) = (c == UInt8.ofNat k) := by
    intro k hk
    rw [Bool.eq_iff_iff]
    simp only [beq_iff_eq]
    constructor
    · intro h; apply UInt8.toNat_inj.1; simp; omega
    · intro h; rw [h]; simp; omega
  have l1 : decide (32 < (c.toNat : Int)) = decide (32 < c) := by
    rw [decide_eq_decide, UInt8.lt_iff_toNat_lt]; simp; omega
  have l2 : decide ((c.toNat : Int) < 127) = decide (c < 127) := by
    rw [decide_eq_decide, UInt8.lt_iff_toNat_lt]; simp; omega
  unfold Sp.right
  rw [l1, l2]
  have e1 : ((c.toNat : Int) == 34) = (c == 34) := e 34 (by decide)
  have e2 : ((c.toNat : Int) == 92) = (c == 92) := e 92 (by decide)
  have e3 : ((c.toNat : Int) == 42) = (c == 42) := e 42 (by decide)
  have e4 : ((c.toNat : Int) == 63) = (c == 63) := e 63 (by decide)
  have e5 : ((c.toNat : Int) == 58) = (c == 58) := e 58 (by decide)
  rw [e1, e2, e3, e4, e5]
theorem c_right (c : UInt8) (w : World) : Calls P 145 #[.int .u8 c.toNat] w fun e w' => e = .returned (.bool (Sp.right c)) ∧ w = w' :=
  (right_int c.toNat w).mono fun _ _ ⟨h1, h2⟩ => ⟨by rw [h1, right_eq], h2.symm⟩

theorem c_part (s : Sp.Bytes) (hs : s.length ≤ maxLen) (w : World) : Calls P 128 #[.string (S s)] w fun e w' => e = .returned (.int .i64 (Sp.part s)) ∧ w = w' := by
  unfold maxLen at hs
  refine enter (n := 18) Tryz.func128 rfl rfl rfl ?_
  refine W.seq ?_
  refine W.reg <| asg rfl rfl <| L.nil ?_
  refine N.th ?_
  refine W.seq ?_
  refine W.seq ?_
  refine W.reg <| mv rfl rfl <| lenS rfl u_str rfl <| gtrI rfl rfl rfl <| L.nil ?_
  refine N.th ?_
  -- if t6
  refine W.cond rfl (fun h => ?_) (fun h => ?_)
  ·
    refine W.seq ?_
    refine W.reg <| asg rfl rfl <| L.nil ?_
    refine N.th ?_
    refine W.ret ?_
    refine N.rth ?_
    refine N.ret1 rfl rfl ⟨?_, rfl⟩
    have h' : 32 < s.length := by have := of_decide_eq_true h; omega
    rw [Sp.part, if_pos h']
  ·
    have h' : ¬ 32 < s.length := by have := of_decide_eq_false h; omega
    refine W.skip ?_
    refine N.th ?_
    refine W.seq ?_
    refine W.seq ?_
    refine W.reg <| mv rfl rfl <| lenS rfl u_str rfl <| mv rfl rfl <| L.nil ?_
    refine N.th ?_
    refine W.block ?_
    refine W.loop (X := Nat) (fun x => [(0, .string (S s)), (8, .int .i64 s.length), (9, .int .i64 x)]) (fun x w' => w = w' ∧ x ≤ s.length ∧ (s.take x).all Sp.right = true) (fun x => s.length - x) 0 ⟨rfl, rfl, rfl, trivial⟩ ⟨rfl, Nat.zero_le _, by simp⟩ ?_
    rintro x w ⟨rfl, hx, hall⟩
    refine W.seq ?_
    refine W.reg <| lssI rfl rfl rfl <| L.nil ?_
    refine N.th ?_
    refine W.seq ?_
    -- if t10
    refine W.cond rfl (fun h => ?_) (fun h => ?_)
    ·
      have hlt : x < s.length := by have := of_decide_eq_true h; omega
      refine W.skip ?_
      refine N.th ?_
      refine W.seq ?_
      refine W.block ?_
      refine W.seq ?_
      refine W.reg <| mv rfl rfl <| asg rfl rfl <| L.nil ?_
      refine N.th ?_
      refine W.seq ?_
      refine W.reg <| mv rfl rfl <| mv rfl rfl <| idxS (b := s[x]) rfl rfl u_str rfl (by omega) (by simp [hlt]) ?_
      refine call (vs := [_]) rfl rfl ok_right (c_right _ _) ?_
      rintro e w' ⟨rfl, rfl⟩
      refine ⟨_, rfl, ?_⟩
      refine notB rfl rfl <| L.nil ?_
      refine N.th ?_
      have htk : s.take (x + 1) = s.take x ++ [s[x]] := by rw [List.take_succ_eq_append_getElem hlt]
      -- if t16
      refine W.cond rfl (fun h => ?_) (fun h => ?_)
      ·
        refine W.seq ?_
        refine W.reg <| asg rfl rfl <| L.nil ?_
        refine N.th ?_
        refine W.ret ?_
        refine N.rinb <| N.rth <| N.rth <| N.rinb <| N.rth ?_
        refine N.ret1 rfl rfl ⟨?_, rfl⟩
        have hr : Sp.right s[x] = false := by simpa using h
        have : s.all Sp.right = false := by
          rw [List.all_eq_false]; exact ⟨s[x], by simp, by simp [hr]⟩
        rw [Sp.part, if_neg h', this]; rfl
      ·
        have hr : Sp.right s[x] = true := by simpa using h
        refine W.skip ?_
        refine N.inb ?_
        refine N.th ?_
        refine W.reg <| addI rfl rfl rfl (w64 (by omega) (by omega)) <| mv rfl rfl <| L.nil ?_
        refine N.th (N.round (x + 1) ⟨rfl, rfl, rfl, trivial⟩ ⟨rfl, by omega, ?_⟩ (by omega))
        rw [htk, List.all_append, hall]; simp [hr]
    ·
      have hge : s.length ≤ x := by have := of_decide_eq_false h; omega
      refine W.exit ?_
      refine N.xth ?_
      refine N.xth ?_
      refine N.xeq ?_
      refine N.th ?_
      refine W.seq ?_
      refine W.reg <| asg rfl rfl <| L.nil ?_
      refine N.th ?_
      refine W.ret ?_
      refine N.ret1 rfl rfl ⟨?_, rfl⟩
      rw [List.take_of_length_le hge] at hall
      rw [Sp.part, if_neg h', hall]; rfl
end Go.Proofs.YtmdpmpdlkaogdaaGreatDoor
