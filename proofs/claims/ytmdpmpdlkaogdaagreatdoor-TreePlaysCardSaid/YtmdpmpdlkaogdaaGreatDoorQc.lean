/- Walks: the document's Rename and Copy. -/
import Derived.Test.YtmdpmpdlkaogdaaGreatDoorQa
import Derived.Test.YtmdpmpdlkaogdaaGreatDoorQb
namespace Go.Proofs.YtmdpmpdlkaogdaaGreatDoor
open Go Go.RowKit Vc

theorem ok_Rtwo : FnOk P 85 := ⟨_, Tryz.func85, by kernel_rfl, by kernel_rfl⟩
theorem ok_RRename : FnOk P 51 := ⟨_, Tryz.func51, by kernel_rfl, by kernel_rfl⟩
theorem ok_RCopy : FnOk P 52 := ⟨_, Tryz.func52, by kernel_rfl, by kernel_rfl⟩

def twoT (m : Tr.T) (s d : Tr.Bytes) (st : Bool) : Tr.T × Int := if st then Tr.cpy m s d else Tr.rename m s d
theorem two_fail {m : Tr.T} {s d : Tr.Bytes} {c : Int} (st : Bool) (h : Tr.plan m s d = (none, c)) : twoT m s d st = (m, c) := by
  unfold twoT Tr.cpy Tr.rename
  rw [h]
  cases st <;> rfl
theorem RTAt.strs {B : Nat} {w w' : World} {rt : Nat} {lv v : Value} {E : List FE} {l : List Sp.Bytes} (h : RTAt w rt lv E) (hv : StrsA B w v l) (hx : Ext (fun k => k = rt) w w') : StrsA B w' v l := own_ext hv hx fun k hk e => by
  subst e
  obtain ⟨ck, fk, hk⟩ := own_kind hv _ hk
  rw [h.cell] at hk; cases hk
theorem files_eq_mvd {E : List FE} {m : Tr.T} (p q : Tr.Bytes) (hE : fm E = Tr.files m) : mvE p q E = Tr.mvd p q (Tr.files m) := by unfold mvE Tr.mvd; rw [hE]
theorem sum_sub {l k : List Nat} (h : l.Sublist k) : l.sum ≤ k.sum := by
  induction h with
  | slnil => exact Nat.le_refl _
  | cons a _ ih => rw [List.sum_cons]; omega
  | cons_cons a _ ih => rw [List.sum_cons, List.sum_cons]; omega
theorem insM_snoc (L l : Tr.T) (x : Tr.Bytes × Tr.Nd) : Tr.insM L (l ++ [x]) = Tr.ins (Tr.insM L l) x.1 x.2 := by simp [Tr.insM]

set_option maxHeartbeats 1000000 in
theorem c_Rtwo {w : World} {rt : Nat} {lv : Value} {E : List FE} {m : Tr.T} (s d : Tr.Bytes) (st : Bool) (h : RTAt w rt lv E) (hE : fm E = Tr.files m) (hok : Tr.Ok m) :
    Calls P 85 #[pT rt, .string (S s), .string (S d), .bool st] w (DoesR rt w (twoT m s d st)) := by
  have hEl := len_of hE
  have hml := hok.len
  have hmb := hok.bytes
  have hsz : Tr.size (fm E) = Tr.size m := by rw [hE, Tr.files_size]
  refine enter (l := [_, _, _, _]) (n := 145) Tryz.func85 rfl rfl rfl ?_
  refine W.seq ?_
  refine W.reg <| asg rfl rfl <| L.nil ?_
  refine N.th ?_
  refine W.seq ?_
  refine W.reg <| mv rfl rfl <| call (vs := [_]) rfl rfl ok_RClean (c_RClean s w) ?_
  rintro e w1 ⟨rfl, hx1⟩
  refine ⟨_, rfl, ?_⟩
  refine mv rfl rfl <| ext rfl rfl rfl <| ext rfl rfl rfl <| asg rfl rfl <| asg rfl rfl <| L.nil ?_
  refine N.th ?_
  refine W.seq ?_
  refine W.seq ?_
  refine W.reg <| mv rfl rfl <| neqI rfl rfl rfl <| L.nil ?_
  refine N.th ?_
  refine W.cond rfl (fun h => ?_) (fun h => ?_)
  · refine W.seq ?_
    refine W.reg <| mv rfl rfl <| asg rfl rfl <| L.nil ?_
    refine N.th ?_
    refine W.ret ?_
    refine N.rth ?_
    refine N.ret1 rfl rfl ?_   -- RETURN
    have h0 : (Sp.clean s).2 ≠ 0 := by simpa using h
    rw [two_fail st (show Tr.plan m s d = (none, (Sp.clean s).2) by unfold Tr.plan; rw [if_pos h0])]
    exact ⟨rfl, ⟨_, _, ‹RTAt w rt lv E›.ext0 hx1, hE⟩, hx1.none⟩
  have hcs : (Sp.clean s).2 = 0 := by simpa using h
  refine W.skip ?_
  refine N.th ?_
  refine W.seq ?_
  refine W.reg <| mv rfl rfl <| call (vs := [_]) rfl rfl ok_RClean (c_RClean d w1) ?_
  rintro e w2 ⟨rfl, hx2⟩
  refine ⟨_, rfl, ?_⟩
  refine mv rfl rfl <| ext rfl rfl rfl <| ext rfl rfl rfl <| asg rfl rfl <| asg rfl rfl <| L.nil ?_
  refine N.th ?_
  have hx02 := hx1.trans hx2
  have hR2 := ‹RTAt w rt lv E›.ext0 hx02
  refine W.seq ?_
  refine W.seq ?_
  refine W.reg <| mv rfl rfl <| neqI rfl rfl rfl <| L.nil ?_
  refine N.th ?_
  refine W.cond rfl (fun h => ?_) (fun h => ?_)
  · refine W.seq ?_
    refine W.reg <| mv rfl rfl <| asg rfl rfl <| L.nil ?_
    refine N.th ?_
    refine W.ret ?_
    refine N.rth ?_
    refine N.ret1 rfl rfl ?_   -- RETURN
    have h0 : (Sp.clean d).2 ≠ 0 := by simpa using h
    rw [two_fail st (show Tr.plan m s d = (none, (Sp.clean d).2) by unfold Tr.plan; rw [if_neg (by rw [hcs]; simp), if_pos h0])]
    exact ⟨rfl, ⟨_, _, hR2, hE⟩, hx02.none⟩
  have hcd : (Sp.clean d).2 = 0 := by simpa using h
  refine W.skip ?_
  refine N.th ?_
  have hpl := clean_len s
  have hql := clean_len d
  have hplan : Tr.plan m s d = Tr.plan m s d := rfl
  conv at hplan => rhs; unfold Tr.plan
  rw [if_neg (by rw [hcs]; simp), if_neg (by rw [hcd]; simp)] at hplan
  dsimp only at hplan
  have cp := Sp.clean_cl hcs
  have cq := Sp.clean_cl hcd
  obtain ⟨p, hp⟩ : ∃ p, p = (Sp.clean s).1 := ⟨_, rfl⟩
  obtain ⟨q, hq⟩ : ∃ q, q = (Sp.clean d).1 := ⟨_, rfl⟩
  rw [← hp, ← hq] at hplan
  rw [← hp] at hpl cp
  rw [← hq] at hql cq
  rw [← hp, ← hq]
  refine W.seq ?_
  refine W.seqM (fun E' w' => E' = [(45, .bool (Tr.at_ m p).isNone), (9, .string (S p)), (11, .string (S q)), (0, pT rt), (3, .bool st)] ∧ w' = w2) ?_ ?_
  · refine W.reg <| mv rfl rfl <| neqS (b := []) rfl rfl rfl ?_
    by_cases hp0 : p = []
    · refine Vc.bf (by simp [hp0]) ?_
      (repeat (first | refine mv rfl rfl ?_ | refine asg rfl rfl ?_ | refine L.off rfl rfl rfl rfl rfl ?_ | refine L.offU rfl rfl rfl rfl ?_ | refine L.on rfl rfl rfl ?_ | refine pickT rfl rfl rfl ?_ | refine pickF rfl rfl rfl ?_ | refine ext rfl rfl rfl ?_ | refine nilc rfl rfl ?_ | refine lenV (t := 46) rfl u_strs rfl ?_ | refine lenV (t := 25) rfl u_bytes rfl ?_ | refine lenV (t := 22) rfl u_files rfl ?_ | refine lenS (t := 9) rfl u_str rfl ?_ | refine eqlI rfl rfl rfl ?_ | refine neqI rfl rfl rfl ?_ | refine lssI rfl rfl rfl ?_ | refine leqI rfl rfl rfl ?_ | refine gtrI rfl rfl rfl ?_ | refine geqI rfl rfl rfl ?_))
      exact L.nil <| N.th (N.meet [(45, .bool false), (9, _), (11, _), (0, _), (3, _)] ⟨rfl, rfl, rfl, rfl, rfl, trivial⟩ ⟨by simp [hp0, Tr.at_], rfl⟩)
    · refine Vc.bt (by simp [hp0]) ?_
      (repeat (first | refine mv rfl rfl ?_ | refine asg rfl rfl ?_ | refine L.off rfl rfl rfl rfl rfl ?_ | refine L.offU rfl rfl rfl rfl ?_ | refine L.on rfl rfl rfl ?_ | refine pickT rfl rfl rfl ?_ | refine pickF rfl rfl rfl ?_ | refine ext rfl rfl rfl ?_ | refine nilc rfl rfl ?_ | refine lenV (t := 46) rfl u_strs rfl ?_ | refine lenV (t := 25) rfl u_bytes rfl ?_ | refine lenV (t := 22) rfl u_files rfl ?_ | refine lenS (t := 9) rfl u_str rfl ?_ | refine eqlI rfl rfl rfl ?_ | refine neqI rfl rfl rfl ?_ | refine lssI rfl rfl rfl ?_ | refine leqI rfl rfl rfl ?_ | refine gtrI rfl rfl rfl ?_ | refine geqI rfl rfl rfl ?_))
      refine call (vs := [_, _]) rfl rfl ok_Rat (c_Rat p hR2 (by omega)) ?_
      rintro e w2' ⟨k, rfl, hk, rfl⟩
      refine ⟨_, rfl, ?_⟩
      rcases hk.of hE hok.nodup with ⟨rfl, hg⟩ | ⟨i, x, rfl, hxe, hg⟩
      · (repeat (first | refine mv rfl rfl ?_ | refine asg rfl rfl ?_ | refine L.off rfl rfl rfl rfl rfl ?_ | refine L.offU rfl rfl rfl rfl ?_ | refine L.on rfl rfl rfl ?_ | refine pickT rfl rfl rfl ?_ | refine pickF rfl rfl rfl ?_ | refine ext rfl rfl rfl ?_ | refine nilc rfl rfl ?_ | refine lenV (t := 46) rfl u_strs rfl ?_ | refine lenV (t := 25) rfl u_bytes rfl ?_ | refine lenV (t := 22) rfl u_files rfl ?_ | refine lenS (t := 9) rfl u_str rfl ?_ | refine eqlI rfl rfl rfl ?_ | refine neqI rfl rfl rfl ?_ | refine lssI rfl rfl rfl ?_ | refine leqI rfl rfl rfl ?_ | refine gtrI rfl rfl rfl ?_ | refine geqI rfl rfl rfl ?_))
        exact L.nil <| N.th (N.meet [(45, .bool true), (9, _), (11, _), (0, _), (3, _)] ⟨rfl, rfl, rfl, rfl, rfl, trivial⟩ ⟨by simp [Tr.at_of hp0, hg], rfl⟩)
      · (repeat (first | refine mv rfl rfl ?_ | refine asg rfl rfl ?_ | refine L.off rfl rfl rfl rfl rfl ?_ | refine L.offU rfl rfl rfl rfl ?_ | refine L.on rfl rfl rfl ?_ | refine pickT rfl rfl rfl ?_ | refine pickF rfl rfl rfl ?_ | refine ext rfl rfl rfl ?_ | refine nilc rfl rfl ?_ | refine lenV (t := 46) rfl u_strs rfl ?_ | refine lenV (t := 25) rfl u_bytes rfl ?_ | refine lenV (t := 22) rfl u_files rfl ?_ | refine lenS (t := 9) rfl u_str rfl ?_ | refine eqlI rfl rfl rfl ?_ | refine neqI rfl rfl rfl ?_ | refine lssI rfl rfl rfl ?_ | refine leqI rfl rfl rfl ?_ | refine gtrI rfl rfl rfl ?_ | refine geqI rfl rfl rfl ?_))
        exact L.nil <| N.th (N.meet [(45, .bool false), (9, _), (11, _), (0, _), (3, _)] ⟨rfl, rfl, rfl, rfl, rfl, trivial⟩ ⟨by simp [Tr.at_of hp0, hg], rfl⟩)
  rintro E' w2' ⟨rfl, rfl⟩
  refine W.cond rfl (fun h => ?_) (fun h => ?_)
  · refine W.seq ?_
    refine W.reg <| asg rfl rfl <| L.nil ?_
    refine N.th ?_
    refine W.ret ?_
    refine N.rth ?_
    refine N.ret1 rfl rfl ?_   -- RETURN
    rw [if_pos h] at hplan
    rw [two_fail st hplan]
    exact ⟨rfl, ⟨_, _, hR2, hE⟩, hx02.none⟩
  rw [if_neg (by rw [h]; simp)] at hplan
  have hhere : (Tr.at_ m p).isSome = true := by cases hx : Tr.at_ m p <;> simp_all
  refine W.skip ?_
  refine N.th ?_
  refine W.seq ?_
  refine W.seqM (fun E' w' => E' = [(52, .bool (p == [] || Sp.within q p)), (9, .string (S p)), (11, .string (S q)), (0, pT rt), (3, .bool st)] ∧ w' = w2') ?_ ?_
  · refine W.reg <| mv rfl rfl <| eqlS (b := []) rfl rfl rfl ?_
    by_cases hp0 : p = []
    · refine Vc.bt (by simp [hp0]) ?_
      (repeat (first | refine mv rfl rfl ?_ | refine asg rfl rfl ?_ | refine L.off rfl rfl rfl rfl rfl ?_ | refine L.offU rfl rfl rfl rfl ?_ | refine L.on rfl rfl rfl ?_ | refine pickT rfl rfl rfl ?_ | refine pickF rfl rfl rfl ?_ | refine ext rfl rfl rfl ?_ | refine nilc rfl rfl ?_ | refine lenV (t := 46) rfl u_strs rfl ?_ | refine lenV (t := 25) rfl u_bytes rfl ?_ | refine lenV (t := 22) rfl u_files rfl ?_ | refine lenS (t := 9) rfl u_str rfl ?_ | refine eqlI rfl rfl rfl ?_ | refine neqI rfl rfl rfl ?_ | refine lssI rfl rfl rfl ?_ | refine leqI rfl rfl rfl ?_ | refine gtrI rfl rfl rfl ?_ | refine geqI rfl rfl rfl ?_))
      exact L.nil <| N.th (N.meet [(52, .bool true), (9, _), (11, _), (0, _), (3, _)] ⟨rfl, rfl, rfl, rfl, rfl, trivial⟩ ⟨by simp [hp0], rfl⟩)
    · refine Vc.bf (by simp [hp0]) ?_
      (repeat (first | refine mv rfl rfl ?_ | refine asg rfl rfl ?_ | refine L.off rfl rfl rfl rfl rfl ?_ | refine L.offU rfl rfl rfl rfl ?_ | refine L.on rfl rfl rfl ?_ | refine pickT rfl rfl rfl ?_ | refine pickF rfl rfl rfl ?_ | refine ext rfl rfl rfl ?_ | refine nilc rfl rfl ?_ | refine lenV (t := 46) rfl u_strs rfl ?_ | refine lenV (t := 25) rfl u_bytes rfl ?_ | refine lenV (t := 22) rfl u_files rfl ?_ | refine lenS (t := 9) rfl u_str rfl ?_ | refine eqlI rfl rfl rfl ?_ | refine neqI rfl rfl rfl ?_ | refine lssI rfl rfl rfl ?_ | refine leqI rfl rfl rfl ?_ | refine gtrI rfl rfl rfl ?_ | refine geqI rfl rfl rfl ?_))
      refine call (vs := [_, _]) rfl rfl ok_RWithin (c_RWithin q p w2') ?_
      rintro e w3 ⟨rfl, rfl⟩
      refine ⟨_, rfl, ?_⟩
      (repeat (first | refine mv rfl rfl ?_ | refine asg rfl rfl ?_ | refine L.off rfl rfl rfl rfl rfl ?_ | refine L.offU rfl rfl rfl rfl ?_ | refine L.on rfl rfl rfl ?_ | refine pickT rfl rfl rfl ?_ | refine pickF rfl rfl rfl ?_ | refine ext rfl rfl rfl ?_ | refine nilc rfl rfl ?_ | refine lenV (t := 46) rfl u_strs rfl ?_ | refine lenV (t := 25) rfl u_bytes rfl ?_ | refine lenV (t := 22) rfl u_files rfl ?_ | refine lenS (t := 9) rfl u_str rfl ?_ | refine eqlI rfl rfl rfl ?_ | refine neqI rfl rfl rfl ?_ | refine lssI rfl rfl rfl ?_ | refine leqI rfl rfl rfl ?_ | refine gtrI rfl rfl rfl ?_ | refine geqI rfl rfl rfl ?_))
      exact L.nil <| N.th (N.meet [(52, .bool (Sp.within q p)), (9, _), (11, _), (0, _), (3, _)] ⟨rfl, rfl, rfl, rfl, rfl, trivial⟩ ⟨by simp [hp0], rfl⟩)
  rintro E' w3 ⟨rfl, rfl⟩
  refine W.cond rfl (fun h => ?_) (fun h => ?_)
  · refine W.seq ?_
    refine W.reg <| asg rfl rfl <| L.nil ?_
    refine N.th ?_
    refine W.ret ?_
    refine N.rth ?_
    refine N.ret1 rfl rfl ?_   -- RETURN
    rw [if_pos (by simpa using h)] at hplan
    rw [two_fail st hplan]
    exact ⟨rfl, ⟨_, _, hR2, hE⟩, hx02.none⟩
  have hpw : ¬ (p = [] ∨ Sp.within q p = true) := by simpa using h
  rw [if_neg hpw] at hplan
  have hp0 : p ≠ [] := fun e => hpw (.inl e)
  have hout : Sp.within q p = false := by cases hx : Sp.within q p with | false => rfl | true => exact absurd (.inr hx) hpw
  refine W.skip ?_
  refine N.th ?_
  refine W.seq ?_
  refine W.seqM (fun E' w' => E' = [(60, .bool (Tr.at_ m q).isSome), (9, .string (S p)), (11, .string (S q)), (0, pT rt), (3, .bool st)] ∧ w' = w3) ?_ ?_
  · refine W.reg <| mv rfl rfl <| eqlS (b := []) rfl rfl rfl ?_
    by_cases hq0 : q = []
    · refine Vc.bt (by simp [hq0]) ?_
      (repeat (first | refine mv rfl rfl ?_ | refine asg rfl rfl ?_ | refine L.off rfl rfl rfl rfl rfl ?_ | refine L.offU rfl rfl rfl rfl ?_ | refine L.on rfl rfl rfl ?_ | refine pickT rfl rfl rfl ?_ | refine pickF rfl rfl rfl ?_ | refine ext rfl rfl rfl ?_ | refine nilc rfl rfl ?_ | refine lenV (t := 46) rfl u_strs rfl ?_ | refine lenV (t := 25) rfl u_bytes rfl ?_ | refine lenV (t := 22) rfl u_files rfl ?_ | refine lenS (t := 9) rfl u_str rfl ?_ | refine eqlI rfl rfl rfl ?_ | refine neqI rfl rfl rfl ?_ | refine lssI rfl rfl rfl ?_ | refine leqI rfl rfl rfl ?_ | refine gtrI rfl rfl rfl ?_ | refine geqI rfl rfl rfl ?_))
      exact L.nil <| N.th (N.meet [(60, .bool true), (9, _), (11, _), (0, _), (3, _)] ⟨rfl, rfl, rfl, rfl, rfl, trivial⟩ ⟨by simp [hq0, Tr.at_], rfl⟩)
    · refine Vc.bf (by simp [hq0]) ?_
      (repeat (first | refine mv rfl rfl ?_ | refine asg rfl rfl ?_ | refine L.off rfl rfl rfl rfl rfl ?_ | refine L.offU rfl rfl rfl rfl ?_ | refine L.on rfl rfl rfl ?_ | refine pickT rfl rfl rfl ?_ | refine pickF rfl rfl rfl ?_ | refine ext rfl rfl rfl ?_ | refine nilc rfl rfl ?_ | refine lenV (t := 46) rfl u_strs rfl ?_ | refine lenV (t := 25) rfl u_bytes rfl ?_ | refine lenV (t := 22) rfl u_files rfl ?_ | refine lenS (t := 9) rfl u_str rfl ?_ | refine eqlI rfl rfl rfl ?_ | refine neqI rfl rfl rfl ?_ | refine lssI rfl rfl rfl ?_ | refine leqI rfl rfl rfl ?_ | refine gtrI rfl rfl rfl ?_ | refine geqI rfl rfl rfl ?_))
      refine call (vs := [_, _]) rfl rfl ok_Rat (c_Rat q hR2 (by omega)) ?_
      rintro e w4 ⟨k, rfl, hk, rfl⟩
      refine ⟨_, rfl, ?_⟩
      rcases hk.of hE hok.nodup with ⟨rfl, hg⟩ | ⟨i, x, rfl, hxe, hg⟩
      · (repeat (first | refine mv rfl rfl ?_ | refine asg rfl rfl ?_ | refine L.off rfl rfl rfl rfl rfl ?_ | refine L.offU rfl rfl rfl rfl ?_ | refine L.on rfl rfl rfl ?_ | refine pickT rfl rfl rfl ?_ | refine pickF rfl rfl rfl ?_ | refine ext rfl rfl rfl ?_ | refine nilc rfl rfl ?_ | refine lenV (t := 46) rfl u_strs rfl ?_ | refine lenV (t := 25) rfl u_bytes rfl ?_ | refine lenV (t := 22) rfl u_files rfl ?_ | refine lenS (t := 9) rfl u_str rfl ?_ | refine eqlI rfl rfl rfl ?_ | refine neqI rfl rfl rfl ?_ | refine lssI rfl rfl rfl ?_ | refine leqI rfl rfl rfl ?_ | refine gtrI rfl rfl rfl ?_ | refine geqI rfl rfl rfl ?_))
        exact L.nil <| N.th (N.meet [(60, .bool false), (9, _), (11, _), (0, _), (3, _)] ⟨rfl, rfl, rfl, rfl, rfl, trivial⟩ ⟨by simp [Tr.at_of hq0, hg], rfl⟩)
      · (repeat (first | refine mv rfl rfl ?_ | refine asg rfl rfl ?_ | refine L.off rfl rfl rfl rfl rfl ?_ | refine L.offU rfl rfl rfl rfl ?_ | refine L.on rfl rfl rfl ?_ | refine pickT rfl rfl rfl ?_ | refine pickF rfl rfl rfl ?_ | refine ext rfl rfl rfl ?_ | refine nilc rfl rfl ?_ | refine lenV (t := 46) rfl u_strs rfl ?_ | refine lenV (t := 25) rfl u_bytes rfl ?_ | refine lenV (t := 22) rfl u_files rfl ?_ | refine lenS (t := 9) rfl u_str rfl ?_ | refine eqlI rfl rfl rfl ?_ | refine neqI rfl rfl rfl ?_ | refine lssI rfl rfl rfl ?_ | refine leqI rfl rfl rfl ?_ | refine gtrI rfl rfl rfl ?_ | refine geqI rfl rfl rfl ?_))
        exact L.nil <| N.th (N.meet [(60, .bool true), (9, _), (11, _), (0, _), (3, _)] ⟨rfl, rfl, rfl, rfl, rfl, trivial⟩ ⟨by simp [Tr.at_of hq0, hg], rfl⟩)
  rintro E' w4 ⟨rfl, rfl⟩
  refine W.cond rfl (fun h => ?_) (fun h => ?_)
  · refine W.seq ?_
    refine W.reg <| asg rfl rfl <| L.nil ?_
    refine N.th ?_
    refine W.ret ?_
    refine N.rth ?_
    refine N.ret1 rfl rfl ?_   -- RETURN
    rw [if_pos h] at hplan
    rw [two_fail st hplan]
    exact ⟨rfl, ⟨_, _, hR2, hE⟩, hx02.none⟩
  have hfree : Tr.at_ m q = none := by cases hx : Tr.at_ m q <;> simp_all
  rw [if_neg (by rw [h]; simp)] at hplan
  refine W.skip ?_
  refine N.th ?_
  refine W.seq ?_
  refine W.reg <| mv rfl rfl <| mv rfl rfl <| call (vs := [_, _]) rfl rfl ok_Rahead (c_Rahead q hR2 (by omega) (by omega)) ?_
  rintro e w5 ⟨hx5, he5⟩
  rw [hE, Tr.ahd_files hok.nodup] at he5
  have hx05 := hx02.trans hx5
  have hR5 := hR2.ext0 hx5
  cases hah : Tr.ahead m q with
  | none =>
    rw [(Tr.ahd_iff cq).2 hah] at he5
    dsimp only at he5
    subst he5
    refine ⟨_, rfl, ?_⟩
    refine mv rfl rfl <| ext rfl rfl rfl <| ext rfl rfl rfl <| asg rfl rfl <| asg rfl rfl <| L.nil ?_
    refine N.th ?_
    refine W.seq ?_
    refine W.seq ?_
    refine W.reg <| mv rfl rfl <| L.nil ?_
    refine N.th ?_
    refine W.condT rfl ?_
    refine W.seq ?_
    refine W.reg <| asg rfl rfl <| L.nil ?_
    refine N.th ?_
    refine W.ret ?_
    refine N.rth ?_
    refine N.ret1 rfl rfl ?_   -- RETURN
    rw [hah] at hplan
    rw [two_fail st hplan]
    exact ⟨rfl, ⟨_, _, hR5, hE⟩, hx05.none⟩
  | some lack =>
    cases hak : Tr.ahd m (Tr.ups (Sp.parts q)) with
    | none => have := (Tr.ahd_iff cq).1 hak; rw [hah] at this; cases this
    | some kk =>
    rw [hak] at he5
    dsimp only at he5
    obtain ⟨lkv, he5, hlk5⟩ := he5
    have hperm := Tr.ahd_perm cq hah hak
    have hkl := hperm.length_eq
    clear hplan
    subst he5
    refine ⟨_, rfl, ?_⟩
    refine mv rfl rfl <| ext rfl rfl rfl <| ext rfl rfl rfl <| asg rfl rfl <| asg rfl rfl <| L.nil ?_
    refine N.th ?_
    refine W.seq ?_
    refine W.seq ?_
    refine W.reg <| mv rfl rfl <| L.nil ?_
    refine N.th ?_
    refine W.condF rfl ?_
    refine W.skip ?_
    refine N.th ?_
    have F : Tr.Fine m s d lack := ⟨hcs, hcd, by rw [← hp]; exact hhere, by rw [← hp]; exact hp0, by rw [← hp, ← hq]; exact hout, by rw [← hq]; exact hfree, by rw [← hq]; exact hah⟩
    have hkeys : ∀ x ∈ E, x.1.length ≤ 1000000 ∧ x.2.2.2.length ≤ 100000000 := fun x hx => by
      have h1 : fnd x ∈ Tr.files m := by rw [← hE]; exact List.mem_map_of_mem hx
      have h2 := Tr.files_mem.1 h1
      obtain ⟨l, e, -, -, hl⟩ := Sp.Cl.of (hok.cleaned _ h2).2
      have h3 := hok.max _ h2
      have e1 : (fnd x).1.length = x.1.length := rfl
      have e2 : (fnd x).2.2.length = x.2.2.2.length := rfl
      omega
    refine W.seq ?_
    refine W.reg <| mv rfl rfl <| mv rfl rfl <| mv rfl rfl <| call (vs := [_, _, _]) rfl rfl ok_Rcopied (c_Rcopied p q hR5 (by omega) (by omega) hkeys) ?_
    rintro e w6 ⟨kv, K, rfl, hF6, hfK, -, hx6⟩
    refine ⟨_, rfl, ?_⟩
    refine asg rfl rfl <| L.nil ?_
    refine N.th ?_
    rw [files_eq_mvd p q hE] at hfK
    have hKl : K.length ≤ m.length := by
      have h1 := congrArg List.length hfK
      rw [fm_len, Tr.mvd_len] at h1
      have h2 := (Tr.below_perm m p).length_eq
      rw [List.length_map] at h2
      have h3 := List.length_filter_le (fun x : Tr.Bytes × Tr.Nd => Sp.within x.1 p) (Tr.files m)
      rw [Tr.files_len] at h3
      omega
    have hx06 := hx05.trans hx6
    have hR6 := hR5.ext0 hx6
    have hlk6 : StrsA w4.heap.size w6 lkv kk := own_ext hlk5 hx6 fun _ _ => id
    obtain ⟨ka, kc, rfl⟩ : ∃ a c, kv = .slice a K.length c := by
      obtain ⟨-, a, c, e, -⟩ := hF6.row
      exact ⟨a, c, e⟩
    obtain ⟨la, lc, rfl, -, -⟩ := own_slice hlk6
    have hdes := F.dests hok
    rw [← hp, ← hq, ← hfK] at hdes
    refine W.seq ?_
    refine W.seq ?_
    refine W.reg <| asg rfl rfl <| L.nil ?_
    refine N.th ?_
    refine W.block ?_
    refine W.loop (X := Nat) (fun j => [(15, .int .i64 j), (14, .slice ka K.length kc), (13, .slice la kk.length lc), (9, .string (S p)), (11, .string (S q)), (0, pT rt), (3, .bool st)]) (fun j w' => j ≤ K.length ∧ Ext none_ w6 w' ∧ ∀ y ∈ K.take j, (Sp.clean y.1).2 = 0) (fun j => K.length - j) 0 ⟨rfl, rfl, rfl, rfl, rfl, rfl, rfl, trivial⟩ ⟨by omega, Ext.refl _ _, by simp⟩ ?_
    rintro j w7 ⟨hj, hx7, hall⟩
    refine W.seq ?_
    refine W.seq ?_
    refine W.reg <| mv rfl rfl <| mv rfl rfl <| lenV rfl u_files rfl <| lssI rfl rfl rfl <| L.nil ?_
    refine N.th ?_
    refine W.cond rfl (fun h => ?_) (fun h => ?_)
    · refine W.skip ?_
      refine N.th ?_
      have hj1 : j < K.length := by simp at h; omega
      obtain ⟨y, hye⟩ : ∃ y, K[j]? = some y := ⟨_, List.getElem?_eq_getElem hj1⟩
      have hym := List.mem_of_getElem? hye
      have hF7 := hF6.ext0 hx7
      rcases hF7.row.form with ⟨h0, h3, _⟩ | ⟨b, o, c', h0, -, -, -, -⟩
      · omega
      cases h0
      refine W.seq ?_
      refine W.block ?_
      refine W.seq ?_
      refine W.reg <| mv rfl rfl <| mv rfl rfl <| ixa rfl rfl u_files sz_File rfl (by omega) (by omega) <| fad rfl fl_File_0 rfl <| ld1 rfl ag_str rfl (hF7.cell hye).1 <| call (vs := [_]) rfl rfl ok_RClean (c_RClean y.1 w7) ?_
      rintro e w8 ⟨rfl, hx8⟩
      refine ⟨_, rfl, ?_⟩
      refine mv rfl rfl <| ext rfl rfl rfl <| ext rfl rfl rfl <| asg rfl rfl <| asg rfl rfl <| L.nil ?_
      refine N.th ?_
      refine W.seq ?_
      refine W.reg <| mv rfl rfl <| neqI rfl rfl rfl <| L.nil ?_
      refine N.th ?_
      refine W.cond rfl (fun h => ?_) (fun h => ?_)
      · refine W.seq ?_
        refine W.reg <| asg rfl rfl <| L.nil ?_
        refine N.th ?_
        refine W.ret ?_
        refine N.rinb <| N.rth <| N.rth <| N.rinb <| N.rth ?_
        refine N.ret1 rfl rfl ?_   -- RETURN
        have hc : (Sp.clean y.1).2 ≠ 0 := by simpa using h
        rcases hdes with ⟨d1, -⟩ | ⟨-, d2⟩
        · exact absurd (d1 (fnd y) (List.mem_map_of_mem hym)) hc
        rw [two_fail st d2]
        have hxx := (hx06.trans hx7).trans hx8
        exact ⟨rfl, ⟨_, _, ‹RTAt w rt lv E›.ext0 hxx, hE⟩, hxx.none⟩
      · refine W.skip ?_
        refine N.inb ?_
        refine N.th ?_
        have hc : (Sp.clean y.1).2 = 0 := by simpa using h
        refine W.reg <| mv rfl rfl <| addI (c := ((j + 1 : Nat) : Int)) rfl rfl rfl (by rw [w64 (by omega) (by omega)]; simp) <| asg rfl rfl <| L.nil ?_
        refine N.th (N.round (x := j + 1) ⟨rfl, rfl, rfl, rfl, rfl, rfl, rfl, trivial⟩ ⟨by omega, hx7.trans hx8, ?_⟩ (by omega))   -- ROUND
        intro z hz
        rw [List.take_add_one, hye] at hz
        rcases List.mem_append.1 hz with hz | hz
        · exact hall z hz
        · simp at hz; rw [hz]; exact hc
    refine W.exit ?_
    refine N.xth ?_
    refine N.xth ?_
    refine N.xeq ?_
    refine N.th ?_
    have hjl : j = K.length := by simp at h; omega
    rw [hjl, List.take_length] at hall
    obtain ⟨v, hplan, hvl, hvs, hvb⟩ : ∃ v, Tr.plan m s d = (some v, 0) ∧ v.lack = lack ∧ v.src.length = K.length ∧ v.bytes = Tr.size (fm K) := by
      rcases hdes with ⟨-, v, d1, d2, d3, d4⟩ | ⟨⟨y, hy, hyc⟩, -⟩
      · exact ⟨v, d1, d2, by rw [d3, fm_len], d4⟩
      · obtain ⟨z, hz, rfl⟩ := List.mem_map.1 hy
        exact absurd (hall z hz) hyc
    have hPl := hok.planned hplan
    rw [← hp, ← hq] at hPl
    have hKs : Tr.size (fm K) ≤ 1048576 := by
      rw [hfK, Tr.mvd_size hok.nodup]
      have h1 := ((Tr.below_perm m p).map fun k => ((Tr.get m k).getD (true, [])).2.length).sum_nat
      rw [← h1]
      have h2 : (((Tr.files m).filter fun x => Sp.within x.1 p).map fun x => x.2.2.length).sum ≤ Tr.size (Tr.files m) := sum_sub (List.filter_sublist.map _)
      rw [Tr.files_size] at h2
      rw [List.map_map]
      have h3 : (((Tr.files m).filter fun x => Sp.within x.1 p).map ((fun k => ((Tr.get m k).getD (true, [])).2.length) ∘ fun x => x.1)) = ((Tr.files m).filter fun x => Sp.within x.1 p).map fun x => x.2.2.length := List.map_congr_left fun x hx => by
        have hm : x ∈ m := Tr.files_mem.1 (List.mem_filter.1 hx).1
        show ((Tr.get m x.1).getD (true, [])).2.length = _
        rw [Tr.mem_get hok.nodup (show (x.1, x.2) ∈ m from hm)]; rfl
      rw [h3]; omega
    refine W.seq ?_
    refine W.reg <| mv rfl rfl <| lenV rfl u_strs rfl <| asg rfl rfl <| asg rfl rfl <| L.nil ?_
    refine N.th ?_
    have hF7 := hF6.ext0 hx7
    have hlk7 : StrsA w4.heap.size w7 (.slice la kk.length lc) kk := own_ext hlk6 hx7 fun _ _ => id
    have hkk : kk.length ≤ 1000 := by
      rw [hkl]
      have := (Tr.ahead_some cq hah).2
      have h2 : lack.length ≤ q.length := Tr.ahead_len hah
      omega
    obtain ⟨more, hmore⟩ : ∃ more, more = kk.length + if st then K.length else 0 := ⟨_, rfl⟩
    obtain ⟨add, hadd⟩ : ∃ add, add = if st then Tr.size (fm K) else 0 := ⟨_, rfl⟩
    have hmore' : more ≤ 2000 := by rw [hmore]; split <;> omega
    have hadd' : add ≤ 1048576 := by rw [hadd]; split <;> omega
    refine W.seqM (fun E' w' => E' = [(18, .int .i64 more), (19, .int .i64 add), (14, .slice ka K.length kc), (13, .slice la kk.length lc), (9, .string (S p)), (0, pT rt), (3, .bool st)] ∧ w' = w7) ?_ ?_   -- CUT
    · refine W.seq ?_
      refine W.reg <| mv rfl rfl <| L.nil ?_
      refine N.th ?_
      cases st with
      | true =>
        refine W.condT rfl ?_
        refine W.seq ?_
        refine W.reg <| mv rfl rfl <| mv rfl rfl <| lenV rfl u_files rfl <| addI (c := (more : Int)) rfl rfl rfl (by rw [w64 (by omega) (by omega), hmore]; simp) <| asg rfl rfl <| L.nil ?_
        refine N.th ?_
        refine W.seq ?_
        refine W.reg <| asg rfl rfl <| L.nil ?_
        refine N.th ?_
        refine W.block ?_
        refine W.loop (X := Nat) (fun j => [(20, .int .i64 j), (19, .int .i64 (Tr.size (fm (K.take j)))), (18, .int .i64 more), (14, .slice ka K.length kc), (13, .slice la kk.length lc), (9, .string (S p)), (0, pT rt), (3, .bool true)]) (fun j w' => j ≤ K.length ∧ w' = w7) (fun j => K.length - j) 0 ⟨rfl, rfl, rfl, rfl, rfl, rfl, rfl, rfl, trivial⟩ ⟨by omega, rfl⟩ ?_
        rintro j w8 ⟨hj, rfl⟩
        refine W.seq ?_
        refine W.seq ?_
        refine W.reg <| mv rfl rfl <| mv rfl rfl <| lenV rfl u_files rfl <| lssI rfl rfl rfl <| L.nil ?_
        refine N.th ?_
        refine W.cond rfl (fun h => ?_) (fun h => ?_)
        · refine W.skip ?_
          refine N.th ?_
          have hj1 : j < K.length := by simp at h; omega
          obtain ⟨y, hye⟩ : ∃ y, K[j]? = some y := ⟨_, List.getElem?_eq_getElem hj1⟩
          have hym := List.mem_of_getElem? hye
          rcases hF7.row.form with ⟨h0, h3, _⟩ | ⟨b, o, c', h0, -, -, -, -⟩
          · omega
          cases h0
          obtain ⟨-, ya, yc, hyv, -⟩ := id (hF7.bytes y hym)
          have hc2 := (hF7.cell hye).2.2
          rw [hyv] at hc2
          have hst : Tr.size (fm (K.take (j + 1))) = Tr.size (fm (K.take j)) + y.2.2.2.length := by
            rw [List.take_add_one, hye]
            show Tr.size (List.map fnd (K.take j ++ [y])) = _
            rw [List.map_append, Tr.size_append]
            simp [Tr.size, fnd]
          have hle : Tr.size (fm (K.take (j + 1))) ≤ Tr.size (fm K) := by
            show ((List.map fnd (K.take (j + 1))).map _).sum ≤ ((List.map fnd K).map _).sum
            rw [List.map_map, List.map_map]
            exact sum_sub ((List.take_sublist _ _).map _)
          refine W.seq ?_
          refine W.block ?_
          refine W.reg <| mv rfl rfl <| mv rfl rfl <| mv rfl rfl <| ixa rfl rfl u_files sz_File rfl (by omega) (by omega) <| fad rfl fl_File_2 rfl <| ld1 rfl ag_bytes rfl hc2 <| lenV rfl u_bytes rfl <| addI (c := (Tr.size (fm (K.take (j + 1))) : Int)) rfl rfl rfl (by rw [w64 (by omega) (by omega)]; omega) <| asg rfl rfl <| L.nil ?_
          refine N.inb ?_
          refine N.th ?_
          refine W.reg <| mv rfl rfl <| addI (c := ((j + 1 : Nat) : Int)) rfl rfl rfl (by rw [w64 (by omega) (by omega)]; simp) <| asg rfl rfl <| L.nil ?_
          exact N.th (N.round (x := j + 1) ⟨rfl, rfl, rfl, rfl, rfl, rfl, rfl, rfl, trivial⟩ ⟨by omega, rfl⟩ (by omega))   -- ROUND
        · refine W.exit ?_
          refine N.xth ?_
          refine N.xth ?_
          refine N.xeq ?_
          have hjl : j = K.length := by simp at h; omega
          subst hjl
          rw [List.take_length]
          refine N.th (N.meet [(18, _), (19, _), (14, _), (13, _), (9, _), (0, _), (3, _)] ⟨rfl, rfl, rfl, rfl, rfl, rfl, rfl, trivial⟩ ⟨?_, rfl⟩)   -- MEET
          rw [hadd]; rfl
      | false =>
        refine W.condF rfl ?_
        refine W.skip ?_
        refine N.th (N.meet [(18, _), (19, _), (14, _), (13, _), (9, _), (0, _), (3, _)] ⟨rfl, rfl, rfl, rfl, rfl, rfl, rfl, trivial⟩ ⟨?_, rfl⟩)   -- MEET
        rw [hadd, hmore]; rfl
    rintro E' w8 ⟨rfl, rfl⟩
    have hx08 := hx06.trans hx7
    have hR8 := hR6.ext0 hx7
    obtain ⟨ea, ec, hlv, -⟩ := hR8.slice
    subst hlv
    refine W.seq ?_
    refine W.seqM (fun E' w' => E' = [(124, .bool (!Tr.room m more add)), (14, .slice ka K.length kc), (13, .slice la kk.length lc), (9, .string (S p)), (0, pT rt), (3, .bool st)] ∧ w' = w8) ?_ ?_
    · refine W.reg <| mv rfl rfl <| nilc rfl rfl <| fad rfl fl_RT_0 rfl <| ld1 rfl ag_files rfl hR8.c0 <| lenV rfl u_files rfl <| mv rfl rfl <| addI (c := ((E.length + more : Nat) : Int)) rfl rfl rfl (by rw [w64 (by omega) (by omega)]; simp) <| gtrI rfl rfl rfl ?_
      by_cases h1 : 500 < E.length + more
      · refine Vc.bt (by simp; omega) ?_
        (repeat (first | refine mv rfl rfl ?_ | refine asg rfl rfl ?_ | refine L.off rfl rfl rfl rfl rfl ?_ | refine L.offU rfl rfl rfl rfl ?_ | refine L.on rfl rfl rfl ?_ | refine pickT rfl rfl rfl ?_ | refine pickF rfl rfl rfl ?_ | refine ext rfl rfl rfl ?_ | refine nilc rfl rfl ?_ | refine lenV (t := 46) rfl u_strs rfl ?_ | refine lenV (t := 25) rfl u_bytes rfl ?_ | refine lenV (t := 22) rfl u_files rfl ?_ | refine lenS (t := 9) rfl u_str rfl ?_ | refine eqlI rfl rfl rfl ?_ | refine neqI rfl rfl rfl ?_ | refine lssI rfl rfl rfl ?_ | refine leqI rfl rfl rfl ?_ | refine gtrI rfl rfl rfl ?_ | refine geqI rfl rfl rfl ?_))
        refine L.nil <| N.th (N.meet [(124, .bool true), (14, _), (13, _), (9, _), (0, _), (3, _)] ⟨rfl, rfl, rfl, rfl, rfl, rfl, trivial⟩ ⟨?_, rfl⟩)
        have : Tr.room m more add = false := by
          unfold Tr.room
          rw [Bool.and_eq_false_iff]
          exact .inl (by simp; omega)
        rw [this]; rfl
      · refine Vc.bf (by simp; omega) ?_
        (repeat (first | refine mv rfl rfl ?_ | refine asg rfl rfl ?_ | refine L.off rfl rfl rfl rfl rfl ?_ | refine L.offU rfl rfl rfl rfl ?_ | refine L.on rfl rfl rfl ?_ | refine pickT rfl rfl rfl ?_ | refine pickF rfl rfl rfl ?_ | refine ext rfl rfl rfl ?_ | refine nilc rfl rfl ?_ | refine lenV (t := 46) rfl u_strs rfl ?_ | refine lenV (t := 25) rfl u_bytes rfl ?_ | refine lenV (t := 22) rfl u_files rfl ?_ | refine lenS (t := 9) rfl u_str rfl ?_ | refine eqlI rfl rfl rfl ?_ | refine neqI rfl rfl rfl ?_ | refine lssI rfl rfl rfl ?_ | refine leqI rfl rfl rfl ?_ | refine gtrI rfl rfl rfl ?_ | refine geqI rfl rfl rfl ?_))
        refine call (vs := [_]) rfl rfl ok_RSize (c_RSize hR8 (by omega) (by omega)) ?_
        rintro e w9 ⟨rfl, rfl⟩
        refine ⟨_, rfl, ?_⟩
        (repeat (first | refine mv rfl rfl ?_ | refine asg rfl rfl ?_ | refine L.off rfl rfl rfl rfl rfl ?_ | refine L.offU rfl rfl rfl rfl ?_ | refine L.on rfl rfl rfl ?_ | refine pickT rfl rfl rfl ?_ | refine pickF rfl rfl rfl ?_ | refine ext rfl rfl rfl ?_ | refine nilc rfl rfl ?_ | refine lenV (t := 46) rfl u_strs rfl ?_ | refine lenV (t := 25) rfl u_bytes rfl ?_ | refine lenV (t := 22) rfl u_files rfl ?_ | refine lenS (t := 9) rfl u_str rfl ?_ | refine eqlI rfl rfl rfl ?_ | refine neqI rfl rfl rfl ?_ | refine lssI rfl rfl rfl ?_ | refine leqI rfl rfl rfl ?_ | refine gtrI rfl rfl rfl ?_ | refine geqI rfl rfl rfl ?_))
        refine addI (c := ((Tr.size m + add : Nat) : Int)) rfl rfl rfl (by rw [w64 (by omega) (by omega)]; omega) ?_
        (repeat (first | refine mv rfl rfl ?_ | refine asg rfl rfl ?_ | refine L.off rfl rfl rfl rfl rfl ?_ | refine L.offU rfl rfl rfl rfl ?_ | refine L.on rfl rfl rfl ?_ | refine pickT rfl rfl rfl ?_ | refine pickF rfl rfl rfl ?_ | refine ext rfl rfl rfl ?_ | refine nilc rfl rfl ?_ | refine lenV (t := 46) rfl u_strs rfl ?_ | refine lenV (t := 25) rfl u_bytes rfl ?_ | refine lenV (t := 22) rfl u_files rfl ?_ | refine lenS (t := 9) rfl u_str rfl ?_ | refine eqlI rfl rfl rfl ?_ | refine neqI rfl rfl rfl ?_ | refine lssI rfl rfl rfl ?_ | refine leqI rfl rfl rfl ?_ | refine gtrI rfl rfl rfl ?_ | refine geqI rfl rfl rfl ?_))
        refine L.nil <| N.th (N.meet [(124, _), (14, _), (13, _), (9, _), (0, _), (3, _)] ⟨rfl, rfl, rfl, rfl, rfl, rfl, trivial⟩ ⟨?_, rfl⟩)
        have : (!Tr.room m more add) = decide ((1048576 : Int) < ((Tr.size m + add : Nat) : Int)) := by
          unfold Tr.room
          rw [show decide ((more : Int) ≤ 500 - (m.length : Int)) = true from decide_eq_true (by omega), Bool.true_and, ← decide_not]
          exact decide_eq_decide.2 (by omega)
        rw [this]
    rintro E' w9 ⟨rfl, rfl⟩
    have hroomE : Tr.room m more add = (if st then Tr.room m (v.lack.length + v.src.length) v.bytes else Tr.room m v.lack.length 0) := by
      rw [hmore, hadd, hvl, hvs, hvb, hkl]
      cases st <;> simp
    refine W.cond rfl (fun h => ?_) (fun h => ?_)
    · refine W.seq ?_
      refine W.reg <| asg rfl rfl <| L.nil ?_
      refine N.th ?_
      refine W.ret ?_
      refine N.rth ?_
      refine N.ret1 rfl rfl ?_   -- RETURN
      have hrf : Tr.room m more add = false := by simpa using h
      have : twoT m s d st = (m, 55) := by
        unfold twoT Tr.cpy Tr.rename
        rw [hplan]
        rw [hroomE] at hrf
        cases st
        · simpa using hrf
        · simpa using hrf
      rw [this]
      exact ⟨rfl, ⟨_, _, hR8, hE⟩, hx08.none⟩
    have hrt : Tr.room m more add = true := by simpa using h
    have hres : twoT m s d st = (if st then Tr.copy m v else Tr.drop (Tr.copy m v) v.src, 0) := by
      unfold twoT Tr.cpy Tr.rename
      rw [hplan]
      rw [hroomE] at hrt
      cases st
      · simp at hrt ⊢; simp [hrt]
      · simp at hrt ⊢; simp [hrt]
    rw [hres]
    obtain ⟨hrm, -⟩ := Tr.room_spec hrt
    refine W.skip ?_
    refine N.th ?_
    obtain ⟨m1, hm1⟩ : ∃ m1, m1 = if st then m else Tr.drop m (Tr.below m p) := ⟨_, rfl⟩
    have hm1l : m1.length ≤ 500 := by
      rw [hm1]
      split
      · omega
      · have := Tr.len_drop (Tr.below m p) m; omega
    refine W.seqM (fun E' w' => E' = [(14, .slice ka K.length kc), (13, .slice la kk.length lc), (0, pT rt)] ∧ (∃ lv1 E1, RTAt w' rt lv1 E1 ∧ fm E1 = Tr.files m1) ∧ Ext (fun k => k = rt) w9 w') ?_ ?_   -- CUT
    · refine W.seq ?_
      refine W.reg <| mv rfl rfl <| notB rfl rfl <| L.nil ?_
      refine N.th ?_
      cases st with
      | true =>
        refine W.condF rfl ?_
        refine W.skip ?_
        refine N.th (N.meet [(14, _), (13, _), (0, _)] ⟨rfl, rfl, rfl, trivial⟩ ⟨rfl, ⟨_, _, hR8, by rw [hm1]; exact hE⟩, Ext.refl _ _⟩)   -- MEET
      | false =>
        refine W.condT rfl ?_
        refine W.reg <| mv rfl rfl <| mv rfl rfl <| call (vs := [_, _]) rfl rfl ok_RRemove (c_RRemove p hR8 hE hok) ?_
        rintro e w10 ⟨rfl, hR10, hx10⟩
        refine ⟨_, rfl, ?_⟩
        have hrem : (Tr.remove m p).1 = m1 := by
          unfold Tr.remove
          rw [cp.clean, if_neg (by simp)]
          dsimp only
          rw [if_neg hp0, if_neg (by rw [Tr.at_of hp0] at hhere; cases hx : Tr.get m p <;> simp_all), hm1]
          rfl
        rw [hrem] at hR10
        refine L.nil ?_
        exact N.th (N.meet [(14, _), (13, _), (0, _)] ⟨rfl, rfl, rfl, trivial⟩ ⟨rfl, hR10, hx10⟩)   -- MEET
    rintro E' w10 ⟨rfl, ⟨lv1, E1, hR10, hE1⟩, hx10⟩
    have hE1l := len_of hE1
    have hlk10 := hR8.strs hlk7 hx10
    have hF10 : FilesAt w10 (.slice ka K.length kc) K := hF7.ext hx10 (rt_kd hR8)
    refine W.seq ?_
    refine W.reg <| mv rfl rfl <| mv rfl rfl <| call (vs := [_, _]) rfl rfl ok_Rmake (c_Rmake kk hR10 (Row.own hlk10) (by omega)) ?_
    rintro e w11 ⟨rfl, ⟨lv2, E2, hR11, hE2, hE2l⟩, hx11⟩
    refine ⟨_, rfl, ?_⟩
    refine L.nil ?_
    refine N.th ?_
    have hF11 : FilesAt w11 (.slice ka K.length kc) K := hF10.ext hx11 (rt_kd hR10)
    rw [hE1] at hE2
    refine W.seq ?_
    refine W.seq ?_
    refine W.reg <| asg rfl rfl <| L.nil ?_
    refine N.th ?_
    refine W.block ?_
    refine W.loop (X := Nat) (fun j => [(21, .int .i64 j), (14, .slice ka K.length kc), (0, pT rt)]) (fun j w' => j ≤ K.length ∧ (∃ lv' E', RTAt w' rt lv' E' ∧ fm E' = Tr.insM (Tr.insL (Tr.files m1) kk) (fm (K.take j)) ∧ E'.length ≤ E2.length + j) ∧ FilesAt w' (.slice ka K.length kc) K ∧ Ext (fun k => k = rt) w11 w') (fun j => K.length - j) 0 ⟨rfl, rfl, rfl, trivial⟩ ⟨by omega, ⟨_, _, hR11, hE2, by omega⟩, hF11, Ext.refl _ _⟩ ?_
    rintro j w12 ⟨hj, ⟨lv3, E3, hR12, hE3, hE3l⟩, hF12, hx12⟩
    refine W.seq ?_
    refine W.seq ?_
    refine W.reg <| mv rfl rfl <| mv rfl rfl <| lenV rfl u_files rfl <| lssI rfl rfl rfl <| L.nil ?_
    refine N.th ?_
    refine W.cond rfl (fun h => ?_) (fun h => ?_)
    · refine W.skip ?_
      refine N.th ?_
      have hj1 : j < K.length := by simp at h; omega
      obtain ⟨y, hye⟩ : ∃ y, K[j]? = some y := ⟨_, List.getElem?_eq_getElem hj1⟩
      have hym := List.mem_of_getElem? hye
      rcases hF12.row.form with ⟨h0, h3, _⟩ | ⟨b, o, c', h0, -, -, -, -⟩
      · omega
      cases h0
      refine W.seq ?_
      refine W.block ?_
      refine W.reg <| mv rfl rfl <| mv rfl rfl <| mv rfl rfl <| ixa rfl rfl u_files sz_File rfl (by omega) (by omega) <| ldk (cs := fcells y) rfl ag_File sz_File rfl rfl (fun i u hi => hF12.cells hye i u hi) <| call (vs := [_, _]) rfl rfl ok_Rput (c_Rput y hR12 (hF12.bytes y hym) (by omega)) ?_
      rintro e w13 ⟨rfl, lv4, E4, hR13, hE4, hE4l, hx13⟩
      refine ⟨_, rfl, ?_⟩
      refine L.nil ?_
      refine N.inb ?_
      refine N.th ?_
      refine W.reg <| mv rfl rfl <| addI (c := ((j + 1 : Nat) : Int)) rfl rfl rfl (by rw [w64 (by omega) (by omega)]; simp) <| asg rfl rfl <| L.nil ?_
      refine N.th (N.round (x := j + 1) ⟨rfl, rfl, rfl, trivial⟩ ⟨by omega, ⟨_, _, hR13, ?_, by omega⟩, hF12.ext hx13 (rt_kd hR12), hx12.trans hx13⟩ (by omega))   -- ROUND
      rw [hE4, hE3, List.take_add_one, hye]
      show _ = Tr.insM _ (List.map fnd (K.take j ++ [y]))
      rw [List.map_append]
      exact (insM_snoc _ _ (fnd y)).symm
    · refine W.exit ?_
      refine N.xth ?_
      refine N.xth ?_
      refine N.xeq ?_
      refine N.th ?_
      have hjl : j = K.length := by simp at h; omega
      rw [hjl, List.take_length] at hE3
      refine W.seq ?_
      refine W.reg <| asg rfl rfl <| L.nil ?_
      refine N.th ?_
      refine W.ret ?_
      refine N.ret1 rfl rfl ?_   -- RETURN
      refine ⟨rfl, ⟨lv3, E3, hR12, ?_⟩, ((hx08.none.trans hx10).trans hx11).trans hx12⟩
      rw [hE3, hfK, hm1]
      have hpk : kk.Perm v.lack := by rw [hvl]; exact hperm
      cases st with
      | true => exact Tr.two_copy hok hPl hpk
      | false => exact Tr.two_rename hok hPl hpk

theorem c_RRename {w : World} {rt : Nat} {lv : Value} {E : List FE} {m : Tr.T} (s d : Tr.Bytes) (h : RTAt w rt lv E) (hE : fm E = Tr.files m) (hok : Tr.Ok m) :
    Calls P 51 #[pT rt, .string (S s), .string (S d)] w (DoesR rt w (Tr.rename m s d)) := by
  refine enter (l := [_, _, _]) (n := 11) Tryz.func51 rfl rfl rfl ?_
  refine W.seq ?_
  refine W.reg <| asg rfl rfl <| L.nil ?_
  refine N.th ?_
  refine W.seq ?_
  refine W.reg <| mv rfl rfl <| mv rfl rfl <| mv rfl rfl <| call (vs := [_, _, _, .bool false]) rfl rfl ok_Rtwo (c_Rtwo s d false h hE hok) ?_
  rintro e w1 ⟨rfl, hR1, hx1⟩
  refine ⟨_, rfl, ?_⟩
  refine asg rfl rfl <| L.nil ?_
  refine N.th ?_
  refine W.ret ?_
  refine N.ret1 rfl rfl ?_   -- RETURN
  exact ⟨rfl, hR1, hx1⟩
theorem c_RCopy {w : World} {rt : Nat} {lv : Value} {E : List FE} {m : Tr.T} (s d : Tr.Bytes) (h : RTAt w rt lv E) (hE : fm E = Tr.files m) (hok : Tr.Ok m) :
    Calls P 52 #[pT rt, .string (S s), .string (S d)] w (DoesR rt w (Tr.cpy m s d)) := by
  refine enter (l := [_, _, _]) (n := 11) Tryz.func52 rfl rfl rfl ?_
  refine W.seq ?_
  refine W.reg <| asg rfl rfl <| L.nil ?_
  refine N.th ?_
  refine W.seq ?_
  refine W.reg <| mv rfl rfl <| mv rfl rfl <| mv rfl rfl <| call (vs := [_, _, _, .bool true]) rfl rfl ok_Rtwo (c_Rtwo s d true h hE hok) ?_
  rintro e w1 ⟨rfl, hR1, hx1⟩
  refine ⟨_, rfl, ?_⟩
  refine asg rfl rfl <| L.nil ?_
  refine N.th ?_
  refine W.ret ?_
  refine N.ret1 rfl rfl ?_   -- RETURN
  exact ⟨rfl, hR1, hx1⟩
end Go.Proofs.YtmdpmpdlkaogdaaGreatDoor
