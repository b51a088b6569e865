/- Walks: haversackref7.clean, Clean, Parts, Parent, Within. -/
import Derived.Test.YtmdpmpdlkaogdaaGreatDoorRa
import Derived.Test.YtmdpmpdlkaogdaaGreatDoorPe
namespace Go.Proofs.YtmdpmpdlkaogdaaGreatDoor
open Go Go.RowKit Vc

theorem ok_Rclean : FnOk P 64 := ⟨_, Tryz.func64, by kernel_rfl, by kernel_rfl⟩
theorem ok_RClean : FnOk P 26 := ⟨_, Tryz.func26, by kernel_rfl, by kernel_rfl⟩
theorem ok_RParts : FnOk P 42 := ⟨_, Tryz.func42, by kernel_rfl, by kernel_rfl⟩
theorem ok_RParent : FnOk P 44 := ⟨_, Tryz.func44, by kernel_rfl, by kernel_rfl⟩
theorem ok_RWithin : FnOk P 35 := ⟨_, Tryz.func35, by kernel_rfl, by kernel_rfl⟩

theorem part_cases (x : Sp.Bytes) : Sp.part x = 0 ∨ Sp.part x = 50 := by unfold Sp.part; split <;> (try split) <;> simp
theorem drop_sum (l : List Sp.Bytes) : (l.dropLast.map (fun x => x.length + 1)).sum ≤ (l.map (fun x => x.length + 1)).sum := by
  rw [List.dropLast_eq_take]
  conv => rhs; rw [← List.take_append_drop (l.length - 1) l]
  rw [List.map_append, List.sum_append]
  omega
theorem strsA_take {B : Nat} {w : World} {a : Option Addr} {c : Nat} {l : List Sp.Bytes} (h : StrsA B w (.slice a l.length c) l) : StrsA B w (.slice a (l.length - 1) c) l.dropLast := by
  have := own_take h (m := l.length - 1) (by omega)
  have e : (encT l).take ((l.length - 1) * 1) = encT l.dropLast := by simp [encT, List.dropLast_eq_take, List.map_take]
  rw [e] at this
  unfold StrsA
  rw [List.length_dropLast]; exact this

theorem c_Rclean (s : Sp.Bytes) (w : World) : Calls P 64 #[.string (S s), .slice none 0 0] w fun e w' => e = .returned (.tuple #[.string (S (Sp.clean s).1), .int .i64 (Sp.clean s).2]) ∧ Ext none_ w w' := by
  refine enter (l := [_, _]) (n := 77) Tryz.func64 rfl rfl rfl ?_
  refine W.seq ?_
  refine W.reg <| asg rfl rfl <| asg rfl rfl <| L.nil ?_
  refine N.th ?_
  refine W.seq ?_
  refine W.seq ?_
  refine W.reg <| mv rfl rfl <| lenS rfl u_str rfl <| gtrI rfl rfl rfl <| L.nil ?_
  refine N.th ?_
  refine W.cond rfl (fun h => ?_) (fun h => ?_)
  · refine W.seq ?_
    refine W.reg <| asg rfl rfl <| asg rfl rfl <| L.nil ?_
    refine N.th ?_
    refine W.ret ?_
    refine N.rth ?_
    refine N.ret2 rfl rfl rfl ?_   -- RETURN
    rw [clean_long (by simp at h; omega)]
    exact ⟨rfl, Ext.refl _ _⟩
  have h1 : ¬ 200 < s.length := by simp at h; omega
  refine W.skip ?_
  refine N.th ?_
  refine W.seqM (fun E w' => E = [(0, .string (S s)), (1, .slice none 0 0)] ∧ w' = w ∧ s.head? ≠ some 47) ?_ ?_
  · refine W.seqM (fun E w' => ∃ c, E = [(19, .bool c), (0, .string (S s)), (1, .slice none 0 0)] ∧ w' = w ∧ c = decide (s.head? = some 47)) ?_ ?_
    · refine W.reg <| mv rfl rfl <| lenS rfl u_str rfl <| gtrI rfl rfl rfl <| ?_
      cases s with
      | nil =>
        refine Vc.bf (by simp) ?_
        (repeat (first | refine mv rfl rfl ?_ | refine asg rfl rfl ?_ | refine L.off rfl rfl rfl rfl rfl ?_ | refine L.offU rfl rfl rfl rfl ?_ | refine L.on rfl rfl rfl ?_ | refine pickT rfl rfl rfl ?_ | refine pickF rfl rfl rfl ?_ | refine ext rfl rfl rfl ?_ | refine nilc rfl rfl ?_ | refine lenV (t := 46) rfl u_strs rfl ?_ | refine lenV (t := 25) rfl u_bytes rfl ?_ | refine lenV (t := 22) rfl u_files rfl ?_ | refine lenS (t := 9) rfl u_str rfl ?_ | refine eqlI rfl rfl rfl ?_ | refine neqI rfl rfl rfl ?_ | refine lssI rfl rfl rfl ?_ | refine leqI rfl rfl rfl ?_ | refine gtrI rfl rfl rfl ?_ | refine geqI rfl rfl rfl ?_))
        refine L.nil ?_
        exact N.th (N.meet [(19, .bool false), (0, _), (1, _)] ⟨rfl, rfl, rfl, trivial⟩ ⟨_, rfl, rfl, rfl⟩)
      | cons b s =>
        refine Vc.bt (by simp) ?_
        (repeat (first | refine mv rfl rfl ?_ | refine asg rfl rfl ?_ | refine L.off rfl rfl rfl rfl rfl ?_ | refine L.offU rfl rfl rfl rfl ?_ | refine L.on rfl rfl rfl ?_ | refine pickT rfl rfl rfl ?_ | refine pickF rfl rfl rfl ?_ | refine ext rfl rfl rfl ?_ | refine nilc rfl rfl ?_ | refine lenV (t := 46) rfl u_strs rfl ?_ | refine lenV (t := 25) rfl u_bytes rfl ?_ | refine lenV (t := 22) rfl u_files rfl ?_ | refine lenS (t := 9) rfl u_str rfl ?_ | refine eqlI rfl rfl rfl ?_ | refine neqI rfl rfl rfl ?_ | refine lssI rfl rfl rfl ?_ | refine leqI rfl rfl rfl ?_ | refine gtrI rfl rfl rfl ?_ | refine geqI rfl rfl rfl ?_))
        refine idxS rfl rfl u_str rfl (by omega) (b := b) rfl ?_
        (repeat (first | refine mv rfl rfl ?_ | refine asg rfl rfl ?_ | refine L.off rfl rfl rfl rfl rfl ?_ | refine L.offU rfl rfl rfl rfl ?_ | refine L.on rfl rfl rfl ?_ | refine pickT rfl rfl rfl ?_ | refine pickF rfl rfl rfl ?_ | refine ext rfl rfl rfl ?_ | refine nilc rfl rfl ?_ | refine lenV (t := 46) rfl u_strs rfl ?_ | refine lenV (t := 25) rfl u_bytes rfl ?_ | refine lenV (t := 22) rfl u_files rfl ?_ | refine lenS (t := 9) rfl u_str rfl ?_ | refine eqlI rfl rfl rfl ?_ | refine neqI rfl rfl rfl ?_ | refine lssI rfl rfl rfl ?_ | refine leqI rfl rfl rfl ?_ | refine gtrI rfl rfl rfl ?_ | refine geqI rfl rfl rfl ?_))
        refine L.nil ?_
        refine N.th (N.meet [(19, _), (0, _), (1, _)] ⟨rfl, rfl, rfl, trivial⟩ ⟨_, rfl, rfl, ?_⟩)
        apply Bool.eq_iff_iff.2
        simp only [decide_eq_true_eq, List.head?_cons, Option.some.injEq]
        constructor
        · intro e; exact UInt8.toNat_inj.1 (by simp; omega)
        · intro e; subst e; rfl
    rintro E w2 ⟨c, rfl, rfl, hc⟩
    refine W.cond rfl (fun h => ?_) (fun h => ?_)
    · refine W.seq ?_
      refine W.reg <| asg rfl rfl <| asg rfl rfl <| L.nil ?_
      refine N.th ?_
      refine W.ret ?_
      refine N.rth ?_
      refine N.ret2 rfl rfl rfl ?_   -- RETURN
      rw [clean_abs h1 (by rw [h] at hc; simpa using hc.symm)]
      exact ⟨rfl, Ext.refl _ _⟩
    · refine W.skip ?_
      exact N.th (N.meet [(0, _), (1, _)] ⟨rfl, rfl, trivial⟩ ⟨rfl, rfl, by rw [h] at hc; simpa using hc.symm⟩)
  rintro E w2 ⟨rfl, rfl, hhead⟩
  rw [clean_walk h1 hhead]
  refine W.seq ?_
  refine W.reg <| mv rfl rfl <| appN rfl rfl rfl el_strs (Nat.le_refl _) <| asg rfl rfl <| L.nil ?_
  refine N.th ?_
  refine W.seq ?_
  refine W.reg <| mv rfl rfl <| call (vs := [_]) rfl rfl ok_RSplit (c_RSplit s (by omega) w2) ?_
  rintro e w3 ⟨lv, rfl, hlv, hx3⟩
  refine ⟨_, rfl, ?_⟩
  refine asg rfl rfl <| L.nil ?_
  refine N.th ?_
  refine W.seq ?_
  refine W.seq ?_
  refine W.reg <| asg rfl rfl <| L.nil ?_
  refine N.th ?_
  refine W.block ?_
  have hsl := split_len s
  obtain ⟨Ls, hLs⟩ : ∃ Ls, Ls = Sp.split s := ⟨_, rfl⟩
  rw [← hLs] at hlv hsl ⊢
  have hsum := split_sum s
  rw [← hLs] at hsum
  obtain ⟨la, lc, rfl, hlc, hlm⟩ := own_slice hlv
  refine W.loop (X := Nat × List Sp.Bytes × Value) (fun x => [(1, .slice none 0 0), (6, x.2.2), (7, .slice la Ls.length lc), (8, .int .i64 x.1)])
    (fun x w' => StrsA w3.heap.size w' x.2.2 x.2.1 ∧ Ext none_ w3 w' ∧ x.1 ≤ Ls.length ∧ x.2.1.length ≤ x.1 ∧ Sp.walk 0 [] Ls = Sp.walk 0 x.2.1 (Ls.drop x.1) ∧ (x.2.1.map (fun x => x.length + 1)).sum + ((Ls.drop x.1).map (fun x => x.length + 1)).sum ≤ s.length + 1) (fun x => Ls.length - x.1) (0, [], .slice none 0 0) ⟨rfl, rfl, rfl, rfl, trivial⟩
    ⟨own_nil _ _ _ _, Ext.refl _ _, by simp, by simp, by simp, by simp [hsum]⟩ ?_
  rintro ⟨i, out, v⟩ w4 ⟨hown, hx, hi, hol, hwk, hsm⟩
  dsimp only at hown hx hi hol hwk hsm ⊢
  refine W.seq ?_
  refine W.seq ?_
  refine W.reg <| mv rfl rfl <| mv rfl rfl <| lenV rfl u_strs rfl <| lssI rfl rfl rfl <| L.nil ?_
  refine N.th ?_
  refine W.cond rfl (fun h => ?_) (fun h => ?_)
  · refine W.skip ?_
    refine N.th ?_
    have hi1 : i < Ls.length := by simp at h; omega
    obtain ⟨x, hxe⟩ : ∃ x, Ls[i]? = some x := ⟨_, List.getElem?_eq_getElem hi1⟩
    have hdr : Ls.drop i = x :: Ls.drop (i + 1) := by
      obtain ⟨h, rfl⟩ := List.getElem?_eq_some_iff.1 hxe
      exact List.drop_eq_getElem_cons h
    rw [hdr] at hwk hsm
    simp only [List.map_cons, List.sum_cons] at hsm
    have hxl : x.length ≤ s.length := hsl.2 x (List.mem_of_getElem? hxe)
    have hrow4 := (Row.own hlv).ext0 hx
    rcases hrow4.form with ⟨h0, h3, _⟩ | ⟨lb, lo, lc', h0, -, -, -, hcell⟩
    · omega
    cases h0
    have hcx : w4.cell? ⟨lb, lo + i * 1, none⟩ = some (.string (S x)) := by rw [Nat.mul_one]; exact hcell i _ (by simp [encT, hxe])
    refine W.seqM (fun E w' => ∃ (out' : List Sp.Bytes) (v' : Value), E = [(1, .slice none 0 0), (6, v'), (7, .slice (some ⟨lb, lo, none⟩) Ls.length lc), (8, .int .i64 i)] ∧ StrsA w3.heap.size w' v' out' ∧ Ext none_ w3 w' ∧ out'.length ≤ i + 1 ∧ Sp.walk 0 [] Ls = Sp.walk 0 out' (Ls.drop (i + 1)) ∧ (out'.map (fun x => x.length + 1)).sum + ((Ls.drop (i + 1)).map (fun x => x.length + 1)).sum ≤ s.length + 1) ?_ ?_   -- CUT
    · refine W.block ?_
      refine W.block ?_
      refine W.seqM (fun E w' => ∃ c, E = [(37, .bool c), (1, .slice none 0 0), (6, v), (7, .slice (some ⟨lb, lo, none⟩) Ls.length lc), (8, .int .i64 i)] ∧ w' = w4 ∧ (c = true → x = [] ∨ x = [46]) ∧ (c = false → x ≠ [] ∧ x ≠ [46])) ?_ ?_
      · refine W.reg <| mv rfl rfl <| mv rfl rfl <| ixa rfl rfl u_strs sz_str rfl (by omega) (by omega) <| ld1 rfl ag_str rfl hcx <| eqlS (b := []) rfl rfl rfl <| ?_
        by_cases he : x = []
        · refine Vc.bt (by simp [he]) ?_
          (repeat (first | refine mv rfl rfl ?_ | refine asg rfl rfl ?_ | refine L.off rfl rfl rfl rfl rfl ?_ | refine L.offU rfl rfl rfl rfl ?_ | refine L.on rfl rfl rfl ?_ | refine pickT rfl rfl rfl ?_ | refine pickF rfl rfl rfl ?_ | refine ext rfl rfl rfl ?_ | refine nilc rfl rfl ?_ | refine lenV (t := 46) rfl u_strs rfl ?_ | refine lenV (t := 25) rfl u_bytes rfl ?_ | refine lenV (t := 22) rfl u_files rfl ?_ | refine lenS (t := 9) rfl u_str rfl ?_ | refine eqlI rfl rfl rfl ?_ | refine neqI rfl rfl rfl ?_ | refine lssI rfl rfl rfl ?_ | refine leqI rfl rfl rfl ?_ | refine gtrI rfl rfl rfl ?_ | refine geqI rfl rfl rfl ?_))
          refine L.nil ?_
          exact N.th (N.meet [(37, .bool true), (1, _), (6, _), (7, _), (8, _)] ⟨rfl, rfl, rfl, rfl, rfl, trivial⟩ ⟨_, rfl, rfl, fun _ => .inl he, fun h => by cases h⟩)
        · refine Vc.bf (by simpa using he) ?_
          (repeat (first | refine mv rfl rfl ?_ | refine asg rfl rfl ?_ | refine L.off rfl rfl rfl rfl rfl ?_ | refine L.offU rfl rfl rfl rfl ?_ | refine L.on rfl rfl rfl ?_ | refine pickT rfl rfl rfl ?_ | refine pickF rfl rfl rfl ?_ | refine ext rfl rfl rfl ?_ | refine nilc rfl rfl ?_ | refine lenV (t := 46) rfl u_strs rfl ?_ | refine lenV (t := 25) rfl u_bytes rfl ?_ | refine lenV (t := 22) rfl u_files rfl ?_ | refine lenS (t := 9) rfl u_str rfl ?_ | refine eqlI rfl rfl rfl ?_ | refine neqI rfl rfl rfl ?_ | refine lssI rfl rfl rfl ?_ | refine leqI rfl rfl rfl ?_ | refine gtrI rfl rfl rfl ?_ | refine geqI rfl rfl rfl ?_))
          refine ixa rfl rfl u_strs sz_str rfl (by omega) (by omega) <| L.on rfl rfl rfl <| ld1 rfl ag_str rfl hcx <| L.on rfl rfl rfl <| eqlS (b := [46]) rfl rfl rfl <| ?_
          (repeat (first | refine mv rfl rfl ?_ | refine asg rfl rfl ?_ | refine L.off rfl rfl rfl rfl rfl ?_ | refine L.offU rfl rfl rfl rfl ?_ | refine L.on rfl rfl rfl ?_ | refine pickT rfl rfl rfl ?_ | refine pickF rfl rfl rfl ?_ | refine ext rfl rfl rfl ?_ | refine nilc rfl rfl ?_ | refine lenV (t := 46) rfl u_strs rfl ?_ | refine lenV (t := 25) rfl u_bytes rfl ?_ | refine lenV (t := 22) rfl u_files rfl ?_ | refine lenS (t := 9) rfl u_str rfl ?_ | refine eqlI rfl rfl rfl ?_ | refine neqI rfl rfl rfl ?_ | refine lssI rfl rfl rfl ?_ | refine leqI rfl rfl rfl ?_ | refine gtrI rfl rfl rfl ?_ | refine geqI rfl rfl rfl ?_))
          refine L.nil ?_
          exact N.th (N.meet [(37, _), (1, _), (6, _), (7, _), (8, _)] ⟨rfl, rfl, rfl, rfl, rfl, trivial⟩ ⟨_, rfl, rfl, fun h => .inr (by simpa using h), fun h => ⟨he, by simpa using h⟩⟩)
      rintro E w5 ⟨c, rfl, rfl, hc1, hc2⟩
      refine W.cond rfl (fun h => ?_) (fun h => ?_)
      · refine W.skip ?_
        refine N.inb ?_
        refine N.inb ?_
        refine N.th (N.meet [(1, _), (6, _), (7, _), (8, _)] ⟨rfl, rfl, rfl, rfl, trivial⟩ ⟨out, v, rfl, hown, hx, by omega, ?_, by omega⟩)   -- MEET
        rw [hwk, walk_skip (hc1 h)]
      obtain ⟨hne0, hne1⟩ := hc2 h
      refine W.seq ?_
      refine W.reg <| mv rfl rfl <| mv rfl rfl <| ixa rfl rfl u_strs sz_str rfl (by omega) (by omega) <| ld1 rfl ag_str rfl hcx <| eqlS (b := [46, 46]) rfl rfl rfl <| asg rfl rfl <| L.nil ?_
      refine N.th ?_
      refine W.cond rfl (fun h => ?_) (fun h => ?_)
      · obtain rfl : x = [46, 46] := by simpa using h
        obtain ⟨oa, oc, rfl, hoc, hom⟩ := own_slice hown
        refine W.seq ?_
        refine W.seq ?_
        refine W.reg <| mv rfl rfl <| lenV rfl u_strs rfl <| mv rfl rfl <| lenV rfl u_strs rfl <| leqI rfl rfl rfl <| L.nil ?_
        refine N.th ?_
        refine W.cond rfl (fun h => ?_) (fun h => ?_)
        · refine W.seq ?_
          refine W.reg <| asg rfl rfl <| asg rfl rfl <| L.nil ?_
          refine N.th ?_
          refine W.ret ?_
          refine N.rth <| N.rinb <| N.rinb <| N.rth <| N.rth <| N.rinb <| N.rth ?_
          refine N.ret2 rfl rfl rfl ?_   -- RETURN
          have h0 : out.length = 0 := by have := of_decide_eq_true h; omega
          rw [hwk, walk_esc h0]
          exact ⟨rfl, hx3.trans hx⟩
        · have h0 : out.length ≠ 0 := by have := of_decide_eq_false h; omega
          refine W.skip ?_
          refine N.th ?_
          refine W.reg <| mv rfl rfl <| mv rfl rfl <| lenV rfl u_strs rfl <| subI (c := ((out.length - 1 : Nat) : Int)) rfl rfl rfl (by rw [w64 (by omega) (by omega)]; omega) <| slVh rfl rfl u_strs el_strs.szB rfl (by omega) (by omega) <| asg rfl rfl <| L.nil ?_
          refine N.inb ?_
          refine N.inb ?_
          refine N.th (N.meet [(1, _), (6, .slice oa (out.length - 1) oc), (7, _), (8, _)] ⟨rfl, rfl, rfl, rfl, trivial⟩ ⟨out.dropLast, .slice oa (out.length - 1) oc, rfl, strsA_take hown, hx, by simp; omega, ?_, ?_⟩)   -- MEET
          · rw [hwk, walk_up h0]
          · have : (out.dropLast.map (fun x => x.length + 1)).sum ≤ (out.map (fun x => x.length + 1)).sum := drop_sum _
            omega
      have hne2 : x ≠ [46, 46] := by simpa using h
      refine W.seq ?_
      refine W.reg <| mv rfl rfl <| mv rfl rfl <| ixa rfl rfl u_strs sz_str rfl (by omega) (by omega) <| ld1 rfl ag_str rfl hcx <| call (vs := [_]) rfl rfl ok_Rbad (c_Rbad x (by omega) w5) ?_
      rintro e w6 ⟨rfl, rfl⟩
      refine ⟨_, rfl, ?_⟩
      refine asg rfl rfl <| L.nil ?_
      refine N.th ?_
      refine W.cond rfl (fun h => ?_) (fun h => ?_)
      · have hp : Sp.part x ≠ 0 := by simpa [rbad] using h
        refine W.seq ?_
        refine W.reg <| asg rfl rfl <| asg rfl rfl <| L.nil ?_
        refine N.th ?_
        refine W.ret ?_
        refine N.rinb <| N.rinb <| N.rth <| N.rth <| N.rinb <| N.rth ?_
        refine N.ret2 rfl rfl rfl ?_   -- RETURN
        rw [hwk, walk_bad hne0 hne1 hne2 hp, (part_cases x).resolve_left hp]
        exact ⟨rfl, hx3.trans hx⟩
      · have hp : Sp.part x = 0 := by simpa [rbad] using h
        refine W.reg <| mv rfl rfl <| mv rfl rfl <| mv rfl rfl <| ixa rfl rfl u_strs sz_str rfl (by omega) (by omega) <| ld1 rfl ag_str rfl hcx <| push1 (cs := #[.string (S x)]) rfl rfl rfl rfl (fun _ => by kernel_rfl) el_strs rfl rfl hown (by omega) (by simp only [maxLen]; omega) hx.size fun v' w7 hown7 hx7 => ?_
        refine asg rfl rfl <| L.nil ?_
        refine N.inb ?_
        refine N.inb ?_
        refine N.th (N.meet [(1, _), (6, v'), (7, _), (8, _)] ⟨rfl, rfl, rfl, rfl, trivial⟩ ⟨out ++ [x], v', rfl, by simpa [StrsA, encT] using hown7, hx.own hown hx7, by simp; omega, ?_, ?_⟩)   -- MEET
        · rw [hwk, walk_part hne0 hne1 hne2 hp]
        · simp only [List.map_append, List.map_cons, List.map_nil, List.sum_append, List.sum_cons, List.sum_nil]; omega
    rintro E w5 ⟨out', v', rfl, hown', hx', hol', hwk', hsm'⟩
    refine W.reg <| mv rfl rfl <| addI (c := ((i + 1 : Nat) : Int)) rfl rfl rfl (by rw [w64 (by omega) (by omega)]; simp) <| asg rfl rfl <| L.nil ?_
    exact N.th (N.round (x := (i + 1, out', v')) ⟨rfl, rfl, rfl, rfl, trivial⟩ ⟨hown', hx', by dsimp only; omega, hol', hwk', hsm'⟩ (by dsimp only; omega))   -- ROUND
  · refine W.exit ?_
    refine N.xth ?_
    refine N.xth ?_
    refine N.xeq ?_
    refine N.th ?_
    have hil : i = Ls.length := by simp at h; omega
    subst hil
    rw [List.drop_length] at hwk hsm
    obtain ⟨oa, oc, rfl, hoc, hom⟩ := own_slice hown
    refine W.seq ?_
    refine W.seq ?_
    refine W.reg <| mv rfl rfl <| lenV rfl u_strs rfl <| gtrI rfl rfl rfl <| L.nil ?_
    refine N.th ?_
    refine W.cond rfl (fun h => ?_) (fun h => ?_)
    · have h12 : 12 < out.length := by simp at h; omega
      refine W.seq ?_
      refine W.reg <| asg rfl rfl <| asg rfl rfl <| L.nil ?_
      refine N.th ?_
      refine W.ret ?_
      refine N.rth ?_
      refine N.ret2 rfl rfl rfl ?_   -- RETURN
      rw [hwk]
      unfold Sp.walk
      rw [if_pos h12]
      exact ⟨rfl, hx3.trans hx⟩
    · have h12 : ¬ 12 < out.length := by simp at h; omega
      refine W.skip ?_
      refine N.th ?_
      refine W.seq ?_
      have hgl := glue_len out
      refine W.reg <| mv rfl rfl <| call (vs := [_]) rfl rfl ok_Rglue (c_Rglue w4 _ out (Row.own hown) (by omega) (by omega)) ?_
      rintro e w5 ⟨rfl, rfl⟩
      refine ⟨_, rfl, ?_⟩
      refine asg rfl rfl <| asg rfl rfl <| L.nil ?_
      refine N.th ?_
      refine W.ret ?_
      refine N.ret2 rfl rfl rfl ?_   -- RETURN
      rw [hwk]
      unfold Sp.walk
      rw [if_neg h12]
      exact ⟨rfl, hx3.trans hx⟩

theorem c_RClean (s : Sp.Bytes) (w : World) : Calls P 26 #[.string (S s)] w fun e w' => e = .returned (.tuple #[.string (S (Sp.clean s).1), .int .i64 (Sp.clean s).2]) ∧ Ext none_ w w' := by
  refine enter (l := [_]) (n := 8) Tryz.func26 rfl rfl rfl ?_
  refine W.seq ?_
  refine W.reg <| asg rfl rfl <| asg rfl rfl <| L.nil ?_
  refine N.th ?_
  refine W.seq ?_
  refine W.reg <| mv rfl rfl <| call (vs := [_, _]) rfl rfl ok_Rclean (c_Rclean s w) ?_
  rintro e w1 ⟨rfl, hx⟩
  refine ⟨_, rfl, ?_⟩
  refine ext rfl rfl rfl <| ext rfl rfl rfl <| asg rfl rfl <| asg rfl rfl <| L.nil ?_
  refine N.th ?_
  refine W.ret ?_
  refine N.ret2 rfl rfl rfl ?_   -- RETURN
  exact ⟨rfl, hx⟩

theorem c_RParts (p : Sp.Bytes) (hp : p.length ≤ 1000000000) (w : World) : Calls P 42 #[.string (S p)] w fun e w' => ∃ v, e = .returned v ∧ StrsA w.heap.size w' v (Sp.parts p) ∧ Ext none_ w w' := by
  refine enter (l := [_]) (n := 7) Tryz.func42 rfl rfl rfl ?_
  refine W.seq ?_
  refine W.reg <| asg rfl rfl <| L.nil ?_
  refine N.th ?_
  refine W.seq ?_
  refine W.seq ?_
  refine W.reg <| mv rfl rfl <| eqlS (b := []) rfl rfl rfl <| L.nil ?_
  refine N.th ?_
  unfold Sp.parts
  refine W.cond rfl (fun h => ?_) (fun h => ?_)
  · refine W.seq ?_
    refine W.reg <| asg rfl rfl <| L.nil ?_
    refine N.th ?_
    refine W.ret ?_
    refine N.rth ?_
    refine N.ret1 rfl rfl ?_   -- RETURN
    rw [if_pos (by simpa using h)]
    exact ⟨_, rfl, own_nil _ _ _ _, Ext.refl _ _⟩
  · refine W.skip ?_
    refine N.th ?_
    refine W.seq ?_
    refine W.reg <| mv rfl rfl <| call (vs := [_]) rfl rfl ok_RSplit (c_RSplit p hp w) ?_
    rintro e w1 ⟨v, rfl, hv, hx⟩
    refine ⟨_, rfl, ?_⟩
    refine asg rfl rfl <| L.nil ?_
    refine N.th ?_
    refine W.ret ?_
    refine N.ret1 rfl rfl ?_   -- RETURN
    rw [if_neg (by simpa using h)]
    exact ⟨_, rfl, hv, hx⟩
theorem parts_sum (p : Sp.Bytes) : ((Sp.parts p).map (fun x => x.length + 1)).sum ≤ p.length + 1 ∧ (Sp.parts p).length ≤ p.length + 1 := by
  unfold Sp.parts
  split
  · simp
  · rw [split_sum]; exact ⟨Nat.le_refl _, (split_len p).1⟩

theorem c_RParent (p : Sp.Bytes) (hp : p.length ≤ 100000000) (w : World) : Calls P 44 #[.string (S p)] w fun e w' => e = .returned (.string (S (Sp.glue (Sp.parts p).dropLast))) ∧ Ext none_ w w' := by
  refine enter (l := [_]) (n := 15) Tryz.func44 rfl rfl rfl ?_
  refine W.seq ?_
  refine W.reg <| asg rfl rfl <| L.nil ?_
  refine N.th ?_
  refine W.seq ?_
  refine W.reg <| mv rfl rfl <| call (vs := [_]) rfl rfl ok_RParts (c_RParts p (by omega) w) ?_
  rintro e w1 ⟨v, rfl, hv, hx⟩
  refine ⟨_, rfl, ?_⟩
  obtain ⟨hps, hpl⟩ := parts_sum p
  generalize Sp.parts p = l at hv hps hpl ⊢
  obtain ⟨a, c, rfl, hc, hm⟩ := own_slice hv
  refine asg rfl rfl <| L.nil ?_
  refine N.th ?_
  refine W.seq ?_
  refine W.seq ?_
  refine W.reg <| mv rfl rfl <| lenV rfl u_strs rfl <| eqlI rfl rfl rfl <| L.nil ?_
  refine N.th ?_
  refine W.cond rfl (fun h => ?_) (fun h => ?_)
  · refine W.seq ?_
    refine W.reg <| asg rfl rfl <| L.nil ?_
    refine N.th ?_
    refine W.ret ?_
    refine N.rth ?_
    refine N.ret1 rfl rfl ?_   -- RETURN
    have h0 : l = [] := List.eq_nil_of_length_eq_zero (by have := of_decide_eq_true h; omega)
    subst h0
    exact ⟨rfl, hx⟩
  · refine W.skip ?_
    refine N.th ?_
    refine W.seq ?_
    have h0 : l ≠ [] := by intro e; subst e; simp at h
    have hl : 0 < l.length := by cases l with | nil => exact absurd rfl h0 | cons _ _ => simp
    have hd := strsA_take hv
    have hgl := glue_len l.dropLast
    have : (l.dropLast.map (fun x => x.length + 1)).sum ≤ (l.map (fun x => x.length + 1)).sum := drop_sum _
    refine W.reg <| mv rfl rfl <| mv rfl rfl <| lenV rfl u_strs rfl <| subI (c := ((l.length - 1 : Nat) : Int)) rfl rfl rfl (by rw [w64 (by omega) (by omega)]; omega) <| slVh rfl rfl u_strs el_strs.szB rfl (by omega) (by omega) <| call (vs := [.slice a (l.length - 1) c]) rfl rfl ok_Rglue (c_Rglue w1 _ l.dropLast (Row.own (by simpa [StrsA] using hd)) (by omega) (by simp; omega)) ?_
    rintro e w2 ⟨rfl, rfl⟩
    refine ⟨_, rfl, ?_⟩
    refine asg rfl rfl <| L.nil ?_
    refine N.th ?_
    refine W.ret ?_
    refine N.ret1 rfl rfl ?_   -- RETURN
    exact ⟨rfl, hx⟩

theorem c_RWithin (p d : Sp.Bytes) (w : World) : Calls P 35 #[.string (S p), .string (S d)] w fun e w' => e = .returned (.bool (Sp.within p d)) ∧ w = w' := by
  refine enter (l := [_, _]) (n := 34) Tryz.func35 rfl rfl rfl ?_
  refine W.seq ?_
  refine W.reg <| asg rfl rfl <| L.nil ?_
  refine N.th ?_
  refine W.seq ?_
  have out : ∀ {E : Env} {b : Bool}, getE E 4 = some (.bool b) → b = Sp.within p d → W Fence.wide 0 P [] 34 .ret (bodyPost P Tryz.f35 fun e w' => e = .returned (.bool (Sp.within p d)) ∧ w = w') E w := fun {E b} hE hb => by
    refine W.ret ?_
    refine N.ret1 rfl hE ?_
    exact ⟨by rw [hb], rfl⟩
  refine W.reg ?_
  refine mv rfl rfl <| eqlS (b := []) rfl rfl rfl <| ?_
  by_cases h0 : d = []
  · refine Vc.bt (by simp [h0]) ?_
    (repeat (first | refine mv rfl rfl ?_ | refine asg rfl rfl ?_ | refine L.off rfl rfl rfl rfl rfl ?_ | refine L.offU rfl rfl rfl rfl ?_ | refine L.on rfl rfl rfl ?_ | refine pickT rfl rfl rfl ?_ | refine pickF rfl rfl rfl ?_ | refine ext rfl rfl rfl ?_ | refine nilc rfl rfl ?_ | refine lenV (t := 46) rfl u_strs rfl ?_ | refine lenV (t := 25) rfl u_bytes rfl ?_ | refine lenV (t := 22) rfl u_files rfl ?_ | refine lenS (t := 9) rfl u_str rfl ?_ | refine eqlI rfl rfl rfl ?_ | refine neqI rfl rfl rfl ?_ | refine lssI rfl rfl rfl ?_ | refine leqI rfl rfl rfl ?_ | refine gtrI rfl rfl rfl ?_ | refine geqI rfl rfl rfl ?_))
    refine L.nil ?_
    refine N.th ?_
    exact out rfl (by simp [Sp.within, h0])
  refine Vc.bf (by simpa using h0) ?_
  (repeat (first | refine mv rfl rfl ?_ | refine asg rfl rfl ?_ | refine L.off rfl rfl rfl rfl rfl ?_ | refine L.offU rfl rfl rfl rfl ?_ | refine L.on rfl rfl rfl ?_ | refine pickT rfl rfl rfl ?_ | refine pickF rfl rfl rfl ?_ | refine ext rfl rfl rfl ?_ | refine nilc rfl rfl ?_ | refine lenV (t := 46) rfl u_strs rfl ?_ | refine lenV (t := 25) rfl u_bytes rfl ?_ | refine lenV (t := 22) rfl u_files rfl ?_ | refine lenS (t := 9) rfl u_str rfl ?_ | refine eqlI rfl rfl rfl ?_ | refine neqI rfl rfl rfl ?_ | refine lssI rfl rfl rfl ?_ | refine leqI rfl rfl rfl ?_ | refine gtrI rfl rfl rfl ?_ | refine geqI rfl rfl rfl ?_))
  refine eqlS rfl rfl rfl <| ?_
  by_cases h1 : p = d
  · refine Vc.bt (by simp [h1]) ?_
    (repeat (first | refine mv rfl rfl ?_ | refine asg rfl rfl ?_ | refine L.off rfl rfl rfl rfl rfl ?_ | refine L.offU rfl rfl rfl rfl ?_ | refine L.on rfl rfl rfl ?_ | refine pickT rfl rfl rfl ?_ | refine pickF rfl rfl rfl ?_ | refine ext rfl rfl rfl ?_ | refine nilc rfl rfl ?_ | refine lenV (t := 46) rfl u_strs rfl ?_ | refine lenV (t := 25) rfl u_bytes rfl ?_ | refine lenV (t := 22) rfl u_files rfl ?_ | refine lenS (t := 9) rfl u_str rfl ?_ | refine eqlI rfl rfl rfl ?_ | refine neqI rfl rfl rfl ?_ | refine lssI rfl rfl rfl ?_ | refine leqI rfl rfl rfl ?_ | refine gtrI rfl rfl rfl ?_ | refine geqI rfl rfl rfl ?_))
    refine L.nil ?_
    refine N.th ?_
    exact out rfl (by simp [Sp.within, h1])
  refine Vc.bf (by simpa using h1) ?_
  (repeat (first | refine mv rfl rfl ?_ | refine asg rfl rfl ?_ | refine L.off rfl rfl rfl rfl rfl ?_ | refine L.offU rfl rfl rfl rfl ?_ | refine L.on rfl rfl rfl ?_ | refine pickT rfl rfl rfl ?_ | refine pickF rfl rfl rfl ?_ | refine ext rfl rfl rfl ?_ | refine nilc rfl rfl ?_ | refine lenV (t := 46) rfl u_strs rfl ?_ | refine lenV (t := 25) rfl u_bytes rfl ?_ | refine lenV (t := 22) rfl u_files rfl ?_ | refine lenS (t := 9) rfl u_str rfl ?_ | refine eqlI rfl rfl rfl ?_ | refine neqI rfl rfl rfl ?_ | refine lssI rfl rfl rfl ?_ | refine leqI rfl rfl rfl ?_ | refine gtrI rfl rfl rfl ?_ | refine geqI rfl rfl rfl ?_))
  have hw : Sp.within p d = (d ++ [47]).isPrefixOf p := by simp [Sp.within, h0, h1]
  by_cases h2 : d.length < p.length
  · refine Vc.bt (by simp; omega) ?_
    (repeat (first | refine mv rfl rfl ?_ | refine asg rfl rfl ?_ | refine L.off rfl rfl rfl rfl rfl ?_ | refine L.offU rfl rfl rfl rfl ?_ | refine L.on rfl rfl rfl ?_ | refine pickT rfl rfl rfl ?_ | refine pickF rfl rfl rfl ?_ | refine ext rfl rfl rfl ?_ | refine nilc rfl rfl ?_ | refine lenV (t := 46) rfl u_strs rfl ?_ | refine lenV (t := 25) rfl u_bytes rfl ?_ | refine lenV (t := 22) rfl u_files rfl ?_ | refine lenS (t := 9) rfl u_str rfl ?_ | refine eqlI rfl rfl rfl ?_ | refine neqI rfl rfl rfl ?_ | refine lssI rfl rfl rfl ?_ | refine leqI rfl rfl rfl ?_ | refine gtrI rfl rfl rfl ?_ | refine geqI rfl rfl rfl ?_))
    refine slSh rfl rfl u_str rfl (by omega) (by omega) <| ?_
    (repeat (first | refine mv rfl rfl ?_ | refine asg rfl rfl ?_ | refine L.off rfl rfl rfl rfl rfl ?_ | refine L.offU rfl rfl rfl rfl ?_ | refine L.on rfl rfl rfl ?_ | refine pickT rfl rfl rfl ?_ | refine pickF rfl rfl rfl ?_ | refine ext rfl rfl rfl ?_ | refine nilc rfl rfl ?_ | refine lenV (t := 46) rfl u_strs rfl ?_ | refine lenV (t := 25) rfl u_bytes rfl ?_ | refine lenV (t := 22) rfl u_files rfl ?_ | refine lenS (t := 9) rfl u_str rfl ?_ | refine eqlI rfl rfl rfl ?_ | refine neqI rfl rfl rfl ?_ | refine lssI rfl rfl rfl ?_ | refine leqI rfl rfl rfl ?_ | refine gtrI rfl rfl rfl ?_ | refine geqI rfl rfl rfl ?_))
    refine eqlS rfl rfl rfl <| ?_
    rw [Int.toNat_natCast]
    by_cases h3 : p.take d.length = d
    · obtain ⟨b, hb⟩ : ∃ b, p[d.length]? = some b := ⟨_, List.getElem?_eq_getElem h2⟩
      refine Vc.bt (by simpa using h3) ?_
      (repeat (first | refine mv rfl rfl ?_ | refine asg rfl rfl ?_ | refine L.off rfl rfl rfl rfl rfl ?_ | refine L.offU rfl rfl rfl rfl ?_ | refine L.on rfl rfl rfl ?_ | refine pickT rfl rfl rfl ?_ | refine pickF rfl rfl rfl ?_ | refine ext rfl rfl rfl ?_ | refine nilc rfl rfl ?_ | refine lenV (t := 46) rfl u_strs rfl ?_ | refine lenV (t := 25) rfl u_bytes rfl ?_ | refine lenV (t := 22) rfl u_files rfl ?_ | refine lenS (t := 9) rfl u_str rfl ?_ | refine eqlI rfl rfl rfl ?_ | refine neqI rfl rfl rfl ?_ | refine lssI rfl rfl rfl ?_ | refine leqI rfl rfl rfl ?_ | refine gtrI rfl rfl rfl ?_ | refine geqI rfl rfl rfl ?_))
      refine idxS rfl rfl u_str rfl (by omega) (b := b) (by simpa using hb) ?_
      (repeat (first | refine mv rfl rfl ?_ | refine asg rfl rfl ?_ | refine L.off rfl rfl rfl rfl rfl ?_ | refine L.offU rfl rfl rfl rfl ?_ | refine L.on rfl rfl rfl ?_ | refine pickT rfl rfl rfl ?_ | refine pickF rfl rfl rfl ?_ | refine ext rfl rfl rfl ?_ | refine nilc rfl rfl ?_ | refine lenV (t := 46) rfl u_strs rfl ?_ | refine lenV (t := 25) rfl u_bytes rfl ?_ | refine lenV (t := 22) rfl u_files rfl ?_ | refine lenS (t := 9) rfl u_str rfl ?_ | refine eqlI rfl rfl rfl ?_ | refine neqI rfl rfl rfl ?_ | refine lssI rfl rfl rfl ?_ | refine leqI rfl rfl rfl ?_ | refine gtrI rfl rfl rfl ?_ | refine geqI rfl rfl rfl ?_))
      refine L.nil ?_
      refine N.th ?_
      refine out rfl ?_
      have hpd : p = d ++ b :: p.drop (d.length + 1) := by
        have e1 := (List.take_append_drop d.length p).symm
        rw [h3] at e1
        obtain ⟨hlt, hbb⟩ := List.getElem?_eq_some_iff.1 hb
        rw [List.drop_eq_getElem_cons hlt, hbb] at e1
        exact e1
      rw [hw]
      apply Bool.eq_iff_iff.2
      rw [List.isPrefixOf_iff_prefix]
      simp only [decide_eq_true_eq]
      constructor
      · intro e
        have e47 : b = 47 := UInt8.toNat_inj.1 (by simp; omega)
        rw [hpd, e47]
        exact ⟨p.drop (d.length + 1), by simp⟩
      · rintro ⟨t, ht⟩
        have : p[d.length]? = some 47 := by rw [← ht]; simp
        rw [this] at hb
        cases hb; rfl
    · refine Vc.bf (by simpa using h3) ?_
      (repeat (first | refine mv rfl rfl ?_ | refine asg rfl rfl ?_ | refine L.off rfl rfl rfl rfl rfl ?_ | refine L.offU rfl rfl rfl rfl ?_ | refine L.on rfl rfl rfl ?_ | refine pickT rfl rfl rfl ?_ | refine pickF rfl rfl rfl ?_ | refine ext rfl rfl rfl ?_ | refine nilc rfl rfl ?_ | refine lenV (t := 46) rfl u_strs rfl ?_ | refine lenV (t := 25) rfl u_bytes rfl ?_ | refine lenV (t := 22) rfl u_files rfl ?_ | refine lenS (t := 9) rfl u_str rfl ?_ | refine eqlI rfl rfl rfl ?_ | refine neqI rfl rfl rfl ?_ | refine lssI rfl rfl rfl ?_ | refine leqI rfl rfl rfl ?_ | refine gtrI rfl rfl rfl ?_ | refine geqI rfl rfl rfl ?_))
      refine L.nil ?_
      refine N.th ?_
      refine out rfl ?_
      rw [hw]
      symm
      cases hq : (d ++ [47]).isPrefixOf p with
      | false => rfl
      | true =>
        obtain ⟨t, ht⟩ := List.isPrefixOf_iff_prefix.1 hq
        exact absurd (by rw [← ht]; simp) h3
  · refine Vc.bf (by simp; omega) ?_
    (repeat (first | refine mv rfl rfl ?_ | refine asg rfl rfl ?_ | refine L.off rfl rfl rfl rfl rfl ?_ | refine L.offU rfl rfl rfl rfl ?_ | refine L.on rfl rfl rfl ?_ | refine pickT rfl rfl rfl ?_ | refine pickF rfl rfl rfl ?_ | refine ext rfl rfl rfl ?_ | refine nilc rfl rfl ?_ | refine lenV (t := 46) rfl u_strs rfl ?_ | refine lenV (t := 25) rfl u_bytes rfl ?_ | refine lenV (t := 22) rfl u_files rfl ?_ | refine lenS (t := 9) rfl u_str rfl ?_ | refine eqlI rfl rfl rfl ?_ | refine neqI rfl rfl rfl ?_ | refine lssI rfl rfl rfl ?_ | refine leqI rfl rfl rfl ?_ | refine gtrI rfl rfl rfl ?_ | refine geqI rfl rfl rfl ?_))
    refine L.nil ?_
    refine N.th ?_
    refine out rfl ?_
    rw [hw]
    symm
    cases hq : (d ++ [47]).isPrefixOf p with
    | false => rfl
    | true =>
      have := (List.isPrefixOf_iff_prefix.1 hq).length_le
      simp at this; omega
end Go.Proofs.YtmdpmpdlkaogdaaGreatDoor
