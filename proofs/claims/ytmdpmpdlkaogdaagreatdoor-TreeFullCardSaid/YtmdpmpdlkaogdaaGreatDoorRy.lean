/- Walks: (*haversackref7.Tree).Append, Read, Mkdir, Remove, Exists. -/
import Derived.Test.YtmdpmpdlkaogdaaGreatDoorRw
namespace Go.Proofs.YtmdpmpdlkaogdaaGreatDoor
open Go Go.RowKit Vc

theorem ok_RRead : FnOk P 53 := ⟨_, Tryz.func53, by kernel_rfl, by kernel_rfl⟩
theorem ok_RMkdir : FnOk P 38 := ⟨_, Tryz.func38, by kernel_rfl, by kernel_rfl⟩
theorem ok_RRemove : FnOk P 50 := ⟨_, Tryz.func50, by kernel_rfl, by kernel_rfl⟩
theorem ok_RExists : FnOk P 54 := ⟨_, Tryz.func54, by kernel_rfl, by kernel_rfl⟩

/-- What a call of 'ahead' tells, of the tree. -/
theorem ahead_of_call {m : Tr.T} {E : List FE} {p : Tr.Bytes} {w w' : World} {e : Ending} (hE : fm E = Tr.files m) (hn : (m.map (·.1)).Nodup) (h : match Tr.ahd (fm E) (Tr.ups (Sp.parts p)) with
      | none => e = .returned (.tuple #[.bool true, .slice none 0 0])
      | some k => ∃ v, e = .returned (.tuple #[.bool false, v]) ∧ StrsA w.heap.size w' v k) :
    ∃ (fb : Bool) (lkv : Value), e = .returned (.tuple #[.bool fb, lkv]) ∧ ((fb = true ∧ Tr.ahd m (Tr.ups (Sp.parts p)) = none) ∨ (fb = false ∧ ∃ lk, Tr.ahd m (Tr.ups (Sp.parts p)) = some lk ∧ StrsA w.heap.size w' lkv lk)) := by
  rw [hE, Tr.ahd_files hn] at h
  cases ha : Tr.ahd m (Tr.ups (Sp.parts p)) with
  | none => rw [ha] at h; exact ⟨_, _, h, .inl ⟨rfl, rfl⟩⟩
  | some lk => rw [ha] at h; obtain ⟨v, he, hv⟩ := h; exact ⟨_, _, he, .inr ⟨rfl, lk, rfl, hv⟩⟩
theorem lack_len {m : Tr.T} {p : Tr.Bytes} {lk : List Tr.Bytes} (hcp : Sp.Cl p) (halk : Tr.ahd m (Tr.ups (Sp.parts p)) = some lk) : lk.length ≤ 12 := by
  have h1 := (Tr.ahd_some m _ _ halk).2
  have h3 : lk.length ≤ (Tr.ups (Sp.parts p)).length := (h1.2 (Tr.nodup_ups hcp)).length_le_of_subset fun e he => (h1.1 e he).1
  have h4 := (Tr.parts_cl hcp).2.2
  rw [ups_len] at h3
  omega

theorem c_RAppend {w : World} {rt : Nat} {lv bv : Value} {E : List FE} {m : Tr.T} {b : Tr.Bytes} (s : Tr.Bytes) (h : RTAt w rt lv E) (hE : fm E = Tr.files m) (hok : Tr.Ok m) (hb : BytA w bv b) (hbl : b.length ≤ 1000000) :
    Calls P 49 #[pT rt, .string (S s), bv] w (DoesR rt w (Tr.append m s b)) := by
  have hEl := len_of hE
  have hml := hok.len
  have hmb := hok.bytes
  obtain ⟨oldb, hold⟩ : ∃ oldb, oldb = ((if (Sp.clean s).2 = 0 then Tr.get m (Sp.clean s).1 else none).getD (true, [])).2 := ⟨_, rfl⟩
  obtain ⟨ar2, ar1⟩ := Tr.append_r (m := m) (s := s) (b := b)
  rw [← hold] at ar2 ar1
  have hres : Tr.append m s b = Tr.write m s (oldb ++ b) := Prod.ext ar1 ar2
  rw [hres]
  have holdl : oldb.length ≤ 1048576 := by
    rw [hold]
    split
    · have := old_le m (Sp.clean s).1; unfold Tr.old at this; omega
    · simp
  refine enter (l := [_, _, _]) (n := 39) Tryz.func49 rfl rfl rfl ?_
  refine W.seq ?_
  refine W.reg <| asg rfl rfl <| L.nil ?_
  refine N.th ?_
  refine W.seq ?_
  refine W.reg <| asg rfl rfl <| L.nil ?_
  refine N.th ?_
  refine W.seqM (fun E' w' => ∃ av : Value, E' = [(0, pT rt), (1, .string (S s)), (2, bv), (7, av)] ∧ Byts w.heap.size w' av oldb ∧ Ext none_ w w') ?_ ?_   -- CUT
  · refine W.seq ?_
    refine W.reg <| mv rfl rfl <| call (vs := [_]) rfl rfl ok_RClean (c_RClean s w) ?_
    rintro e w1 ⟨rfl, hx1⟩
    refine ⟨_, rfl, ?_⟩
    refine mv rfl rfl <| ext rfl rfl rfl <| ext rfl rfl rfl <| asg rfl rfl <| asg rfl rfl <| L.nil ?_
    refine N.th ?_
    have hR1 := h.ext0 hx1
    refine W.seq ?_
    refine W.reg <| mv rfl rfl <| eqlI rfl rfl rfl <| L.nil ?_
    refine N.th ?_
    refine W.cond rfl (fun hh => ?_) (fun hh => ?_)
    · have hc0 : (Sp.clean s).2 = 0 := by simpa using hh
      rw [if_pos hc0] at hold
      refine W.seq ?_
      refine W.reg <| mv rfl rfl <| mv rfl rfl <| call (vs := [_, _]) rfl rfl ok_Rat (c_Rat (Sp.clean s).1 hR1 (by omega)) ?_
      rintro e w1' ⟨k, rfl, hk, rfl⟩
      refine ⟨_, rfl, ?_⟩
      refine asg rfl rfl <| L.nil ?_
      refine N.th ?_
      have hs1 := hx1.size
      refine W.seq ?_
      rcases hk.of hE hok.nodup with ⟨rfl, hg⟩ | ⟨i, x, rfl, hxe, hg⟩
      · refine W.reg <| mv rfl rfl <| geqI rfl rfl rfl <| Vc.bf (by simp) <| L.nil ?_
        refine N.th ?_
        refine W.condF rfl ?_
        refine W.skip ?_
        refine N.th (N.meet [(0, _), (1, _), (2, _), (7, .slice none 0 0)] ⟨rfl, rfl, rfl, rfl, trivial⟩ ⟨_, rfl, ?_, hx1⟩)   -- MEET
        rw [hold, hg]; exact own_nil _ _ _ _
      · obtain ⟨ra, rc, rfl, -⟩ := hR1.slice
        obtain ⟨rb, ro, rfl, -, hil⟩ := hR1.some_ hxe
        have hc2 := (hR1.files.cell hxe).2.2
        have hxb := hR1.files.bytes x (List.mem_of_getElem? hxe)
        have hxl : oldb = x.2.2.2 := by rw [hold, hg]; rfl
        refine W.reg <| mv rfl rfl <| geqI rfl rfl rfl <| Vc.bt (by simp) <| L.nil ?_
        refine N.th ?_
        refine W.condT rfl ?_
        refine W.reg <| mv rfl rfl <| mv rfl rfl <| nilc rfl rfl <| fad rfl fl_RT_0 rfl <| ld1 rfl ag_files rfl hR1.c0 <| mv rfl rfl <| ixa rfl rfl u_files sz_File rfl (by omega) (by omega) <| fad rfl fl_File_2 rfl <| ld1 (v := x.2.2.1) rfl ag_bytes rfl hc2 ?_
        rcases hxb.arg.form with ⟨hn, h0⟩ | ⟨ad, c, hn, h1, h2, hc⟩
        · rw [hn]
          refine appN rfl rfl rfl el_bytes (Nat.le_refl _) <| asg rfl rfl <| L.nil ?_
          refine N.th (N.meet [(0, _), (1, _), (2, _), (7, .slice none 0 0)] ⟨rfl, rfl, rfl, rfl, trivial⟩ ⟨_, rfl, ?_, hx1⟩)   -- MEET
          rw [hxl, List.eq_nil_of_length_eq_zero h0]; exact own_nil _ _ _ _
        · rw [hn]
          refine app rfl rfl rfl el_bytes (own_nil _ w1.heap.size _ _) (by simp) (fun j u hj => (hc j u hj).2) (encB_one x.2.2.2) (by rw [← hxl]; omega) (by simp only [maxLen]; rw [← hxl]; omega) (Nat.le_refl _) fun v' w2 ho hx2 _ _ => ?_
          refine asg rfl rfl <| L.nil ?_
          refine N.th (N.meet [(0, _), (1, _), (2, _), (7, v')] ⟨rfl, rfl, rfl, rfl, trivial⟩ ⟨_, rfl, ?_, hx1.trans (hx2.mono fun _ _ h => by cases h)⟩)   -- MEET
          rw [hxl]
          exact own_more (by simpa [Byts] using ho) hs1
    · have hc0 : ¬ (Sp.clean s).2 = 0 := by simpa using hh
      rw [if_neg hc0] at hold
      refine W.skip ?_
      refine N.th (N.meet [(0, _), (1, _), (2, _), (7, .slice none 0 0)] ⟨rfl, rfl, rfl, rfl, trivial⟩ ⟨_, rfl, ?_, hx1⟩)   -- MEET
      rw [hold]; exact own_nil _ _ _ _
  rintro E' w1 ⟨av, rfl, hav, hx1⟩
  have hb1 := hb.ext0 hx1
  have hs1 := hx1.size
  refine W.seq ?_
  refine W.reg <| mv rfl rfl <| mv rfl rfl <| mv rfl rfl <| mv rfl rfl ?_
  have hall : (oldb ++ b).length ≤ 100000000 := by simp; omega
  rcases hb1.form with ⟨rfl, h0⟩ | ⟨ad, c, rfl, h1, h2, hc⟩
  · have hb0 : b = [] := List.eq_nil_of_length_eq_zero h0
    subst hb0
    obtain ⟨aa, ac, rfl, hac, -⟩ := own_slice hav
    refine appN rfl rfl rfl el_bytes hac ?_
    have hav' : BytA w1 (.slice aa oldb.length ac) (oldb ++ []) := by rw [List.append_nil]; exact (Row.own hav).arg
    refine call (vs := [_, _, _]) rfl rfl ok_RWrite (c_RWrite s (h.ext0 hx1) hE hok hav' hall) ?_
    rintro e w2 ⟨rfl, hd, hx2⟩
    refine ⟨_, rfl, ?_⟩
    refine asg rfl rfl <| L.nil ?_
    refine N.th ?_
    refine W.ret ?_
    refine N.ret1 rfl rfl ?_   -- RETURN
    exact ⟨rfl, hd, hx1.none.trans hx2⟩
  · refine app rfl rfl rfl el_bytes hav (by simp) (fun j u hj => (hc j u hj).2) (encB_one b) (by omega) (by simp only [maxLen]; omega) hs1 fun v' w2 ho hx2 _ _ => ?_
    have ho' : Byts w.heap.size w2 v' (oldb ++ b) := by simpa [Byts, encB] using ho
    have hx02 : Ext none_ w w2 := hx1.trans' hx2 fun k hk e => by have := own_new hav k e; omega
    refine call (vs := [_, _, _]) rfl rfl ok_RWrite (c_RWrite s (h.ext0 hx02) hE hok (Row.own ho').arg hall) ?_
    rintro e w3 ⟨rfl, hd, hx3⟩
    refine ⟨_, rfl, ?_⟩
    refine asg rfl rfl <| L.nil ?_
    refine N.th ?_
    refine W.ret ?_
    refine N.ret1 rfl rfl ?_   -- RETURN
    exact ⟨rfl, hd, hx02.none.trans hx3⟩

theorem read_r {m : Tr.T} (h : Tr.Ok m) {s : Tr.Bytes} (hc : (Sp.clean s).2 = 0) :
    (((Sp.clean s).1 = [] ∨ (∃ c, Tr.get m (Sp.clean s).1 = some (true, c)) ∨ Tr.ahd m (Tr.ups (Sp.parts (Sp.clean s).1)) = none) → Tr.read m s = ([], 54)) ∧
    ((Sp.clean s).1 ≠ [] → Tr.ahd m (Tr.ups (Sp.parts (Sp.clean s).1)) ≠ none → Tr.get m (Sp.clean s).1 = none → Tr.read m s = ([], 52)) ∧
    (∀ c, (Sp.clean s).1 ≠ [] → Tr.get m (Sp.clean s).1 = some (false, c) → Tr.read m s = (c, 0)) := by
  have hcl := Sp.clean_cl hc
  have h0 : ¬ (Sp.clean s).2 ≠ 0 := by simpa using hc
  have hun : Tr.read m s = match Tr.at_ m (Sp.clean s).1 with
    | some x => if x.1 then ([], 54) else match Tr.ahead m (Sp.clean s).1 with
      | none => ([], 54)
      | some _ => (x.2, 0)
    | none => match Tr.ahead m (Sp.clean s).1 with
      | none => ([], 54)
      | some _ => ([], 52) := by
    unfold Tr.read; rw [if_neg h0]; rfl
  generalize hp : (Sp.clean s).1 = p at *
  refine ⟨?_, fun hp0 ha hg => ?_, fun c hp0 hg => ?_⟩
  · rintro (e | ⟨c, hg⟩ | ha)
    · rw [hun, e]; rfl
    · rw [hun, Tr.at_of (h.sound hg).1, hg]; rfl
    · have ha' := (Tr.ahd_iff hcl).1 ha
      rw [hun, ha']
      cases Tr.at_ m p with
      | none => rfl
      | some x => simp
  · rw [hun, Tr.at_of hp0, hg]
    cases ha' : Tr.ahead m p with
    | none => exact absurd ((Tr.ahd_iff hcl).2 ha') ha
    | some l => rfl
  · rw [hun, Tr.at_of hp0, hg, h.ahead_nil hg]; rfl

theorem c_RRead {w : World} {rt : Nat} {lv : Value} {E : List FE} {m : Tr.T} (s : Tr.Bytes) (h : RTAt w rt lv E) (hE : fm E = Tr.files m) (hok : Tr.Ok m) :
    Calls P 53 #[pT rt, .string (S s)] w fun e w' => ∃ v, e = .returned (.tuple #[v, .int .i64 (Tr.read m s).2]) ∧ Byts w.heap.size w' v (Tr.read m s).1 ∧ Ext none_ w w' := by
  have hEl := len_of hE
  have hml := hok.len
  have hmb := hok.bytes
  refine enter (l := [_, _]) (n := 60) Tryz.func53 rfl rfl rfl ?_
  refine W.seq ?_
  refine W.reg <| asg rfl rfl <| asg rfl rfl <| L.nil ?_
  refine N.th ?_
  refine W.seq ?_
  refine W.reg <| mv rfl rfl <| call (vs := [_]) rfl rfl ok_RClean (c_RClean s w) ?_
  rintro e w1 ⟨rfl, hx1⟩
  refine ⟨_, rfl, ?_⟩
  refine mv rfl rfl <| ext rfl rfl rfl <| ext rfl rfl rfl <| asg rfl rfl <| asg rfl rfl <| L.nil ?_
  refine N.th ?_
  have hcl := clean_len s
  have hR1 := h.ext0 hx1
  refine W.seq ?_
  refine W.seq ?_
  refine W.reg <| mv rfl rfl <| neqI rfl rfl rfl <| L.nil ?_
  refine N.th ?_
  refine W.cond rfl (fun hh => ?_) (fun hh => ?_)
  · refine W.seq ?_
    refine W.reg <| mv rfl rfl <| asg rfl rfl <| asg rfl rfl <| L.nil ?_
    refine N.th ?_
    refine W.ret ?_
    refine N.rth ?_
    refine N.ret2 rfl rfl rfl ?_   -- RETURN
    have h0 : (Sp.clean s).2 ≠ 0 := by simpa using hh
    unfold Tr.read; rw [if_pos h0]
    exact ⟨_, rfl, own_nil _ _ _ _, hx1⟩
  have hc0 : (Sp.clean s).2 = 0 := by simpa using hh
  obtain ⟨rd1, rd2, rd3⟩ := read_r hok hc0
  refine W.skip ?_
  refine N.th ?_
  refine W.seq ?_
  refine W.reg <| mv rfl rfl <| mv rfl rfl <| call (vs := [_, _]) rfl rfl ok_Rat (c_Rat (Sp.clean s).1 hR1 (by omega)) ?_
  rintro e w1' ⟨k, rfl, hk, rfl⟩
  refine ⟨_, rfl, ?_⟩
  refine asg rfl rfl <| L.nil ?_
  refine N.th ?_
  have hk := hk.of hE hok.nodup
  refine W.seq ?_
  refine W.reg <| mv rfl rfl <| mv rfl rfl <| call (vs := [_, _]) rfl rfl ok_Rahead (c_Rahead (Sp.clean s).1 hR1 (by omega) (by omega)) ?_
  rintro e w2 ⟨hx2, hah⟩
  obtain ⟨fb, lkv, rfl, hah2⟩ := ahead_of_call hE hok.nodup hah
  clear hah
  have hR2 := hR1.ext0 hx2
  have hx02 : Ext none_ w w2 := hx1.trans hx2
  refine ⟨_, rfl, ?_⟩
  refine mv rfl rfl <| ext (v := .bool fb) rfl rfl rfl <| ext (v := lkv) rfl rfl rfl <| asg rfl rfl <| asg rfl rfl <| L.nil ?_
  refine N.th ?_
  obtain ⟨ra, rc, rfl, -⟩ := h.slice
  refine W.seq ?_
  refine W.block ?_
  refine W.seqM (fun E' w' => ∃ c, E' = [(28, .bool c), (0, pT rt), (6, .string (S (Sp.clean s).1)), (8, .int .i64 k)] ∧ w' = w2 ∧ (c = true → Tr.read m s = ([], 54)) ∧ (c = false → (Sp.clean s).1 ≠ [] ∧ (∀ c, Tr.get m (Sp.clean s).1 ≠ some (true, c)) ∧ fb = false)) ?_ ?_
  · refine W.reg ?_
    refine mv rfl rfl <| eqlS (b := []) rfl rfl rfl ?_
    by_cases hp0 : (Sp.clean s).1 = []
    · refine Vc.bt (by simpa using hp0) ?_
      (repeat (first | refine mv rfl rfl ?_ | refine asg rfl rfl ?_ | refine L.off rfl rfl rfl rfl rfl ?_ | refine L.offU rfl rfl rfl rfl ?_ | refine L.on rfl rfl rfl ?_ | refine pickT rfl rfl rfl ?_ | refine pickF rfl rfl rfl ?_ | refine ext rfl rfl rfl ?_ | refine nilc rfl rfl ?_ | refine lenV (t := 46) rfl u_strs rfl ?_ | refine lenV (t := 25) rfl u_bytes rfl ?_ | refine lenV (t := 22) rfl u_files rfl ?_ | refine lenS (t := 9) rfl u_str rfl ?_ | refine eqlI rfl rfl rfl ?_ | refine neqI rfl rfl rfl ?_ | refine lssI rfl rfl rfl ?_ | refine leqI rfl rfl rfl ?_ | refine gtrI rfl rfl rfl ?_ | refine geqI rfl rfl rfl ?_))
      refine L.nil ?_
      exact N.th (N.meet [(28, .bool true), (0, _), (6, _), (8, _)] ⟨rfl, rfl, rfl, rfl, trivial⟩ ⟨_, rfl, rfl, fun _ => rd1 (.inl hp0), fun hc => by cases hc⟩)
    · refine Vc.bf (by simpa using hp0) ?_
      rcases hk with ⟨rfl, hg⟩ | ⟨i, x, rfl, hxe, hg⟩
      · (repeat (first | refine mv rfl rfl ?_ | refine asg rfl rfl ?_ | refine L.off rfl rfl rfl rfl rfl ?_ | refine L.offU rfl rfl rfl rfl ?_ | refine L.on rfl rfl rfl ?_ | refine pickT rfl rfl rfl ?_ | refine pickF rfl rfl rfl ?_ | refine ext rfl rfl rfl ?_ | refine nilc rfl rfl ?_ | refine lenV (t := 46) rfl u_strs rfl ?_ | refine lenV (t := 25) rfl u_bytes rfl ?_ | refine lenV (t := 22) rfl u_files rfl ?_ | refine lenS (t := 9) rfl u_str rfl ?_ | refine eqlI rfl rfl rfl ?_ | refine neqI rfl rfl rfl ?_ | refine lssI rfl rfl rfl ?_ | refine leqI rfl rfl rfl ?_ | refine gtrI rfl rfl rfl ?_ | refine geqI rfl rfl rfl ?_))
        refine L.nil ?_
        refine N.th (N.meet [(28, .bool fb), (0, _), (6, _), (8, _)] ⟨rfl, rfl, rfl, rfl, trivial⟩ ⟨_, rfl, rfl, fun hc => ?_, fun hc => ⟨hp0, (fun c => by rw [hg]; simp), hc⟩⟩)
        rcases hah2 with ⟨-, ha⟩ | ⟨hf, -⟩
        · exact rd1 (.inr (.inr ha))
        · rw [hf] at hc; cases hc
      · obtain ⟨rb, ro, rfl, -, hil⟩ := hR2.some_ hxe
        have hc1 := (hR2.files.cell hxe).2.1
        (repeat (first | refine mv rfl rfl ?_ | refine asg rfl rfl ?_ | refine L.off rfl rfl rfl rfl rfl ?_ | refine L.offU rfl rfl rfl rfl ?_ | refine L.on rfl rfl rfl ?_ | refine pickT rfl rfl rfl ?_ | refine pickF rfl rfl rfl ?_ | refine ext rfl rfl rfl ?_ | refine nilc rfl rfl ?_ | refine lenV (t := 46) rfl u_strs rfl ?_ | refine lenV (t := 25) rfl u_bytes rfl ?_ | refine lenV (t := 22) rfl u_files rfl ?_ | refine lenS (t := 9) rfl u_str rfl ?_ | refine eqlI rfl rfl rfl ?_ | refine neqI rfl rfl rfl ?_ | refine lssI rfl rfl rfl ?_ | refine leqI rfl rfl rfl ?_ | refine gtrI rfl rfl rfl ?_ | refine geqI rfl rfl rfl ?_))
        refine fad rfl fl_RT_0 rfl <| L.on rfl rfl rfl <| ld1 rfl ag_files rfl hR2.c0 ?_
        (repeat (first | refine mv rfl rfl ?_ | refine asg rfl rfl ?_ | refine L.off rfl rfl rfl rfl rfl ?_ | refine L.offU rfl rfl rfl rfl ?_ | refine L.on rfl rfl rfl ?_ | refine pickT rfl rfl rfl ?_ | refine pickF rfl rfl rfl ?_ | refine ext rfl rfl rfl ?_ | refine nilc rfl rfl ?_ | refine lenV (t := 46) rfl u_strs rfl ?_ | refine lenV (t := 25) rfl u_bytes rfl ?_ | refine lenV (t := 22) rfl u_files rfl ?_ | refine lenS (t := 9) rfl u_str rfl ?_ | refine eqlI rfl rfl rfl ?_ | refine neqI rfl rfl rfl ?_ | refine lssI rfl rfl rfl ?_ | refine leqI rfl rfl rfl ?_ | refine gtrI rfl rfl rfl ?_ | refine geqI rfl rfl rfl ?_))
        refine ixa rfl rfl u_files sz_File rfl (by omega) (by omega) <| L.on rfl rfl rfl <| fad rfl fl_File_1 rfl <| L.on rfl rfl rfl <| ld1 rfl ag_bool rfl hc1 ?_
        cases hxd : x.2.1 with
        | true =>
          (repeat (first | refine mv rfl rfl ?_ | refine asg rfl rfl ?_ | refine L.off rfl rfl rfl rfl rfl ?_ | refine L.offU rfl rfl rfl rfl ?_ | refine L.on rfl rfl rfl ?_ | refine pickT rfl rfl rfl ?_ | refine pickF rfl rfl rfl ?_ | refine ext rfl rfl rfl ?_ | refine nilc rfl rfl ?_ | refine lenV (t := 46) rfl u_strs rfl ?_ | refine lenV (t := 25) rfl u_bytes rfl ?_ | refine lenV (t := 22) rfl u_files rfl ?_ | refine lenS (t := 9) rfl u_str rfl ?_ | refine eqlI rfl rfl rfl ?_ | refine neqI rfl rfl rfl ?_ | refine lssI rfl rfl rfl ?_ | refine leqI rfl rfl rfl ?_ | refine gtrI rfl rfl rfl ?_ | refine geqI rfl rfl rfl ?_))
          refine L.nil ?_
          exact N.th (N.meet [(28, .bool true), (0, _), (6, _), (8, _)] ⟨rfl, rfl, rfl, rfl, trivial⟩ ⟨_, rfl, rfl, fun _ => rd1 (.inr (.inl ⟨x.2.2.2, by rw [hg, hxd]⟩)), fun hc => by cases hc⟩)
        | false =>
          (repeat (first | refine mv rfl rfl ?_ | refine asg rfl rfl ?_ | refine L.off rfl rfl rfl rfl rfl ?_ | refine L.offU rfl rfl rfl rfl ?_ | refine L.on rfl rfl rfl ?_ | refine pickT rfl rfl rfl ?_ | refine pickF rfl rfl rfl ?_ | refine ext rfl rfl rfl ?_ | refine nilc rfl rfl ?_ | refine lenV (t := 46) rfl u_strs rfl ?_ | refine lenV (t := 25) rfl u_bytes rfl ?_ | refine lenV (t := 22) rfl u_files rfl ?_ | refine lenS (t := 9) rfl u_str rfl ?_ | refine eqlI rfl rfl rfl ?_ | refine neqI rfl rfl rfl ?_ | refine lssI rfl rfl rfl ?_ | refine leqI rfl rfl rfl ?_ | refine gtrI rfl rfl rfl ?_ | refine geqI rfl rfl rfl ?_))
          refine L.nil ?_
          refine N.th (N.meet [(28, .bool fb), (0, _), (6, _), (8, _)] ⟨rfl, rfl, rfl, rfl, trivial⟩ ⟨_, rfl, rfl, fun hc => ?_, fun hc => ⟨hp0, (fun c => by rw [hg, hxd]; simp), hc⟩⟩)
          rcases hah2 with ⟨-, ha⟩ | ⟨hf, -⟩
          · exact rd1 (.inr (.inr ha))
          · rw [hf] at hc; cases hc
  rintro E' w3 ⟨c, rfl, rfl, hc1, hc2⟩
  refine W.cond rfl (fun hh => ?_) (fun hh => ?_)
  · refine W.seq ?_
    refine W.reg <| asg rfl rfl <| asg rfl rfl <| L.nil ?_
    refine N.th ?_
    refine W.ret ?_
    refine N.rinb <| N.rth ?_
    refine N.ret2 rfl rfl rfl ?_   -- RETURN
    rw [hc1 hh]
    exact ⟨_, rfl, own_nil _ _ _ _, hx02⟩
  · obtain ⟨hp0, hnd, hfb⟩ := hc2 hh
    have hane : Tr.ahd m (Tr.ups (Sp.parts (Sp.clean s).1)) ≠ none := by
      rcases hah2 with ⟨hf, -⟩ | ⟨-, lk, h1, -⟩
      · rw [hfb] at hf; cases hf
      · rw [h1]; simp
    refine W.seq ?_
    rcases hk with ⟨rfl, hg⟩ | ⟨i, x, rfl, hxe, hg⟩
    · refine W.reg <| mv rfl rfl <| lssI rfl rfl rfl <| asg rfl rfl <| L.nil ?_
      refine N.th ?_
      refine W.condT rfl ?_
      refine W.seq ?_
      refine W.reg <| asg rfl rfl <| asg rfl rfl <| L.nil ?_
      refine N.th ?_
      refine W.ret ?_
      refine N.rinb <| N.rth ?_
      refine N.ret2 rfl rfl rfl ?_   -- RETURN
      rw [rd2 hp0 hane hg]
      exact ⟨_, rfl, own_nil _ _ _ _, hx02⟩
    · obtain ⟨rb, ro, rfl, -, hil⟩ := hR2.some_ hxe
      have hcx := (hR2.files.cell hxe).2.2
      have hxb := hR2.files.bytes x (List.mem_of_getElem? hxe)
      have hxd : x.2.1 = false := by
        cases hd : x.2.1 with
        | false => rfl
        | true => exact absurd (by rw [hg, hd]) (hnd x.2.2.2)
      have hxl : x.2.2.2.length ≤ 65536 := by have := (hok.sound hg).2.2.2.2; exact this
      refine W.reg <| mv rfl rfl <| lssI rfl rfl rfl <| Vc.bf (by simp) <| asg rfl rfl <| L.nil ?_
      refine N.th ?_
      refine W.condF rfl ?_
      refine W.skip ?_
      refine N.inb ?_
      refine N.th ?_
      refine W.seq ?_
      refine W.reg <| mv rfl rfl <| nilc rfl rfl <| fad rfl fl_RT_0 rfl <| ld1 rfl ag_files rfl hR2.c0 <| mv rfl rfl <| ixa rfl rfl u_files sz_File rfl (by omega) (by omega) <| fad rfl fl_File_2 rfl <| ld1 (v := x.2.2.1) rfl ag_bytes rfl hcx <| cpyB rfl hxb.arg el_bytes rfl (by omega) fun cv w4 hcv hx4 => ?_
      refine asg rfl rfl <| asg rfl rfl <| L.nil ?_
      refine N.th ?_
      refine W.ret ?_
      refine N.ret2 rfl rfl rfl ?_   -- RETURN
      rw [rd3 x.2.2.2 hp0 (by rw [hg, hxd])]
      exact ⟨_, rfl, own_more hcv hx02.size, hx02.trans hx4⟩

theorem c_RMkdir {w : World} {rt : Nat} {lv : Value} {E : List FE} {m : Tr.T} (s : Tr.Bytes) (h : RTAt w rt lv E) (hE : fm E = Tr.files m) (hok : Tr.Ok m) :
    Calls P 38 #[pT rt, .string (S s)] w (DoesR rt w (Tr.mkdir m s)) := by
  have hEl := len_of hE
  have hml := hok.len
  have hmb := hok.bytes
  refine enter (l := [_, _]) (n := 67) Tryz.func38 rfl rfl rfl ?_
  refine W.seq ?_
  refine W.reg <| asg rfl rfl <| L.nil ?_
  refine N.th ?_
  refine W.seq ?_
  refine W.reg <| mv rfl rfl <| call (vs := [_]) rfl rfl ok_RClean (c_RClean s w) ?_
  rintro e w1 ⟨rfl, hx1⟩
  refine ⟨_, rfl, ?_⟩
  refine mv rfl rfl <| ext rfl rfl rfl <| ext rfl rfl rfl <| asg rfl rfl <| asg rfl rfl <| L.nil ?_
  refine N.th ?_
  have hcl := clean_len s
  have hR1 := h.ext0 hx1
  refine W.seqM (fun E' w' => E' = [(0, pT rt), (5, .string (S (Sp.clean s).1))] ∧ w' = w1 ∧ (Sp.clean s).2 = 0 ∧ (Sp.clean s).1 ≠ []) ?_ ?_
  · refine W.seqM (fun E' w' => ∃ c, E' = [(20, .bool c), (0, pT rt), (5, .string (S (Sp.clean s).1)), (6, .int .i64 (Sp.clean s).2)] ∧ w' = w1 ∧ (c = true → Tr.mkdir m s = (m, (Sp.clean s).2)) ∧ (c = false → (Sp.clean s).2 = 0 ∧ (Sp.clean s).1 ≠ [])) ?_ ?_
    · refine W.reg ?_
      (repeat (first | refine mv rfl rfl ?_ | refine asg rfl rfl ?_ | refine L.off rfl rfl rfl rfl rfl ?_ | refine L.offU rfl rfl rfl rfl ?_ | refine L.on rfl rfl rfl ?_ | refine pickT rfl rfl rfl ?_ | refine pickF rfl rfl rfl ?_ | refine ext rfl rfl rfl ?_ | refine nilc rfl rfl ?_ | refine lenV (t := 46) rfl u_strs rfl ?_ | refine lenV (t := 25) rfl u_bytes rfl ?_ | refine lenV (t := 22) rfl u_files rfl ?_ | refine lenS (t := 9) rfl u_str rfl ?_ | refine eqlI rfl rfl rfl ?_ | refine neqI rfl rfl rfl ?_ | refine lssI rfl rfl rfl ?_ | refine leqI rfl rfl rfl ?_ | refine gtrI rfl rfl rfl ?_ | refine geqI rfl rfl rfl ?_))
      by_cases hc0 : (Sp.clean s).2 = 0
      · refine Vc.bf (by simpa using hc0) ?_
        (repeat (first | refine mv rfl rfl ?_ | refine asg rfl rfl ?_ | refine L.off rfl rfl rfl rfl rfl ?_ | refine L.offU rfl rfl rfl rfl ?_ | refine L.on rfl rfl rfl ?_ | refine pickT rfl rfl rfl ?_ | refine pickF rfl rfl rfl ?_ | refine ext rfl rfl rfl ?_ | refine nilc rfl rfl ?_ | refine lenV (t := 46) rfl u_strs rfl ?_ | refine lenV (t := 25) rfl u_bytes rfl ?_ | refine lenV (t := 22) rfl u_files rfl ?_ | refine lenS (t := 9) rfl u_str rfl ?_ | refine eqlI rfl rfl rfl ?_ | refine neqI rfl rfl rfl ?_ | refine lssI rfl rfl rfl ?_ | refine leqI rfl rfl rfl ?_ | refine gtrI rfl rfl rfl ?_ | refine geqI rfl rfl rfl ?_))
        refine eqlS (b := []) rfl rfl rfl ?_
        (repeat (first | refine mv rfl rfl ?_ | refine asg rfl rfl ?_ | refine L.off rfl rfl rfl rfl rfl ?_ | refine L.offU rfl rfl rfl rfl ?_ | refine L.on rfl rfl rfl ?_ | refine pickT rfl rfl rfl ?_ | refine pickF rfl rfl rfl ?_ | refine ext rfl rfl rfl ?_ | refine nilc rfl rfl ?_ | refine lenV (t := 46) rfl u_strs rfl ?_ | refine lenV (t := 25) rfl u_bytes rfl ?_ | refine lenV (t := 22) rfl u_files rfl ?_ | refine lenS (t := 9) rfl u_str rfl ?_ | refine eqlI rfl rfl rfl ?_ | refine neqI rfl rfl rfl ?_ | refine lssI rfl rfl rfl ?_ | refine leqI rfl rfl rfl ?_ | refine gtrI rfl rfl rfl ?_ | refine geqI rfl rfl rfl ?_))
        refine L.nil ?_
        refine N.th (N.meet [(20, _), (0, _), (5, _), (6, _)] ⟨rfl, rfl, rfl, rfl, trivial⟩ ⟨_, rfl, rfl, fun hc => ?_, fun hc => ⟨hc0, by simpa using hc⟩⟩)
        rw [hc0]
        exact (Tr.mkdir_r hok hc0).1 (by simpa using hc)
      · refine Vc.bt (by simpa using hc0) ?_
        (repeat (first | refine mv rfl rfl ?_ | refine asg rfl rfl ?_ | refine L.off rfl rfl rfl rfl rfl ?_ | refine L.offU rfl rfl rfl rfl ?_ | refine L.on rfl rfl rfl ?_ | refine pickT rfl rfl rfl ?_ | refine pickF rfl rfl rfl ?_ | refine ext rfl rfl rfl ?_ | refine nilc rfl rfl ?_ | refine lenV (t := 46) rfl u_strs rfl ?_ | refine lenV (t := 25) rfl u_bytes rfl ?_ | refine lenV (t := 22) rfl u_files rfl ?_ | refine lenS (t := 9) rfl u_str rfl ?_ | refine eqlI rfl rfl rfl ?_ | refine neqI rfl rfl rfl ?_ | refine lssI rfl rfl rfl ?_ | refine leqI rfl rfl rfl ?_ | refine gtrI rfl rfl rfl ?_ | refine geqI rfl rfl rfl ?_))
        refine L.nil ?_
        refine N.th (N.meet [(20, .bool true), (0, _), (5, _), (6, _)] ⟨rfl, rfl, rfl, rfl, trivial⟩ ⟨_, rfl, rfl, fun hc => ?_, fun hc => by cases hc⟩)
        unfold Tr.mkdir; rw [if_pos hc0]
    rintro E' w2 ⟨c, rfl, rfl, hc1, hc2⟩
    refine W.cond rfl (fun hh => ?_) (fun hh => ?_)
    · refine W.seq ?_
      refine W.reg <| mv rfl rfl <| asg rfl rfl <| L.nil ?_
      refine N.th ?_
      refine W.ret ?_
      refine N.rth ?_
      refine N.ret1 rfl rfl ?_   -- RETURN
      rw [hc1 hh]
      exact ⟨rfl, ⟨lv, E, hR1, hE⟩, hx1.none⟩
    · refine W.skip ?_
      exact N.th (N.meet [(0, _), (5, _)] ⟨rfl, rfl, trivial⟩ ⟨rfl, rfl, hc2 hh⟩)
  rintro E' w1' ⟨rfl, rfl, hc0, hp0⟩
  obtain ⟨-, md2, md3, md4⟩ := Tr.mkdir_r hok hc0
  refine W.seq ?_
  refine W.reg <| mv rfl rfl <| mv rfl rfl <| call (vs := [_, _]) rfl rfl ok_Rat (c_Rat (Sp.clean s).1 hR1 (by omega)) ?_
  rintro e w1'' ⟨k, rfl, hk, rfl⟩
  refine ⟨_, rfl, ?_⟩
  refine asg rfl rfl <| L.nil ?_
  refine N.th ?_
  have hk := hk.of hE hok.nodup
  refine W.seq ?_
  refine W.reg <| mv rfl rfl <| mv rfl rfl <| call (vs := [_, _]) rfl rfl ok_Rahead (c_Rahead (Sp.clean s).1 hR1 (by omega) (by omega)) ?_
  rintro e w2 ⟨hx2, hah⟩
  obtain ⟨fb, lkv, rfl, hah2⟩ := ahead_of_call hE hok.nodup hah
  clear hah
  have hR2 := hR1.ext0 hx2
  have hx02 : Ext none_ w w2 := hx1.trans hx2
  refine ⟨_, rfl, ?_⟩
  refine mv rfl rfl <| ext (v := .bool fb) rfl rfl rfl <| ext (v := lkv) rfl rfl rfl <| asg rfl rfl <| asg rfl rfl <| L.nil ?_
  refine N.th ?_
  obtain ⟨ra, rc, rfl, -⟩ := h.slice
  refine W.seq ?_
  refine W.block ?_
  refine W.seq ?_
  rcases hk with ⟨rfl, hg⟩ | ⟨i, x, rfl, hxe, hg⟩
  · obtain ⟨md5, md6⟩ := md4 hp0 hg
    refine W.reg ?_
    (repeat (first | refine mv rfl rfl ?_ | refine asg rfl rfl ?_ | refine L.off rfl rfl rfl rfl rfl ?_ | refine L.offU rfl rfl rfl rfl ?_ | refine L.on rfl rfl rfl ?_ | refine pickT rfl rfl rfl ?_ | refine pickF rfl rfl rfl ?_ | refine ext rfl rfl rfl ?_ | refine nilc rfl rfl ?_ | refine lenV (t := 46) rfl u_strs rfl ?_ | refine lenV (t := 25) rfl u_bytes rfl ?_ | refine lenV (t := 22) rfl u_files rfl ?_ | refine lenS (t := 9) rfl u_str rfl ?_ | refine eqlI rfl rfl rfl ?_ | refine neqI rfl rfl rfl ?_ | refine lssI rfl rfl rfl ?_ | refine leqI rfl rfl rfl ?_ | refine gtrI rfl rfl rfl ?_ | refine geqI rfl rfl rfl ?_))
    refine L.nil ?_
    refine N.th ?_
    refine W.condF rfl ?_
    refine W.seq ?_
    refine W.reg ?_
    (repeat (first | refine mv rfl rfl ?_ | refine asg rfl rfl ?_ | refine L.off rfl rfl rfl rfl rfl ?_ | refine L.offU rfl rfl rfl rfl ?_ | refine L.on rfl rfl rfl ?_ | refine pickT rfl rfl rfl ?_ | refine pickF rfl rfl rfl ?_ | refine ext rfl rfl rfl ?_ | refine nilc rfl rfl ?_ | refine lenV (t := 46) rfl u_strs rfl ?_ | refine lenV (t := 25) rfl u_bytes rfl ?_ | refine lenV (t := 22) rfl u_files rfl ?_ | refine lenS (t := 9) rfl u_str rfl ?_ | refine eqlI rfl rfl rfl ?_ | refine neqI rfl rfl rfl ?_ | refine lssI rfl rfl rfl ?_ | refine leqI rfl rfl rfl ?_ | refine gtrI rfl rfl rfl ?_ | refine geqI rfl rfl rfl ?_))
    refine L.nil ?_
    refine N.th ?_
    refine W.cond rfl (fun hh => ?_) (fun hh => ?_)
    · subst hh
      refine W.seq ?_
      refine W.reg <| asg rfl rfl <| L.nil ?_
      refine N.th ?_
      refine W.ret ?_
      refine N.rinb <| N.rth ?_
      refine N.ret1 rfl rfl ?_   -- RETURN
      have ha : Tr.ahd m (Tr.ups (Sp.parts (Sp.clean s).1)) = none := by
        rcases hah2 with ⟨-, ha⟩ | ⟨hf, -⟩
        · exact ha
        · cases hf
      rw [md5 ha]
      exact ⟨rfl, ⟨_, E, hR2, hE⟩, hx02.none⟩
    · subst hh
      obtain ⟨lk, halk, hlk⟩ : ∃ lk, Tr.ahd m (Tr.ups (Sp.parts (Sp.clean s).1)) = some lk ∧ StrsA w1'.heap.size w2 lkv lk := by
        rcases hah2 with ⟨hf, -⟩ | ⟨-, lk, h1, h2⟩
        · cases hf
        · exact ⟨lk, h1, h2⟩
      obtain ⟨md7, md8⟩ := md6 lk halk
      have hlkl := lack_len (Sp.clean_cl hc0) halk
      obtain ⟨lka, lkc, rfl, hlkn, hlkm⟩ := own_slice hlk
      refine W.seq ?_
      refine W.reg <| mv rfl rfl <| nilc rfl rfl <| fad rfl fl_RT_0 rfl <| ld1 rfl ag_files rfl hR2.c0 <| lenV rfl u_files rfl <| mv rfl rfl <| lenV rfl u_strs rfl <| addI (c := ((E.length + lk.length : Nat) : Int)) rfl rfl rfl (by rw [w64 (by omega) (by omega)]; simp) <| addI (c := ((E.length + lk.length + 1 : Nat) : Int)) rfl rfl rfl (by rw [w64 (by omega) (by omega)]; simp) <| gtrI rfl rfl rfl <| asg rfl rfl <| L.nil ?_
      refine N.th ?_
      refine W.cond rfl (fun hh => ?_) (fun hh => ?_)
      · refine W.seq ?_
        refine W.reg <| asg rfl rfl <| L.nil ?_
        refine N.th ?_
        refine W.ret ?_
        refine N.rinb <| N.rth ?_
        refine N.ret1 rfl rfl ?_   -- RETURN
        rw [md7 (by have := of_decide_eq_true hh; omega)]
        exact ⟨rfl, ⟨_, E, hR2, hE⟩, hx02.none⟩
      · obtain ⟨md9, md10⟩ := md8 (by have := of_decide_eq_false hh; omega)
        refine W.skip ?_
        refine N.inb ?_
        refine N.th ?_
        refine W.seq ?_
        refine W.reg <| mv rfl rfl <| mv rfl rfl <| mv rfl rfl <| push1 (cs := #[.string (S (Sp.clean s).1)]) rfl rfl rfl rfl (fun _ => by kernel_rfl) el_strs rfl rfl hlk (by omega) (by simp only [maxLen]; omega) hx2.size fun v' w3 hown3 hx3 => ?_
        have hx23 : Ext none_ w1' w3 := hx2.own hlk hx3
        have hown3' : StrsA w1'.heap.size w3 v' (lk ++ [(Sp.clean s).1]) := by simpa [StrsA, encT] using hown3
        have hR3 := hR1.ext0 hx23
        refine call (vs := [_, _]) rfl rfl ok_Rmake (c_Rmake (lk ++ [(Sp.clean s).1]) hR3 (Row.own hown3') (by simp; omega)) ?_
        rintro e w4 ⟨rfl, ⟨lv4, E4, hR4, hE4, -⟩, hx4⟩
        refine ⟨_, rfl, ?_⟩
        refine L.nil ?_
        refine N.th ?_
        refine W.seq ?_
        refine W.reg <| asg rfl rfl <| L.nil ?_
        refine N.th ?_
        refine W.ret ?_
        refine N.ret1 rfl rfl ?_   -- RETURN
        exact ⟨by rw [md9], ⟨lv4, E4, hR4, by rw [hE4, hE, md10]⟩, (hx1.trans hx23).none.trans hx4⟩
  · obtain ⟨rb, ro, rfl, -, hil⟩ := hR2.some_ hxe
    have hc1 := (hR2.files.cell hxe).2.1
    refine W.reg ?_
    (repeat (first | refine mv rfl rfl ?_ | refine asg rfl rfl ?_ | refine L.off rfl rfl rfl rfl rfl ?_ | refine L.offU rfl rfl rfl rfl ?_ | refine L.on rfl rfl rfl ?_ | refine pickT rfl rfl rfl ?_ | refine pickF rfl rfl rfl ?_ | refine ext rfl rfl rfl ?_ | refine nilc rfl rfl ?_ | refine lenV (t := 46) rfl u_strs rfl ?_ | refine lenV (t := 25) rfl u_bytes rfl ?_ | refine lenV (t := 22) rfl u_files rfl ?_ | refine lenS (t := 9) rfl u_str rfl ?_ | refine eqlI rfl rfl rfl ?_ | refine neqI rfl rfl rfl ?_ | refine lssI rfl rfl rfl ?_ | refine leqI rfl rfl rfl ?_ | refine gtrI rfl rfl rfl ?_ | refine geqI rfl rfl rfl ?_))
    refine fad rfl fl_RT_0 rfl <| L.on rfl rfl rfl <| ld1 rfl ag_files rfl hR2.c0 ?_
    (repeat (first | refine mv rfl rfl ?_ | refine asg rfl rfl ?_ | refine L.off rfl rfl rfl rfl rfl ?_ | refine L.offU rfl rfl rfl rfl ?_ | refine L.on rfl rfl rfl ?_ | refine pickT rfl rfl rfl ?_ | refine pickF rfl rfl rfl ?_ | refine ext rfl rfl rfl ?_ | refine nilc rfl rfl ?_ | refine lenV (t := 46) rfl u_strs rfl ?_ | refine lenV (t := 25) rfl u_bytes rfl ?_ | refine lenV (t := 22) rfl u_files rfl ?_ | refine lenS (t := 9) rfl u_str rfl ?_ | refine eqlI rfl rfl rfl ?_ | refine neqI rfl rfl rfl ?_ | refine lssI rfl rfl rfl ?_ | refine leqI rfl rfl rfl ?_ | refine gtrI rfl rfl rfl ?_ | refine geqI rfl rfl rfl ?_))
    refine ixa rfl rfl u_files sz_File rfl (by omega) (by omega) <| L.on rfl rfl rfl <| fad rfl fl_File_1 rfl <| L.on rfl rfl rfl <| ld1 rfl ag_bool rfl hc1 ?_
    cases hxd : x.2.1 with
    | true =>
      (repeat (first | refine mv rfl rfl ?_ | refine asg rfl rfl ?_ | refine L.off rfl rfl rfl rfl rfl ?_ | refine L.offU rfl rfl rfl rfl ?_ | refine L.on rfl rfl rfl ?_ | refine pickT rfl rfl rfl ?_ | refine pickF rfl rfl rfl ?_ | refine ext rfl rfl rfl ?_ | refine nilc rfl rfl ?_ | refine lenV (t := 46) rfl u_strs rfl ?_ | refine lenV (t := 25) rfl u_bytes rfl ?_ | refine lenV (t := 22) rfl u_files rfl ?_ | refine lenS (t := 9) rfl u_str rfl ?_ | refine eqlI rfl rfl rfl ?_ | refine neqI rfl rfl rfl ?_ | refine lssI rfl rfl rfl ?_ | refine leqI rfl rfl rfl ?_ | refine gtrI rfl rfl rfl ?_ | refine geqI rfl rfl rfl ?_))
      refine L.nil ?_
      refine N.th ?_
      refine W.condT rfl ?_
      refine W.seq ?_
      refine W.reg <| asg rfl rfl <| L.nil ?_
      refine N.th ?_
      refine W.ret ?_
      refine N.rinb <| N.rth ?_
      refine N.ret1 rfl rfl ?_   -- RETURN
      rw [md2 x.2.2.2 (by rw [hg, hxd])]
      exact ⟨rfl, ⟨_, E, hR2, hE⟩, hx02.none⟩
    | false =>
      (repeat (first | refine mv rfl rfl ?_ | refine asg rfl rfl ?_ | refine L.off rfl rfl rfl rfl rfl ?_ | refine L.offU rfl rfl rfl rfl ?_ | refine L.on rfl rfl rfl ?_ | refine pickT rfl rfl rfl ?_ | refine pickF rfl rfl rfl ?_ | refine ext rfl rfl rfl ?_ | refine nilc rfl rfl ?_ | refine lenV (t := 46) rfl u_strs rfl ?_ | refine lenV (t := 25) rfl u_bytes rfl ?_ | refine lenV (t := 22) rfl u_files rfl ?_ | refine lenS (t := 9) rfl u_str rfl ?_ | refine eqlI rfl rfl rfl ?_ | refine neqI rfl rfl rfl ?_ | refine lssI rfl rfl rfl ?_ | refine leqI rfl rfl rfl ?_ | refine gtrI rfl rfl rfl ?_ | refine geqI rfl rfl rfl ?_))
      refine L.nil ?_
      refine N.th ?_
      refine W.condF rfl ?_
      refine W.seq ?_
      refine W.reg ?_
      (repeat (first | refine mv rfl rfl ?_ | refine asg rfl rfl ?_ | refine L.off rfl rfl rfl rfl rfl ?_ | refine L.offU rfl rfl rfl rfl ?_ | refine L.on rfl rfl rfl ?_ | refine pickT rfl rfl rfl ?_ | refine pickF rfl rfl rfl ?_ | refine ext rfl rfl rfl ?_ | refine nilc rfl rfl ?_ | refine lenV (t := 46) rfl u_strs rfl ?_ | refine lenV (t := 25) rfl u_bytes rfl ?_ | refine lenV (t := 22) rfl u_files rfl ?_ | refine lenS (t := 9) rfl u_str rfl ?_ | refine eqlI rfl rfl rfl ?_ | refine neqI rfl rfl rfl ?_ | refine lssI rfl rfl rfl ?_ | refine leqI rfl rfl rfl ?_ | refine gtrI rfl rfl rfl ?_ | refine geqI rfl rfl rfl ?_))
      refine L.nil ?_
      refine N.th ?_
      refine W.condT rfl ?_
      refine W.seq ?_
      refine W.reg <| asg rfl rfl <| L.nil ?_
      refine N.th ?_
      refine W.ret ?_
      refine N.rinb <| N.rth ?_
      refine N.ret1 rfl rfl ?_   -- RETURN
      rw [md3 x.2.2.2 (by rw [hg, hxd])]
      exact ⟨rfl, ⟨_, E, hR2, hE⟩, hx02.none⟩

theorem c_RExists {w : World} {rt : Nat} {lv : Value} {E : List FE} {m : Tr.T} (s : Tr.Bytes) (h : RTAt w rt lv E) (hE : fm E = Tr.files m) (hok : Tr.Ok m) :
    Calls P 54 #[pT rt, .string (S s)] w fun e w' => e = .returned (.bool (Tr.exists_ m s)) ∧ Ext none_ w w' := by
  have hEl := len_of hE
  have hml := hok.len
  refine enter (l := [_, _]) (n := 24) Tryz.func54 rfl rfl rfl ?_
  refine W.seq ?_
  refine W.reg <| asg rfl rfl <| L.nil ?_
  refine N.th ?_
  refine W.seq ?_
  refine W.reg <| mv rfl rfl <| call (vs := [_]) rfl rfl ok_RClean (c_RClean s w) ?_
  rintro e w1 ⟨rfl, hx1⟩
  refine ⟨_, rfl, ?_⟩
  refine mv rfl rfl <| ext rfl rfl rfl <| ext rfl rfl rfl <| asg rfl rfl <| asg rfl rfl <| L.nil ?_
  refine N.th ?_
  have hR1 := h.ext0 hx1
  refine W.seq ?_
  refine W.reg ?_
  (repeat (first | refine mv rfl rfl ?_ | refine asg rfl rfl ?_ | refine L.off rfl rfl rfl rfl rfl ?_ | refine L.offU rfl rfl rfl rfl ?_ | refine L.on rfl rfl rfl ?_ | refine pickT rfl rfl rfl ?_ | refine pickF rfl rfl rfl ?_ | refine ext rfl rfl rfl ?_ | refine nilc rfl rfl ?_ | refine lenV (t := 46) rfl u_strs rfl ?_ | refine lenV (t := 25) rfl u_bytes rfl ?_ | refine lenV (t := 22) rfl u_files rfl ?_ | refine lenS (t := 9) rfl u_str rfl ?_ | refine eqlI rfl rfl rfl ?_ | refine neqI rfl rfl rfl ?_ | refine lssI rfl rfl rfl ?_ | refine leqI rfl rfl rfl ?_ | refine gtrI rfl rfl rfl ?_ | refine geqI rfl rfl rfl ?_))
  unfold Tr.exists_
  by_cases hc0 : (Sp.clean s).2 = 0
  · refine Vc.bt (by simpa using hc0) ?_
    (repeat (first | refine mv rfl rfl ?_ | refine asg rfl rfl ?_ | refine L.off rfl rfl rfl rfl rfl ?_ | refine L.offU rfl rfl rfl rfl ?_ | refine L.on rfl rfl rfl ?_ | refine pickT rfl rfl rfl ?_ | refine pickF rfl rfl rfl ?_ | refine ext rfl rfl rfl ?_ | refine nilc rfl rfl ?_ | refine lenV (t := 46) rfl u_strs rfl ?_ | refine lenV (t := 25) rfl u_bytes rfl ?_ | refine lenV (t := 22) rfl u_files rfl ?_ | refine lenS (t := 9) rfl u_str rfl ?_ | refine eqlI rfl rfl rfl ?_ | refine neqI rfl rfl rfl ?_ | refine lssI rfl rfl rfl ?_ | refine leqI rfl rfl rfl ?_ | refine gtrI rfl rfl rfl ?_ | refine geqI rfl rfl rfl ?_))
    refine eqlS (b := []) rfl rfl rfl ?_
    by_cases hp0 : (Sp.clean s).1 = []
    · refine Vc.bt (by simpa using hp0) ?_
      (repeat (first | refine mv rfl rfl ?_ | refine asg rfl rfl ?_ | refine L.off rfl rfl rfl rfl rfl ?_ | refine L.offU rfl rfl rfl rfl ?_ | refine L.on rfl rfl rfl ?_ | refine pickT rfl rfl rfl ?_ | refine pickF rfl rfl rfl ?_ | refine ext rfl rfl rfl ?_ | refine nilc rfl rfl ?_ | refine lenV (t := 46) rfl u_strs rfl ?_ | refine lenV (t := 25) rfl u_bytes rfl ?_ | refine lenV (t := 22) rfl u_files rfl ?_ | refine lenS (t := 9) rfl u_str rfl ?_ | refine eqlI rfl rfl rfl ?_ | refine neqI rfl rfl rfl ?_ | refine lssI rfl rfl rfl ?_ | refine leqI rfl rfl rfl ?_ | refine gtrI rfl rfl rfl ?_ | refine geqI rfl rfl rfl ?_))
      refine L.nil ?_
      refine N.th ?_
      refine W.ret ?_
      refine N.ret1 rfl rfl ?_   -- RETURN
      exact ⟨by simp [hc0, hp0, Tr.at_], hx1⟩
    · refine Vc.bf (by simpa using hp0) ?_
      (repeat (first | refine mv rfl rfl ?_ | refine asg rfl rfl ?_ | refine L.off rfl rfl rfl rfl rfl ?_ | refine L.offU rfl rfl rfl rfl ?_ | refine L.on rfl rfl rfl ?_ | refine pickT rfl rfl rfl ?_ | refine pickF rfl rfl rfl ?_ | refine ext rfl rfl rfl ?_ | refine nilc rfl rfl ?_ | refine lenV (t := 46) rfl u_strs rfl ?_ | refine lenV (t := 25) rfl u_bytes rfl ?_ | refine lenV (t := 22) rfl u_files rfl ?_ | refine lenS (t := 9) rfl u_str rfl ?_ | refine eqlI rfl rfl rfl ?_ | refine neqI rfl rfl rfl ?_ | refine lssI rfl rfl rfl ?_ | refine leqI rfl rfl rfl ?_ | refine gtrI rfl rfl rfl ?_ | refine geqI rfl rfl rfl ?_))
      refine call (vs := [_, _]) rfl rfl ok_Rat (c_Rat (Sp.clean s).1 hR1 (by omega)) ?_
      rintro e w1' ⟨k, rfl, hk, rfl⟩
      refine ⟨_, rfl, ?_⟩
      rcases hk.of hE hok.nodup with ⟨rfl, hg⟩ | ⟨i, x, rfl, hxe, hg⟩
      · (repeat (first | refine mv rfl rfl ?_ | refine asg rfl rfl ?_ | refine L.off rfl rfl rfl rfl rfl ?_ | refine L.offU rfl rfl rfl rfl ?_ | refine L.on rfl rfl rfl ?_ | refine pickT rfl rfl rfl ?_ | refine pickF rfl rfl rfl ?_ | refine ext rfl rfl rfl ?_ | refine nilc rfl rfl ?_ | refine lenV (t := 46) rfl u_strs rfl ?_ | refine lenV (t := 25) rfl u_bytes rfl ?_ | refine lenV (t := 22) rfl u_files rfl ?_ | refine lenS (t := 9) rfl u_str rfl ?_ | refine eqlI rfl rfl rfl ?_ | refine neqI rfl rfl rfl ?_ | refine lssI rfl rfl rfl ?_ | refine leqI rfl rfl rfl ?_ | refine gtrI rfl rfl rfl ?_ | refine geqI rfl rfl rfl ?_))
        refine L.nil ?_
        refine N.th ?_
        refine W.ret ?_
        refine N.ret1 rfl rfl ?_   -- RETURN
        exact ⟨by simp [hc0, Tr.at_of hp0, hg], hx1⟩
      · (repeat (first | refine mv rfl rfl ?_ | refine asg rfl rfl ?_ | refine L.off rfl rfl rfl rfl rfl ?_ | refine L.offU rfl rfl rfl rfl ?_ | refine L.on rfl rfl rfl ?_ | refine pickT rfl rfl rfl ?_ | refine pickF rfl rfl rfl ?_ | refine ext rfl rfl rfl ?_ | refine nilc rfl rfl ?_ | refine lenV (t := 46) rfl u_strs rfl ?_ | refine lenV (t := 25) rfl u_bytes rfl ?_ | refine lenV (t := 22) rfl u_files rfl ?_ | refine lenS (t := 9) rfl u_str rfl ?_ | refine eqlI rfl rfl rfl ?_ | refine neqI rfl rfl rfl ?_ | refine lssI rfl rfl rfl ?_ | refine leqI rfl rfl rfl ?_ | refine gtrI rfl rfl rfl ?_ | refine geqI rfl rfl rfl ?_))
        refine L.nil ?_
        refine N.th ?_
        refine W.ret ?_
        refine N.ret1 rfl rfl ?_   -- RETURN
        exact ⟨by simp [hc0, Tr.at_of hp0, hg], hx1⟩
  · refine Vc.bf (by simpa using hc0) ?_
    (repeat (first | refine mv rfl rfl ?_ | refine asg rfl rfl ?_ | refine L.off rfl rfl rfl rfl rfl ?_ | refine L.offU rfl rfl rfl rfl ?_ | refine L.on rfl rfl rfl ?_ | refine pickT rfl rfl rfl ?_ | refine pickF rfl rfl rfl ?_ | refine ext rfl rfl rfl ?_ | refine nilc rfl rfl ?_ | refine lenV (t := 46) rfl u_strs rfl ?_ | refine lenV (t := 25) rfl u_bytes rfl ?_ | refine lenV (t := 22) rfl u_files rfl ?_ | refine lenS (t := 9) rfl u_str rfl ?_ | refine eqlI rfl rfl rfl ?_ | refine neqI rfl rfl rfl ?_ | refine lssI rfl rfl rfl ?_ | refine leqI rfl rfl rfl ?_ | refine gtrI rfl rfl rfl ?_ | refine geqI rfl rfl rfl ?_))
    refine L.nil ?_
    refine N.th ?_
    refine W.ret ?_
    refine N.ret1 rfl rfl ?_   -- RETURN
    exact ⟨by simp [hc0], hx1⟩
end Go.Proofs.YtmdpmpdlkaogdaaGreatDoor
