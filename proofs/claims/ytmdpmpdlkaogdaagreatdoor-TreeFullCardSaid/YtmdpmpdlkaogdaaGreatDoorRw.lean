/- Walks: (*haversackref7.Tree).make, Write, Append. -/
import Derived.Test.YtmdpmpdlkaogdaaGreatDoorRv
namespace Go.Proofs.YtmdpmpdlkaogdaaGreatDoor
open Go Go.RowKit Vc

theorem ok_RWrite : FnOk P 48 := ⟨_, Tryz.func48, by kernel_rfl, by kernel_rfl⟩
theorem ok_RAppend : FnOk P 49 := ⟨_, Tryz.func49, by kernel_rfl, by kernel_rfl⟩

/-- A copy of bytes that came in. -/
theorem cpyB {P : Program} {Q : Exit → Act → World → Prop} {ds : List Deferred} {n : Nat} {E : Env} {w : World} {ops : Array Oper} {l : List Oper} {mm : Nat} {d : Nat} {ty : TypeId} {pos : String} {af : Array Edge} {t : TypeId}
    {x : Operand} {bv : Value} {b : List UInt8} (hx : opd E x = some bv) (hb : BytA w bv b) (ht : ElT P t tB (.int .u8 0) 1 1) (hd : Nat.blt d n = true) (hbl : b.length ≤ 1000000000)
    (k : ∀ v' w', Byts w.heap.size w' v' b → Ext none_ w w' → L Fence.wide mm P ds n ops l Q ((d, v') :: E) w') : L Fence.wide mm P ds n ops (⟨some d, .call ⟨.builtin .append, #[.const (.slice none 0 0), x], #[t, t]⟩, ty, pos, af, none⟩ :: l) Q E w := by
  rcases hb.form with ⟨rfl, h0⟩ | ⟨ad, c, rfl, h1, h2, hc⟩
  · obtain rfl : b = [] := List.eq_nil_of_length_eq_zero h0
    exact appN (st := .plain Fence.wide mm) rfl hx hd ht (Nat.le_refl _) (k _ _ (own_nil _ _ _ _) (Ext.refl _ _))
  · exact app rfl hx hd ht (own_nil _ w.heap.size _ _) (by simp) (fun j u hj => (hc j u hj).2) (encB_one b) (by omega) (by simp only [maxLen]; omega) (Nat.le_refl _) fun v' w' ho hx' _ _ => k v' w' (by simpa [Byts] using ho) (hx'.mono fun _ _ h => by cases h)
theorem strs_rt {w w' : World} {rt : Nat} {lv v : Value} {E : List FE} {l : List Sp.Bytes} (h : RTAt w rt lv E) (hv : Row w v 9 1 l.length (encT l)) (hx : Ext (fun k => k = rt) w w') : Row w' v 9 1 l.length (encT l) :=
  hv.ext hx fun k hk e => by
    obtain ⟨cu, fr, hc⟩ := hv.kind k hk
    subst e
    rw [h.cell] at hc; cases hc

theorem c_Rmake {w : World} {rt : Nat} {lv : Value} {E : List FE} {v : Value} (l : List Tr.Bytes) (h : RTAt w rt lv E) (hv : Row w v 9 1 l.length (encT l)) (hl : E.length + l.length ≤ 1000000) :
    Calls P 79 #[pT rt, v] w fun e w' => e = .returned (.tuple #[]) ∧ (∃ lv' E', RTAt w' rt lv' E' ∧ fm E' = Tr.insL (fm E) l ∧ E'.length ≤ E.length + l.length) ∧ Ext (fun k => k = rt) w w' := by
  obtain ⟨-, a, c, rfl, hn, hmx, -, -⟩ := id hv
  refine enter (l := [_, _]) (n := 18) Tryz.func79 rfl rfl rfl ?_
  refine W.seq ?_
  refine W.reg <| asg rfl rfl <| L.nil ?_
  refine N.th ?_
  refine W.block ?_
  refine W.loop (X := Nat) (fun i => [(0, pT rt), (1, .slice a l.length c), (4, .int .i64 i)]) (fun i w' => i ≤ l.length ∧ Ext (fun k => k = rt) w w' ∧ Row w' (.slice a l.length c) 9 1 l.length (encT l) ∧ ∃ lv' E', RTAt w' rt lv' E' ∧ fm E' = Tr.insL (fm E) (l.take i) ∧ E'.length ≤ E.length + i) (fun i => l.length - i) 0 ⟨rfl, rfl, rfl, trivial⟩
    ⟨by omega, Ext.refl _ _, hv, lv, E, h, rfl, Nat.le_refl _⟩ ?_
  rintro i w1 ⟨hi, hx1, hv1, lv1, E1, hR1, hE1, hEl⟩
  refine W.seq ?_
  refine W.seq ?_
  refine W.reg <| mv rfl rfl <| mv rfl rfl <| lenV rfl u_strs rfl <| lssI rfl rfl rfl <| L.nil ?_
  refine N.th ?_
  refine W.cond rfl (fun hh => ?_) (fun hh => ?_)
  · refine W.skip ?_
    refine N.th ?_
    have hi1 : i < l.length := by simp at hh; omega
    obtain ⟨d, hd⟩ : ∃ d, l[i]? = some d := ⟨_, List.getElem?_eq_getElem hi1⟩
    rcases hv1.form with ⟨h0, h3, _⟩ | ⟨b, o, c', h0, -, -, -, hcell⟩
    · omega
    cases h0
    have hcd : w1.cell? ⟨b, o + i * 1, none⟩ = some (.string (S d)) := by rw [Nat.mul_one]; exact hcell i _ (by simp [encT, hd])
    refine W.seq ?_
    refine W.block ?_
    refine W.reg <| mv rfl rfl <| mv rfl rfl <| mv rfl rfl <| ixa rfl rfl u_strs sz_str rfl (by omega) (by omega) <| ld1 rfl ag_str rfl hcd <| bld (vs := #[(0, .string (S d)), (1, .bool true)]) (v := .agg (fcells (d, true, .slice none 0 0, [])).toArray) rfl rfl (fun _ => by kernel_rfl) <|
      call (vs := [_, _]) rfl rfl ok_Rput (c_Rput (d, true, .slice none 0 0, []) hR1 (Row.nil w1 tB 1) (by omega)) ?_
    rintro e w2 ⟨rfl, lv2, E2, hR2, hE2, hEl2, hx2⟩
    refine ⟨_, rfl, ?_⟩
    refine L.nil ?_
    refine N.inb ?_
    refine N.th ?_
    refine W.reg <| mv rfl rfl <| addI (c := ((i + 1 : Nat) : Int)) rfl rfl rfl (by rw [w64 (by omega) (by omega)]; simp) <| asg rfl rfl <| L.nil ?_
    refine N.th (N.round (x := i + 1) ⟨rfl, rfl, rfl, trivial⟩ ⟨by omega, hx1.trans hx2, strs_rt hR1 hv1 hx2, lv2, E2, hR2, ?_, by omega⟩ (by omega))   -- ROUND
    rw [hE2, hE1, List.take_add_one, hd]
    simp [Tr.insL]
  · refine W.exit ?_
    refine N.xth ?_
    refine N.xth ?_
    refine N.xeq ?_
    refine N.end0 rfl ?_
    have hi1 : i = l.length := by simp at hh; omega
    rw [hi1, List.take_length] at hE1
    exact ⟨rfl, ⟨lv1, E1, hR1, hE1, by omega⟩, hx1⟩

/-- What a method that turns the document's tree leaves. -/
abbrev DoesR (rt : Nat) (w : World) (r : Tr.T × Int) (e : Ending) (w' : World) : Prop := e = .returned (.int .i64 r.2) ∧ (∃ lv' E', RTAt w' rt lv' E' ∧ fm E' = Tr.files r.1) ∧ Ext (fun k => k = rt) w w'
/-- What 'at' tells, of the tree. -/
theorem AtR.of {E : List FE} {m : Tr.T} {p : Tr.Bytes} {k : Int} (h : AtR E p k) (hE : fm E = Tr.files m) (hn : (m.map (·.1)).Nodup) : (k = -1 ∧ Tr.get m p = none) ∨ ∃ (i : Nat) (x : FE), k = i ∧ E[i]? = some x ∧ Tr.get m p = some (x.2.1, x.2.2.2) := by
  unfold AtR at h
  rw [hE, Tr.files_get hn] at h
  exact h
theorem len_of {E : List FE} {m : Tr.T} (hE : fm E = Tr.files m) : E.length = m.length := by
  have := congrArg List.length hE
  rw [fm_len, Tr.files_len] at this
  exact this

theorem c_RWrite {w : World} {rt : Nat} {lv bv : Value} {E : List FE} {m : Tr.T} {b : Tr.Bytes} (s : Tr.Bytes) (h : RTAt w rt lv E) (hE : fm E = Tr.files m) (hok : Tr.Ok m) (hb : BytA w bv b) (hbl : b.length ≤ 100000000) :
    Calls P 48 #[pT rt, .string (S s), bv] w (DoesR rt w (Tr.write m s b)) := by
  have hEl := len_of hE
  have hml := hok.len
  have hmb := hok.bytes
  have hsz : Tr.size (fm E) = Tr.size m := by rw [hE, Tr.files_size]
  obtain ⟨ba, bc, rfl, hbn, hbm, -, -⟩ := id hb
  refine enter (l := [_, _, _]) (n := 96) Tryz.func48 rfl rfl rfl ?_
  refine W.seq ?_
  refine W.reg <| asg rfl rfl <| L.nil ?_
  refine N.th ?_
  refine W.seq ?_
  refine W.reg <| mv rfl rfl <| call (vs := [_]) rfl rfl ok_RClean (c_RClean s w) ?_
  rintro e w1 ⟨rfl, hx1⟩
  refine ⟨_, rfl, ?_⟩
  refine mv rfl rfl <| ext rfl rfl rfl <| ext rfl rfl rfl <| asg rfl rfl <| asg rfl rfl <| L.nil ?_
  refine N.th ?_
  have hcl := clean_len s
  refine W.seq ?_
  refine W.seq ?_
  refine W.reg <| mv rfl rfl <| neqI rfl rfl rfl <| L.nil ?_
  refine N.th ?_
  have hR1 := h.ext0 hx1
  refine W.cond rfl (fun hh => ?_) (fun hh => ?_)
  · refine W.seq ?_
    refine W.reg <| mv rfl rfl <| asg rfl rfl <| L.nil ?_
    refine N.th ?_
    refine W.ret ?_
    refine N.rth ?_
    refine N.ret1 rfl rfl ?_   -- RETURN
    have h0 : (Sp.clean s).2 ≠ 0 := by simpa using hh
    unfold Tr.write; rw [put_err h0]
    exact ⟨rfl, ⟨lv, E, hR1, hE⟩, hx1.none⟩
  have hc0 : (Sp.clean s).2 = 0 := by simpa using hh
  obtain ⟨wr1, wr2⟩ := Tr.write_r hok (b := b) hc0
  refine W.skip ?_
  refine N.th ?_
  refine W.seq ?_
  refine W.reg <| mv rfl rfl <| mv rfl rfl <| call (vs := [_, _]) rfl rfl ok_Rat (c_Rat (Sp.clean s).1 hR1 (by omega)) ?_
  rintro e w1' ⟨k, rfl, hk, rfl⟩
  refine ⟨_, rfl, ?_⟩
  refine asg rfl rfl <| L.nil ?_
  refine N.th ?_
  have hk := hk.of hE hok.nodup
  refine W.seq ?_
  refine W.reg <| mv rfl rfl <| mv rfl rfl <| call (vs := [_, _]) rfl rfl ok_Rahead (c_Rahead (Sp.clean s).1 hR1 (by omega) (by omega)) ?_
  rintro e w2 ⟨hx2, hah⟩
  rw [hE, Tr.ahd_files hok.nodup] at hah
  have hR2 := hR1.ext0 hx2
  obtain ⟨fb, lkv, he, hah2⟩ : ∃ (fb : Bool) (lkv : Value), e = .returned (.tuple #[.bool fb, lkv]) ∧ ((fb = true ∧ Tr.ahd m (Tr.ups (Sp.parts (Sp.clean s).1)) = none) ∨ (fb = false ∧ ∃ lk, Tr.ahd m (Tr.ups (Sp.parts (Sp.clean s).1)) = some lk ∧ StrsA w1.heap.size w2 lkv lk)) := by
    cases ha : Tr.ahd m (Tr.ups (Sp.parts (Sp.clean s).1)) with
    | none => rw [ha] at hah; exact ⟨_, _, hah, .inl ⟨rfl, rfl⟩⟩
    | some lk => rw [ha] at hah; obtain ⟨v, he, hv⟩ := hah; exact ⟨_, _, he, .inr ⟨rfl, lk, rfl, hv⟩⟩
  clear hah
  subst he
  refine ⟨_, rfl, ?_⟩
  refine mv rfl rfl <| ext (v := .bool fb) rfl rfl rfl <| ext (v := lkv) rfl rfl rfl <| asg rfl rfl <| asg rfl rfl <| L.nil ?_
  refine N.th ?_
  have hx02 : Ext none_ w w2 := hx1.trans hx2
  obtain ⟨ra, rc, rfl, -⟩ := h.slice
  refine W.seqM (fun E' w' => E' = [(0, pT rt), (2, .slice ba b.length bc), (7, .string (S (Sp.clean s).1)), (9, .int .i64 k), (11, lkv)] ∧ w' = w2 ∧ (Sp.clean s).1 ≠ [] ∧ (∀ c, Tr.get m (Sp.clean s).1 ≠ some (true, c)) ∧ fb = false) ?_ ?_
  · refine W.seqM (fun E' w' => ∃ c, E' = [(49, .bool c), (0, pT rt), (2, .slice ba b.length bc), (7, .string (S (Sp.clean s).1)), (9, .int .i64 k), (11, lkv)] ∧ w' = w2 ∧ (c = true → Tr.write m s b = (m, 54)) ∧ (c = false → (Sp.clean s).1 ≠ [] ∧ (∀ c, Tr.get m (Sp.clean s).1 ≠ some (true, c)) ∧ fb = false)) ?_ ?_
    · refine W.reg ?_
      refine mv rfl rfl <| eqlS (b := []) rfl rfl rfl ?_
      by_cases hp0 : (Sp.clean s).1 = []
      · refine Vc.bt (by simpa using hp0) ?_
        (repeat (first | refine mv rfl rfl ?_ | refine asg rfl rfl ?_ | refine L.off rfl rfl rfl rfl rfl ?_ | refine L.offU rfl rfl rfl rfl ?_ | refine L.on rfl rfl rfl ?_ | refine pickT rfl rfl rfl ?_ | refine pickF rfl rfl rfl ?_ | refine ext rfl rfl rfl ?_ | refine nilc rfl rfl ?_ | refine lenV (t := 46) rfl u_strs rfl ?_ | refine lenV (t := 25) rfl u_bytes rfl ?_ | refine lenV (t := 22) rfl u_files rfl ?_ | refine lenS (t := 9) rfl u_str rfl ?_ | refine eqlI rfl rfl rfl ?_ | refine neqI rfl rfl rfl ?_ | refine lssI rfl rfl rfl ?_ | refine leqI rfl rfl rfl ?_ | refine gtrI rfl rfl rfl ?_ | refine geqI rfl rfl rfl ?_))
        refine L.nil ?_
        exact N.th (N.meet [(49, .bool true), (0, _), (2, _), (7, _), (9, _), (11, _)] ⟨rfl, rfl, rfl, rfl, rfl, rfl, trivial⟩ ⟨_, rfl, rfl, fun _ => wr1 (.inl hp0), fun hc => by cases hc⟩)
      · refine Vc.bf (by simpa using hp0) ?_
        rcases hk with ⟨rfl, hg⟩ | ⟨i, x, rfl, hxe, hg⟩
        · (repeat (first | refine mv rfl rfl ?_ | refine asg rfl rfl ?_ | refine L.off rfl rfl rfl rfl rfl ?_ | refine L.offU rfl rfl rfl rfl ?_ | refine L.on rfl rfl rfl ?_ | refine pickT rfl rfl rfl ?_ | refine pickF rfl rfl rfl ?_ | refine ext rfl rfl rfl ?_ | refine nilc rfl rfl ?_ | refine lenV (t := 46) rfl u_strs rfl ?_ | refine lenV (t := 25) rfl u_bytes rfl ?_ | refine lenV (t := 22) rfl u_files rfl ?_ | refine lenS (t := 9) rfl u_str rfl ?_ | refine eqlI rfl rfl rfl ?_ | refine neqI rfl rfl rfl ?_ | refine lssI rfl rfl rfl ?_ | refine leqI rfl rfl rfl ?_ | refine gtrI rfl rfl rfl ?_ | refine geqI rfl rfl rfl ?_))
          refine L.nil ?_
          refine N.th (N.meet [(49, .bool fb), (0, _), (2, _), (7, _), (9, _), (11, _)] ⟨rfl, rfl, rfl, rfl, rfl, rfl, trivial⟩ ⟨_, rfl, rfl, fun hc => ?_, fun hc => ⟨hp0, (fun c => by rw [hg]; simp), hc⟩⟩)
          rcases hah2 with ⟨-, ha⟩ | ⟨hf, -⟩
          · exact wr1 (.inr (.inr ha))
          · rw [hf] at hc; cases hc
        · obtain ⟨rb, ro, rfl, -, hil⟩ := hR2.some_ hxe
          have hc1 := (hR2.files.cell hxe).2.1
          (repeat (first | refine mv rfl rfl ?_ | refine asg rfl rfl ?_ | refine L.off rfl rfl rfl rfl rfl ?_ | refine L.offU rfl rfl rfl rfl ?_ | refine L.on rfl rfl rfl ?_ | refine pickT rfl rfl rfl ?_ | refine pickF rfl rfl rfl ?_ | refine ext rfl rfl rfl ?_ | refine nilc rfl rfl ?_ | refine lenV (t := 46) rfl u_strs rfl ?_ | refine lenV (t := 25) rfl u_bytes rfl ?_ | refine lenV (t := 22) rfl u_files rfl ?_ | refine lenS (t := 9) rfl u_str rfl ?_ | refine eqlI rfl rfl rfl ?_ | refine neqI rfl rfl rfl ?_ | refine lssI rfl rfl rfl ?_ | refine leqI rfl rfl rfl ?_ | refine gtrI rfl rfl rfl ?_ | refine geqI rfl rfl rfl ?_))
          refine fad rfl fl_RT_0 rfl <| L.on rfl rfl rfl <| ld1 rfl ag_files rfl hR2.c0 ?_
          (repeat (first | refine mv rfl rfl ?_ | refine asg rfl rfl ?_ | refine L.off rfl rfl rfl rfl rfl ?_ | refine L.offU rfl rfl rfl rfl ?_ | refine L.on rfl rfl rfl ?_ | refine pickT rfl rfl rfl ?_ | refine pickF rfl rfl rfl ?_ | refine ext rfl rfl rfl ?_ | refine nilc rfl rfl ?_ | refine lenV (t := 46) rfl u_strs rfl ?_ | refine lenV (t := 25) rfl u_bytes rfl ?_ | refine lenV (t := 22) rfl u_files rfl ?_ | refine lenS (t := 9) rfl u_str rfl ?_ | refine eqlI rfl rfl rfl ?_ | refine neqI rfl rfl rfl ?_ | refine lssI rfl rfl rfl ?_ | refine leqI rfl rfl rfl ?_ | refine gtrI rfl rfl rfl ?_ | refine geqI rfl rfl rfl ?_))
          refine ixa rfl rfl u_files sz_File rfl (by omega) (by omega) <| L.on rfl rfl rfl <| fad rfl fl_File_1 rfl <| L.on rfl rfl rfl <| ld1 rfl ag_bool rfl hc1 ?_
          cases hxd : x.2.1 with
          | true =>
            (repeat (first | refine mv rfl rfl ?_ | refine asg rfl rfl ?_ | refine L.off rfl rfl rfl rfl rfl ?_ | refine L.offU rfl rfl rfl rfl ?_ | refine L.on rfl rfl rfl ?_ | refine pickT rfl rfl rfl ?_ | refine pickF rfl rfl rfl ?_ | refine ext rfl rfl rfl ?_ | refine nilc rfl rfl ?_ | refine lenV (t := 46) rfl u_strs rfl ?_ | refine lenV (t := 25) rfl u_bytes rfl ?_ | refine lenV (t := 22) rfl u_files rfl ?_ | refine lenS (t := 9) rfl u_str rfl ?_ | refine eqlI rfl rfl rfl ?_ | refine neqI rfl rfl rfl ?_ | refine lssI rfl rfl rfl ?_ | refine leqI rfl rfl rfl ?_ | refine gtrI rfl rfl rfl ?_ | refine geqI rfl rfl rfl ?_))
            refine L.nil ?_
            exact N.th (N.meet [(49, .bool true), (0, _), (2, _), (7, _), (9, _), (11, _)] ⟨rfl, rfl, rfl, rfl, rfl, rfl, trivial⟩ ⟨_, rfl, rfl, fun _ => wr1 (.inr (.inl ⟨x.2.2.2, by rw [hg, hxd]⟩)), fun hc => by cases hc⟩)
          | false =>
            (repeat (first | refine mv rfl rfl ?_ | refine asg rfl rfl ?_ | refine L.off rfl rfl rfl rfl rfl ?_ | refine L.offU rfl rfl rfl rfl ?_ | refine L.on rfl rfl rfl ?_ | refine pickT rfl rfl rfl ?_ | refine pickF rfl rfl rfl ?_ | refine ext rfl rfl rfl ?_ | refine nilc rfl rfl ?_ | refine lenV (t := 46) rfl u_strs rfl ?_ | refine lenV (t := 25) rfl u_bytes rfl ?_ | refine lenV (t := 22) rfl u_files rfl ?_ | refine lenS (t := 9) rfl u_str rfl ?_ | refine eqlI rfl rfl rfl ?_ | refine neqI rfl rfl rfl ?_ | refine lssI rfl rfl rfl ?_ | refine leqI rfl rfl rfl ?_ | refine gtrI rfl rfl rfl ?_ | refine geqI rfl rfl rfl ?_))
            refine L.nil ?_
            refine N.th (N.meet [(49, .bool fb), (0, _), (2, _), (7, _), (9, _), (11, _)] ⟨rfl, rfl, rfl, rfl, rfl, rfl, trivial⟩ ⟨_, rfl, rfl, fun hc => ?_, fun hc => ⟨hp0, (fun c => by rw [hg, hxd]; simp), hc⟩⟩)
            rcases hah2 with ⟨-, ha⟩ | ⟨hf, -⟩
            · exact wr1 (.inr (.inr ha))
            · rw [hf] at hc; cases hc
    rintro E' w3 ⟨c, rfl, rfl, hc1, hc2⟩
    refine W.cond rfl (fun hh => ?_) (fun hh => ?_)
    · refine W.seq ?_
      refine W.reg <| asg rfl rfl <| L.nil ?_
      refine N.th ?_
      refine W.ret ?_
      refine N.rth ?_
      refine N.ret1 rfl rfl ?_   -- RETURN
      rw [hc1 hh]
      exact ⟨rfl, ⟨_, E, hR2, hE⟩, hx02.none⟩
    · refine W.skip ?_
      exact N.th (N.meet [(0, _), (2, _), (7, _), (9, _), (11, _)] ⟨rfl, rfl, rfl, rfl, rfl, trivial⟩ ⟨rfl, rfl, hc2 hh⟩)
  rintro E' w2' ⟨rfl, rfl, hp0, hnd, hfb⟩
  obtain ⟨lk, halk, hlk⟩ : ∃ lk, Tr.ahd m (Tr.ups (Sp.parts (Sp.clean s).1)) = some lk ∧ StrsA w1.heap.size w2' lkv lk := by
    rcases hah2 with ⟨hf, -⟩ | ⟨-, lk, h1, h2⟩
    · rw [hfb] at hf; cases hf
    · exact ⟨lk, h1, h2⟩
  obtain ⟨wr3, wr4⟩ := wr2 lk hp0 hnd halk
  have hlkl : lk.length ≤ 12 := by
    have hcp := Sp.clean_cl hc0
    cases ha : Tr.ahead m (Sp.clean s).1 with
    | none => rw [(Tr.ahd_iff hcp).2 ha] at halk; cases halk
    | some l0 =>
      have h1 := (Tr.ahd_some m _ _ halk).2
      have h3 : lk.length ≤ (Tr.ups (Sp.parts (Sp.clean s).1)).length := (h1.2 (Tr.nodup_ups hcp)).length_le_of_subset fun e he => (h1.1 e he).1
      have h4 := (Tr.parts_cl hcp).2.2
      rw [ups_len] at h3
      omega
  obtain ⟨lka, lkc, rfl, hlkn, hlkm⟩ := own_slice hlk
  have hold := old_le m (Sp.clean s).1
  refine W.seq ?_
  refine W.reg <| asg rfl rfl <| asg rfl rfl <| L.nil ?_
  refine N.th ?_
  refine W.seqM (fun E' w' => E' = [(0, pT rt), (2, .slice ba b.length bc), (7, .string (S (Sp.clean s).1)), (11, .slice lka lk.length lkc), (12, .int .i64 (Tr.old m (Sp.clean s).1)), (13, .int .i64 (Tr.more m (Sp.clean s).1))] ∧ w' = w2') ?_ ?_   -- CUT
  · refine W.seq ?_
    rcases hk with ⟨rfl, hg⟩ | ⟨i, x, rfl, hxe, hg⟩
    · refine W.reg <| mv rfl rfl <| geqI rfl rfl rfl <| Vc.bf (by simp) <| L.nil ?_
      refine N.th ?_
      refine W.condF rfl ?_
      refine W.skip ?_
      refine N.th (N.meet [(0, _), (2, _), (7, _), (11, _), (12, .int .i64 0), (13, .int .i64 1)] ⟨rfl, rfl, rfl, rfl, rfl, rfl, trivial⟩ ⟨?_, rfl⟩)   -- MEET
      simp [Tr.old, Tr.more, hg]
    · obtain ⟨rb, ro, rfl, -, hil⟩ := hR2.some_ hxe
      have hc2 := (hR2.files.cell hxe).2.2
      obtain ⟨-, xa, xc, hxv, -⟩ := hR2.files.bytes x (List.mem_of_getElem? hxe)
      rw [hxv] at hc2
      refine W.reg <| mv rfl rfl <| geqI rfl rfl rfl <| Vc.bt (by simp) <| L.nil ?_
      refine N.th ?_
      refine W.condT rfl ?_
      refine W.reg <| mv rfl rfl <| nilc rfl rfl <| fad rfl fl_RT_0 rfl <| ld1 rfl ag_files rfl hR2.c0 <| mv rfl rfl <| ixa rfl rfl u_files sz_File rfl (by omega) (by omega) <| fad rfl fl_File_2 rfl <| ld1 rfl ag_bytes rfl hc2 <| lenV rfl u_bytes rfl <| asg rfl rfl <| asg rfl rfl <| L.nil ?_
      refine N.th (N.meet [(0, _), (2, _), (7, _), (11, _), (12, .int .i64 x.2.2.2.length), (13, .int .i64 0)] ⟨rfl, rfl, rfl, rfl, rfl, rfl, trivial⟩ ⟨?_, rfl⟩)   -- MEET
      simp [Tr.old, Tr.more, hg]
  rintro E' w3 ⟨rfl, rfl⟩
  have hmore : Tr.more m (Sp.clean s).1 ≤ 1 := by unfold Tr.more; split <;> omega
  refine W.seqM (fun E' w' => E' = [(0, pT rt), (2, .slice ba b.length bc), (7, .string (S (Sp.clean s).1)), (11, .slice lka lk.length lkc)] ∧ w' = w3 ∧ ¬ (65536 < b.length ∨ (1048576 : Int) < (Tr.size m : Int) - Tr.old m (Sp.clean s).1 + b.length ∨ 500 < m.length + Tr.more m (Sp.clean s).1 + lk.length)) ?_ ?_
  · refine W.seqM (fun E' w' => ∃ c, E' = [(86, .bool c), (0, pT rt), (2, .slice ba b.length bc), (7, .string (S (Sp.clean s).1)), (11, .slice lka lk.length lkc)] ∧ w' = w3 ∧ (c = true ↔ (65536 < b.length ∨ (1048576 : Int) < (Tr.size m : Int) - Tr.old m (Sp.clean s).1 + b.length ∨ 500 < m.length + Tr.more m (Sp.clean s).1 + lk.length))) ?_ ?_
    · refine W.reg ?_
      (repeat (first | refine mv rfl rfl ?_ | refine asg rfl rfl ?_ | refine L.off rfl rfl rfl rfl rfl ?_ | refine L.offU rfl rfl rfl rfl ?_ | refine L.on rfl rfl rfl ?_ | refine pickT rfl rfl rfl ?_ | refine pickF rfl rfl rfl ?_ | refine ext rfl rfl rfl ?_ | refine nilc rfl rfl ?_ | refine lenV (t := 46) rfl u_strs rfl ?_ | refine lenV (t := 25) rfl u_bytes rfl ?_ | refine lenV (t := 22) rfl u_files rfl ?_ | refine lenS (t := 9) rfl u_str rfl ?_ | refine eqlI rfl rfl rfl ?_ | refine neqI rfl rfl rfl ?_ | refine lssI rfl rfl rfl ?_ | refine leqI rfl rfl rfl ?_ | refine gtrI rfl rfl rfl ?_ | refine geqI rfl rfl rfl ?_))
      by_cases h1 : 65536 < b.length
      · refine Vc.bt (by simp; omega) ?_
        (repeat (first | refine mv rfl rfl ?_ | refine asg rfl rfl ?_ | refine L.off rfl rfl rfl rfl rfl ?_ | refine L.offU rfl rfl rfl rfl ?_ | refine L.on rfl rfl rfl ?_ | refine pickT rfl rfl rfl ?_ | refine pickF rfl rfl rfl ?_ | refine ext rfl rfl rfl ?_ | refine nilc rfl rfl ?_ | refine lenV (t := 46) rfl u_strs rfl ?_ | refine lenV (t := 25) rfl u_bytes rfl ?_ | refine lenV (t := 22) rfl u_files rfl ?_ | refine lenS (t := 9) rfl u_str rfl ?_ | refine eqlI rfl rfl rfl ?_ | refine neqI rfl rfl rfl ?_ | refine lssI rfl rfl rfl ?_ | refine leqI rfl rfl rfl ?_ | refine gtrI rfl rfl rfl ?_ | refine geqI rfl rfl rfl ?_))
        refine L.nil ?_
        exact N.th (N.meet [(86, .bool true), (0, _), (2, _), (7, _), (11, _)] ⟨rfl, rfl, rfl, rfl, rfl, trivial⟩ ⟨_, rfl, rfl, fun _ => .inl h1, fun _ => rfl⟩)
      · refine Vc.bf (by simp; omega) ?_
        (repeat (first | refine mv rfl rfl ?_ | refine asg rfl rfl ?_ | refine L.off rfl rfl rfl rfl rfl ?_ | refine L.offU rfl rfl rfl rfl ?_ | refine L.on rfl rfl rfl ?_ | refine pickT rfl rfl rfl ?_ | refine pickF rfl rfl rfl ?_ | refine ext rfl rfl rfl ?_ | refine nilc rfl rfl ?_ | refine lenV (t := 46) rfl u_strs rfl ?_ | refine lenV (t := 25) rfl u_bytes rfl ?_ | refine lenV (t := 22) rfl u_files rfl ?_ | refine lenS (t := 9) rfl u_str rfl ?_ | refine eqlI rfl rfl rfl ?_ | refine neqI rfl rfl rfl ?_ | refine lssI rfl rfl rfl ?_ | refine leqI rfl rfl rfl ?_ | refine gtrI rfl rfl rfl ?_ | refine geqI rfl rfl rfl ?_))
        refine call (vs := [_]) rfl rfl ok_RSize (c_RSize hR2 (by omega) (by omega)) ?_
        rintro e w4 ⟨rfl, rfl⟩
        refine ⟨_, rfl, ?_⟩
        rw [hsz]
        (repeat (first | refine mv rfl rfl ?_ | refine asg rfl rfl ?_ | refine L.off rfl rfl rfl rfl rfl ?_ | refine L.offU rfl rfl rfl rfl ?_ | refine L.on rfl rfl rfl ?_ | refine pickT rfl rfl rfl ?_ | refine pickF rfl rfl rfl ?_ | refine ext rfl rfl rfl ?_ | refine nilc rfl rfl ?_ | refine lenV (t := 46) rfl u_strs rfl ?_ | refine lenV (t := 25) rfl u_bytes rfl ?_ | refine lenV (t := 22) rfl u_files rfl ?_ | refine lenS (t := 9) rfl u_str rfl ?_ | refine eqlI rfl rfl rfl ?_ | refine neqI rfl rfl rfl ?_ | refine lssI rfl rfl rfl ?_ | refine leqI rfl rfl rfl ?_ | refine gtrI rfl rfl rfl ?_ | refine geqI rfl rfl rfl ?_))
        refine subI (c := (Tr.size m : Int) - Tr.old m (Sp.clean s).1) rfl rfl rfl (w64 (by omega) (by omega)) ?_
        (repeat (first | refine mv rfl rfl ?_ | refine asg rfl rfl ?_ | refine L.off rfl rfl rfl rfl rfl ?_ | refine L.offU rfl rfl rfl rfl ?_ | refine L.on rfl rfl rfl ?_ | refine pickT rfl rfl rfl ?_ | refine pickF rfl rfl rfl ?_ | refine ext rfl rfl rfl ?_ | refine nilc rfl rfl ?_ | refine lenV (t := 46) rfl u_strs rfl ?_ | refine lenV (t := 25) rfl u_bytes rfl ?_ | refine lenV (t := 22) rfl u_files rfl ?_ | refine lenS (t := 9) rfl u_str rfl ?_ | refine eqlI rfl rfl rfl ?_ | refine neqI rfl rfl rfl ?_ | refine lssI rfl rfl rfl ?_ | refine leqI rfl rfl rfl ?_ | refine gtrI rfl rfl rfl ?_ | refine geqI rfl rfl rfl ?_))
        refine addI (c := (Tr.size m : Int) - Tr.old m (Sp.clean s).1 + b.length) rfl rfl rfl (w64 (by omega) (by omega)) ?_
        (repeat (first | refine mv rfl rfl ?_ | refine asg rfl rfl ?_ | refine L.off rfl rfl rfl rfl rfl ?_ | refine L.offU rfl rfl rfl rfl ?_ | refine L.on rfl rfl rfl ?_ | refine pickT rfl rfl rfl ?_ | refine pickF rfl rfl rfl ?_ | refine ext rfl rfl rfl ?_ | refine nilc rfl rfl ?_ | refine lenV (t := 46) rfl u_strs rfl ?_ | refine lenV (t := 25) rfl u_bytes rfl ?_ | refine lenV (t := 22) rfl u_files rfl ?_ | refine lenS (t := 9) rfl u_str rfl ?_ | refine eqlI rfl rfl rfl ?_ | refine neqI rfl rfl rfl ?_ | refine lssI rfl rfl rfl ?_ | refine leqI rfl rfl rfl ?_ | refine gtrI rfl rfl rfl ?_ | refine geqI rfl rfl rfl ?_))
        by_cases h2 : (1048576 : Int) < (Tr.size m : Int) - Tr.old m (Sp.clean s).1 + b.length
        · refine Vc.bt (by simpa using h2) ?_
          (repeat (first | refine mv rfl rfl ?_ | refine asg rfl rfl ?_ | refine L.off rfl rfl rfl rfl rfl ?_ | refine L.offU rfl rfl rfl rfl ?_ | refine L.on rfl rfl rfl ?_ | refine pickT rfl rfl rfl ?_ | refine pickF rfl rfl rfl ?_ | refine ext rfl rfl rfl ?_ | refine nilc rfl rfl ?_ | refine lenV (t := 46) rfl u_strs rfl ?_ | refine lenV (t := 25) rfl u_bytes rfl ?_ | refine lenV (t := 22) rfl u_files rfl ?_ | refine lenS (t := 9) rfl u_str rfl ?_ | refine eqlI rfl rfl rfl ?_ | refine neqI rfl rfl rfl ?_ | refine lssI rfl rfl rfl ?_ | refine leqI rfl rfl rfl ?_ | refine gtrI rfl rfl rfl ?_ | refine geqI rfl rfl rfl ?_))
          refine L.nil ?_
          exact N.th (N.meet [(86, .bool true), (0, _), (2, _), (7, _), (11, _)] ⟨rfl, rfl, rfl, rfl, rfl, trivial⟩ ⟨_, rfl, rfl, fun _ => .inr (.inl h2), fun _ => rfl⟩)
        · refine Vc.bf (by simpa using h2) ?_
          (repeat (first | refine mv rfl rfl ?_ | refine asg rfl rfl ?_ | refine L.off rfl rfl rfl rfl rfl ?_ | refine L.offU rfl rfl rfl rfl ?_ | refine L.on rfl rfl rfl ?_ | refine pickT rfl rfl rfl ?_ | refine pickF rfl rfl rfl ?_ | refine ext rfl rfl rfl ?_ | refine nilc rfl rfl ?_ | refine lenV (t := 46) rfl u_strs rfl ?_ | refine lenV (t := 25) rfl u_bytes rfl ?_ | refine lenV (t := 22) rfl u_files rfl ?_ | refine lenS (t := 9) rfl u_str rfl ?_ | refine eqlI rfl rfl rfl ?_ | refine neqI rfl rfl rfl ?_ | refine lssI rfl rfl rfl ?_ | refine leqI rfl rfl rfl ?_ | refine gtrI rfl rfl rfl ?_ | refine geqI rfl rfl rfl ?_))
          refine fad rfl fl_RT_0 rfl <| L.on rfl rfl rfl <| ld1 rfl ag_files rfl hR2.c0 ?_
          (repeat (first | refine mv rfl rfl ?_ | refine asg rfl rfl ?_ | refine L.off rfl rfl rfl rfl rfl ?_ | refine L.offU rfl rfl rfl rfl ?_ | refine L.on rfl rfl rfl ?_ | refine pickT rfl rfl rfl ?_ | refine pickF rfl rfl rfl ?_ | refine ext rfl rfl rfl ?_ | refine nilc rfl rfl ?_ | refine lenV (t := 46) rfl u_strs rfl ?_ | refine lenV (t := 25) rfl u_bytes rfl ?_ | refine lenV (t := 22) rfl u_files rfl ?_ | refine lenS (t := 9) rfl u_str rfl ?_ | refine eqlI rfl rfl rfl ?_ | refine neqI rfl rfl rfl ?_ | refine lssI rfl rfl rfl ?_ | refine leqI rfl rfl rfl ?_ | refine gtrI rfl rfl rfl ?_ | refine geqI rfl rfl rfl ?_))
          refine addI (c := ((E.length + Tr.more m (Sp.clean s).1 : Nat) : Int)) rfl rfl rfl (by rw [w64 (by omega) (by omega)]; simp) ?_
          (repeat (first | refine mv rfl rfl ?_ | refine asg rfl rfl ?_ | refine L.off rfl rfl rfl rfl rfl ?_ | refine L.offU rfl rfl rfl rfl ?_ | refine L.on rfl rfl rfl ?_ | refine pickT rfl rfl rfl ?_ | refine pickF rfl rfl rfl ?_ | refine ext rfl rfl rfl ?_ | refine nilc rfl rfl ?_ | refine lenV (t := 46) rfl u_strs rfl ?_ | refine lenV (t := 25) rfl u_bytes rfl ?_ | refine lenV (t := 22) rfl u_files rfl ?_ | refine lenS (t := 9) rfl u_str rfl ?_ | refine eqlI rfl rfl rfl ?_ | refine neqI rfl rfl rfl ?_ | refine lssI rfl rfl rfl ?_ | refine leqI rfl rfl rfl ?_ | refine gtrI rfl rfl rfl ?_ | refine geqI rfl rfl rfl ?_))
          refine addI (c := ((E.length + Tr.more m (Sp.clean s).1 + lk.length : Nat) : Int)) rfl rfl rfl (by rw [w64 (by omega) (by omega)]; simp) ?_
          (repeat (first | refine mv rfl rfl ?_ | refine asg rfl rfl ?_ | refine L.off rfl rfl rfl rfl rfl ?_ | refine L.offU rfl rfl rfl rfl ?_ | refine L.on rfl rfl rfl ?_ | refine pickT rfl rfl rfl ?_ | refine pickF rfl rfl rfl ?_ | refine ext rfl rfl rfl ?_ | refine nilc rfl rfl ?_ | refine lenV (t := 46) rfl u_strs rfl ?_ | refine lenV (t := 25) rfl u_bytes rfl ?_ | refine lenV (t := 22) rfl u_files rfl ?_ | refine lenS (t := 9) rfl u_str rfl ?_ | refine eqlI rfl rfl rfl ?_ | refine neqI rfl rfl rfl ?_ | refine lssI rfl rfl rfl ?_ | refine leqI rfl rfl rfl ?_ | refine gtrI rfl rfl rfl ?_ | refine geqI rfl rfl rfl ?_))
          refine L.nil ?_
          refine N.th (N.meet [(86, _), (0, _), (2, _), (7, _), (11, _)] ⟨rfl, rfl, rfl, rfl, rfl, trivial⟩ ⟨_, rfl, rfl, ?_⟩)
          rw [decide_eq_true_iff]
          constructor
          · intro hh; exact .inr (.inr (by omega))
          · rintro (hh | hh | hh)
            · exact absurd hh h1
            · exact absurd hh h2
            · omega
    rintro E' w4 ⟨c, rfl, rfl, hc⟩
    refine W.cond rfl (fun hh => ?_) (fun hh => ?_)
    · refine W.seq ?_
      refine W.reg <| asg rfl rfl <| L.nil ?_
      refine N.th ?_
      refine W.ret ?_
      refine N.rth ?_
      refine N.ret1 rfl rfl ?_   -- RETURN
      rw [wr3 (hc.1 hh)]
      exact ⟨rfl, ⟨_, E, hR2, hE⟩, hx02.none⟩
    · refine W.skip ?_
      exact N.th (N.meet [(0, _), (2, _), (7, _), (11, _)] ⟨rfl, rfl, rfl, rfl, trivial⟩ ⟨rfl, rfl, fun hx => by rw [hc.2 hx] at hh; cases hh⟩)
  rintro E' w4 ⟨rfl, rfl, hfits⟩
  obtain ⟨hw2, hwf⟩ := wr4 hfits
  refine W.seq ?_
  refine W.reg <| mv rfl rfl <| mv rfl rfl <| call (vs := [_, _]) rfl rfl ok_Rmake (c_Rmake lk hR2 (Row.own hlk) (by omega)) ?_
  rintro e w5 ⟨rfl, ⟨lv5, E5, hR5, hE5, hEl5⟩, hx5⟩
  refine ⟨_, rfl, ?_⟩
  refine L.nil ?_
  refine N.th ?_
  have hb5 : BytA w5 (.slice ba b.length bc) b := (hb.ext0 hx02).keep hx5.size fun ad u hu hlt hcell => hx5.block _ hlt fun e => by
    unfold World.cell? at hcell
    rw [e, hR2.cell] at hcell
    simp only at hcell
    split at hcell
    · cases hcell
    · match ad.off, hcell with
      | 0, hcell =>
        simp at hcell
        simp [encB] at hu
        obtain ⟨y, -, rfl⟩ := hu
        cases hcell
      | k + 1, hcell => simp at hcell
  refine W.seq ?_
  refine W.reg <| mv rfl rfl <| mv rfl rfl <| mv rfl rfl <| cpyB rfl hb5 el_bytes rfl (by omega) fun cv w6 hcv hx6 => ?_
  obtain ⟨ca, cc, rfl, -, -⟩ := own_slice hcv
  refine bld (vs := #[(0, .string (S (Sp.clean s).1)), (2, .slice ca b.length cc)]) (v := .agg (fcells ((Sp.clean s).1, false, .slice ca b.length cc, b)).toArray) rfl rfl (fun _ => by kernel_rfl) <|
    call (vs := [_, _]) rfl rfl ok_Rput (c_Rput ((Sp.clean s).1, false, .slice ca b.length cc, b) (hR5.ext0 hx6) (Row.own hcv) (by omega)) ?_
  rintro e w7 ⟨rfl, lv7, E7, hR7, hE7, -, hx7⟩
  refine ⟨_, rfl, ?_⟩
  refine L.nil ?_
  refine N.th ?_
  refine W.seq ?_
  refine W.reg <| asg rfl rfl <| L.nil ?_
  refine N.th ?_
  refine W.ret ?_
  refine N.ret1 rfl rfl ?_   -- RETURN
  refine ⟨by rw [hw2], ⟨lv7, E7, hR7, ?_⟩, hx02.none.trans (hx5.trans (hx6.none.trans hx7))⟩
  rw [hE7, hE5, hE, hwf]
end Go.Proofs.YtmdpmpdlkaogdaaGreatDoor
