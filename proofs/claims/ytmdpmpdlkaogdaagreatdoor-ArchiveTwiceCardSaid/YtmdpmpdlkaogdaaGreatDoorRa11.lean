/- The calculus: deferred closures that recover, results that lie in variables. Nothing here speaks of the program. Walks: archive.Open's deferred closure, strings.HasPrefix. Walks: (*haversackref7.Tree).Append, Read, Mkdir, Remove, Exists. The walk of tree.Of. The walk of archive.Open. -/
import Derived.Test.YtmdpmpdlkaogdaaGreatDoorRa10
import Derived.Test.YtmdpmpdlkaogdaaGreatDoorRa01
import Derived.Recover
import Derived.Test.YtmdpmpdlkaogdaaGreatDoorRa08

namespace Go.Proofs.YtmdpmpdlkaogdaaGreatDoor.Vc
open Go Go.RowKit
/-- A call of a function that defers. -/
theorem enterD {P : Program} {f : FuncId} {fn : Func} {c : Code} {l : List Value} {w : World} {R : Ending → World → Prop} {n : Nat} (hf : P.funcs[f]? = some fn) (hb : fn.body = some c) (hn : fn.ntmps = n) (hl : Nat.ble l.length n = true)
    (h : W Fence.wide 0 P [] n c (bodyPostD P fn R) (argE 0 l) w) : Calls P f l.toArray w R := by
  refine calls_of_wp_defers hf hb (wpIn_wide.1 (h _ ⟨rfl, ?_, ?_⟩))
  · have : l.length ≤ n := Nat.le_of_ble_eq_true hl
    simp [hn]; omega
  · intro t v hg
    obtain ⟨_, h2⟩ := getE_argE l 0 t v hg
    rw [Nat.sub_zero] at h2
    simp only [Array.getD_eq_getD_getElem?]
    rw [Array.getElem?_append_left (by have := (List.getElem?_eq_some_iff.1 h2).1; simpa using this)]
    simp [h2]
/-- A call by a frame on its way out, of a function that recovers first of all. -/
theorem enterR {P : Program} {f : FuncId} {fn : Func} {c : Code} {l : List Value} {u : FrameMode} {w : World} {R : Ending → FrameMode → World → Prop} {n d d2 id : Nat} {tys : Array TypeId} {ty ty2 : TypeId} {pos pos2 : String} {af af2 : Array Edge} {r : Value} {u' : FrameMode} (hf : P.funcs[f]? = some fn)
    (hb : fn.body = some (.seq (.region id #[⟨some d, .call ⟨.builtin .recover, #[], tys⟩, ty, pos, af, none⟩, ⟨some d2, .assign (.tmp d), ty2, pos2, af2, none⟩] false) c)) (hn : fn.ntmps = n) (hl : Nat.ble l.length n = true) (hd : Nat.blt d n = true) (hd2 : Nat.blt d2 n = true)
    (hu : (∃ v older, u = .panicking ({ v := v, recovered := false } :: older) ∧ r = v ∧ u' = .panicking ({ v := v, recovered := true } :: older)) ∨ (u = .returning ∧ r = .nilIface ∧ u' = .returning))
    (h : W Fence.wide 0 P [] n c (bodyPost P fn fun e w' => R e u' w') ((d2, r) :: (d, r) :: argE 0 l) w) : CallsD P f l.toArray u w R := by
  refine callsD_of_wpS hf hb fun c₀ cs hc => ?_
  have hF : Fits [] n (argE 0 l) { tmps := l.toArray ++ Array.replicate (fn.ntmps - l.toArray.size) undef, defers := [] } := by
    refine ⟨rfl, ?_, ?_⟩
    · have : l.length ≤ n := Nat.le_of_ble_eq_true hl
      simp [hn]; omega
    · intro t v hg
      obtain ⟨_, h2⟩ := getE_argE l 0 t v hg
      rw [Nat.sub_zero] at h2
      simp only [Array.getD_eq_getD_getElem?]
      rw [Array.getElem?_append_left (by have := (List.getElem?_eq_some_iff.1 h2).1; simpa using this)]
      simp [h2]
  generalize ({ tmps := l.toArray ++ Array.replicate (fn.ntmps - l.toArray.size) undef, defers := [] } : Act) = a at hF
  refine wpS_seq (wpS_region ?_)
  have key : ∀ c1 : Frame, c1 = { c₀ with mode := u' } → Exit.thenS (c.wpS P (bodyPostS P fn c₀ cs R)) (bodyPostS P fn c₀ cs R) .normal ((a.put (some d) r).put (some d2) r) (c1 :: cs) w := by
    intro c1 hc1
    refine wpS_of_wp ?_
    have := wpIn_wide.1 (h _ ((hF.put hd).put hd2))
    refine wp_mono this fun e a' w' q => ?_
    cases e with
    | normal => exact ⟨q.1, u', by rw [hc1], q.2⟩
    | ret => exact ⟨q.1, u', by rw [hc1], q.2⟩
    | panic ch => exact ⟨q.1, u', by rw [hc1], q.2⟩
    | outgrown => exact ⟨u', q⟩
    | exit i => exact q
    | goto i => exact q
  have hg : ∀ w : World, ∀ z, (execOp (a.put (some d) z).eval ⟨some d2, .assign (.tmp d), ty2, pos2, af2, none⟩).run P w = .ok (.value z) w := by
    intro w z
    have hE : getE ((d, z) :: argE 0 l) d = some z := by simp [getE]
    have := (hF.put (v := z) hd).2.2 d z hE
    simp [execOp, Act.eval, this]
  have hr : (execOp a.eval ⟨some d, .call ⟨.builtin .recover, #[], tys⟩, ty, pos, af, none⟩).run P w = .ok .recover w := by simp [execOp, resolve, invoke, builtin]
  show wpOpsS P _ _ [0, 1] a (c₀ :: cs) w
  rcases hu with ⟨v, older, hu, rfl, rfl⟩ | ⟨hu, rfl, rfl⟩
  · have hrec : recoverD (c₀ :: cs) = some (r, { c₀ with mode := .panicking ({ v := r, recovered := true } :: older) } :: cs) := by
      simp [recoverD, hc, hu]
    have hg' := hg w r
    simp only [wpOpsS, List.getElem?_toArray, List.getElem?_cons_zero, List.getElem?_cons_succ, Region.wanted, hr, hrec, if_true, hg']
    exact key _ rfl
  · have hrec : recoverD (c₀ :: cs) = none := by simp [recoverD, hc, hu]
    have hg' := hg w .nilIface
    simp only [wpOpsS, List.getElem?_toArray, List.getElem?_cons_zero, List.getElem?_cons_succ, Region.wanted, hr, hrec, if_true, hg']
    exact key _ (by rw [← hu, ← hc])
section ops
variable {mm : Nat} {P : Program} {ds : List Deferred} {n : Nat} {Q : Exit → Act → World → Prop} {E : Env} {w : World} {ops : Array Oper} {l : List Oper}
variable {d : Nat} {ty : TypeId} {pos : String} {af : Array Edge}
theorem mkf2 {Fe : Fence} [Wd Fe] {f : Fn} {x y : Operand} {v1 v2 : Value} (h1 : opd E x = some v1) (h2 : opd E y = some v2) (hd : Nat.blt d n = true) (k : L Fe mm P ds n ops l Q ((d, .func f #[] #[v1, v2]) :: E) w) : L Fe mm P ds n ops (⟨some d, .makeFunc f #[] #[x, y], ty, pos, af, none⟩ :: l) Q E w :=
  LY.rd _ hd (fun ac ha w _ => by simp [execOp, Instr.makeFunc, opd_eval ha h1, opd_eval ha h2]) k
/-- A deferred call of a closure. -/
theorem dfr {x : Operand} {tys : Array TypeId} {g : FuncId} {cap : Array Value} (hx : opd E x = some (.func (.func g) #[] cap)) (k : L Fence.wide mm P ({ target := .fn (.func g) cap, args := #[] } :: ds) n ops l Q E w) :
    L Fence.wide mm P ds n ops (⟨none, .defer ⟨.value x, #[], tys⟩, ty, pos, af, none⟩ :: l) Q E w := fun a ha => by
  have hrun : (execOp a.eval ⟨none, .defer ⟨.value x, #[], tys⟩, ty, pos, af, none⟩).run P w = .ok (.defer { target := .fn (.func g) cap, args := #[] }) w := by
    simp [execOp, resolve, opd_eval ha hx, Deferred.ofValue]
  refine wpListIn_plain rfl fun K hK => ?_
  refine ⟨about_any _ _ _, ?_⟩
  show Oper.uponIn Fence.wide mm P _ a K Q (Sem.run P (Oper.semAt none a.eval _) w)
  rw [Oper.semAt_none, hrun]
  exact hK _ _ (k _ ⟨by rw [← ha.1]; rfl, ha.2⟩)
/-- What an interface holds: 'x != nil'. -/
theorem neqIN {st : Sty} [Wy st] {x : Operand} {t yt : TypeId} {v : Value} {b : Bool} (hx : opd E x = some v) (hv : (v = .nilIface ∧ b = false) ∨ (∃ t' u, v = .iface t' u) ∧ b = true) (hu : ∃ ms, P.underlying t = some (.interface ms)) (hd : Nat.blt d n = true) (k : LY st P ds n ops l Q ((d, .bool b) :: E) w) :
    LY st P ds n ops (⟨some d, .binOp .neq t x (.const .nilIface) yt, ty, pos, af, none⟩ :: l) Q E w := by
  have hm : P.underlying t = some (.interface (P.methodsAt t)) := by
    obtain ⟨ms, hu⟩ := hu
    simp [Program.methodsAt, hu]
  refine LY.rd _ hd (fun ac ha w _ => ?_) k
  have hx' := opd_eval ha hx
  have hy' : ac.eval (.const .nilIface) = .nilIface := rfl
  rcases hv with ⟨rfl, rfl⟩ | ⟨⟨t', u, rfl⟩, rfl⟩
  · have hg : (eqGuard .neq t x (.const .nilIface) .nilIface .nilIface).run P w = .ok () w := by cases x <;> simp [eqGuard]
    simp only [execOp, hx', hy', Sem.run_bind, hg, Result.andThen_ok, run_neq_nil_nil w t hm, Sem.run_pure]
  · have hg : (eqGuard .neq t x (.const .nilIface) (.iface t' u) .nilIface).run P w = .ok () w := by cases x <;> simp [eqGuard]
    simp only [execOp, hx', hy', Sem.run_bind, hg, Result.andThen_ok, run_neq_held_nil w t t' u hm, Sem.run_pure]
/-- 'x.(T)' with its bool, of the type that it has. -/
theorem taY {st : Sty} [Wy st] {x : Operand} {t a : TypeId} {v : Value} {td : TypeDesc} (hx : opd E x = some (.iface a v)) (hu : P.underlying a = some td) (ht : (match td with | .interface _ => true | _ => false) = false) (hd : Nat.blt d n = true) (k : LY st P ds n ops l Q ((d, .tuple #[v, .bool true]) :: E) w) :
    LY st P ds n ops (⟨some d, .typeAssert x t a true, ty, pos, af, none⟩ :: l) Q E w := by
  refine LY.rd _ hd (fun ac ha w _ => ?_) k
  cases td <;> first | (cases ht; done) | simp [execOp, opd_eval ha hx, Instr.typeAssert, underlying, program, Sem.run, hu]
end ops
theorem run_results_cc {P : Program} {w : World} {fn : Func} {t u : Nat} {a b : Addr} {tt tu : TypeId} {v x : Value} {tmps : Array Value} (hr : fn.results = #[.cell t tt, .cell u tu]) (ht : tmps.getD t undef = .pointer (some a)) (hu : tmps.getD u undef = .pointer (some b))
    (h1 : aggB P tt = some false) (h2 : aggB P tu = some false) (hc : w.cell? a = some v) (hd : w.cell? b = some x) : (results fn tmps).run P w = .ok (.tuple #[v, x]) w := by
  simp only [Array.getD_eq_getD_getElem?] at ht hu
  simp [results, hr, ht, hu, asAddr, loadVar, run_isAgg h1, run_isAgg h2, hc, hd]
end Go.Proofs.YtmdpmpdlkaogdaaGreatDoor.Vc

namespace Go.Proofs.YtmdpmpdlkaogdaaGreatDoor
open Go Go.RowKit Vc
theorem u_any : ∃ ms, P.underlying 20 = some (.interface ms) := ⟨_, Tryz.underlying20⟩
theorem ze_Stop : zeroB P tStop = some (.agg #[.int .i64 0]) := by kernel_rfl
theorem sz_Stop : szB P tStop = some 1 := by kernel_rfl
theorem fl_Stop_0 : fldB P tStop 0 = some 0 := by kernel_rfl
theorem c_Open1 {w : World} {bo be : Nat} {vo : Value} {x c : Int} (ho : w.heap[bo]? = some (.cells #[vo] 22 (0, 0))) (he : w.heap[be]? = some (.cells #[.int .i64 x] 32 (0, 0))) (hne : bo ≠ be) :
    CallsD P 60 #[.pointer (some ⟨bo, 0, none⟩), .pointer (some ⟨be, 0, none⟩)] (.panicking (stop c)) w fun e u' w' => e = .returned (.tuple #[]) ∧ settle u' = .returning ∧ Ext (fun k => k = bo ∨ k = be) w w' ∧
      w'.heap[bo]? = some (.cells #[.slice none 0 0] 22 (0, 0)) ∧ w'.heap[be]? = some (.cells #[.int .i64 c] 32 (0, 0)) := by
  refine enterR (l := [_, _]) (n := 18) (r := .iface tStop (.agg #[.int .i64 c])) Tryz.func60 rfl rfl rfl rfl rfl (.inl ⟨_, [], rfl, rfl, rfl⟩) ?_
  refine W.seq ?_
  refine W.reg <| mv rfl rfl <| neqIN rfl (.inr ⟨⟨_, _, rfl⟩, rfl⟩) u_any rfl <| L.nil ?_
  refine N.th ?_
  refine W.condT rfl ?_
  refine W.seq ?_
  refine W.reg <| mv rfl rfl <| taY rfl Tryz.underlying91 rfl rfl <| mv rfl rfl <| ext rfl rfl rfl <| ext rfl rfl rfl <| new ze_Stop rfl <| stR (cells := #[.int .i64 c]) rfl rfl sz_Stop rfl (heap_new _ _) rfl <| asg rfl rfl <| L.nil ?_
  refine N.th ?_
  obtain ⟨w1, hw1⟩ : ∃ w1, w1 = (w.alloc (.cells (Value.cells (.agg #[.int .i64 0])) tStop)).setRow w.heap.size #[.int .i64 c] := ⟨_, rfl⟩
  have hx1 : Ext none_ w w1 := by rw [hw1]; exact (Ext.alloc none_ _ _).trans' (Ext.setRow (S := fun k => k = w.heap.size) _ (fun _ => rfl) _) (fun i hi e => by omega)
  have hs1 : w1.heap[w.heap.size]? = some (.cells #[.int .i64 c] tStop (0, 0)) := by rw [hw1]; exact setRow_heap _ _ _ _ _ _ (heap_new _ _)
  rw [show (w.alloc (.cells (Value.cells (.agg #[.int .i64 0])) tStop)).setRow w.heap.size #[.int .i64 c] = w1 from hw1.symm]
  refine W.seq ?_
  refine W.seq ?_
  refine W.reg <| mv rfl rfl <| notB rfl rfl <| L.nil ?_
  refine N.th ?_
  refine W.condF rfl ?_
  refine W.skip ?_
  refine N.th ?_
  have hx1d : Ext none_ w1 w1.drew := Ext.drew _ _
  have ho1 := hx1d.obj (hx1.obj ho id) id
  have he1 := hx1d.obj (hx1.obj he id) id
  have hs2 := hx1d.obj hs1 id
  have hbo := lt_of_obj ho
  have hxa : Ext (fun k => k = bo) w1.drew (w1.drew.setCell ⟨bo, 0, none⟩ (.slice none 0 0)) := Ext.setCell (S := fun k => k = bo) _ (fun _ => rfl) _
  have hS2 : (w1.drew.setCell ⟨bo, 0, none⟩ (.slice none 0 0)).cell? ⟨w.heap.size, 0 + 0, none⟩ = some (.int .i64 c) := cell_of (hxa.obj hs2 (fun e => by omega)) rfl
  refine W.draw [] true (fun w' => w'.cell? ⟨w.heap.size, 0 + 0, none⟩ = some (.int .i64 c)) [0, 1, 2, 3] rfl rfl (by kernel_rfl) (cell_of hs2 rfl) ?_
  refine fad rfl fl_Stop_0 rfl <| ldK rfl ag_Errno rfl (fun w h => h) <| st1 rfl rfl sz_files rfl ho1 rfl ?_ (.inr fun _ => hS2)
  have he2 := hxa.obj he1 (fun e => hne e.symm)
  have hxb : Ext (fun k => k = be) (w1.drew.setCell ⟨bo, 0, none⟩ (.slice none 0 0)) ((w1.drew.setCell ⟨bo, 0, none⟩ (.slice none 0 0)).setCell ⟨be, 0, none⟩ (.int .i64 c)) := Ext.setCell (S := fun k => k = be) _ (fun _ => rfl) _
  refine st1 rfl rfl sz_Errno rfl he2 rfl ?_ (.inl ⟨rfl, rfl⟩)
  refine L.nilH ?_
  refine N.end0 rfl ⟨rfl, rfl, ?_, ?_, ?_⟩
  · exact ((hx1.trans hx1d).none.trans (hxa.mono fun _ _ h => .inl h)).trans (hxb.mono fun _ _ h => .inr h)
  · exact hxb.obj (set1 ho1 _) hne
  · exact set1 he2 _
theorem c_Open1q {w : World} {v1 v2 : Value} :
    CallsD P 60 #[v1, v2] .returning w fun e u' w' => e = .returned (.tuple #[]) ∧ u' = .returning ∧ w' = w := by
  refine enterR (l := [_, _]) (n := 18) (r := .nilIface) Tryz.func60 rfl rfl rfl rfl rfl (.inr ⟨rfl, rfl, rfl⟩) ?_
  refine W.seq ?_
  refine W.reg <| mv rfl rfl <| neqIN rfl (.inl ⟨rfl, rfl⟩) u_any rfl <| L.nil ?_
  refine N.th ?_
  refine W.condF rfl ?_
  refine W.skip ?_
  exact N.end0 rfl ⟨rfl, rfl, rfl⟩
end Go.Proofs.YtmdpmpdlkaogdaaGreatDoor

namespace Go.Proofs.YtmdpmpdlkaogdaaGreatDoor
open Go Go.RowKit Vc

theorem ok_RRead : FnOk P 53 := ⟨_, Tryz.func53, by kernel_rfl, by kernel_rfl⟩
theorem ok_RMkdir : FnOk P 38 := ⟨_, Tryz.func38, by kernel_rfl, by kernel_rfl⟩
theorem ok_RRemove : FnOk P 50 := ⟨_, Tryz.func50, by kernel_rfl, by kernel_rfl⟩
theorem ok_RExists : FnOk P 54 := ⟨_, Tryz.func54, by kernel_rfl, by kernel_rfl⟩

/-- What a call of 'ahead' tells, of the tree. -/
theorem ahead_of_call {m : Tr.T} {E : List FE} {p : Tr.Bytes} {w w' : World} {e : Ending} (hE : fm E = Tr.files m) (hn : (m.map (·.1)).Nodup) (h : match Tr.ahd (fm E) (Tr.ups (Sp.parts p)) with
      | none => e = .returned (.tuple #[.bool true, .slice none 0 0])
      | some k => ∃ v, e = .returned (.tuple #[.bool false, v]) ∧ StrsA w.heap.size w' v k) :
    ∃ (fb : Bool) (lkv : Value), e = .returned (.tuple #[.bool fb, lkv]) ∧ ((fb = true ∧ Tr.ahd m (Tr.ups (Sp.parts p)) = none) ∨ (fb = false ∧ ∃ lk, Tr.ahd m (Tr.ups (Sp.parts p)) = some lk ∧ StrsA w.heap.size w' lkv lk)) := by
  rw [hE, Tr.ahd_files hn] at h
  cases ha : Tr.ahd m (Tr.ups (Sp.parts p)) with
  | none => rw [ha] at h; exact ⟨_, _, h, .inl ⟨rfl, rfl⟩⟩
  | some lk => rw [ha] at h; obtain ⟨v, he, hv⟩ := h; exact ⟨_, _, he, .inr ⟨rfl, lk, rfl, hv⟩⟩
theorem lack_len {m : Tr.T} {p : Tr.Bytes} {lk : List Tr.Bytes} (hcp : Sp.Cl p) (halk : Tr.ahd m (Tr.ups (Sp.parts p)) = some lk) : lk.length ≤ 12 := by
  have h1 := (Tr.ahd_some m _ _ halk).2
  have h3 : lk.length ≤ (Tr.ups (Sp.parts p)).length := (h1.2 (Tr.nodup_ups hcp)).length_le_of_subset fun e he => (h1.1 e he).1
  have h4 := (Tr.parts_cl hcp).2.2
  rw [ups_len] at h3
  omega

theorem c_RAppend {w : World} {rt : Nat} {lv bv : Value} {E : List FE} {m : Tr.T} {b : Tr.Bytes} (s : Tr.Bytes) (h : RTAt w rt lv E) (hE : fm E = Tr.files m) (hok : Tr.Ok m) (hb : BytA w bv b) (hbl : b.length ≤ 1000000) :
    Calls P 49 #[pT rt, .string (S s), bv] w (DoesR rt w (Tr.append m s b)) := by
  have hEl := len_of hE
  have hml := hok.len
  have hmb := hok.bytes
  obtain ⟨oldb, hold⟩ : ∃ oldb, oldb = ((if (Sp.clean s).2 = 0 then Tr.get m (Sp.clean s).1 else none).getD (true, [])).2 := ⟨_, rfl⟩
  obtain ⟨ar2, ar1⟩ := Tr.append_r (m := m) (s := s) (b := b)
  rw [← hold] at ar2 ar1
  have hres : Tr.append m s b = Tr.write m s (oldb ++ b) := Prod.ext ar1 ar2
  rw [hres]
  have holdl : oldb.length ≤ 1048576 := by
    rw [hold]
    split
    · have := old_le m (Sp.clean s).1; unfold Tr.old at this; omega
    · simp
  refine enter (l := [_, _, _]) (n := 39) Tryz.func49 rfl rfl rfl ?_
  refine W.seq ?_
  refine W.reg <| asg rfl rfl <| L.nil ?_
  refine N.th ?_
  refine W.seq ?_
  refine W.reg <| asg rfl rfl <| L.nil ?_
  refine N.th ?_
  refine W.seqM (fun E' w' => ∃ av : Value, E' = [(0, pT rt), (1, .string (S s)), (2, bv), (7, av)] ∧ Byts w.heap.size w' av oldb ∧ Ext none_ w w') ?_ ?_   -- CUT
  · refine W.seq ?_
    refine W.reg <| mv rfl rfl <| call (vs := [_]) rfl rfl ok_RClean (c_RClean s w) ?_
    rintro e w1 ⟨rfl, hx1⟩
    refine ⟨_, rfl, ?_⟩
    refine mv rfl rfl <| ext rfl rfl rfl <| ext rfl rfl rfl <| asg rfl rfl <| asg rfl rfl <| L.nil ?_
    refine N.th ?_
    have hR1 := h.ext0 hx1
    refine W.seq ?_
    refine W.reg <| mv rfl rfl <| eqlI rfl rfl rfl <| L.nil ?_
    refine N.th ?_
    refine W.cond rfl (fun hh => ?_) (fun hh => ?_)
    · have hc0 : (Sp.clean s).2 = 0 := by simpa using hh
      rw [if_pos hc0] at hold
      refine W.seq ?_
      refine W.reg <| mv rfl rfl <| mv rfl rfl <| call (vs := [_, _]) rfl rfl ok_Rat (c_Rat (Sp.clean s).1 hR1 (by omega)) ?_
      rintro e w1' ⟨k, rfl, hk, rfl⟩
      refine ⟨_, rfl, ?_⟩
      refine asg rfl rfl <| L.nil ?_
      refine N.th ?_
      have hs1 := hx1.size
      refine W.seq ?_
      rcases hk.of hE hok.nodup with ⟨rfl, hg⟩ | ⟨i, x, rfl, hxe, hg⟩
      · refine W.reg <| mv rfl rfl <| geqI rfl rfl rfl <| Vc.bf (by simp) <| L.nil ?_
        refine N.th ?_
        refine W.condF rfl ?_
        refine W.skip ?_
        refine N.th (N.meet [(0, _), (1, _), (2, _), (7, .slice none 0 0)] ⟨rfl, rfl, rfl, rfl, trivial⟩ ⟨_, rfl, ?_, hx1⟩)   -- MEET
        rw [hold, hg]; exact own_nil _ _ _ _
      · obtain ⟨ra, rc, rfl, -⟩ := hR1.slice
        obtain ⟨rb, ro, rfl, -, hil⟩ := hR1.some_ hxe
        have hc2 := (hR1.files.cell hxe).2.2
        have hxb := hR1.files.bytes x (List.mem_of_getElem? hxe)
        have hxl : oldb = x.2.2.2 := by rw [hold, hg]; rfl
        refine W.reg <| mv rfl rfl <| geqI rfl rfl rfl <| Vc.bt (by simp) <| L.nil ?_
        refine N.th ?_
        refine W.condT rfl ?_
        refine W.reg <| mv rfl rfl <| mv rfl rfl <| nilc rfl rfl <| fad rfl fl_RT_0 rfl <| ld1 rfl ag_files rfl hR1.c0 <| mv rfl rfl <| ixa rfl rfl u_files sz_File rfl (by omega) (by omega) <| fad rfl fl_File_2 rfl <| ld1 (v := x.2.2.1) rfl ag_bytes rfl hc2 ?_
        rcases hxb.arg.form with ⟨hn, h0⟩ | ⟨ad, c, hn, h1, h2, hc⟩
        · rw [hn]
          refine appN rfl rfl rfl el_bytes (Nat.le_refl _) <| asg rfl rfl <| L.nil ?_
          refine N.th (N.meet [(0, _), (1, _), (2, _), (7, .slice none 0 0)] ⟨rfl, rfl, rfl, rfl, trivial⟩ ⟨_, rfl, ?_, hx1⟩)   -- MEET
          rw [hxl, List.eq_nil_of_length_eq_zero h0]; exact own_nil _ _ _ _
        · rw [hn]
          refine app rfl rfl rfl el_bytes (own_nil _ w1.heap.size _ _) (by simp) (fun j u hj => (hc j u hj).2) (encB_one x.2.2.2) (by rw [← hxl]; omega) (by simp only [maxLen]; rw [← hxl]; omega) (Nat.le_refl _) fun v' w2 ho hx2 _ _ => ?_
          refine asg rfl rfl <| L.nil ?_
          refine N.th (N.meet [(0, _), (1, _), (2, _), (7, v')] ⟨rfl, rfl, rfl, rfl, trivial⟩ ⟨_, rfl, ?_, hx1.trans (hx2.mono fun _ _ h => by cases h)⟩)   -- MEET
          rw [hxl]
          exact own_more (by simpa [Byts] using ho) hs1
    · have hc0 : ¬ (Sp.clean s).2 = 0 := by simpa using hh
      rw [if_neg hc0] at hold
      refine W.skip ?_
      refine N.th (N.meet [(0, _), (1, _), (2, _), (7, .slice none 0 0)] ⟨rfl, rfl, rfl, rfl, trivial⟩ ⟨_, rfl, ?_, hx1⟩)   -- MEET
      rw [hold]; exact own_nil _ _ _ _
  rintro E' w1 ⟨av, rfl, hav, hx1⟩
  have hb1 := hb.ext0 hx1
  have hs1 := hx1.size
  refine W.seq ?_
  refine W.reg <| mv rfl rfl <| mv rfl rfl <| mv rfl rfl <| mv rfl rfl ?_
  have hall : (oldb ++ b).length ≤ 100000000 := by simp; omega
  rcases hb1.form with ⟨rfl, h0⟩ | ⟨ad, c, rfl, h1, h2, hc⟩
  · have hb0 : b = [] := List.eq_nil_of_length_eq_zero h0
    subst hb0
    obtain ⟨aa, ac, rfl, hac, -⟩ := own_slice hav
    refine appN rfl rfl rfl el_bytes hac ?_
    have hav' : BytA w1 (.slice aa oldb.length ac) (oldb ++ []) := by rw [List.append_nil]; exact (Row.own hav).arg
    refine call (vs := [_, _, _]) rfl rfl ok_RWrite (c_RWrite s (h.ext0 hx1) hE hok hav' hall) ?_
    rintro e w2 ⟨rfl, hd, hx2⟩
    refine ⟨_, rfl, ?_⟩
    refine asg rfl rfl <| L.nil ?_
    refine N.th ?_
    refine W.ret ?_
    refine N.ret1 rfl rfl ?_   -- RETURN
    exact ⟨rfl, hd, hx1.none.trans hx2⟩
  · refine app rfl rfl rfl el_bytes hav (by simp) (fun j u hj => (hc j u hj).2) (encB_one b) (by omega) (by simp only [maxLen]; omega) hs1 fun v' w2 ho hx2 _ _ => ?_
    have ho' : Byts w.heap.size w2 v' (oldb ++ b) := by simpa [Byts, encB] using ho
    have hx02 : Ext none_ w w2 := hx1.trans' hx2 fun k hk e => by have := own_new hav k e; omega
    refine call (vs := [_, _, _]) rfl rfl ok_RWrite (c_RWrite s (h.ext0 hx02) hE hok (Row.own ho').arg hall) ?_
    rintro e w3 ⟨rfl, hd, hx3⟩
    refine ⟨_, rfl, ?_⟩
    refine asg rfl rfl <| L.nil ?_
    refine N.th ?_
    refine W.ret ?_
    refine N.ret1 rfl rfl ?_   -- RETURN
    exact ⟨rfl, hd, hx02.none.trans hx3⟩

theorem read_r {m : Tr.T} (h : Tr.Ok m) {s : Tr.Bytes} (hc : (Sp.clean s).2 = 0) :
    (((Sp.clean s).1 = [] ∨ (∃ c, Tr.get m (Sp.clean s).1 = some (true, c)) ∨ Tr.ahd m (Tr.ups (Sp.parts (Sp.clean s).1)) = none) → Tr.read m s = ([], 54)) ∧
    ((Sp.clean s).1 ≠ [] → Tr.ahd m (Tr.ups (Sp.parts (Sp.clean s).1)) ≠ none → Tr.get m (Sp.clean s).1 = none → Tr.read m s = ([], 52)) ∧
    (∀ c, (Sp.clean s).1 ≠ [] → Tr.get m (Sp.clean s).1 = some (false, c) → Tr.read m s = (c, 0)) := by
  have hcl := Sp.clean_cl hc
  have h0 : ¬ (Sp.clean s).2 ≠ 0 := by simpa using hc
  have hun : Tr.read m s = match Tr.at_ m (Sp.clean s).1 with
    | some x => if x.1 then ([], 54) else match Tr.ahead m (Sp.clean s).1 with
      | none => ([], 54)
      | some _ => (x.2, 0)
    | none => match Tr.ahead m (Sp.clean s).1 with
      | none => ([], 54)
      | some _ => ([], 52) := by
    unfold Tr.read; rw [if_neg h0]; rfl
  generalize hp : (Sp.clean s).1 = p at *
  refine ⟨?_, fun hp0 ha hg => ?_, fun c hp0 hg => ?_⟩
  · rintro (e | ⟨c, hg⟩ | ha)
    · rw [hun, e]; rfl
    · rw [hun, Tr.at_of (h.sound hg).1, hg]; rfl
    · have ha' := (Tr.ahd_iff hcl).1 ha
      rw [hun, ha']
      cases Tr.at_ m p with
      | none => rfl
      | some x => simp
  · rw [hun, Tr.at_of hp0, hg]
    cases ha' : Tr.ahead m p with
    | none => exact absurd ((Tr.ahd_iff hcl).2 ha') ha
    | some l => rfl
  · rw [hun, Tr.at_of hp0, hg, h.ahead_nil hg]; rfl

theorem c_RRead {w : World} {rt : Nat} {lv : Value} {E : List FE} {m : Tr.T} (s : Tr.Bytes) (h : RTAt w rt lv E) (hE : fm E = Tr.files m) (hok : Tr.Ok m) :
    Calls P 53 #[pT rt, .string (S s)] w fun e w' => ∃ v, e = .returned (.tuple #[v, .int .i64 (Tr.read m s).2]) ∧ Byts w.heap.size w' v (Tr.read m s).1 ∧ Ext none_ w w' := by
  have hEl := len_of hE
  have hml := hok.len
  have hmb := hok.bytes
  refine enter (l := [_, _]) (n := 60) Tryz.func53 rfl rfl rfl ?_
  refine W.seq ?_
  refine W.reg <| asg rfl rfl <| asg rfl rfl <| L.nil ?_
  refine N.th ?_
  refine W.seq ?_
  refine W.reg <| mv rfl rfl <| call (vs := [_]) rfl rfl ok_RClean (c_RClean s w) ?_
  rintro e w1 ⟨rfl, hx1⟩
  refine ⟨_, rfl, ?_⟩
  refine mv rfl rfl <| ext rfl rfl rfl <| ext rfl rfl rfl <| asg rfl rfl <| asg rfl rfl <| L.nil ?_
  refine N.th ?_
  have hcl := clean_len s
  have hR1 := h.ext0 hx1
  refine W.seq ?_
  refine W.seq ?_
  refine W.reg <| mv rfl rfl <| neqI rfl rfl rfl <| L.nil ?_
  refine N.th ?_
  refine W.cond rfl (fun hh => ?_) (fun hh => ?_)
  · refine W.seq ?_
    refine W.reg <| mv rfl rfl <| asg rfl rfl <| asg rfl rfl <| L.nil ?_
    refine N.th ?_
    refine W.ret ?_
    refine N.rth ?_
    refine N.ret2 rfl rfl rfl ?_   -- RETURN
    have h0 : (Sp.clean s).2 ≠ 0 := by simpa using hh
    unfold Tr.read; rw [if_pos h0]
    exact ⟨_, rfl, own_nil _ _ _ _, hx1⟩
  have hc0 : (Sp.clean s).2 = 0 := by simpa using hh
  obtain ⟨rd1, rd2, rd3⟩ := read_r hok hc0
  refine W.skip ?_
  refine N.th ?_
  refine W.seq ?_
  refine W.reg <| mv rfl rfl <| mv rfl rfl <| call (vs := [_, _]) rfl rfl ok_Rat (c_Rat (Sp.clean s).1 hR1 (by omega)) ?_
  rintro e w1' ⟨k, rfl, hk, rfl⟩
  refine ⟨_, rfl, ?_⟩
  refine asg rfl rfl <| L.nil ?_
  refine N.th ?_
  have hk := hk.of hE hok.nodup
  refine W.seq ?_
  refine W.reg <| mv rfl rfl <| mv rfl rfl <| call (vs := [_, _]) rfl rfl ok_Rahead (c_Rahead (Sp.clean s).1 hR1 (by omega) (by omega)) ?_
  rintro e w2 ⟨hx2, hah⟩
  obtain ⟨fb, lkv, rfl, hah2⟩ := ahead_of_call hE hok.nodup hah
  clear hah
  have hR2 := hR1.ext0 hx2
  have hx02 : Ext none_ w w2 := hx1.trans hx2
  refine ⟨_, rfl, ?_⟩
  refine mv rfl rfl <| ext (v := .bool fb) rfl rfl rfl <| ext (v := lkv) rfl rfl rfl <| asg rfl rfl <| asg rfl rfl <| L.nil ?_
  refine N.th ?_
  obtain ⟨ra, rc, rfl, -⟩ := h.slice
  refine W.seq ?_
  refine W.block ?_
  refine W.seqM (fun E' w' => ∃ c, E' = [(28, .bool c), (0, pT rt), (6, .string (S (Sp.clean s).1)), (8, .int .i64 k)] ∧ w' = w2 ∧ (c = true → Tr.read m s = ([], 54)) ∧ (c = false → (Sp.clean s).1 ≠ [] ∧ (∀ c, Tr.get m (Sp.clean s).1 ≠ some (true, c)) ∧ fb = false)) ?_ ?_
  · refine W.reg ?_
    refine mv rfl rfl <| eqlS (b := []) rfl rfl rfl ?_
    by_cases hp0 : (Sp.clean s).1 = []
    · refine Vc.bt (by simpa using hp0) ?_
      (repeat (first | refine mv rfl rfl ?_ | refine asg rfl rfl ?_ | refine L.off rfl rfl rfl rfl rfl ?_ | refine L.offU rfl rfl rfl rfl ?_ | refine L.on rfl rfl rfl ?_ | refine pickT rfl rfl rfl ?_ | refine pickF rfl rfl rfl ?_ | refine ext rfl rfl rfl ?_ | refine nilc rfl rfl ?_ | refine lenV (t := 46) rfl u_strs rfl ?_ | refine lenV (t := 25) rfl u_bytes rfl ?_ | refine lenV (t := 22) rfl u_files rfl ?_ | refine lenS (t := 9) rfl u_str rfl ?_ | refine eqlI rfl rfl rfl ?_ | refine neqI rfl rfl rfl ?_ | refine lssI rfl rfl rfl ?_ | refine leqI rfl rfl rfl ?_ | refine gtrI rfl rfl rfl ?_ | refine geqI rfl rfl rfl ?_))
      refine L.nil ?_
      exact N.th (N.meet [(28, .bool true), (0, _), (6, _), (8, _)] ⟨rfl, rfl, rfl, rfl, trivial⟩ ⟨_, rfl, rfl, fun _ => rd1 (.inl hp0), fun hc => by cases hc⟩)
    · refine Vc.bf (by simpa using hp0) ?_
      rcases hk with ⟨rfl, hg⟩ | ⟨i, x, rfl, hxe, hg⟩
      · (repeat (first | refine mv rfl rfl ?_ | refine asg rfl rfl ?_ | refine L.off rfl rfl rfl rfl rfl ?_ | refine L.offU rfl rfl rfl rfl ?_ | refine L.on rfl rfl rfl ?_ | refine pickT rfl rfl rfl ?_ | refine pickF rfl rfl rfl ?_ | refine ext rfl rfl rfl ?_ | refine nilc rfl rfl ?_ | refine lenV (t := 46) rfl u_strs rfl ?_ | refine lenV (t := 25) rfl u_bytes rfl ?_ | refine lenV (t := 22) rfl u_files rfl ?_ | refine lenS (t := 9) rfl u_str rfl ?_ | refine eqlI rfl rfl rfl ?_ | refine neqI rfl rfl rfl ?_ | refine lssI rfl rfl rfl ?_ | refine leqI rfl rfl rfl ?_ | refine gtrI rfl rfl rfl ?_ | refine geqI rfl rfl rfl ?_))
        refine L.nil ?_
        refine N.th (N.meet [(28, .bool fb), (0, _), (6, _), (8, _)] ⟨rfl, rfl, rfl, rfl, trivial⟩ ⟨_, rfl, rfl, fun hc => ?_, fun hc => ⟨hp0, (fun c => by rw [hg]; simp), hc⟩⟩)
        rcases hah2 with ⟨-, ha⟩ | ⟨hf, -⟩
        · exact rd1 (.inr (.inr ha))
        · rw [hf] at hc; cases hc
      · obtain ⟨rb, ro, rfl, -, hil⟩ := hR2.some_ hxe
        have hc1 := (hR2.files.cell hxe).2.1
        (repeat (first | refine mv rfl rfl ?_ | refine asg rfl rfl ?_ | refine L.off rfl rfl rfl rfl rfl ?_ | refine L.offU rfl rfl rfl rfl ?_ | refine L.on rfl rfl rfl ?_ | refine pickT rfl rfl rfl ?_ | refine pickF rfl rfl rfl ?_ | refine ext rfl rfl rfl ?_ | refine nilc rfl rfl ?_ | refine lenV (t := 46) rfl u_strs rfl ?_ | refine lenV (t := 25) rfl u_bytes rfl ?_ | refine lenV (t := 22) rfl u_files rfl ?_ | refine lenS (t := 9) rfl u_str rfl ?_ | refine eqlI rfl rfl rfl ?_ | refine neqI rfl rfl rfl ?_ | refine lssI rfl rfl rfl ?_ | refine leqI rfl rfl rfl ?_ | refine gtrI rfl rfl rfl ?_ | refine geqI rfl rfl rfl ?_))
        refine fad rfl fl_RT_0 rfl <| L.on rfl rfl rfl <| ld1 rfl ag_files rfl hR2.c0 ?_
        (repeat (first | refine mv rfl rfl ?_ | refine asg rfl rfl ?_ | refine L.off rfl rfl rfl rfl rfl ?_ | refine L.offU rfl rfl rfl rfl ?_ | refine L.on rfl rfl rfl ?_ | refine pickT rfl rfl rfl ?_ | refine pickF rfl rfl rfl ?_ | refine ext rfl rfl rfl ?_ | refine nilc rfl rfl ?_ | refine lenV (t := 46) rfl u_strs rfl ?_ | refine lenV (t := 25) rfl u_bytes rfl ?_ | refine lenV (t := 22) rfl u_files rfl ?_ | refine lenS (t := 9) rfl u_str rfl ?_ | refine eqlI rfl rfl rfl ?_ | refine neqI rfl rfl rfl ?_ | refine lssI rfl rfl rfl ?_ | refine leqI rfl rfl rfl ?_ | refine gtrI rfl rfl rfl ?_ | refine geqI rfl rfl rfl ?_))
        refine ixa rfl rfl u_files sz_File rfl (by omega) (by omega) <| L.on rfl rfl rfl <| fad rfl fl_File_1 rfl <| L.on rfl rfl rfl <| ld1 rfl ag_bool rfl hc1 ?_
        cases hxd : x.2.1 with
        | true =>
          (repeat (first | refine mv rfl rfl ?_ | refine asg rfl rfl ?_ | refine L.off rfl rfl rfl rfl rfl ?_ | refine L.offU rfl rfl rfl rfl ?_ | refine L.on rfl rfl rfl ?_ | refine pickT rfl rfl rfl ?_ | refine pickF rfl rfl rfl ?_ | refine ext rfl rfl rfl ?_ | refine nilc rfl rfl ?_ | refine lenV (t := 46) rfl u_strs rfl ?_ | refine lenV (t := 25) rfl u_bytes rfl ?_ | refine lenV (t := 22) rfl u_files rfl ?_ | refine lenS (t := 9) rfl u_str rfl ?_ | refine eqlI rfl rfl rfl ?_ | refine neqI rfl rfl rfl ?_ | refine lssI rfl rfl rfl ?_ | refine leqI rfl rfl rfl ?_ | refine gtrI rfl rfl rfl ?_ | refine geqI rfl rfl rfl ?_))
          refine L.nil ?_
          exact N.th (N.meet [(28, .bool true), (0, _), (6, _), (8, _)] ⟨rfl, rfl, rfl, rfl, trivial⟩ ⟨_, rfl, rfl, fun _ => rd1 (.inr (.inl ⟨x.2.2.2, by rw [hg, hxd]⟩)), fun hc => by cases hc⟩)
        | false =>
          (repeat (first | refine mv rfl rfl ?_ | refine asg rfl rfl ?_ | refine L.off rfl rfl rfl rfl rfl ?_ | refine L.offU rfl rfl rfl rfl ?_ | refine L.on rfl rfl rfl ?_ | refine pickT rfl rfl rfl ?_ | refine pickF rfl rfl rfl ?_ | refine ext rfl rfl rfl ?_ | refine nilc rfl rfl ?_ | refine lenV (t := 46) rfl u_strs rfl ?_ | refine lenV (t := 25) rfl u_bytes rfl ?_ | refine lenV (t := 22) rfl u_files rfl ?_ | refine lenS (t := 9) rfl u_str rfl ?_ | refine eqlI rfl rfl rfl ?_ | refine neqI rfl rfl rfl ?_ | refine lssI rfl rfl rfl ?_ | refine leqI rfl rfl rfl ?_ | refine gtrI rfl rfl rfl ?_ | refine geqI rfl rfl rfl ?_))
          refine L.nil ?_
          refine N.th (N.meet [(28, .bool fb), (0, _), (6, _), (8, _)] ⟨rfl, rfl, rfl, rfl, trivial⟩ ⟨_, rfl, rfl, fun hc => ?_, fun hc => ⟨hp0, (fun c => by rw [hg, hxd]; simp), hc⟩⟩)
          rcases hah2 with ⟨-, ha⟩ | ⟨hf, -⟩
          · exact rd1 (.inr (.inr ha))
          · rw [hf] at hc; cases hc
  rintro E' w3 ⟨c, rfl, rfl, hc1, hc2⟩
  refine W.cond rfl (fun hh => ?_) (fun hh => ?_)
  · refine W.seq ?_
    refine W.reg <| asg rfl rfl <| asg rfl rfl <| L.nil ?_
    refine N.th ?_
    refine W.ret ?_
    refine N.rinb <| N.rth ?_
    refine N.ret2 rfl rfl rfl ?_   -- RETURN
    rw [hc1 hh]
    exact ⟨_, rfl, own_nil _ _ _ _, hx02⟩
  · obtain ⟨hp0, hnd, hfb⟩ := hc2 hh
    have hane : Tr.ahd m (Tr.ups (Sp.parts (Sp.clean s).1)) ≠ none := by
      rcases hah2 with ⟨hf, -⟩ | ⟨-, lk, h1, -⟩
      · rw [hfb] at hf; cases hf
      · rw [h1]; simp
    refine W.seq ?_
    rcases hk with ⟨rfl, hg⟩ | ⟨i, x, rfl, hxe, hg⟩
    · refine W.reg <| mv rfl rfl <| lssI rfl rfl rfl <| asg rfl rfl <| L.nil ?_
      refine N.th ?_
      refine W.condT rfl ?_
      refine W.seq ?_
      refine W.reg <| asg rfl rfl <| asg rfl rfl <| L.nil ?_
      refine N.th ?_
      refine W.ret ?_
      refine N.rinb <| N.rth ?_
      refine N.ret2 rfl rfl rfl ?_   -- RETURN
      rw [rd2 hp0 hane hg]
      exact ⟨_, rfl, own_nil _ _ _ _, hx02⟩
    · obtain ⟨rb, ro, rfl, -, hil⟩ := hR2.some_ hxe
      have hcx := (hR2.files.cell hxe).2.2
      have hxb := hR2.files.bytes x (List.mem_of_getElem? hxe)
      have hxd : x.2.1 = false := by
        cases hd : x.2.1 with
        | false => rfl
        | true => exact absurd (by rw [hg, hd]) (hnd x.2.2.2)
      have hxl : x.2.2.2.length ≤ 65536 := by have := (hok.sound hg).2.2.2.2; exact this
      refine W.reg <| mv rfl rfl <| lssI rfl rfl rfl <| Vc.bf (by simp) <| asg rfl rfl <| L.nil ?_
      refine N.th ?_
      refine W.condF rfl ?_
      refine W.skip ?_
      refine N.inb ?_
      refine N.th ?_
      refine W.seq ?_
      refine W.reg <| mv rfl rfl <| nilc rfl rfl <| fad rfl fl_RT_0 rfl <| ld1 rfl ag_files rfl hR2.c0 <| mv rfl rfl <| ixa rfl rfl u_files sz_File rfl (by omega) (by omega) <| fad rfl fl_File_2 rfl <| ld1 (v := x.2.2.1) rfl ag_bytes rfl hcx <| cpyB rfl hxb.arg el_bytes rfl (by omega) fun cv w4 hcv hx4 => ?_
      refine asg rfl rfl <| asg rfl rfl <| L.nil ?_
      refine N.th ?_
      refine W.ret ?_
      refine N.ret2 rfl rfl rfl ?_   -- RETURN
      rw [rd3 x.2.2.2 hp0 (by rw [hg, hxd])]
      exact ⟨_, rfl, own_more hcv hx02.size, hx02.trans hx4⟩

theorem c_RMkdir {w : World} {rt : Nat} {lv : Value} {E : List FE} {m : Tr.T} (s : Tr.Bytes) (h : RTAt w rt lv E) (hE : fm E = Tr.files m) (hok : Tr.Ok m) :
    Calls P 38 #[pT rt, .string (S s)] w (DoesR rt w (Tr.mkdir m s)) := by
  have hEl := len_of hE
  have hml := hok.len
  have hmb := hok.bytes
  refine enter (l := [_, _]) (n := 67) Tryz.func38 rfl rfl rfl ?_
  refine W.seq ?_
  refine W.reg <| asg rfl rfl <| L.nil ?_
  refine N.th ?_
  refine W.seq ?_
  refine W.reg <| mv rfl rfl <| call (vs := [_]) rfl rfl ok_RClean (c_RClean s w) ?_
  rintro e w1 ⟨rfl, hx1⟩
  refine ⟨_, rfl, ?_⟩
  refine mv rfl rfl <| ext rfl rfl rfl <| ext rfl rfl rfl <| asg rfl rfl <| asg rfl rfl <| L.nil ?_
  refine N.th ?_
  have hcl := clean_len s
  have hR1 := h.ext0 hx1
  refine W.seqM (fun E' w' => E' = [(0, pT rt), (5, .string (S (Sp.clean s).1))] ∧ w' = w1 ∧ (Sp.clean s).2 = 0 ∧ (Sp.clean s).1 ≠ []) ?_ ?_
  · refine W.seqM (fun E' w' => ∃ c, E' = [(20, .bool c), (0, pT rt), (5, .string (S (Sp.clean s).1)), (6, .int .i64 (Sp.clean s).2)] ∧ w' = w1 ∧ (c = true → Tr.mkdir m s = (m, (Sp.clean s).2)) ∧ (c = false → (Sp.clean s).2 = 0 ∧ (Sp.clean s).1 ≠ [])) ?_ ?_
    · refine W.reg ?_
      (repeat (first | refine mv rfl rfl ?_ | refine asg rfl rfl ?_ | refine L.off rfl rfl rfl rfl rfl ?_ | refine L.offU rfl rfl rfl rfl ?_ | refine L.on rfl rfl rfl ?_ | refine pickT rfl rfl rfl ?_ | refine pickF rfl rfl rfl ?_ | refine ext rfl rfl rfl ?_ | refine nilc rfl rfl ?_ | refine lenV (t := 46) rfl u_strs rfl ?_ | refine lenV (t := 25) rfl u_bytes rfl ?_ | refine lenV (t := 22) rfl u_files rfl ?_ | refine lenS (t := 9) rfl u_str rfl ?_ | refine eqlI rfl rfl rfl ?_ | refine neqI rfl rfl rfl ?_ | refine lssI rfl rfl rfl ?_ | refine leqI rfl rfl rfl ?_ | refine gtrI rfl rfl rfl ?_ | refine geqI rfl rfl rfl ?_))
      by_cases hc0 : (Sp.clean s).2 = 0
      · refine Vc.bf (by simpa using hc0) ?_
        (repeat (first | refine mv rfl rfl ?_ | refine asg rfl rfl ?_ | refine L.off rfl rfl rfl rfl rfl ?_ | refine L.offU rfl rfl rfl rfl ?_ | refine L.on rfl rfl rfl ?_ | refine pickT rfl rfl rfl ?_ | refine pickF rfl rfl rfl ?_ | refine ext rfl rfl rfl ?_ | refine nilc rfl rfl ?_ | refine lenV (t := 46) rfl u_strs rfl ?_ | refine lenV (t := 25) rfl u_bytes rfl ?_ | refine lenV (t := 22) rfl u_files rfl ?_ | refine lenS (t := 9) rfl u_str rfl ?_ | refine eqlI rfl rfl rfl ?_ | refine neqI rfl rfl rfl ?_ | refine lssI rfl rfl rfl ?_ | refine leqI rfl rfl rfl ?_ | refine gtrI rfl rfl rfl ?_ | refine geqI rfl rfl rfl ?_))
        refine eqlS (b := []) rfl rfl rfl ?_
        (repeat (first | refine mv rfl rfl ?_ | refine asg rfl rfl ?_ | refine L.off rfl rfl rfl rfl rfl ?_ | refine L.offU rfl rfl rfl rfl ?_ | refine L.on rfl rfl rfl ?_ | refine pickT rfl rfl rfl ?_ | refine pickF rfl rfl rfl ?_ | refine ext rfl rfl rfl ?_ | refine nilc rfl rfl ?_ | refine lenV (t := 46) rfl u_strs rfl ?_ | refine lenV (t := 25) rfl u_bytes rfl ?_ | refine lenV (t := 22) rfl u_files rfl ?_ | refine lenS (t := 9) rfl u_str rfl ?_ | refine eqlI rfl rfl rfl ?_ | refine neqI rfl rfl rfl ?_ | refine lssI rfl rfl rfl ?_ | refine leqI rfl rfl rfl ?_ | refine gtrI rfl rfl rfl ?_ | refine geqI rfl rfl rfl ?_))
        refine L.nil ?_
        refine N.th (N.meet [(20, _), (0, _), (5, _), (6, _)] ⟨rfl, rfl, rfl, rfl, trivial⟩ ⟨_, rfl, rfl, fun hc => ?_, fun hc => ⟨hc0, by simpa using hc⟩⟩)
        rw [hc0]
        exact (Tr.mkdir_r hok hc0).1 (by simpa using hc)
      · refine Vc.bt (by simpa using hc0) ?_
        (repeat (first | refine mv rfl rfl ?_ | refine asg rfl rfl ?_ | refine L.off rfl rfl rfl rfl rfl ?_ | refine L.offU rfl rfl rfl rfl ?_ | refine L.on rfl rfl rfl ?_ | refine pickT rfl rfl rfl ?_ | refine pickF rfl rfl rfl ?_ | refine ext rfl rfl rfl ?_ | refine nilc rfl rfl ?_ | refine lenV (t := 46) rfl u_strs rfl ?_ | refine lenV (t := 25) rfl u_bytes rfl ?_ | refine lenV (t := 22) rfl u_files rfl ?_ | refine lenS (t := 9) rfl u_str rfl ?_ | refine eqlI rfl rfl rfl ?_ | refine neqI rfl rfl rfl ?_ | refine lssI rfl rfl rfl ?_ | refine leqI rfl rfl rfl ?_ | refine gtrI rfl rfl rfl ?_ | refine geqI rfl rfl rfl ?_))
        refine L.nil ?_
        refine N.th (N.meet [(20, .bool true), (0, _), (5, _), (6, _)] ⟨rfl, rfl, rfl, rfl, trivial⟩ ⟨_, rfl, rfl, fun hc => ?_, fun hc => by cases hc⟩)
        unfold Tr.mkdir; rw [if_pos hc0]
    rintro E' w2 ⟨c, rfl, rfl, hc1, hc2⟩
    refine W.cond rfl (fun hh => ?_) (fun hh => ?_)
    · refine W.seq ?_
      refine W.reg <| mv rfl rfl <| asg rfl rfl <| L.nil ?_
      refine N.th ?_
      refine W.ret ?_
      refine N.rth ?_
      refine N.ret1 rfl rfl ?_   -- RETURN
      rw [hc1 hh]
      exact ⟨rfl, ⟨lv, E, hR1, hE⟩, hx1.none⟩
    · refine W.skip ?_
      exact N.th (N.meet [(0, _), (5, _)] ⟨rfl, rfl, trivial⟩ ⟨rfl, rfl, hc2 hh⟩)
  rintro E' w1' ⟨rfl, rfl, hc0, hp0⟩
  obtain ⟨-, md2, md3, md4⟩ := Tr.mkdir_r hok hc0
  refine W.seq ?_
  refine W.reg <| mv rfl rfl <| mv rfl rfl <| call (vs := [_, _]) rfl rfl ok_Rat (c_Rat (Sp.clean s).1 hR1 (by omega)) ?_
  rintro e w1'' ⟨k, rfl, hk, rfl⟩
  refine ⟨_, rfl, ?_⟩
  refine asg rfl rfl <| L.nil ?_
  refine N.th ?_
  have hk := hk.of hE hok.nodup
  refine W.seq ?_
  refine W.reg <| mv rfl rfl <| mv rfl rfl <| call (vs := [_, _]) rfl rfl ok_Rahead (c_Rahead (Sp.clean s).1 hR1 (by omega) (by omega)) ?_
  rintro e w2 ⟨hx2, hah⟩
  obtain ⟨fb, lkv, rfl, hah2⟩ := ahead_of_call hE hok.nodup hah
  clear hah
  have hR2 := hR1.ext0 hx2
  have hx02 : Ext none_ w w2 := hx1.trans hx2
  refine ⟨_, rfl, ?_⟩
  refine mv rfl rfl <| ext (v := .bool fb) rfl rfl rfl <| ext (v := lkv) rfl rfl rfl <| asg rfl rfl <| asg rfl rfl <| L.nil ?_
  refine N.th ?_
  obtain ⟨ra, rc, rfl, -⟩ := h.slice
  refine W.seq ?_
  refine W.block ?_
  refine W.seq ?_
  rcases hk with ⟨rfl, hg⟩ | ⟨i, x, rfl, hxe, hg⟩
  · obtain ⟨md5, md6⟩ := md4 hp0 hg
    refine W.reg ?_
    (repeat (first | refine mv rfl rfl ?_ | refine asg rfl rfl ?_ | refine L.off rfl rfl rfl rfl rfl ?_ | refine L.offU rfl rfl rfl rfl ?_ | refine L.on rfl rfl rfl ?_ | refine pickT rfl rfl rfl ?_ | refine pickF rfl rfl rfl ?_ | refine ext rfl rfl rfl ?_ | refine nilc rfl rfl ?_ | refine lenV (t := 46) rfl u_strs rfl ?_ | refine lenV (t := 25) rfl u_bytes rfl ?_ | refine lenV (t := 22) rfl u_files rfl ?_ | refine lenS (t := 9) rfl u_str rfl ?_ | refine eqlI rfl rfl rfl ?_ | refine neqI rfl rfl rfl ?_ | refine lssI rfl rfl rfl ?_ | refine leqI rfl rfl rfl ?_ | refine gtrI rfl rfl rfl ?_ | refine geqI rfl rfl rfl ?_))
    refine L.nil ?_
    refine N.th ?_
    refine W.condF rfl ?_
    refine W.seq ?_
    refine W.reg ?_
    (repeat (first | refine mv rfl rfl ?_ | refine asg rfl rfl ?_ | refine L.off rfl rfl rfl rfl rfl ?_ | refine L.offU rfl rfl rfl rfl ?_ | refine L.on rfl rfl rfl ?_ | refine pickT rfl rfl rfl ?_ | refine pickF rfl rfl rfl ?_ | refine ext rfl rfl rfl ?_ | refine nilc rfl rfl ?_ | refine lenV (t := 46) rfl u_strs rfl ?_ | refine lenV (t := 25) rfl u_bytes rfl ?_ | refine lenV (t := 22) rfl u_files rfl ?_ | refine lenS (t := 9) rfl u_str rfl ?_ | refine eqlI rfl rfl rfl ?_ | refine neqI rfl rfl rfl ?_ | refine lssI rfl rfl rfl ?_ | refine leqI rfl rfl rfl ?_ | refine gtrI rfl rfl rfl ?_ | refine geqI rfl rfl rfl ?_))
    refine L.nil ?_
    refine N.th ?_
    refine W.cond rfl (fun hh => ?_) (fun hh => ?_)
    · subst hh
      refine W.seq ?_
      refine W.reg <| asg rfl rfl <| L.nil ?_
      refine N.th ?_
      refine W.ret ?_
      refine N.rinb <| N.rth ?_
      refine N.ret1 rfl rfl ?_   -- RETURN
      have ha : Tr.ahd m (Tr.ups (Sp.parts (Sp.clean s).1)) = none := by
        rcases hah2 with ⟨-, ha⟩ | ⟨hf, -⟩
        · exact ha
        · cases hf
      rw [md5 ha]
      exact ⟨rfl, ⟨_, E, hR2, hE⟩, hx02.none⟩
    · subst hh
      obtain ⟨lk, halk, hlk⟩ : ∃ lk, Tr.ahd m (Tr.ups (Sp.parts (Sp.clean s).1)) = some lk ∧ StrsA w1'.heap.size w2 lkv lk := by
        rcases hah2 with ⟨hf, -⟩ | ⟨-, lk, h1, h2⟩
        · cases hf
        · exact ⟨lk, h1, h2⟩
      obtain ⟨md7, md8⟩ := md6 lk halk
      have hlkl := lack_len (Sp.clean_cl hc0) halk
      obtain ⟨lka, lkc, rfl, hlkn, hlkm⟩ := own_slice hlk
      refine W.seq ?_
      refine W.reg <| mv rfl rfl <| nilc rfl rfl <| fad rfl fl_RT_0 rfl <| ld1 rfl ag_files rfl hR2.c0 <| lenV rfl u_files rfl <| mv rfl rfl <| lenV rfl u_strs rfl <| addI (c := ((E.length + lk.length : Nat) : Int)) rfl rfl rfl (by rw [w64 (by omega) (by omega)]; simp) <| addI (c := ((E.length + lk.length + 1 : Nat) : Int)) rfl rfl rfl (by rw [w64 (by omega) (by omega)]; simp) <| gtrI rfl rfl rfl <| asg rfl rfl <| L.nil ?_
      refine N.th ?_
      refine W.cond rfl (fun hh => ?_) (fun hh => ?_)
      · refine W.seq ?_
        refine W.reg <| asg rfl rfl <| L.nil ?_
        refine N.th ?_
        refine W.ret ?_
        refine N.rinb <| N.rth ?_
        refine N.ret1 rfl rfl ?_   -- RETURN
        rw [md7 (by have := of_decide_eq_true hh; omega)]
        exact ⟨rfl, ⟨_, E, hR2, hE⟩, hx02.none⟩
      · obtain ⟨md9, md10⟩ := md8 (by have := of_decide_eq_false hh; omega)
        refine W.skip ?_
        refine N.inb ?_
        refine N.th ?_
        refine W.seq ?_
        refine W.reg <| mv rfl rfl <| mv rfl rfl <| mv rfl rfl <| push1 (cs := #[.string (S (Sp.clean s).1)]) rfl rfl rfl rfl (fun _ => by kernel_rfl) el_strs rfl rfl hlk (by omega) (by simp only [maxLen]; omega) hx2.size fun v' w3 hown3 hx3 => ?_
        have hx23 : Ext none_ w1' w3 := hx2.own hlk hx3
        have hown3' : StrsA w1'.heap.size w3 v' (lk ++ [(Sp.clean s).1]) := by simpa [StrsA, encT] using hown3
        have hR3 := hR1.ext0 hx23
        refine call (vs := [_, _]) rfl rfl ok_Rmake (c_Rmake (lk ++ [(Sp.clean s).1]) hR3 (Row.own hown3') (by simp; omega)) ?_
        rintro e w4 ⟨rfl, ⟨lv4, E4, hR4, hE4, -⟩, hx4⟩
        refine ⟨_, rfl, ?_⟩
        refine L.nil ?_
        refine N.th ?_
        refine W.seq ?_
        refine W.reg <| asg rfl rfl <| L.nil ?_
        refine N.th ?_
        refine W.ret ?_
        refine N.ret1 rfl rfl ?_   -- RETURN
        exact ⟨by rw [md9], ⟨lv4, E4, hR4, by rw [hE4, hE, md10]⟩, (hx1.trans hx23).none.trans hx4⟩
  · obtain ⟨rb, ro, rfl, -, hil⟩ := hR2.some_ hxe
    have hc1 := (hR2.files.cell hxe).2.1
    refine W.reg ?_
    (repeat (first | refine mv rfl rfl ?_ | refine asg rfl rfl ?_ | refine L.off rfl rfl rfl rfl rfl ?_ | refine L.offU rfl rfl rfl rfl ?_ | refine L.on rfl rfl rfl ?_ | refine pickT rfl rfl rfl ?_ | refine pickF rfl rfl rfl ?_ | refine ext rfl rfl rfl ?_ | refine nilc rfl rfl ?_ | refine lenV (t := 46) rfl u_strs rfl ?_ | refine lenV (t := 25) rfl u_bytes rfl ?_ | refine lenV (t := 22) rfl u_files rfl ?_ | refine lenS (t := 9) rfl u_str rfl ?_ | refine eqlI rfl rfl rfl ?_ | refine neqI rfl rfl rfl ?_ | refine lssI rfl rfl rfl ?_ | refine leqI rfl rfl rfl ?_ | refine gtrI rfl rfl rfl ?_ | refine geqI rfl rfl rfl ?_))
    refine fad rfl fl_RT_0 rfl <| L.on rfl rfl rfl <| ld1 rfl ag_files rfl hR2.c0 ?_
    (repeat (first | refine mv rfl rfl ?_ | refine asg rfl rfl ?_ | refine L.off rfl rfl rfl rfl rfl ?_ | refine L.offU rfl rfl rfl rfl ?_ | refine L.on rfl rfl rfl ?_ | refine pickT rfl rfl rfl ?_ | refine pickF rfl rfl rfl ?_ | refine ext rfl rfl rfl ?_ | refine nilc rfl rfl ?_ | refine lenV (t := 46) rfl u_strs rfl ?_ | refine lenV (t := 25) rfl u_bytes rfl ?_ | refine lenV (t := 22) rfl u_files rfl ?_ | refine lenS (t := 9) rfl u_str rfl ?_ | refine eqlI rfl rfl rfl ?_ | refine neqI rfl rfl rfl ?_ | refine lssI rfl rfl rfl ?_ | refine leqI rfl rfl rfl ?_ | refine gtrI rfl rfl rfl ?_ | refine geqI rfl rfl rfl ?_))
    refine ixa rfl rfl u_files sz_File rfl (by omega) (by omega) <| L.on rfl rfl rfl <| fad rfl fl_File_1 rfl <| L.on rfl rfl rfl <| ld1 rfl ag_bool rfl hc1 ?_
    cases hxd : x.2.1 with
    | true =>
      (repeat (first | refine mv rfl rfl ?_ | refine asg rfl rfl ?_ | refine L.off rfl rfl rfl rfl rfl ?_ | refine L.offU rfl rfl rfl rfl ?_ | refine L.on rfl rfl rfl ?_ | refine pickT rfl rfl rfl ?_ | refine pickF rfl rfl rfl ?_ | refine ext rfl rfl rfl ?_ | refine nilc rfl rfl ?_ | refine lenV (t := 46) rfl u_strs rfl ?_ | refine lenV (t := 25) rfl u_bytes rfl ?_ | refine lenV (t := 22) rfl u_files rfl ?_ | refine lenS (t := 9) rfl u_str rfl ?_ | refine eqlI rfl rfl rfl ?_ | refine neqI rfl rfl rfl ?_ | refine lssI rfl rfl rfl ?_ | refine leqI rfl rfl rfl ?_ | refine gtrI rfl rfl rfl ?_ | refine geqI rfl rfl rfl ?_))
      refine L.nil ?_
      refine N.th ?_
      refine W.condT rfl ?_
      refine W.seq ?_
      refine W.reg <| asg rfl rfl <| L.nil ?_
      refine N.th ?_
      refine W.ret ?_
      refine N.rinb <| N.rth ?_
      refine N.ret1 rfl rfl ?_   -- RETURN
      rw [md2 x.2.2.2 (by rw [hg, hxd])]
      exact ⟨rfl, ⟨_, E, hR2, hE⟩, hx02.none⟩
    | false =>
      (repeat (first | refine mv rfl rfl ?_ | refine asg rfl rfl ?_ | refine L.off rfl rfl rfl rfl rfl ?_ | refine L.offU rfl rfl rfl rfl ?_ | refine L.on rfl rfl rfl ?_ | refine pickT rfl rfl rfl ?_ | refine pickF rfl rfl rfl ?_ | refine ext rfl rfl rfl ?_ | refine nilc rfl rfl ?_ | refine lenV (t := 46) rfl u_strs rfl ?_ | refine lenV (t := 25) rfl u_bytes rfl ?_ | refine lenV (t := 22) rfl u_files rfl ?_ | refine lenS (t := 9) rfl u_str rfl ?_ | refine eqlI rfl rfl rfl ?_ | refine neqI rfl rfl rfl ?_ | refine lssI rfl rfl rfl ?_ | refine leqI rfl rfl rfl ?_ | refine gtrI rfl rfl rfl ?_ | refine geqI rfl rfl rfl ?_))
      refine L.nil ?_
      refine N.th ?_
      refine W.condF rfl ?_
      refine W.seq ?_
      refine W.reg ?_
      (repeat (first | refine mv rfl rfl ?_ | refine asg rfl rfl ?_ | refine L.off rfl rfl rfl rfl rfl ?_ | refine L.offU rfl rfl rfl rfl ?_ | refine L.on rfl rfl rfl ?_ | refine pickT rfl rfl rfl ?_ | refine pickF rfl rfl rfl ?_ | refine ext rfl rfl rfl ?_ | refine nilc rfl rfl ?_ | refine lenV (t := 46) rfl u_strs rfl ?_ | refine lenV (t := 25) rfl u_bytes rfl ?_ | refine lenV (t := 22) rfl u_files rfl ?_ | refine lenS (t := 9) rfl u_str rfl ?_ | refine eqlI rfl rfl rfl ?_ | refine neqI rfl rfl rfl ?_ | refine lssI rfl rfl rfl ?_ | refine leqI rfl rfl rfl ?_ | refine gtrI rfl rfl rfl ?_ | refine geqI rfl rfl rfl ?_))
      refine L.nil ?_
      refine N.th ?_
      refine W.condT rfl ?_
      refine W.seq ?_
      refine W.reg <| asg rfl rfl <| L.nil ?_
      refine N.th ?_
      refine W.ret ?_
      refine N.rinb <| N.rth ?_
      refine N.ret1 rfl rfl ?_   -- RETURN
      rw [md3 x.2.2.2 (by rw [hg, hxd])]
      exact ⟨rfl, ⟨_, E, hR2, hE⟩, hx02.none⟩

theorem c_RExists {w : World} {rt : Nat} {lv : Value} {E : List FE} {m : Tr.T} (s : Tr.Bytes) (h : RTAt w rt lv E) (hE : fm E = Tr.files m) (hok : Tr.Ok m) :
    Calls P 54 #[pT rt, .string (S s)] w fun e w' => e = .returned (.bool (Tr.exists_ m s)) ∧ Ext none_ w w' := by
  have hEl := len_of hE
  have hml := hok.len
  refine enter (l := [_, _]) (n := 24) Tryz.func54 rfl rfl rfl ?_
  refine W.seq ?_
  refine W.reg <| asg rfl rfl <| L.nil ?_
  refine N.th ?_
  refine W.seq ?_
  refine W.reg <| mv rfl rfl <| call (vs := [_]) rfl rfl ok_RClean (c_RClean s w) ?_
  rintro e w1 ⟨rfl, hx1⟩
  refine ⟨_, rfl, ?_⟩
  refine mv rfl rfl <| ext rfl rfl rfl <| ext rfl rfl rfl <| asg rfl rfl <| asg rfl rfl <| L.nil ?_
  refine N.th ?_
  have hR1 := h.ext0 hx1
  refine W.seq ?_
  refine W.reg ?_
  (repeat (first | refine mv rfl rfl ?_ | refine asg rfl rfl ?_ | refine L.off rfl rfl rfl rfl rfl ?_ | refine L.offU rfl rfl rfl rfl ?_ | refine L.on rfl rfl rfl ?_ | refine pickT rfl rfl rfl ?_ | refine pickF rfl rfl rfl ?_ | refine ext rfl rfl rfl ?_ | refine nilc rfl rfl ?_ | refine lenV (t := 46) rfl u_strs rfl ?_ | refine lenV (t := 25) rfl u_bytes rfl ?_ | refine lenV (t := 22) rfl u_files rfl ?_ | refine lenS (t := 9) rfl u_str rfl ?_ | refine eqlI rfl rfl rfl ?_ | refine neqI rfl rfl rfl ?_ | refine lssI rfl rfl rfl ?_ | refine leqI rfl rfl rfl ?_ | refine gtrI rfl rfl rfl ?_ | refine geqI rfl rfl rfl ?_))
  unfold Tr.exists_
  by_cases hc0 : (Sp.clean s).2 = 0
  · refine Vc.bt (by simpa using hc0) ?_
    (repeat (first | refine mv rfl rfl ?_ | refine asg rfl rfl ?_ | refine L.off rfl rfl rfl rfl rfl ?_ | refine L.offU rfl rfl rfl rfl ?_ | refine L.on rfl rfl rfl ?_ | refine pickT rfl rfl rfl ?_ | refine pickF rfl rfl rfl ?_ | refine ext rfl rfl rfl ?_ | refine nilc rfl rfl ?_ | refine lenV (t := 46) rfl u_strs rfl ?_ | refine lenV (t := 25) rfl u_bytes rfl ?_ | refine lenV (t := 22) rfl u_files rfl ?_ | refine lenS (t := 9) rfl u_str rfl ?_ | refine eqlI rfl rfl rfl ?_ | refine neqI rfl rfl rfl ?_ | refine lssI rfl rfl rfl ?_ | refine leqI rfl rfl rfl ?_ | refine gtrI rfl rfl rfl ?_ | refine geqI rfl rfl rfl ?_))
    refine eqlS (b := []) rfl rfl rfl ?_
    by_cases hp0 : (Sp.clean s).1 = []
    · refine Vc.bt (by simpa using hp0) ?_
      (repeat (first | refine mv rfl rfl ?_ | refine asg rfl rfl ?_ | refine L.off rfl rfl rfl rfl rfl ?_ | refine L.offU rfl rfl rfl rfl ?_ | refine L.on rfl rfl rfl ?_ | refine pickT rfl rfl rfl ?_ | refine pickF rfl rfl rfl ?_ | refine ext rfl rfl rfl ?_ | refine nilc rfl rfl ?_ | refine lenV (t := 46) rfl u_strs rfl ?_ | refine lenV (t := 25) rfl u_bytes rfl ?_ | refine lenV (t := 22) rfl u_files rfl ?_ | refine lenS (t := 9) rfl u_str rfl ?_ | refine eqlI rfl rfl rfl ?_ | refine neqI rfl rfl rfl ?_ | refine lssI rfl rfl rfl ?_ | refine leqI rfl rfl rfl ?_ | refine gtrI rfl rfl rfl ?_ | refine geqI rfl rfl rfl ?_))
      refine L.nil ?_
      refine N.th ?_
      refine W.ret ?_
      refine N.ret1 rfl rfl ?_   -- RETURN
      exact ⟨by simp [hc0, hp0, Tr.at_], hx1⟩
    · refine Vc.bf (by simpa using hp0) ?_
      (repeat (first | refine mv rfl rfl ?_ | refine asg rfl rfl ?_ | refine L.off rfl rfl rfl rfl rfl ?_ | refine L.offU rfl rfl rfl rfl ?_ | refine L.on rfl rfl rfl ?_ | refine pickT rfl rfl rfl ?_ | refine pickF rfl rfl rfl ?_ | refine ext rfl rfl rfl ?_ | refine nilc rfl rfl ?_ | refine lenV (t := 46) rfl u_strs rfl ?_ | refine lenV (t := 25) rfl u_bytes rfl ?_ | refine lenV (t := 22) rfl u_files rfl ?_ | refine lenS (t := 9) rfl u_str rfl ?_ | refine eqlI rfl rfl rfl ?_ | refine neqI rfl rfl rfl ?_ | refine lssI rfl rfl rfl ?_ | refine leqI rfl rfl rfl ?_ | refine gtrI rfl rfl rfl ?_ | refine geqI rfl rfl rfl ?_))
      refine call (vs := [_, _]) rfl rfl ok_Rat (c_Rat (Sp.clean s).1 hR1 (by omega)) ?_
      rintro e w1' ⟨k, rfl, hk, rfl⟩
      refine ⟨_, rfl, ?_⟩
      rcases hk.of hE hok.nodup with ⟨rfl, hg⟩ | ⟨i, x, rfl, hxe, hg⟩
      · (repeat (first | refine mv rfl rfl ?_ | refine asg rfl rfl ?_ | refine L.off rfl rfl rfl rfl rfl ?_ | refine L.offU rfl rfl rfl rfl ?_ | refine L.on rfl rfl rfl ?_ | refine pickT rfl rfl rfl ?_ | refine pickF rfl rfl rfl ?_ | refine ext rfl rfl rfl ?_ | refine nilc rfl rfl ?_ | refine lenV (t := 46) rfl u_strs rfl ?_ | refine lenV (t := 25) rfl u_bytes rfl ?_ | refine lenV (t := 22) rfl u_files rfl ?_ | refine lenS (t := 9) rfl u_str rfl ?_ | refine eqlI rfl rfl rfl ?_ | refine neqI rfl rfl rfl ?_ | refine lssI rfl rfl rfl ?_ | refine leqI rfl rfl rfl ?_ | refine gtrI rfl rfl rfl ?_ | refine geqI rfl rfl rfl ?_))
        refine L.nil ?_
        refine N.th ?_
        refine W.ret ?_
        refine N.ret1 rfl rfl ?_   -- RETURN
        exact ⟨by simp [hc0, Tr.at_of hp0, hg], hx1⟩
      · (repeat (first | refine mv rfl rfl ?_ | refine asg rfl rfl ?_ | refine L.off rfl rfl rfl rfl rfl ?_ | refine L.offU rfl rfl rfl rfl ?_ | refine L.on rfl rfl rfl ?_ | refine pickT rfl rfl rfl ?_ | refine pickF rfl rfl rfl ?_ | refine ext rfl rfl rfl ?_ | refine nilc rfl rfl ?_ | refine lenV (t := 46) rfl u_strs rfl ?_ | refine lenV (t := 25) rfl u_bytes rfl ?_ | refine lenV (t := 22) rfl u_files rfl ?_ | refine lenS (t := 9) rfl u_str rfl ?_ | refine eqlI rfl rfl rfl ?_ | refine neqI rfl rfl rfl ?_ | refine lssI rfl rfl rfl ?_ | refine leqI rfl rfl rfl ?_ | refine gtrI rfl rfl rfl ?_ | refine geqI rfl rfl rfl ?_))
        refine L.nil ?_
        refine N.th ?_
        refine W.ret ?_
        refine N.ret1 rfl rfl ?_   -- RETURN
        exact ⟨by simp [hc0, Tr.at_of hp0, hg], hx1⟩
  · refine Vc.bf (by simpa using hc0) ?_
    (repeat (first | refine mv rfl rfl ?_ | refine asg rfl rfl ?_ | refine L.off rfl rfl rfl rfl rfl ?_ | refine L.offU rfl rfl rfl rfl ?_ | refine L.on rfl rfl rfl ?_ | refine pickT rfl rfl rfl ?_ | refine pickF rfl rfl rfl ?_ | refine ext rfl rfl rfl ?_ | refine nilc rfl rfl ?_ | refine lenV (t := 46) rfl u_strs rfl ?_ | refine lenV (t := 25) rfl u_bytes rfl ?_ | refine lenV (t := 22) rfl u_files rfl ?_ | refine lenS (t := 9) rfl u_str rfl ?_ | refine eqlI rfl rfl rfl ?_ | refine neqI rfl rfl rfl ?_ | refine lssI rfl rfl rfl ?_ | refine leqI rfl rfl rfl ?_ | refine gtrI rfl rfl rfl ?_ | refine geqI rfl rfl rfl ?_))
    refine L.nil ?_
    refine N.th ?_
    refine W.ret ?_
    refine N.ret1 rfl rfl ?_   -- RETURN
    exact ⟨by simp [hc0], hx1⟩
end Go.Proofs.YtmdpmpdlkaogdaaGreatDoor

namespace Go.Proofs.YtmdpmpdlkaogdaaGreatDoor
open Go Go.RowKit Vc

theorem ze_File : zeroB P tF = some (.agg #[.string (S []), .bool false, .slice none 0 0]) := by kernel_rfl
theorem ok_Of : FnOk P 46 := ⟨_, Tryz.func46, by kernel_rfl, by kernel_rfl⟩
/-- Each seen once. -/
def cnt (l : List Tr.Bytes) : AL := l.map fun k => (k, .int .i64 1)
theorem cnt_keys (l : List Tr.Bytes) : (cnt l).map (·.1) = l := by simp [cnt, Function.comp_def]
theorem cnt_none {l : List Tr.Bytes} {k : Tr.Bytes} (h : k ∉ l) : aget (cnt l) k = none := (Tr.get_none (α := Value)).2 (by rw [cnt_keys]; exact h)
theorem cnt_some {l : List Tr.Bytes} {k : Tr.Bytes} (h : k ∈ l) : aget (cnt l) k = some (.int .i64 1) := by
  cases hg : aget (cnt l) k with
  | none => exact absurd h (by have := (Tr.get_none (α := Value)).1 hg; rwa [cnt_keys] at this)
  | some v =>
    obtain ⟨j, -, e⟩ := List.mem_map.1 (Tr.get_mem (α := Value) hg)
    cases e; rfl
theorem cnt_new {l : List Tr.Bytes} {k : Tr.Bytes} (h : k ∉ l) : aset (cnt l) k (.int .i64 1) = cnt (l ++ [k]) := by
  have := Tr.set_new (α := Value) (.int .i64 1) (cnt_none h)
  simp only [cnt, List.map_append, List.map_cons, List.map_nil]
  exact this
theorem aget_aset (al : AL) (k : Tr.Bytes) (v : Value) : aget (aset al k v) k = some v := by
  have := Tr.get_set (α := Value) al k k v
  rw [if_pos rfl] at this
  exact this
theorem FilesA.cells {w : World} {b o n c i : Nat} {E : List FE} {x : FE} (h : FilesA w (.slice (some ⟨b, o, none⟩) n c) E) (hi : E[i]? = some x) : ∀ j u, (fcells x)[j]? = some u → w.cell? ⟨b, o + i * 3 + j, none⟩ = some u := by
  obtain ⟨h0, h1, h2⟩ := h.cell hi
  rintro (_ | _ | _ | j) u hj
  · cases hj; exact h0
  · cases hj; exact h1
  · cases hj; exact h2
  · cases hj
theorem drop_fm {E : List FE} {i : Nat} {x : FE} (h : E[i]? = some x) : fm (E.drop i) = (x.1, (x.2.1, x.2.2.2)) :: fm (E.drop (i + 1)) := by
  obtain ⟨hi, rfl⟩ := List.getElem?_eq_some_iff.1 h
  rw [List.drop_eq_getElem_cons hi]; rfl

/-- What Of answers. -/
def OfR (w : World) (E : List FE) (e : Ending) (w' : World) : Prop := Ext none_ w w' ∧ ((Tr.of (fm E)).1 = none → e = .returned (.tuple #[.pointer none, .int .i64 (Tr.of (fm E)).2])) ∧
  ∀ m, (Tr.of (fm E)).1 = some m → Tr.Ok m ∧ ∃ bt bm, e = .returned (.tuple #[pT bt, .int .i64 0]) ∧ w.heap.size ≤ bt ∧ w.heap.size ≤ bm ∧ TreeAt none_ w' bt bm m (Tr.size m)
theorem OfR.fail {w w' : World} {E : List FE} {c : Int} (hx : Ext none_ w w') (h : Tr.of (fm E) = (none, c)) : OfR w E (.returned (.tuple #[.pointer none, .int .i64 c])) w' := by
  refine ⟨hx, fun _ => by rw [h], fun m hm => ?_⟩
  rw [h] at hm; cases hm

theorem c_Of {w : World} {v : Value} {E : List FE} (hv : FilesA w v E) (hl : ∀ x ∈ E, x.2.2.2.length ≤ 100000000) : Calls P 46 #[v] w (OfR w E) := by
  obtain ⟨a, c, rfl, hn, hmx, -, -⟩ := id hv.row
  simp only [maxLen] at hmx
  refine enter (l := [_]) (n := 68) Tryz.func46 rfl rfl rfl ?_
  refine W.seq ?_
  refine W.reg <| asg rfl rfl <| asg rfl rfl <| L.nil ?_
  refine N.th ?_
  refine W.seq ?_
  refine W.reg <| call (vs := []) rfl rfl ok_New (c_New w) ?_
  rintro e w1 ⟨bt, bm, rfl, hbt, hbm, hT1, hx1⟩
  refine ⟨_, rfl, ?_⟩
  refine asg rfl rfl <| L.nil ?_
  refine N.th ?_
  have hs1 := hx1.size
  have hTlt := hT1.lt
  have hTwo : ∀ i, i < w.heap.size → Two bt bm i → none_ i := by rintro i hi (e | e) <;> omega
  refine W.seq ?_
  refine W.reg <| mkm rfl <| asg rfl rfl <| L.nil ?_
  refine N.th ?_
  obtain ⟨w2, hw2⟩ : ∃ w2, w2 = w1.alloc (.map #[] 0) := ⟨_, rfl⟩
  obtain ⟨r, hr⟩ : ∃ r, r = w1.heap.size := ⟨_, rfl⟩
  have hM2 : MapAt w2 r [] := by rw [hw2, hr]; exact MapAt.new w1
  have hx12 : Ext none_ w1 w2 := by rw [hw2]; exact Ext.alloc _ _ _
  rw [← hw2, ← hr]
  refine W.seq ?_
  refine W.seq ?_
  refine W.reg <| mv rfl rfl <| lenV rfl u_files rfl <| mv rfl rfl <| L.nil ?_
  refine N.th ?_
  refine W.block ?_
  refine W.loop (X := Nat × Tr.T × List Tr.Bytes) (fun x => [(15, .int .i64 x.1), (13, .slice a E.length c), (14, .int .i64 E.length), (4, pT bt), (5, .map (some r))])
    (fun x w' => x.1 ≤ E.length ∧ Tr.Ok x.2.1 ∧ TreeAt none_ w' bt bm x.2.1 (Tr.size x.2.1) ∧ MapAt w' r (cnt x.2.2) ∧ Ext none_ w w' ∧ Tr.ofF x.2.1 x.2.2 (fm (E.drop x.1)) = Tr.of (fm E)) (fun x => E.length - x.1) (0, [], []) ⟨rfl, rfl, rfl, rfl, rfl, trivial⟩
    ⟨by omega, Tr.Ok.nil, hT1.ext0 hx12, hM2, hx1.trans hx12, rfl⟩ ?_
  rintro ⟨i, m, seen⟩ w4 ⟨hi, hok, hT4, hM4, hx4, hof⟩
  dsimp only at hi hok hT4 hM4 hof ⊢
  refine W.seq ?_
  refine W.reg <| lssI rfl rfl rfl <| L.nil ?_
  refine N.th ?_
  refine W.seq ?_
  refine W.cond rfl (fun h => ?_) (fun h => ?_)
  · refine W.skip ?_
    refine N.th ?_
    have hi1 : i < E.length := by simp at h; omega
    obtain ⟨x, hxe⟩ : ∃ x, E[i]? = some x := ⟨_, List.getElem?_eq_getElem hi1⟩
    have hxm := List.mem_of_getElem? hxe
    obtain ⟨b, o, c', hv', -, -⟩ := hv.plain hxm
    cases hv'
    have hxl := hl x hxm
    rw [drop_fm hxe] at hof
    obtain ⟨va, vc, hbv, -⟩ := hv.bytes x hxm
    refine W.seqM (fun E' w' => E' = [(15, .int .i64 i), (13, .slice (some ⟨b, o, none⟩) E.length c), (14, .int .i64 E.length), (4, pT bt), (5, .map (some r))] ∧ ∃ m' seen', Tr.Ok m' ∧ TreeAt none_ w' bt bm m' (Tr.size m') ∧ MapAt w' r (cnt seen') ∧ Ext none_ w w' ∧ Tr.ofF m' seen' (fm (E.drop (i + 1))) = Tr.of (fm E)) ?_ ?_
    · refine W.block ?_
      refine W.seq ?_
      refine W.reg <| ixa rfl rfl u_files sz_File rfl (by omega) (by omega) <| ldk (cs := fcells x) rfl ag_File sz_File rfl rfl (fun j u hj => (hv.ext0 hx4).cells hxe j u hj) <| new ze_File rfl <|
        stR (cells := (fcells x).toArray) rfl rfl sz_File (by rw [show fcells x = [.string (S x.1), .bool x.2.1, x.2.2.1] from rfl, hbv]; rfl) (heap_new _ _) rfl <| L.nil ?_
      refine N.th ?_
      obtain ⟨w5, hw5⟩ : ∃ w5, w5 = (w4.alloc (.cells (Value.cells (.agg #[.string (S []), .bool false, .slice none 0 0])) tF)).setRow w4.heap.size (fcells x).toArray := ⟨_, rfl⟩
      obtain ⟨f, hf⟩ : ∃ f, f = w4.heap.size := ⟨_, rfl⟩
      have hx45 : Ext none_ w4 w5 := by rw [hw5]; exact (Ext.alloc none_ _ _).trans' (Ext.setRow (S := fun k => k = w4.heap.size) _ (fun _ => rfl) _) (fun i hi e => by omega)
      have hf5 : w5.heap[f]? = some (.cells (fcells x).toArray tF (0, 0)) := by rw [hw5, hf]; exact setRow_heap _ _ _ _ _ _ (heap_new _ _)
      rw [show (w4.alloc (.cells (Value.cells (.agg #[.string (S []), .bool false, .slice none 0 0])) tF)).setRow w4.heap.size (fcells x).toArray = w5 from hw5.symm, ← hf]
      refine W.seq ?_
      refine W.reg <| fad rfl fl_File_0 rfl <| ld1 rfl ag_str rfl (cell_of hf5 rfl) <| call (vs := [_]) rfl rfl ok_Clean (c_Clean x.1 w5) ?_
      rintro e w6 ⟨rfl, hx6⟩
      refine ⟨_, rfl, ?_⟩
      refine mv rfl rfl <| ext rfl rfl rfl <| ext rfl rfl rfl <| asg rfl rfl <| asg rfl rfl <| L.nil ?_
      refine N.th ?_
      obtain ⟨q, ec, hq⟩ : ∃ q ec, Sp.clean x.1 = (q, ec) := ⟨_, _, rfl⟩
      rw [hq]
      dsimp only
      have hx46 := hx45.trans hx6
      refine W.seq ?_
      refine W.seq ?_
      refine W.reg <| mv rfl rfl <| neqI rfl rfl rfl <| L.nil ?_
      refine N.th ?_
      refine W.cond rfl (fun h => ?_) (fun h => ?_)
      · refine W.seq ?_
        refine W.reg <| mv rfl rfl <| asg rfl rfl <| asg rfl rfl <| L.nil ?_
        refine N.th ?_
        refine W.ret ?_
        refine N.rth <| N.rinb <| N.rth <| N.rth <| N.rinb <| N.rth ?_
        refine N.ret2 rfl rfl rfl ?_   -- RETURN
        have h0 : ec ≠ 0 := by simpa using h
        refine OfR.fail (hx4.trans hx46) ?_
        rw [← hof]
        unfold Tr.ofF
        rw [hq, if_pos h0]
      have h0 : ec = 0 := by simpa using h
      subst h0
      refine W.skip ?_
      refine N.th ?_
      have hT6 := hT4.ext0 hx46
      refine W.seq ?_
      refine W.reg <| mv rfl rfl <| mv rfl rfl <| call (vs := [_, _]) rfl rfl ok_at (c_at q hT6) ?_
      rintro e w7 ⟨nv, rfl, hnv, hx7⟩
      refine ⟨_, rfl, ?_⟩
      refine asg rfl rfl <| L.nil ?_
      refine N.th ?_
      have hx47 := hx46.trans hx7
      have hM7 := hM4.ext hx47 id
      have hT7 := hT4.ext0 hx47
      have hf7 := (hx6.trans hx7).obj hf5 id
      refine W.seq ?_
      refine W.seq ?_
      have kdr : ∀ {wz : World}, MapAt wz r (cnt seen) → Kd wz (fun k => k = r) := fun hMz k hk ce e fr he => by
        subst hk
        obtain ⟨es, ck, h1, -⟩ := hMz
        rw [h1] at he; cases he
      have hrt : ¬ r = bt := fun e => by
        subst e
        obtain ⟨es, ck, h1, -⟩ := hM7
        rw [hT7.cell] at h1; cases h1
      have hrm : ¬ r = bm := by omega
      have hrf : f ≠ r := fun e => by
        subst e
        obtain ⟨es, ck, h1, -⟩ := hM7
        rw [hf7] at h1; cases h1
      by_cases hseen : q ∈ seen
      · refine W.reg <| mv rfl rfl <| mv rfl rfl <| lku rfl rfl u_mInt u_str ze_int rfl hM7 ?_
        rw [cnt_some hseen]
        refine addI (c := 2) rfl rfl rfl rfl <| mup rfl rfl rfl u_mInt u_str hM7 fun w8 hM8 hx8 _ => ?_
        refine L.nil ?_
        refine N.th ?_
        refine W.seqM (fun E' w' => getE E' 52 = some (.bool true) ∧ w' = w8) ?_ ?_
        · refine W.reg <| mv rfl rfl <| mv rfl rfl <| lku rfl rfl u_mInt u_str ze_int rfl hM8 ?_
          rw [aget_aset]
          refine gtrI rfl rfl rfl ?_
          refine Vc.bt rfl ?_
          (repeat (first | refine mv rfl rfl ?_ | refine asg rfl rfl ?_ | refine L.off rfl rfl rfl rfl rfl ?_ | refine L.offU rfl rfl rfl rfl ?_ | refine L.on rfl rfl rfl ?_ | refine pickT rfl rfl rfl ?_ | refine pickF rfl rfl rfl ?_ | refine ext rfl rfl rfl ?_ | refine nilc rfl rfl ?_ | refine lenV (t := 46) rfl u_strs rfl ?_ | refine lenV (t := 25) rfl u_bytes rfl ?_ | refine lenV (t := 22) rfl u_files rfl ?_ | refine lenS (t := 9) rfl u_str rfl ?_ | refine eqlI rfl rfl rfl ?_ | refine neqI rfl rfl rfl ?_ | refine lssI rfl rfl rfl ?_ | refine leqI rfl rfl rfl ?_ | refine gtrI rfl rfl rfl ?_ | refine geqI rfl rfl rfl ?_))
          exact L.nil <| N.th (N.meet [(52, .bool true)] ⟨rfl, trivial⟩ ⟨rfl, rfl⟩)
        rintro E' w9 ⟨he, rfl⟩
        refine W.condT he ?_
        refine W.seq ?_
        refine W.reg <| asg rfl rfl <| asg rfl rfl <| L.nil ?_
        refine N.th ?_
        refine W.ret ?_
        refine N.rth <| N.rinb <| N.rth <| N.rth <| N.rinb <| N.rth ?_
        refine N.ret2 rfl rfl rfl ?_   -- RETURN
        refine OfR.fail ((hx4.trans hx47).trans' hx8 fun i hi e => by have := hx1.size; omega) ?_
        rw [← hof]
        unfold Tr.ofF
        rw [hq]
        simp [hseen]
      · refine W.reg <| mv rfl rfl <| mv rfl rfl <| lku rfl rfl u_mInt u_str ze_int rfl hM7 ?_
        rw [cnt_none hseen]
        refine addI (c := 1) rfl rfl rfl rfl <| mup rfl rfl rfl u_mInt u_str hM7 fun w8 hM8 hx8 _ => ?_
        rw [cnt_new hseen] at hM8
        refine L.nil ?_
        refine N.th ?_
        have hT8 : TreeAt none_ w8 bt bm m (Tr.size m) := hT7.ext hx8 (kdr hM7) (fun e => hrt e.symm) (fun e => hrm e.symm)
        have hf8 := hx8.obj hf7 hrf
        have hx08 : Ext none_ w w8 := (hx4.trans hx47).trans' hx8 fun i hi e => by have := hx1.size; omega
        have hnv8 : PtrAt none_ w8 nv (Tr.at_ m q) := hnv.ext hx8 (kdr hM7)
        refine W.seqM (fun E' w' => E' = [(52, .bool (x.2.1 && Tr.isDir (Tr.at_ m q))), (7, .pointer (some ⟨f, 0, none⟩)), (8, .string (S q)), (15, .int .i64 i), (13, .slice (some ⟨b, o, none⟩) E.length c), (14, .int .i64 E.length), (4, pT bt), (5, .map (some r))] ∧ w' = w8) ?_ ?_
        · refine W.reg <| mv rfl rfl <| mv rfl rfl <| lku rfl rfl u_mInt u_str ze_int rfl hM8 ?_
          rw [cnt_some (by simp : q ∈ seen ++ [q])]
          refine gtrI rfl rfl rfl ?_
          refine Vc.bf rfl ?_
          (repeat (first | refine mv rfl rfl ?_ | refine asg rfl rfl ?_ | refine L.off rfl rfl rfl rfl rfl ?_ | refine L.offU rfl rfl rfl rfl ?_ | refine L.on rfl rfl rfl ?_ | refine pickT rfl rfl rfl ?_ | refine pickF rfl rfl rfl ?_ | refine ext rfl rfl rfl ?_ | refine nilc rfl rfl ?_ | refine lenV (t := 46) rfl u_strs rfl ?_ | refine lenV (t := 25) rfl u_bytes rfl ?_ | refine lenV (t := 22) rfl u_files rfl ?_ | refine lenS (t := 9) rfl u_str rfl ?_ | refine eqlI rfl rfl rfl ?_ | refine neqI rfl rfl rfl ?_ | refine lssI rfl rfl rfl ?_ | refine leqI rfl rfl rfl ?_ | refine gtrI rfl rfl rfl ?_ | refine geqI rfl rfl rfl ?_))
          refine fad rfl fl_File_1 rfl <| L.on rfl rfl rfl <| ld1 (v := .bool x.2.1) rfl ag_bool rfl (cell_of hf8 rfl) ?_
          cases hd : x.2.1 with
          | false =>
            (repeat (first | refine mv rfl rfl ?_ | refine asg rfl rfl ?_ | refine L.off rfl rfl rfl rfl rfl ?_ | refine L.offU rfl rfl rfl rfl ?_ | refine L.on rfl rfl rfl ?_ | refine pickT rfl rfl rfl ?_ | refine pickF rfl rfl rfl ?_ | refine ext rfl rfl rfl ?_ | refine nilc rfl rfl ?_ | refine lenV (t := 46) rfl u_strs rfl ?_ | refine lenV (t := 25) rfl u_bytes rfl ?_ | refine lenV (t := 22) rfl u_files rfl ?_ | refine lenS (t := 9) rfl u_str rfl ?_ | refine eqlI rfl rfl rfl ?_ | refine neqI rfl rfl rfl ?_ | refine lssI rfl rfl rfl ?_ | refine leqI rfl rfl rfl ?_ | refine gtrI rfl rfl rfl ?_ | refine geqI rfl rfl rfl ?_))
            exact L.nil <| N.th (N.meet [(52, .bool false), (7, _), (8, _), (15, _), (13, _), (14, _), (4, _), (5, _)] ⟨rfl, rfl, rfl, rfl, rfl, rfl, rfl, rfl, trivial⟩ ⟨rfl, rfl⟩)
          | true =>
            (repeat (first | refine mv rfl rfl ?_ | refine asg rfl rfl ?_ | refine L.off rfl rfl rfl rfl rfl ?_ | refine L.offU rfl rfl rfl rfl ?_ | refine L.on rfl rfl rfl ?_ | refine pickT rfl rfl rfl ?_ | refine pickF rfl rfl rfl ?_ | refine ext rfl rfl rfl ?_ | refine nilc rfl rfl ?_ | refine lenV (t := 46) rfl u_strs rfl ?_ | refine lenV (t := 25) rfl u_bytes rfl ?_ | refine lenV (t := 22) rfl u_files rfl ?_ | refine lenS (t := 9) rfl u_str rfl ?_ | refine eqlI rfl rfl rfl ?_ | refine neqI rfl rfl rfl ?_ | refine lssI rfl rfl rfl ?_ | refine leqI rfl rfl rfl ?_ | refine gtrI rfl rfl rfl ?_ | refine geqI rfl rfl rfl ?_))
            cases hox : Tr.at_ m q with
            | none =>
              rw [hox] at hnv8
              cases hnv8
              refine neqPN rfl u_pNode rfl ?_
              refine Vc.bf rfl ?_
              (repeat (first | refine mv rfl rfl ?_ | refine asg rfl rfl ?_ | refine L.off rfl rfl rfl rfl rfl ?_ | refine L.offU rfl rfl rfl rfl ?_ | refine L.on rfl rfl rfl ?_ | refine pickT rfl rfl rfl ?_ | refine pickF rfl rfl rfl ?_ | refine ext rfl rfl rfl ?_ | refine nilc rfl rfl ?_ | refine lenV (t := 46) rfl u_strs rfl ?_ | refine lenV (t := 25) rfl u_bytes rfl ?_ | refine lenV (t := 22) rfl u_files rfl ?_ | refine lenS (t := 9) rfl u_str rfl ?_ | refine eqlI rfl rfl rfl ?_ | refine neqI rfl rfl rfl ?_ | refine lssI rfl rfl rfl ?_ | refine leqI rfl rfl rfl ?_ | refine gtrI rfl rfl rfl ?_ | refine geqI rfl rfl rfl ?_))
              exact L.nil <| N.th (N.meet [(52, .bool false), (7, _), (8, _), (15, _), (13, _), (14, _), (4, _), (5, _)] ⟨rfl, rfl, rfl, rfl, rfl, rfl, rfl, rfl, trivial⟩ ⟨rfl, rfl⟩)
            | some y =>
              rw [hox] at hnv8
              obtain ⟨nb, sl, rfl, hnb, hav, hrow⟩ := hnv8
              refine neqPN rfl u_pNode rfl ?_
              refine Vc.bt rfl ?_
              (repeat (first | refine mv rfl rfl ?_ | refine asg rfl rfl ?_ | refine L.off rfl rfl rfl rfl rfl ?_ | refine L.offU rfl rfl rfl rfl ?_ | refine L.on rfl rfl rfl ?_ | refine pickT rfl rfl rfl ?_ | refine pickF rfl rfl rfl ?_ | refine ext rfl rfl rfl ?_ | refine nilc rfl rfl ?_ | refine lenV (t := 46) rfl u_strs rfl ?_ | refine lenV (t := 25) rfl u_bytes rfl ?_ | refine lenV (t := 22) rfl u_files rfl ?_ | refine lenS (t := 9) rfl u_str rfl ?_ | refine eqlI rfl rfl rfl ?_ | refine neqI rfl rfl rfl ?_ | refine lssI rfl rfl rfl ?_ | refine leqI rfl rfl rfl ?_ | refine gtrI rfl rfl rfl ?_ | refine geqI rfl rfl rfl ?_))
              refine fad rfl fl_Node_0 rfl <| L.on rfl rfl rfl <| ld1 (v := .bool y.1) rfl ag_bool rfl (cell_of hnb rfl) ?_
              (repeat (first | refine mv rfl rfl ?_ | refine asg rfl rfl ?_ | refine L.off rfl rfl rfl rfl rfl ?_ | refine L.offU rfl rfl rfl rfl ?_ | refine L.on rfl rfl rfl ?_ | refine pickT rfl rfl rfl ?_ | refine pickF rfl rfl rfl ?_ | refine ext rfl rfl rfl ?_ | refine nilc rfl rfl ?_ | refine lenV (t := 46) rfl u_strs rfl ?_ | refine lenV (t := 25) rfl u_bytes rfl ?_ | refine lenV (t := 22) rfl u_files rfl ?_ | refine lenS (t := 9) rfl u_str rfl ?_ | refine eqlI rfl rfl rfl ?_ | refine neqI rfl rfl rfl ?_ | refine lssI rfl rfl rfl ?_ | refine leqI rfl rfl rfl ?_ | refine gtrI rfl rfl rfl ?_ | refine geqI rfl rfl rfl ?_))
              exact L.nil <| N.th (N.meet [(52, .bool y.1), (7, _), (8, _), (15, _), (13, _), (14, _), (4, _), (5, _)] ⟨rfl, rfl, rfl, rfl, rfl, rfl, rfl, rfl, trivial⟩ ⟨rfl, rfl⟩)
        rintro E' w9 ⟨rfl, rfl⟩
        refine W.cond rfl (fun h => ?_) (fun h => ?_)
        · refine W.seq ?_
          refine W.reg <| asg rfl rfl <| asg rfl rfl <| L.nil ?_
          refine N.th ?_
          refine W.ret ?_
          refine N.rth <| N.rinb <| N.rth <| N.rth <| N.rinb <| N.rth ?_
          refine N.ret2 rfl rfl rfl ?_   -- RETURN
          refine OfR.fail hx08 ?_
          rw [← hof]
          unfold Tr.ofF
          rw [hq]
          dsimp only
          rw [h]
          simp
        refine W.skip ?_
        refine N.th ?_
        have hof' : (if (Tr.step m q (x.2.1, x.2.2.2)).2 ≠ 0 then (none, (Tr.step m q (x.2.1, x.2.2.2)).2) else Tr.ofF (Tr.step m q (x.2.1, x.2.2.2)).1 (seen ++ [q]) (fm (E.drop (i + 1)))) = Tr.of (fm E) := by
          rw [← hof]
          conv => rhs; unfold Tr.ofF
          rw [hq]
          dsimp only
          rw [h]
          simp [hseen]
        have hMT : ∀ {wz}, Ext (Two bt bm) w9 wz → MapAt wz r (cnt (seen ++ [q])) := fun hz => hM8.ext hz (fun e => e.elim hrt hrm)
        refine W.seqM (fun E' w' => E' = [(9, .int .i64 (Tr.step m q (x.2.1, x.2.2.2)).2), (15, .int .i64 i), (13, .slice (some ⟨b, o, none⟩) E.length c), (14, .int .i64 E.length), (4, pT bt), (5, .map (some r))] ∧ TreeAt none_ w' bt bm (Tr.step m q (x.2.1, x.2.2.2)).1 (Tr.size (Tr.step m q (x.2.1, x.2.2.2)).1) ∧ MapAt w' r (cnt (seen ++ [q])) ∧ Ext none_ w w') ?_ ?_   -- CUT
        · refine W.seq ?_
          refine W.reg <| fad rfl fl_File_1 rfl <| ld1 (v := .bool x.2.1) rfl ag_bool rfl (cell_of hf8 rfl) <| L.nil ?_
          refine N.th ?_
          have hT9 : Tree none_ w9 bt bm m := ⟨hT8, hok.len, hok.bytes⟩
          cases hd : x.2.1 with
          | true =>
            refine W.condT rfl ?_
            refine W.reg <| mv rfl rfl <| mv rfl rfl <| call (vs := [_, _]) rfl rfl ok_Mkdir (c_Mkdir q hT9) ?_
            rintro e w10 ⟨rfl, hT10, hx10⟩
            refine ⟨_, rfl, ?_⟩
            refine asg rfl rfl <| L.nil ?_
            exact N.th (N.meet [(9, _), (15, _), (13, _), (14, _), (4, _), (5, _)] ⟨rfl, rfl, rfl, rfl, rfl, rfl, trivial⟩ ⟨rfl, hT10, hMT hx10, hx08.trans' hx10 hTwo⟩)   -- MEET
          | false =>
            refine W.condF rfl ?_
            refine W.reg <| mv rfl rfl <| mv rfl rfl <| fad rfl fl_File_2 rfl <| ld1 (v := x.2.2.1) rfl ag_bytes rfl (cell_of hf8 rfl) <| call (vs := [_, _, _]) rfl rfl ok_Write (c_Write q hT9 ((hv.ext0 hx08).bytes x hxm) hxl) ?_
            rintro e w10 ⟨rfl, hT10, hx10⟩
            refine ⟨_, rfl, ?_⟩
            refine asg rfl rfl <| L.nil ?_
            exact N.th (N.meet [(9, _), (15, _), (13, _), (14, _), (4, _), (5, _)] ⟨rfl, rfl, rfl, rfl, rfl, rfl, trivial⟩ ⟨rfl, hT10, hMT hx10, hx08.trans' hx10 hTwo⟩)   -- MEET
        rintro E' w10 ⟨rfl, hT10, hM10, hx10⟩
        refine W.seq ?_
        refine W.reg <| mv rfl rfl <| neqI rfl rfl rfl <| L.nil ?_
        refine N.th ?_
        refine W.cond rfl (fun h => ?_) (fun h => ?_)
        · refine W.seq ?_
          refine W.reg <| mv rfl rfl <| asg rfl rfl <| asg rfl rfl <| L.nil ?_
          refine N.th ?_
          refine W.ret ?_
          refine N.rinb <| N.rth <| N.rth <| N.rinb <| N.rth ?_
          refine N.ret2 rfl rfl rfl ?_   -- RETURN
          have h1 : (Tr.step m q (x.2.1, x.2.2.2)).2 ≠ 0 := by simpa using h
          refine OfR.fail hx10 ?_
          rw [← hof', if_pos h1]
        · refine W.skip ?_
          refine N.inb ?_
          have h1 : ¬ (Tr.step m q (x.2.1, x.2.2.2)).2 ≠ 0 := by simpa using h
          rw [if_neg h1] at hof'
          exact N.th (N.meet [(15, _), (13, _), (14, _), (4, _), (5, _)] ⟨rfl, rfl, rfl, rfl, rfl, trivial⟩ ⟨rfl, _, _, hok.step _ _, hT10, hM10, hx10, hof'⟩)   -- MEET
    rintro E' w5 ⟨rfl, m', seen', hok', hT5, hM5, hx5, hof5⟩
    refine W.reg <| addI (c := ((i + 1 : Nat) : Int)) rfl rfl rfl (by rw [w64 (by omega) (by omega)]; simp) <| mv rfl rfl <| L.nil ?_
    exact N.th (N.round (x := (i + 1, m', seen')) ⟨rfl, rfl, rfl, rfl, rfl, trivial⟩ ⟨by dsimp only; omega, hok', hT5, hM5, hx5, hof5⟩ (by dsimp only; omega))   -- ROUND
  · refine W.exit ?_
    refine N.xth ?_
    refine N.xth ?_
    refine N.xeq ?_
    refine N.th ?_
    refine W.seq ?_
    refine W.reg <| mv rfl rfl <| asg rfl rfl <| asg rfl rfl <| L.nil ?_
    refine N.th ?_
    refine W.ret ?_
    refine N.ret2 rfl rfl rfl ?_   -- RETURN
    have hi1 : i = E.length := by simp at h; omega
    rw [hi1, List.drop_length] at hof
    have hof2 : Tr.of (fm E) = (some m, 0) := hof.symm
    refine ⟨hx4, fun h => ?_, fun m' hm' => ?_⟩
    · rw [hof2] at h; cases h
    · rw [hof2] at hm'
      cases hm'
      exact ⟨hok, bt, bm, rfl, hbt, hbm, hT4⟩
end Go.Proofs.YtmdpmpdlkaogdaaGreatDoor

namespace Go.Proofs.YtmdpmpdlkaogdaaGreatDoor
namespace Ar
theorem par_fuel : ∀ (f g : Nat) (b : List UInt8) (acc : Tr.T), b.length < f → b.length < g → par f b acc = par g b acc := by
  intro f
  induction f with
  | zero => intro g b acc h; omega
  | succ f ih =>
    intro g b acc hf hg
    obtain ⟨g, rfl⟩ : ∃ k, g = k + 1 := ⟨g - 1, by omega⟩
    cases b with
    | nil => rfl
    | cons k b =>
      simp only [List.length_cons] at hf hg
      simp only [par]
      rw [ih g ((b.drop 2).drop (val (b.take 2))) _ (by simp; omega) (by simp; omega)]
      rw [ih g ((((b.drop 2).drop (val (b.take 2))).drop 8).drop (val (((b.drop 2).drop (val (b.take 2))).take 8))) _ (by simp; omega) (by simp; omega)]
theorem par_len : ∀ (f : Nat) (b : List UInt8) (acc l : Tr.T), (par f b acc).1 = some l → ∀ x ∈ l, x ∈ acc ∨ x.2.2.length ≤ b.length := by
  intro f
  induction f with
  | zero => intro b acc l h; cases h
  | succ f ih =>
    intro b acc l h x hx
    cases b with
    | nil => cases h
    | cons k b =>
      unfold par at h
      split at h
      · split at h
        · cases h; exact .inl hx
        · cases h
      split at h
      · cases h
      split at h
      · cases h
      split at h
      · cases h
      split at h
      · cases h
      split at h
      · cases h
      split at h
      · rcases ih _ _ _ h x hx with h1 | h1
        · rcases List.mem_append.1 h1 with h1 | h1
          · exact .inl h1
          · right; simp at h1; rw [h1]; simp
        · right; simp at h1 ⊢; omega
      split at h
      · cases h
      split at h
      · cases h
      · rcases ih _ _ _ h x hx with h1 | h1
        · rcases List.mem_append.1 h1 with h1 | h1
          · exact .inl h1
          · right; simp at h1; rw [h1]; simp; omega
        · right; simp at h1 ⊢; omega
/-- What the entries come to. -/
def fin (r : Option Tr.T × Int) : Option Tr.T × Int := match r with
  | (none, c) => (none, c)
  | (some l, _) => match Tr.of l with
    | (none, _) => (none, 64)
    | (some m, _) => (some (Tr.files m), 0)
theorem opn_fin {b : List UInt8} (h : b.length ≤ 262144 ∧ sign.isPrefixOf b = true) : opn b = fin (par (b.length + 1) (b.drop 4) []) := by
  rw [opn, if_neg (fun x => x h)]; rfl
theorem opn_bad {b : List UInt8} (h : ¬ (b.length ≤ 262144 ∧ sign.isPrefixOf b = true)) : opn b = (none, 64) := by
  rw [opn, if_pos h]
theorem sign_take (b : List UInt8) (m : Nat) (hm : m = min b.length 4) : sign.isPrefixOf (b.take m) = sign.isPrefixOf b := by
  have h4 : b.take m = b.take 4 := by
    rw [hm]
    by_cases h : b.length ≤ 4
    · rw [Nat.min_eq_left h, List.take_of_length_le h, List.take_of_length_le (Nat.le_refl _)]
    · rw [Nat.min_eq_right (by omega)]
  rw [h4, Bool.eq_iff_iff, List.isPrefixOf_iff_prefix, List.isPrefixOf_iff_prefix, List.prefix_iff_eq_take, List.prefix_iff_eq_take]
  rw [List.take_take]
  exact Iff.rfl
end Ar
open Go Go.RowKit Vc
/-- What Open answers. -/
def OpenR (w : World) (r : Option Tr.T × Int) (e : Ending) (w' : World) : Prop := Ext none_ w w' ∧ (r.1 = none → e = .returned (.tuple #[.slice none 0 0, .int .i64 r.2])) ∧
  ∀ l, r.1 = some l → ∃ v E, e = .returned (.tuple #[v, .int .i64 0]) ∧ w'.ownsRow w.heap.size tF 3 v E.length (E.flatMap fcells) ∧ (∀ x ∈ E, Byts w.heap.size w' x.2.2.1 x.2.2.2) ∧ fm E = l
theorem OpenR.fail {w w' : World} {r : Option Tr.T × Int} {c : Int} (hx : Ext none_ w w') (h : r = (none, c)) : OpenR w r (.returned (.tuple #[.slice none 0 0, .int .i64 c])) w' := by
  subst h
  exact ⟨hx, fun _ => rfl, fun l hl => by cases hl⟩
theorem own_low {w : World} {B C : Nat} {v : Value} {e : TypeId} {sz n : Nat} {xs : List Value} (h : w.ownsRow B e sz v n xs) (hC : C ≤ B) : w.ownsRow C e sz v n xs := by
  obtain ⟨h1, h | ⟨g, cap, cur, a, b, c⟩⟩ := h
  · exact ⟨h1, .inl h⟩
  · exact ⟨h1, .inr ⟨g, cap, cur, a, Nat.le_trans hC b, c⟩⟩
theorem inv_fn {P : Program} {g : FuncId} {cap args : Array Value} {w : World} (hf : FnOk P g) : (invoke (.fn (.func g) cap) args).run P w = .ok (.enter g (args ++ cap)) w := by
  obtain ⟨fn, hfn, hne, hbd⟩ := hf
  have hne' : ¬ fn.name = "runtime.NumGoroutine" := by simpa using hne
  have hbd' : ¬ fn.body = none := by cases h : fn.body with | none => rw [h] at hbd; cases hbd | some c => simp
  simp [invoke, callFunc, program, Sem.run, hfn, hne', hbd']
theorem ok_Open1 : FnOk P 60 := ⟨_, Tryz.func60, by kernel_rfl, by kernel_rfl⟩
theorem ok_AOpen : FnOk P 22 := ⟨_, Tryz.func22, by kernel_rfl, by kernel_rfl⟩
abbrev dOpen (bo be : Nat) : Deferred := { target := .fn (.func 60) #[.pointer (some ⟨bo, 0, none⟩), .pointer (some ⟨be, 0, none⟩)], args := #[] }
section door
variable {fn : Func} {E : Env} {w : World} {bo be n : Nat} {vo : Value} {x c : Int} {R : Ending → World → Prop}
theorem door_pan (hr : fn.results = #[.cell 2 22, .cell 3 32]) (h2 : getE E 2 = some (.pointer (some ⟨bo, 0, none⟩))) (h3 : getE E 3 = some (.pointer (some ⟨be, 0, none⟩)))
    (ho : w.heap[bo]? = some (.cells #[vo] 22 (0, 0))) (he : w.heap[be]? = some (.cells #[.int .i64 x] 32 (0, 0))) (hne : bo ≠ be)
    (k : ∀ w', Ext (fun k => k = bo ∨ k = be) w w' → R (.returned (.tuple #[.slice none 0 0, .int .i64 c])) w') : N [dOpen bo be] n (bodyPostD P fn R (.panic (stop c))) E w := fun a ha => by
  show Leaves P fn a.tmps R a.defers (.panicking (stop c)) w
  rw [ha.1]
  refine leaves_cons (f := 60) (args := #[] ++ #[.pointer (some ⟨bo, 0, none⟩), .pointer (some ⟨be, 0, none⟩)]) (by simp) (inv_fn ok_Open1) ?_
  refine (c_Open1 ho he hne).mono ?_
  rintro e u' w' ⟨rfl, hu, hx, h4, h5⟩
  show Leaves P fn a.tmps R [] (settle u') w'
  rw [hu]
  exact ⟨_, run_results_cc hr (ha.2.2 _ _ h2) (ha.2.2 _ _ h3) ag_files ag_Errno (cell1 h4) (cell1 h5), k w' hx⟩
theorem door_ret (hr : fn.results = #[.cell 2 22, .cell 3 32]) (h2 : getE E 2 = some (.pointer (some ⟨bo, 0, none⟩))) (h3 : getE E 3 = some (.pointer (some ⟨be, 0, none⟩)))
    (ho : w.heap[bo]? = some (.cells #[vo] 22 (0, 0))) (he : w.heap[be]? = some (.cells #[.int .i64 x] 32 (0, 0)))
    (k : R (.returned (.tuple #[vo, .int .i64 x])) w) : N [dOpen bo be] n (bodyPostD P fn R .ret) E w := fun a ha => by
  show Leaves P fn a.tmps R a.defers .returning w
  rw [ha.1]
  refine leaves_cons (f := 60) (args := #[] ++ #[.pointer (some ⟨bo, 0, none⟩), .pointer (some ⟨be, 0, none⟩)]) (by simp) (inv_fn ok_Open1) ?_
  refine c_Open1q.mono ?_
  rintro e u' w' ⟨rfl, rfl, rfl⟩
  show Leaves P fn a.tmps R [] .returning w'
  exact ⟨_, run_results_cc hr (ha.2.2 _ _ h2) (ha.2.2 _ _ h3) ag_files ag_Errno (cell1 ho) (cell1 he), k⟩
end door
theorem ze_filesV : zeroB P 22 = some (.slice none 0 0) := by kernel_rfl

set_option maxHeartbeats 1000000 in
theorem c_AOpen {w : World} {v : Value} {b : List UInt8} (hv : BytA w v b) (hl : b.length ≤ 1000000) : Calls P 22 #[v] w (OpenR w (Ar.opn b)) := by
  obtain ⟨a, c, rfl, hbn, hbm, -, -⟩ := id hv
  refine enterD (l := [_]) (n := 35) Tryz.func22 rfl rfl rfl ?_
  refine W.seq ?_
  refine W.reg <| new ze_filesV rfl <| new ze_Errno rfl <| L.nil ?_
  refine N.th ?_
  obtain ⟨w1, hw1⟩ : ∃ w1, w1 = (w.alloc (.cells (Value.cells (.slice none 0 0)) 22)).alloc (.cells (Value.cells (.int .i64 0)) 32) := ⟨_, rfl⟩
  obtain ⟨bo, hbo⟩ : ∃ bo, bo = w.heap.size := ⟨_, rfl⟩
  obtain ⟨be, hbe⟩ : ∃ be, be = (w.alloc (.cells (Value.cells (.slice none 0 0)) 22)).heap.size := ⟨_, rfl⟩
  have hbe1 : be = bo + 1 := by rw [hbe, hbo]; simp
  have hx1 : Ext none_ w w1 := by rw [hw1]; exact (Ext.alloc none_ _ _).trans (Ext.alloc none_ _ _)
  have ho1 : w1.heap[bo]? = some (.cells #[.slice none 0 0] 22 (0, 0)) := by rw [hw1, hbo]; exact (Ext.alloc none_ _ _).obj (heap_new _ _) id
  have he1 : w1.heap[be]? = some (.cells #[.int .i64 0] 32 (0, 0)) := by rw [hw1, hbe]; exact heap_new _ _
  rw [← hw1, ← hbo, ← hbe]
  have hne : bo ≠ be := by omega
  have hbk : ∀ {S : Nat → Prop} {w' : World}, Ext S w w' → ∀ i, i < w.heap.size → (i = bo ∨ i = be) → none_ i := fun _ i hi h => by omega
  refine W.seq ?_
  refine W.reg <| mkf2 rfl rfl rfl <| dfr rfl <| L.nil ?_
  refine N.th ?_
  have hv1 := hv.ext0 hx1
  have hfail : ∀ {E : Env} {w' : World} {fn : Func} {vo : Value} {x c : Int}, fn.results = #[.cell 2 22, .cell 3 32] → getE E 2 = some (.pointer (some ⟨bo, 0, none⟩)) → getE E 3 = some (.pointer (some ⟨be, 0, none⟩)) → w'.heap[bo]? = some (.cells #[vo] 22 (0, 0)) → w'.heap[be]? = some (.cells #[.int .i64 x] 32 (0, 0)) → Ext none_ w w' → Ar.opn b = (none, c) →
      N [dOpen bo be] 35 (bodyPostD P fn (OpenR w (Ar.opn b)) (.panic (stop c))) E w' := fun hr h2 h3 ho he hx hop => door_pan hr h2 h3 ho he hne fun w'' hx' => OpenR.fail (hx.trans' hx' (hbk hx)) hop
  refine W.seq ?_
  refine W.reg <| mv rfl rfl <| lenV rfl u_bytes rfl <| leqI rfl rfl rfl ?_
  by_cases hlen : b.length ≤ 262144
  case neg =>
    refine Vc.bf (by simp; omega) ?_
    (repeat (first | refine mv rfl rfl ?_ | refine asg rfl rfl ?_ | refine L.off rfl rfl rfl rfl rfl ?_ | refine L.offU rfl rfl rfl rfl ?_ | refine L.on rfl rfl rfl ?_ | refine pickT rfl rfl rfl ?_ | refine pickF rfl rfl rfl ?_ | refine ext rfl rfl rfl ?_ | refine nilc rfl rfl ?_ | refine lenV (t := 46) rfl u_strs rfl ?_ | refine lenV (t := 25) rfl u_bytes rfl ?_ | refine lenV (t := 22) rfl u_files rfl ?_ | refine lenS (t := 9) rfl u_str rfl ?_ | refine eqlI rfl rfl rfl ?_ | refine neqI rfl rfl rfl ?_ | refine lssI rfl rfl rfl ?_ | refine leqI rfl rfl rfl ?_ | refine gtrI rfl rfl rfl ?_ | refine geqI rfl rfl rfl ?_))
    refine callP (vs := [_, .int .i64 64]) rfl rfl ok_must (c_must _ 64 w1) ?_
    rintro e w2 ⟨rfl, rfl⟩
    refine .inr ⟨_, rfl, ?_⟩
    refine fun _ ha => hfail rfl rfl rfl ho1 he1 hx1 ?_ _ ha
    rw [Ar.opn, if_pos (fun h => hlen h.1)]
  refine Vc.bt (by simp; omega) ?_
  obtain ⟨m, hm⟩ : ∃ m, m = min b.length 4 := ⟨_, rfl⟩
  have hmI : (min (b.length : Int) 4) = (m : Int) := by omega
  refine mv rfl rfl <| L.on rfl rfl rfl <| mv rfl rfl <| L.on rfl rfl rfl <| mv rfl rfl <| L.on rfl rfl rfl <| lenV rfl u_bytes rfl <| L.on rfl rfl rfl <| minI rfl rfl rfl ?_
  rw [hmI]
  have hvm : BytA w1 (.slice a m c) (b.take m) := by
    have := RowA.take (m := m) (k := m) hv1 (by omega)
    unfold BytA
    rw [show (b.take m).length = m by rw [List.length_take]; omega, show encB (b.take m) = (encB b).take m by simp [encB]]
    exact this
  refine L.on rfl rfl rfl <| slVh rfl rfl u_bytes el_bytes.szB rfl (by omega) (by omega) <| L.on rfl rfl rfl <| cvtBA (a := b.take m) rfl u_bytes u_u8 u_str rfl (Kn.here hvm) <| L.on rfl rfl rfl <|
    call (vs := [_, .string (S Ar.sign)]) rfl rfl ok_HasPrefix (c_HasPrefix (b.take m) Ar.sign w1) ?_
  rintro e w2 ⟨rfl, rfl⟩
  refine ⟨_, rfl, ?_⟩
  rw [Ar.sign_take b m hm]
  refine pickT rfl rfl rfl <| callP (vs := [_, .int .i64 64]) rfl rfl ok_must (c_must _ 64 w1) ?_
  rintro e w2 ⟨rfl, rfl⟩
  by_cases hsg : Ar.sign.isPrefixOf b = true
  case neg =>
    refine .inr ⟨stop 64, by simp [hsg], ?_⟩
    refine fun _ ha => hfail rfl rfl rfl ho1 he1 hx1 ?_ _ ha
    rw [Ar.opn, if_pos (fun h => hsg h.2)]
  refine .inl ⟨_, if_pos hsg, ?_⟩
  have hb4 : 4 ≤ b.length := by
    have := (List.isPrefixOf_iff_prefix.1 hsg).length_le
    simpa [Ar.sign] using this
  refine L.nil ?_
  refine N.th ?_
  refine W.seq ?_
  have hcut := BytA.cut (k := 4) hv1 hb4
  refine W.reg <| mv rfl rfl <| slVl rfl rfl u_bytes el_bytes.szB rfl (by omega) (by omega) <| bld (vs := #[(0, .slice (if c = 4 then a else a.map (·.add (4 * 1))) (b.length - 4) (c - 4))]) (v := .agg #[.slice (if c = 4 then a else a.map (·.add (4 * 1))) (b.length - 4) (c - 4)]) rfl rfl (fun _ => by kernel_rfl) <| box rfl rfl <| asg rfl rfl <| L.nil ?_
  refine N.th ?_
  obtain ⟨v4, hv4⟩ : ∃ v4, v4 = Value.slice (if c = 4 then a else a.map (·.add (4 * 1))) (b.length - 4) (c - 4) := ⟨_, rfl⟩
  obtain ⟨w2, hw2⟩ : ∃ w2, w2 = w1.alloc (.cells #[Value.slice (if c = 4 then a else a.map (·.add (4 * 1))) (b.length - 4) (c - 4)] tRd) := ⟨_, rfl⟩
  obtain ⟨rb, hrb⟩ : ∃ rb, rb = w1.heap.size := ⟨_, rfl⟩
  refine W.seq ?_
  show W _ _ _ _ _ _ _ _ (w1.alloc (.cells #[Value.slice (if c = 4 then a else a.map (·.add (4 * 1))) (b.length - 4) (c - 4)] tRd))
  rw [← hw2, ← hrb]
  have hx12 : Ext none_ w1 w2 := by rw [hw2]; exact Ext.alloc none_ _ _
  have hrd : RdAt w2 rb v4 (b.drop 4) := ⟨by rw [hw2, hrb, hv4]; exact heap_new _ _, by rw [hv4]; exact hcut.ext0 hx12⟩
  have hs1 := hx1.size
  refine W.reg <| mv rfl rfl <| callP (vs := [_]) rfl rfl ok_all (c_all hrd (by simp; omega)) ?_
  rintro e w3 ⟨hx3, hnone, hsome⟩
  generalize hr : Ar.par ((b.drop 4).length + 1) (b.drop 4) [] = r at hnone hsome
  have hop : Ar.par (b.length + 1) (b.drop 4) [] = r := by rw [← hr]; exact Ar.par_fuel _ _ _ _ (by simp; omega) (by omega)
  have hrlt := lt_of_obj hrd.1
  have hx03 : Ext none_ w w3 := (hx1.trans hx12).trans' hx3 (fun i hi e => by omega)
  have hbl := lt_of_obj he1
  have hx13 : Ext none_ w1 w3 := hx12.trans' hx3 (fun i hi e => by omega)
  have ho3 := hx13.obj ho1 id
  have he3 := hx13.obj he1 id
  have hopn : Ar.opn b = Ar.fin r := by rw [← hop]; exact Ar.opn_fin ⟨hlen, hsg⟩
  obtain ⟨o, c1⟩ := r
  cases o with
  | none =>
    rw [hnone rfl]
    exact .inr ⟨_, rfl, fun _ ha => hfail rfl rfl rfl ho3 he3 hx03 hopn _ ha⟩
  | some l =>
    obtain ⟨v2, K, rfl, hown, hbs, hK⟩ := hsome l rfl
    refine .inl ⟨_, rfl, ?_⟩
    have hFA : FilesA w3 v2 K := ⟨(Row.own hown).arg, hbs⟩
    have hlens : ∀ x ∈ K, x.2.2.2.length ≤ 100000000 := by
      intro x hx
      have hm : fnd x ∈ l := by rw [← hK]; exact List.mem_map_of_mem hx
      rcases Ar.par_len _ _ _ l (by rw [hr]) _ hm with h | h
      · cases h
      · have : x.2.2.2.length ≤ (b.drop 4).length := h
        rw [List.length_drop] at this
        omega
    refine call (vs := [_]) rfl rfl ok_Of (c_Of hFA hlens) ?_
    rintro e w4 ⟨hx4, hnone4, hsome4⟩
    rw [hK] at hnone4 hsome4
    have hx04 := hx03.trans hx4
    have ho4 := hx4.obj ho3 id
    have he4 := hx4.obj he3 id
    have hopn4 : Ar.opn b = match Tr.of l with
        | (none, _) => (none, 64)
        | (some m, _) => (some (Tr.files m), 0) := hopn
    have hxe : ∀ {w' : World} {z : Value}, Ext (fun k => k = be) w' (w'.setCell ⟨be, 0, none⟩ z) := fun {w' z} => Ext.setCell (S := fun k => k = be) _ (fun _ => rfl) _
    have hxo : ∀ {w' : World} {z : Value}, Ext (fun k => k = bo) w' (w'.setCell ⟨bo, 0, none⟩ z) := fun {w' z} => Ext.setCell (S := fun k => k = bo) _ (fun _ => rfl) _
    have hbe0 : ∀ i, i < w.heap.size → i = be → none_ i := fun i hi e => by omega
    have hbo0 : ∀ i, i < w.heap.size → i = bo → none_ i := fun i hi e => by omega
    cases hof : Tr.of l with
    | mk o4 c4 =>
    rw [hof] at hnone4 hsome4 hopn4
    cases o4 with
    | none =>
      rw [hnone4 rfl]
      have hc4 : c4 ≠ 0 := by
        have := Tr.ofF_none l [] [] (by have := congrArg Prod.fst hof; exact this)
        rw [show Tr.ofF [] [] l = (none, c4) from hof] at this
        exact this
      refine ⟨_, rfl, ?_⟩
      refine mv rfl rfl <| ext rfl rfl rfl <| ext (v := .int .i64 c4) rfl rfl rfl <| asg rfl rfl <| st1 rfl rfl sz_Errno rfl he4 rfl <| L.nil ?_
      refine N.th ?_
      refine W.seq ?_
      have he5 := set1 he4 (.int .i64 c4)
      have hx45 := hxe (w' := w4) (z := .int .i64 c4)
      have ho5 := hxe (w' := w4) (z := .int .i64 c4) |>.obj ho4 hne
      generalize w4.setCell ⟨be, 0, none⟩ (.int .i64 c4) = w5 at he5 ho5 hx45 ⊢
      refine W.reg <| ld1 rfl ag_Errno rfl (cell1 he5) <| eqlI rfl rfl rfl <| callP (vs := [_, .int .i64 64]) rfl rfl ok_must (c_must _ 64 w5) ?_
      rintro e w6 ⟨rfl, rfl⟩
      exact .inr ⟨stop 64, by simp [hc4], fun _ ha => hfail rfl rfl rfl ho5 he5 (hx04.trans' hx45 hbe0) hopn4 _ ha⟩
    | some mm =>
      obtain ⟨hokm, bt, bm, rfl, hbt, hbm', hT4⟩ := hsome4 mm rfl
      refine ⟨_, rfl, ?_⟩
      refine mv rfl rfl <| ext rfl rfl rfl <| ext (v := .int .i64 0) rfl rfl rfl <| asg rfl rfl <| st1 rfl rfl sz_Errno rfl he4 rfl <| L.nil ?_
      refine N.th ?_
      refine W.seq ?_
      have he5 := set1 he4 (.int .i64 0)
      have hx45 := hxe (w' := w4) (z := .int .i64 0)
      have ho5 := hxe (w' := w4) (z := .int .i64 0) |>.obj ho4 hne
      generalize w4.setCell ⟨be, 0, none⟩ (.int .i64 0) = w5 at he5 ho5 hx45 ⊢
      have hl3 := lt_of_obj he3
      have hT5 : TreeAt none_ w5 bt bm mm (Tr.size mm) := hT4.ext hx45 (fun k hk c e fr hc => by
        rw [hk, he4] at hc; cases hc; exact ⟨by decide, by decide⟩) (fun e => by omega) (fun e => by omega)
      refine W.reg <| ld1 rfl ag_Errno rfl (cell1 he5) <| eqlI rfl rfl rfl <| callP (vs := [_, .int .i64 64]) rfl rfl ok_must (c_must _ 64 w5) ?_
      rintro e w6 ⟨rfl, rfl⟩
      refine .inl ⟨_, if_pos rfl, ?_⟩
      refine L.nil ?_
      refine N.th ?_
      refine W.seq ?_
      have hml := hokm.len
      have hmb := hokm.bytes
      have hx05 := hx04.trans' hx45 hbe0
      refine W.reg <| mv rfl rfl <| call (vs := [_]) rfl rfl ok_Files (c_Files hT5 (by omega) (by omega)) ?_
      rintro e w6 ⟨v6, E6, rfl, hE6, hown6, hb6, hx56⟩
      refine ⟨_, rfl, ?_⟩
      have ho6 := hx56.obj ho5 id
      have he6 := hx56.obj he5 id
      obtain ⟨-, hone⟩ := own_cells hown6
      refine st1 rfl rfl sz_files hone ho6 rfl ?_
      have ho7 := set1 ho6 v6
      have hx67 := hxo (w' := w6) (z := v6)
      have he7 := hx67.obj he6 (fun e => hne e.symm)
      generalize w6.setCell ⟨bo, 0, none⟩ v6 = w7 at ho7 he7 hx67 ⊢
      refine st1 rfl rfl sz_Errno rfl he7 rfl <| L.nil ?_
      refine N.th ?_
      have he8 := set1 he7 (.int .i64 0)
      have hx78 := hxe (w' := w7) (z := .int .i64 0)
      have ho8 := hx78.obj ho7 hne
      generalize w7.setCell ⟨be, 0, none⟩ (.int .i64 0) = w8 at ho8 he8 hx78 ⊢
      refine W.ret ?_
      have hx08 : Ext none_ w w8 := ((hx05.trans hx56).trans' hx67 hbo0).trans' hx78 hbe0
      have hl5 := lt_of_obj he5
      have hs5 := hx05.size
      have hx68 : Ext (fun k => k = bo ∨ k = be) w6 w8 := (hx67.mono fun _ _ h => .inl h).trans (hx78.mono fun _ _ h => .inr h)
      refine fun _ ha => door_ret rfl rfl rfl ho8 he8 ⟨hx08, fun h => ?_, fun l' hl' => ?_⟩ _ ha
      · rw [hopn4] at h; cases h
      · rw [hopn4] at hl'
        cases hl'
        refine ⟨v6, E6, rfl, own_low (own_ext hown6 hx68 fun k hk => ?_) (by omega), fun x hx => own_low (own_ext (hb6 x hx) hx68 fun k hk => ?_) (by omega), hE6⟩
        · have := own_new hown6 k hk
          rintro (e | e) <;> omega
        · have := own_new (hb6 x hx) k hk
          rintro (e | e) <;> omega
end Go.Proofs.YtmdpmpdlkaogdaaGreatDoor
