/- The calculus' law for a range over a function, and returns behind one. Nothing here speaks of the program. -/
import Derived.Test.YtmdpmpdlkaogdaaGreatDoorVn
namespace Go.Proofs.YtmdpmpdlkaogdaaGreatDoor.Vc
open Go Go.RowKit

/-- What an iterator over xs is: whoever hands it a loop whose rounds do their part is told all of them, in order, unless a round says 'no more'.
    St: what the iterator itself may do to the world between two rounds; Kp: what a round must leave as it was; Pre: what must stand when it begins. -/
def SeqJ {α : Type} (P : Program) (gf : Nat) (lb : Array Value) (enc : α → Value) (Pre : World → Prop) (Kp St : World → World → Prop) (xs : List α) : Prop :=
  ∀ (l : Nat) (J Jx : List α → World → Prop) (W : World), Pre W → (∀ pre A B, J pre A → St A B → J pre B) → (∀ pre A B, Jx pre A → St A B → Jx pre B) →
    (∀ pre x rest W1, xs = pre ++ x :: rest → J pre W1 → YieldAt Fence.wide 0 P l #[enc x] W1 fun e W' =>
      (e = .returned (.bool true) ∧ J (pre ++ [x]) W' ∧ Kp W1 W') ∨ (e = .returned (.bool false) ∧ Jx (pre ++ [x]) W' ∧ Kp W1 W')) →
    J [] W →
    CallsIn Fence.wide 0 P gf (#[.func (.yield l) #[] #[]] ++ lb) W fun e W' => (∃ v, e = .returned v) ∧ (J xs W' ∨ ∃ pre x rest, xs = pre ++ x :: rest ∧ Jx (pre ++ [x]) W')

/-- How a round may be left: D and l are the blocks of the loop's own book-keeping. -/
def roundQ {α : Type} (l : Nat) (Kp : World → World → Prop) (I : List α → World → Prop) (Ix : Code → List α → World → Prop) (xs : List α) (W : World) : Exit → Act → World → Prop
  | .normal, _, W' => (W'.heap[l]? = W.heap[l]? ∧ W'.heap[l - 1]? = W.heap[l - 1]? ∧ Kp W W') ∧ I xs W'
  | .ret, _, W' => (W'.heap[l]? = W.heap[l]? ∧ W'.heap[l - 1]? = W.heap[l - 1]? ∧ Kp W W') ∧ Ix .ret xs W'
  | .exit id, _, W' => (W'.heap[l]? = W.heap[l]? ∧ W'.heap[l - 1]? = W.heap[l - 1]? ∧ Kp W W') ∧ Ix (.exit id) xs W'
  | _, _, _ => False

theorem Ext.putObj {S : Nat → Prop} (w : World) {r : Nat} (hr : S r) (o : Obj) : Ext S w (w.putObj r o) :=
  ⟨rfl, rfl, rfl, by simp [World.putObj], fun k _ hn => World.putObj_heap_other (fun e => hn (by subst e; exact hr))⟩

variable {mm : Nat} {P : Program} {ds : List Deferred} {n : Nat} {Q : Exit → Act → World → Prop} {E : Env} {w : World}

theorem W.range {α : Type} {g : Operand} {t d id : Nat} {ty : TypeId} {pos : String} {af : Array Edge} {body : Code} {gf : Nat} {fn : Func} {lb : Array Value} {enc : α → Value} {Pre : World → Prop} {Kp St : World → World → Prop} {xs : List α}
    (hg : opd E g = some (.func (.func gf) #[] lb)) (ht : Nat.blt t n = true) (hd : Nat.blt d n = true) (hfn : P.funcs[gf]? = some fn) (hne : (fn.name == "runtime.NumGoroutine") = false) (hbd : fn.body.isNone = false)
    (hseq : SeqJ P gf lb enc Pre Kp St xs)
    (hKt : ∀ {A B C : World}, Kp A B → Kp B C → Kp A C) (hKb : ∀ (W : World) (o : Obj), Kp W (W.putObj (w.heap.size + 1) o))
    (hSt : ∀ A B, St A B → w.heap.size + 1 < A.heap.size → B.heap[w.heap.size]? = A.heap[w.heap.size]? ∧ B.heap[w.heap.size + 1]? = A.heap[w.heap.size + 1]?)
    (hpre : ∀ W, Ext none_ w W → Pre W)
    (I : List α → World → Prop) (Ix : Code → List α → World → Prop) (hI : ∀ pre A B, I pre A → St A B → I pre B) (hIx : ∀ c pre A B, Ix c pre A → St A B → Ix c pre B)
    (hIb : ∀ pre A o, I pre A → I pre (A.putObj (w.heap.size + 1) o)) (hIxb : ∀ c pre A o, Ix c pre A → Ix c pre (A.putObj (w.heap.size + 1) o))
    (h0 : ∀ W, Ext none_ w W → W.heap.size = w.heap.size + 2 → I [] W)
    (hbody : ∀ pre x rest W', xs = pre ++ x :: rest → I pre W' → w.heap.size + 2 ≤ W'.heap.size → W (Fence.wide.inRound (w.heap.size + 1)) 0 P [] n body (roundQ (w.heap.size + 1) Kp I Ix (pre ++ [x]) W') ((d, enc x) :: (t, enc x) :: E) W')
    (hdone : ∀ W', I xs W' → W'.heap[w.heap.size]? = some (.deferred (some [])) → N ({ target := .collected w.heap.size, args := #[] } :: ds) n (Q .normal) E W')
    (hstop : ∀ c pre x rest W', xs = pre ++ x :: rest → Ix c (pre ++ [x]) W' → W'.heap[w.heap.size]? = some (.deferred (some [])) → W Fence.wide mm P ({ target := .collected w.heap.size, args := #[] } :: ds) n c Q E W') :
    W Fence.wide mm P ds n (.rangeFunc g #[t] (.region id #[⟨some d, .assign (.tmp t), ty, pos, af, none⟩] false) body) Q E w := by
  intro a ha
  refine wpIn_rangeFunc ?_
  intro fno hfo
  obtain ⟨rec, hrec⟩ : ∃ rec : LoopState → Option Code → Loop, rec = fun st pe => { state := st, pending := pe, fn := fno, tmps := a.tmps, params := #[t], assign := (.region id #[⟨some d, .assign (.tmp t), ty, pos, af, none⟩] false), body, defers := w.heap.size } := ⟨_, rfl⟩
  obtain ⟨W1, hW1⟩ : ∃ W1, (w.alloc (.deferred (some []))).alloc (.loop (rec .ready none)) = W1 := ⟨_, rfl⟩
  have hL1 : W1.heap[w.heap.size + 1]? = some (.loop (rec .ready none)) := by
    rw [← hW1]; have := heap_new (w.alloc (.deferred (some []))) (.loop (rec .ready none)); rwa [World.size_alloc] at this
  have hK1 : W1.heap[w.heap.size]? = some (.deferred (some [])) := by
    rw [← hW1]; exact (heap_alloc _ _ (by simp)).trans (heap_new w _)
  have hE1 : Ext none_ w W1 := by rw [← hW1]; exact (Ext.alloc _ w _).trans (Ext.alloc _ _ _)
  have hS1 : W1.heap.size = w.heap.size + 2 := by rw [← hW1]; simp
  have hev : a.eval g = .func (.func gf) #[] lb := opd_eval ha hg
  have hne' : ¬ fn.name = "runtime.NumGoroutine" := by simpa using hne
  have hbd' : ¬ fn.body = none := by cases h : fn.body with | none => rw [h] at hbd; cases hbd | some c => simp
  refine ⟨w.heap.size + 1, [{ target := .collected w.heap.size, args := #[] }], W1, { target := .fn (.func gf) lb, args := #[.func (.yield (w.heap.size + 1)) #[] #[]] }, W1, gf,
    #[.func (.yield (w.heap.size + 1)) #[] #[]] ++ lb, W1, ?_, ?_, ?_, ?_, (fun h => by cases h), ?_⟩
  · rw [← hW1, hrec]; exact run_enterLoop_outer _ _ _ _ _
  · simp only [resolve, hev]
    simp [Deferred.ofValue, Act.eval]
  · intro f' _; exact trivial
  · simp [invoke, callFunc, program, Sem.run, hfn, hne', hbd']
  · have hKn : Kp W1 W1 → True := fun _ => trivial
    refine (callsIn_n (hseq (w.heap.size + 1)
      (fun pre W => I pre W ∧ W.heap[w.heap.size + 1]? = some (.loop (rec .ready none)) ∧ W.heap[w.heap.size]? = some (.deferred (some [])) ∧ w.heap.size + 2 ≤ W.heap.size)
      (fun pre W => ∃ c, Ix c pre W ∧ W.heap[w.heap.size + 1]? = some (.loop (rec .done (some c))) ∧ W.heap[w.heap.size]? = some (.deferred (some [])))
      W1 (hpre _ hE1) ?_ ?_ ?_ ⟨h0 _ hE1 hS1, hL1, hK1, Nat.le_of_eq hS1.symm⟩)).mono ?_
    · rintro pre A B ⟨hi, hl, hk, hz⟩ hs
      have hlt := (Array.getElem?_eq_some_iff.1 hl).1
      refine ⟨hI _ _ _ hi hs, (hSt _ _ hs hlt).2.trans hl, (hSt _ _ hs hlt).1.trans hk, ?_⟩
      have : w.heap.size + 1 < B.heap.size := (Array.getElem?_eq_some_iff.1 ((hSt _ _ hs hlt).2.trans hl)).1
      omega
    · rintro pre A B ⟨c, hi, hl, hk⟩ hs
      have hlt := (Array.getElem?_eq_some_iff.1 hl).1
      exact ⟨c, hIx _ _ _ _ hi hs, (hSt _ _ hs hlt).2.trans hl, (hSt _ _ hs hlt).1.trans hk⟩
    · rintro pre x rest W ⟨⟩ ⟨hi, hl, hk, hz⟩
      have hlt : w.heap.size + 1 < W.heap.size := (Array.getElem?_eq_some_iff.1 hl).1
      have hy := run_yield (P := P) (args := #[enc x]) hl (by rw [hrec]; rfl)
      rw [hrec] at hy
      refine ⟨fno, _, _, body, hy, roundIn_of_wpIn trivial ?_⟩
      refine wpIn_region_lit (l := [_]) ?_
      have hfit1 : Fits [] n ((t, enc x) :: E) { tmps := Array.foldl (fun tmps (x : Nat × Value) => match x with | (t, a) => tmps.setIfInBounds t a) a.tmps (#[t].zip #[enc x]), defers := [] } := by
        have h1 := (show Fits [] n E { tmps := a.tmps, defers := [] } from ⟨rfl, ha.2.1, ha.2.2⟩).put (v := enc x) ht
        simpa [Act.put] using h1
      refine asg (st := .plain (Fence.wide.inRound (w.heap.size + 1)) 0) (ds := []) (E := (t, enc x) :: E) (v := enc x) (by simp [opd, getE]) hd ?_ _ hfit1
      refine fun a1 ha1 => wpListIn_nil ?_
      refine ⟨_, run_beginRound hl (by rw [hrec]), ?_⟩
      have hl2 : (W.putObj (w.heap.size + 1) (.loop { rec .ready none with state := .busy })).heap[w.heap.size + 1]? = some (.loop { rec .ready none with state := .busy }) := World.putObj_heap_same hlt
      have hk2 : (W.putObj (w.heap.size + 1) (.loop { rec .ready none with state := .busy })).heap[w.heap.size]? = some (.deferred (some [])) := (World.putObj_heap_other (by omega)).trans hk
      have hw2 : Kp W (W.putObj (w.heap.size + 1) (.loop { rec .ready none with state := .busy })) := hKb _ _
      refine wpIn_mono (hbody pre x rest _ rfl (hIb _ _ _ hi) (by simpa [World.putObj] using hz) a1 ha1) ?_
      have fin : ∀ (jump : Option Code) (W3 : World), (W3.heap[w.heap.size + 1]? = (W.putObj (w.heap.size + 1) (.loop { rec .ready none with state := .busy })).heap[w.heap.size + 1]? ∧ W3.heap[w.heap.size + 1 - 1]? = (W.putObj (w.heap.size + 1) (.loop { rec .ready none with state := .busy })).heap[w.heap.size + 1 - 1]?) →
          (Instr.endRound (w.heap.size + 1) jump).run P W3 = .ok (.bool jump.isNone) (W3.putObj (w.heap.size + 1) (.loop (rec (if jump.isNone then .ready else .done) jump))) ∧
          (W3.putObj (w.heap.size + 1) (.loop (rec (if jump.isNone then .ready else .done) jump))).heap[w.heap.size + 1]? = some (.loop (rec (if jump.isNone then .ready else .done) jump)) ∧
          (W3.putObj (w.heap.size + 1) (.loop (rec (if jump.isNone then .ready else .done) jump))).heap[w.heap.size]? = some (.deferred (some [])) ∧ w.heap.size + 2 ≤ (W3.putObj (w.heap.size + 1) (.loop (rec (if jump.isNone then .ready else .done) jump))).heap.size := fun jump W3 hk3 => by
        have hl3 := hk3.1.trans hl2
        have hd3 := hk3.2.trans hk2
        have := run_endRound (P := P) jump hl3
        rw [hrec] at this ⊢
        have hlt3 := (Array.getElem?_eq_some_iff.1 hl3).1
        exact ⟨this, World.putObj_heap_same hlt3, (World.putObj_heap_other (by omega)).trans hd3, by simp [World.putObj]; omega⟩
      rintro e a3 W3 hp
      cases e with
      | normal =>
        obtain ⟨⟨h1, h2, hkp3⟩, hi3⟩ := hp
        obtain ⟨hr, hl4, hk4, hz4⟩ := fin none W3 ⟨h1, h2⟩
        exact ⟨_, _, hr, .inl ⟨rfl, ⟨hIb _ _ _ hi3, hl4, hk4, hz4⟩, hKt (hKt hw2 hkp3) (hKb _ _)⟩⟩
      | ret =>
        obtain ⟨⟨h1, h2, hkp3⟩, hi3⟩ := hp
        obtain ⟨hr, hl4, hk4, _⟩ := fin (some .ret) W3 ⟨h1, h2⟩
        exact ⟨_, _, hr, .inr ⟨rfl, ⟨.ret, hIxb _ _ _ _ hi3, hl4, hk4⟩, hKt (hKt hw2 hkp3) (hKb _ _)⟩⟩
      | exit id =>
        obtain ⟨⟨h1, h2, hkp3⟩, hi3⟩ := hp
        obtain ⟨hr, hl4, hk4, _⟩ := fin (some (.exit id)) W3 ⟨h1, h2⟩
        exact ⟨_, _, hr, .inr ⟨rfl, ⟨.exit id, hIxb _ _ _ _ hi3, hl4, hk4⟩, hKt (hKt hw2 hkp3) (hKb _ _)⟩⟩
      | goto t => exact hp.elim
      | panic ch => exact hp.elim
      | outgrown => exact hp.elim
    · rintro e W2 ⟨⟨v, rfl⟩, (⟨hi, hl, hk, _⟩ | ⟨pre, x, rest, hxs, c, hi, hl, hk⟩)⟩
      · refine ⟨none, _, by have := run_endLoop (P := P) hl (by rw [hrec]; simp); rw [hrec] at this; exact this, ?_⟩
        exact hdone _ (hIb _ _ _ hi) ((World.putObj_heap_other (by omega)).trans hk) _ ⟨by simp [ha.1], ha.2.1, ha.2.2⟩
      · refine ⟨some c, _, by have := run_endLoop (P := P) hl (by rw [hrec]; simp); rw [hrec] at this; exact this, ?_⟩
        exact hstop c pre x rest _ hxs (hIxb _ _ _ _ hi) ((World.putObj_heap_other (by omega)).trans hk) _ ⟨by simp [ha.1], ha.2.1, ha.2.2⟩
where callsIn_n {P : Program} {f : FuncId} {args : Array Value} {w : World} {R : Ending → World → Prop} {m : Nat} (h : CallsIn Fence.wide 0 P f args w R) : CallsIn Fence.wide m P f args w R := callsIn_wide.2 (callsIn_wide.1 h)

/-- A function whose body may hold a range over a function. -/
theorem enterM {P : Program} {f : FuncId} {fn : Func} {c : Code} {l : List Value} {w : World} {R : Ending → World → Prop} {n : Nat} (hf : P.funcs[f]? = some fn) (hb : fn.body = some c) (hn : fn.ntmps = n) (hl : Nat.ble l.length n = true)
    (h : W Fence.wide 0 P [] n c (bodyPostM Fence.wide 0 P fn R) (argE 0 l) w) : Calls P f l.toArray w R := by
  refine callsIn_wide.1 (callsIn_of_wp_marks (n := 0) hf hb trivial (h _ ⟨rfl, ?_, ?_⟩))
  · have : l.length ≤ n := Nat.le_of_ble_eq_true hl
    simp [hn]; omega
  · intro t v hg
    obtain ⟨_, h2⟩ := getE_argE l 0 t v hg
    rw [Nat.sub_zero] at h2
    simp only [Array.getD_eq_getD_getElem?]
    rw [Array.getElem?_append_left (by have := (List.getElem?_eq_some_iff.1 h2).1; simpa using this)]
    simp [h2]

theorem run_results_c2 {fn : Func} {t u b1 b2 : Nat} {tt tu : TypeId} {v1 v2 : Value} {tmps : Array Value} (hr : fn.results = #[.cell t tt, .cell u tu]) (ht : tmps.getD t undef = .pointer (some ⟨b1, 0, none⟩)) (hu : tmps.getD u undef = .pointer (some ⟨b2, 0, none⟩))
    (h1 : aggB P tt = some false) (h2 : aggB P tu = some false) (c1 : w.cell? ⟨b1, 0, none⟩ = some v1) (c2 : w.cell? ⟨b2, 0, none⟩ = some v2) : (results fn tmps).run P w = .ok (.tuple #[v1, v2]) w := by
  simp only [Array.getD_eq_getD_getElem?] at ht hu
  simp [results, hr, ht, hu, asAddr, loadVar, run_isAgg h1, run_isAgg h2, c1, c2]

/-- A return of two results that lie in variables of their own: ahead of the range, and behind it. -/
theorem N.retC2 {fn : Func} {R : Ending → World → Prop} {t u b1 b2 : Nat} {tt tu : TypeId} {v1 v2 : Value} (hr : fn.results = #[.cell t tt, .cell u tu]) (ht : getE E t = some (.pointer (some ⟨b1, 0, none⟩))) (hu : getE E u = some (.pointer (some ⟨b2, 0, none⟩)))
    (h1 : aggB P tt = some false) (h2 : aggB P tu = some false) (c1 : w.cell? ⟨b1, 0, none⟩ = some v1) (c2 : w.cell? ⟨b2, 0, none⟩ = some v2) (h : R (.returned (.tuple #[v1, v2])) w) : N [] n (bodyPostM Fence.wide 0 P fn R .ret) E w := fun a ha => by
  show LeavesInM Fence.wide 0 P fn a.tmps R a.defers .returning w
  rw [ha.1]
  exact ⟨_, run_results_c2 hr (ha.2.2 _ _ ht) (ha.2.2 _ _ hu) h1 h2 c1 c2, h⟩
theorem N.retMC2 {fn : Func} {R : Ending → World → Prop} {t u b1 b2 D : Nat} {tt tu : TypeId} {v1 v2 : Value} (hr : fn.results = #[.cell t tt, .cell u tu]) (ht : getE E t = some (.pointer (some ⟨b1, 0, none⟩))) (hu : getE E u = some (.pointer (some ⟨b2, 0, none⟩)))
    (h1 : aggB P tt = some false) (h2 : aggB P tu = some false) (c1 : w.cell? ⟨b1, 0, none⟩ = some v1) (c2 : w.cell? ⟨b2, 0, none⟩ = some v2) (hD : w.heap[D]? = some (.deferred (some [])))
    (h : R (.returned (.tuple #[v1, v2])) (w.putObj D (.deferred none))) : N [{ target := .collected D, args := #[] }] n (bodyPostM Fence.wide 0 P fn R .ret) E w := fun a ha => by
  show LeavesInM Fence.wide 0 P fn a.tmps R a.defers .returning w
  rw [ha.1]
  refine ⟨by simp, .inl ⟨_, _, rfl, run_takeDeferred hD, ?_⟩⟩
  have hne : ∀ {b : Nat} {v : Value}, w.cell? ⟨b, 0, none⟩ = some v → (w.putObj D (.deferred none)).cell? ⟨b, 0, none⟩ = some v := by
    intro b v hb
    have hbD : b ≠ D := by intro e; subst e; simp [World.cell?, hD] at hb
    rw [← hb]; exact World.cell?_of_block (World.putObj_heap_other hbD)
  exact ⟨_, run_results_c2 hr (ha.2.2 _ _ ht) (ha.2.2 _ _ hu) h1 h2 (hne c1) (hne c2), h⟩

/-- A round: the call of a loop's yield. -/
theorem yieldC {ops : Array Oper} {l : List Oper} {d lp : Nat} {f x : Operand} {tys : Array TypeId} {ty : TypeId} {pos : String} {af : Array Edge} {v : Value} {R : Ending → World → Prop} (hf : opd E f = some (.func (.yield lp) #[] #[])) (hx : opd E x = some v) (hd : Nat.blt d n = true)
    (hy : YieldAt Fence.wide 0 P lp #[v] w R) (k : ∀ e w', R e w' → ∃ u, e = .returned u ∧ L Fence.wide 0 P ds n ops l Q ((d, u) :: E) w') : L Fence.wide 0 P ds n ops (⟨some d, .call ⟨.value f, #[x], tys⟩, ty, pos, af, none⟩ :: l) Q E w := fun a ha =>
  wpListIn_plain rfl fun K hK => by
    obtain ⟨fn, tmps, assign, body, hrun, hr⟩ := hy
    have hrun' : (execOp a.eval ⟨some d, .call ⟨.value f, #[x], tys⟩, ty, pos, af, none⟩).run P w = .ok (.round lp fn tmps assign body) w := by
      simp [execOp, resolve, opd_eval ha hf, opd_eval ha hx, Deferred.ofValue, invoke, hrun]
    refine ⟨about_any _ _ _, ?_⟩
    rw [semAt_value hrun' (by simp), hrun']
    refine ⟨(fun h => by cases h), hr.mono fun e w' hR => ?_⟩
    obtain ⟨v, rfl, hk⟩ := k e w' hR
    exact hK _ _ (hk _ (ha.put hd))
theorem yieldC0 {ops : Array Oper} {l : List Oper} {lp : Nat} {f x : Operand} {tys : Array TypeId} {ty : TypeId} {pos : String} {af : Array Edge} {v : Value} {R : Ending → World → Prop} (hf : opd E f = some (.func (.yield lp) #[] #[])) (hx : opd E x = some v)
    (hy : YieldAt Fence.wide 0 P lp #[v] w R) (k : ∀ e w', R e w' → ∃ u, e = .returned u ∧ L Fence.wide 0 P ds n ops l Q E w') : L Fence.wide 0 P ds n ops (⟨none, .call ⟨.value f, #[x], tys⟩, ty, pos, af, none⟩ :: l) Q E w := fun a ha =>
  wpListIn_plain rfl fun K hK => by
    obtain ⟨fn, tmps, assign, body, hrun, hr⟩ := hy
    have hrun' : (execOp a.eval ⟨none, .call ⟨.value f, #[x], tys⟩, ty, pos, af, none⟩).run P w = .ok (.round lp fn tmps assign body) w := by
      simp [execOp, resolve, opd_eval ha hf, opd_eval ha hx, Deferred.ofValue, invoke, hrun]
    refine ⟨about_any _ _ _, ?_⟩
    rw [semAt_value hrun' (by simp), hrun']
    refine ⟨(fun h => by cases h), hr.mono fun e w' hR => ?_⟩
    obtain ⟨v, rfl, hk⟩ := k e w' hR
    exact hK _ _ (hk _ ha)
end Go.Proofs.YtmdpmpdlkaogdaaGreatDoor.Vc
