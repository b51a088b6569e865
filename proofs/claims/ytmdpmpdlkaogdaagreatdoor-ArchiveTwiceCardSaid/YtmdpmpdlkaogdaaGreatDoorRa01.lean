/- A small calculus of walks: frames are partial lists of slots with their values; one lemma an operation. Nothing here speaks of the program. The calculus' lemmas, one an operation: values, numbers, strings, cells, blocks. Nothing here speaks of the program. The calculus' lemmas on memory: what a world keeps, cells, blocks, slices, append. Nothing here speaks of the program. -/
import Derived.WalkKit
import Derived.WalkSpells
import Derived.WalkLawsBesides
import Derived.RangeFuncFrom
import Derived.RangeFuncCalls
import Derived.RangeFuncLeaves
import Derived.TacticsIn
import Derived.OrdersHeld
import Derived.StillTail
import Derived.Lib.Strings
import Derived.Maps.AppendAt

namespace Go.Proofs.YtmdpmpdlkaogdaaGreatDoor.Vc
open Go Go.RowKit

abbrev Env := List (Nat × Value)

/-- What a list of slots says of slot t: its first entry. -/
def getE : Env → Nat → Option Value
  | [], _ => none
  | (s, v) :: E, t => bif Nat.beq s t then some v else getE E t

/-- A fence that lets every function by, at any depth: the wide one, and a round inside it. -/
class Wd (F : Fence) : Prop where
  fn : ∀ f, F.fn f
  depth : F.depth = none
  calls : ∀ {n : Nat} {P : Program} {f : FuncId} {args : Array Value} {w : World} {R : Ending → World → Prop}, Calls P f args w R → CallsIn F n P f args w R
instance : Wd Fence.wide := ⟨fun _ => trivial, rfl, fun h => callsIn_wide.2 h⟩
instance (l : Nat) : Wd (Fence.wide.inRound l) := ⟨fun _ => trivial, rfl, fun h => CallsIn.inRound l (callsIn_wide.2 h)⟩

/-- A frame of n slots that holds what the list says. -/
def Fits (ds : List Deferred) (n : Nat) (E : Env) (a : Act) : Prop := a.defers = ds ∧ a.tmps.size = n ∧ ∀ t v, getE E t = some v → a.tmps.getD t undef = v

def N (ds : List Deferred) (n : Nat) (K : Act → World → Prop) (E : Env) (w : World) : Prop := ∀ a, Fits ds n E a → K a w
abbrev W (Fe : Fence) (mm : Nat) (P : Program) (ds : List Deferred) (n : Nat) (c : Code) (Q : Exit → Act → World → Prop) (E : Env) (w : World) : Prop := N ds n (c.wpIn Fe mm P Q) E w

/-- Operations that only read (and yield no more than their operands and what they read tell). -/
def rdB (ts : List Nat) (o : Oper) : Bool := match o.op with
  | .move _ | .assign _ | .pick _ _ _ | .nilCheck _ | .binOp _ _ _ _ _ | .unOp _ _ _ | .slice _ _ _ _ _ | .fieldAddr _ _ _ | .field _ _ _ | .indexAddr _ _ _ | .index _ _ _ | .load _ _ | .lookup _ _ _ _ | .extract _ _ => true
  | .convert _ _ _ => ts.contains o.type
  | .call ⟨.builtin .len, _, _⟩ | .call ⟨.builtin .cap, _, _⟩ => true
  | _ => false
/-- No panic is foreseen. -/
def noPanic (Q : Exit → Act → World → Prop) : Exit → Act → World → Prop
  | .panic _, _, _ => False
  | e, a, w => Q e a w
/-- A region whose order is open: whoever reads, reads the same in every world that meets S, which the others keep (but for the last one, where x says so). -/
def wpHeld (ts : List Nat) (x : Bool) (S : World → Prop) (P : Program) (ops : Array Oper) (Q : Exit → Act → World → Prop) : List Oper → Act → World → Prop
  | [], a, w => Q .normal a w
  | o :: l, a, w => (rdB ts o = true ∧ S w ∧ ∃ v, YieldsIf P ops S o v a ∧ wpHeld ts x S P ops Q l (a.put o.dst v) w) ∨
    (rdB ts o = false ∧ if Region.wanted o (yielded ops a.tmps) = true then o.wp P a w (fun a' w' => (S w' ∨ (x = true ∧ l = [])) ∧ wpHeld ts x S P ops Q l a' w') (noPanic Q) else (S w ∨ (x = true ∧ l = [])) ∧ wpHeld ts x S P ops Q l (a.put o.dst undef) w)

/-- How a region's operations are walked: in the text's order, or held. -/
inductive Sty
  | plain (Fe : Fence) (mm : Nat)
  | held (ts : List Nat) (x : Bool) (S : World → Prop)
@[reducible] def Sty.wp : Sty → Program → Array Oper → (Exit → Act → World → Prop) → List Oper → Act → World → Prop
  | .plain Fe mm, P, ops, Q, l, a, w => wpListIn Fe mm P ops Q l a w
  | .held ts x S, P, ops, Q, l, a, w => (S w ∨ (x = true ∧ l = [])) → wpHeld ts x S P ops Q l a w
/-- The worlds that a reader may find. -/
@[reducible] def Sty.sees : Sty → World → World → Prop
  | .plain _ _, w, w' => w' = w
  | .held _ _ S, _, w' => S w'
/-- What an operation has to keep. -/
@[reducible] def Sty.keeps : Sty → List Oper → World → World → Prop
  | .plain _ _, _, _, _ => True
  | .held _ x S, l, w, w' => (x = true ∧ l = []) ∨ (S w → S w')
@[reducible] def Sty.act : Sty → TypeId → Prop
  | .plain _ _, _ => True
  | .held ts _ _, t => ts.contains t = false
class Wy (y : Sty) : Prop where
  ok : match y with | .plain Fe _ => Wd Fe | .held _ _ _ => True
instance {Fe : Fence} {mm : Nat} [h : Wd Fe] : Wy (.plain Fe mm) := ⟨h⟩
instance {ts : List Nat} {x : Bool} {S : World → Prop} : Wy (.held ts x S) := ⟨trivial⟩
abbrev LY (y : Sty) (P : Program) (ds : List Deferred) (n : Nat) (ops : Array Oper) (l : List Oper) (Q : Exit → Act → World → Prop) (E : Env) (w : World) : Prop := N ds n (y.wp P ops Q l) E w
abbrev L (Fe : Fence) (mm : Nat) (P : Program) (ds : List Deferred) (n : Nat) (ops : Array Oper) (l : List Oper) (Q : Exit → Act → World → Prop) (E : Env) (w : World) : Prop := LY (.plain Fe mm) P ds n ops l Q E w
/-- A reader sees it. -/
abbrev Kn (y : Sty) (w : World) (p : World → Prop) : Prop := ∀ w', y.sees w w' → p w'
theorem Kn.here {Fe : Fence} {mm : Nat} {w : World} {p : World → Prop} (h : p w) : Kn (.plain Fe mm) w p := fun _ e => e ▸ h

/-- F says no more than E. -/
def Sub : Env → Env → Prop
  | [], _ => True
  | (t, v) :: F, E => getE E t = some v ∧ Sub F E

theorem Sub.get {F E : Env} (h : Sub F E) {t : Nat} {v : Value} (hg : getE F t = some v) : getE E t = some v := by
  induction F with
  | nil => cases hg
  | cons p F ih =>
    obtain ⟨s, u⟩ := p
    obtain ⟨h1, h2⟩ := h
    simp only [getE] at hg
    cases hb : Nat.beq s t with
    | true =>
      rw [hb] at hg
      obtain rfl : s = t := Nat.eq_of_beq_eq_true hb
      cases hg
      exact h1
    | false => rw [hb] at hg; exact ih h2 hg

theorem Fits.sub {ds : List Deferred} {n : Nat} {E F : Env} {a : Act} (h : Fits ds n E a) (hs : Sub F E) : Fits ds n F a := ⟨h.1, h.2.1, fun t v hg => h.2.2 t v (hs.get hg)⟩

theorem N.sub {ds : List Deferred} {n : Nat} {K : Act → World → Prop} {E F : Env} {w : World} (hs : Sub F E) (h : N ds n K F w) : N ds n K E w := fun a ha => h a (ha.sub hs)

theorem blt_lt {d n : Nat} (h : Nat.blt d n = true) : d < n := Nat.le_of_ble_eq_true h

theorem Fits.put {ds : List Deferred} {n : Nat} {E : Env} {a : Act} {d : Nat} {v : Value} (h : Fits ds n E a) (hd : Nat.blt d n = true) : Fits ds n ((d, v) :: E) (a.put (some d) v) := by
  have hd' : d < n := blt_lt hd
  refine ⟨h.1, ?_, ?_⟩
  · simp [Act.put, h.2.1]
  · intro t u hg
    simp only [getE] at hg
    have hs : a.tmps.size = n := h.2.1
    cases hb : Nat.beq d t with
    | true =>
      rw [hb] at hg
      obtain rfl : d = t := Nat.eq_of_beq_eq_true hb
      cases hg
      simp [Act.put, Array.getD_eq_getD_getElem?, hs, hd']
    | false =>
      rw [hb] at hg
      have hne : d ≠ t := Nat.ne_of_beq_eq_false hb
      have := h.2.2 t u hg
      simp only [Act.put, Array.getD_eq_getD_getElem?, Array.getElem?_setIfInBounds, if_neg hne] at this ⊢
      exact this

theorem Fits.skip {ds : List Deferred} {n : Nat} {E : Env} {a : Act} {v : Value} (h : Fits ds n E a) : Fits ds n E (a.put none v) := h

/-- What an operand holds, as far as the list tells it. -/
def opd (E : Env) : Operand → Option Value
  | .tmp t => getE E t
  | .const v => some v
  | .global g => some (.pointer (some ⟨g, 0, none⟩))
  | .func f => some (.func (.func f) #[] #[])

theorem opd_eval {ds : List Deferred} {n : Nat} {E : Env} {a : Act} (h : Fits ds n E a) {x : Operand} {v : Value} (hx : opd E x = some v) : a.eval x = v := by
  cases x with
  | tmp t => exact h.2.2 t v hx
  | const u => cases hx; rfl
  | global g => cases hx; rfl
  | func f => cases hx; rfl

section entry
def argE : Nat → List Value → Env
  | _, [] => []
  | k, v :: l => (k, v) :: argE (k + 1) l

theorem getE_argE (l : List Value) : ∀ (k t : Nat) (v : Value), getE (argE k l) t = some v → k ≤ t ∧ l[t - k]? = some v := by
  induction l with
  | nil => intro k t v h; cases h
  | cons u l ih =>
    intro k t v h
    simp only [argE, getE] at h
    cases hb : Nat.beq k t with
    | true =>
      rw [hb] at h
      obtain rfl : k = t := Nat.eq_of_beq_eq_true hb
      cases h
      exact ⟨Nat.le_refl _, by simp⟩
    | false =>
      rw [hb] at h
      obtain ⟨h1, h2⟩ := ih _ _ _ h
      refine ⟨by omega, ?_⟩
      rw [show t - k = (t - (k + 1)) + 1 from by omega, List.getElem?_cons_succ]
      exact h2

/-- A call of a function with a body. -/
theorem enter {P : Program} {f : FuncId} {fn : Func} {c : Code} {l : List Value} {w : World} {R : Ending → World → Prop} {n : Nat} (hf : P.funcs[f]? = some fn) (hb : fn.body = some c) (hn : fn.ntmps = n) (hl : Nat.ble l.length n = true)
    (h : W Fence.wide 0 P [] n c (bodyPost P fn R) (argE 0 l) w) : Calls P f l.toArray w R := by
  refine calls_of_wp hf hb (wpIn_wide.1 (h _ ⟨rfl, ?_, ?_⟩))
  · have : l.length ≤ n := Nat.le_of_ble_eq_true hl
    simp [hn]; omega
  · intro t v hg
    obtain ⟨_, h2⟩ := getE_argE l 0 t v hg
    rw [Nat.sub_zero] at h2
    simp only [Array.getD_eq_getD_getElem?]
    rw [Array.getElem?_append_left (by have := (List.getElem?_eq_some_iff.1 h2).1; simpa using this)]
    simp [h2]
end entry

section code
variable {Fe : Fence} {mm : Nat} {P : Program} {ds : List Deferred} {n : Nat} {Q : Exit → Act → World → Prop} {E : Env} {w : World}

theorem W.seq {c d : Code} (h : W Fe mm P ds n c (Exit.then (d.wpIn Fe mm P Q) Q) E w) : W Fe mm P ds n (.seq c d) Q E w := fun a ha => wpIn_seq (h a ha)

/-- A place where ways meet: what the first part leaves, as a predicate of few slots. -/
theorem W.seqM {c d : Code} (M : Env → World → Prop) (h : W Fe mm P ds n c (Exit.then (fun a w => ∃ E, Fits ds n E a ∧ M E w) Q) E w) (k : ∀ E w, M E w → W Fe mm P ds n d Q E w) : W Fe mm P ds n (.seq c d) Q E w :=
  fun a ha => wpIn_seq (wpIn_mono (h a ha) fun e a w q => by
    cases e with
    | normal => obtain ⟨E', hE, hM⟩ := q; exact k E' w hM a hE
    | _ => exact q)

theorem N.meet {M : Env → World → Prop} (E' : Env) (hs : Sub E' E) (h : M E' w) : N ds n (fun a w => ∃ E, Fits ds n E a ∧ M E w) E w := fun _ ha => ⟨E', ha.sub hs, h⟩

theorem W.skip (h : N ds n (Q .normal) E w) : W Fe mm P ds n .skip Q E w := fun a ha => wpIn_skip (h a ha)
theorem W.ret (h : N ds n (Q .ret) E w) : W Fe mm P ds n .ret Q E w := fun a ha => wpIn_ret (h a ha)
theorem W.exit {i : Nat} (h : N ds n (Q (.exit i)) E w) : W Fe mm P ds n (.exit i) Q E w := fun a ha => wpIn_exit (h a ha)
theorem W.label {i : Nat} (h : N ds n (Q .normal) E w) : W Fe mm P ds n (.label i) Q E w := fun a ha => wpIn_label (h a ha)
theorem W.block {i : Nat} {c : Code} (h : W Fe mm P ds n c (Exit.inBlock i Q) E w) : W Fe mm P ds n (.block i c) Q E w := fun a ha => wpIn_block (h a ha)

theorem W.cond {c : Operand} {x y : Code} {t : Bool} (hc : opd E c = some (.bool t)) (ht : t = true → W Fe mm P ds n x Q E w) (hf : t = false → W Fe mm P ds n y Q E w) : W Fe mm P ds n (.cond c x y) Q E w :=
  fun a ha => wpIn_cond_split (opd_eval ha hc) (fun h => ht h a ha) (fun h => hf h a ha)
theorem W.condT {c : Operand} {x y : Code} (hc : opd E c = some (.bool true)) (h : W Fe mm P ds n x Q E w) : W Fe mm P ds n (.cond c x y) Q E w := fun a ha => wpIn_cond_true (opd_eval ha hc) (h a ha)
theorem W.condF {c : Operand} {x y : Code} (hc : opd E c = some (.bool false)) (h : W Fe mm P ds n y Q E w) : W Fe mm P ds n (.cond c x y) Q E w := fun a ha => wpIn_cond_false (opd_eval ha hc) (h a ha)

/-- A region in the text's order. -/
theorem W.reg {id : Nat} {l : List Oper} (h : L Fe mm P ds n l.toArray l Q E w) : W Fe mm P ds n (.region id l.toArray false) Q E w := fun a ha => wpIn_region_lit (h a ha)
theorem L.nil {ops : Array Oper} (h : N ds n (Q .normal) E w) : L Fe mm P ds n ops [] Q E w := h
theorem L.nilH {ops : Array Oper} {ts : List Nat} {x : Bool} {S : World → Prop} (h : N ds n (Q .normal) E w) : LY (.held ts x S) P ds n ops [] Q E w := fun a ha _ => h a ha

-- how an ending passes
variable {K : Act → World → Prop}
theorem N.th (h : N ds n K E w) : N ds n (Exit.then K Q .normal) E w := h
theorem N.inb {i : Nat} (h : N ds n (Q .normal) E w) : N ds n (Exit.inBlock i Q .normal) E w := h
theorem N.rth (h : N ds n (Q .ret) E w) : N ds n (Exit.then K Q .ret) E w := h
theorem N.rinb {i : Nat} (h : N ds n (Q .ret) E w) : N ds n (Exit.inBlock i Q .ret) E w := h
theorem N.xth {i : Nat} (h : N ds n (Q (.exit i)) E w) : N ds n (Exit.then K Q (.exit i)) E w := h
theorem N.xeq {i : Nat} (h : N ds n (Q .normal) E w) : N ds n (Exit.inBlock i Q (.exit i)) E w := fun a ha => by
  show (if i = i then Q .normal a w else Q (.exit i) a w)
  rw [if_pos rfl]; exact h a ha
theorem N.xne {i j : Nat} (hij : Nat.beq i j = false) (h : N ds n (Q (.exit i)) E w) : N ds n (Exit.inBlock j Q (.exit i)) E w := fun a ha => by
  show (if i = j then Q .normal a w else Q (.exit i) a w)
  rw [if_neg (Nat.ne_of_beq_eq_false hij)]; exact h a ha
theorem N.pth {ch : List PanicEntry} (h : N ds n (Q (.panic ch)) E w) : N ds n (Exit.then K Q (.panic ch)) E w := h
theorem N.pinb {i : Nat} {ch : List PanicEntry} (h : N ds n (Q (.panic ch)) E w) : N ds n (Exit.inBlock i Q (.panic ch)) E w := h

/-- A loop: at each round's head the frame fits 'env x' and the world meets 'inv x', for some x; each round lowers the measure. -/
theorem W.loop {X : Type} {c : Code} (env : X → Env) (inv : X → World → Prop) (μ : X → Nat) (x₀ : X) (hs : Sub (env x₀) E) (h₀ : inv x₀ w)
    (round : ∀ x w, inv x w → W Fe mm P ds n c (Exit.then (fun a w => ∃ x', Fits ds n (env x') a ∧ inv x' w ∧ μ x' < μ x) Q) (env x) w) : W Fe mm P ds n (.loop c) Q E w := by
  intro a ha
  classical
  have hleast : ∀ (a : Act) (w : World), (∃ x, Fits ds n (env x) a ∧ inv x w) → ∃ x, (Fits ds n (env x) a ∧ inv x w) ∧ ∀ y, Fits ds n (env y) a ∧ inv y w → μ x ≤ μ y := by
    intro a w ⟨x, hx⟩
    generalize hm : μ x = k
    induction k using Nat.strongRecOn generalizing x with
    | _ k ih =>
      by_cases h : ∃ y, (Fits ds n (env y) a ∧ inv y w) ∧ μ y < k
      · obtain ⟨y, hy, hlt⟩ := h
        exact ih _ hlt y hy rfl
      · exact ⟨x, hx, fun y hy => Nat.le_of_not_lt fun hlt => h ⟨y, hy, hm ▸ hlt⟩⟩
  refine wpIn_loop (fun a w => ∃ x, Fits ds n (env x) a ∧ inv x w) (fun a w => if h : ∃ x, Fits ds n (env x) a ∧ inv x w then μ (Classical.choose (hleast a w h)) else 0) ⟨x₀, ha.sub hs, h₀⟩ ?_
  intro a w hI
  obtain ⟨⟨hf, hi⟩, hmin⟩ := Classical.choose_spec (hleast a w hI)
  refine wpIn_mono (round _ w hi a hf) fun e a' w' q => ?_
  cases e with
  | normal =>
    obtain ⟨x', hf', hi', hlt⟩ := q
    have hI' : ∃ x, Fits ds n (env x) a' ∧ inv x w' := ⟨x', hf', hi'⟩
    refine ⟨hI', ?_⟩
    simp only [dif_pos hI, dif_pos hI']
    exact Nat.lt_of_le_of_lt ((Classical.choose_spec (hleast a' w' hI')).2 x' ⟨hf', hi'⟩) hlt
  | _ => exact q

/-- A round's end. -/
theorem N.round {X : Type} {env : X → Env} {inv : X → World → Prop} {μ : X → Nat} {m : Nat} (x : X) (hs : Sub (env x) E) (hi : inv x w) (hm : μ x < m) : N ds n (fun a w => ∃ x', Fits ds n (env x') a ∧ inv x' w ∧ μ x' < m) E w :=
  fun _ ha => ⟨x, ha.sub hs, hi, hm⟩

-- returns
theorem N.ret0 {fn : Func} {R : Ending → World → Prop} (hr : fn.results = #[]) (h : R (.returned (.tuple #[])) w) : N [] n (bodyPost P fn R .ret) E w := fun _ ha => bodyPost_ret (results_none hr _ _ _) ha.1 h
theorem N.end0 {fn : Func} {R : Ending → World → Prop} (hr : fn.results = #[]) (h : R (.returned (.tuple #[])) w) : N [] n (bodyPost P fn R .normal) E w := fun _ ha => bodyPost_end (results_none hr _ _ _) ha.1 h
theorem N.ret1 {fn : Func} {R : Ending → World → Prop} {t : Nat} {v : Value} (hr : fn.results = #[.tmp t]) (hv : getE E t = some v) (h : R (.returned v) w) : N [] n (bodyPost P fn R .ret) E w :=
  fun _ ha => bodyPost_ret (results_tmp hr _ _ _) ha.1 (by rw [ha.2.2 t v hv]; exact h)
theorem N.ret2 {fn : Func} {R : Ending → World → Prop} {t u : Nat} {v x : Value} (hr : fn.results = #[.tmp t, .tmp u]) (hv : getE E t = some v) (hx : getE E u = some x) (h : R (.returned (.tuple #[v, x])) w) : N [] n (bodyPost P fn R .ret) E w :=
  fun _ ha => bodyPost_ret (results_tmp2 hr _ _ _) ha.1 (by rw [ha.2.2 t v hv, ha.2.2 u x hx]; exact h)
end code

section ops
variable {y : Sty} [Wy y] {P : Program} {ds : List Deferred} {n : Nat} {Q : Exit → Act → World → Prop} {E : Env} {w : World} {ops : Array Oper} {l : List Oper}

/-- An operation that gives a value, or none, is no 'defer'. -/
theorem semAt_value {r : Option Nat} {ρ : Operand → Value} {o : Oper} {w w' : World} {x : Next} (h : (execOp ρ o).run P w = .ok x w') (hx : ∀ d, x ≠ .defer d) : o.semAt r ρ = execOp ρ o := by
  cases r with
  | none => exact Oper.semAt_none _ _
  | some l =>
    refine Oper.semAt_some l ρ o fun c hc => ?_
    simp only [execOp, hc, Sem.run_bind] at h
    cases hr : (resolve ρ c o.type).run P w with
    | ok d w1 => rw [hr] at h; simp at h; exact hx d h.1.symm
    | halt e w1 => rw [hr] at h; cases h
theorem about_any {Fe : Fence} [Wd Fe] (o : Oper) (w : World) (ρ : Operand → Value) : ∀ f, o.about P w ρ = some f → Fe.fn f := fun f _ => Wd.fn f

theorem held_now {x : Bool} {S : World → Prop} {w : World} {o : Oper} {l : List Oper} (h : S w ∨ (x = true ∧ o :: l = [])) : S w := h.resolve_right fun h => by cases h.2

/-- A reader. -/
theorem LY.rd {d : Nat} {op : Op} {ty : TypeId} {pos : String} {af : Array Edge} (v : Value) (hd : Nat.blt d n = true)
    (h : ∀ a, Fits ds n E a → ∀ w', y.sees w w' → (execOp a.eval ⟨some d, op, ty, pos, af, none⟩).run P w' = .ok (.value v) w') (k : LY y P ds n ops l Q ((d, v) :: E) w) : LY y P ds n ops (⟨some d, op, ty, pos, af, none⟩ :: l) Q E w := fun a ha => by
  cases y with
  | plain Fe mm =>
    have : Wd Fe := (inferInstance : Wy (.plain Fe mm)).ok
    exact wpListIn_plain rfl fun K hK => by
      refine ⟨about_any _ _ _, ?_⟩
      rw [semAt_value (h a ha w rfl) (by simp), h a ha w rfl]
      exact hK _ _ (k _ (ha.put hd))
  | held ts x S =>
    intro hs
    have hw : Region.wanted (⟨some d, op, ty, pos, af, none⟩ : Oper) (yielded ops a.tmps) = true := rfl
    unfold wpHeld
    cases hr : rdB ts ⟨some d, op, ty, pos, af, none⟩ with
    | true => exact .inl ⟨rfl, held_now hs, v, .inl ⟨hw, fun w' hw' => h a ha w' hw'⟩, k _ (ha.put hd) (.inl (held_now hs))⟩
    | false =>
      refine .inr ⟨rfl, ?_⟩
      rw [if_pos hw]
      unfold Oper.wp
      rw [h a ha w (held_now hs)]
      exact ⟨.inl (held_now hs), k _ (ha.put hd) (.inl (held_now hs))⟩

/-- An operation that gives a value and turns the world. -/
theorem LY.val {d : Nat} {op : Op} {ty : TypeId} {pos : String} {af : Array Edge} (v : Value) (w' : World) (hd : Nat.blt d n = true)
    (h : ∀ a, Fits ds n E a → (execOp a.eval ⟨some d, op, ty, pos, af, none⟩).run P w = .ok (.value v) w') (k : LY y P ds n ops l Q ((d, v) :: E) w')
    (hy : ∀ ts x S, y = .held ts x S → rdB ts ⟨some d, op, ty, pos, af, none⟩ = false) (hk : y.keeps l w w') : LY y P ds n ops (⟨some d, op, ty, pos, af, none⟩ :: l) Q E w := fun a ha => by
  cases y with
  | plain Fe mm =>
    have : Wd Fe := (inferInstance : Wy (.plain Fe mm)).ok
    exact wpListIn_plain rfl fun K hK => by
      refine ⟨about_any _ _ _, ?_⟩
      rw [semAt_value (h a ha) (by simp), h a ha]
      exact hK _ _ (k _ (ha.put hd))
  | held ts x S =>
    intro hs
    have hw : Region.wanted (⟨some d, op, ty, pos, af, none⟩ : Oper) (yielded ops a.tmps) = true := rfl
    unfold wpHeld
    refine .inr ⟨hy ts x S rfl, ?_⟩
    have hs' : S w' ∨ (x = true ∧ l = []) := hk.elim .inr fun hk => .inl (hk (held_now hs))
    rw [if_pos hw]
    unfold Oper.wp
    rw [h a ha]
    exact ⟨hs', k _ (ha.put hd) hs'⟩

/-- An operation that gives none. -/
theorem LY.act {op : Op} {ty : TypeId} {pos : String} {af : Array Edge} (w' : World)
    (h : ∀ a, Fits ds n E a → (execOp a.eval ⟨none, op, ty, pos, af, none⟩).run P w = .ok .skip w') (k : LY y P ds n ops l Q E w')
    (hy : ∀ ts x S, y = .held ts x S → rdB ts ⟨none, op, ty, pos, af, none⟩ = false) (hk : y.keeps l w w') : LY y P ds n ops (⟨none, op, ty, pos, af, none⟩ :: l) Q E w := fun a ha => by
  cases y with
  | plain Fe mm =>
    have : Wd Fe := (inferInstance : Wy (.plain Fe mm)).ok
    exact wpListIn_plain rfl fun K hK => by
      refine ⟨about_any _ _ _, ?_⟩
      rw [semAt_value (h a ha) (by simp), h a ha]
      exact hK _ _ (k _ ha)
  | held ts x S =>
    intro hs
    have hw : Region.wanted (⟨none, op, ty, pos, af, none⟩ : Oper) (yielded ops a.tmps) = true := rfl
    unfold wpHeld
    refine .inr ⟨hy ts x S rfl, ?_⟩
    have hs' : S w' ∨ (x = true ∧ l = []) := hk.elim .inr fun hk => .inl (hk (held_now hs))
    rw [if_pos hw]
    unfold Oper.wp
    rw [h a ha]
    exact ⟨hs', k _ ha hs'⟩

/-- A value that nobody takes. -/
theorem LY.drop {op : Op} {ty : TypeId} {pos : String} {af : Array Edge} (v : Value) (w' : World)
    (h : ∀ a, Fits ds n E a → (execOp a.eval ⟨none, op, ty, pos, af, none⟩).run P w = .ok (.value v) w') (k : LY y P ds n ops l Q E w')
    (hy : ∀ ts x S, y = .held ts x S → rdB ts ⟨none, op, ty, pos, af, none⟩ = false) (hk : y.keeps l w w') : LY y P ds n ops (⟨none, op, ty, pos, af, none⟩ :: l) Q E w := fun a ha => by
  cases y with
  | plain Fe mm =>
    have : Wd Fe := (inferInstance : Wy (.plain Fe mm)).ok
    exact wpListIn_plain rfl fun K hK => by
      refine ⟨about_any _ _ _, ?_⟩
      rw [semAt_value (h a ha) (by simp), h a ha]
      exact hK _ _ (k _ ha)
  | held ts x S =>
    intro hs
    have hw : Region.wanted (⟨none, op, ty, pos, af, none⟩ : Oper) (yielded ops a.tmps) = true := rfl
    unfold wpHeld
    refine .inr ⟨hy ts x S rfl, ?_⟩
    have hs' : S w' ∨ (x = true ∧ l = []) := hk.elim .inr fun hk => .inl (hk (held_now hs))
    rw [if_pos hw]
    unfold Oper.wp
    rw [h a ha]
    exact ⟨hs', k _ ha hs'⟩

theorem L.val {Fe : Fence} [Wd Fe] {mm : Nat} {d : Nat} {op : Op} {ty : TypeId} {pos : String} {af : Array Edge} (v : Value) (w' : World) (hd : Nat.blt d n = true)
    (h : ∀ a, Fits ds n E a → (execOp a.eval ⟨some d, op, ty, pos, af, none⟩).run P w = .ok (.value v) w') (k : L Fe mm P ds n ops l Q ((d, v) :: E) w') : L Fe mm P ds n ops (⟨some d, op, ty, pos, af, none⟩ :: l) Q E w :=
  LY.val v w' hd h k (fun _ _ _ h => by cases h) trivial

theorem wanted_on {ds : List Deferred} {a : Act} (ha : Fits ds n E a) {d : Option Nat} {op : Op} {ty : TypeId} {pos : String} {af : Array Edge} {j t : Nat} {b c : Bool} (hj : (ops[j]?).bind (·.dst) = some t) (hv : getE E t = some (.bool c)) (ht : Nat.blt t n = true) :
    Region.wanted ⟨d, op, ty, pos, af, some (j, b)⟩ (yielded ops a.tmps) = (c == b) := by
  have hg := ha.2.2 t _ hv
  have hlt : t < a.tmps.size := by rw [ha.2.1]; exact blt_lt ht
  simp only [Array.getD_eq_getD_getElem?, Array.getElem?_eq_getElem hlt, Option.getD_some] at hg
  simp only [Region.wanted, yielded, hj, Option.bind_some, Array.getElem?_eq_getElem hlt, hg]
  cases b <;> cases c <;> decide

omit [Wy y] in
/-- A guard that says yes, and one that says no. -/
theorem L.on {d : Option Nat} {op : Op} {ty : TypeId} {pos : String} {af : Array Edge} {j t : Nat} {b : Bool} (hj : (ops[j]?).bind (·.dst) = some t) (hv : getE E t = some (.bool b)) (ht : Nat.blt t n = true)
    (k : LY y P ds n ops (⟨d, op, ty, pos, af, none⟩ :: l) Q E w) : LY y P ds n ops (⟨d, op, ty, pos, af, some (j, b)⟩ :: l) Q E w := fun a ha => by
  have h := k a ha
  have hw : Region.wanted ⟨d, op, ty, pos, af, some (j, b)⟩ (yielded ops a.tmps) = true := by rw [wanted_on ha hj hv ht]; simp
  cases y with
  | plain Fe mm =>
    show wpListIn Fe mm P ops Q _ a w
    have h : wpListIn Fe mm P ops Q _ a w := h
    unfold wpListIn at h ⊢
    rw [if_pos hw]
    rw [if_pos (show Region.wanted ⟨d, op, ty, pos, af, none⟩ (yielded ops a.tmps) = true from rfl)] at h
    exact h
  | held ts x S =>
    intro hs
    have h := h (.inl (held_now hs))
    unfold wpHeld at h ⊢
    rcases h with ⟨h1, hS, v, h2, h3⟩ | ⟨h1, h2⟩
    · refine .inl ⟨h1, hS, v, ?_, h3⟩
      rcases h2 with ⟨_, h2⟩ | ⟨h2, _⟩
      · exact .inl ⟨hw, h2⟩
      · cases h2
    · refine .inr ⟨h1, ?_⟩
      rw [if_pos hw]
      rw [if_pos (show Region.wanted ⟨d, op, ty, pos, af, none⟩ (yielded ops a.tmps) = true from rfl)] at h2
      exact h2
theorem L.off {d : Nat} {op : Op} {ty : TypeId} {pos : String} {af : Array Edge} {j t : Nat} {b c : Bool} (hj : (ops[j]?).bind (·.dst) = some t) (hv : getE E t = some (.bool c)) (hbc : (c == b) = false) (ht : Nat.blt t n = true) (hd : Nat.blt d n = true)
    (k : LY y P ds n ops l Q ((d, undef) :: E) w) : LY y P ds n ops (⟨some d, op, ty, pos, af, some (j, b)⟩ :: l) Q E w := fun a ha => by
  have h := k _ (ha.put hd)
  have hw : Region.wanted ⟨some d, op, ty, pos, af, some (j, b)⟩ (yielded ops a.tmps) = false := by rw [wanted_on ha hj hv ht]; exact hbc
  cases y with
  | plain Fe mm =>
    have : Wd Fe := (inferInstance : Wy (.plain Fe mm)).ok
    show wpListIn Fe mm P ops Q _ a w
    unfold wpListIn
    rw [if_neg (by simp [hw])]
    exact ⟨about_any _ _ _, h⟩
  | held ts x S =>
    intro hs
    unfold wpHeld
    cases hr : rdB ts ⟨some d, op, ty, pos, af, some (j, b)⟩ with
    | true => exact .inl ⟨rfl, held_now hs, undef, .inr ⟨hw, rfl⟩, h (.inl (held_now hs))⟩
    | false =>
      refine .inr ⟨rfl, ?_⟩
      rw [if_neg (by simp [hw])]
      exact ⟨.inl (held_now hs), h (.inl (held_now hs))⟩

/-- A guard that was itself left out. -/
theorem L.offU {d : Nat} {op : Op} {ty : TypeId} {pos : String} {af : Array Edge} {j t : Nat} {b : Bool} (hj : (ops[j]?).bind (·.dst) = some t) (hv : getE E t = some undef) (ht : Nat.blt t n = true) (hd : Nat.blt d n = true)
    (k : LY y P ds n ops l Q ((d, undef) :: E) w) : LY y P ds n ops (⟨some d, op, ty, pos, af, some (j, b)⟩ :: l) Q E w := fun a ha => by
  have h := k _ (ha.put hd)
  have hw : Region.wanted ⟨some d, op, ty, pos, af, some (j, b)⟩ (yielded ops a.tmps) = false := by
    have hg := ha.2.2 t _ hv
    have hlt : t < a.tmps.size := by rw [ha.2.1]; exact blt_lt ht
    simp only [Array.getD_eq_getD_getElem?, Array.getElem?_eq_getElem hlt, Option.getD_some] at hg
    simp only [Region.wanted, yielded, hj, Option.bind_some, Array.getElem?_eq_getElem hlt, hg]
    rfl
  cases y with
  | plain Fe mm =>
    have : Wd Fe := (inferInstance : Wy (.plain Fe mm)).ok
    show wpListIn Fe mm P ops Q _ a w
    unfold wpListIn
    rw [if_neg (by simp [hw])]
    exact ⟨about_any _ _ _, h⟩
  | held ts x S =>
    intro hs
    unfold wpHeld
    cases hr : rdB ts ⟨some d, op, ty, pos, af, some (j, b)⟩ with
    | true => exact .inl ⟨rfl, held_now hs, undef, .inr ⟨hw, rfl⟩, h (.inl (held_now hs))⟩
    | false =>
      refine .inr ⟨rfl, ?_⟩
      rw [if_neg (by simp [hw])]
      exact ⟨.inl (held_now hs), h (.inl (held_now hs))⟩

theorem evals {a : Act} {ds : List Deferred} (ha : Fits ds n E a) {args : Array Operand} {vs : List Value} (hargs : args.toList.map (opd E) = vs.map some) : args.map a.eval = vs.toArray := by
  have : ∀ (xs : List Operand) (vs : List Value), xs.map (opd E) = vs.map some → xs.map a.eval = vs := by
    intro xs
    induction xs with
    | nil => intro vs h; cases vs with | nil => rfl | cons _ _ => cases h
    | cons x xs ih =>
      intro vs h
      cases vs with
      | nil => cases h
      | cons v vs =>
        simp only [List.map_cons, List.cons.injEq] at h ⊢
        exact ⟨opd_eval ha h.1, ih vs h.2⟩
  apply Array.ext'
  simpa using this _ _ hargs

/-- A call of a Go function, by its contract. -/
theorem L.call {d : Option Nat} {f : Operand} {args : Array Operand} {tys : Array TypeId} {ty : TypeId} {pos : String} {af : Array Edge} {g : FuncId} {fn : Func} {cap : Array Value} {vs : List Value} {R : Ending → World → Prop}
    (hf : opd E f = some (.func (.func g) #[] cap)) (hfn : P.funcs[g]? = some fn) (hne : (fn.name == "runtime.NumGoroutine") = false) (hbd : fn.body.isNone = false)
    (hargs : args.toList.map (opd E) = vs.map some) (hc : Calls P g (vs ++ cap.toList).toArray w R)
    (k : ∀ e w', R e w' → ∃ v, e = .returned v ∧ y.keeps l w w' ∧ (∀ a, Fits ds n E a → y.wp P ops Q l (a.put d v) w')) : LY y P ds n ops (⟨d, .call ⟨.value f, args, tys⟩, ty, pos, af, none⟩ :: l) Q E w := fun a ha => by
  have he : args.map a.eval = vs.toArray := evals ha hargs
  have hrun : (execOp a.eval ⟨d, .call ⟨.value f, args, tys⟩, ty, pos, af, none⟩).run P w = .ok (.enter g (vs ++ cap.toList).toArray) w := by
    have hne' : ¬ fn.name = "runtime.NumGoroutine" := by simpa using hne
    have hbd' : ¬ fn.body = none := by cases h : fn.body with | none => rw [h] at hbd; cases hbd | some c => simp
    have hap : vs.toArray ++ cap = (vs ++ cap.toList).toArray := by apply Array.ext'; simp
    simp [execOp, resolve, opd_eval ha hf, Deferred.ofValue, he, invoke, callFunc, program, Sem.run, hfn, hne', hbd', hap]
  cases y with
  | plain Fe mm =>
    have : Wd Fe := (inferInstance : Wy (.plain Fe mm)).ok
    exact wpListIn_plain rfl fun K hK => by
      refine ⟨about_any _ _ _, ?_⟩
      rw [semAt_value hrun (by simp), hrun]
      refine ⟨(fun h => by rw [Wd.depth] at h; cases h), Wd.calls (hc.mono fun e w' hR => ?_)⟩
      obtain ⟨v, rfl, _, hk⟩ := k e w' hR
      exact hK _ _ (hk a ha)
  | held ts x S =>
    intro hs
    unfold wpHeld
    refine .inr ⟨rfl, ?_⟩
    rw [if_pos (show Region.wanted (⟨d, .call ⟨.value f, args, tys⟩, ty, pos, af, none⟩ : Oper) (yielded ops a.tmps) = true from rfl)]
    unfold Oper.wp
    rw [hrun]
    refine hc.mono fun e w' hR => ?_
    obtain ⟨v, rfl, hkp, hk⟩ := k e w' hR
    have hs' : S w' ∨ (x = true ∧ l = []) := hkp.elim .inr fun hk => .inl (hk (held_now hs))
    exact ⟨hs', hk a ha hs'⟩

/-- Function g has a body and is none of the run-time's own. -/
def FnOk (P : Program) (g : FuncId) : Prop := ∃ fn, P.funcs[g]? = some fn ∧ (fn.name == "runtime.NumGoroutine") = false ∧ fn.body.isNone = false

theorem L.callV {d : Nat} {f : Operand} {args : Array Operand} {tys : Array TypeId} {ty : TypeId} {pos : String} {af : Array Edge} {g : FuncId} {fn : Func} {cap : Array Value} {vs : List Value} {R : Ending → World → Prop} {Fe : Fence} [Wd Fe] {mm : Nat}
    (hf : opd E f = some (.func (.func g) #[] cap)) (hargs : args.toList.map (opd E) = vs.map some) (hd : Nat.blt d n = true) (hfn : P.funcs[g]? = some fn) (hne : (fn.name == "runtime.NumGoroutine") = false) (hbd : fn.body.isNone = false)
    (hc : Calls P g (vs ++ cap.toList).toArray w R)
    (k : ∀ e w', R e w' → ∃ v, e = .returned v ∧ L Fe mm P ds n ops l Q ((d, v) :: E) w') : L Fe mm P ds n ops (⟨some d, .call ⟨.value f, args, tys⟩, ty, pos, af, none⟩ :: l) Q E w :=
  L.call hf hfn hne hbd hargs hc fun e w' h => let ⟨v, e, hk⟩ := k e w' h; ⟨v, e, trivial, fun _ ha => hk _ (ha.put hd)⟩

/-- A call of a named function. -/
theorem call {d : Nat} {g : FuncId} {args : Array Operand} {tys : Array TypeId} {ty : TypeId} {pos : String} {af : Array Edge} {vs : List Value} {R : Ending → World → Prop} {Fe : Fence} [Wd Fe] {mm : Nat}
    (hargs : args.toList.map (opd E) = vs.map some) (hd : Nat.blt d n = true) (hf : FnOk P g) (hc : Calls P g vs.toArray w R)
    (k : ∀ e w', R e w' → ∃ v, e = .returned v ∧ L Fe mm P ds n ops l Q ((d, v) :: E) w') : L Fe mm P ds n ops (⟨some d, .call ⟨.value (.func g), args, tys⟩, ty, pos, af, none⟩ :: l) Q E w :=
  let ⟨_, h1, h2, h3⟩ := hf
  L.callV (cap := #[]) rfl hargs hd h1 h2 h3 (by simpa using hc) k
theorem call0 {g : FuncId} {args : Array Operand} {tys : Array TypeId} {ty : TypeId} {pos : String} {af : Array Edge} {vs : List Value} {R : Ending → World → Prop} {Fe : Fence} [Wd Fe] {mm : Nat}
    (hargs : args.toList.map (opd E) = vs.map some) (hf : FnOk P g) (hc : Calls P g vs.toArray w R)
    (k : ∀ e w', R e w' → ∃ v, e = .returned v ∧ L Fe mm P ds n ops l Q E w') : L Fe mm P ds n ops (⟨none, .call ⟨.value (.func g), args, tys⟩, ty, pos, af, none⟩ :: l) Q E w :=
  let ⟨_, h1, h2, h3⟩ := hf
  L.call (cap := #[]) rfl h1 h2 h3 hargs (by simpa using hc) fun e w' h => let ⟨v, e, hk⟩ := k e w' h; ⟨v, e, trivial, fun _ ha => hk _ ha⟩
/-- A call in a held region. -/
theorem callH {ts : List Nat} {x : Bool} {S : World → Prop} {d : Nat} {g : FuncId} {args : Array Operand} {tys : Array TypeId} {ty : TypeId} {pos : String} {af : Array Edge} {vs : List Value} {R : Ending → World → Prop}
    (hargs : args.toList.map (opd E) = vs.map some) (hd : Nat.blt d n = true) (hf : FnOk P g) (hc : Calls P g vs.toArray w R)
    (k : ∀ e w', R e w' → ∃ v, e = .returned v ∧ ((x = true ∧ l = []) ∨ (S w → S w')) ∧ LY (.held ts x S) P ds n ops l Q ((d, v) :: E) w') : LY (.held ts x S) P ds n ops (⟨some d, .call ⟨.value (.func g), args, tys⟩, ty, pos, af, none⟩ :: l) Q E w :=
  let ⟨_, h1, h2, h3⟩ := hf
  L.call (y := .held ts x S) (cap := #[]) rfl h1 h2 h3 hargs (by simpa using hc) fun e w' h => let ⟨v, e, hs, hk⟩ := k e w' h; ⟨v, e, hs, fun _ ha => hk _ (ha.put hd)⟩
end ops

section held
variable {P : Program} {ops : Array Oper} {Q : Exit → Act → World → Prop} {S : World → Prop} {x : Bool}

/-- Whatever order is picked; S holds behind every operation, but for the last one where x says so. -/
def wpAnyG (x : Bool) (P : Program) (ops : Array Oper) (Q : Exit → Act → World → Prop) (S : World → Prop) : Nat → Array Bool → Act → World → Prop
  | 0, listed, a, w => Region.ready .any ops listed = [] ∧ Q .normal a w
  | fuel + 1, listed, a, w =>
    (Region.ready .any ops listed = [] → Q .normal a w) ∧
    ∀ i ∈ Region.ready .any ops listed, wpOp P ops Q i (fun a' w' => (S w' ∨ (x = true ∧ i + 1 = ops.size)) ∧ wpAnyG x P ops Q S fuel (listed.setIfInBounds i true) a' w') a w

theorem wpAny_of_G : ∀ (fuel : Nat) (listed : Array Bool) (a : Act) (w : World), wpAnyG x P ops Q S fuel listed a w → wpAny P .any ops Q fuel listed a w
  | 0, _, _, _, h => h
  | fuel + 1, _, _, _, h => ⟨h.1, fun i hi => wpOp_mono (fun a' w' h' => wpAny_of_G fuel _ a' w' h'.2) (h.2 i hi)⟩

/-- Nobody reads behind the last one. -/
structure Lasts (x : Bool) (ops : Array Oper) (listed : Array Bool) : Prop where
  sink : x = true → Region.sinkB .any ops (ops.size - 1) = true
  size : listed.size = ops.size
  closed : ∀ j oj, ops[j]? = some oj → listed.getD j false = true → ∀ e ∈ oj.after, Region.binds .any e = true → listed.getD e.on false = true

theorem Lasts.set {i : Nat} {listed : Array Bool} (inv : Lasts x ops listed) (hi : i ∈ Region.ready .any ops listed) : Lasts x ops (listed.setIfInBounds i true) := by
  obtain ⟨_, oi, hoi, hall⟩ := mem_ready.1 hi
  refine ⟨inv.sink, by simp [inv.size], fun j oj hj hl e he hb => ?_⟩
  by_cases hij : i = j
  · subst hij
    have : oj = oi := Option.some.inj (hj.symm.trans hoi)
    subst this
    exact getD_set_true (hall e he hb)
  · rw [getD_set_ne false hij] at hl
    exact getD_set_true (inv.closed j oj hj hl e he hb)

theorem Lasts.not {listed : Array Bool} (inv : Lasts x ops listed) (hx : x = true) : ∀ (d i : Nat), ops.size - i = d → i + 1 < ops.size → listed.getD i true = false → ops.size - 1 ∉ Region.ready .any ops listed := by
  intro d
  induction d using Nat.strongRecOn with
  | _ d ih =>
    intro i hd hi hun hr
    obtain ⟨_, ot, hot, hall⟩ := mem_ready.1 hr
    have h1 := List.all_eq_true.1 (inv.sink hx) i (List.mem_range.2 (by omega))
    obtain ⟨j, hj, hj2⟩ := List.any_eq_true.1 h1
    simp only [Bool.and_eq_true, decide_eq_true_eq] at hj2
    obtain ⟨oj, hoj, e, he, hb, hon⟩ := Region.waitsFor_spec hj2.2
    have hjle : j ≤ ops.size - 1 := by have := List.mem_range.1 hj; omega
    by_cases hjt : j = ops.size - 1
    · subst hjt
      have : oj = ot := Option.some.inj (hoj.symm.trans hot)
      subst this
      have h2 := hall e he hb
      rw [hon, getD_both hun] at h2
      cases h2
    · cases hl : listed.getD j false with
      | true =>
        have h2 := inv.closed j oj hoj hl e he hb
        rw [hon, getD_both hun] at h2
        cases h2
      | false =>
        have hjs : j < listed.size := by rw [inv.size]; omega
        exact ih (ops.size - j) (by omega) j rfl (by omega) (getD_in hjs hl) hr

theorem G_first {i : Nat} {oi : Oper} {v : Value} (hi : ops[i]? = some oi) (hsel : ∀ (j : Nat) (o : Oper) cs b, ops[j]? = some o → o.op ≠ .select cs b)
    (hQ : ∀ c a w, Q (.panic c) (a.put oi.dst v) w → Q (.panic c) a w) (hxi : x = true → i + 1 < ops.size) :
    ∀ (fuel : Nat) (listed : Array Bool) (a : Act) (w : World), Lasts x ops listed →
      (∀ j oj, ops[j]? = some oj → j ≠ i → listed.getD j true = false → (∀ e ∈ oj.after, Region.binds .any e = true → e.on ≠ i) → oi.apart ops oj = true) →
      i ∈ Region.ready .any ops listed → YieldsIf P ops S oi v a → S w →
      wpAnyG x P ops Q S fuel (listed.setIfInBounds i true) (a.put oi.dst v) w → wpAnyG x P ops Q S (fuel + 1) listed a w := by
  intro fuel
  induction fuel with
  | zero =>
    intro listed a w _ _ hr hy hS H
    refine ⟨fun h => (by rw [h] at hr; cases hr), fun j hj => ?_⟩
    by_cases hji : j = i
    · subst hji; exact hy.wpOp hi hS ⟨.inl hS, H⟩
    · have := ready_mono hj hji
      rw [H.1] at this
      cases this
  | succ fuel ih =>
    intro listed a w inv hfree hr hy hS H
    have hun := (mem_ready.1 hr).1
    refine ⟨fun h => (by rw [h] at hr; cases hr), fun j hj => ?_⟩
    by_cases hji : j = i
    · subst hji; exact hy.wpOp hi hS ⟨.inl hS, H⟩
    · have h1 := H.2 j (ready_mono hj hji)
      obtain ⟨hjun, oj, hoj, hall⟩ := mem_ready.1 hj
      have hnot : ∀ e ∈ oj.after, Region.binds .any e = true → e.on ≠ i := fun e he hb heq => by
        have h1 := hall e he hb
        rw [heq] at h1
        rcases Nat.lt_or_ge i listed.size with h' | h'
        · simp [h'] at hun h1; rw [hun] at h1; cases h1
        · simp [Array.getElem?_eq_none h'] at h1
      have h2 := wpOp_putIf hoj (hfree j oj hoj hji hjun hnot) (fun cs b => hsel i oi cs b hi) (fun cs b => hsel j oj cs b hoj) hQ hy h1
      have hfree' : ∀ k ok, ops[k]? = some ok → k ≠ i → (listed.setIfInBounds j true).getD k true = false →
          (∀ e ∈ ok.after, Region.binds .any e = true → e.on ≠ i) → oi.apart ops ok = true := fun k ok hk hki hun hno => by
        refine hfree k ok hk hki ?_ hno
        by_cases hjk : j = k
        · subst hjk; exact hjun
        · rw [getD_set_ne true hjk] at hun; exact hun
      refine wpOp_mono (fun a' w' h3 => ?_) h2
      have hS' : S w' := h3.2.1.resolve_right fun ⟨hx, hj2⟩ => by
        have : j = ops.size - 1 := by omega
        exact inv.not hx _ i rfl (hxi hx) hun (this ▸ hj)
      refine ⟨.inl hS', ih (listed.setIfInBounds j true) a' w' (inv.set hj) hfree' (ready_mono hr (Ne.symm hji)) h3.1 hS' ?_⟩
      rw [Array.setIfInBounds_comm _ _ hji]
      exact h3.2.2

/-- A list's entries, by number. -/
def nth (l : List Oper) (i : Nat) : Oper := match l, i with
  | [], _ => ⟨none, .move (.tmp 0), 0, "", #[], none⟩
  | o :: _, 0 => o
  | _ :: l, i + 1 => nth l i
def pickL : List Nat → List Oper → List Oper
  | [], _ => []
  | i :: r, l => nth l i :: pickL r l

theorem nth_get {l : List Oper} {i : Nat} (h : i < l.length) : l[i]? = some (nth l i) := by
  induction l generalizing i with
  | nil => cases h
  | cons o l ih =>
    cases i with
    | zero => rfl
    | succ i => simpa [nth] using ih (by simpa using h)

/-- An order in which readers come as soon as they may, and all others alone. -/
def schedB (ts : List Nat) (x : Bool) (ops : List Oper) : List Nat → Array Bool → Bool
  | [], listed => (Region.ready .any ops.toArray listed).isEmpty
  | i :: r, listed => decide (i < ops.length) && (if rdB ts (nth ops i) then (Region.ready .any ops.toArray listed).contains i && Region.free .any ops.toArray listed i && (!x || decide (i + 1 < ops.length)) else decide (Region.ready .any ops.toArray listed = [i]) && (!x || !r.isEmpty || decide (i + 1 = ops.length))) &&
    schedB ts x ops r (listed.setIfInBounds i true)
def heldB (ts : List Nat) (x : Bool) (ops : List Oper) (s : List Nat) : Bool := Region.noSelect ops.toArray && (!x || Region.sinkB .any ops.toArray (ops.length - 1)) && schedB ts x ops s (Array.replicate ops.length false)

theorem G_of_held {ts : List Nat} {ops : List Oper} (hsel : Region.noSelect ops.toArray = true) : ∀ (s : List Nat) (listed : Array Bool) (a : Act) (w : World), Lasts x ops.toArray listed → schedB ts x ops s listed = true →
    wpHeld ts x S P ops.toArray Q (pickL s ops) a w → wpAnyG x P ops.toArray (noPanic Q) S s.length listed a w
  | [], listed, a, w, _, hB, h => ⟨by simpa [schedB] using hB, h⟩
  | i :: r, listed, a, w, inv, hB, h => by
    simp only [schedB, Bool.and_eq_true, decide_eq_true_eq] at hB
    obtain ⟨⟨hil, hB1⟩, hB2⟩ := hB
    have h0 : ops.toArray[i]? = some (nth ops i) := by simpa using nth_get hil
    simp only [pickL, wpHeld] at h
    rcases h with ⟨hrd, hS, v, hy, h⟩ | ⟨hrd, h⟩
    · rw [if_pos hrd] at hB1
      simp only [Bool.and_eq_true, Bool.or_eq_true, Bool.not_eq_true', decide_eq_true_eq] at hB1
      obtain ⟨⟨hr, hf⟩, hx⟩ := hB1
      have hr' : i ∈ Region.ready .any ops.toArray listed := by simpa using hr
      have hxi : x = true → i + 1 < ops.toArray.size := fun hx' => by
        rcases hx with hx | hx
        · rw [hx] at hx'; cases hx'
        · simpa using hx
      exact G_first (Q := noPanic Q) h0 (Region.noSelect_spec hsel) (fun _ _ _ h => h) hxi r.length listed a w inv (Region.free_spec h0 hf) hr' hy hS
        (G_of_held hsel r _ _ _ (inv.set hr') hB2 h)
    · rw [if_neg (by simp [hrd])] at hB1
      simp only [Bool.and_eq_true, Bool.or_eq_true, Bool.not_eq_true', decide_eq_true_eq] at hB1
      obtain ⟨hr, hx⟩ := hB1
      have hr' : i ∈ Region.ready .any ops.toArray listed := by rw [hr]; simp
      have hcond : ∀ w', (S w' ∨ (x = true ∧ pickL r ops = [])) → (S w' ∨ (x = true ∧ i + 1 = ops.toArray.size)) := fun w' h => h.imp id fun ⟨hx', hr0⟩ => by
        refine ⟨hx', ?_⟩
        have hr1 : r.isEmpty = true := by cases r with | nil => rfl | cons _ _ => simp [pickL] at hr0
        rcases hx with (hx | hx) | hx
        · rw [hx] at hx'; cases hx'
        · rw [hr1] at hx; cases hx
        · simpa using hx
      refine ⟨fun h1 => (by rw [hr] at h1; cases h1), fun j hj => ?_⟩
      obtain rfl : j = i := by rw [hr] at hj; simpa using hj
      unfold wpOp
      simp only [h0]
      by_cases hw : Region.wanted (nth ops j) (yielded ops.toArray a.tmps) = true
      · rw [if_pos hw] at h ⊢
        exact .inl (Oper.wp_mono (fun a' w' h' => ⟨hcond _ h'.1, G_of_held hsel r _ a' w' (inv.set hr') hB2 h'.2⟩) h)
      · rw [if_neg hw] at h ⊢
        exact ⟨hcond _ h.1, G_of_held hsel r _ _ _ (inv.set hr') hB2 h.2⟩

theorem pickL_length (s : List Nat) (l : List Oper) : (pickL s l).length = s.length := by induction s <;> simp_all [pickL]

/-- A region whose order is open. -/
theorem W.draw {ds : List Deferred} {n mm id : Nat} {l : List Oper} {E : Env} {w : World} (ts : List Nat) (x : Bool) (S : World → Prop) (s : List Nat) (hm : P.follows .mixedOrders = true) (hs : Nat.beq s.length l.length = true) (hB : heldB ts x l s = true) (hS : S w.drew)
    (h : LY (.held ts x S) P ds n l.toArray (pickL s l) Q E w.drew) : W Fence.wide mm P ds n (.region id l.toArray true) Q E w := fun a ha => by
  simp only [heldB, Bool.and_eq_true, Bool.or_eq_true, Bool.not_eq_true'] at hB
  obtain ⟨⟨hsel, hsink⟩, hB⟩ := hB
  have hlen : s.length = l.length := Nat.eq_of_beq_eq_true hs
  refine wpIn_wide.2 (wp_mono (Q := noPanic Q) (wp_region_any hm ?_) fun e a w q => by cases e <;> first | exact q | exact q.elim)
  have inv : Lasts x l.toArray (Array.replicate l.length false) := by
    refine ⟨fun hx => ?_, by simp, fun j oj _ hl => by rw [getD_replicate_false] at hl; cases hl⟩
    rcases hsink with h | h
    · rw [h] at hx; cases hx
    · simpa using h
  have H := G_of_held (P := P) (Q := Q) (S := S) (x := x) hsel s _ a w.drew inv hB (h a ha (.inl hS))
  have := wpAny_of_G _ _ _ _ H
  rw [hlen] at this
  simpa using this
end held

end Go.Proofs.YtmdpmpdlkaogdaaGreatDoor.Vc

namespace Go.Proofs.YtmdpmpdlkaogdaaGreatDoor.Vc
open Go Go.RowKit

/-- A string out of its bytes. -/
def S (l : List UInt8) : ByteArray := ⟨l.toArray⟩
@[simp] theorem S_size (l : List UInt8) : (S l).size = l.length := by simp [S, ByteArray.size]
theorem toList_mk (s : ByteArray) : s.toList = s.data.toList := ByteArray.toList_eq s
@[simp] theorem S_toList (l : List UInt8) : (S l).toList = l := by rw [toList_mk]; rfl
theorem S_of (s : ByteArray) : S s.data.toList = s := by cases s; simp [S]
theorem S_inj {a b : List UInt8} (h : S a = S b) : a = b := by have := congrArg (·.data.toList) h; simpa [S] using this
theorem S_extract (l : List UInt8) (a b : Nat) : (S l).extract a b = S ((l.drop a).take (b - a)) := by
  apply ByteArray.ext
  apply Array.ext'
  rw [Go.Lib.extract_data]
  simp [S]
theorem S_append (a b : List UInt8) : S a ++ S b = S (a ++ b) := by
  apply ByteArray.ext; apply Array.ext'; simp [S, ByteArray.data_append]

theorem S_get {a : List UInt8} {i : Nat} {b : UInt8} (h : a[i]? = some b) : (S a)[i]? = some b := by
  obtain ⟨h1, h2⟩ := List.getElem?_eq_some_iff.1 h
  have h3 : i < (S a).size := by simpa using h1
  rw [getElem?_pos (S a) i h3]
  rw [← h2]
  simp [S, ByteArray.getElem_eq_getElem_data]

-- what the program says of its types
def szB (P : Program) (t : TypeId) : Option Nat := (P.info? t).map (·.size)
def zeroB (P : Program) (t : TypeId) : Option Value := (P.info? t).bind (·.zero)
def bytesB (P : Program) (t : TypeId) : Option Nat := (P.info? t).map (·.bytes)
def aggB (P : Program) (t : TypeId) : Option Bool := (P.underlying t).map fun | .struct _ | .array _ _ => true | _ => false
def fldB (P : Program) (s f : Nat) : Option Nat := match P.underlying s with
  | some (.struct fs) => (fs[f]?).bind fun fd => (P.info? fd.type).bind fun i => if i.size = 0 then none else some fd.offset
  | _ => none

theorem w64 {a : Int} (h0 : -9223372036854775808 ≤ a) (h1 : a ≤ 9223372036854775807) : IntKind.i64.wrap a = a := by
  simp [IntKind.wrap, IntKind.bits, IntKind.signed]; omega
theorem wu8 {a : Int} (h0 : 0 ≤ a) (h1 : a < 256) : IntKind.u8.wrap a = a := by
  simp [IntKind.wrap, IntKind.bits, IntKind.signed]; omega
theorem wu64 {a : Int} (h0 : 0 ≤ a) (h1 : a < 18446744073709551616) : IntKind.u64.wrap a = a := by
  simp [IntKind.wrap, IntKind.bits, IntKind.signed]; omega

section ops
variable {st : Sty} [Wy st] {P : Program} {ds : List Deferred} {n : Nat} {Q : Exit → Act → World → Prop} {E : Env} {w : World} {ops : Array Oper} {l : List Oper}
variable {d : Nat} {ty : TypeId} {pos : String} {af : Array Edge}

theorem mv {x : Operand} {v : Value} (hx : opd E x = some v) (hd : Nat.blt d n = true) (k : LY st P ds n ops l Q ((d, v) :: E) w) : LY st P ds n ops (⟨some d, .move x, ty, pos, af, none⟩ :: l) Q E w :=
  LY.rd v hd (fun a ha w _ => by simp [execOp, opd_eval ha hx]) k
theorem asg {x : Operand} {v : Value} (hx : opd E x = some v) (hd : Nat.blt d n = true) (k : LY st P ds n ops l Q ((d, v) :: E) w) : LY st P ds n ops (⟨some d, .assign x, ty, pos, af, none⟩ :: l) Q E w :=
  LY.rd v hd (fun a ha w _ => by simp [execOp, opd_eval ha hx]) k
theorem pickT {c x y : Operand} {v : Value} (hc : opd E c = some (.bool true)) (hx : opd E x = some v) (hd : Nat.blt d n = true) (k : LY st P ds n ops l Q ((d, v) :: E) w) : LY st P ds n ops (⟨some d, .pick c x y, ty, pos, af, none⟩ :: l) Q E w :=
  LY.rd v hd (fun a ha w _ => by simp [execOp, opd_eval ha hc, opd_eval ha hx, asBool]) k
theorem pickF {c x y : Operand} {v : Value} (hc : opd E c = some (.bool false)) (hx : opd E y = some v) (hd : Nat.blt d n = true) (k : LY st P ds n ops l Q ((d, v) :: E) w) : LY st P ds n ops (⟨some d, .pick c x y, ty, pos, af, none⟩ :: l) Q E w :=
  LY.rd v hd (fun a ha w _ => by simp [execOp, opd_eval ha hc, opd_eval ha hx, asBool]) k
theorem ext {x : Operand} {i : Nat} {vs : Array Value} {v : Value} (hx : opd E x = some (.tuple vs)) (hv : vs[i]? = some v) (hd : Nat.blt d n = true) (k : LY st P ds n ops l Q ((d, v) :: E) w) : LY st P ds n ops (⟨some d, .extract x i, ty, pos, af, none⟩ :: l) Q E w :=
  LY.rd v hd (fun a ha w _ => by simp [execOp, opd_eval ha hx, Instr.extract, hv]) k
theorem nilc {x : Operand} {ad : Addr} (hx : opd E x = some (.pointer (some ad))) (hd : Nat.blt d n = true) (k : LY st P ds n ops l Q ((d, .pointer (some ad)) :: E) w) : LY st P ds n ops (⟨some d, .nilCheck x, ty, pos, af, none⟩ :: l) Q E w :=
  LY.rd _ hd (fun a ha w _ => by simp [execOp, opd_eval ha hx]) k

-- bools and numbers
omit [Wy st] in
theorem bt {b : Bool} (h : b = true) (k : LY st P ds n ops l Q ((d, .bool true) :: E) w) : LY st P ds n ops l Q ((d, .bool b) :: E) w := by subst h; exact k
omit [Wy st] in
theorem bf {b : Bool} (h : b = false) (k : LY st P ds n ops l Q ((d, .bool false) :: E) w) : LY st P ds n ops l Q ((d, .bool b) :: E) w := by subst h; exact k
theorem notB {x : Operand} {t : TypeId} {b : Bool} (hx : opd E x = some (.bool b)) (hd : Nat.blt d n = true) (k : LY st P ds n ops l Q ((d, .bool (!b)) :: E) w) : LY st P ds n ops (⟨some d, .unOp .not t x, ty, pos, af, none⟩ :: l) Q E w :=
  LY.rd _ hd (fun a ha w _ => by simp [execOp, opd_eval ha hx, Op.unary]) k

theorem run_eqGuard_int (op : BinOp) (t : TypeId) (x y : Operand) (κ : IntKind) (a b : Int) : (eqGuard op t x y (.int κ a) (.int κ b)).run P w = .ok () w := by
  unfold eqGuard; cases op <;> simp
theorem run_eqGuard_str (op : BinOp) (t : TypeId) (x y : Operand) (a b : ByteArray) : (eqGuard op t x y (.string a) (.string b)).run P w = .ok () w := by
  unfold eqGuard; cases op <;> simp
theorem run_eqGuard_bool (op : BinOp) (t : TypeId) (x y : Operand) (a b : Bool) : (eqGuard op t x y (.bool a) (.bool b)).run P w = .ok () w := by
  unfold eqGuard; cases op <;> simp
theorem run_eqGuard_ptr (op : BinOp) (t : TypeId) (x y : Operand) (a b : Option Addr) : (eqGuard op t x y (.pointer a) (.pointer b)).run P w = .ok () w := by
  unfold eqGuard; cases op <;> simp
theorem run_eqGuard_slice (op : BinOp) (t : TypeId) (x y : Operand) (a b : Option Addr) (i j k m : Nat) : (eqGuard op t x y (.slice a i j) (.slice b k m)).run P w = .ok () w := by
  unfold eqGuard; cases op <;> simp

theorem binI {op : BinOp} {x y : Operand} {t yt : TypeId} {κ : IntKind} {a b : Int} {v : Value} (hx : opd E x = some (.int κ a)) (hy : opd E y = some (.int κ b))
    (hr : ∀ w, (binOp op t (.int κ a) (.int κ b)).run P w = .ok v w) (hd : Nat.blt d n = true) (k : LY st P ds n ops l Q ((d, v) :: E) w) : LY st P ds n ops (⟨some d, .binOp op t x y yt, ty, pos, af, none⟩ :: l) Q E w :=
  LY.rd v hd (fun a ha w _ => by simp [execOp, opd_eval ha hx, opd_eval ha hy, run_eqGuard_int, hr]) k
section num
variable {x y : Operand} {t yt : TypeId} {κ : IntKind} {a b : Int} (hx : opd E x = some (.int κ a)) (hy : opd E y = some (.int κ b)) (hd : Nat.blt d n = true)
include hx hy hd
theorem lssI (k : LY st P ds n ops l Q ((d, .bool (decide (a < b))) :: E) w) : LY st P ds n ops (⟨some d, .binOp .lss t x y yt, ty, pos, af, none⟩ :: l) Q E w := binI hx hy (fun w => by simp [binOp, Op.intCmp]) hd k
theorem leqI (k : LY st P ds n ops l Q ((d, .bool (decide (a ≤ b))) :: E) w) : LY st P ds n ops (⟨some d, .binOp .leq t x y yt, ty, pos, af, none⟩ :: l) Q E w := binI hx hy (fun w => by simp [binOp, Op.intCmp]) hd k
theorem gtrI (k : LY st P ds n ops l Q ((d, .bool (decide (b < a))) :: E) w) : LY st P ds n ops (⟨some d, .binOp .gtr t x y yt, ty, pos, af, none⟩ :: l) Q E w := binI hx hy (fun w => by simp [binOp, Op.intCmp]) hd k
theorem geqI (k : LY st P ds n ops l Q ((d, .bool (decide (b ≤ a))) :: E) w) : LY st P ds n ops (⟨some d, .binOp .geq t x y yt, ty, pos, af, none⟩ :: l) Q E w := binI hx hy (fun w => by simp [binOp, Op.intCmp]) hd k
theorem eqlI (k : LY st P ds n ops l Q ((d, .bool (decide (a = b))) :: E) w) : LY st P ds n ops (⟨some d, .binOp .eql t x y yt, ty, pos, af, none⟩ :: l) Q E w := binI hx hy (fun w => by simp [binOp, Op.intCmp]; rfl) hd k
theorem neqI (k : LY st P ds n ops l Q ((d, .bool (!decide (a = b))) :: E) w) : LY st P ds n ops (⟨some d, .binOp .neq t x y yt, ty, pos, af, none⟩ :: l) Q E w := binI hx hy (fun w => by simp [binOp, Op.intCmp]; rfl) hd k
theorem addI {c : Int} (hc : κ.wrap (a + b) = c) (k : LY st P ds n ops l Q ((d, .int κ c) :: E) w) : LY st P ds n ops (⟨some d, .binOp .add t x y yt, ty, pos, af, none⟩ :: l) Q E w := binI hx hy (fun w => by simp [binOp, Op.intArith, hc]) hd k
theorem subI {c : Int} (hc : κ.wrap (a - b) = c) (k : LY st P ds n ops l Q ((d, .int κ c) :: E) w) : LY st P ds n ops (⟨some d, .binOp .sub t x y yt, ty, pos, af, none⟩ :: l) Q E w := binI hx hy (fun w => by simp [binOp, Op.intArith, hc]) hd k
theorem mulI {c : Int} (hc : κ.wrap (a * b) = c) (k : LY st P ds n ops l Q ((d, .int κ c) :: E) w) : LY st P ds n ops (⟨some d, .binOp .mul t x y yt, ty, pos, af, none⟩ :: l) Q E w := binI hx hy (fun w => by simp [binOp, Op.intArith, hc]) hd k
theorem remI {c : Int} (hb : b ≠ 0) (hc : a.tmod b = c) (k : LY st P ds n ops l Q ((d, .int κ c) :: E) w) : LY st P ds n ops (⟨some d, .binOp .rem t x y yt, ty, pos, af, none⟩ :: l) Q E w := binI hx hy (fun w => by simp [binOp, Op.intDiv, hb, hc]) hd k
theorem quoI {c : Int} (hb : b ≠ 0) (hc : κ.wrap (a.tdiv b) = c) (k : LY st P ds n ops l Q ((d, .int κ c) :: E) w) : LY st P ds n ops (⟨some d, .binOp .quo t x y yt, ty, pos, af, none⟩ :: l) Q E w := binI hx hy (fun w => by simp [binOp, Op.intDiv, hb, hc]) hd k
theorem maxI {tys : Array TypeId} (k : LY st P ds n ops l Q ((d, .int κ (max a b)) :: E) w) : LY st P ds n ops (⟨some d, .call ⟨.builtin .max, #[x, y], tys⟩, ty, pos, af, none⟩ :: l) Q E w :=
  LY.rd _ hd (fun ac ha w _ => by
    have : (if b > a then b else a) = max a b := by rw [Int.max_def]; split <;> split <;> omega
    simp [execOp, resolve, opd_eval ha hx, opd_eval ha hy, invoke, builtin, Builtin.max_, Builtin.max2, this]) k
theorem minI {tys : Array TypeId} (k : LY st P ds n ops l Q ((d, .int κ (min a b)) :: E) w) : LY st P ds n ops (⟨some d, .call ⟨.builtin .min, #[x, y], tys⟩, ty, pos, af, none⟩ :: l) Q E w :=
  LY.rd _ hd (fun ac ha w _ => by
    have : (if b < a then b else a) = min a b := by rw [Int.min_def]; split <;> split <;> omega
    simp [execOp, resolve, opd_eval ha hx, opd_eval ha hy, invoke, builtin, Builtin.min_, Builtin.min2, this]) k
end num
theorem shlI {x y : Operand} {t yt : TypeId} {κ κ' : IntKind} {a b c : Int} (hx : opd E x = some (.int κ a)) (hy : opd E y = some (.int κ' b)) (hd : Nat.blt d n = true) (hb : 0 ≤ b) (hc : κ.wrap (a * 2 ^ (min b.toNat κ.bits)) = c)
    (k : LY st P ds n ops l Q ((d, .int κ c) :: E) w) : LY st P ds n ops (⟨some d, .binOp .shl t x y yt, ty, pos, af, none⟩ :: l) Q E w :=
  LY.rd _ hd (fun ac ha w _ => by simp [execOp, opd_eval ha hx, opd_eval ha hy, eqGuard, binOp, Op.shift, Int.not_lt.2 hb, hc]) k
theorem shrI {x y : Operand} {t yt : TypeId} {κ κ' : IntKind} {a b c : Int} (hx : opd E x = some (.int κ a)) (hy : opd E y = some (.int κ' b)) (hd : Nat.blt d n = true) (hb : 0 ≤ b) (hc : a.fdiv (2 ^ (min b.toNat κ.bits)) = c)
    (k : LY st P ds n ops l Q ((d, .int κ c) :: E) w) : LY st P ds n ops (⟨some d, .binOp .shr t x y yt, ty, pos, af, none⟩ :: l) Q E w :=
  LY.rd _ hd (fun ac ha w _ => by simp [execOp, opd_eval ha hx, opd_eval ha hy, eqGuard, binOp, Op.shift, Int.not_lt.2 hb, hc]) k
theorem cvtI {x : Operand} {t u : TypeId} {κ κ' : IntKind} {a c : Int} {td : TypeDesc} (hx : opd E x = some (.int κ a)) (hu : P.underlying u = some (.int κ')) (ht : P.underlying t = some td) (hd : Nat.blt d n = true) (hc : κ'.wrap a = c)
    (k : LY st P ds n ops l Q ((d, .int κ' c) :: E) w) : LY st P ds n ops (⟨some d, .convert t u x, ty, pos, af, none⟩ :: l) Q E w :=
  LY.rd _ hd (fun ac ha w _ => by simp [execOp, opd_eval ha hx, convert, underlying, program, Sem.run, hu, ht, Conv.intToInt, hc]) k

-- strings
section str
variable {x y : Operand} {t yt : TypeId} {a b : List UInt8}
theorem binS {op : BinOp} {v : Value} (hx : opd E x = some (.string (S a))) (hy : opd E y = some (.string (S b))) (hr : ∀ w, (Op.stringOp op (S a) (S b)).run P w = .ok v w) (hop : op ≠ .shl ∧ op ≠ .shr) (hd : Nat.blt d n = true)
    (k : LY st P ds n ops l Q ((d, v) :: E) w) : LY st P ds n ops (⟨some d, .binOp op t x y yt, ty, pos, af, none⟩ :: l) Q E w :=
  LY.rd v hd (fun ac ha w _ => by cases op <;> simp_all [execOp, opd_eval ha hx, opd_eval ha hy, run_eqGuard_str, binOp]) k
variable (hx : opd E x = some (.string (S a))) (hy : opd E y = some (.string (S b))) (hd : Nat.blt d n = true)
include hx hy hd
theorem eqlS (k : LY st P ds n ops l Q ((d, .bool (a == b)) :: E) w) : LY st P ds n ops (⟨some d, .binOp .eql t x y yt, ty, pos, af, none⟩ :: l) Q E w := binS hx hy (fun w => by simp [Op.stringOp]) (by simp) hd k
theorem neqS (k : LY st P ds n ops l Q ((d, .bool (!(a == b))) :: E) w) : LY st P ds n ops (⟨some d, .binOp .neq t x y yt, ty, pos, af, none⟩ :: l) Q E w := binS hx hy (fun w => by simp [Op.stringOp]) (by simp) hd k
theorem lssS (k : LY st P ds n ops l Q ((d, .bool (Op.bytesLess a b)) :: E) w) : LY st P ds n ops (⟨some d, .binOp .lss t x y yt, ty, pos, af, none⟩ :: l) Q E w := binS hx hy (fun w => by simp [Op.stringOp]) (by simp) hd k
theorem gtrS (k : LY st P ds n ops l Q ((d, .bool (!(Op.bytesLess a b || a == b))) :: E) w) : LY st P ds n ops (⟨some d, .binOp .gtr t x y yt, ty, pos, af, none⟩ :: l) Q E w := binS hx hy (fun w => by simp [Op.stringOp]) (by simp) hd k
theorem addS (hs : a.length + b.length ≤ 9223372036854775807) (k : LY st P ds n ops l Q ((d, .string (S (a ++ b))) :: E) w) : LY st P ds n ops (⟨some d, .binOp .add t x y yt, ty, pos, af, none⟩ :: l) Q E w :=
  binS hx hy (fun w => by
    have : ¬ ((((S a).size + (S b).size : Nat) : Int) > IntKind.i64.max) := by simp [IntKind.max, IntKind.signed, IntKind.bits]; omega
    simp only [Op.stringOp, if_neg this, S_append]; rfl) (by simp) hd k
end str
theorem lenS {x : Operand} {t : TypeId} {a : List UInt8} (hx : opd E x = some (.string (S a))) (hu : P.underlying t = some .string) (hd : Nat.blt d n = true) (k : LY st P ds n ops l Q ((d, .int .i64 a.length) :: E) w) :
    LY st P ds n ops (⟨some d, .call ⟨.builtin .len, #[x], #[t]⟩, ty, pos, af, none⟩ :: l) Q E w :=
  LY.rd _ hd (fun ac ha w _ => by simp [execOp, resolve, opd_eval ha hx, invoke, builtin, Builtin.len_, underlying, program, Sem.run, hu, goInt]) k
theorem lenV {x : Operand} {t e : TypeId} {b : Option Addr} {m c : Nat} (hx : opd E x = some (.slice b m c)) (hu : P.underlying t = some (.slice e)) (hd : Nat.blt d n = true) (k : LY st P ds n ops l Q ((d, .int .i64 m) :: E) w) :
    LY st P ds n ops (⟨some d, .call ⟨.builtin .len, #[x], #[t]⟩, ty, pos, af, none⟩ :: l) Q E w :=
  LY.rd _ hd (fun ac ha w _ => by simp [execOp, resolve, opd_eval ha hx, invoke, builtin, Builtin.len_, underlying, program, Sem.run, hu, goInt]) k
theorem capV {x : Operand} {t e : TypeId} {b : Option Addr} {m c : Nat} (hx : opd E x = some (.slice b m c)) (hu : P.underlying t = some (.slice e)) (hd : Nat.blt d n = true) (k : LY st P ds n ops l Q ((d, .int .i64 c) :: E) w) :
    LY st P ds n ops (⟨some d, .call ⟨.builtin .cap, #[x], #[t]⟩, ty, pos, af, none⟩ :: l) Q E w :=
  LY.rd _ hd (fun ac ha w _ => by simp [execOp, resolve, opd_eval ha hx, invoke, builtin, Builtin.cap_, underlying, program, Sem.run, hu, goInt]) k
theorem lenM {x : Operand} {t kt e : TypeId} {r c : Nat} {es : Array MapEntry} (hx : opd E x = some (.map (some r))) (hu : P.underlying t = some (.map kt e)) (hr : Kn st w fun w => w.heap[r]? = some (.map es c)) (hd : Nat.blt d n = true) (k : LY st P ds n ops l Q ((d, .int .i64 es.size) :: E) w) :
    LY st P ds n ops (⟨some d, .call ⟨.builtin .len, #[x], #[t]⟩, ty, pos, af, none⟩ :: l) Q E w :=
  LY.rd _ hd (fun ac ha w hs => by simp [execOp, resolve, opd_eval ha hx, invoke, builtin, Builtin.len_, underlying, program, Sem.run, hu, goInt, getObj, hr w hs]) k
theorem idxS {x i : Operand} {t : TypeId} {a : List UInt8} {κ : IntKind} {j : Int} {b : UInt8} (hx : opd E x = some (.string (S a))) (hi : opd E i = some (.int κ j)) (hu : P.underlying t = some .string) (hd : Nat.blt d n = true) (h0 : 0 ≤ j) (hb : a[j.toNat]? = some b)
    (k : LY st P ds n ops l Q ((d, .int .u8 b.toNat) :: E) w) : LY st P ds n ops (⟨some d, .index t x i, ty, pos, af, none⟩ :: l) Q E w :=
  LY.rd _ hd (fun ac ha w _ => by
    have hg : (S a)[j.toNat]? = some b := S_get hb
    simp [execOp, opd_eval ha hx, opd_eval ha hi, Instr.index, asIntOf, underlying, program, Sem.run, hu, h0, hg]) k
theorem slS {x lo hi : Operand} {t : TypeId} {a : List UInt8} {κ κ' : IntKind} {i j : Int} (hx : opd E x = some (.string (S a))) (hl : opd E lo = some (.int κ i)) (hh : opd E hi = some (.int κ' j)) (hu : P.underlying t = some .string) (hd : Nat.blt d n = true) (h0 : 0 ≤ i) (h1 : i ≤ j) (h2 : j ≤ a.length)
    (k : LY st P ds n ops l Q ((d, .string (S ((a.drop i.toNat).take (j.toNat - i.toNat)))) :: E) w) : LY st P ds n ops (⟨some d, .slice t x (some lo) (some hi) none, ty, pos, af, none⟩ :: l) Q E w :=
  LY.rd _ hd (fun ac ha w _ => by
    have h3 : 0 ≤ j ∧ j ≤ ((S a).size : Int) := ⟨by omega, by simpa using h2⟩
    have h4 : 0 ≤ i ∧ i ≤ (j.toNat : Int) := ⟨h0, by omega⟩
    have e1 : ((S a).extract i.toNat j.toNat) = S ((a.drop i.toNat).take (j.toNat - i.toNat)) := S_extract _ _ _
    simp only [execOp, opd_eval ha hx, opd_eval ha hl, opd_eval ha hh, Option.map_some, Option.map_none, Instr.sliceAt, Instr.slice, Instr.sliceBounds, Instr.sliceBound, asIntOf, underlying, program, Sem.run_bind, Sem.run, Result.andThen_ok, hu, Sem.run_pure, Sem.run_ite, if_pos h3, if_pos h4, Option.isSome_none, Bool.false_eq_true, if_false, e1]) k
theorem slSl {x lo : Operand} {t : TypeId} {a : List UInt8} {κ : IntKind} {i : Int} (hx : opd E x = some (.string (S a))) (hl : opd E lo = some (.int κ i)) (hu : P.underlying t = some .string) (hd : Nat.blt d n = true) (h0 : 0 ≤ i) (h1 : i ≤ a.length)
    (k : LY st P ds n ops l Q ((d, .string (S (a.drop i.toNat))) :: E) w) : LY st P ds n ops (⟨some d, .slice t x (some lo) none none, ty, pos, af, none⟩ :: l) Q E w :=
  LY.rd _ hd (fun ac ha w _ => by
    simp [execOp, opd_eval ha hx, opd_eval ha hl, Instr.sliceAt, Instr.slice, Instr.sliceBounds, Instr.sliceBound, asIntOf, underlying, program, Sem.run, hu]
    simp [h0, h1, S_extract]
    rw [List.take_of_length_le (by simp)]) k
theorem slSh {x hi : Operand} {t : TypeId} {a : List UInt8} {κ : IntKind} {j : Int} (hx : opd E x = some (.string (S a))) (hh : opd E hi = some (.int κ j)) (hu : P.underlying t = some .string) (hd : Nat.blt d n = true) (h0 : 0 ≤ j) (h1 : j ≤ a.length)
    (k : LY st P ds n ops l Q ((d, .string (S (a.take j.toNat))) :: E) w) : LY st P ds n ops (⟨some d, .slice t x none (some hi) none, ty, pos, af, none⟩ :: l) Q E w :=
  LY.rd _ hd (fun ac ha w _ => by
    simp [execOp, opd_eval ha hx, opd_eval ha hh, Instr.sliceAt, Instr.slice, Instr.sliceBounds, Instr.sliceBound, asIntOf, underlying, program, Sem.run, hu]
    simp [h0, h1, S_extract]) k

-- equality with nil, of bools
theorem binG {op : BinOp} {x y : Operand} {t yt : TypeId} {a b v : Value} (hx : opd E x = some a) (hy : opd E y = some b) (hg : ∀ x y w, (eqGuard op t x y a b).run P w = .ok () w) (hr : ∀ w, (binOp op t a b).run P w = .ok v w) (hd : Nat.blt d n = true)
    (k : LY st P ds n ops l Q ((d, v) :: E) w) : LY st P ds n ops (⟨some d, .binOp op t x y yt, ty, pos, af, none⟩ :: l) Q E w :=
  LY.rd v hd (fun ac ha w _ => by simp [execOp, opd_eval ha hx, opd_eval ha hy, hg, hr]) k
theorem pointee_of {t e : TypeId} (hu : P.underlying t = some (.pointer e)) : P.underlying t = some (.pointer (P.pointee t)) := by simp [Program.pointee, hu]
theorem eqlPN {x : Operand} {t yt e : TypeId} {p : Option Addr} (hx : opd E x = some (.pointer p)) (hu : P.underlying t = some (.pointer e)) (hd : Nat.blt d n = true) (k : LY st P ds n ops l Q ((d, .bool p.isNone) :: E) w) :
    LY st P ds n ops (⟨some d, .binOp .eql t x (.const (.pointer none)) yt, ty, pos, af, none⟩ :: l) Q E w :=
  binG hx rfl (fun _ _ _ => run_eqGuard_ptr _ _ _ _ _ _) (fun w => run_eql_pointer_nil w t p (pointee_of hu)) hd k
theorem neqPN {x : Operand} {t yt e : TypeId} {p : Option Addr} (hx : opd E x = some (.pointer p)) (hu : P.underlying t = some (.pointer e)) (hd : Nat.blt d n = true) (k : LY st P ds n ops l Q ((d, .bool (!p.isNone)) :: E) w) :
    LY st P ds n ops (⟨some d, .binOp .neq t x (.const (.pointer none)) yt, ty, pos, af, none⟩ :: l) Q E w :=
  binG hx rfl (fun _ _ _ => run_eqGuard_ptr _ _ _ _ _ _) (fun w => run_neq_pointer_nil w t p (pointee_of hu)) hd k
theorem eqlVN {x : Operand} {t yt e : TypeId} {p : Option Addr} {m c : Nat} (hx : opd E x = some (.slice p m c)) (hu : P.underlying t = some (.slice e)) (hd : Nat.blt d n = true) (k : LY st P ds n ops l Q ((d, .bool p.isNone) :: E) w) :
    LY st P ds n ops (⟨some d, .binOp .eql t x (.const (.slice none 0 0)) yt, ty, pos, af, none⟩ :: l) Q E w :=
  binG hx rfl (fun _ _ _ => run_eqGuard_slice _ _ _ _ _ _ _ _ _ _) (fun w => Go.Lib.run_eql_slice_nil w t e p m c 0 0 hu) hd k
theorem neqVN {x : Operand} {t yt e : TypeId} {p : Option Addr} {m c : Nat} (hx : opd E x = some (.slice p m c)) (hu : P.underlying t = some (.slice e)) (hd : Nat.blt d n = true) (k : LY st P ds n ops l Q ((d, .bool (!p.isNone)) :: E) w) :
    LY st P ds n ops (⟨some d, .binOp .neq t x (.const (.slice none 0 0)) yt, ty, pos, af, none⟩ :: l) Q E w :=
  binG hx rfl (fun _ _ _ => run_eqGuard_slice _ _ _ _ _ _ _ _ _ _) (fun w => run_neq_slice_nil w t e p m c hu) hd k
theorem eqlB {x y : Operand} {t yt : TypeId} {a b : Bool} (hx : opd E x = some (.bool a)) (hy : opd E y = some (.bool b)) (hu : P.underlying t = some .bool) (hd : Nat.blt d n = true) (k : LY st P ds n ops l Q ((d, .bool (a == b)) :: E) w) :
    LY st P ds n ops (⟨some d, .binOp .eql t x y yt, ty, pos, af, none⟩ :: l) Q E w :=
  binG hx hy (fun _ _ _ => run_eqGuard_bool _ _ _ _ _ _) (fun w => run_eql_bool w t a b hu) hd k
theorem neqB {x y : Operand} {t yt : TypeId} {a b : Bool} (hx : opd E x = some (.bool a)) (hy : opd E y = some (.bool b)) (hu : P.underlying t = some .bool) (hd : Nat.blt d n = true) (k : LY st P ds n ops l Q ((d, .bool (!(a == b))) :: E) w) :
    LY st P ds n ops (⟨some d, .binOp .neq t x y yt, ty, pos, af, none⟩ :: l) Q E w :=
  binG hx hy (fun _ _ _ => run_eqGuard_bool _ _ _ _ _ _) (fun w => run_neq_bool w t a b hu) hd k
end ops
end Go.Proofs.YtmdpmpdlkaogdaaGreatDoor.Vc

namespace Go.Proofs.YtmdpmpdlkaogdaaGreatDoor.Vc
open Go Go.RowKit

/-- From w to w' new blocks may have come, and old blocks of S may have turned; nothing else. -/
structure Ext (S : Nat → Prop) (w w' : World) : Prop where
  os : w'.os = w.os
  tape : w'.tape = w.tape
  output : w'.output = w.output
  size : w.heap.size ≤ w'.heap.size
  block : ∀ k, k < w.heap.size → ¬ S k → w'.heap[k]? = w.heap[k]?

def none_ : Nat → Prop := fun _ => False

theorem Ext.refl (S : Nat → Prop) (w : World) : Ext S w w := ⟨rfl, rfl, rfl, Nat.le_refl _, fun _ _ _ => rfl⟩
theorem Ext.trans {S : Nat → Prop} {a b c : World} (h : Ext S a b) (k : Ext S b c) : Ext S a c :=
  ⟨k.os.trans h.os, k.tape.trans h.tape, k.output.trans h.output, Nat.le_trans h.size k.size, fun i hi hn => (k.block i (Nat.lt_of_lt_of_le hi h.size) hn).trans (h.block i hi hn)⟩
/-- The second step may turn what S allows, and blocks that are new since a. -/
theorem Ext.trans' {S T : Nat → Prop} {a b c : World} (h : Ext S a b) (k : Ext T b c) (hT : ∀ i, i < a.heap.size → T i → S i) : Ext S a c :=
  ⟨k.os.trans h.os, k.tape.trans h.tape, k.output.trans h.output, Nat.le_trans h.size k.size, fun i hi hn => (k.block i (Nat.lt_of_lt_of_le hi h.size) (fun t => hn (hT i hi t))).trans (h.block i hi hn)⟩
theorem Ext.mono {S T : Nat → Prop} {a b : World} (h : Ext S a b) (hT : ∀ i, i < a.heap.size → S i → T i) : Ext T a b := ⟨h.os, h.tape, h.output, h.size, fun i hi hn => h.block i hi (fun s => hn (hT i hi s))⟩
theorem Ext.none {S : Nat → Prop} {a b : World} (h : Ext none_ a b) : Ext S a b := h.mono fun _ _ => False.elim
theorem Ext.below {a b : World} (h : Ext none_ a b) : Below a.heap.size a b := ⟨h.os, h.tape, h.output, h.size, fun k hk => h.block k hk id⟩
theorem Ext.of_below {a b : World} (h : Below a.heap.size a b) : Ext none_ a b := ⟨h.os, h.tape, h.output, h.size, fun k hk _ => h.block k hk⟩
theorem Ext.drew (S : Nat → Prop) (w : World) : Ext S w w.drew := ⟨rfl, rfl, rfl, Nat.le_refl _, fun _ _ _ => rfl⟩
theorem Ext.drewN (S : Nat → Prop) (w : World) (n : Nat) : Ext S w (w.drewN n) := ⟨rfl, rfl, rfl, Nat.le_refl _, fun _ _ _ => rfl⟩
theorem heap_alloc (w : World) (o : Obj) {k : Nat} (h : k < w.heap.size) : (w.alloc o).heap[k]? = w.heap[k]? := Below.heap_alloc w o k h
theorem heap_new (w : World) (o : Obj) : (w.alloc o).heap[w.heap.size]? = some o := heap_alloc_new w o
theorem Ext.alloc (S : Nat → Prop) (w : World) (o : Obj) : Ext S w (w.alloc o) := ⟨rfl, rfl, rfl, by simp, fun _ hk _ => heap_alloc w o hk⟩
theorem Ext.setCell {S : Nat → Prop} (w : World) {a : Addr} (ha : a.block < w.heap.size → S a.block) (v : Value) : Ext S w (w.setCell a v) :=
  ⟨rfl, rfl, rfl, by simp, fun k hk hn => Below.heap_setCell w a v k (fun e => hn (by subst e; exact ha hk))⟩
theorem Ext.setObj {S : Nat → Prop} (w : World) {r : Nat} (hr : r < w.heap.size → S r) (o : Obj) : Ext S w { w with heap := w.heap.setIfInBounds r o } :=
  ⟨rfl, rfl, rfl, by simp, fun k hk hn => by
    have : r ≠ k := fun e => hn (by subst e; exact hr hk)
    simp [this]⟩
theorem Ext.grown {w w' : World} {row : Option Nat} (h : w.grownBy w' row) : Ext (fun k => some k = row) w w' := ⟨h.os, h.tape, h.output, h.size, fun k hk hn => h.block k hk hn⟩

theorem Ext.obj {S : Nat → Prop} {w w' : World} (h : Ext S w w') {k : Nat} {o : Obj} (hk : w.heap[k]? = some o) (hS : ¬ S k) : w'.heap[k]? = some o :=
  (h.block k (Array.getElem?_eq_some_iff.1 hk).1 hS).trans hk
theorem Ext.block' {j k : Nat} {w w' : World} (h : Ext (fun i => i = j) w w') (hne : k ≠ j) (hk : k < w.heap.size := by omega) : w'.heap[k]? = w.heap[k]? := h.block k hk hne
theorem lt_of_obj {w : World} {k : Nat} {o : Obj} (h : w.heap[k]? = some o) : k < w.heap.size := (Array.getElem?_eq_some_iff.1 h).1

theorem cell_of {w : World} {k i : Nat} {c : Array Value} {e : TypeId} {f : Nat × Nat} {v : Value} (h : w.heap[k]? = some (.cells c e f)) (hc : c[i]? = some v) : w.cell? ⟨k, i, none⟩ = some v := by
  simp [World.cell?, h, hc]
theorem cell1 {w : World} {k : Nat} {e : TypeId} {f : Nat × Nat} {v : Value} (h : w.heap[k]? = some (.cells #[v] e f)) : w.cell? ⟨k, 0, none⟩ = some v := cell_of h rfl
theorem free_of {w : World} {k i : Nat} {c : Array Value} {e : TypeId} (h : w.heap[k]? = some (.cells c e (0, 0))) : w.frozen? ⟨k, i, none⟩ = false := by
  simp [World.frozen?, h]
theorem setCell_heap {w : World} {k i : Nat} {c : Array Value} {e : TypeId} {f : Nat × Nat} (h : w.heap[k]? = some (.cells c e f)) (v : Value) : (w.setCell ⟨k, i, none⟩ v).heap[k]? = some (.cells (c.setIfInBounds i v) e f) := by
  simp [World.setCell, Array.getElem?_modify, h]
theorem set1 {w : World} {k : Nat} {e : TypeId} {f : Nat × Nat} {u : Value} (h : w.heap[k]? = some (.cells #[u] e f)) (v : Value) : (w.setCell ⟨k, 0, none⟩ v).heap[k]? = some (.cells #[v] e f) := by rw [setCell_heap h]; rfl
theorem setCell_other {w : World} {a : Addr} {k : Nat} (h : k ≠ a.block) (v : Value) : (w.setCell a v).heap[k]? = w.heap[k]? := Below.heap_setCell w a v k h

theorem Ext.setRow {S : Nat → Prop} (w : World) {g : Nat} (hg : g < w.heap.size → S g) (cs : Array Value) : Ext S w (w.setRow g cs) :=
  ⟨rfl, rfl, rfl, by simp, fun k hk hn => setRow_other w g k cs (fun e => hn (by subst e; exact hg hk))⟩

section ops
variable {st : Sty} [Wy st] {P : Program} {ds : List Deferred} {n : Nat} {Q : Exit → Act → World → Prop} {E : Env} {w : World} {ops : Array Oper} {l : List Oper}
variable {d : Nat} {ty : TypeId} {pos : String} {af : Array Edge}

theorem add_at (b o k : Nat) : (⟨b, o, none⟩ : Addr).add k = ⟨b, o + k, none⟩ := by unfold Addr.add; split <;> simp_all

theorem fad {s f b o off : Nat} {x : Operand} (hx : opd E x = some (.pointer (some ⟨b, o, none⟩))) (hf : fldB P s f = some off) (hd : Nat.blt d n = true)
    (k : LY st P ds n ops l Q ((d, .pointer (some ⟨b, o + off, none⟩)) :: E) w) : LY st P ds n ops (⟨some d, .fieldAddr s x f, ty, pos, af, none⟩ :: l) Q E w :=
  LY.rd _ hd (fun ac ha w _ => by
    unfold fldB at hf
    split at hf
    · rename_i fs hu
      cases hfd : fs[f]? with
      | none => simp [hfd] at hf
      | some fd =>
        cases hi : P.info? fd.type with
        | none => simp [hfd, hi] at hf
        | some i =>
          simp [hfd, hi] at hf
          obtain ⟨h1, h2⟩ := hf
          simp [execOp, opd_eval ha hx, Instr.fieldAt, underlying, program, Sem.run, hu, hfd, Instr.sureAddr, fieldPlace, sizeOf, typeInfo, hi, h1, add_at, h2]
    · cases hf) k

theorem run_isAgg {t : TypeId} {b : Bool} (h : aggB P t = some b) : (isAgg t).run P w = .ok b w := by
  unfold aggB at h
  cases hu : P.underlying t with
  | none => simp [hu] at h
  | some u =>
    simp [hu] at h
    subst h
    cases u <;> simp [isAgg, underlying, program, Sem.run, hu]

theorem run_sizeOf {t k : Nat} (h : szB P t = some k) : (sizeOf t).run P w = .ok k w := by
  unfold szB at h
  cases hi : P.info? t with
  | none => simp [hi] at h
  | some i => simp [hi] at h; simp [sizeOf, typeInfo, program, Sem.run, hi, h]

theorem ldK {t : TypeId} {x : Operand} {ad : Addr} {v : Value} (hx : opd E x = some (.pointer (some ad))) (ht : aggB P t = some false) (hd : Nat.blt d n = true) (hc : Kn st w fun w => w.cell? ad = some v)
    (k : LY st P ds n ops l Q ((d, v) :: E) w) : LY st P ds n ops (⟨some d, .load t x, ty, pos, af, none⟩ :: l) Q E w :=
  LY.rd _ hd (fun ac ha w hs => by simp [execOp, opd_eval ha hx, Instr.loadAt, Instr.sureAddr, loadVar, run_isAgg ht, hc w hs]) k
theorem ldkK {t : TypeId} {x : Operand} {b o m : Nat} {cs : List Value} (hx : opd E x = some (.pointer (some ⟨b, o, none⟩))) (ht : aggB P t = some true) (hs : szB P t = some m) (hd : Nat.blt d n = true) (hl : cs.length = m)
    (hc : Kn st w fun w => ∀ j v, cs[j]? = some v → w.cell? ⟨b, o + j, none⟩ = some v) (k : LY st P ds n ops l Q ((d, .agg cs.toArray) :: E) w) : LY st P ds n ops (⟨some d, .load t x, ty, pos, af, none⟩ :: l) Q E w :=
  LY.rd _ hd (fun ac ha w hw => by
    have h := run_loadCells_list (P := P) w ⟨b, o, none⟩ cs (fun j v hj => by rw [add_at]; exact hc w hw j v hj)
    rw [hl] at h
    simp [execOp, opd_eval ha hx, Instr.loadAt, Instr.sureAddr, loadVar, run_isAgg ht, run_sizeOf hs, h]) k
section plain
variable {Fe : Fence} {mm : Nat} [Wd Fe]
theorem ld1 {t : TypeId} {x : Operand} {ad : Addr} {v : Value} (hx : opd E x = some (.pointer (some ad))) (ht : aggB P t = some false) (hd : Nat.blt d n = true) (hc : w.cell? ad = some v)
    (k : L Fe mm P ds n ops l Q ((d, v) :: E) w) : L Fe mm P ds n ops (⟨some d, .load t x, ty, pos, af, none⟩ :: l) Q E w := ldK hx ht hd (Kn.here hc) k
theorem ldk {t : TypeId} {x : Operand} {b o m : Nat} {cs : List Value} (hx : opd E x = some (.pointer (some ⟨b, o, none⟩))) (ht : aggB P t = some true) (hs : szB P t = some m) (hd : Nat.blt d n = true) (hl : cs.length = m)
    (hc : ∀ j v, cs[j]? = some v → w.cell? ⟨b, o + j, none⟩ = some v) (k : L Fe mm P ds n ops l Q ((d, .agg cs.toArray) :: E) w) : L Fe mm P ds n ops (⟨some d, .load t x, ty, pos, af, none⟩ :: l) Q E w := ldkK hx ht hs hd hl (Kn.here hc) k
end plain

theorem st1 {t : TypeId} {x y : Operand} {b o : Nat} {c : Array Value} {e : TypeId} {u v : Value} (hx : opd E x = some (.pointer (some ⟨b, o, none⟩))) (hy : opd E y = some v) (hs : szB P t = some 1) (h1 : v.oneCell' = true)
    (hb : w.heap[b]? = some (.cells c e (0, 0))) (hc : c[o]? = some u) (k : LY st P ds n ops l Q E (w.setCell ⟨b, o, none⟩ v)) (hS : st.keeps l w (w.setCell ⟨b, o, none⟩ v) := by trivial) : LY st P ds n ops (⟨none, .store t x y, ty, pos, af, none⟩ :: l) Q E w :=
  LY.act _ (fun ac ha => by
    have hv : v.cells = #[v] := by cases v <;> simp_all [Value.cells, Value.oneCell']
    have hcell := cell_of hb hc
    have hfr : w.frozen? ⟨b, o, none⟩ = false := free_of hb
    simp [execOp, opd_eval ha hx, opd_eval ha hy, Instr.storeAt, Instr.sureAddr, storeVar, run_sizeOf hs, hv, storeCells, add_at, run_store P w _ v _ h1, hcell, hfr]) k (fun _ _ _ _ => rfl) hS

/-- A whole variable of many cells. -/
theorem stR {t : TypeId} {x y : Operand} {g : Nat} {cells old : Array Value} {e : TypeId} (hx : opd E x = some (.pointer (some ⟨g, 0, none⟩))) (hy : opd E y = some (.agg cells)) (hs : szB P t = some cells.size) (h1 : cells.toList.all (·.oneCell') = true)
    (hb : w.heap[g]? = some (.cells old e (0, 0))) (ho : old.size = cells.size) (k : LY st P ds n ops l Q E (w.setRow g cells)) (hS : st.keeps l w (w.setRow g cells) := by trivial) : LY st P ds n ops (⟨none, .store t x y, ty, pos, af, none⟩ :: l) Q E w :=
  LY.act _ (fun ac ha => by
    simp only [execOp, opd_eval ha hx, opd_eval ha hy, Instr.storeAt, Instr.sureAddr, Sem.run_bind, Sem.run_pure, Result.andThen_ok, run_storeVar_row w g e t old cells hb hs ho (by simpa using h1)]) k (fun _ _ _ _ => rfl) hS

/-- A new variable with a value. -/
theorem box {t : TypeId} {x : Operand} {v : Value} (hx : opd E x = some v) (hd : Nat.blt d n = true)
    (k : LY st P ds n ops l Q ((d, .pointer (some ⟨w.heap.size, 0, none⟩)) :: E) (w.alloc (.cells v.cells t))) (hS : st.keeps l w (w.alloc (.cells v.cells t)) := by trivial) : LY st P ds n ops (⟨some d, .box t x, ty, pos, af, none⟩ :: l) Q E w :=
  LY.val _ (w.alloc (.cells v.cells t)) hd (fun ac ha => by simp [execOp, opd_eval ha hx, Instr.box, newVar, newRow, newObj, Sem.run]) k (fun _ _ _ _ => rfl) hS
theorem new {t : TypeId} {z : Value} (hz : zeroB P t = some z) (hd : Nat.blt d n = true)
    (k : LY st P ds n ops l Q ((d, .pointer (some ⟨w.heap.size, 0, none⟩)) :: E) (w.alloc (.cells z.cells t))) (hS : st.keeps l w (w.alloc (.cells z.cells t)) := by trivial) : LY st P ds n ops (⟨some d, .alloc t, ty, pos, af, none⟩ :: l) Q E w :=
  LY.val _ (w.alloc (.cells z.cells t)) hd (fun ac ha => by
    unfold zeroB at hz
    cases hi : P.info? t with
    | none => simp [hi] at hz
    | some i => simp [hi] at hz; simp [execOp, Instr.alloc, zeroValue, typeInfo, program, Sem.run, hi, hz, newVar, newRow, newObj]) k (fun _ _ _ _ => rfl) hS
theorem parts_eval {n : Nat} {E : Env} {ac : Act} (ha : Fits ds n E ac) {parts : Array (Nat × Operand)} {vs : Array (Nat × Value)} (hp : parts.toList.map (fun p => (opd E p.2).map (p.1, ·)) = vs.toList.map some) : parts.map (fun p => (p.1, ac.eval p.2)) = vs := by
  apply Array.ext'
  rw [Array.toList_map]
  have : ∀ (xs : List (Nat × Operand)) (vs : List (Nat × Value)), xs.map (fun p => (opd E p.2).map (p.1, ·)) = vs.map some → xs.map (fun p => (p.1, ac.eval p.2)) = vs := by
    intro xs
    induction xs with
    | nil => intro vs h; cases vs with | nil => rfl | cons _ _ => cases h
    | cons x xs ih =>
      intro vs h
      cases vs with
      | nil => cases h
      | cons v vs =>
        simp only [List.map_cons, List.cons.injEq] at h ⊢
        refine ⟨?_, ih vs h.2⟩
        cases ho : opd E x.2 with
        | none => rw [ho] at h; simp at h
        | some u => rw [ho] at h; simp at h; rw [opd_eval ha ho]; exact h.1
  exact this _ _ hp
/-- A struct, a slice out of parts: as the model reckons it. -/
theorem bld {t : TypeId} {parts : Array (Nat × Operand)} {vs : Array (Nat × Value)} {v : Value} (hp : parts.toList.map (fun p => (opd E p.2).map (p.1, ·)) = vs.toList.map some) (hd : Nat.blt d n = true)
    (hr : ∀ w, (Instr.build t vs).run P w = .ok v w) (k : LY st P ds n ops l Q ((d, v) :: E) w) : LY st P ds n ops (⟨some d, .build t parts, ty, pos, af, none⟩ :: l) Q E w :=
  LY.rd _ hd (fun ac ha w _ => by
    have he : parts.map (fun (p : Nat × Operand) => (p.1, ac.eval p.2)) = vs := parts_eval ha hp
    have : (parts.map fun (x : Nat × Operand) => match x with | (i, x) => (i, ac.eval x)) = vs := he
    simp [execOp, this, hr]) k
theorem bls {t e : TypeId} {m : Nat} {parts : Array (Nat × Operand)} {vs : Array (Nat × Value)} {cs : Array Value} (hp : parts.toList.map (fun p => (opd E p.2).map (p.1, ·)) = vs.toList.map some) (hd : Nat.blt d n = true)
    (hr : ∀ w, (Instr.buildSlice t m vs).run P w = .ok (.slice (some ⟨w.heap.size, 0, none⟩) m m) (w.alloc (.cells cs e))) (k : LY st P ds n ops l Q ((d, .slice (some ⟨w.heap.size, 0, none⟩) m m) :: E) (w.alloc (.cells cs e))) (hS : st.keeps l w (w.alloc (.cells cs e)) := by trivial) : LY st P ds n ops (⟨some d, .buildSlice t m parts, ty, pos, af, none⟩ :: l) Q E w :=
  LY.val _ _ hd (fun ac ha => by
    have he : parts.map (fun (p : Nat × Operand) => (p.1, ac.eval p.2)) = vs := parts_eval ha hp
    have : (parts.map fun (x : Nat × Operand) => match x with | (i, x) => (i, ac.eval x)) = vs := he
    simp [execOp, this, hr]) k (fun _ _ _ _ => rfl) hS
theorem mkm {t : TypeId} (hd : Nat.blt d n = true) (k : LY st P ds n ops l Q ((d, .map (some w.heap.size)) :: E) (w.alloc (.map #[] 0))) (hS : st.keeps l w (w.alloc (.map #[] 0)) := by trivial) : LY st P ds n ops (⟨some d, .makeMap t none, ty, pos, af, none⟩ :: l) Q E w :=
  LY.val _ (w.alloc (.map #[] 0)) hd (fun ac ha => by simp [execOp, Instr.makeMap, newObj, Sem.run]) k (fun _ _ _ _ => rfl) hS
theorem mki {t : TypeId} {u : TypeDesc} {x : Operand} {v : Value} (hx : opd E x = some v) (hu : P.underlying t = some u) (hn : (match u with | .interface _ => true | _ => false) = false) (hd : Nat.blt d n = true) (k : LY st P ds n ops l Q ((d, .iface t v) :: E) w) : LY st P ds n ops (⟨some d, .makeInterface t x, ty, pos, af, none⟩ :: l) Q E w :=
  LY.rd _ hd (fun ac ha w _ => by
    cases u <;> simp_all [execOp, opd_eval ha hx, Instr.makeInterface, underlying, program, Sem.run]) k
theorem mkf0 {f : Fn} (hd : Nat.blt d n = true) (k : LY st P ds n ops l Q ((d, .func f #[] #[]) :: E) w) : LY st P ds n ops (⟨some d, .makeFunc f #[] #[], ty, pos, af, none⟩ :: l) Q E w :=
  LY.rd _ hd (fun ac ha w _ => by simp [execOp, Instr.makeFunc]) k
theorem mkf3 {f : Fn} {x y z : Operand} {v1 v2 v3 : Value} (h1 : opd E x = some v1) (h2 : opd E y = some v2) (h3 : opd E z = some v3) (hd : Nat.blt d n = true) (k : LY st P ds n ops l Q ((d, .func f #[] #[v1, v2, v3]) :: E) w) : LY st P ds n ops (⟨some d, .makeFunc f #[] #[x, y, z], ty, pos, af, none⟩ :: l) Q E w :=
  LY.rd _ hd (fun ac ha w _ => by simp [execOp, Instr.makeFunc, opd_eval ha h1, opd_eval ha h2, opd_eval ha h3]) k
theorem mkf1 {f : Fn} {x : Operand} {v : Value} (hx : opd E x = some v) (hd : Nat.blt d n = true) (k : LY st P ds n ops l Q ((d, .func f #[] #[v]) :: E) w) : LY st P ds n ops (⟨some d, .makeFunc f #[] #[x], ty, pos, af, none⟩ :: l) Q E w :=
  LY.rd _ hd (fun ac ha w _ => by simp [execOp, Instr.makeFunc, opd_eval ha hx]) k
/-- A field of a struct that is a value. -/
theorem fld {s f : Nat} {x : Operand} {cs : Array Value} {v : Value} (hx : opd E x = some (.agg cs)) (hd : Nat.blt d n = true) (hr : ∀ w, (Instr.field s (.agg cs) f).run P w = .ok v w) (k : LY st P ds n ops l Q ((d, v) :: E) w) : LY st P ds n ops (⟨some d, .field s x f, ty, pos, af, none⟩ :: l) Q E w :=
  LY.rd _ hd (fun ac ha w _ => by simp [execOp, opd_eval ha hx, hr]) k

-- slices
theorem ixa {t e : TypeId} {x i : Operand} {b o m c sz : Nat} {κ : IntKind} {j : Int} (hx : opd E x = some (.slice (some ⟨b, o, none⟩) m c)) (hi : opd E i = some (.int κ j)) (hu : P.underlying t = some (.slice e)) (hs : szB P e = some sz) (hd : Nat.blt d n = true) (h0 : 0 ≤ j) (h1 : j < m)
    (k : LY st P ds n ops l Q ((d, .pointer (some ⟨b, o + j.toNat * sz, none⟩)) :: E) w) : LY st P ds n ops (⟨some d, .indexAddr t x i, ty, pos, af, none⟩ :: l) Q E w :=
  LY.rd _ hd (fun ac ha w _ => by simp [execOp, opd_eval ha hx, opd_eval ha hi, Instr.indexAt, asIntOf, underlying, program, Sem.run, hu, h0, h1, run_sizeOf hs, add_at]) k
theorem slV {t e : TypeId} {x lo hi : Operand} {a : Option Addr} {m c sz : Nat} {κ κ' : IntKind} {i j : Int} (hx : opd E x = some (.slice a m c)) (hl : opd E lo = some (.int κ i)) (hh : opd E hi = some (.int κ' j)) (hu : P.underlying t = some (.slice e)) (hs : szB P e = some sz) (hd : Nat.blt d n = true) (h0 : 0 ≤ i) (h1 : i ≤ j) (h2 : j ≤ c)
    (k : LY st P ds n ops l Q ((d, .slice (if c = i.toNat then a else a.map (·.add (i.toNat * sz))) (j.toNat - i.toNat) (c - i.toNat)) :: E) w) : LY st P ds n ops (⟨some d, .slice t x (some lo) (some hi) none, ty, pos, af, none⟩ :: l) Q E w :=
  LY.rd _ hd (fun ac ha w _ => by
    have h3 : 0 ≤ j ∧ j ≤ (c : Int) := ⟨by omega, h2⟩
    have h4 : 0 ≤ i ∧ i ≤ (j.toNat : Int) := ⟨h0, by omega⟩
    simp only [execOp, opd_eval ha hx, opd_eval ha hl, opd_eval ha hh, Option.map_some, Option.map_none, Instr.sliceAt, Instr.slice, Instr.sliceBounds, Instr.sliceBound, asIntOf, underlying, program, Sem.run_bind, Sem.run, Result.andThen_ok, hu, Sem.run_pure, Sem.run_ite, if_pos h3, if_pos h4, run_sizeOf hs]) k
theorem slVl {t e : TypeId} {x lo : Operand} {a : Option Addr} {m c sz : Nat} {κ : IntKind} {i : Int} (hx : opd E x = some (.slice a m c)) (hl : opd E lo = some (.int κ i)) (hu : P.underlying t = some (.slice e)) (hs : szB P e = some sz) (hd : Nat.blt d n = true) (h0 : 0 ≤ i) (h1 : i ≤ m)
    (k : LY st P ds n ops l Q ((d, .slice (if c = i.toNat then a else a.map (·.add (i.toNat * sz))) (m - i.toNat) (c - i.toNat)) :: E) w) : LY st P ds n ops (⟨some d, .slice t x (some lo) none none, ty, pos, af, none⟩ :: l) Q E w :=
  LY.rd _ hd (fun ac ha w _ => by
    have h4 : 0 ≤ i ∧ i ≤ (m : Int) := ⟨h0, h1⟩
    simp only [execOp, opd_eval ha hx, opd_eval ha hl, Option.map_some, Option.map_none, Instr.sliceAt, Instr.slice, Instr.sliceBounds, Instr.sliceBound, asIntOf, underlying, program, Sem.run_bind, Sem.run, Result.andThen_ok, hu, Sem.run_pure, Sem.run_ite, if_pos h4, run_sizeOf hs]) k
theorem slVh {t e : TypeId} {x hi : Operand} {a : Option Addr} {m c sz : Nat} {κ : IntKind} {j : Int} (hx : opd E x = some (.slice a m c)) (hh : opd E hi = some (.int κ j)) (hu : P.underlying t = some (.slice e)) (hs : szB P e = some sz) (hd : Nat.blt d n = true) (h0 : 0 ≤ j) (h1 : j ≤ c)
    (k : LY st P ds n ops l Q ((d, .slice a j.toNat c) :: E) w) : LY st P ds n ops (⟨some d, .slice t x none (some hi) none, ty, pos, af, none⟩ :: l) Q E w :=
  LY.rd _ hd (fun ac ha w _ => by
    have h4 : 0 ≤ j ∧ j ≤ (c : Int) := ⟨h0, h1⟩
    have e1 : (if c = 0 then a else a.map (·.add (0 * sz))) = a := by split; rfl; cases a <;> simp [Addr.add]
    simp only [execOp, opd_eval ha hx, opd_eval ha hh, Option.map_some, Option.map_none, Instr.sliceAt, Instr.slice, Instr.sliceBounds, Instr.sliceBound, asIntOf, underlying, program, Sem.run_bind, Sem.run, Result.andThen_ok, hu, Sem.run_pure, Sem.run_ite, if_pos h4, run_sizeOf hs, e1, Nat.sub_zero]) k
end ops

theorem run_results_ct {P : Program} {w : World} {fn : Func} {t u b : Nat} {tt : TypeId} {cs : List Value} {v : Value} {tmps : Array Value} (hr : fn.results = #[.cell t tt, .tmp u]) (ht : tmps.getD t undef = .pointer (some ⟨b, 0, none⟩)) (hu : tmps.getD u undef = v)
    (h1 : aggB P tt = some true) (hs : szB P tt = some cs.length) (hc : ∀ j u, cs[j]? = some u → w.cell? ⟨b, 0 + j, none⟩ = some u) : (results fn tmps).run P w = .ok (.tuple #[.agg cs.toArray, v]) w := by
  have h := run_loadCells_list (P := P) w ⟨b, 0, none⟩ cs (fun j v hj => by rw [add_at]; exact hc j v hj)
  simp only [Array.getD_eq_getD_getElem?] at ht hu
  simp [results, hr, ht, hu, asAddr, loadVar, run_isAgg h1, run_sizeOf hs, h]
/-- A return of a struct that lies in a variable, and of a plain result. -/
theorem N.retCT {P : Program} {n : Nat} {E : Env} {w : World} {fn : Func} {R : Ending → World → Prop} {t u b : Nat} {tt : TypeId} {cs : List Value} {v : Value} (hr : fn.results = #[.cell t tt, .tmp u]) (ht : getE E t = some (.pointer (some ⟨b, 0, none⟩))) (hu : getE E u = some v)
    (h1 : aggB P tt = some true) (hs : szB P tt = some cs.length) (hc : ∀ j u, cs[j]? = some u → w.cell? ⟨b, 0 + j, none⟩ = some u) (h : R (.returned (.tuple #[.agg cs.toArray, v])) w) : N [] n (bodyPost P fn R .ret) E w :=
  fun _ ha => bodyPost_ret (run_results_ct hr (ha.2.2 _ _ ht) (ha.2.2 _ _ hu) h1 hs hc) ha.1 h
theorem row_cells {w : World} {g : Nat} {cs : List Value} {e : TypeId} {f : Nat × Nat} (h : w.heap[g]? = some (.cells cs.toArray e f)) : ∀ j u, cs[j]? = some u → w.cell? ⟨g, 0 + j, none⟩ = some u := fun j u hj => cell_of h (by simpa using hj)
end Go.Proofs.YtmdpmpdlkaogdaaGreatDoor.Vc
