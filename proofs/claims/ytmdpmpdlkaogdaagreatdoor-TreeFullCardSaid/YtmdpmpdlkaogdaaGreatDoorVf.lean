/- The calculus: a region in which two operations that write may come in either order. Nothing here speaks of the program. -/
import Derived.Test.YtmdpmpdlkaogdaaGreatDoorVs
import Derived.Laws.OwnMore
namespace Go.Proofs.YtmdpmpdlkaogdaaGreatDoor.Vc
open Go Go.RowKit

section held
variable {P : Program} {ops : Array Oper} {Q : Exit → Act → World → Prop} {S T : World → Prop} {x : Bool}
theorem wpAnyG_mono (h : ∀ w, S w → T w) : ∀ (fuel : Nat) (listed : Array Bool) (a : Act) (w : World), wpAnyG x P ops Q S fuel listed a w → wpAnyG x P ops Q T fuel listed a w
  | 0, _, _, _, k => k
  | fuel + 1, _, _, _, k => ⟨k.1, fun i hi => wpOp_mono (fun a' w' k' => ⟨k'.1.imp (h w') id, wpAnyG_mono h fuel _ a' w' k'.2⟩) (k.2 i hi)⟩
end held

/-- From here on more is known of all worlds. -/
def nextQ (ts : List Nat) (T : World → Prop) (P : Program) (ops : Array Oper) (Q : Exit → Act → World → Prop) (l : List Oper) : Exit → Act → World → Prop
  | .normal, a, w => ∃ S : World → Prop, (∀ w, S w → T w) ∧ S w ∧ wpHeld ts false S P ops Q l a w
  | e, a, w => Q e a w
/-- What is to be shown where two ways part. -/
def forkQ (ts : List Nat) (T : World → Prop) (P : Program) (ops : Array Oper) (Q : Exit → Act → World → Prop) (u1 l1 u2 l2 : List Oper) : Exit → Act → World → Prop
  | .normal, a, w => wpHeld ts false T P ops (nextQ ts T P ops Q l1) u1 a w ∧ wpHeld ts false T P ops (nextQ ts T P ops Q l2) u2 a w
  | e, a, w => Q e a w
/-- Some alone, then all others. -/
def contB (ts : List Nat) (ops : List Oper) (s : List Nat) : List Nat → Array Bool → Bool
  | [], listed => schedB ts false ops s listed
  | i :: r, listed => decide (i < ops.length) && !rdB ts (nth ops i) && decide (Region.ready .any ops.toArray listed = [i]) && contB ts ops s r (listed.setIfInBounds i true)
/-- Readers, then two that part. -/
def forkB (ts : List Nat) (ops : List Oper) (s1 s2 : List Nat) : List Nat → List Nat → List Nat → Array Bool → Bool
  | [], i :: r, j :: t, listed => decide (i < ops.length) && decide (j < ops.length) && !rdB ts (nth ops i) && !rdB ts (nth ops j) && decide (Region.ready .any ops.toArray listed = [i, j]) && contB ts ops s1 r (listed.setIfInBounds i true) && contB ts ops s2 t (listed.setIfInBounds j true) && Nat.beq (r.length + s1.length) (t.length + s2.length)
  | k :: s, u1, u2, listed => decide (k < ops.length) && rdB ts (nth ops k) && (Region.ready .any ops.toArray listed).contains k && Region.free .any ops.toArray listed k && forkB ts ops s1 s2 s u1 u2 (listed.setIfInBounds k true)
  | _, _, _, _ => false

section held
variable {P : Program} {Q : Exit → Act → World → Prop} {T : World → Prop}
theorem wp_exits {o : Oper} {a : Act} {w : World} {K K' : Act → World → Prop} {Q1 Q2 : Exit → Act → World → Prop} (h : ∀ a w, K a w → K' a w) (hq : ∀ e a w, Q1 e a w → e ≠ .normal → Q2 e a w) (hh : o.wp P a w K Q1) : o.wp P a w K' Q2 := by
  have hp : ∀ c a w, Q1 (.panic c) a w → Q2 (.panic c) a w := fun c a w k => hq _ a w k (by simp)
  have hl : LetsOut Q1 → LetsOut Q2 := fun ⟨a, w, k⟩ => ⟨a, w, hq _ a w k (by simp)⟩
  unfold Oper.wp at *
  generalize (execOp a.eval o).run P w = r at *
  cases r with
  | ok n w' =>
    cases n <;> simp only [Oper.upon] at hh ⊢ <;>
      first
        | exact h _ _ hh
        | exact Calls.mono hh (fun e w'' he => by cases e <;> first | exact h _ _ he | exact hp _ _ _ he | exact hl he | exact he)
        | exact Rows.mono hh (fun _ _ he => h _ _ he)
  | halt x w' => cases x <;> simp only [Oper.upon] at hh ⊢ <;> first | exact hp _ _ _ hh | exact hh
theorem nextQ_panic {ts : List Nat} {ops : Array Oper} {l : List Oper} : ∀ e a w, noPanic (nextQ ts T P ops Q l) e a w → e ≠ .normal → noPanic Q e a w := by
  intro e a w h hn
  cases e <;> first | exact h | exact absurd rfl hn
theorem G_one {K : Exit → Act → World → Prop} {ts : List Nat} {ops : List Oper} {i : Nat} {l : List Oper} {fuel : Nat} {listed : Array Bool} {a : Act} {w : World} (hil : i < ops.length) (hrd : rdB ts (nth ops i) = false)
    (hK : ∀ e a w, noPanic K e a w → e ≠ .normal → noPanic Q e a w)
    (hG : ∀ a' w', wpHeld ts false T P ops.toArray K l a' w' → wpAnyG false P ops.toArray (noPanic Q) T fuel (listed.setIfInBounds i true) a' w') (h : wpHeld ts false T P ops.toArray K (nth ops i :: l) a w) :
    wpOp P ops.toArray (noPanic Q) i (fun a' w' => (T w' ∨ (false = true ∧ i + 1 = ops.toArray.size)) ∧ wpAnyG false P ops.toArray (noPanic Q) T fuel (listed.setIfInBounds i true) a' w') a w := by
  have h0 : ops.toArray[i]? = some (nth ops i) := by simpa using nth_get hil
  simp only [wpHeld] at h
  rcases h with ⟨hr2, -⟩ | ⟨-, h⟩
  · rw [hrd] at hr2; cases hr2
  unfold wpOp
  simp only [h0]
  have hc : ∀ w', (T w' ∨ (false = true ∧ l = [])) → (T w' ∨ (false = true ∧ i + 1 = ops.toArray.size)) := fun w' k => k.elim (fun k => .inl k) fun k => absurd k.1 (by decide)
  by_cases hw : Region.wanted (nth ops i) (yielded ops.toArray a.tmps) = true
  · rw [if_pos hw] at h ⊢
    exact .inl (wp_exits (fun a' w' h' => ⟨hc _ h'.1, hG a' w' h'.2⟩) hK h)
  · rw [if_neg hw] at h ⊢
    exact ⟨hc _ h.1, hG _ _ h.2⟩

theorem G_cont {ts : List Nat} {ops : List Oper} {s : List Nat} (hsel : Region.noSelect ops.toArray = true) : ∀ (u : List Nat) (listed : Array Bool) (a : Act) (w : World), Lasts false ops.toArray listed → contB ts ops s u listed = true →
    wpHeld ts false T P ops.toArray (nextQ ts T P ops.toArray Q (pickL s ops)) (pickL u ops) a w → wpAnyG false P ops.toArray (noPanic Q) T (u.length + s.length) listed a w
  | [], listed, a, w, inv, hB, h => by
    obtain ⟨S, h1, h2, h3⟩ : ∃ S : World → Prop, (∀ w, S w → T w) ∧ S w ∧ wpHeld ts false S P ops.toArray Q (pickL s ops) a w := h
    rw [show ([] : List Nat).length + s.length = s.length by simp]
    exact wpAnyG_mono h1 _ _ _ _ (G_of_held hsel s listed a w inv hB h3)
  | i :: r, listed, a, w, inv, hB, h => by
    simp only [contB, Bool.and_eq_true, decide_eq_true_eq, Bool.not_eq_true'] at hB
    obtain ⟨⟨⟨hi, hri⟩, hready⟩, hB⟩ := hB
    have hi' : i ∈ Region.ready .any ops.toArray listed := by rw [hready]; simp
    rw [show (i :: r).length + s.length = r.length + s.length + 1 by simp; omega]
    refine ⟨fun k => (by rw [hready] at k; cases k), fun k hk => ?_⟩
    rw [hready] at hk
    simp only [List.mem_cons, List.not_mem_nil, or_false] at hk
    subst hk
    exact G_one hi hri nextQ_panic (fun a' w' k => G_cont hsel r _ a' w' (inv.set hi') hB k) h

theorem G_of_fork {ts : List Nat} {ops : List Oper} {s1 s2 u1 u2 : List Nat} (hsel : Region.noSelect ops.toArray = true) : ∀ (s : List Nat) (listed : Array Bool) (a : Act) (w : World), Lasts false ops.toArray listed → forkB ts ops s1 s2 s u1 u2 listed = true →
    wpHeld ts false T P ops.toArray (forkQ ts T P ops.toArray Q (pickL u1 ops) (pickL s1 ops) (pickL u2 ops) (pickL s2 ops)) (pickL s ops) a w → wpAnyG false P ops.toArray (noPanic Q) T (s.length + (u1.length + s1.length)) listed a w
  | [], listed, a, w, inv, hB, h => by
    match u1, u2, hB with
    | i :: r, j :: t, hB =>
      simp only [forkB, Bool.and_eq_true, decide_eq_true_eq, Bool.not_eq_true'] at hB
      obtain ⟨⟨⟨⟨⟨⟨⟨hi, hj⟩, hri⟩, hrj⟩, hready⟩, hBi⟩, hBj⟩, hl⟩ := hB
      have hl := Nat.eq_of_beq_eq_true hl
      obtain ⟨k1, k2⟩ : wpHeld ts false T P ops.toArray (nextQ ts T P ops.toArray Q (pickL s1 ops)) (pickL (i :: r) ops) a w ∧ wpHeld ts false T P ops.toArray (nextQ ts T P ops.toArray Q (pickL s2 ops)) (pickL (j :: t) ops) a w := h
      have hi' : i ∈ Region.ready .any ops.toArray listed := by rw [hready]; simp
      have hj' : j ∈ Region.ready .any ops.toArray listed := by rw [hready]; simp
      rw [show ([] : List Nat).length + ((i :: r).length + s1.length) = r.length + s1.length + 1 by simp; omega]
      refine ⟨fun k => (by rw [hready] at k; cases k), fun k hk => ?_⟩
      rw [hready] at hk
      simp only [List.mem_cons, List.not_mem_nil, or_false] at hk
      rcases hk with rfl | rfl
      · exact G_one hi hri nextQ_panic (fun a' w' q => G_cont hsel r _ a' w' (inv.set hi') hBi q) k1
      · rw [hl]
        exact G_one hj hrj nextQ_panic (fun a' w' q => G_cont hsel t _ a' w' (inv.set hj') hBj q) k2
  | k :: s, listed, a, w, inv, hB, h => by
    have hB' : (decide (k < ops.length) && rdB ts (nth ops k) && (Region.ready .any ops.toArray listed).contains k && Region.free .any ops.toArray listed k && forkB ts ops s1 s2 s u1 u2 (listed.setIfInBounds k true)) = true := by
      rcases u1 with _ | ⟨i, r⟩ <;> rcases u2 with _ | ⟨j, t⟩ <;> exact hB
    simp only [Bool.and_eq_true, decide_eq_true_eq] at hB'
    obtain ⟨⟨⟨⟨hil, hrd⟩, hr⟩, hf⟩, hB2⟩ := hB'
    have h0 : ops.toArray[k]? = some (nth ops k) := by simpa using nth_get hil
    simp only [pickL, wpHeld] at h
    rcases h with ⟨-, hS, v, hy, h⟩ | ⟨hrd', -⟩
    · have hr' : k ∈ Region.ready .any ops.toArray listed := by simpa using hr
      have := G_first (Q := noPanic Q) (x := false) h0 (Region.noSelect_spec hsel) (fun _ _ _ h => h) (fun h => by cases h) (s.length + (u1.length + s1.length)) listed a w inv (Region.free_spec h0 hf) hr' hy hS
        (G_of_fork hsel s _ _ _ (inv.set hr') hB2 h)
      rw [show (k :: s).length + (u1.length + s1.length) = s.length + (u1.length + s1.length) + 1 by simp; omega]
      exact this
    · rw [hrd] at hrd'; cases hrd'

/-- A region whose order is open, with two that write: readers, then u1 and s1, or u2 and s2. -/
theorem W.draw2 {ds : List Deferred} {n mm id : Nat} {l : List Oper} {E : Env} {w : World} (ts : List Nat) (T : World → Prop) (s u1 s1 u2 s2 : List Nat) (hm : P.follows .mixedOrders = true) (hs : Nat.beq (s.length + (u1.length + s1.length)) l.length = true) (hsel : Region.noSelect l.toArray = true) (hB : forkB ts l s1 s2 s u1 u2 (Array.replicate l.length false) = true) (hS : T w.drew)
    (h : LY (.held ts false T) P ds n l.toArray (pickL s l) (forkQ ts T P l.toArray Q (pickL u1 l) (pickL s1 l) (pickL u2 l) (pickL s2 l)) E w.drew) : W Fence.wide mm P ds n (.region id l.toArray true) Q E w := fun a ha => by
  have hlen := Nat.eq_of_beq_eq_true hs
  refine wpIn_wide.2 (wp_mono (Q := noPanic Q) (wp_region_any hm ?_) fun e a w q => by cases e <;> first | exact q | exact q.elim)
  have inv : Lasts false l.toArray (Array.replicate l.length false) := ⟨fun hx => (by cases hx), by simp, fun j oj _ hl => by rw [getD_replicate_false] at hl; cases hl⟩
  have H := G_of_fork hsel s _ a w.drew inv hB (h a ha (.inl hS))
  have := wpAny_of_G _ _ _ _ H
  rw [hlen] at this
  simpa using this
theorem L.forkH {ds : List Deferred} {n : Nat} {E : Env} {w : World} {ts : List Nat} {ops : Array Oper} {u1 u2 l1 l2 : List Oper} (k1 : LY (.held ts false T) P ds n ops u1 (nextQ ts T P ops Q l1) E w) (k2 : LY (.held ts false T) P ds n ops u2 (nextQ ts T P ops Q l2) E w) : LY (.held ts false T) P ds n ops [] (forkQ ts T P ops Q u1 l1 u2 l2) E w :=
  fun a ha hS => ⟨k1 a ha (.inl (hS.elim id fun k => absurd k.1 (by decide))), k2 a ha (.inl (hS.elim id fun k => absurd k.1 (by decide)))⟩
theorem L.nextH {ds : List Deferred} {n : Nat} {E : Env} {w : World} {ts : List Nat} {ops : Array Oper} {l : List Oper} (S : World → Prop) (hST : ∀ w, S w → T w) (hS : S w) (k : LY (.held ts false S) P ds n ops l Q E w) : LY (.held ts false T) P ds n ops [] (nextQ ts T P ops Q l) E w :=
  fun a ha _ => ⟨S, hST, hS, k a ha (.inl hS)⟩
end held

section ops
variable {st : Sty} [Wy st] {P : Program} {ds : List Deferred} {n : Nat} {Q : Exit → Act → World → Prop} {E : Env} {w : World} {ops : Array Oper} {l : List Oper}
variable {d : Nat} {ty : TypeId} {pos : String} {af : Array Edge}
/-- Zeros. -/
theorem mks {t e : TypeId} {x y : Operand} {κ κ' : IntKind} {k : Nat} (hx : opd E x = some (.int κ k)) (hy : opd E y = some (.int κ' k)) (ht : ElT P t e (.int .u8 0) 1 1) (hd : Nat.blt d n = true) (hk : k ≤ 16777216)
    (kk : ∀ w', w'.ownsRow w.heap.size e 1 (.slice (some ⟨w.heap.size, 0, none⟩) k k) k (encB (List.replicate k 0)) → Ext none_ w w' → w'.heap.size = w.heap.size + 1 → st.keeps l w w' ∧ LY st P ds n ops l Q ((d, .slice (some ⟨w.heap.size, 0, none⟩) k k) :: E) w') : LY st P ds n ops (⟨some d, .makeSlice t x y, ty, pos, af, none⟩ :: l) Q E w := by
  obtain ⟨i, hi, hz, hsz, hby⟩ := ht.info
  obtain ⟨w', hr, ho, hg⟩ := run_makeSlice_full (P := P) (w := w) w.heap.size t e i (.int .u8 0) 1 ht.u hi hz hsz κ κ' k (by omega) (by rw [hby]; omega) (by simp [maxLen]; omega) (Nat.le_refl _)
  have hm : (madeCells (Value.int .u8 0).cells (k * 1)).toList = encB (List.replicate k 0) := by
    rw [encB, List.map_replicate]
    refine List.eq_replicate_iff.2 ⟨by simp [size_madeCells], fun u hu => ?_⟩
    simp only [madeCells, Array.toList_map, List.mem_map] at hu
    obtain ⟨i, -, rfl⟩ := hu
    simp [Value.cells, Nat.mod_one]
  rw [hm] at ho
  have hr2 := run_makeSlice (P := P) (w := w) t e i (.int .u8 0) ht.u hi hz κ κ' k k (by omega) (by omega) (by rw [hsz]; omega) (by rw [hby]; omega) (by omega)
  rw [hr] at hr2
  have hw' : w'.heap.size = w.heap.size + 1 := by
    injection hr2 with _ h2
    rw [h2]; simp
  obtain ⟨hs, kk⟩ := kk w' ho ((Ext.grown hg).mono fun _ _ h => by cases h) hw'
  exact LY.val _ w' hd (fun ac ha => by simp [execOp, opd_eval ha hx, opd_eval ha hy, hr]) kk (fun _ _ _ _ => rfl) hs
end ops
end Go.Proofs.YtmdpmpdlkaogdaaGreatDoor.Vc
