/- The calculus' laws on maps with strings for keys: a look-up, a store, delete, a range. Nothing here speaks of the program. -/
import Derived.Test.YtmdpmpdlkaogdaaGreatDoorVr
namespace Go.Proofs.YtmdpmpdlkaogdaaGreatDoor.Vc
open Go Go.RowKit

theorem absM_modify (k : List UInt8) (v : Value) : ∀ (es : List MapEntry) (j : Nat), es.findIdx? (fun e => keyB e.key == k) = some j → ((absM es).map (·.1)).Nodup →
    absM (es.modify j fun e => { e with key := .string (S k), val := v }) = (absM es).map (fun p => if p.1 == k then (k, v) else p) := by
  intro es
  induction es with
  | nil => intro j h; simp at h
  | cons e es ih =>
    intro j h hn
    simp only [List.findIdx?_cons] at h
    simp only [absM, List.map_cons, List.nodup_cons] at hn
    cases hb : (keyB e.key == k) with
    | true =>
      simp only [hb, if_true, Option.some.injEq] at h
      subst h
      have hk : keyB e.key = k := by simpa using hb
      have hno : ∀ p ∈ absM es, (p.1 == k) = false := by
        intro p hp
        simp only [beq_eq_false_iff_ne]
        intro hpk
        apply hn.1
        rw [hk]
        exact List.mem_map.2 ⟨p, hp, hpk⟩
      simp only [List.modify_zero_cons, absM, List.map_cons, hb, if_true]
      rw [show keyB (Value.string (S k)) = k from rfl]
      refine congrArg _ ?_
      symm
      calc (absM es).map (fun p => if p.1 == k then (k, v) else p) = (absM es).map id := List.map_congr_left fun p hp => by simp [hno p hp]
        _ = _ := by simp [absM]
    | false =>
      simp only [hb, Bool.false_eq_true, if_false] at h
      cases hj : List.findIdx? (fun e => keyB e.key == k) es with
      | none => rw [hj] at h; cases h
      | some i =>
        rw [hj] at h
        simp at h
        subst h
        have := ih i hj (by simpa [absM] using hn.2)
        simp only [List.modify_succ_cons, absM, List.map_cons, hb, Bool.false_eq_true, if_false] at this ⊢
        rw [this]

theorem findIdx_mem (k : List UInt8) (es : List MapEntry) : (es.findIdx? (fun e => keyB e.key == k)).isSome = ((absM es).map (·.1)).contains k := by
  rw [List.findIdx?_isSome, Bool.eq_iff_iff]
  simp only [List.any_eq_true, List.contains_iff_mem, List.mem_map, absM, beq_iff_eq]
  constructor
  · rintro ⟨e, he, hk⟩; exact ⟨_, ⟨e, he, rfl⟩, hk⟩
  · rintro ⟨p, ⟨e, he, rfl⟩, hk⟩; exact ⟨e, he, hk⟩

theorem sameBits_S (a : ByteArray) (k : List UInt8) (h : a.data.toList = k) : Instr.sameBits 10000 (.string a) (.string (S k)) = true := by
  subst h; rw [S_of]
  show Instr.sameBits 10000 (.string a) (.string a) = true
  have : (a == a) = true := by
    show (a.data == a.data) = true
    simp
  unfold Instr.sameBits; exact this

section run
variable {P : Program} {w : World} {t kt e r : Nat} {al : AL}

theorem run_mapUpdate (hu : P.underlying t = some (.map kt e)) (hk : P.underlying kt = some .string) (hm : MapAt w r al) (k : List UInt8) (v : Value) :
    ∃ w', (Instr.mapUpdate t (.map (some r)) (.string (S k)) v).run P w = .ok () w' ∧ MapAt w' r (aset al k v) ∧ Ext (fun i => i = r) w w' ∧ w'.heap.size = w.heap.size := by
  obtain ⟨es, c, hr, hok, rfl⟩ := hm
  have hlt := lt_of_obj hr
  have hf := run_findKey_str (P := P) (w := w) hk k hok.str
  have hmem := findIdx_mem k es.toList
  cases hj : List.findIdx? (fun e => keyB e.key == k) es.toList with
  | none =>
    rw [hj] at hf hmem
    simp only [Option.map_none] at hf
    refine ⟨{ w with heap := w.heap.setIfInBounds r (.map (es.push { key := .string (S k), val := v, born := c }) (c + 1)) }, ?_, ⟨es.push { key := .string (S k), val := v, born := c }, c + 1, by simp [hlt], ⟨?_, ?_, ?_, ?_⟩, ?_⟩, Ext.setObj (S := fun i => i = r) w (fun _ => rfl) _, by simp⟩
    · simp only [Instr.mapUpdate, Sem.run_bind, run_underlying hu, Result.andThen_ok, getObj, Sem.run, hr, run_checkKey_str hk, hf, setObj]
    · intro x hx
      simp only [Array.toList_push, List.mem_append, List.mem_singleton] at hx
      rcases hx with hx | rfl
      · exact hok.str x hx
      · exact ⟨_, rfl⟩
    · intro x hx
      simp only [Array.toList_push, List.mem_append, List.mem_singleton] at hx
      rcases hx with hx | rfl
      · have := hok.born x hx; omega
      · exact Nat.lt_succ_self _
    · simp only [Array.toList_push, List.map_append, List.map_cons, List.map_nil, List.nodup_append, List.nodup_cons, List.not_mem_nil, not_false_eq_true, List.nodup_nil, and_self, true_and, hok.stamps]
      intro a ha b hb
      simp only [List.mem_singleton] at hb
      obtain ⟨x, hx, rfl⟩ := List.mem_map.1 ha
      have := hok.born x hx
      omega
    · have hno : k ∉ (absM es.toList).map (·.1) := by
        intro h; rw [← List.contains_iff_mem, ← hmem] at h; cases h
      simp only [Array.toList_push, absM, List.map_append, List.map_cons, List.map_nil, List.nodup_append, List.nodup_cons, List.not_mem_nil, not_false_eq_true, List.nodup_nil, and_self, true_and]
      refine ⟨by simpa [absM] using hok.keys, ?_⟩
      intro a ha b hb
      simp only [List.mem_singleton] at hb
      have hkk : keyB (Value.string (S k)) = k := rfl
      rw [hkk] at hb
      subst hb
      intro hab
      subst hab
      exact hno (by simpa [absM] using ha)
    · have : ((absM es.toList).map (·.1)).contains k = false := by rw [← hmem]; rfl
      simp only [aset, this, Bool.false_eq_true, if_false]
      simp [absM, keyB, S]
  | some j =>
    rw [hj] at hf hmem
    simp only [Option.map_some] at hf
    obtain ⟨hjl, hjk, _⟩ := List.findIdx?_eq_some_iff_getElem.1 hj
    obtain ⟨s, hs⟩ := hok.str es.toList[j] (List.getElem_mem _)
    have hkey : s.data.toList = k := by
      have : keyB es.toList[j].key = k := by simpa using hjk
      rw [hs] at this; exact this
    have hjs : j < es.size := by simpa using hjl
    have hget : (es[j]?).map (·.key) = some (.string s) := by
      simp only [Array.getElem?_eq_getElem hjs, Option.map_some]
      rw [← hs]; simp
    have hkeep : (Instr.keyThatStays (.string s) (.string (S k))).run P w = .ok (.string (S k)) w := by
      simp [Instr.keyThatStays, sameBits_S s k hkey]
    have hm := absM_modify k v es.toList j hj hok.keys
    have hmod : ∀ {β : Type} (f : MapEntry → β) (hf : ∀ e : MapEntry, f { e with key := Value.string (S k), val := v } = f e), (es.toList.modify j fun e => { e with key := Value.string (S k), val := v }).map f = es.toList.map f := by
      intro β f hf'
      apply List.ext_getElem?
      intro i
      simp only [List.getElem?_map, List.getElem?_modify]
      cases es.toList[i]? with
      | none => simp
      | some x => simp; split <;> simp [hf']
    refine ⟨{ w with heap := w.heap.setIfInBounds r (.map (es.modify j fun e => { e with key := .string (S k), val := v }) c) }, ?_, ⟨es.modify j fun e => { e with key := .string (S k), val := v }, c, by simp [hlt], ⟨?_, ?_, ?_, ?_⟩, ?_⟩, Ext.setObj (S := fun i => i = r) w (fun _ => rfl) _, by simp⟩
    · simp only [Instr.mapUpdate, Sem.run_bind, run_underlying hu, Result.andThen_ok, getObj, Sem.run, hr, run_checkKey_str hk, hf, setObj, hget, Option.getD_some, hkeep]
    · intro x hx
      rw [Array.toList_modify] at hx
      obtain ⟨i, hi, rfl⟩ := List.mem_iff_getElem.1 hx
      rw [List.getElem_modify]
      split
      · exact ⟨_, rfl⟩
      · exact hok.str _ (List.getElem_mem _)
    · intro x hx
      have h1 : x.born ∈ (es.toList.modify j fun e => { e with key := Value.string (S k), val := v }).map (·.born) := List.mem_map.2 ⟨x, by rw [← Array.toList_modify]; exact hx, rfl⟩
      rw [hmod (·.born) (fun _ => rfl)] at h1
      obtain ⟨y, hy, hxy⟩ := List.mem_map.1 h1
      rw [← hxy]; exact hok.born y hy
    · rw [Array.toList_modify, hmod (·.born) (fun _ => rfl)]; exact hok.stamps
    · rw [Array.toList_modify, hm, List.map_map]
      have : ((fun p : List UInt8 × Value => p.1) ∘ fun p => if p.1 == k then (k, v) else p) = (·.1) := by
        funext p; simp only [Function.comp]; split
        · rename_i h; simp at h; exact h.symm
        · rfl
      rw [this]; exact hok.keys
    · have : ((absM es.toList).map (·.1)).contains k = true := by rw [← hmem]; rfl
      rw [Array.toList_modify, hm, aset, this, if_pos rfl]

theorem absM_erase (k : List UInt8) : ∀ (es : List MapEntry) (j : Nat), es.findIdx? (fun e => keyB e.key == k) = some j → ((absM es).map (·.1)).Nodup → absM (es.eraseIdx j) = adel (absM es) k := by
  intro es
  induction es with
  | nil => intro j h; simp at h
  | cons e es ih =>
    intro j h hn
    simp only [List.findIdx?_cons] at h
    simp only [absM, List.map_cons, List.nodup_cons] at hn
    cases hb : (keyB e.key == k) with
    | true =>
      simp only [hb, if_true, Option.some.injEq] at h
      subst h
      have hk : keyB e.key = k := by simpa using hb
      have hno : ∀ p ∈ absM es, (!(p.1 == k)) = true := by
        intro p hp
        simp only [Bool.not_eq_true', beq_eq_false_iff_ne]
        intro hpk
        apply hn.1
        rw [hk]
        exact List.mem_map.2 ⟨p, hp, hpk⟩
      simp only [List.eraseIdx_zero, List.tail_cons, adel, absM, List.map_cons, List.filter_cons, hb, Bool.not_true, Bool.false_eq_true, if_false]
      symm
      exact List.filter_eq_self.2 hno
    | false =>
      simp only [hb, Bool.false_eq_true, if_false] at h
      cases hj : List.findIdx? (fun e => keyB e.key == k) es with
      | none => rw [hj] at h; cases h
      | some i =>
        rw [hj] at h
        simp at h
        subst h
        have := ih i hj (by simpa [absM] using hn.2)
        simp only [List.eraseIdx_cons_succ, adel, absM, List.map_cons, List.filter_cons, hb, Bool.not_false, if_true] at this ⊢
        rw [this]
theorem eraseIdx_sub (es : List MapEntry) (j : Nat) : (es.eraseIdx j).Sublist es := List.eraseIdx_sublist es j

theorem run_delete (hu : P.underlying t = some (.map kt e)) (hk : P.underlying kt = some .string) (hm : MapAt w r al) (k : List UInt8) (tys : Array TypeId) (ht : tys[0]? = some t) (ty : TypeId) :
    ∃ w', (Builtin.delete_ tys ty #[.map (some r), .string (S k)]).run P w = .ok (.tuple #[]) w' ∧ MapAt w' r (adel al k) ∧ Ext (fun i => i = r) w w' ∧ w'.heap.size = w.heap.size := by
  obtain ⟨es, c, hr, hok, rfl⟩ := hm
  have hlt := lt_of_obj hr
  have hf := run_findKey_str (P := P) (w := w) hk k hok.str
  have hmem := findIdx_mem k es.toList
  cases hj : List.findIdx? (fun e => keyB e.key == k) es.toList with
  | none =>
    rw [hj] at hf hmem
    simp only [Option.map_none] at hf
    refine ⟨{ w with heap := w.heap.setIfInBounds r (.map es c) }, ?_, ⟨es, c, by simp [hlt], hok, ?_⟩, Ext.setObj (S := fun i => i = r) w (fun _ => rfl) _, by simp⟩
    · simp [Builtin.delete_, ht, run_underlying hu, getObj, Sem.run, hr, run_checkKey_str hk, hf, setObj]
    · have hno : k ∉ (absM es.toList).map (·.1) := by
        intro h; rw [← List.contains_iff_mem, ← hmem] at h; cases h
      symm
      refine List.filter_eq_self.2 fun p hp => ?_
      simp only [Bool.not_eq_true', beq_eq_false_iff_ne]
      intro h
      exact hno (List.mem_map.2 ⟨p, hp, h⟩)
  | some j =>
    rw [hj] at hf
    simp only [Option.map_some] at hf
    obtain ⟨hjl, _, _⟩ := List.findIdx?_eq_some_iff_getElem.1 hj
    have hjs : j < es.size := by simpa using hjl
    have hel : (es.eraseIdxIfInBounds j).toList = es.toList.eraseIdx j := by simp [Array.eraseIdxIfInBounds, hjs]
    have hsub := eraseIdx_sub es.toList j
    refine ⟨{ w with heap := w.heap.setIfInBounds r (.map (es.eraseIdxIfInBounds j) c) }, ?_, ⟨es.eraseIdxIfInBounds j, c, by simp [hlt], ⟨?_, ?_, ?_, ?_⟩, ?_⟩, Ext.setObj (S := fun i => i = r) w (fun _ => rfl) _, by simp⟩
    · simp [Builtin.delete_, ht, run_underlying hu, getObj, Sem.run, hr, run_checkKey_str hk, hf, setObj]
    · rw [hel]; exact fun x hx => hok.str x (hsub.subset hx)
    · rw [hel]; exact fun x hx => hok.born x (hsub.subset hx)
    · rw [hel]; exact (hsub.map _).nodup hok.stamps
    · rw [hel]; exact ((hsub.map _).map _).nodup hok.keys
    · rw [hel]; exact absM_erase k _ j hj hok.keys

/-- An iterator over map r, of which 'left' is still to come. -/
def IterAt (w : World) (it r : Nat) (al left : AL) : Prop := ∃ es clock seen, w.heap[it]? = some (.mapIter (some r) clock seen clock) ∧ w.heap[r]? = some (.map es clock) ∧ MapOk es.toList clock ∧ absM es.toList = al ∧
  absM (es.toList.filter fun e => !seen.contains e.born) = left

theorem IterAt.ext {S : Nat → Prop} {w w' : World} {it r : Nat} {al left : AL} (h : IterAt w it r al left) (hx : Ext S w w') (h1 : ¬ S it) (h2 : ¬ S r) : IterAt w' it r al left := by
  obtain ⟨es, c, seen, k1, k2, k3⟩ := h
  exact ⟨es, c, seen, hx.obj k1 h1, hx.obj k2 h2, k3⟩
theorem IterAt.map {w : World} {it r : Nat} {al left : AL} (h : IterAt w it r al left) : MapAt w r al := by
  obtain ⟨es, c, seen, k1, k2, k3, k4, _⟩ := h
  exact ⟨es, c, k2, k3, k4⟩

theorem run_range (hu : P.underlying t = some (.map kt e)) (hm : MapAt w r al) :
    ∃ w', (Instr.range t (.map (some r))).run P w = .ok (.pointer (some ⟨w.heap.size, 0, none⟩)) w' ∧ IterAt w' w.heap.size r al al ∧ Ext none_ w w' ∧ w'.heap.size = w.heap.size + 1 := by
  obtain ⟨es, c, hr, hok, rfl⟩ := hm
  refine ⟨w.alloc (.mapIter (some r) c #[] c), ?_, ⟨es, c, #[], heap_new w _, (heap_alloc w _ (lt_of_obj hr)).trans hr, hok, rfl, congrArg absM (List.filter_eq_self.2 (by simp))⟩, Ext.alloc _ _ _, by simp⟩
  simp [Instr.range, run_underlying hu, getObj, Sem.run, hr, newObj]

theorem next_cands (es : Array MapEntry) (c : Nat) (seen : Array Nat) (hb : ∀ e ∈ es.toList, e.born < c) :
    ((es.filter fun e => !seen.contains e.born).filter fun e => decide (e.born < c)) = (es.filter fun e => !seen.contains e.born) ∧ ((es.filter fun e => !seen.contains e.born).filter fun e => decide (e.born ≥ c)) = #[] := by
  constructor
  · apply Array.ext'
    simp only [Array.toList_filter]
    refine List.filter_eq_self.2 fun x hx => ?_
    have := hb x (List.mem_filter.1 hx).1
    simpa using this
  · apply Array.ext'
    simp only [Array.toList_filter]
    refine List.filter_eq_nil_iff.2 fun x hx => ?_
    have := hb x (List.mem_filter.1 hx).1
    simpa using this

/-- What iterator it has come to. -/
def CurAt (w : World) (it r : Nat) (p : List UInt8 × Value) : Prop := ∃ es clock seen e, w.heap[it]? = some (.mapIter (some r) clock (Array.push seen e.born) clock) ∧ w.heap[r]? = some (.map es clock) ∧ MapOk es.toList clock ∧ e ∈ es ∧ e.key = .string (S p.1) ∧ e.val = p.2

theorem run_entry {it : Nat} {p : List UInt8 × Value} (h : CurAt w it r p) : (Instr.entry (.pointer (some ⟨it, 0, none⟩))).run P w = .ok (.tuple #[.string (S p.1), p.2]) w := by
  obtain ⟨es, c, seen, e, h1, h2, hok, hm, hk, hv⟩ := h
  have hf : Array.find? (fun x => x.born == e.born) es = some e := by
    cases hq : Array.find? (fun x => x.born == e.born) es with
    | none =>
      rw [Array.find?_eq_none] at hq
      exact absurd (by simp) (hq e hm)
    | some e' =>
      have h3 := Array.find?_some hq
      have h4 := Array.mem_of_find?_eq_some hq
      simp only [beq_iff_eq] at h3
      congr 1
      have hnd := hok.stamps
      obtain ⟨i, hi, rfl⟩ := List.mem_iff_getElem.1 (show e ∈ es.toList by simpa using hm)
      obtain ⟨j, hj, rfl⟩ := List.mem_iff_getElem.1 (show e' ∈ es.toList by simpa using h4)
      have hb : (es.toList.map (·.born))[j]'(by simpa using hj) = (es.toList.map (·.born))[i]'(by simpa using hi) := by simpa using h3
      have hji : j = i := by
        rcases Nat.lt_trichotomy j i with h | h | h
        · exact absurd hb (List.pairwise_iff_getElem.1 hnd j i (by simpa using hj) (by simpa using hi) h)
        · exact h
        · exact absurd hb.symm (List.pairwise_iff_getElem.1 hnd i j (by simpa using hi) (by simpa using hj) h)
      subst hji; rfl
  simp [Instr.entry, getObj, Sem.run, h1, h2, hf, hk, hv]

theorem run_next {it : Nat} {left : AL} (hi : IterAt w it r al left) (ty : TypeId) :
    (left = [] ∧ (Instr.next (.pointer (some ⟨it, 0, none⟩)) false ty).run P w = .ok (.tuple #[.bool false]) w) ∨
    ∃ l1 p l2 w', left = l1 ++ p :: l2 ∧ (Instr.next (.pointer (some ⟨it, 0, none⟩)) false ty).run P w = .ok (.tuple #[.bool true, .string (S p.1), p.2]) w' ∧ IterAt w' it r al (l1 ++ l2) ∧ Ext (fun i => i = it) w w' ∧ w'.heap.size = w.heap.size ∧ CurAt w' it r p := by
  obtain ⟨es, c, seen, h1, h2, hok, rfl, rfl⟩ := hi
  obtain ⟨hc1, hc2⟩ := next_cands es c seen hok.born
  obtain ⟨le, hle⟩ : ∃ le, es.filter (fun e => !seen.contains e.born) = le := ⟨_, rfl⟩
  have hlel : es.toList.filter (fun e => !seen.contains e.born) = le.toList := by rw [← hle]; simp
  rw [hle] at hc1 hc2
  rw [hlel]
  have hlt := lt_of_obj h1
  have hne : it ≠ r := by intro h; subst h; rw [h1] at h2; cases h2
  have hguard : (!seen.isEmpty && !es.isEmpty && es.all (fun e => decide (e.born ≥ c))) = false := by
    cases hE : es.isEmpty with
    | true => simp
    | false =>
      have hpos : 0 < es.size := by
        rcases Nat.eq_zero_or_pos es.size with h | h
        · rw [Array.isEmpty_eq_false_iff_exists_mem] at hE; obtain ⟨x, hx⟩ := hE; have := Array.size_pos_of_mem hx; omega
        · exact h
      have h0 := hok.born es.toList[0] (List.getElem_mem (by simpa using hpos))
      have : es.all (fun e => decide (e.born ≥ c)) = false := by
        rw [Array.all_eq_false]
        refine ⟨0, hpos, ?_⟩
        simp at h0 ⊢; exact h0
      simp [this]
  by_cases he : le = #[]
  · refine .inl ⟨by rw [he]; rfl, ?_⟩
    have hch0 : (choose (.mapNext (((if le.isEmpty then #[none] else #[]) ++ Array.map some (le ++ #[]) : Array (Option MapEntry)).size))).run P w = .ok 0 w := by simp [choose, Sem.run, Question.forced, he]
    have hcand0 : ((if le.isEmpty then #[none] else #[]) ++ Array.map some (le ++ #[]) : Array (Option MapEntry))[0]? = some none := by simp [he]
    simp only [Instr.next, Sem.run_bind, getObj, Sem.run, h1, h2, Result.andThen_ok, hguard, Bool.false_eq_true, if_false, hle, hc1, hc2, hch0, hcand0, Sem.run_pure]
  · right
    have hpos : 0 < le.size := by
      rcases Nat.eq_zero_or_pos le.size with h | h
      · exact absurd (Array.eq_empty_of_size_eq_zero h) he
      · exact h
    have hie : le.isEmpty = false := by simp [he]
    -- which one comes
    obtain ⟨i, w1, hil, hw1, hch⟩ : ∃ i w1, i < le.size ∧ (w1 = w ∨ w1 = w.drew) ∧ (choose (.mapNext le.size)).run P w = .ok i w1 := by
      by_cases hf : le.size ≤ 1
      · exact ⟨0, w, hpos, .inl rfl, by simp [choose, Sem.run, Question.forced, hf]⟩
      · exact ⟨w.tape w.drawn (.mapNext le.size) % le.size, w.drew, Nat.mod_lt _ hpos, .inr rfl, by simp [choose, Sem.run, Question.forced, hf, Question.cut]⟩
    have hheap : w1.heap = w.heap := by rcases hw1 with rfl | rfl <;> rfl
    have hin : ∀ x ∈ le, x ∈ es := by rw [← hle]; intro x hx; exact (Array.mem_filter.1 hx).1
    have hmem : le[i] ∈ es := hin _ (Array.getElem_mem hil)
    obtain ⟨s, hs⟩ := hok.str le[i] (by simpa using hmem)
    have hcand : ((if le.isEmpty then #[none] else #[]) ++ Array.map some (le ++ #[]))[i]? = some (some le[i]) := by simp [hie, hil]
    have hsz : ((if le.isEmpty then #[none] else #[]) ++ Array.map some (le ++ #[]) : Array (Option MapEntry)).size = le.size := by simp [hie]
    have hsp : le.toList = le.toList.take i ++ le[i] :: le.toList.drop (i + 1) := by
      rw [show le[i] = le.toList[i]'(by simpa using hil) by simp]
      rw [← List.drop_eq_getElem_cons, List.take_append_drop]
    have hnd : (le.toList.map (·.born)).Nodup := by rw [← hlel]; exact (List.filter_sublist.map _).nodup hok.stamps
    refine ⟨absM (le.toList.take i), (keyB le[i].key, le[i].val), absM (le.toList.drop (i + 1)), { w1 with heap := w1.heap.setIfInBounds it (.mapIter (some r) c (seen.push le[i].born) c) }, ?_, ?_, ⟨es, c, seen.push le[i].born, by simp [hheap, hlt], ?_, hok, rfl, ?_⟩, ?_, by simp [hheap], es, c, seen, le[i], by simp [hheap, hlt], by rw [hheap]; simp [hne, h2], hok, hmem, by rw [hs]; simp [keyB, S_of], rfl⟩
    · conv => lhs; rw [hsp]
      simp [absM]
    · have hset : (setObj it (.mapIter (some r) c (seen.push le[i].born) c)).run P w1 = .ok () { w1 with heap := w1.heap.setIfInBounds it (.mapIter (some r) c (seen.push le[i].born) c) } := by simp [setObj, Sem.run, hheap, h1]
      have hkS : le[i].key = .string (S (keyB le[i].key)) := by rw [hs]; simp [keyB, S_of]
      simp only [Instr.next, Sem.run_bind, getObj, Sem.run, h1, h2, Result.andThen_ok, hguard, Bool.false_eq_true, if_false, hle, hc1, hc2, hsz, hch, hcand, hset, Sem.run_pure, ← hkS]
    · rw [hheap] ; simp [hne, h2]
    · have : es.toList.filter (fun e => !(seen.push le[i].born).contains e.born) = (le.toList.take i ++ le.toList.drop (i + 1)) := by
        have e1 : es.toList.filter (fun e => !(seen.push le[i].born).contains e.born) = le.toList.filter (fun e => !(e.born == le[i].born)) := by
          rw [← hlel, List.filter_filter]
          congr 1
          funext x
          rw [Bool.eq_iff_iff]
          simp only [Array.contains_push, Bool.not_or, Bool.and_eq_true, Bool.not_eq_true', beq_eq_false_iff_ne]
          constructor
          · rintro ⟨h1, h2⟩; exact ⟨fun h => h2 (by rw [h]), h1⟩
          · rintro ⟨h1, h2⟩; exact ⟨h2, fun h => h1 (by rw [h])⟩
        obtain ⟨lA, hA⟩ : ∃ lA, le.toList.take i = lA := ⟨_, rfl⟩
        obtain ⟨lB, hB⟩ : ∃ lB, le.toList.drop (i + 1) = lB := ⟨_, rfl⟩
        rw [hA, hB] at hsp ⊢
        rw [e1, hsp, List.filter_append, List.filter_cons]
        simp only [beq_self_eq_true, Bool.not_true, Bool.false_eq_true, if_false]
        rw [hsp] at hnd
        simp only [List.map_append, List.map_cons, List.nodup_append, List.nodup_cons] at hnd
        congr 1
        · refine List.filter_eq_self.2 fun x hx => ?_
          simp only [Bool.not_eq_true', beq_eq_false_iff_ne]
          exact hnd.2.2 _ (List.mem_map.2 ⟨x, hx, rfl⟩) _ (by simp)
        · refine List.filter_eq_self.2 fun x hx => ?_
          simp only [Bool.not_eq_true', beq_eq_false_iff_ne]
          intro hxb
          exact hnd.2.1.1 (List.mem_map.2 ⟨x, hx, hxb⟩)
      rw [this]; simp [absM]
    · refine ⟨?_, ?_, ?_, by simp [hheap], fun k hk hn => ?_⟩
      · rcases hw1 with rfl | rfl <;> rfl
      · rcases hw1 with rfl | rfl <;> rfl
      · rcases hw1 with rfl | rfl <;> rfl
      · have : it ≠ k := fun h => hn h.symm
        simp [hheap, this]
end run

section ops
variable {st : Sty} [Wy st] {Fe : Fence} {mm : Nat} [Wd Fe] {P : Program} {ds : List Deferred} {n : Nat} {Q : Exit → Act → World → Prop} {E : Env} {w : World} {ops : Array Oper} {l : List Oper}
variable {d : Nat} {ty : TypeId} {pos : String} {af : Array Edge}

omit [Wd Fe] in
theorem lkuK {t kt e r : Nat} {al : AL} {z : Value} {x y : Operand} {k : List UInt8} (hx : opd E x = some (.map (some r))) (hy : opd E y = some (.string (S k))) (hu : P.underlying t = some (.map kt e)) (hk : P.underlying kt = some .string) (hz : zeroB P e = some z) (hd : Nat.blt d n = true)
    (hm : Kn st w fun w => MapAt w r al) (kk : LY st P ds n ops l Q ((d, (aget al k).getD z) :: E) w) : LY st P ds n ops (⟨some d, .lookup t x y false, ty, pos, af, none⟩ :: l) Q E w :=
  LY.rd _ hd (fun ac ha w hs => by simp [execOp, opd_eval ha hx, opd_eval ha hy, run_lookup hu hk hz (hm w hs) k false]) kk
theorem lku {t kt e r : Nat} {al : AL} {z : Value} {x y : Operand} {k : List UInt8} (hx : opd E x = some (.map (some r))) (hy : opd E y = some (.string (S k))) (hu : P.underlying t = some (.map kt e)) (hk : P.underlying kt = some .string) (hz : zeroB P e = some z) (hd : Nat.blt d n = true)
    (hm : MapAt w r al) (kk : L Fe mm P ds n ops l Q ((d, (aget al k).getD z) :: E) w) : L Fe mm P ds n ops (⟨some d, .lookup t x y false, ty, pos, af, none⟩ :: l) Q E w := lkuK hx hy hu hk hz hd (Kn.here hm) kk
omit [Wd Fe] in
theorem mupY {t kt e r : Nat} {al : AL} {x y z : Operand} {k : List UInt8} {v : Value} (hx : opd E x = some (.map (some r))) (hy : opd E y = some (.string (S k))) (hz : opd E z = some v) (hu : P.underlying t = some (.map kt e)) (hk : P.underlying kt = some .string)
    (hm : MapAt w r al) (kk : ∀ w', MapAt w' r (aset al k v) → Ext (fun i => i = r) w w' → w'.heap.size = w.heap.size → st.keeps l w w' ∧ LY st P ds n ops l Q E w') : LY st P ds n ops (⟨none, .mapUpdate t x y z, ty, pos, af, none⟩ :: l) Q E w := by
  obtain ⟨w', hr, h1, h2, h3⟩ := run_mapUpdate hu hk hm k v
  obtain ⟨hs, kk⟩ := kk w' h1 h2 h3
  exact LY.act w' (fun ac ha => by simp [execOp, opd_eval ha hx, opd_eval ha hy, opd_eval ha hz, hr]) kk (fun _ _ _ _ => rfl) hs
theorem mup {t kt e r : Nat} {al : AL} {x y z : Operand} {k : List UInt8} {v : Value} (hx : opd E x = some (.map (some r))) (hy : opd E y = some (.string (S k))) (hz : opd E z = some v) (hu : P.underlying t = some (.map kt e)) (hk : P.underlying kt = some .string)
    (hm : MapAt w r al) (kk : ∀ w', MapAt w' r (aset al k v) → Ext (fun i => i = r) w w' → w'.heap.size = w.heap.size → L Fe mm P ds n ops l Q E w') : L Fe mm P ds n ops (⟨none, .mapUpdate t x y z, ty, pos, af, none⟩ :: l) Q E w :=
  mupY (st := .plain Fe mm) hx hy hz hu hk hm fun w' a b c => ⟨trivial, kk w' a b c⟩
theorem del {t kt e r : Nat} {al : AL} {x y : Operand} {k : List UInt8} {tys : Array TypeId} (hx : opd E x = some (.map (some r))) (hy : opd E y = some (.string (S k))) (ht : tys[0]? = some t) (hu : P.underlying t = some (.map kt e)) (hk : P.underlying kt = some .string)
    (hm : MapAt w r al) (kk : ∀ w', MapAt w' r (adel al k) → Ext (fun i => i = r) w w' → w'.heap.size = w.heap.size → L Fe mm P ds n ops l Q E w') : L Fe mm P ds n ops (⟨none, .call ⟨.builtin .delete, #[x, y], tys⟩, ty, pos, af, none⟩ :: l) Q E w := by
  obtain ⟨w', hr, h1, h2, h3⟩ := run_delete (P := P) hu hk hm k tys ht ty
  exact LY.drop (y := .plain Fe mm) (.tuple #[]) w' (fun ac ha => by simp [execOp, resolve, opd_eval ha hx, opd_eval ha hy, invoke, builtin, hr]) (kk w' h1 h2 h3) (fun _ _ _ h => by cases h) trivial
theorem rng {t kt e r : Nat} {al : AL} {x : Operand} (hx : opd E x = some (.map (some r))) (hu : P.underlying t = some (.map kt e)) (hd : Nat.blt d n = true) (hm : MapAt w r al)
    (kk : ∀ w', IterAt w' w.heap.size r al al → Ext none_ w w' → w'.heap.size = w.heap.size + 1 → L Fe mm P ds n ops l Q ((d, .pointer (some ⟨w.heap.size, 0, none⟩)) :: E) w') : L Fe mm P ds n ops (⟨some d, .range t x, ty, pos, af, none⟩ :: l) Q E w := by
  obtain ⟨w', hr, h1, h2, h3⟩ := run_range (P := P) hu hm
  exact L.val _ w' hd (fun ac ha => by simp [execOp, opd_eval ha hx, hr]) (kk w' h1 h2 h3)
theorem nxt {it r : Nat} {al left : AL} {x : Operand} (hx : opd E x = some (.pointer (some ⟨it, 0, none⟩))) (hd : Nat.blt d n = true) (hi : IterAt w it r al left)
    (k0 : left = [] → L Fe mm P ds n ops l Q ((d, .tuple #[.bool false]) :: E) w)
    (k1 : ∀ l1 p l2 w', left = l1 ++ p :: l2 → IterAt w' it r al (l1 ++ l2) → Ext (fun i => i = it) w w' → w'.heap.size = w.heap.size → CurAt w' it r p → L Fe mm P ds n ops l Q ((d, .tuple #[.bool true, .string (S p.1), p.2]) :: E) w') : L Fe mm P ds n ops (⟨some d, .next x false, ty, pos, af, none⟩ :: l) Q E w := by
  rcases run_next (P := P) hi ty with ⟨h0, hr⟩ | ⟨l1, p, l2, w', h0, hr, h1, h2, h3, h4⟩
  · exact L.val _ w hd (fun ac ha => by simp [execOp, opd_eval ha hx, hr]) (k0 h0)
  · exact L.val _ w' hd (fun ac ha => by simp [execOp, opd_eval ha hx, hr]) (k1 l1 p l2 w' h0 h1 h2 h3 h4)
theorem ent {it r : Nat} {p : List UInt8 × Value} {x : Operand} (hx : opd E x = some (.pointer (some ⟨it, 0, none⟩))) (hd : Nat.blt d n = true) (hc : CurAt w it r p)
    (k : L Fe mm P ds n ops l Q ((d, .tuple #[.string (S p.1), p.2]) :: E) w) : L Fe mm P ds n ops (⟨some d, .entry x, ty, pos, af, none⟩ :: l) Q E w :=
  L.val _ w hd (fun ac ha => by simp [execOp, opd_eval ha hx, run_entry hc]) k
end ops
end Go.Proofs.YtmdpmpdlkaogdaaGreatDoor.Vc
