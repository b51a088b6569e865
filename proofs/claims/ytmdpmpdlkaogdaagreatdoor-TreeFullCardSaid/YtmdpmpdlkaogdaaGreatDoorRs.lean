/- Plain laws of sorted lists of files: the document's tree beside the program's. No Go here. -/
import Derived.Test.YtmdpmpdlkaogdaaGreatDoorLr
namespace Go.Proofs.YtmdpmpdlkaogdaaGreatDoor
namespace Tr
open Sp (Cl moved)

/-- In order, each path once. -/
def Sorted (L : T) : Prop := L.Pairwise fun x y => x.1 < y.1
theorem lt_irr (a : Bytes) : ¬ a < a := List.lt_irrefl a
theorem lt_tr {a b c : Bytes} (h : a < b) (k : b < c) : a < c := List.lt_trans h k
theorem lt_le {a b : Bytes} (h : a < b) : a ≤ b := List.le_of_lt h
theorem le_ne {a b : Bytes} (h : a ≤ b) (hn : a ≠ b) : a < b := by
  rcases List.le_iff_lt_or_eq.1 h with h | h
  · exact h
  · exact absurd h hn
theorem not_lt_of {a b : Bytes} (h : ¬ a < b) : b ≤ a := List.not_lt.1 h
theorem Sorted.nodup {L : T} (h : Sorted L) : (L.map (·.1)).Nodup := by
  unfold List.Nodup
  rw [List.pairwise_map]
  exact h.imp fun hlt e => by rw [e] at hlt; exact lt_irr _ hlt
theorem files_sorted {m : T} (hn : (m.map (·.1)).Nodup) : Sorted (files m) := by
  have h1 := List.pairwise_mergeSort (le := fun (x y : Bytes × Nd) => decide (x.1 ≤ y.1)) (fun a b c => le_tr a.1 b.1 c.1) (fun a b => le_tot a.1 b.1) m
  have h2 : ((files m).map (·.1)).Nodup := ((List.mergeSort_perm m _).map _).nodup_iff.2 hn
  unfold List.Nodup at h2
  rw [List.pairwise_map] at h2
  unfold Sorted
  have h3 : (files m).Pairwise fun x y => decide (x.1 ≤ y.1) = true := h1
  exact List.Pairwise.imp₂ (fun a b (h : decide (a.1 ≤ b.1) = true) (k : a.1 ≠ b.1) => le_ne (by simpa using h) k) h3 h2
theorem files_nodup {m : T} (hn : (m.map (·.1)).Nodup) : ((files m).map (·.1)).Nodup := (files_sorted hn).nodup
theorem files_mem {m : T} {p : Bytes × Nd} : p ∈ files m ↔ p ∈ m := (List.mergeSort_perm m _).mem_iff
theorem files_get {m : T} (hn : (m.map (·.1)).Nodup) (k : Bytes) : get (files m) k = get m k := by
  cases h : get m k with
  | some x => exact mem_get (files_nodup hn) (files_mem.2 (get_mem h))
  | none =>
    rw [get_none] at h ⊢
    intro hk
    obtain ⟨x, hx, rfl⟩ := List.mem_map.1 hk
    exact h (List.mem_map.2 ⟨x, files_mem.1 hx, rfl⟩)
theorem files_len (m : T) : (files m).length = m.length := (List.mergeSort_perm m _).length_eq
theorem files_size (m : T) : size (files m) = size m := size_perm (List.mergeSort_perm m _)
theorem sorted_ext {L K : T} (hL : Sorted L) (hK : Sorted K) (h : ∀ k, get L k = get K k) : L = K := by
  have hp := perm_ext hL.nodup hK.nodup h
  refine List.Perm.eq_of_pairwise (le := fun (x y : Bytes × Nd) => x.1 < y.1) (fun a b _ _ h1 h2 => absurd (lt_tr h1 h2) (lt_irr _)) hL hK hp
/-- Who answers as m does, and is in order, is m's files. -/
theorem files_eq_of {L m : T} (hL : Sorted L) (hn : (m.map (·.1)).Nodup) (h : ∀ k, get L k = get m k) : L = files m := sorted_ext hL (files_sorted hn) fun k => by rw [files_get hn, h]

/-- One thing more, in its place. -/
def ins : T → Bytes → Nd → T
  | [], k, x => [(k, x)]
  | p :: L, k, x => if p.1 < k then p :: ins L k x else if p.1 = k then (k, x) :: L else (k, x) :: p :: L
theorem ins_app (pre L : T) (k : Bytes) (x : Nd) (h : ∀ p ∈ pre, p.1 < k) : ins (pre ++ L) k x = pre ++ ins L k x := by
  induction pre with
  | nil => rfl
  | cons p pre ih =>
    rw [List.cons_append, ins, if_pos (h p (by simp)), ih fun q hq => h q (List.mem_cons_of_mem _ hq)]; rfl
theorem ins_mem {L : T} {k : Bytes} {x : Nd} {p : Bytes × Nd} (h : p ∈ ins L k x) : p = (k, x) ∨ p ∈ L := by
  induction L with
  | nil => left; simpa [ins] using h
  | cons q L ih =>
    unfold ins at h
    split at h
    · rcases List.mem_cons.1 h with h | h
      · exact .inr (by simp [h])
      · exact (ih h).imp id (List.mem_cons_of_mem _)
    · split at h
      · rcases List.mem_cons.1 h with h | h
        · exact .inl h
        · exact .inr (List.mem_cons_of_mem _ h)
      · rcases List.mem_cons.1 h with h | h
        · exact .inl h
        · exact .inr h
theorem ins_sorted {L : T} (h : Sorted L) (k : Bytes) (x : Nd) : Sorted (ins L k x) := by
  induction L with
  | nil => simp [ins, Sorted]
  | cons q L ih =>
    have hq := List.pairwise_cons.1 h
    unfold ins
    split
    · rename_i hlt
      refine List.pairwise_cons.2 ⟨fun p hp => ?_, ih hq.2⟩
      rcases ins_mem hp with rfl | hp
      · exact hlt
      · exact hq.1 p hp
    · rename_i hn
      split
      · rename_i he
        refine List.pairwise_cons.2 ⟨fun p hp => ?_, hq.2⟩
        have := hq.1 p hp
        rwa [he] at this
      · rename_i hne
        have hlt : k < q.1 := le_ne (not_lt_of hn) (fun e => hne e.symm)
        refine List.pairwise_cons.2 ⟨fun p hp => ?_, h⟩
        rcases List.mem_cons.1 hp with rfl | hp
        · exact hlt
        · exact lt_tr hlt (hq.1 p hp)
theorem get_ins {L : T} (h : Sorted L) (k : Bytes) (x : Nd) (j : Bytes) : get (ins L k x) j = if j = k then some x else get L j := by
  induction L with
  | nil =>
    unfold ins
    rw [get_cons, get_nil]
    by_cases e : j = k
    · simp [e]
    · have : ¬ k = j := fun h => e h.symm
      simp [e, this]
  | cons q L ih =>
    have hq := List.pairwise_cons.1 h
    unfold ins
    split
    · rename_i hlt
      rw [get_cons, get_cons, ih hq.2]
      by_cases e : q.1 = j
      · have : j ≠ k := fun e2 => by rw [e, e2] at hlt; exact lt_irr _ hlt
        simp [e, this]
      · simp [e]
    · split
      · rename_i he
        rw [get_cons, get_cons]
        by_cases e : j = k
        · simp [e]
        · have h1 : ¬ k = j := fun e2 => e e2.symm
          have h2 : ¬ q.1 = j := fun e2 => e (by rw [← e2, he])
          simp [e, h1, h2]
      · rw [get_cons]
        by_cases e : j = k
        · simp [e]
        · have h1 : ¬ k = j := fun e2 => e e2.symm
          simp [e, h1]
theorem ins_files {m : T} (hn : (m.map (·.1)).Nodup) (k : Bytes) (x : Nd) : ins (files m) k x = files (set m k x) :=
  files_eq_of (ins_sorted (files_sorted hn) k x) (nodup_set k x hn) fun j => by rw [get_ins (files_sorted hn), get_set, files_get hn]
/-- Directories, one behind another. -/
def insL (L : T) (l : List Bytes) : T := l.foldl (fun L d => ins L d (true, [])) L
theorem insL_files : ∀ (l : List Bytes) {m : T}, (m.map (·.1)).Nodup → insL (files m) l = files (make m l) := by
  intro l
  induction l with
  | nil => intro m _; rfl
  | cons d l ih =>
    intro m hn
    show insL (ins (files m) d (true, [])) l = _
    rw [ins_files hn, ih (nodup_set _ _ hn)]; rfl
theorem files_congr {m n : T} (hm : (m.map (·.1)).Nodup) (hn : (n.map (·.1)).Nodup) (h : ∀ k, get m k = get n k) : files m = files n := files_perm hn (perm_ext hm hn h)
theorem filter_sorted {L : T} (h : Sorted L) (f : Bytes × Nd → Bool) : Sorted (L.filter f) := h.sublist List.filter_sublist
theorem get_filter {L : T} (h : (L.map (·.1)).Nodup) (f : Bytes → Bool) (k : Bytes) : get (L.filter fun p => f p.1) k = if f k = true then get L k else none := by
  induction L with
  | nil => simp [get_nil]
  | cons p L ih =>
    rw [List.map_cons, List.nodup_cons] at h
    rw [List.filter_cons]
    by_cases hf : f p.1 = true
    · rw [if_pos hf, get_cons, get_cons, ih h.2]
      by_cases e : p.1 = k
      · rw [if_pos e, if_pos e]; rw [e] at hf; rw [if_pos hf]
      · rw [if_neg e, if_neg e]
    · rw [if_neg hf, ih h.2, get_cons]
      by_cases e : p.1 = k
      · rw [e] at hf; rw [if_neg hf, if_neg hf]
      · rw [if_neg e]
end Tr
end Go.Proofs.YtmdpmpdlkaogdaaGreatDoor
