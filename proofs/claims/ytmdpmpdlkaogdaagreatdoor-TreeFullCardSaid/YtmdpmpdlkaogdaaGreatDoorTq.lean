/- Plain laws of the tree's words. No Go here. -/
import Derived.Test.YtmdpmpdlkaogdaaGreatDoorTr
import Derived.Test.YtmdpmpdlkaogdaaGreatDoorTa
namespace Go.Proofs.YtmdpmpdlkaogdaaGreatDoor
namespace Tr

section generic
variable {α : Type}
theorem get_nil (k : Bytes) : get ([] : List (Bytes × α)) k = none := rfl
theorem get_cons (p : Bytes × α) (m : List (Bytes × α)) (k : Bytes) : get (p :: m) k = if p.1 = k then some p.2 else get m k := by
  unfold get
  rw [List.find?_cons]
  by_cases h : p.1 = k
  · simp [h]
  · have : (p.1 == k) = false := by simpa using h
    simp [this, h]
theorem get_map (m : List (Bytes × α)) (k j : Bytes) (v : α) : get (m.map fun p => if p.1 == k then (k, v) else p) j = if j = k then (get m k).map fun _ => v else get m j := by
  induction m with
  | nil => simp [get_nil]
  | cons p m ih =>
    rw [List.map_cons, get_cons, get_cons, get_cons, ih]
    by_cases hp : p.1 = k
    · have : (p.1 == k) = true := by simpa using hp
      simp only [if_true, hp]
      by_cases hj : j = k
      · simp [hj]
      · have : ¬ k = j := fun e => hj e.symm
        simp [hj, this]
    · have : (p.1 == k) = false := by simpa using hp
      simp only [this, Bool.false_eq_true, if_false, if_neg hp]
      by_cases hj : j = k
      · subst hj; simp [hp]
      · simp [hj]
theorem get_app (a b : List (Bytes × α)) (k : Bytes) : get (a ++ b) k = (get a k).or (get b k) := by
  induction a with
  | nil => simp [get_nil]
  | cons p a ih => rw [List.cons_append, get_cons, get_cons, ih]; split <;> rfl
theorem get_set (m : List (Bytes × α)) (k j : Bytes) (v : α) : get (set m k v) j = if j = k then some v else get m j := by
  unfold set
  split
  · rename_i h
    rw [get_map]
    by_cases hj : j = k
    · rw [if_pos hj, if_pos hj]
      cases hg : get m k with
      | none => rw [get_none] at hg; exact absurd (by simpa using h) hg
      | some x => rfl
    · rw [if_neg hj, if_neg hj]
  · rename_i h
    have hg : get m k = none := get_none.2 (by simpa using h)
    rw [get_app, get_cons, get_nil]
    by_cases hj : j = k
    · subst hj; simp [hg]
    · have : ¬ k = j := fun e => hj e.symm
      simp [hj, this]
theorem keys_set (m : List (Bytes × α)) (k : Bytes) (v : α) : (set m k v).map (·.1) = if k ∈ m.map (·.1) then m.map (·.1) else m.map (·.1) ++ [k] := by
  unfold set
  by_cases h : k ∈ m.map (·.1)
  · rw [if_pos (by simpa using h), if_pos h, List.map_map]
    refine List.map_congr_left fun p _ => ?_
    by_cases hp : p.1 = k
    · simp [hp]
    · simp [hp]
  · rw [if_neg (by simpa using h), if_neg h]; simp
theorem nodup_set {m : List (Bytes × α)} (k : Bytes) (v : α) (h : (m.map (·.1)).Nodup) : ((set m k v).map (·.1)).Nodup := by
  rw [keys_set]
  split
  · exact h
  · rename_i hk
    rw [List.nodup_append]
    exact ⟨h, by simp, fun a ha b hb => by simp at hb; subst hb; intro e; subst e; exact hk ha⟩
theorem mem_set {m : List (Bytes × α)} (hn : (m.map (·.1)).Nodup) (k : Bytes) (v : α) (p : Bytes × α) : p ∈ set m k v ↔ p = (k, v) ∨ (p ∈ m ∧ p.1 ≠ k) := by
  obtain ⟨j, x⟩ := p
  constructor
  · intro h
    have := mem_get (nodup_set k v hn) h
    rw [get_set] at this
    by_cases hj : j = k
    · rw [if_pos hj] at this; cases this; left; rw [hj]
    · rw [if_neg hj] at this; exact .inr ⟨get_mem this, hj⟩
  · rintro (h | ⟨h, hj⟩)
    · cases h; exact get_mem (by rw [get_set, if_pos rfl])
    · exact get_mem (by rw [get_set, if_neg hj]; exact mem_get hn h)
theorem get_del (m : List (Bytes × α)) (k j : Bytes) : get (del m k) j = if j = k then none else get m j := by
  unfold del
  induction m with
  | nil => simp [get_nil]
  | cons p m ih =>
    rw [List.filter_cons, get_cons]
    by_cases hp : p.1 = k
    · have : (!(p.1 == k)) = false := by simpa using hp
      rw [this, if_neg (by simp), ih]
      by_cases hj : j = k
      · simp [hj]
      · have : ¬ p.1 = j := fun e => hj (e ▸ hp)
        simp [hj, this]
    · have : (!(p.1 == k)) = true := by simpa using hp
      rw [this, if_pos rfl, get_cons, ih]
      by_cases hj : j = k
      · subst hj; simp [hp]
      · simp [hj]
theorem nodup_del {m : List (Bytes × α)} (k : Bytes) (h : (m.map (·.1)).Nodup) : ((del m k).map (·.1)).Nodup := (List.filter_sublist.map _).nodup h
theorem mem_del (m : List (Bytes × α)) (k : Bytes) (p : Bytes × α) : p ∈ del m k ↔ p ∈ m ∧ p.1 ≠ k := by simp [del]
theorem len_set (m : List (Bytes × α)) (k : Bytes) (v : α) : (set m k v).length = m.length + if (get m k).isSome then 0 else 1 := by
  have h := congrArg List.length (keys_set m k v)
  simp only [List.length_map] at h
  rw [h]
  cases hg : get m k with
  | none =>
    have := get_none.1 hg
    rw [if_neg this]; simp
  | some x =>
    have : k ∈ m.map (·.1) := List.mem_map.2 ⟨_, get_mem hg, rfl⟩
    rw [if_pos this]; simp
end generic

/-- The bytes at a path. -/
def old (m : T) (k : Bytes) : Nat := ((get m k).getD (true, [])).2.length
theorem size_cons (p : Bytes × Nd) (m : T) : size (p :: m) = p.2.2.length + size m := by simp [size]
theorem size_append (a b : T) : size (a ++ b) = size a + size b := by simp [size]
theorem size_set {m : T} (hn : (m.map (·.1)).Nodup) (k : Bytes) (x : Nd) : size (set m k x) + old m k = size m + x.2.length := by
  unfold set
  by_cases h : k ∈ m.map (·.1)
  · rw [if_pos (by simpa using h)]
    induction m with
    | nil => cases h
    | cons p m ih =>
      simp only [List.map_cons, List.nodup_cons] at hn
      rw [List.map_cons, size_cons, size_cons]
      unfold old
      rw [get_cons]
      by_cases hp : p.1 = k
      · have h1 : (m.map fun p => if p.1 == k then (k, x) else p) = m := by
          conv => rhs; rw [← List.map_id m]
          refine List.map_congr_left fun q hq => ?_
          have : q.1 ≠ k := fun e => hn.1 (by rw [hp, ← e]; exact List.mem_map.2 ⟨q, hq, rfl⟩)
          simp [this]
        rw [h1]
        simp [hp]; omega
      · have hm : k ∈ m.map (·.1) := by
          rw [List.map_cons, List.mem_cons] at h
          rcases h with h | h
          · exact absurd h.symm hp
          · exact h
        have := ih hn.2 hm
        have hb : (p.1 == k) = false := by simpa using hp
        simp only [hb, Bool.false_eq_true, if_false, if_neg hp]
        unfold old at this
        omega
  · rw [if_neg (by simpa using h), size_append]
    simp [old, get_none.2 h, size]
theorem size_del {m : T} (hn : (m.map (·.1)).Nodup) (k : Bytes) : size (del m k) + old m k = size m := by
  unfold del
  induction m with
  | nil => simp [size, old, get_nil]
  | cons p m ih =>
    simp only [List.map_cons, List.nodup_cons] at hn
    unfold old
    rw [List.filter_cons, size_cons, get_cons]
    by_cases hp : p.1 = k
    · have h1 : List.filter (fun p => !(p.1 == k)) m = m := List.filter_eq_self.2 fun q hq => by
        have : q.1 ≠ k := fun e => hn.1 (by rw [hp, ← e]; exact List.mem_map.2 ⟨q, hq, rfl⟩)
        simpa using this
      have : (!(p.1 == k)) = false := by simpa using hp
      rw [this, if_neg (by simp), h1, if_pos hp]
      simp; omega
    · have : (!(p.1 == k)) = true := by simpa using hp
      rw [this, if_pos rfl, size_cons, if_neg hp]
      have := ih hn.2
      unfold old at this
      omega

theorem make_nil (m : T) : make m [] = m := rfl
theorem make_cons (m : T) (d : Bytes) (l : List Bytes) : make m (d :: l) = make (set m d (true, [])) l := rfl
theorem make_snoc (m : T) (d : Bytes) (l : List Bytes) : make m (l ++ [d]) = set (make m l) d (true, []) := by simp [make]
theorem get_make (l : List Bytes) : ∀ (m : T) (j : Bytes), get (make m l) j = if j ∈ l then some (true, []) else get m j := by
  induction l with
  | nil => intro m j; simp [make_nil]
  | cons d l ih =>
    intro m j
    rw [make_cons, ih, get_set]
    by_cases h1 : j ∈ l
    · simp [h1]
    · by_cases h2 : j = d
      · simp [h2]
      · simp [h1, h2]
theorem nodup_make (l : List Bytes) : ∀ {m : T}, (m.map (·.1)).Nodup → ((make m l).map (·.1)).Nodup := by
  induction l with
  | nil => intro m h; exact h
  | cons d l ih => intro m h; exact ih (nodup_set _ _ h)
theorem size_make (l : List Bytes) : ∀ {m : T}, (m.map (·.1)).Nodup → l.Nodup → (∀ d ∈ l, get m d = none) → size (make m l) = size m := by
  induction l with
  | nil => intro m _ _ _; rfl
  | cons d l ih =>
    intro m hn hl hg
    rw [make_cons, ih (nodup_set _ _ hn) (List.nodup_cons.1 hl).2]
    · have := size_set hn d (true, [])
      simp only [old, hg d (by simp), Option.getD_none, List.length_nil] at this
      omega
    · intro e he
      have hne : e ≠ d := fun h => (List.nodup_cons.1 hl).1 (h ▸ he)
      rw [get_set, if_neg hne]
      exact hg e (by simp [he])
theorem len_make (l : List Bytes) : ∀ {m : T}, l.Nodup → (∀ d ∈ l, get m d = none) → (make m l).length = m.length + l.length := by
  induction l with
  | nil => intro m _ _; rfl
  | cons d l ih =>
    intro m hl hg
    rw [make_cons, ih (List.nodup_cons.1 hl).2, len_set, hg d (by simp)]
    · simp; omega
    · intro e he
      have hne : e ≠ d := fun h => (List.nodup_cons.1 hl).1 (h ▸ he)
      rw [get_set, if_neg hne]
      exact hg e (by simp [he])

theorem aheadF_spec (m : T) : ∀ (n : Nat) (d : Bytes) (l : List Bytes), aheadF m n d = some l → (∀ e ∈ l, get m e = none ∧ e ≠ [] ∧ e.length ≤ d.length) ∧ l.Nodup := by
  intro n
  induction n with
  | zero => intro d l h; cases h; simp
  | succ n ih =>
    intro d l h
    unfold aheadF at h
    by_cases h0 : d = []
    · rw [if_pos h0] at h; cases h; simp
    · rw [if_neg h0] at h
      have hlt := parent_lt h0
      cases hg : get m d with
      | none =>
        rw [hg] at h
        cases hr : aheadF m n (Sp.parent d) with
        | none => rw [hr] at h; cases h
        | some r =>
          rw [hr] at h
          simp only [Option.map_some, Option.some.injEq] at h
          subst h
          obtain ⟨h1, h2⟩ := ih _ _ hr
          refine ⟨fun e he => ?_, List.nodup_cons.2 ⟨fun hm => ?_, h2⟩⟩
          · rcases List.mem_cons.1 he with rfl | he
            · exact ⟨hg, h0, Nat.le_refl _⟩
            · obtain ⟨a, b, c⟩ := h1 e he; exact ⟨a, b, by omega⟩
          · have := (h1 d hm).2.2; omega
      | some x =>
        rw [hg] at h
        simp only at h
        split at h
        · obtain ⟨h1, h2⟩ := ih _ _ h
          exact ⟨fun e he => by obtain ⟨a, b, c⟩ := h1 e he; exact ⟨a, b, by omega⟩, h2⟩
        · cases h
theorem ahead_spec {m : T} {p : Bytes} {l : List Bytes} (h : ahead m p = some l) : (∀ e ∈ l, get m e = none ∧ e ≠ [] ∧ (p ≠ [] → e.length < p.length)) ∧ l.Nodup := by
  obtain ⟨h1, h2⟩ := aheadF_spec m _ _ _ h
  refine ⟨fun e he => ?_, h2⟩
  obtain ⟨a, b, c⟩ := h1 e he
  exact ⟨a, b, fun hp => by have := parent_lt hp; omega⟩
/-- A file or directory put behind the directories that lack. -/
theorem size_put {m : T} {p : Bytes} {l : List Bytes} (hn : (m.map (·.1)).Nodup) (h : ahead m p = some l) (hp : p ≠ []) (x : Nd) : size (set (make m l) p x) + old m p = size m + x.2.length := by
  obtain ⟨h1, h2⟩ := ahead_spec h
  have := size_set (nodup_make l hn) p x
  rw [size_make l hn h2 (fun d hd => (h1 d hd).1)] at this
  have hpl : p ∉ l := fun hm => by have := (h1 p hm).2.2 hp; omega
  unfold old at this ⊢
  rwa [get_make, if_neg hpl] at this
theorem ahead_len {m : T} {p : Bytes} {l : List Bytes} (h : ahead m p = some l) : l.length ≤ p.length := by
  have : ∀ (n : Nat) (d : Bytes) (l : List Bytes), aheadF m n d = some l → l.length ≤ n := by
    intro n
    induction n with
    | zero => intro d l h; cases h; simp
    | succ n ih =>
      intro d l h
      unfold aheadF at h
      split at h
      · cases h; simp
      · split at h
        · cases hr : aheadF m n (Sp.parent d) with
          | none => rw [hr] at h; cases h
          | some r => rw [hr] at h; cases h; have := ih _ _ hr; simp; omega
        · split at h
          · have := ih _ _ h; omega
          · cases h
  exact this _ _ _ h

-- the order of paths
theorem le_tot (a b : Bytes) : (decide (a ≤ b) || decide (b ≤ a)) = true := by
  simp only [Bool.or_eq_true, decide_eq_true_eq]; exact List.le_total a b
theorem le_tr (a b c : Bytes) (h : decide (a ≤ b) = true) (k : decide (b ≤ c) = true) : decide (a ≤ c) = true := by
  simp only [decide_eq_true_eq] at *; exact List.le_trans h k
theorem le_as (a b : Bytes) (h : decide (a ≤ b) = true) (k : decide (b ≤ a) = true) : a = b := by
  simp only [decide_eq_true_eq] at *; exact List.le_antisymm h k
theorem sort_perm {a b : List Bytes} (h : a.Perm b) : sort a = sort b :=
  List.Perm.eq_of_pairwise (fun x y _ _ h k => le_as x y h k) (List.pairwise_mergeSort le_tr le_tot a) (List.pairwise_mergeSort le_tr le_tot b) ((List.mergeSort_perm a _).trans (h.trans (List.mergeSort_perm b _).symm))
theorem mem_sort {l : List Bytes} {k : Bytes} : k ∈ sort l ↔ k ∈ l := (List.mergeSort_perm l _).mem_iff
theorem nodup_sort {l : List Bytes} (h : l.Nodup) : (sort l).Nodup := (List.mergeSort_perm l _).nodup_iff.2 h
theorem mem_below {m : T} {p k : Bytes} : k ∈ below m p ↔ k ∈ m.map (·.1) ∧ Sp.within k p = true := by
  unfold below; rw [mem_sort, List.mem_filter]
theorem nodup_below {m : T} {p : Bytes} (h : (m.map (·.1)).Nodup) : (below m p).Nodup := nodup_sort (List.filter_sublist.nodup h)
theorem len_below (m : T) (p : Bytes) : (below m p).length ≤ m.length := by
  unfold below sort
  rw [List.length_mergeSort]
  have := List.length_filter_le (fun k => Sp.within k p) (m.map (·.1))
  simpa using this
end Tr
end Go.Proofs.YtmdpmpdlkaogdaaGreatDoor
