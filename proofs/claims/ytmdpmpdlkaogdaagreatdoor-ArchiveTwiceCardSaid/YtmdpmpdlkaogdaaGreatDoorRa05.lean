/- Plain laws of the tree's words. No Go here. Plain laws of paths. No Go here. Walks: (*tree.Tree).put, Write, Append. Walks: (*tree.Tree).Write, Append, Read, Mkdir, Exists, Size. Walks: (*tree.Tree).below, drop, Remove. -/
import Derived.Test.YtmdpmpdlkaogdaaGreatDoorRa03
import Derived.Test.YtmdpmpdlkaogdaaGreatDoorRa04
import Derived.Lib.OwnBridge
import Derived.Sort.OwnSorted

namespace Go.Proofs.YtmdpmpdlkaogdaaGreatDoor
namespace Tr

section generic
variable {α : Type}
theorem get_nil (k : Bytes) : get ([] : List (Bytes × α)) k = none := rfl
theorem get_cons (p : Bytes × α) (m : List (Bytes × α)) (k : Bytes) : get (p :: m) k = if p.1 = k then some p.2 else get m k := by
  unfold get
  rw [List.find?_cons]
  by_cases h : p.1 = k
  · simp [h]
  · have : (p.1 == k) = false := by simpa using h
    simp [this, h]
theorem get_map (m : List (Bytes × α)) (k j : Bytes) (v : α) : get (m.map fun p => if p.1 == k then (k, v) else p) j = if j = k then (get m k).map fun _ => v else get m j := by
  induction m with
  | nil => simp [get_nil]
  | cons p m ih =>
    rw [List.map_cons, get_cons, get_cons, get_cons, ih]
    by_cases hp : p.1 = k
    · have : (p.1 == k) = true := by simpa using hp
      simp only [if_true, hp]
      by_cases hj : j = k
      · simp [hj]
      · have : ¬ k = j := fun e => hj e.symm
        simp [hj, this]
    · have : (p.1 == k) = false := by simpa using hp
      simp only [this, Bool.false_eq_true, if_false, if_neg hp]
      by_cases hj : j = k
      · subst hj; simp [hp]
      · simp [hj]
theorem get_app (a b : List (Bytes × α)) (k : Bytes) : get (a ++ b) k = (get a k).or (get b k) := by
  induction a with
  | nil => simp [get_nil]
  | cons p a ih => rw [List.cons_append, get_cons, get_cons, ih]; split <;> rfl
theorem get_set (m : List (Bytes × α)) (k j : Bytes) (v : α) : get (set m k v) j = if j = k then some v else get m j := by
  unfold set
  split
  · rename_i h
    rw [get_map]
    by_cases hj : j = k
    · rw [if_pos hj, if_pos hj]
      cases hg : get m k with
      | none => rw [get_none] at hg; exact absurd (by simpa using h) hg
      | some x => rfl
    · rw [if_neg hj, if_neg hj]
  · rename_i h
    have hg : get m k = none := get_none.2 (by simpa using h)
    rw [get_app, get_cons, get_nil]
    by_cases hj : j = k
    · subst hj; simp [hg]
    · have : ¬ k = j := fun e => hj e.symm
      simp [hj, this]
theorem keys_set (m : List (Bytes × α)) (k : Bytes) (v : α) : (set m k v).map (·.1) = if k ∈ m.map (·.1) then m.map (·.1) else m.map (·.1) ++ [k] := by
  unfold set
  by_cases h : k ∈ m.map (·.1)
  · rw [if_pos (by simpa using h), if_pos h, List.map_map]
    refine List.map_congr_left fun p _ => ?_
    by_cases hp : p.1 = k
    · simp [hp]
    · simp [hp]
  · rw [if_neg (by simpa using h), if_neg h]; simp
theorem nodup_set {m : List (Bytes × α)} (k : Bytes) (v : α) (h : (m.map (·.1)).Nodup) : ((set m k v).map (·.1)).Nodup := by
  rw [keys_set]
  split
  · exact h
  · rename_i hk
    rw [List.nodup_append]
    exact ⟨h, by simp, fun a ha b hb => by simp at hb; subst hb; intro e; subst e; exact hk ha⟩
theorem mem_set {m : List (Bytes × α)} (hn : (m.map (·.1)).Nodup) (k : Bytes) (v : α) (p : Bytes × α) : p ∈ set m k v ↔ p = (k, v) ∨ (p ∈ m ∧ p.1 ≠ k) := by
  obtain ⟨j, x⟩ := p
  constructor
  · intro h
    have := mem_get (nodup_set k v hn) h
    rw [get_set] at this
    by_cases hj : j = k
    · rw [if_pos hj] at this; cases this; left; rw [hj]
    · rw [if_neg hj] at this; exact .inr ⟨get_mem this, hj⟩
  · rintro (h | ⟨h, hj⟩)
    · cases h; exact get_mem (by rw [get_set, if_pos rfl])
    · exact get_mem (by rw [get_set, if_neg hj]; exact mem_get hn h)
theorem get_del (m : List (Bytes × α)) (k j : Bytes) : get (del m k) j = if j = k then none else get m j := by
  unfold del
  induction m with
  | nil => simp [get_nil]
  | cons p m ih =>
    rw [List.filter_cons, get_cons]
    by_cases hp : p.1 = k
    · have : (!(p.1 == k)) = false := by simpa using hp
      rw [this, if_neg (by simp), ih]
      by_cases hj : j = k
      · simp [hj]
      · have : ¬ p.1 = j := fun e => hj (e ▸ hp)
        simp [hj, this]
    · have : (!(p.1 == k)) = true := by simpa using hp
      rw [this, if_pos rfl, get_cons, ih]
      by_cases hj : j = k
      · subst hj; simp [hp]
      · simp [hj]
theorem nodup_del {m : List (Bytes × α)} (k : Bytes) (h : (m.map (·.1)).Nodup) : ((del m k).map (·.1)).Nodup := (List.filter_sublist.map _).nodup h
theorem mem_del (m : List (Bytes × α)) (k : Bytes) (p : Bytes × α) : p ∈ del m k ↔ p ∈ m ∧ p.1 ≠ k := by simp [del]
theorem len_set (m : List (Bytes × α)) (k : Bytes) (v : α) : (set m k v).length = m.length + if (get m k).isSome then 0 else 1 := by
  have h := congrArg List.length (keys_set m k v)
  simp only [List.length_map] at h
  rw [h]
  cases hg : get m k with
  | none =>
    have := get_none.1 hg
    rw [if_neg this]; simp
  | some x =>
    have : k ∈ m.map (·.1) := List.mem_map.2 ⟨_, get_mem hg, rfl⟩
    rw [if_pos this]; simp
end generic

/-- The bytes at a path. -/
def old (m : T) (k : Bytes) : Nat := ((get m k).getD (true, [])).2.length
theorem size_cons (p : Bytes × Nd) (m : T) : size (p :: m) = p.2.2.length + size m := by simp [size]
theorem size_append (a b : T) : size (a ++ b) = size a + size b := by simp [size]
theorem size_set {m : T} (hn : (m.map (·.1)).Nodup) (k : Bytes) (x : Nd) : size (set m k x) + old m k = size m + x.2.length := by
  unfold set
  by_cases h : k ∈ m.map (·.1)
  · rw [if_pos (by simpa using h)]
    induction m with
    | nil => cases h
    | cons p m ih =>
      simp only [List.map_cons, List.nodup_cons] at hn
      rw [List.map_cons, size_cons, size_cons]
      unfold old
      rw [get_cons]
      by_cases hp : p.1 = k
      · have h1 : (m.map fun p => if p.1 == k then (k, x) else p) = m := by
          conv => rhs; rw [← List.map_id m]
          refine List.map_congr_left fun q hq => ?_
          have : q.1 ≠ k := fun e => hn.1 (by rw [hp, ← e]; exact List.mem_map.2 ⟨q, hq, rfl⟩)
          simp [this]
        rw [h1]
        simp [hp]; omega
      · have hm : k ∈ m.map (·.1) := by
          rw [List.map_cons, List.mem_cons] at h
          rcases h with h | h
          · exact absurd h.symm hp
          · exact h
        have := ih hn.2 hm
        have hb : (p.1 == k) = false := by simpa using hp
        simp only [hb, Bool.false_eq_true, if_false, if_neg hp]
        unfold old at this
        omega
  · rw [if_neg (by simpa using h), size_append]
    simp [old, get_none.2 h, size]
theorem size_del {m : T} (hn : (m.map (·.1)).Nodup) (k : Bytes) : size (del m k) + old m k = size m := by
  unfold del
  induction m with
  | nil => simp [size, old, get_nil]
  | cons p m ih =>
    simp only [List.map_cons, List.nodup_cons] at hn
    unfold old
    rw [List.filter_cons, size_cons, get_cons]
    by_cases hp : p.1 = k
    · have h1 : List.filter (fun p => !(p.1 == k)) m = m := List.filter_eq_self.2 fun q hq => by
        have : q.1 ≠ k := fun e => hn.1 (by rw [hp, ← e]; exact List.mem_map.2 ⟨q, hq, rfl⟩)
        simpa using this
      have : (!(p.1 == k)) = false := by simpa using hp
      rw [this, if_neg (by simp), h1, if_pos hp]
      simp; omega
    · have : (!(p.1 == k)) = true := by simpa using hp
      rw [this, if_pos rfl, size_cons, if_neg hp]
      have := ih hn.2
      unfold old at this
      omega

theorem make_nil (m : T) : make m [] = m := rfl
theorem make_cons (m : T) (d : Bytes) (l : List Bytes) : make m (d :: l) = make (set m d (true, [])) l := rfl
theorem make_snoc (m : T) (d : Bytes) (l : List Bytes) : make m (l ++ [d]) = set (make m l) d (true, []) := by simp [make]
theorem get_make (l : List Bytes) : ∀ (m : T) (j : Bytes), get (make m l) j = if j ∈ l then some (true, []) else get m j := by
  induction l with
  | nil => intro m j; simp [make_nil]
  | cons d l ih =>
    intro m j
    rw [make_cons, ih, get_set]
    by_cases h1 : j ∈ l
    · simp [h1]
    · by_cases h2 : j = d
      · simp [h2]
      · simp [h1, h2]
theorem nodup_make (l : List Bytes) : ∀ {m : T}, (m.map (·.1)).Nodup → ((make m l).map (·.1)).Nodup := by
  induction l with
  | nil => intro m h; exact h
  | cons d l ih => intro m h; exact ih (nodup_set _ _ h)
theorem size_make (l : List Bytes) : ∀ {m : T}, (m.map (·.1)).Nodup → l.Nodup → (∀ d ∈ l, get m d = none) → size (make m l) = size m := by
  induction l with
  | nil => intro m _ _ _; rfl
  | cons d l ih =>
    intro m hn hl hg
    rw [make_cons, ih (nodup_set _ _ hn) (List.nodup_cons.1 hl).2]
    · have := size_set hn d (true, [])
      simp only [old, hg d (by simp), Option.getD_none, List.length_nil] at this
      omega
    · intro e he
      have hne : e ≠ d := fun h => (List.nodup_cons.1 hl).1 (h ▸ he)
      rw [get_set, if_neg hne]
      exact hg e (by simp [he])
theorem len_make (l : List Bytes) : ∀ {m : T}, l.Nodup → (∀ d ∈ l, get m d = none) → (make m l).length = m.length + l.length := by
  induction l with
  | nil => intro m _ _; rfl
  | cons d l ih =>
    intro m hl hg
    rw [make_cons, ih (List.nodup_cons.1 hl).2, len_set, hg d (by simp)]
    · simp; omega
    · intro e he
      have hne : e ≠ d := fun h => (List.nodup_cons.1 hl).1 (h ▸ he)
      rw [get_set, if_neg hne]
      exact hg e (by simp [he])

theorem aheadF_spec (m : T) : ∀ (n : Nat) (d : Bytes) (l : List Bytes), aheadF m n d = some l → (∀ e ∈ l, get m e = none ∧ e ≠ [] ∧ e.length ≤ d.length) ∧ l.Nodup := by
  intro n
  induction n with
  | zero => intro d l h; cases h; simp
  | succ n ih =>
    intro d l h
    unfold aheadF at h
    by_cases h0 : d = []
    · rw [if_pos h0] at h; cases h; simp
    · rw [if_neg h0] at h
      have hlt := parent_lt h0
      cases hg : get m d with
      | none =>
        rw [hg] at h
        cases hr : aheadF m n (Sp.parent d) with
        | none => rw [hr] at h; cases h
        | some r =>
          rw [hr] at h
          simp only [Option.map_some, Option.some.injEq] at h
          subst h
          obtain ⟨h1, h2⟩ := ih _ _ hr
          refine ⟨fun e he => ?_, List.nodup_cons.2 ⟨fun hm => ?_, h2⟩⟩
          · rcases List.mem_cons.1 he with rfl | he
            · exact ⟨hg, h0, Nat.le_refl _⟩
            · obtain ⟨a, b, c⟩ := h1 e he; exact ⟨a, b, by omega⟩
          · have := (h1 d hm).2.2; omega
      | some x =>
        rw [hg] at h
        simp only at h
        split at h
        · obtain ⟨h1, h2⟩ := ih _ _ h
          exact ⟨fun e he => by obtain ⟨a, b, c⟩ := h1 e he; exact ⟨a, b, by omega⟩, h2⟩
        · cases h
theorem ahead_spec {m : T} {p : Bytes} {l : List Bytes} (h : ahead m p = some l) : (∀ e ∈ l, get m e = none ∧ e ≠ [] ∧ (p ≠ [] → e.length < p.length)) ∧ l.Nodup := by
  obtain ⟨h1, h2⟩ := aheadF_spec m _ _ _ h
  refine ⟨fun e he => ?_, h2⟩
  obtain ⟨a, b, c⟩ := h1 e he
  exact ⟨a, b, fun hp => by have := parent_lt hp; omega⟩
/-- A file or directory put behind the directories that lack. -/
theorem size_put {m : T} {p : Bytes} {l : List Bytes} (hn : (m.map (·.1)).Nodup) (h : ahead m p = some l) (hp : p ≠ []) (x : Nd) : size (set (make m l) p x) + old m p = size m + x.2.length := by
  obtain ⟨h1, h2⟩ := ahead_spec h
  have := size_set (nodup_make l hn) p x
  rw [size_make l hn h2 (fun d hd => (h1 d hd).1)] at this
  have hpl : p ∉ l := fun hm => by have := (h1 p hm).2.2 hp; omega
  unfold old at this ⊢
  rwa [get_make, if_neg hpl] at this
theorem ahead_len {m : T} {p : Bytes} {l : List Bytes} (h : ahead m p = some l) : l.length ≤ p.length := by
  have : ∀ (n : Nat) (d : Bytes) (l : List Bytes), aheadF m n d = some l → l.length ≤ n := by
    intro n
    induction n with
    | zero => intro d l h; cases h; simp
    | succ n ih =>
      intro d l h
      unfold aheadF at h
      split at h
      · cases h; simp
      · split at h
        · cases hr : aheadF m n (Sp.parent d) with
          | none => rw [hr] at h; cases h
          | some r => rw [hr] at h; cases h; have := ih _ _ hr; simp; omega
        · split at h
          · have := ih _ _ h; omega
          · cases h
  exact this _ _ _ h

-- the order of paths
theorem le_tot (a b : Bytes) : (decide (a ≤ b) || decide (b ≤ a)) = true := by
  simp only [Bool.or_eq_true, decide_eq_true_eq]; exact List.le_total a b
theorem le_tr (a b c : Bytes) (h : decide (a ≤ b) = true) (k : decide (b ≤ c) = true) : decide (a ≤ c) = true := by
  simp only [decide_eq_true_eq] at *; exact List.le_trans h k
theorem le_as (a b : Bytes) (h : decide (a ≤ b) = true) (k : decide (b ≤ a) = true) : a = b := by
  simp only [decide_eq_true_eq] at *; exact List.le_antisymm h k
theorem sort_perm {a b : List Bytes} (h : a.Perm b) : sort a = sort b :=
  List.Perm.eq_of_pairwise (fun x y _ _ h k => le_as x y h k) (List.pairwise_mergeSort le_tr le_tot a) (List.pairwise_mergeSort le_tr le_tot b) ((List.mergeSort_perm a _).trans (h.trans (List.mergeSort_perm b _).symm))
theorem mem_sort {l : List Bytes} {k : Bytes} : k ∈ sort l ↔ k ∈ l := (List.mergeSort_perm l _).mem_iff
theorem nodup_sort {l : List Bytes} (h : l.Nodup) : (sort l).Nodup := (List.mergeSort_perm l _).nodup_iff.2 h
theorem mem_below {m : T} {p k : Bytes} : k ∈ below m p ↔ k ∈ m.map (·.1) ∧ Sp.within k p = true := by
  unfold below; rw [mem_sort, List.mem_filter]
theorem nodup_below {m : T} {p : Bytes} (h : (m.map (·.1)).Nodup) : (below m p).Nodup := nodup_sort (List.filter_sublist.nodup h)
theorem len_below (m : T) (p : Bytes) : (below m p).length ≤ m.length := by
  unfold below sort
  rw [List.length_mergeSort]
  have := List.length_filter_le (fun k => Sp.within k p) (m.map (·.1))
  simpa using this
end Tr
end Go.Proofs.YtmdpmpdlkaogdaaGreatDoor

namespace Go.Proofs.YtmdpmpdlkaogdaaGreatDoor
namespace Sp

/-- A part that stays. -/
def good (x : Bytes) : Prop := x ≠ [] ∧ x ≠ [46] ∧ x ≠ [46, 46] ∧ part x = 0 ∧ 47 ∉ x
def Goods (l : List Bytes) : Prop := ∀ x ∈ l, good x
theorem Goods.nil : Goods [] := fun _ h => by cases h
theorem Goods.app {a b : List Bytes} (h : Goods a) (k : Goods b) : Goods (a ++ b) := fun x hx => (List.mem_append.1 hx).elim (h x) (k x)
theorem Goods.left {a b : List Bytes} (h : Goods (a ++ b)) : Goods a := fun x hx => h x (List.mem_append.2 (.inl hx))
theorem Goods.right {a b : List Bytes} (h : Goods (a ++ b)) : Goods b := fun x hx => h x (List.mem_append.2 (.inr hx))

theorem split_ne (s : Bytes) : Sp.split s ≠ [] := by
  cases s with
  | nil => simp [Sp.split]
  | cons c s =>
    unfold Sp.split
    split
    · simp
    · split <;> simp
theorem split_no (s : Bytes) : ∀ x ∈ Sp.split s, 47 ∉ x := by
  induction s with
  | nil => simp [Sp.split]
  | cons c s ih =>
    unfold Sp.split
    split
    · intro x hx
      rcases List.mem_cons.1 hx with rfl | hx
      · simp
      · exact ih x hx
    · rename_i hc
      split
      · rename_i y l h
        rw [h] at ih
        intro x hx
        rcases List.mem_cons.1 hx with rfl | hx
        · have := ih y (by simp)
          simp only [List.mem_cons, not_or]
          exact ⟨fun e => hc e.symm, this⟩
        · exact ih x (by simp [hx])
      · intro x hx
        simp only [List.mem_cons, List.not_mem_nil, or_false] at hx
        subst hx
        simp only [List.mem_cons, List.not_mem_nil, or_false]
        exact fun e => hc e.symm
theorem split_cons (c : UInt8) (s : Bytes) : Sp.split (c :: s) = if c = 47 then [] :: Sp.split s else match Sp.split s with | x :: l => (c :: x) :: l | [] => [[c]] := rfl
theorem split_app (a b : Bytes) : Sp.split (a ++ 47 :: b) = Sp.split a ++ Sp.split b := by
  induction a with
  | nil => simp [Sp.split]
  | cons c a ih =>
    rw [List.cons_append, split_cons, split_cons c a]
    by_cases hc : c = 47
    · rw [if_pos hc, if_pos hc, ih]; rfl
    · rw [if_neg hc, if_neg hc, ih]
      cases h : Sp.split a with
      | nil => exact absurd h (split_ne a)
      | cons x l => rfl
theorem split_one {x : Bytes} (h : 47 ∉ x) : Sp.split x = [x] := by
  induction x with
  | nil => rfl
  | cons c x ih =>
    simp only [List.mem_cons, not_or] at h
    unfold Sp.split
    rw [if_neg (fun e => h.1 e.symm), ih h.2]
theorem split_glue {l : List Bytes} (h0 : l ≠ []) (h : ∀ x ∈ l, 47 ∉ x) : Sp.split (glue l) = l := by
  induction l with
  | nil => exact absurd rfl h0
  | cons x l ih =>
    cases l with
    | nil => exact split_one (h x (by simp))
    | cons y l =>
      show Sp.split (x ++ 47 :: glue (y :: l)) = _
      rw [split_app, split_one (h x (by simp)), ih (by simp) (fun z hz => h z (by simp only [List.mem_cons] at hz ⊢; exact .inr hz))]
      rfl
theorem Goods.no {l : List Bytes} (h : Goods l) : ∀ x ∈ l, 47 ∉ x := fun x hx => (h x hx).2.2.2.2
theorem glue_app {l t : List Bytes} (h : l ≠ []) (k : t ≠ []) : glue (l ++ t) = glue l ++ 47 :: glue t := by
  induction l with
  | nil => exact absurd rfl h
  | cons x l ih =>
    cases l with
    | nil =>
      cases t with
      | nil => exact absurd rfl k
      | cons y t => rfl
    | cons y l =>
      have := ih (by simp)
      show x ++ 47 :: glue (y :: l ++ t) = (x ++ 47 :: glue (y :: l)) ++ 47 :: glue t
      rw [this]; simp
theorem glue_ne {l : List Bytes} (h : Goods l) (h0 : l ≠ []) : glue l ≠ [] := by
  cases l with
  | nil => exact absurd rfl h0
  | cons x l =>
    have hx := (h x (by simp)).1
    cases l with
    | nil => exact hx
    | cons y l => show x ++ 47 :: _ ≠ []; simp
theorem glue_inj {l k : List Bytes} (h : Goods l) (g : Goods k) (e : glue l = glue k) : l = k := by
  by_cases hl : l = []
  · by_cases hk : k = []
    · rw [hl, hk]
    · rw [hl] at e; exact absurd e.symm (glue_ne g hk)
  · by_cases hk : k = []
    · rw [hk] at e; exact absurd e (glue_ne h hl)
    · rw [← split_glue hl h.no, e, split_glue hk g.no]
theorem glue_len1 {l : List Bytes} (h : l ≠ []) : (glue l).length + 1 = (l.map (fun x => x.length + 1)).sum := by
  induction l with
  | nil => exact absurd rfl h
  | cons x l ih =>
    cases l with
    | nil => simp [glue]
    | cons y l =>
      have := ih (by simp)
      have e : glue (x :: y :: l) = x ++ 47 :: glue (y :: l) := rfl
      rw [e, List.map_cons, List.sum_cons, ← this]
      simp only [List.length_append, List.length_cons]; omega
theorem walk_goods (stay : Nat) : ∀ (xs l : List Bytes), Goods xs → walk stay l xs = if 12 < l.length + xs.length then ([], 50) else (l ++ xs, 0) := by
  intro xs
  induction xs with
  | nil => intro l _; simp [walk]
  | cons x xs ih =>
    intro l h
    obtain ⟨h1, h2, h3, h4, -⟩ := h x (by simp)
    rw [walk_part h1 h2 h3 h4, ih _ (fun y hy => h y (List.mem_cons_of_mem _ hy))]
    simp only [List.length_append, List.length_cons, List.length_nil, List.append_assoc, List.cons_append, List.nil_append]
    rw [show l.length + (0 + 1) + xs.length = l.length + (xs.length + 1) by omega]
theorem walk_ok : ∀ (xs l : List Bytes), (∀ x ∈ xs, 47 ∉ x) → Goods l → (walk 0 l xs).2 = 0 → Goods (walk 0 l xs).1 ∧ (walk 0 l xs).1.length ≤ 12 := by
  intro xs
  induction xs with
  | nil =>
    intro l _ h
    unfold walk
    split
    · intro e; cases e
    · intro _; exact ⟨h, by dsimp only; omega⟩
  | cons x xs ih =>
    intro l hx h
    have hxs : ∀ y ∈ xs, 47 ∉ y := fun y hy => hx y (List.mem_cons_of_mem _ hy)
    unfold walk
    split
    · exact ih l hxs h
    · rename_i h1
      split
      · exact ih l hxs h
      · rename_i h2
        split
        · split
          · intro e; cases e
          · exact ih _ hxs fun y hy => h y (List.dropLast_subset l hy)
        · rename_i h3
          split
          · rename_i h4
            exact ih _ hxs (h.app fun y hy => by
              simp only [List.mem_cons, List.not_mem_nil, or_false] at hy
              subst hy
              exact ⟨h1, h2, h3, h4, hx _ (by simp)⟩)
          · rename_i h4
            intro e; exact absurd e h4

/-- A path in its one form. -/
def Cl (p : Bytes) : Prop := ∃ l, p = glue l ∧ Goods l ∧ l.length ≤ 12 ∧ p.length ≤ 200
theorem clean_glue {l : List Bytes} (h : Goods l) : clean (glue l) = if 200 < (glue l).length ∨ 12 < l.length then ([], 50) else (glue l, 0) := by
  by_cases h1 : 200 < (glue l).length
  · rw [clean_long h1, if_pos (.inl h1)]
  · have hh : (glue l).head? ≠ some 47 := by
      cases l with
      | nil => simp [glue]
      | cons x l =>
        obtain ⟨hx, -, -, -, h5⟩ := h x (by simp)
        cases x with
        | nil => exact absurd rfl hx
        | cons c x =>
          have hc : c ≠ 47 := fun e => h5 (by simp [e])
          cases l with
          | nil => simpa [glue] using hc
          | cons y l => simpa [glue] using hc
    rw [clean_walk h1 hh]
    by_cases h0 : l = []
    · subst h0; rfl
    · rw [split_glue h0 h.no, walk_goods 0 l [] h]
      simp only [List.length_nil, Nat.zero_add, List.nil_append]
      by_cases h2 : 12 < l.length
      · have e : ¬ (50 : Int) = 0 := by decide
        simp [h2, e]
      · have e : ¬ (200 < (glue l).length ∨ 12 < l.length) := by omega
        rw [if_neg e]; simp [h2]
theorem Cl.clean {p : Bytes} (h : Cl p) : clean p = (p, 0) := by
  obtain ⟨l, rfl, h1, h2, h3⟩ := h
  rw [clean_glue h1, if_neg (by omega)]
theorem clean_cl {s : Bytes} (h : (Sp.clean s).2 = 0) : Cl (Sp.clean s).1 := by
  by_cases h1 : 200 < s.length
  · rw [clean_long h1] at h; cases h
  · by_cases hs : s.head? = some 47
    · rw [clean_abs h1 hs] at h; cases h
    · rw [clean_walk h1 hs] at h ⊢
      split at h
      · rename_i he
        rw [if_pos he]
        obtain ⟨g1, g2⟩ := walk_ok (Sp.split s) [] (split_no s) Goods.nil he
        refine ⟨_, rfl, g1, g2, ?_⟩
        dsimp only
        by_cases h0 : (walk 0 [] (Sp.split s)).1 = []
        · rw [h0]; simp [glue]
        · have a := glue_len1 h0
          have b := (walk_bd 0 (Sp.split s) []).1
          have c := split_sum s
          simp only [List.map_nil, List.sum_nil, Nat.zero_add] at b
          omega
      · rename_i he; exact absurd h he
theorem Cl.of {p : Bytes} (h : Sp.clean p = (p, 0)) : Cl p := by
  have := clean_cl (s := p) (by rw [h])
  rwa [h] at this
theorem Cl.nil : Cl [] := ⟨[], rfl, Goods.nil, by simp, by simp⟩

theorem last_app (a x : Bytes) (h : 47 ∉ x) : lastSlash (a ++ 47 :: x) = a.length := by
  have h0 : lastSlash x = -1 := by
    rcases lastSlash_spec x with ⟨e, -⟩ | ⟨i, -, ⟨hi, e⟩, -⟩
    · exact e
    · exact absurd (e ▸ List.getElem_mem hi) h
  induction a with
  | nil => simp [lastSlash, h0]
  | cons c a ih =>
    rw [List.cons_append]
    unfold lastSlash
    simp only [ih, List.length_cons]
    rw [if_pos (by omega)]; omega
theorem parent_glue {l : List Bytes} {x : Bytes} (h : 47 ∉ x) : parent (glue (l ++ [x])) = glue l := by
  by_cases h0 : l = []
  · subst h0
    show parent x = []
    unfold parent
    have h0 : lastSlash x = -1 := by
      rcases lastSlash_spec x with ⟨e, -⟩ | ⟨i, -, ⟨hi, e⟩, -⟩
      · exact e
      · exact absurd (e ▸ List.getElem_mem hi) h
    rw [h0]; rfl
  · rw [glue_app h0 (by simp)]
    unfold parent
    rw [show glue [x] = x from rfl, last_app _ _ h]
    have : (max ((glue l).length : Int) 0).toNat = (glue l).length := by omega
    rw [this, List.take_left']
    rfl
theorem snoc_of {α : Type} {l : List α} (h : l ≠ []) : ∃ k x, l = k ++ [x] := ⟨l.dropLast, l.getLast h, (List.dropLast_concat_getLast h).symm⟩
theorem Cl.parts {p : Bytes} (h : Cl p) (h0 : p ≠ []) : ∃ l x, p = glue (l ++ [x]) ∧ Goods (l ++ [x]) ∧ l.length < 12 ∧ parent p = glue l ∧ p.length ≤ 200 := by
  obtain ⟨l, rfl, h1, h2, h3⟩ := h
  have hl : l ≠ [] := fun e => h0 (by rw [e]; rfl)
  obtain ⟨k, x, rfl⟩ := snoc_of hl
  refine ⟨k, x, rfl, h1, by simp at h2; omega, parent_glue (h1 x (by simp)).2.2.2.2, h3⟩
theorem Cl.up {p : Bytes} (h : Cl p) : Cl (parent p) := by
  by_cases h0 : p = []
  · subst h0; exact Cl.nil
  · obtain ⟨l, x, rfl, h1, h2, h3, h4⟩ := h.parts h0
    rw [h3]
    refine ⟨l, rfl, h1.left, by omega, ?_⟩
    have := parent_le (glue (l ++ [x]))
    rw [h3] at this; omega
theorem within_glue {k d : List Bytes} (hk : Goods k) (hd : Goods d) : within (glue k) (glue d) = true ↔ d <+: k := by
  constructor
  · intro h
    unfold within at h
    simp only [Bool.or_eq_true, beq_iff_eq] at h
    rcases h with (h | h) | h
    · by_cases h0 : d = []
      · subst h0; exact List.nil_prefix
      · exact absurd h (glue_ne hd h0)
    · rw [glue_inj hk hd h]; exact List.prefix_refl _
    · by_cases h0 : d = []
      · subst h0; exact List.nil_prefix
      · obtain ⟨r, hr⟩ := List.isPrefixOf_iff_prefix.1 h
        have hr' : glue k = glue d ++ 47 :: r := by rw [← hr]; simp
        have hk0 : k ≠ [] := by intro e; subst e; simp [glue] at hr'
        have := congrArg Sp.split hr'
        rw [split_glue hk0 hk.no, split_app, split_glue h0 hd.no] at this
        exact ⟨_, this.symm⟩
  · rintro ⟨t, rfl⟩
    unfold within
    simp only [Bool.or_eq_true, beq_iff_eq]
    by_cases h0 : d = []
    · subst h0; exact .inl (.inl rfl)
    · by_cases ht : t = []
      · subst ht; exact .inl (.inr (by simp))
      · refine .inr (List.isPrefixOf_iff_prefix.2 ?_)
        rw [glue_app h0 ht]
        exact ⟨glue t, by simp⟩
theorem within_refl (p : Bytes) : within p p = true := by simp [within]
theorem within_trans {a b c : Bytes} (ha : Cl a) (hb : Cl b) (hc : Cl c) (h : within a b = true) (g : within b c = true) : within a c = true := by
  obtain ⟨la, rfl, ga, -⟩ := ha
  obtain ⟨lb, rfl, gb, -⟩ := hb
  obtain ⟨lc, rfl, gc, -⟩ := hc
  rw [within_glue ga gb] at h
  rw [within_glue gb gc] at g
  exact (within_glue ga gc).2 (g.trans h)
theorem within_parent {p : Bytes} (h : Cl p) : within p (parent p) = true := by
  by_cases h0 : p = []
  · subst h0; rfl
  · obtain ⟨l, x, rfl, h1, -, h3, -⟩ := h.parts h0
    rw [h3, within_glue h1 h1.left]
    exact List.prefix_append _ _
/-- Below d, and not d itself: its parent is at or below d. -/
theorem within_up {p d : Bytes} (hp : Cl p) (hd : Cl d) (h : within p d = true) (hne : p ≠ d) : within (parent p) d = true := by
  by_cases h0 : p = []
  · subst h0
    obtain ⟨l, rfl, g, -⟩ := hd
    have := (within_glue Goods.nil g).1 h
    rw [List.prefix_nil] at this
    subst this
    exact absurd rfl hne
  · obtain ⟨l, x, rfl, h1, -, h3, -⟩ := hp.parts h0
    obtain ⟨k, rfl, g, -⟩ := hd
    rw [within_glue h1 g] at h
    rw [h3, within_glue h1.left g]
    rcases List.prefix_concat_iff.1 h with e | e
    · subst e; exact absurd rfl hne
    · exact e
/-- What a path is told under another one. -/
def moved (n : Nat) (q k : Bytes) : Bytes := q ++ k.drop n
theorem moved_glue {lp lq t : List Bytes} (hp : lp ≠ []) (hq : lq ≠ []) : moved (glue lp).length (glue lq) (glue (lp ++ t)) = glue (lq ++ t) := by
  unfold moved
  by_cases ht : t = []
  · subst ht; simp
  · rw [glue_app hp ht, glue_app hq ht, List.drop_left]
end Sp
end Go.Proofs.YtmdpmpdlkaogdaaGreatDoor

namespace Go.Proofs.YtmdpmpdlkaogdaaGreatDoor
open Go Go.RowKit Vc
variable {A : Nat → Prop}

theorem ok_put : FnOk P 65 := ⟨_, Tryz.func65, by kernel_rfl, by kernel_rfl⟩

theorem glue_len32 (l : List Sp.Bytes) (h : ∀ x ∈ l, x.length ≤ 32) : (Sp.glue l).length ≤ l.length * 33 := by
  induction l with
  | nil => simp [Sp.glue]
  | cons x l ih =>
    have hx := h x (by simp)
    have := ih fun y hy => h y (by simp [hy])
    cases l with
    | nil => simp [Sp.glue]; omega
    | cons y l => simp [Sp.glue] at this ⊢; omega
theorem walk_spec (stay : Nat) : ∀ (xs l : List Sp.Bytes), (∀ x ∈ l, x.length ≤ 32) → (∀ x ∈ (Sp.walk stay l xs).1, x.length ≤ 32) ∧ (Sp.walk stay l xs).1.length ≤ 12 := by
  intro xs
  induction xs with
  | nil =>
    intro l h
    unfold Sp.walk
    split
    · simp
    · exact ⟨h, by dsimp only; omega⟩
  | cons x xs ih =>
    intro l h
    unfold Sp.walk
    split
    · exact ih l h
    · split
      · exact ih l h
      · split
        · split
          · simp
          · exact ih _ fun y hy => h y (List.dropLast_subset l hy)
        · split
          · rename_i hp
            refine ih _ fun y hy => ?_
            rcases List.mem_append.1 hy with hy | hy
            · exact h y hy
            · simp at hy
              subst hy
              unfold Sp.part at hp
              split at hp
              · cases hp
              · omega
          · simp
theorem clean_len (s : Sp.Bytes) : (Sp.clean s).1.length ≤ 396 := by
  by_cases h : 200 < s.length
  · rw [clean_long h]; simp
  · by_cases hs : s.head? = some 47
    · rw [clean_abs h hs]; simp
    · rw [clean_walk h hs]
      split
      · have h := walk_spec 0 (Sp.split s) [] (by simp)
        have := glue_len32 _ h.1
        have := h.2
        dsimp only
        omega
      · simp

/-- A tree within its bounds. -/
structure Tree (A : Nat → Prop) (w : World) (bt bm : Nat) (m : Tr.T) : Prop where
  at_ : TreeAt A w bt bm m (Tr.size m)
  len : m.length ≤ 500
  bytes : Tr.size m ≤ 1048576
theorem Tree.ext0 {w w' : World} {bt bm : Nat} {m : Tr.T} (h : Tree A w bt bm m) (hx : Ext none_ w w') : Tree A w' bt bm m := ⟨h.at_.ext0 hx, h.len, h.bytes⟩
theorem old_le (m : Tr.T) (k : Tr.Bytes) : Tr.old m k ≤ Tr.size m := by
  unfold Tr.old
  cases h : Tr.get m k with
  | none => simp
  | some x =>
    have := Tr.get_mem h
    simp only [Option.getD_some]
    have h2 : x.2.length ∈ m.map (·.2.2.length) := List.mem_map.2 ⟨_, this, rfl⟩
    unfold Tr.size
    clear h this
    generalize m.map (·.2.2.length) = L at h2
    induction L with
    | nil => cases h2
    | cons a l ih =>
      simp only [List.sum_cons]
      rcases List.mem_cons.1 h2 with h | h
      · omega
      · have := ih h; omega

theorem put_err {m : Tr.T} {s b : Tr.Bytes} {more : Bool} (h : (Sp.clean s).2 ≠ 0) : Tr.put m s b more = (m, (Sp.clean s).2) := by unfold Tr.put; rw [if_pos h]
theorem put_dir {m : Tr.T} {s b : Tr.Bytes} {more : Bool} {x : Tr.Nd} (h : ¬ (Sp.clean s).2 ≠ 0) (hx : Tr.at_ m (Sp.clean s).1 = some x) (hd : x.1 = true) : Tr.put m s b more = (m, 54) := by
  unfold Tr.put; rw [if_neg h]; simp only [hx, hd, if_true]
theorem put_kind {m : Tr.T} {s b : Tr.Bytes} {more : Bool} (h : ¬ (Sp.clean s).2 ≠ 0) (ha : Tr.ahead m (Sp.clean s).1 = none) : Tr.put m s b more = (m, 54) := by
  unfold Tr.put; rw [if_neg h]
  dsimp only
  cases Tr.at_ m (Sp.clean s).1 with
  | none => simp only [ha]
  | some x => simp only [ha]; split <;> rfl
/-- What is to be written, and how many are new. -/
def putB (ox : Option Tr.Nd) (b : Tr.Bytes) (more : Bool) : Tr.Bytes := match ox with | some x => if more then x.2 ++ b else b | none => b
def putN (ox : Option Tr.Nd) (lack : List Tr.Bytes) : Nat := match ox with | some _ => 0 | none => lack.length + 1
theorem put_ok {m : Tr.T} {s b : Tr.Bytes} {more : Bool} {ox : Option Tr.Nd} {lack : List Tr.Bytes} (h : ¬ (Sp.clean s).2 ≠ 0) (hx : Tr.at_ m (Sp.clean s).1 = ox) (hd : ∀ x, ox = some x → x.1 = false) (ha : Tr.ahead m (Sp.clean s).1 = some lack) :
    (Sp.clean s).1 ≠ [] ∧ Tr.put m s b more = if 65536 < (putB ox b more).length ∨ Tr.room m (putN ox lack) (((putB ox b more).length : Int) - Tr.old m (Sp.clean s).1) = false then (m, 55) else (Tr.set (Tr.make m lack) (Sp.clean s).1 (false, putB ox b more), 0) := by
  have hp : (Sp.clean s).1 ≠ [] := by
    intro e
    rw [e] at hx
    simp [Tr.at_] at hx
    have := hd _ hx.symm
    cases this
  refine ⟨hp, ?_⟩
  have hg : Tr.get m (Sp.clean s).1 = ox := by unfold Tr.at_ at hx; rwa [if_neg hp] at hx
  unfold Tr.put
  rw [if_neg h]
  dsimp only
  cases ox with
  | none =>
    simp only [hx, ha, putB, putN, Tr.old, hg, Option.getD_none, List.length_nil, Int.natCast_add, Int.natCast_zero, Int.sub_zero]
    rfl
  | some x =>
    have hx1 := hd x rfl
    simp only [hx, ha, putB, putN, Tr.old, hg, Option.getD_some, hx1, Bool.false_eq_true, if_false]
    rfl

theorem c_put {w : World} {bt bm : Nat} {m : Tr.T} {bv : Value} {b : Tr.Bytes} (s : Tr.Bytes) (more : Bool) (ht : Tree A w bt bm m) (hb : BytA w bv b) (hbl : b.length ≤ 100000000) :
    Calls P 65 #[pT bt, .string (S s), bv, .bool more] w fun e w' => e = .returned (.int .i64 (Tr.put m s b more).2) ∧ TreeAt A w' bt bm (Tr.put m s b more).1 (Tr.size (Tr.put m s b more).1) ∧ Ext (Two bt bm) w w' := by
  have hm1 := ht.len
  have hm2 := ht.bytes
  refine enter (l := [_, _, _, _]) (n := 96) Tryz.func65 rfl rfl rfl ?_
  refine W.seq ?_
  refine W.reg <| asg rfl rfl <| L.nil ?_
  refine N.th ?_
  refine W.seq ?_
  refine W.reg <| mv rfl rfl <| call (vs := [_]) rfl rfl ok_Clean (c_Clean s w) ?_
  rintro e w1 ⟨rfl, hx1⟩
  refine ⟨_, rfl, ?_⟩
  have hcl := clean_len s
  refine mv rfl rfl <| ext rfl rfl rfl <| ext rfl rfl rfl <| asg rfl rfl <| asg rfl rfl <| L.nil ?_
  refine N.th ?_
  refine W.seq ?_
  refine W.seq ?_
  refine W.reg <| mv rfl rfl <| neqI rfl rfl rfl <| L.nil ?_
  refine N.th ?_
  refine W.cond rfl (fun h => ?_) (fun h => ?_)
  · refine W.seq ?_
    refine W.reg <| mv rfl rfl <| asg rfl rfl <| L.nil ?_
    refine N.th ?_
    refine W.ret ?_
    refine N.rth ?_
    refine N.ret1 rfl rfl ?_   -- RETURN
    have h0 : (Sp.clean s).2 ≠ 0 := by simpa using h
    rw [put_err h0]
    exact ⟨rfl, ht.at_.ext0 hx1, hx1.none⟩
  have h0 : ¬ (Sp.clean s).2 ≠ 0 := by simpa using h
  refine W.skip ?_
  refine N.th ?_
  refine W.seq ?_
  have hT1 := ht.at_.ext0 hx1
  refine W.reg <| mv rfl rfl <| mv rfl rfl <| call (vs := [_, _]) rfl rfl ok_at (c_at (Sp.clean s).1 hT1) ?_
  rintro e w2 ⟨v, rfl, hv, hx2⟩
  refine ⟨_, rfl, ?_⟩
  refine asg rfl rfl <| L.nil ?_
  refine N.th ?_
  obtain ⟨ox, hox⟩ : ∃ ox, Tr.at_ m (Sp.clean s).1 = ox := ⟨_, rfl⟩
  rw [hox] at hv
  refine W.seqM (fun E w' => E = [(0, pT bt), (1, .string (S (Sp.clean s).1)), (2, bv), (3, .bool more), (10, v)] ∧ w' = w2 ∧ ∀ x, ox = some x → x.1 = false) ?_ ?_   -- CUT
  · refine W.seq ?_
    cases ox with
    | none =>
      obtain rfl : v = .pointer none := hv
      refine W.reg <| mv rfl rfl <| neqPN rfl u_pNode rfl <| mv rfl rfl <| L.off rfl rfl rfl rfl rfl <| L.off rfl rfl rfl rfl rfl <| L.off rfl rfl rfl rfl rfl <| L.off rfl rfl rfl rfl rfl <| pickF rfl rfl rfl <| L.nil ?_
      refine N.th ?_
      refine W.condF rfl ?_
      refine W.skip ?_
      exact N.th (N.meet [(0, _), (1, _), (2, _), (3, _), (10, _)] ⟨rfl, rfl, rfl, rfl, rfl, trivial⟩ ⟨rfl, rfl, fun x h => by cases h⟩)   -- MEET
    | some x =>
      obtain ⟨nb, sl, rfl, hnb, hav, hrow⟩ := hv
      have hc0 : w2.cell? ⟨nb, 0, none⟩ = some (.bool x.1) := cell_of hnb rfl
      refine W.reg <| mv rfl rfl <| neqPN rfl u_pNode rfl <| mv rfl rfl <| L.on rfl rfl rfl <| mv rfl rfl <| L.on rfl rfl rfl <| nilc rfl rfl <| L.on rfl rfl rfl <| fad rfl fl_Node_0 rfl <| L.on rfl rfl rfl <| ld1 rfl ag_bool rfl hc0 <| pickT rfl rfl rfl <| L.nil ?_
      refine N.th ?_
      refine W.cond rfl (fun h => ?_) (fun h => ?_)
      · refine W.seq ?_
        refine W.reg <| asg rfl rfl <| L.nil ?_
        refine N.th ?_
        refine W.ret ?_
        refine N.rth ?_
        refine N.ret1 rfl rfl ?_   -- RETURN
        rw [put_dir h0 hox h]
        exact ⟨rfl, hT1.ext0 hx2, (hx1.trans hx2).none⟩
      · refine W.skip ?_
        exact N.th (N.meet [(0, _), (1, _), (2, _), (3, _), (10, _)] ⟨rfl, rfl, rfl, rfl, rfl, trivial⟩ ⟨rfl, rfl, fun y hy => by cases hy; exact h⟩)   -- MEET
  rintro E w2' ⟨rfl, rfl, hnd⟩
  have hT2 := hT1.ext0 hx2
  refine W.seq ?_
  refine W.reg <| mv rfl rfl <| mv rfl rfl <| call (vs := [_, _]) rfl rfl ok_ahead (c_ahead (Sp.clean s).1 (by omega) hT2) ?_
  rintro e w3 ⟨hx3, hah⟩
  cases hA : Tr.ahead m (Sp.clean s).1 with
  | none =>
    rw [hA] at hah
    obtain rfl := hah
    refine ⟨_, rfl, ?_⟩
    refine mv rfl rfl <| ext rfl rfl rfl <| ext rfl rfl rfl <| asg rfl rfl <| asg rfl rfl <| L.nil ?_
    refine N.th ?_
    refine W.seq ?_
    refine W.seq ?_
    refine W.reg <| mv rfl rfl <| neqI rfl rfl rfl <| L.nil ?_
    refine N.th ?_
    refine W.condT rfl ?_
    refine W.seq ?_
    refine W.reg <| mv rfl rfl <| asg rfl rfl <| L.nil ?_
    refine N.th ?_
    refine W.ret ?_
    refine N.rth ?_
    refine N.ret1 rfl rfl ?_   -- RETURN
    rw [put_kind h0 hA]
    exact ⟨rfl, hT2.ext0 hx3, (hx1.trans (hx2.trans hx3)).none⟩
  | some lack =>
  rw [hA] at hah
  obtain ⟨lv, rfl, hlv⟩ := hah
  refine ⟨_, rfl, ?_⟩
  obtain ⟨hp0, hput⟩ := put_ok (b := b) (more := more) h0 hox hnd hA
  have hsz := Tr.size_put hT2.nodup hA hp0
  have hlk := Tr.ahead_len hA
  refine mv rfl rfl <| ext rfl rfl rfl <| ext rfl rfl rfl <| asg rfl rfl <| asg rfl rfl <| L.nil ?_
  refine N.th ?_
  refine W.seq ?_
  refine W.seq ?_
  refine W.reg <| mv rfl rfl <| neqI rfl rfl rfl <| L.nil ?_
  refine N.th ?_
  refine W.condF rfl ?_
  refine W.skip ?_
  refine N.th ?_
  refine W.seq ?_
  obtain ⟨la, lc, rfl, hlc, hlm⟩ := own_slice hlv
  refine W.reg <| mv rfl rfl <| lenV rfl u_strs rfl <| addI (c := (lack.length : Int) + 1) rfl rfl rfl (w64 (by omega) (by omega)) <| asg rfl rfl <| asg rfl rfl <| L.nil ?_
  refine N.th ?_
  have hT3 := hT2.ext0 hx3
  have hb3 := ((hb.ext0 hx1).ext0 hx2).ext0 hx3
  have hold := old_le m (Sp.clean s).1
  have hx03 := hx1.trans (hx2.trans hx3)
  refine W.seqM (fun E w' => ∃ bv', E = [(0, pT bt), (1, .string (S (Sp.clean s).1)), (2, bv'), (11, .slice la lack.length lc), (12, .int .i64 (Tr.old m (Sp.clean s).1)), (13, .int .i64 (putN ox lack))] ∧ BytA w' bv' (putB ox b more) ∧ (putB ox b more).length ≤ 101048576 ∧ Ext none_ w3 w') ?_ ?_   -- CUT
  · refine W.seq ?_
    cases ox with
    | none =>
      obtain rfl : v = .pointer none := hv
      refine W.reg <| mv rfl rfl <| neqPN rfl u_pNode rfl <| L.nil ?_
      refine N.th ?_
      refine W.condF rfl ?_
      refine W.skip ?_
      refine N.th (N.meet [(0, _), (1, _), (2, bv), (11, _), (12, .int .i64 0), (13, .int .i64 ((lack.length : Int) + 1))] ⟨rfl, rfl, rfl, rfl, rfl, rfl, trivial⟩ ⟨bv, ?_, hb3, by simp [putB]; omega, Ext.refl _ _⟩)   -- MEET
      have hg : Tr.get m (Sp.clean s).1 = none := by unfold Tr.at_ at hox; rwa [if_neg hp0] at hox
      simp [putN, Tr.old, hg]
    | some x =>
      obtain ⟨nb, sl, rfl, hnb, hav, hrow⟩ := hv
      have hg : Tr.get m (Sp.clean s).1 = some x := by unfold Tr.at_ at hox; rwa [if_neg hp0] at hox
      have hold2 : Tr.old m (Sp.clean s).1 = x.2.length := by simp [Tr.old, hg]
      have hnb3 := hx3.obj hnb id
      have hrow3 := hrow.ext0 hx3
      have hc1 : w3.cell? ⟨nb, 1, none⟩ = some sl := cell_of hnb3 rfl
      obtain ⟨-, sa, sc, rfl, hsn, hsm, -, -⟩ := id hrow3
      refine W.reg <| mv rfl rfl <| neqPN rfl u_pNode rfl <| L.nil ?_
      refine N.th ?_
      refine W.condT rfl ?_
      refine W.seq ?_
      refine W.reg <| mv rfl rfl <| nilc rfl rfl <| fad rfl fl_Node_1 rfl <| ld1 rfl ag_bytes rfl hc1 <| lenV rfl u_bytes rfl <| asg rfl rfl <| asg rfl rfl <| L.nil ?_
      refine N.th ?_
      refine W.seq ?_
      refine W.reg <| mv rfl rfl <| L.nil ?_
      refine N.th ?_
      refine W.cond rfl (fun h => ?_) (fun h => ?_)
      · subst h
        refine W.reg <| mv rfl rfl <| nilc rfl rfl <| fad rfl fl_Node_1 rfl <| ld1 rfl ag_bytes rfl hc1 <| mv rfl rfl <| bls (vs := #[(0, .slice sa x.2.length sc), (1, bv)]) (cs := #[.slice sa x.2.length sc, bv]) (e := 25) rfl rfl (fun w => ?_) <|
          call (vs := [_]) rfl rfl ok_Concat (c_Concat (vs := [(.slice sa x.2.length sc, x.2), (bv, b)]) (fun j p hj => ?_) (fun p hp => ?_) (by simp) (by simp [total]; omega) (by simp)) ?_
        · obtain ⟨ba, bc, rfl, -, -, -, -⟩ := id hb3
          kernel_rfl
        · match j, hj with
          | 0, hj => cases hj; exact cell_of (heap_new _ _) rfl
          | 1, hj => cases hj; exact cell_of (heap_new _ _) rfl
          | j + 2, hj => simp at hj
        · simp only [List.mem_cons, List.not_mem_nil, or_false] at hp
          rcases hp with rfl | rfl
          · exact hrow3.arg.ext0 (Ext.alloc _ _ _)
          · exact hb3.ext0 (Ext.alloc _ _ _)
        rintro e w4 ⟨bv', rfl, hbv', hx4⟩
        refine ⟨_, rfl, ?_⟩
        refine asg rfl rfl <| L.nil ?_
        refine N.th (N.meet [(0, _), (1, _), (2, bv'), (11, _), (12, .int .i64 x.2.length), (13, .int .i64 0)] ⟨rfl, rfl, rfl, rfl, rfl, rfl, trivial⟩ ⟨bv', ?_, ?_, ?_, (Ext.alloc _ _ _).trans hx4⟩)   -- MEET
        · simp [putN, hold2]
        · simpa [putB, total, BytA] using (Row.own hbv').arg
        · simp [putB]; omega
      · subst h
        refine W.skip ?_
        refine N.th (N.meet [(0, _), (1, _), (2, bv), (11, _), (12, .int .i64 x.2.length), (13, .int .i64 0)] ⟨rfl, rfl, rfl, rfl, rfl, rfl, trivial⟩ ⟨bv, ?_, hb3, by simp [putB]; omega, Ext.refl _ _⟩)   -- MEET
        simp [putN, hold2]
  rintro E w4 ⟨bv', rfl, hbv', hbl', hx4⟩
  rw [hput]
  generalize putB ox b more = b' at *
  generalize putN ox lack = fl at *
  have hT4 := hT3.ext0 hx4
  have hlv4 := own_ext hlv hx4 (fun _ _ => id)
  obtain ⟨sa, sc, rfl, hsn, hsm, -, -⟩ := id hbv'
  refine W.seqM (fun E w' => E = [(0, pT bt), (1, .string (S (Sp.clean s).1)), (2, .slice sa b'.length sc), (11, .slice la lack.length lc), (12, .int .i64 (Tr.old m (Sp.clean s).1))] ∧ w' = w4 ∧ b'.length ≤ 65536 ∧ Tr.room m fl ((b'.length : Int) - Tr.old m (Sp.clean s).1) = true) ?_ ?_   -- CUT
  · refine W.seq ?_
    refine W.reg <| mv rfl rfl <| lenV rfl u_bytes rfl <| gtrI rfl rfl rfl <| ?_
    by_cases hbig : 65536 < b'.length
    · refine Vc.bt (by simp; omega) ?_
      refine mv rfl rfl <| L.off rfl rfl rfl rfl rfl <| L.off rfl rfl rfl rfl rfl <| L.off rfl rfl rfl rfl rfl <| L.off rfl rfl rfl rfl rfl <| L.off rfl rfl rfl rfl rfl <| L.off rfl rfl rfl rfl rfl <| L.off rfl rfl rfl rfl rfl <| L.off rfl rfl rfl rfl rfl <| pickT rfl rfl rfl <| L.nil ?_
      refine N.th ?_
      refine W.condT rfl ?_
      refine W.seq ?_
      refine W.reg <| asg rfl rfl <| L.nil ?_
      refine N.th ?_
      refine W.ret ?_
      refine N.rth ?_
      refine N.ret1 rfl rfl ?_   -- RETURN
      rw [if_pos (.inl hbig)]
      exact ⟨rfl, hT4, (hx03.trans hx4).none⟩
    · refine Vc.bf (by simp; omega) ?_
      refine mv rfl rfl <| L.on rfl rfl rfl <| mv rfl rfl <| L.on rfl rfl rfl <| mv rfl rfl <| L.on rfl rfl rfl <| mv rfl rfl <| L.on rfl rfl rfl <| lenV rfl u_bytes rfl <| L.on rfl rfl rfl <| mv rfl rfl <| L.on rfl rfl rfl <| subI (c := (b'.length : Int) - Tr.old m (Sp.clean s).1) rfl rfl rfl (w64 (by omega) (by omega)) <|
        L.on rfl rfl rfl <| call (vs := [_, _, _]) rfl rfl ok_room (c_room hT4 (by omega) (by omega) (by omega)) ?_
      rintro e w5 ⟨rfl, rfl⟩
      refine ⟨_, rfl, ?_⟩
      refine L.on rfl rfl rfl <| notB rfl rfl <| pickF rfl rfl rfl <| L.nil ?_
      refine N.th ?_
      refine W.cond rfl (fun h => ?_) (fun h => ?_)
      · refine W.seq ?_
        refine W.reg <| asg rfl rfl <| L.nil ?_
        refine N.th ?_
        refine W.ret ?_
        refine N.rth ?_
        refine N.ret1 rfl rfl ?_   -- RETURN
        rw [if_pos (.inr (by unfold Tr.room; simpa only [Bool.not_eq_true'] using h))]
        exact ⟨rfl, hT4, (hx03.trans hx4).none⟩
      · refine W.skip ?_
        refine N.th (N.meet [(0, _), (1, _), (2, _), (11, _), (12, _)] ⟨rfl, rfl, rfl, rfl, rfl, trivial⟩ ⟨rfl, rfl, by omega, ?_⟩)   -- MEET
        unfold Tr.room
        simpa only [Bool.not_eq_false'] using h
  rintro E w4' ⟨rfl, rfl, hbs, hrm⟩
  rw [if_neg (by rw [hrm]; simp; omega)]
  have hrm2 : (b'.length : Int) - Tr.old m (Sp.clean s).1 ≤ 1048576 - Tr.size m := by
    unfold Tr.room at hrm
    simp only [Bool.and_eq_true, decide_eq_true_eq] at hrm
    exact hrm.2
  refine W.seq ?_
  refine W.reg <| mv rfl rfl <| mv rfl rfl <| call (vs := [_, _]) rfl rfl ok_make (c_make lack _ hT4 (Row.own hlv4)) ?_
  rintro e w5 ⟨rfl, hT5, hx5⟩
  refine ⟨_, rfl, ?_⟩
  refine L.nil ?_
  refine N.th ?_
  refine W.seq ?_
  have hb5 : BytA w5 (.slice sa b'.length sc) b' := hbv'.two hT4 hx5 (calmB _)
  refine W.draw [] true (fun w' => Ext none_ w5.drew w') [0, 1, 2, 3, 4, 5, 6, 7, 8, 9] rfl rfl (by kernel_rfl) (Ext.refl _ _) ?_   -- held
  have hT5d := hT5.ext0 (Ext.drew none_ w5)
  refine mv rfl rfl <| nilc rfl rfl <| fad rfl fl_Tree_0 rfl <| ldK rfl ag_mNode rfl (fun w' h => (hT5d.ext0 h).c0) <| mv rfl rfl <| mv rfl rfl <| callH (vs := [_]) rfl rfl ok_Clone (c_Clone (hb5.ext0 (Ext.drew none_ w5)) (by omega)) ?_
  rintro e w6 ⟨cv, rfl, hcv, hx6, -⟩
  refine ⟨_, rfl, .inr fun h => h.trans hx6, ?_⟩
  obtain ⟨ca, cc, rfl, -, -⟩ := own_slice hcv
  refine bld (vs := #[(1, .slice ca b'.length cc)]) (v := .agg #[.bool false, .slice ca b'.length cc]) rfl rfl (fun _ => by kernel_rfl) <| box rfl rfl (hS := .inr fun h => h.trans (Ext.alloc _ _ _)) <| ?_
  have hT6 := hT5d.ext0 hx6
  obtain ⟨al, hm6, hr6⟩ := hT6.reps
  refine mupY rfl rfl rfl u_mNode u_str (hm6.ext (Ext.alloc none_ _ _) id) fun w7 hm7 hx7 hs7 => ⟨.inl ⟨rfl, rfl⟩, ?_⟩
  have hT7 : TreeAt A w7 bt bm (Tr.set (Tr.make m lack) (Sp.clean s).1 (false, b')) (Tr.size m) :=
    TreeAt.mapSet (x := (false, b')) (hm6.ext (Ext.alloc none_ _ _) id) (hr6.ext (Ext.alloc none_ _ _) (Kd.none _)) ((heap_alloc _ _ hT6.lt.1).trans hT6.cell) ⟨_, _, rfl, heap_new _ _, (fun k hk hA => by have h1 := own_new hcv k hk; have h2 := hT5d.low k hA; omega), (Row.own hcv).ext0 (Ext.alloc none_ _ _)⟩ hm7 hx7 (hT6.lowAt (by simp))
  refine L.nilH ?_
  refine N.th ?_
  refine W.seq ?_
  have hs := hsz (false, b')
  refine W.reg <| mv rfl rfl <| nilc rfl rfl <| fad rfl fl_Tree_1 rfl <| ld1 rfl ag_int rfl hT7.c1 <| mv rfl rfl <| lenV rfl u_bytes rfl <| mv rfl rfl <| subI (c := (b'.length : Int) - Tr.old m (Sp.clean s).1) rfl rfl rfl (w64 (by omega) (by omega)) <|
    addI (c := (Tr.size (Tr.set (Tr.make m lack) (Sp.clean s).1 (false, b')) : Int)) rfl rfl rfl (by rw [w64 (by omega) (by omega)]; dsimp only at hs; omega) <| nilc rfl rfl <| fad rfl fl_Tree_1 rfl <| st1 rfl rfl sz_int rfl hT7.cell rfl <| L.nil ?_
  refine N.th ?_
  refine W.seq ?_
  refine W.reg <| asg rfl rfl <| L.nil ?_
  refine N.th ?_
  refine W.ret ?_
  refine N.ret1 rfl rfl ?_   -- RETURN
  have hxs : Ext (Two bt bm) w7 (w7.setCell ⟨bt, 0 + 1, none⟩ (.int .i64 (Tr.size (Tr.set (Tr.make m lack) (Sp.clean s).1 (false, b')) : Int))) := Ext.setCell _ (fun _ => .inl rfl) _
  refine ⟨rfl, ⟨?_, ?_, hT7.lowAt hxs.size⟩, ?_⟩
  · rw [setCell_heap hT7.cell]; rfl
  · obtain ⟨al7, hm8, hr8⟩ := hT7.reps
    refine ⟨al7, hm8.ext (Ext.setCell (S := fun k => k = bt) _ (fun _ => rfl) _) (fun e => hT7.ne e.symm), hr8.ext hxs hT7.kd⟩
  · exact (hx03.trans hx4).none.trans (hx5.trans ((((Ext.drew _ _).trans (hx6.trans (Ext.alloc none_ _ _))).none).trans ((hx7.mono fun _ _ h => .inr h).trans hxs)))
end Go.Proofs.YtmdpmpdlkaogdaaGreatDoor

namespace Go.Proofs.YtmdpmpdlkaogdaaGreatDoor
open Go Go.RowKit Vc
variable {A : Nat → Prop}

theorem ok_Write : FnOk P 29 := ⟨_, Tryz.func29, by kernel_rfl, by kernel_rfl⟩
theorem ok_Append : FnOk P 33 := ⟨_, Tryz.func33, by kernel_rfl, by kernel_rfl⟩
theorem ok_Read : FnOk P 40 := ⟨_, Tryz.func40, by kernel_rfl, by kernel_rfl⟩
theorem ok_Mkdir : FnOk P 37 := ⟨_, Tryz.func37, by kernel_rfl, by kernel_rfl⟩
theorem ok_Exists : FnOk P 36 := ⟨_, Tryz.func36, by kernel_rfl, by kernel_rfl⟩
theorem ok_Size : FnOk P 32 := ⟨_, Tryz.func32, by kernel_rfl, by kernel_rfl⟩

/-- What a method that turns a tree leaves. -/
abbrev Does (A : Nat → Prop) (bt bm : Nat) (w : World) (r : Tr.T × Int) (e : Ending) (w' : World) : Prop := e = .returned (.int .i64 r.2) ∧ TreeAt A w' bt bm r.1 (Tr.size r.1) ∧ Ext (Two bt bm) w w'

theorem c_Write {w : World} {bt bm : Nat} {m : Tr.T} {bv : Value} {b : Tr.Bytes} (s : Tr.Bytes) (ht : Tree A w bt bm m) (hb : BytA w bv b) (hbl : b.length ≤ 100000000) :
    Calls P 29 #[pT bt, .string (S s), bv] w (Does A bt bm w (Tr.write m s b)) := by
  refine enter (l := [_, _, _]) (n := 11) Tryz.func29 rfl rfl rfl ?_
  refine W.seq ?_
  refine W.reg <| asg rfl rfl <| L.nil ?_
  refine N.th ?_
  refine W.seq ?_
  refine W.reg <| mv rfl rfl <| mv rfl rfl <| mv rfl rfl <| call (vs := [_, _, _, _]) rfl rfl ok_put (c_put s false ht hb hbl) ?_
  rintro e w1 ⟨rfl, h1, h2⟩
  refine ⟨_, rfl, ?_⟩
  refine asg rfl rfl <| L.nil ?_
  refine N.th ?_
  refine W.ret ?_
  refine N.ret1 rfl rfl ?_   -- RETURN
  exact ⟨rfl, h1, h2⟩

theorem c_Append {w : World} {bt bm : Nat} {m : Tr.T} {bv : Value} {b : Tr.Bytes} (s : Tr.Bytes) (ht : Tree A w bt bm m) (hb : BytA w bv b) (hbl : b.length ≤ 100000000) :
    Calls P 33 #[pT bt, .string (S s), bv] w (Does A bt bm w (Tr.append m s b)) := by
  refine enter (l := [_, _, _]) (n := 16) Tryz.func33 rfl rfl rfl ?_
  refine W.seq ?_
  refine W.reg <| asg rfl rfl <| L.nil ?_
  refine N.th ?_
  obtain ⟨b', hb'⟩ : ∃ b', b' = (if 65536 < b.length then b.take 65537 else b) := ⟨_, rfl⟩
  unfold Tr.append
  rw [← hb']
  refine W.seqM (fun E w' => ∃ bv', E = [(0, pT bt), (1, .string (S s)), (2, bv')] ∧ w' = w ∧ BytA w bv' b' ∧ b'.length ≤ 100000000) ?_ ?_   -- CUT
  · refine W.seq ?_
    obtain ⟨a, c, rfl, hn, hmx, -, -⟩ := id hb
    refine W.reg <| mv rfl rfl <| lenV rfl u_bytes rfl <| gtrI rfl rfl rfl <| L.nil ?_
    refine N.th ?_
    refine W.cond rfl (fun h => ?_) (fun h => ?_)
    · have h1 : 65536 < b.length := by simp at h; omega
      refine W.reg <| mv rfl rfl <| slVh rfl rfl u_bytes el_bytes.szB rfl (by omega) (by omega) <| asg rfl rfl <| L.nil ?_
      refine N.th (N.meet [(0, _), (1, _), (2, _)] ⟨rfl, rfl, rfl, trivial⟩ ⟨_, rfl, rfl, ?_, ?_⟩)   -- MEET
      · rw [hb', if_pos h1]
        have hl : (b.take 65537).length = 65537 := by rw [List.length_take]; omega
        have : encB (b.take 65537) = (encB b).take 65537 := by simp [encB, List.map_take]
        unfold BytA
        rw [hl, this]
        exact hb.take (by omega)
      · rw [hb', if_pos h1, List.length_take]; omega
    · have h1 : ¬ 65536 < b.length := by simp at h; omega
      refine W.skip ?_
      refine N.th (N.meet [(0, _), (1, _), (2, _)] ⟨rfl, rfl, rfl, trivial⟩ ⟨_, rfl, rfl, ?_, ?_⟩)   -- MEET
      · rw [hb', if_neg h1]; exact hb
      · rw [hb', if_neg h1]; exact hbl
  rintro E w' ⟨bv', rfl, rfl, hr, hl⟩
  refine W.seq ?_
  refine W.reg <| mv rfl rfl <| mv rfl rfl <| mv rfl rfl <| call (vs := [_, _, _, _]) rfl rfl ok_put (c_put s true ht hr hl) ?_
  rintro e w1 ⟨rfl, h1, h2⟩
  refine ⟨_, rfl, ?_⟩
  refine asg rfl rfl <| L.nil ?_
  refine N.th ?_
  refine W.ret ?_
  refine N.ret1 rfl rfl ?_   -- RETURN
  exact ⟨rfl, h1, h2⟩

theorem c_Size {w : World} {bt bm : Nat} {m : Tr.T} {sz : Int} (ht : TreeAt A w bt bm m sz) : Calls P 32 #[pT bt] w fun e w' => e = .returned (.int .i64 sz) ∧ w = w' := by
  refine enter (l := [_]) (n := 7) Tryz.func32 rfl rfl rfl ?_
  refine W.seq ?_
  refine W.reg <| asg rfl rfl <| L.nil ?_
  refine N.th ?_
  refine W.seq ?_
  refine W.reg <| mv rfl rfl <| nilc rfl rfl <| fad rfl fl_Tree_1 rfl <| ld1 rfl ag_int rfl ht.c1 <| asg rfl rfl <| L.nil ?_
  refine N.th ?_
  refine W.ret ?_
  refine N.ret1 rfl rfl ?_   -- RETURN
  exact ⟨rfl, rfl⟩

theorem c_Exists {w : World} {bt bm : Nat} {m : Tr.T} {sz : Int} (s : Tr.Bytes) (ht : TreeAt A w bt bm m sz) : Calls P 36 #[pT bt, .string (S s)] w fun e w' => e = .returned (.bool (Tr.exists_ m s)) ∧ Ext none_ w w' := by
  refine enter (l := [_, _]) (n := 19) Tryz.func36 rfl rfl rfl ?_
  refine W.seq ?_
  refine W.reg <| asg rfl rfl <| L.nil ?_
  refine N.th ?_
  refine W.seq ?_
  refine W.reg <| mv rfl rfl <| call (vs := [_]) rfl rfl ok_Clean (c_Clean s w) ?_
  rintro e w1 ⟨rfl, hx1⟩
  refine ⟨_, rfl, ?_⟩
  refine mv rfl rfl <| ext rfl rfl rfl <| ext rfl rfl rfl <| asg rfl rfl <| asg rfl rfl <| L.nil ?_
  refine N.th ?_
  refine W.seq ?_
  refine W.reg <| mv rfl rfl <| eqlI rfl rfl rfl <| ?_
  by_cases h : (Sp.clean s).2 = 0
  · refine Vc.bt (by simpa using h) ?_
    refine mv rfl rfl <| L.on rfl rfl rfl <| mv rfl rfl <| L.on rfl rfl rfl <| mv rfl rfl <| L.on rfl rfl rfl <| call (vs := [_, _]) rfl rfl ok_at (c_at (Sp.clean s).1 (ht.ext0 hx1)) ?_
    rintro e w2 ⟨v, rfl, hv, hx2⟩
    refine ⟨_, rfl, ?_⟩
    have hv2 : ∃ p, v = .pointer p ∧ (!p.isNone) = Tr.exists_ m s := by
      unfold Tr.exists_
      cases ho : Tr.at_ m (Sp.clean s).1 with
      | none => rw [ho] at hv; obtain rfl := hv; exact ⟨_, rfl, by simp⟩
      | some x =>
        rw [ho] at hv
        obtain ⟨b, sl, rfl, -⟩ := hv
        exact ⟨_, rfl, by simp [h]⟩
    obtain ⟨p, rfl, hp⟩ := hv2
    refine L.on rfl rfl rfl <| neqPN rfl u_pNode rfl <| pickT rfl rfl rfl <| asg rfl rfl <| L.nil ?_
    refine N.th ?_
    refine W.ret ?_
    refine N.ret1 rfl rfl ?_   -- RETURN
    exact ⟨by rw [hp], hx1.trans hx2⟩
  · refine Vc.bf (by simpa using h) ?_
    refine mv rfl rfl <| L.off rfl rfl rfl rfl rfl <| L.off rfl rfl rfl rfl rfl <| L.off rfl rfl rfl rfl rfl <| L.off rfl rfl rfl rfl rfl <| pickF rfl rfl rfl <| asg rfl rfl <| L.nil ?_
    refine N.th ?_
    refine W.ret ?_
    refine N.ret1 rfl rfl ?_   -- RETURN
    refine ⟨?_, hx1⟩
    unfold Tr.exists_
    rw [show ((Sp.clean s).2 == 0) = false by simpa using h]; rfl

theorem c_Mkdir {w : World} {bt bm : Nat} {m : Tr.T} (s : Tr.Bytes) (ht : Tree A w bt bm m) :
    Calls P 37 #[pT bt, .string (S s)] w (Does A bt bm w (Tr.mkdir m s)) := by
  have hm1 := ht.len
  have hm2 := ht.bytes
  refine enter (l := [_, _]) (n := 46) Tryz.func37 rfl rfl rfl ?_
  refine W.seq ?_
  refine W.reg <| asg rfl rfl <| L.nil ?_
  refine N.th ?_
  refine W.seq ?_
  refine W.reg <| mv rfl rfl <| call (vs := [_]) rfl rfl ok_Clean (c_Clean s w) ?_
  rintro e w1 ⟨rfl, hx1⟩
  refine ⟨_, rfl, ?_⟩
  have hcl := clean_len s
  refine mv rfl rfl <| ext rfl rfl rfl <| ext rfl rfl rfl <| asg rfl rfl <| asg rfl rfl <| L.nil ?_
  refine N.th ?_
  refine W.seq ?_
  refine W.seq ?_
  refine W.reg <| mv rfl rfl <| neqI rfl rfl rfl <| L.nil ?_
  refine N.th ?_
  refine W.cond rfl (fun h => ?_) (fun h => ?_)
  · refine W.seq ?_
    refine W.reg <| mv rfl rfl <| asg rfl rfl <| L.nil ?_
    refine N.th ?_
    refine W.ret ?_
    refine N.rth ?_
    refine N.ret1 rfl rfl ?_   -- RETURN
    have h0 : (Sp.clean s).2 ≠ 0 := by simpa using h
    unfold Tr.mkdir; rw [if_pos h0]
    exact ⟨rfl, ht.at_.ext0 hx1, hx1.none⟩
  have h0 : ¬ (Sp.clean s).2 ≠ 0 := by simpa using h
  refine W.skip ?_
  refine N.th ?_
  have hT1 := ht.at_.ext0 hx1
  unfold Tr.mkdir; rw [if_neg h0]
  dsimp only
  refine W.seq ?_
  refine W.seq ?_
  refine W.reg <| mv rfl rfl <| mv rfl rfl <| call (vs := [_, _]) rfl rfl ok_at (c_at (Sp.clean s).1 hT1) ?_
  rintro e w2 ⟨v, rfl, hv, hx2⟩
  refine ⟨_, rfl, ?_⟩
  refine asg rfl rfl <| L.nil ?_
  refine N.th ?_
  refine W.seq ?_
  cases hox : Tr.at_ m (Sp.clean s).1 with
  | some x =>
    rw [hox] at hv
    obtain ⟨nb, sl, rfl, hnb, hav, hrow⟩ := hv
    have hc0 : w2.cell? ⟨nb, 0, none⟩ = some (.bool x.1) := cell_of hnb rfl
    refine W.reg <| mv rfl rfl <| neqPN rfl u_pNode rfl <| L.nil ?_
    refine N.th ?_
    refine W.condT rfl ?_
    refine W.seq ?_
    refine W.seq ?_
    refine W.reg <| mv rfl rfl <| nilc rfl rfl <| fad rfl fl_Node_0 rfl <| ld1 rfl ag_bool rfl hc0 <| L.nil ?_
    refine N.th ?_
    refine W.cond rfl (fun h => ?_) (fun h => ?_)
    · refine W.seq ?_
      refine W.reg <| asg rfl rfl <| L.nil ?_
      refine N.th ?_
      refine W.ret ?_
      refine N.rth <| N.rth ?_
      refine N.ret1 rfl rfl ?_   -- RETURN
      simp only [h, if_true]
      exact ⟨rfl, hT1.ext0 hx2, (hx1.trans hx2).none⟩
    · refine W.skip ?_
      refine N.th ?_
      refine W.seq ?_
      refine W.reg <| asg rfl rfl <| L.nil ?_
      refine N.th ?_
      refine W.ret ?_
      refine N.rth ?_
      refine N.ret1 rfl rfl ?_   -- RETURN
      simp only [h, Bool.false_eq_true, if_false]
      exact ⟨rfl, hT1.ext0 hx2, (hx1.trans hx2).none⟩
  | none =>
  rw [hox] at hv
  obtain rfl : v = .pointer none := hv
  have hp0 : (Sp.clean s).1 ≠ [] := by intro e; rw [e] at hox; simp [Tr.at_] at hox
  have hg : Tr.get m (Sp.clean s).1 = none := by unfold Tr.at_ at hox; rwa [if_neg hp0] at hox
  refine W.reg <| mv rfl rfl <| neqPN rfl u_pNode rfl <| L.nil ?_
  refine N.th ?_
  refine W.condF rfl ?_
  refine W.skip ?_
  refine N.th ?_
  refine W.seq ?_
  have hT2 := hT1.ext0 hx2
  refine W.reg <| mv rfl rfl <| mv rfl rfl <| call (vs := [_, _]) rfl rfl ok_ahead (c_ahead (Sp.clean s).1 (by omega) hT2) ?_
  rintro e w3 ⟨hx3, hah⟩
  cases hA : Tr.ahead m (Sp.clean s).1 with
  | none =>
    rw [hA] at hah
    obtain rfl := hah
    refine ⟨_, rfl, ?_⟩
    refine mv rfl rfl <| ext rfl rfl rfl <| ext rfl rfl rfl <| asg rfl rfl <| asg rfl rfl <| L.nil ?_
    refine N.th ?_
    refine W.seq ?_
    refine W.seq ?_
    refine W.reg <| mv rfl rfl <| neqI rfl rfl rfl <| L.nil ?_
    refine N.th ?_
    refine W.condT rfl ?_
    refine W.seq ?_
    refine W.reg <| mv rfl rfl <| asg rfl rfl <| L.nil ?_
    refine N.th ?_
    refine W.ret ?_
    refine N.rth ?_
    refine N.ret1 rfl rfl ?_   -- RETURN
    exact ⟨rfl, hT2.ext0 hx3, (hx1.trans (hx2.trans hx3)).none⟩
  | some lack =>
  rw [hA] at hah
  obtain ⟨lv, rfl, hlv⟩ := hah
  refine ⟨_, rfl, ?_⟩
  have hlk := Tr.ahead_len hA
  refine mv rfl rfl <| ext rfl rfl rfl <| ext rfl rfl rfl <| asg rfl rfl <| asg rfl rfl <| L.nil ?_
  refine N.th ?_
  refine W.seq ?_
  refine W.seq ?_
  refine W.reg <| mv rfl rfl <| neqI rfl rfl rfl <| L.nil ?_
  refine N.th ?_
  refine W.condF rfl ?_
  refine W.skip ?_
  refine N.th ?_
  refine W.seq ?_
  refine W.seq ?_
  have hT3 := hT2.ext0 hx3
  obtain ⟨la, lc, rfl, hlc, hlm⟩ := own_slice hlv
  refine W.reg <| mv rfl rfl <| mv rfl rfl <| lenV rfl u_strs rfl <| addI (c := (lack.length : Int) + 1) rfl rfl rfl (w64 (by omega) (by omega)) <| call (vs := [_, _, _]) rfl rfl ok_room (c_room hT3 (by omega) (by omega) (by omega)) ?_
  rintro e w4 ⟨rfl, rfl⟩
  refine ⟨_, rfl, ?_⟩
  refine notB rfl rfl <| L.nil ?_
  refine N.th ?_
  refine W.cond rfl (fun h => ?_) (fun h => ?_)
  · refine W.seq ?_
    refine W.reg <| asg rfl rfl <| L.nil ?_
    refine N.th ?_
    refine W.ret ?_
    refine N.rth ?_
    refine N.ret1 rfl rfl ?_   -- RETURN
    dsimp only
    rw [if_pos (by unfold Tr.room; simpa only [Bool.not_eq_true'] using h)]
    exact ⟨rfl, hT3, (hx1.trans (hx2.trans hx3)).none⟩
  · refine W.skip ?_
    refine N.th ?_
    refine W.seq ?_
    refine W.reg <| mv rfl rfl <| mv rfl rfl <| mv rfl rfl <| bls (vs := #[(0, .string (S (Sp.clean s).1))]) (cs := #[.string (S (Sp.clean s).1)]) (e := 9) rfl rfl (fun _ => by kernel_rfl) <|
      app rfl rfl rfl el_strs (own_ext hlv (Ext.alloc none_ _ _) fun _ _ => id) (news := [.string (S (Sp.clean s).1)]) rfl (fun j u hj => by
            cases j with
            | zero => cases hj; exact cell1 (heap_new _ _)
            | succ j => cases hj) (by simp [Value.oneCell']) (by omega) (by simp only [maxLen]; omega) (by have := hx3.size; simp; omega) fun v' w5 hown5 hx5 _ _ => ?_
    have hx35 : Ext none_ w2 w5 := (hx3.trans (Ext.alloc none_ _ _)).trans' hx5 fun i hi hh => by have := own_new hlv i hh; omega
    have hT5 := hT2.ext0 hx35
    refine call (vs := [_, _]) rfl rfl ok_make (c_make (lack ++ [(Sp.clean s).1]) _ hT5 (Row.own (by simpa [encT] using hown5))) ?_
    rintro e w6 ⟨rfl, hT6, hx6⟩
    refine ⟨_, rfl, ?_⟩
    refine L.nil ?_
    refine N.th ?_
    refine W.seq ?_
    refine W.reg <| asg rfl rfl <| L.nil ?_
    refine N.th ?_
    refine W.ret ?_
    refine N.ret1 rfl rfl ?_   -- RETURN
    obtain ⟨ha1, ha2⟩ := Tr.ahead_spec hA
    have hsz : Tr.size (Tr.make m (lack ++ [(Sp.clean s).1])) = Tr.size m := Tr.size_make _ hT2.nodup (by
        rw [List.nodup_append]
        exact ⟨ha2, by simp, fun a ha b hb => by
          simp at hb; subst hb
          intro e; subst e
          have := (ha1 _ ha).2.2 hp0; omega⟩) (fun d hd => by
        rcases List.mem_append.1 hd with hd | hd
        · exact (ha1 d hd).1
        · simp at hd; subst hd; exact hg)
    have hr : Tr.room m (lack.length + 1) 0 = true := by unfold Tr.room; simpa only [Bool.not_eq_false'] using h
    dsimp only
    rw [if_neg (by rw [hr]; simp)]
    refine ⟨rfl, ?_, ((hx1.trans hx2).trans hx35).none.trans hx6⟩
    dsimp only
    rw [hsz]; exact hT6

theorem c_Read {w : World} {bt bm : Nat} {m : Tr.T} (s : Tr.Bytes) (ht : Tree A w bt bm m) :
    Calls P 40 #[pT bt, .string (S s)] w fun e w' => ∃ v, e = .returned (.tuple #[v, .int .i64 (Tr.read m s).2]) ∧ Byts w.heap.size w' v (Tr.read m s).1 ∧ Ext none_ w w' := by
  have hm2 := ht.bytes
  refine enter (l := [_, _]) (n := 45) Tryz.func40 rfl rfl rfl ?_
  refine W.seq ?_
  refine W.reg <| asg rfl rfl <| asg rfl rfl <| L.nil ?_
  refine N.th ?_
  refine W.seq ?_
  refine W.reg <| mv rfl rfl <| call (vs := [_]) rfl rfl ok_Clean (c_Clean s w) ?_
  rintro e w1 ⟨rfl, hx1⟩
  refine ⟨_, rfl, ?_⟩
  have hcl := clean_len s
  refine mv rfl rfl <| ext rfl rfl rfl <| ext rfl rfl rfl <| asg rfl rfl <| asg rfl rfl <| L.nil ?_
  refine N.th ?_
  refine W.seq ?_
  refine W.seq ?_
  refine W.reg <| mv rfl rfl <| neqI rfl rfl rfl <| L.nil ?_
  refine N.th ?_
  refine W.cond rfl (fun h => ?_) (fun h => ?_)
  · refine W.seq ?_
    refine W.reg <| mv rfl rfl <| asg rfl rfl <| asg rfl rfl <| L.nil ?_
    refine N.th ?_
    refine W.ret ?_
    refine N.rth ?_
    refine N.ret2 rfl rfl rfl ?_   -- RETURN
    have h0 : (Sp.clean s).2 ≠ 0 := by simpa using h
    unfold Tr.read; rw [if_pos h0]
    exact ⟨_, rfl, own_nil _ _ _ _, hx1⟩
  have h0 : ¬ (Sp.clean s).2 ≠ 0 := by simpa using h
  refine W.skip ?_
  refine N.th ?_
  have hT1 := ht.at_.ext0 hx1
  unfold Tr.read; rw [if_neg h0]
  dsimp only
  refine W.seq ?_
  refine W.reg <| mv rfl rfl <| mv rfl rfl <| call (vs := [_, _]) rfl rfl ok_at (c_at (Sp.clean s).1 hT1) ?_
  rintro e w2 ⟨v, rfl, hv, hx2⟩
  refine ⟨_, rfl, ?_⟩
  refine asg rfl rfl <| L.nil ?_
  refine N.th ?_
  have hT2 := hT1.ext0 hx2
  obtain ⟨ox, hox⟩ : ∃ ox, Tr.at_ m (Sp.clean s).1 = ox := ⟨_, rfl⟩
  rw [hox] at hv ⊢
  refine W.seqM (fun E w' => E = [(0, pT bt), (1, .string (S (Sp.clean s).1)), (7, v)] ∧ w' = w2 ∧ ∀ x, ox = some x → x.1 = false) ?_ ?_   -- CUT
  · refine W.seq ?_
    cases ox with
    | none =>
      obtain rfl : v = .pointer none := hv
      refine W.reg <| mv rfl rfl <| neqPN rfl u_pNode rfl <| mv rfl rfl <| L.off rfl rfl rfl rfl rfl <| L.off rfl rfl rfl rfl rfl <| L.off rfl rfl rfl rfl rfl <| L.off rfl rfl rfl rfl rfl <| pickF rfl rfl rfl <| L.nil ?_
      refine N.th ?_
      refine W.condF rfl ?_
      refine W.skip ?_
      exact N.th (N.meet [(0, _), (1, _), (7, _)] ⟨rfl, rfl, rfl, trivial⟩ ⟨rfl, rfl, fun x h => by cases h⟩)   -- MEET
    | some x =>
      obtain ⟨nb, sl, rfl, hnb, hav, hrow⟩ := hv
      have hc0 : w2.cell? ⟨nb, 0, none⟩ = some (.bool x.1) := cell_of hnb rfl
      refine W.reg <| mv rfl rfl <| neqPN rfl u_pNode rfl <| mv rfl rfl <| L.on rfl rfl rfl <| mv rfl rfl <| L.on rfl rfl rfl <| nilc rfl rfl <| L.on rfl rfl rfl <| fad rfl fl_Node_0 rfl <| L.on rfl rfl rfl <| ld1 rfl ag_bool rfl hc0 <| pickT rfl rfl rfl <| L.nil ?_
      refine N.th ?_
      refine W.cond rfl (fun h => ?_) (fun h => ?_)
      · refine W.seq ?_
        refine W.reg <| asg rfl rfl <| asg rfl rfl <| L.nil ?_
        refine N.th ?_
        refine W.ret ?_
        refine N.rth ?_
        refine N.ret2 rfl rfl rfl ?_   -- RETURN
        simp only [h, if_true]
        exact ⟨_, rfl, own_nil _ _ _ _, hx1.trans hx2⟩
      · refine W.skip ?_
        exact N.th (N.meet [(0, _), (1, _), (7, _)] ⟨rfl, rfl, rfl, trivial⟩ ⟨rfl, rfl, fun y hy => by cases hy; exact h⟩)   -- MEET
  rintro E w2' ⟨rfl, rfl, hnd⟩
  refine W.seq ?_
  refine W.seq ?_
  refine W.reg <| mv rfl rfl <| mv rfl rfl <| call (vs := [_, _]) rfl rfl ok_ahead (c_ahead (Sp.clean s).1 (by omega) hT2) ?_
  rintro e w3 ⟨hx3, hah⟩
  cases hA : Tr.ahead m (Sp.clean s).1 with
  | none =>
    rw [hA] at hah
    obtain rfl := hah
    refine ⟨_, rfl, ?_⟩
    refine mv rfl rfl <| ext rfl rfl rfl <| ext rfl rfl rfl <| asg rfl rfl <| asg rfl rfl <| L.nil ?_
    refine N.th ?_
    refine W.seq ?_
    refine W.reg <| mv rfl rfl <| neqI rfl rfl rfl <| L.nil ?_
    refine N.th ?_
    refine W.condT rfl ?_
    refine W.seq ?_
    refine W.reg <| mv rfl rfl <| asg rfl rfl <| asg rfl rfl <| L.nil ?_
    refine N.th ?_
    refine W.ret ?_
    refine N.rth ?_
    refine N.ret2 rfl rfl rfl ?_   -- RETURN
    have hk : (match ox with | some x => if x.1 = true then (([] : Tr.Bytes), (54 : Int)) else ([], 54) | none => ([], 54)) = ([], 54) := by cases ox <;> simp
    cases ox with
    | none => exact ⟨_, rfl, own_nil _ _ _ _, hx1.trans (hx2.trans hx3)⟩
    | some x => simp only [hnd x rfl, Bool.false_eq_true, if_false]; exact ⟨_, rfl, own_nil _ _ _ _, hx1.trans (hx2.trans hx3)⟩
  | some lack =>
  rw [hA] at hah
  obtain ⟨lv, rfl, hlv⟩ := hah
  refine ⟨_, rfl, ?_⟩
  refine mv rfl rfl <| ext rfl rfl rfl <| ext rfl rfl rfl <| asg rfl rfl <| asg rfl rfl <| L.nil ?_
  refine N.th ?_
  refine W.seq ?_
  refine W.reg <| mv rfl rfl <| neqI rfl rfl rfl <| L.nil ?_
  refine N.th ?_
  refine W.condF rfl ?_
  refine W.skip ?_
  refine N.th ?_
  refine W.seq ?_
  refine W.seq ?_
  cases ox with
  | none =>
    obtain rfl : v = .pointer none := hv
    refine W.reg <| mv rfl rfl <| eqlPN rfl u_pNode rfl <| L.nil ?_
    refine N.th ?_
    refine W.condT rfl ?_
    refine W.seq ?_
    refine W.reg <| asg rfl rfl <| asg rfl rfl <| L.nil ?_
    refine N.th ?_
    refine W.ret ?_
    refine N.rth ?_
    refine N.ret2 rfl rfl rfl ?_   -- RETURN
    exact ⟨_, rfl, own_nil _ _ _ _, hx1.trans (hx2.trans hx3)⟩
  | some x =>
    obtain ⟨nb, sl, rfl, hnb, hav, hrow⟩ := hv
    have hnb3 := hx3.obj hnb id
    have hrow3 := hrow.ext0 hx3
    have hc1 : w3.cell? ⟨nb, 1, none⟩ = some sl := cell_of hnb3 rfl
    refine W.reg <| mv rfl rfl <| eqlPN rfl u_pNode rfl <| L.nil ?_
    refine N.th ?_
    refine W.condF rfl ?_
    refine W.skip ?_
    refine N.th ?_
    refine W.seq ?_
    have hxl : x.2.length ≤ 1048576 := by
      have hp0 : (Sp.clean s).1 ≠ [] := by intro e; rw [e] at hox; simp [Tr.at_] at hox; have := hnd _ rfl; rw [← hox] at this; cases this
      have hg : Tr.get m (Sp.clean s).1 = some x := by unfold Tr.at_ at hox; rwa [if_neg hp0] at hox
      have := old_le m (Sp.clean s).1
      simp [Tr.old, hg] at this
      omega
    refine W.reg <| mv rfl rfl <| nilc rfl rfl <| fad rfl fl_Node_1 rfl <| ld1 rfl ag_bytes rfl hc1 <| call (vs := [_]) rfl rfl ok_Clone (c_Clone hrow3.arg (by omega)) ?_
    rintro e w4 ⟨cv, rfl, hcv, hx4, -⟩
    refine ⟨_, rfl, ?_⟩
    refine asg rfl rfl <| asg rfl rfl <| L.nil ?_
    refine N.th ?_
    refine W.ret ?_
    refine N.ret2 rfl rfl rfl ?_   -- RETURN
    simp only [hnd x rfl, Bool.false_eq_true, if_false]
    have hx13 := hx1.trans (hx2.trans hx3)
    have := hx13.size
    refine ⟨_, rfl, ?_, hx13.trans hx4⟩
    obtain ⟨h1, h2 | ⟨g, c, cu, hv, hb, hr⟩⟩ := hcv
    · exact ⟨h1, .inl h2⟩
    · exact ⟨h1, .inr ⟨g, c, cu, hv, by omega, hr⟩⟩
end Go.Proofs.YtmdpmpdlkaogdaaGreatDoor

namespace Go.Proofs.YtmdpmpdlkaogdaaGreatDoor
open Go Go.RowKit Vc
variable {A : Nat → Prop}

theorem ok_Sort : FnOk P 102 := ⟨_, Tryz.func102, by kernel_rfl, by kernel_rfl⟩
theorem ok_below : FnOk P 72 := ⟨_, Tryz.func72, by kernel_rfl, by kernel_rfl⟩
theorem ok_drop : FnOk P 71 := ⟨_, Tryz.func71, by kernel_rfl, by kernel_rfl⟩
theorem ok_Remove : FnOk P 34 := ⟨_, Tryz.func34, by kernel_rfl, by kernel_rfl⟩

theorem Ext.growN (w : World) (os : Array Obj) : Vc.Ext none_ w (Sort.grow w os) := ⟨rfl, rfl, rfl, by simp [Sort.grow], fun k hk _ => by simp [Sort.grow, Array.getElem?_append_left hk]⟩
theorem c_Sort {w : World} {B : Nat} {v : Value} {l : List Tr.Bytes} (h : Strs B w v l) (hl : l.length ≤ 1000000000) :
    Calls P 102 #[v] w fun e w' => e = .returned (.tuple #[]) ∧ Strs B w' v (Tr.sort l) ∧ Ext (fun k => v.ownBlock = some k) w w' := by
  by_cases hv : v = .slice none 0 0
  · subst hv
    have hl0 : l = [] := by
      obtain ⟨_, ⟨_, h⟩ | ⟨g, c, cu, h, _⟩⟩ := h
      · exact List.eq_nil_of_length_eq_zero h
      · cases h
    subst hl0
    refine (Tryz.slices_Sort_string_none none 0 w).mono ?_
    rintro e w' ⟨rfl, rfl⟩
    have h0 : Tr.sort [] = [] := by simp [Tr.sort]
    rw [h0]
    exact ⟨rfl, own_nil _ _ _ _, Ext.refl _ _⟩
  · have h' : w.ownsRow B 9 1 v l.length (l.map encStr) := h
    obtain ⟨g, cap, rfl, hb, hg, hn, hm, -, hH⟩ := Lib.holds_of_ownsRow h' hv
    refine (Tryz.slices_Sort_string g 0 cap l w hH hg (by omega)).mono ?_
    rintro e w' ⟨rfl, n, os, rfl⟩
    have hlen : (Tr.sort l).length = l.length := List.length_mergeSort l
    refine ⟨rfl, ?_, (Ext.grown (grownBy_sorted (w := w) (g := g) (n := n) (os := os) _)).mono fun k _ hk => hk.symm⟩
    have := Lib.ownsRow_putRow (q := n) (k := l.length) (ys := Tr.sort l) h' hlen (Nat.le_refl _)
    rw [List.take_of_length_le (Nat.le_of_eq hlen)] at this
    unfold Strs
    rw [hlen]
    exact own_ext this (Ext.growN _ os) fun _ _ => id

theorem c_below {w : World} {bt bm : Nat} {m : Tr.T} {sz : Int} (p : Tr.Bytes) (ht : TreeAt A w bt bm m sz) (hp : p.length ≤ 1000000) (hm : m.length ≤ 1000000) :
    Calls P 72 #[pT bt, .string (S p)] w fun e w' => ∃ v, e = .returned v ∧ Strs w.heap.size w' v (Tr.below m p) ∧ Ext none_ w w' := by
  refine enter (l := [_, _]) (n := 26) Tryz.func72 rfl rfl rfl ?_
  refine W.seq ?_
  refine W.reg <| asg rfl rfl <| L.nil ?_
  refine N.th ?_
  refine W.seq ?_
  refine W.reg <| asg rfl rfl <| L.nil ?_
  refine N.th ?_
  refine W.seq ?_
  refine W.seq ?_
  obtain ⟨al, hal, hr⟩ := ht.reps
  refine W.reg <| mv rfl rfl <| nilc rfl rfl <| fad rfl fl_Tree_0 rfl <| ld1 rfl ag_mNode rfl ht.c0 <| rng rfl u_mNode rfl hal fun w1 hi1 hx1 hs1 => ?_
  refine L.nil ?_
  refine N.th ?_
  refine W.block ?_
  refine W.loop (X := AL × List Tr.Bytes × Value) (fun x => [(11, .pointer (some ⟨w.heap.size, 0, none⟩)), (5, x.2.2), (1, .string (S p)), (0, pT bt)])
    (fun x w' => IterAt w' w.heap.size bm al x.1 ∧ Strs w.heap.size w' x.2.2 x.2.1 ∧ (x.2.1 ++ (x.1.map (·.1)).filter fun k => Sp.within k p).Perm ((m.map (·.1)).filter fun k => Sp.within k p) ∧ x.2.1.length + x.1.length ≤ m.length ∧ Ext none_ w w' ∧ x.2.2.ownBlock ≠ some w.heap.size) (fun x => x.1.length) (al, [], .slice none 0 0) ⟨rfl, rfl, rfl, rfl, trivial⟩
    ⟨hi1, own_nil _ _ _ _, by rw [hr.keys]; simp, by simp [hr.length], hx1, by simp [Value.ownBlock]⟩ ?_
  rintro ⟨left, acc, v⟩ w2 ⟨hi, hown, hperm, hlen, hx, hne⟩
  dsimp only at hi hown hperm hlen hne ⊢
  refine W.seq ?_
  refine W.reg <| nxt rfl rfl hi ?_ ?_
  · rintro rfl
    refine ext rfl rfl rfl <| L.nil ?_
    refine N.th ?_
    refine W.seq ?_
    refine W.condF rfl ?_
    refine W.exit ?_
    refine N.xth ?_
    refine N.xth ?_
    refine N.xeq ?_
    refine N.th ?_
    refine W.seq ?_
    refine W.reg <| mv rfl rfl <| call (vs := [_]) rfl rfl ok_Sort (c_Sort hown (by omega)) ?_
    rintro e w3 ⟨rfl, hs3, hx3⟩
    refine ⟨_, rfl, ?_⟩
    refine L.nil ?_
    refine N.th ?_
    refine W.seq ?_
    refine W.reg <| mv rfl rfl <| asg rfl rfl <| L.nil ?_
    refine N.th ?_
    refine W.ret ?_
    refine N.ret1 rfl rfl ?_   -- RETURN
    refine ⟨_, rfl, ?_, hx.own hown hx3⟩
    rw [Tr.below, ← Tr.sort_perm (by simpa using hperm)]
    exact hs3
  · rintro l1 q l2 w3 rfl hi3 hx3 hs3 hcur
    refine ext rfl rfl rfl <| L.nil ?_
    refine N.th ?_
    refine W.seq ?_
    refine W.condT rfl ?_
    refine W.skip ?_
    refine N.th ?_
    refine W.block ?_
    refine W.seq ?_
    refine W.reg <| ent rfl rfl hcur <| ext rfl rfl rfl <| asg rfl rfl <| L.nil ?_
    refine N.th ?_
    refine W.seq ?_
    have hx03 : Ext none_ w w3 := hx.trans' hx3 fun i hi hh => by omega
    have hown3 : Strs w.heap.size w3 v acc := own_ext hown hx3 fun k hk e => hne (e ▸ hk)
    refine W.reg <| mv rfl rfl <| mv rfl rfl <| call (vs := [_, _]) rfl rfl ok_Within (c_Within q.1 p (by omega) w3) ?_
    rintro e w4 ⟨rfl, rfl⟩
    refine ⟨_, rfl, ?_⟩
    refine L.nil ?_
    refine N.th ?_
    simp only [List.length_append, List.length_cons] at hlen
    simp only [List.map_append, List.map_cons, List.filter_append] at hperm
    refine W.cond rfl (fun h => ?_) (fun h => ?_)
    · rw [List.filter_cons, if_pos h] at hperm
      refine W.reg <| mv rfl rfl <| mv rfl rfl <| bls (vs := #[(0, .string (S q.1))]) (cs := #[.string (S q.1)]) (e := 9) rfl rfl (fun _ => by kernel_rfl) <|
        app rfl rfl rfl el_strs (own_ext hown3 (Ext.alloc none_ _ _) fun _ _ => id) (news := [.string (S q.1)]) rfl (fun j u hj => by
            cases j with
            | zero => cases hj; exact cell1 (heap_new _ _)
            | succ j => cases hj) (by simp [Value.oneCell']) (by omega) (by simp only [maxLen]; omega) (by have := hx03.size; simp; omega) fun v' w5 hown5 hx5 _ hat => ?_
      refine asg rfl rfl <| L.nil ?_
      refine N.inb ?_
      have hx05 : Ext none_ w w5 := (hx03.trans (Ext.alloc none_ _ _)).trans' hx5 fun i hi hh => by have := own_new hown3 i hh; omega
      refine N.th (N.round (x := (l1 ++ l2, acc ++ [q.1], v')) ⟨rfl, rfl, rfl, rfl, trivial⟩ ⟨?_, by simpa [Strs, encT] using hown5, ?_, by simp; omega, hx05, ?_⟩ (by simp))   -- ROUND
      · refine (hi3.ext (Ext.alloc none_ _ _) id id).ext hx5 hne (fun e => ?_)
        have := own_new hown3 _ e
        have := ht.lt.2
        omega
      · refine List.Perm.trans ?_ hperm
        simp only [List.map_append, List.filter_append, List.append_assoc, List.cons_append, List.nil_append]
        exact List.Perm.append_left acc List.perm_middle.symm
      · rcases hat with e | e
        · rw [e]; exact hne
        · rw [e]
          intro e'
          have := hx03.size
          have h1 := hs1
          simp at e'
          obtain ⟨_, _, _, hit, _⟩ := hi3
          have := lt_of_obj hit
          omega
    · rw [List.filter_cons, if_neg (by simp [h])] at hperm
      refine W.skip ?_
      refine N.inb ?_
      refine N.th (N.round (x := (l1 ++ l2, acc, v)) ⟨rfl, rfl, rfl, rfl, trivial⟩ ⟨hi3, hown3, by simpa using hperm, by simp; omega, hx03, hne⟩ (by simp))   -- ROUND

theorem c_drop {w : World} {bt bm : Nat} {m : Tr.T} {sz : Int} (l : List Tr.Bytes) (v : Value) (ht : TreeAt A w bt bm m sz) (hv : Row w v 9 1 l.length (encT l)) (hin : ∀ k ∈ l, (Tr.get m k).isSome = true) (hnd : l.Nodup) (hs0 : 0 ≤ sz - Tr.size m) (hs1 : sz ≤ 1000000000000) (hll : l.length ≤ 1000000) :
    Calls P 71 #[pT bt, v] w fun e w' => e = .returned (.tuple #[]) ∧ TreeAt A w' bt bm (Tr.drop m l) (sz - Tr.size m + Tr.size (Tr.drop m l)) ∧ Ext (Two bt bm) w w' := by
  obtain ⟨-, a, cap, rfl, hn, hmx, -, -⟩ := id hv
  refine enter (l := [_, _]) (n := 35) Tryz.func71 rfl rfl rfl ?_
  refine W.seq ?_
  refine W.reg <| mv rfl rfl <| lenV rfl u_strs rfl <| mv rfl rfl <| L.nil ?_
  refine N.th ?_
  refine W.block ?_
  refine W.loop (X := List Tr.Bytes × List Tr.Bytes) (fun x => [(8, .int .i64 x.1.length), (7, .int .i64 l.length), (6, .slice a l.length cap), (0, pT bt)])
    (fun x w' => l = x.1 ++ x.2 ∧ TreeAt A w' bt bm (Tr.drop m x.1) (sz - Tr.size m + Tr.size (Tr.drop m x.1)) ∧ Tr.size (Tr.drop m x.1) ≤ Tr.size m ∧ Ext (Two bt bm) w w') (fun x => x.2.length) ([], l) ⟨rfl, rfl, rfl, rfl, trivial⟩
    ⟨rfl, by simpa [Tr.drop] using ht, by simp [Tr.drop], Ext.refl _ _⟩ ?_
  rintro ⟨pre, rest⟩ w1 ⟨hl, ht1, hle, hx1⟩
  dsimp only at hl ht1 hle ⊢
  refine W.seq ?_
  refine W.reg <| lssI rfl rfl rfl <| L.nil ?_
  refine N.th ?_
  refine W.seq ?_
  refine W.cond rfl (fun h => ?_) (fun h => ?_)
  · refine W.skip ?_
    refine N.th ?_
    refine W.seq ?_
    refine W.block ?_
    refine W.seq ?_
    cases rest with
    | nil => simp [hl] at h
    | cons k rest =>
    have hpl : pre.length + 1 ≤ l.length := by rw [hl]; simp
    have hv1 : Row w1 (.slice a l.length cap) 9 1 l.length (encT l) := hv.ext hx1 (fun k hk => by
      obtain ⟨cur, fr, hc⟩ := hv.kind k hk
      rintro (rfl | rfl)
      · rw [ht.cell] at hc; cases hc
      · obtain ⟨_, ⟨_, _, hm, _⟩, _⟩ := ht.reps
        rw [hm] at hc; cases hc)
    rcases hv1.form with ⟨h0, h1, _⟩ | ⟨b, o, c, h0, h1, h2, h3, hcell⟩
    · omega
    cases h0
    have hd : w1.cell? ⟨b, o + pre.length, none⟩ = some (.string (S k)) := hcell pre.length _ (by rw [hl]; simp [encT])
    have hkpre : k ∉ pre := by
      intro hk
      rw [hl, List.nodup_append] at hnd
      exact hnd.2.2 k hk k (by simp) rfl
    have hgk : ∀ (p : List Tr.Bytes) (mm : Tr.T), k ∉ p → Tr.get (Tr.drop mm p) k = Tr.get mm k := by
      intro p
      induction p with
      | nil => intro mm _; rfl
      | cons q p ih =>
        intro mm hk
        have : ¬ k = q := fun e => hk (by simp [e])
        show Tr.get (Tr.drop (Tr.del mm q) p) k = _
        rw [ih _ (fun h => hk (by simp [h])), Tr.get_del, if_neg this]
    obtain ⟨x, hx⟩ := Option.isSome_iff_exists.1 (hin k (by rw [hl]; simp))
    have hxp : Tr.get (Tr.drop m pre) k = some x := by rw [hgk pre m hkpre, hx]
    have hsd := Tr.size_del ht1.nodup k
    have hold : Tr.old (Tr.drop m pre) k = x.2.length := by simp [Tr.old, hxp]
    obtain ⟨al, hal, hr⟩ := ht1.reps
    have hlook := hr.look k
    rw [hxp] at hlook
    obtain ⟨nb, sl, hvp, hnb, hav, hrow⟩ := hlook
    obtain ⟨-, sa, sc, rfl, hsn, hsm, -, -⟩ := id hrow
    refine W.reg <| ixa rfl rfl u_strs sz_str rfl (by omega) (by omega) <| ld1 rfl ag_str rfl (by rw [Nat.mul_one]; exact hd) <| asg rfl rfl <| L.nil ?_
    refine N.th ?_
    refine W.seq ?_
    have hdr := Ext.drew none_ w1
    refine W.draw [] true (fun w' => w' = w1.drew) [0, 1, 2, 3, 4, 5, 6, 7, 8, 9, 10, 11, 12, 13, 14, 15, 16, 17] rfl rfl (by kernel_rfl) rfl ?_   -- held
    have hT := ht1.ext0 hdr
    refine mv rfl rfl <| nilc rfl rfl <| fad rfl fl_Tree_1 rfl <| ldK rfl ag_int rfl (fun w' e => e ▸ hT.c1) <| mv rfl rfl <| nilc rfl rfl <| fad rfl fl_Tree_0 rfl <| ldK rfl ag_mNode rfl (fun w' e => e ▸ hT.c0) <| mv rfl rfl <|
      lkuK rfl rfl u_mNode u_str ze_pNode rfl (fun w' e => e ▸ hal.ext hdr id) <| ?_
    rw [hvp]
    have hc1 : w1.drew.cell? ⟨nb, 1, none⟩ = some (.slice sa x.2.length sc) := cell_of (hdr.obj hnb id) rfl
    refine nilc rfl rfl <| fad rfl fl_Node_1 rfl <| ldK rfl ag_bytes rfl (fun w' e => e ▸ hc1) <| lenV rfl u_bytes rfl <| subI (c := sz - Tr.size m + Tr.size (Tr.del (Tr.drop m pre) k)) rfl rfl rfl (by rw [w64 (by omega) (by omega)]; omega) <| nilc rfl rfl <| fad rfl fl_Tree_1 rfl <|
      st1 rfl rfl sz_int rfl hT.cell rfl (hS := .inl ⟨rfl, rfl⟩) <| L.nilH ?_
    refine N.th ?_
    obtain ⟨w2, hw2⟩ : ∃ w2, w2 = w1.drew.setCell ⟨bt, 0 + 1, none⟩ (.int .i64 (sz - Tr.size m + Tr.size (Tr.del (Tr.drop m pre) k))) := ⟨_, rfl⟩
    have hxs : Ext (fun k => k = bt) w1.drew w2 := by rw [hw2]; exact Ext.setCell (S := fun k => k = bt) _ (fun _ => rfl) _
    have hc2 : w2.heap[bt]? = some (.cells #[.map (some bm), .int .i64 (sz - Tr.size m + Tr.size (Tr.del (Tr.drop m pre) k))] tT (0, 0)) := by rw [hw2, setCell_heap hT.cell]; rfl
    have hal2 : MapAt w2 bm al := (hal.ext hdr id).ext hxs (fun e => hT.ne e.symm)
    have hr2 : Reps A w2 al (Tr.drop m pre) := (hr.ext hdr (Kd.none _)).ext hxs (fun i hi => hT.kd i (.inl hi))
    have hT2 : TreeAt A w2 bt bm (Tr.drop m pre) (sz - Tr.size m + Tr.size (Tr.del (Tr.drop m pre) k)) := ⟨hc2, ⟨al, hal2, hr2⟩, hT.lowAt hxs.size⟩
    rw [← hw2]
    refine W.reg <| mv rfl rfl <| nilc rfl rfl <| fad rfl fl_Tree_0 rfl <| ld1 rfl ag_mNode rfl hT2.c0 <| mv rfl rfl <| del rfl rfl rfl u_mNode u_str hal2 fun w3 hal3 hx3 hs3 => ?_
    refine L.nil ?_
    refine N.inb ?_
    refine N.th ?_
    refine W.reg <| addI (c := (pre.length : Int) + 1) rfl rfl rfl (w64 (by omega) (by omega)) <| mv rfl rfl <| L.nil ?_
    have hdp : Tr.drop m (pre ++ [k]) = Tr.del (Tr.drop m pre) k := by simp [Tr.drop]
    have hT3 : TreeAt A w3 bt bm (Tr.del (Tr.drop m pre) k) (sz - Tr.size m + Tr.size (Tr.del (Tr.drop m pre) k)) :=
      ⟨hx3.obj hc2 hT2.ne, ⟨_, hal3, (hr2.del k).ext hx3 (fun i hi => hT2.kd i (.inr hi))⟩, hT2.lowAt hx3.size⟩
    refine N.th (N.round (x := (pre ++ [k], rest)) ⟨?_, rfl, rfl, rfl, trivial⟩ ⟨by simp [hl], ?_, ?_, ?_⟩ (by simp))   -- ROUND
    · simp [getE]
    · dsimp only; rw [hdp]; exact hT3
    · dsimp only; rw [hdp]; omega
    · exact hx1.trans ((hdr.none).trans ((hxs.mono fun _ _ h => .inl h).trans (hx3.mono fun _ _ h => .inr h)))
  · refine W.exit ?_
    refine N.xth ?_
    refine N.xth ?_
    refine N.xeq ?_
    refine N.end0 rfl ?_
    cases rest with
    | cons d rest => rw [hl] at h; simp at h; omega
    | nil =>
    obtain rfl : l = pre := by simpa using hl
    exact ⟨rfl, ht1, hx1⟩
end Go.Proofs.YtmdpmpdlkaogdaaGreatDoor
