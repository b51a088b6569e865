/- Plain laws of paths. No Go here. -/
import Derived.Test.YtmdpmpdlkaogdaaGreatDoorTq
namespace Go.Proofs.YtmdpmpdlkaogdaaGreatDoor
namespace Sp

/-- A part that stays. -/
def good (x : Bytes) : Prop := x ≠ [] ∧ x ≠ [46] ∧ x ≠ [46, 46] ∧ part x = 0 ∧ 47 ∉ x
def Goods (l : List Bytes) : Prop := ∀ x ∈ l, good x
theorem Goods.nil : Goods [] := fun _ h => by cases h
theorem Goods.app {a b : List Bytes} (h : Goods a) (k : Goods b) : Goods (a ++ b) := fun x hx => (List.mem_append.1 hx).elim (h x) (k x)
theorem Goods.left {a b : List Bytes} (h : Goods (a ++ b)) : Goods a := fun x hx => h x (List.mem_append.2 (.inl hx))
theorem Goods.right {a b : List Bytes} (h : Goods (a ++ b)) : Goods b := fun x hx => h x (List.mem_append.2 (.inr hx))

theorem split_ne (s : Bytes) : Sp.split s ≠ [] := by
  cases s with
  | nil => simp [Sp.split]
  | cons c s =>
    unfold Sp.split
    split
    · simp
    · split <;> simp
theorem split_no (s : Bytes) : ∀ x ∈ Sp.split s, 47 ∉ x := by
  induction s with
  | nil => simp [Sp.split]
  | cons c s ih =>
    unfold Sp.split
    split
    · intro x hx
      rcases List.mem_cons.1 hx with rfl | hx
      · simp
      · exact ih x hx
    · rename_i hc
      split
      · rename_i y l h
        rw [h] at ih
        intro x hx
        rcases List.mem_cons.1 hx with rfl | hx
        · have := ih y (by simp)
          simp only [List.mem_cons, not_or]
          exact ⟨fun e => hc e.symm, this⟩
        · exact ih x (by simp [hx])
      · intro x hx
        simp only [List.mem_cons, List.not_mem_nil, or_false] at hx
        subst hx
        simp only [List.mem_cons, List.not_mem_nil, or_false]
        exact fun e => hc e.symm
theorem split_cons (c : UInt8) (s : Bytes) : Sp.split (c :: s) = if c = 47 then [] :: Sp.split s else match Sp.split s with | x :: l => (c :: x) :: l | [] => [[c]] := rfl
theorem split_app (a b : Bytes) : Sp.split (a ++ 47 :: b) = Sp.split a ++ Sp.split b := by
  induction a with
  | nil => simp [Sp.split]
  | cons c a ih =>
    rw [List.cons_append, split_cons, split_cons c a]
    by_cases hc : c = 47
    · rw [if_pos hc, if_pos hc, ih]; rfl
    · rw [if_neg hc, if_neg hc, ih]
      cases h : Sp.split a with
      | nil => exact absurd h (split_ne a)
      | cons x l => rfl
theorem split_one {x : Bytes} (h : 47 ∉ x) : Sp.split x = [x] := by
  induction x with
  | nil => rfl
  | cons c x ih =>
    simp only [List.mem_cons, not_or] at h
    unfold Sp.split
    rw [if_neg (fun e => h.1 e.symm), ih h.2]
theorem split_glue {l : List Bytes} (h0 : l ≠ []) (h : ∀ x ∈ l, 47 ∉ x) : Sp.split (glue l) = l := by
  induction l with
  | nil => exact absurd rfl h0
  | cons x l ih =>
    cases l with
    | nil => exact split_one (h x (by simp))
    | cons y l =>
      show Sp.split (x ++ 47 :: glue (y :: l)) = _
      rw [split_app, split_one (h x (by simp)), ih (by simp) (fun z hz => h z (by simp only [List.mem_cons] at hz ⊢; exact .inr hz))]
      rfl
theorem Goods.no {l : List Bytes} (h : Goods l) : ∀ x ∈ l, 47 ∉ x := fun x hx => (h x hx).2.2.2.2
theorem glue_app {l t : List Bytes} (h : l ≠ []) (k : t ≠ []) : glue (l ++ t) = glue l ++ 47 :: glue t := by
  induction l with
  | nil => exact absurd rfl h
  | cons x l ih =>
    cases l with
    | nil =>
      cases t with
      | nil => exact absurd rfl k
      | cons y t => rfl
    | cons y l =>
      have := ih (by simp)
      show x ++ 47 :: glue (y :: l ++ t) = (x ++ 47 :: glue (y :: l)) ++ 47 :: glue t
      rw [this]; simp
theorem glue_ne {l : List Bytes} (h : Goods l) (h0 : l ≠ []) : glue l ≠ [] := by
  cases l with
  | nil => exact absurd rfl h0
  | cons x l =>
    have hx := (h x (by simp)).1
    cases l with
    | nil => exact hx
    | cons y l => show x ++ 47 :: _ ≠ []; simp
theorem glue_inj {l k : List Bytes} (h : Goods l) (g : Goods k) (e : glue l = glue k) : l = k := by
  by_cases hl : l = []
  · by_cases hk : k = []
    · rw [hl, hk]
    · rw [hl] at e; exact absurd e.symm (glue_ne g hk)
  · by_cases hk : k = []
    · rw [hk] at e; exact absurd e (glue_ne h hl)
    · rw [← split_glue hl h.no, e, split_glue hk g.no]
theorem glue_len1 {l : List Bytes} (h : l ≠ []) : (glue l).length + 1 = (l.map (fun x => x.length + 1)).sum := by
  induction l with
  | nil => exact absurd rfl h
  | cons x l ih =>
    cases l with
    | nil => simp [glue]
    | cons y l =>
      have := ih (by simp)
      have e : glue (x :: y :: l) = x ++ 47 :: glue (y :: l) := rfl
      rw [e, List.map_cons, List.sum_cons, ← this]
      simp only [List.length_append, List.length_cons]; omega
theorem walk_goods (stay : Nat) : ∀ (xs l : List Bytes), Goods xs → walk stay l xs = if 12 < l.length + xs.length then ([], 50) else (l ++ xs, 0) := by
  intro xs
  induction xs with
  | nil => intro l _; simp [walk]
  | cons x xs ih =>
    intro l h
    obtain ⟨h1, h2, h3, h4, -⟩ := h x (by simp)
    rw [walk_part h1 h2 h3 h4, ih _ (fun y hy => h y (List.mem_cons_of_mem _ hy))]
    simp only [List.length_append, List.length_cons, List.length_nil, List.append_assoc, List.cons_append, List.nil_append]
    rw [show l.length + (0 + 1) + xs.length = l.length + (xs.length + 1) by omega]
theorem walk_ok : ∀ (xs l : List Bytes), (∀ x ∈ xs, 47 ∉ x) → Goods l → (walk 0 l xs).2 = 0 → Goods (walk 0 l xs).1 ∧ (walk 0 l xs).1.length ≤ 12 := by
  intro xs
  induction xs with
  | nil =>
    intro l _ h
    unfold walk
    split
    · intro e; cases e
    · intro _; exact ⟨h, by dsimp only; omega⟩
  | cons x xs ih =>
    intro l hx h
    have hxs : ∀ y ∈ xs, 47 ∉ y := fun y hy => hx y (List.mem_cons_of_mem _ hy)
    unfold walk
    split
    · exact ih l hxs h
    · rename_i h1
      split
      · exact ih l hxs h
      · rename_i h2
        split
        · split
          · intro e; cases e
          · exact ih _ hxs fun y hy => h y (List.dropLast_subset l hy)
        · rename_i h3
          split
          · rename_i h4
            exact ih _ hxs (h.app fun y hy => by
              simp only [List.mem_cons, List.not_mem_nil, or_false] at hy
              subst hy
              exact ⟨h1, h2, h3, h4, hx _ (by simp)⟩)
          · rename_i h4
            intro e; exact absurd e h4

/-- A path in its one form. -/
def Cl (p : Bytes) : Prop := ∃ l, p = glue l ∧ Goods l ∧ l.length ≤ 12 ∧ p.length ≤ 200
theorem clean_glue {l : List Bytes} (h : Goods l) : clean (glue l) = if 200 < (glue l).length ∨ 12 < l.length then ([], 50) else (glue l, 0) := by
  by_cases h1 : 200 < (glue l).length
  · rw [clean_long h1, if_pos (.inl h1)]
  · have hh : (glue l).head? ≠ some 47 := by
      cases l with
      | nil => simp [glue]
      | cons x l =>
        obtain ⟨hx, -, -, -, h5⟩ := h x (by simp)
        cases x with
        | nil => exact absurd rfl hx
        | cons c x =>
          have hc : c ≠ 47 := fun e => h5 (by simp [e])
          cases l with
          | nil => simpa [glue] using hc
          | cons y l => simpa [glue] using hc
    rw [clean_walk h1 hh]
    by_cases h0 : l = []
    · subst h0; rfl
    · rw [split_glue h0 h.no, walk_goods 0 l [] h]
      simp only [List.length_nil, Nat.zero_add, List.nil_append]
      by_cases h2 : 12 < l.length
      · have e : ¬ (50 : Int) = 0 := by decide
        simp [h2, e]
      · have e : ¬ (200 < (glue l).length ∨ 12 < l.length) := by omega
        rw [if_neg e]; simp [h2]
theorem Cl.clean {p : Bytes} (h : Cl p) : clean p = (p, 0) := by
  obtain ⟨l, rfl, h1, h2, h3⟩ := h
  rw [clean_glue h1, if_neg (by omega)]
theorem clean_cl {s : Bytes} (h : (Sp.clean s).2 = 0) : Cl (Sp.clean s).1 := by
  by_cases h1 : 200 < s.length
  · rw [clean_long h1] at h; cases h
  · by_cases hs : s.head? = some 47
    · rw [clean_abs h1 hs] at h; cases h
    · rw [clean_walk h1 hs] at h ⊢
      split at h
      · rename_i he
        rw [if_pos he]
        obtain ⟨g1, g2⟩ := walk_ok (Sp.split s) [] (split_no s) Goods.nil he
        refine ⟨_, rfl, g1, g2, ?_⟩
        dsimp only
        by_cases h0 : (walk 0 [] (Sp.split s)).1 = []
        · rw [h0]; simp [glue]
        · have a := glue_len1 h0
          have b := (walk_bd 0 (Sp.split s) []).1
          have c := split_sum s
          simp only [List.map_nil, List.sum_nil, Nat.zero_add] at b
          omega
      · rename_i he; exact absurd h he
theorem Cl.of {p : Bytes} (h : Sp.clean p = (p, 0)) : Cl p := by
  have := clean_cl (s := p) (by rw [h])
  rwa [h] at this
theorem Cl.nil : Cl [] := ⟨[], rfl, Goods.nil, by simp, by simp⟩

theorem last_app (a x : Bytes) (h : 47 ∉ x) : lastSlash (a ++ 47 :: x) = a.length := by
  have h0 : lastSlash x = -1 := by
    rcases lastSlash_spec x with ⟨e, -⟩ | ⟨i, -, ⟨hi, e⟩, -⟩
    · exact e
    · exact absurd (e ▸ List.getElem_mem hi) h
  induction a with
  | nil => simp [lastSlash, h0]
  | cons c a ih =>
    rw [List.cons_append]
    unfold lastSlash
    simp only [ih, List.length_cons]
    rw [if_pos (by omega)]; omega
theorem parent_glue {l : List Bytes} {x : Bytes} (h : 47 ∉ x) : parent (glue (l ++ [x])) = glue l := by
  by_cases h0 : l = []
  · subst h0
    show parent x = []
    unfold parent
    have h0 : lastSlash x = -1 := by
      rcases lastSlash_spec x with ⟨e, -⟩ | ⟨i, -, ⟨hi, e⟩, -⟩
      · exact e
      · exact absurd (e ▸ List.getElem_mem hi) h
    rw [h0]; rfl
  · rw [glue_app h0 (by simp)]
    unfold parent
    rw [show glue [x] = x from rfl, last_app _ _ h]
    have : (max ((glue l).length : Int) 0).toNat = (glue l).length := by omega
    rw [this, List.take_left']
    rfl
theorem snoc_of {α : Type} {l : List α} (h : l ≠ []) : ∃ k x, l = k ++ [x] := ⟨l.dropLast, l.getLast h, (List.dropLast_concat_getLast h).symm⟩
theorem Cl.parts {p : Bytes} (h : Cl p) (h0 : p ≠ []) : ∃ l x, p = glue (l ++ [x]) ∧ Goods (l ++ [x]) ∧ l.length < 12 ∧ parent p = glue l ∧ p.length ≤ 200 := by
  obtain ⟨l, rfl, h1, h2, h3⟩ := h
  have hl : l ≠ [] := fun e => h0 (by rw [e]; rfl)
  obtain ⟨k, x, rfl⟩ := snoc_of hl
  refine ⟨k, x, rfl, h1, by simp at h2; omega, parent_glue (h1 x (by simp)).2.2.2.2, h3⟩
theorem Cl.up {p : Bytes} (h : Cl p) : Cl (parent p) := by
  by_cases h0 : p = []
  · subst h0; exact Cl.nil
  · obtain ⟨l, x, rfl, h1, h2, h3, h4⟩ := h.parts h0
    rw [h3]
    refine ⟨l, rfl, h1.left, by omega, ?_⟩
    have := parent_le (glue (l ++ [x]))
    rw [h3] at this; omega
theorem within_glue {k d : List Bytes} (hk : Goods k) (hd : Goods d) : within (glue k) (glue d) = true ↔ d <+: k := by
  constructor
  · intro h
    unfold within at h
    simp only [Bool.or_eq_true, beq_iff_eq] at h
    rcases h with (h | h) | h
    · by_cases h0 : d = []
      · subst h0; exact List.nil_prefix
      · exact absurd h (glue_ne hd h0)
    · rw [glue_inj hk hd h]; exact List.prefix_refl _
    · by_cases h0 : d = []
      · subst h0; exact List.nil_prefix
      · obtain ⟨r, hr⟩ := List.isPrefixOf_iff_prefix.1 h
        have hr' : glue k = glue d ++ 47 :: r := by rw [← hr]; simp
        have hk0 : k ≠ [] := by intro e; subst e; simp [glue] at hr'
        have := congrArg Sp.split hr'
        rw [split_glue hk0 hk.no, split_app, split_glue h0 hd.no] at this
        exact ⟨_, this.symm⟩
  · rintro ⟨t, rfl⟩
    unfold within
    simp only [Bool.or_eq_true, beq_iff_eq]
    by_cases h0 : d = []
    · subst h0; exact .inl (.inl rfl)
    · by_cases ht : t = []
      · subst ht; exact .inl (.inr (by simp))
      · refine .inr (List.isPrefixOf_iff_prefix.2 ?_)
        rw [glue_app h0 ht]
        exact ⟨glue t, by simp⟩
theorem within_refl (p : Bytes) : within p p = true := by simp [within]
theorem within_trans {a b c : Bytes} (ha : Cl a) (hb : Cl b) (hc : Cl c) (h : within a b = true) (g : within b c = true) : within a c = true := by
  obtain ⟨la, rfl, ga, -⟩ := ha
  obtain ⟨lb, rfl, gb, -⟩ := hb
  obtain ⟨lc, rfl, gc, -⟩ := hc
  rw [within_glue ga gb] at h
  rw [within_glue gb gc] at g
  exact (within_glue ga gc).2 (g.trans h)
theorem within_parent {p : Bytes} (h : Cl p) : within p (parent p) = true := by
  by_cases h0 : p = []
  · subst h0; rfl
  · obtain ⟨l, x, rfl, h1, -, h3, -⟩ := h.parts h0
    rw [h3, within_glue h1 h1.left]
    exact List.prefix_append _ _
/-- Below d, and not d itself: its parent is at or below d. -/
theorem within_up {p d : Bytes} (hp : Cl p) (hd : Cl d) (h : within p d = true) (hne : p ≠ d) : within (parent p) d = true := by
  by_cases h0 : p = []
  · subst h0
    obtain ⟨l, rfl, g, -⟩ := hd
    have := (within_glue Goods.nil g).1 h
    rw [List.prefix_nil] at this
    subst this
    exact absurd rfl hne
  · obtain ⟨l, x, rfl, h1, -, h3, -⟩ := hp.parts h0
    obtain ⟨k, rfl, g, -⟩ := hd
    rw [within_glue h1 g] at h
    rw [h3, within_glue h1.left g]
    rcases List.prefix_concat_iff.1 h with e | e
    · subst e; exact absurd rfl hne
    · exact e
/-- What a path is told under another one. -/
def moved (n : Nat) (q k : Bytes) : Bytes := q ++ k.drop n
theorem moved_glue {lp lq t : List Bytes} (hp : lp ≠ []) (hq : lq ≠ []) : moved (glue lp).length (glue lq) (glue (lp ++ t)) = glue (lq ++ t) := by
  unfold moved
  by_cases ht : t = []
  · subst ht; simp
  · rw [glue_app hp ht, glue_app hq ht, List.drop_left]
end Sp
end Go.Proofs.YtmdpmpdlkaogdaaGreatDoor
