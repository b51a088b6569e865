/- Plain laws: trees of named files (haversacklaw8.name). Plain laws of trees: what a tree always is, is kept. No Go here. Plain laws of trees: Rename and Copy. No Go here. Plain laws of sorted lists of files: the document's tree beside the program's. No Go here. Plain laws of trees: what is renamed, and renamed back, is as it was (TreeMoves). No Go here. Plain laws: what the document's tree does is what the program's does. No Go here. -/
import Derived.Test.YtmdpmpdlkaogdaaGreatDoorRa06
import Derived.Test.YtmdpmpdlkaogdaaGreatDoorRa05

namespace Go.Proofs.YtmdpmpdlkaogdaaGreatDoor
namespace Tr

/-- A path's parents, from behind. -/
def par : Nat → Bytes → List Bytes
  | 0, _ => []
  | n + 1, d => if d = [] then [] else d :: par n (Sp.parent d)
theorem par_succ (n : Nat) (d : Bytes) : par (n + 1) d = if d = [] then [] else d :: par n (Sp.parent d) := rfl
theorem aheadF_succ (m : T) (n : Nat) (d : Bytes) : aheadF m (n + 1) d = if d = [] then some [] else match get m d with
    | none => (aheadF m n (Sp.parent d)).map (d :: ·)
    | some x => if x.1 then aheadF m n (Sp.parent d) else none := rfl
theorem aheadF_eq (m : T) : ∀ (n : Nat) (d : Bytes), (∀ e ∈ par n d, ∀ x, get m e = some x → x.1 = true) → aheadF m n d = some ((par n d).filter fun e => (get m e).isNone) := by
  intro n
  induction n with
  | zero => intro d _; rfl
  | succ n ih =>
    intro d h
    rw [par_succ] at h ⊢
    rw [aheadF_succ]
    by_cases h0 : d = []
    · rw [if_pos h0, if_pos h0]; rfl
    · rw [if_neg h0] at h ⊢
      rw [if_neg h0]
      have hr := ih (Sp.parent d) fun e he => h e (List.mem_cons_of_mem _ he)
      cases hg : get m d with
      | none =>
        simp only [hr, List.filter_cons, hg, Option.isNone_none, if_true]; rfl
      | some x =>
        have := h d (by simp) x hg
        simp only [hr, List.filter_cons, hg, Option.isNone_some, Bool.false_eq_true, if_false, this, if_true]
/-- Two trees that answer alike have the same files. -/
theorem perm_ext {m n : T} (hm : (m.map (·.1)).Nodup) (hn : (n.map (·.1)).Nodup) (h : ∀ p, get m p = get n p) : m.Perm n := by
  have nd : ∀ {m : T}, (m.map (·.1)).Nodup → m.Nodup := fun {m} h => by
    induction m with
    | nil => simp
    | cons p m ih =>
      rw [List.map_cons, List.nodup_cons] at h
      exact List.nodup_cons.2 ⟨fun hp => h.1 (List.mem_map.2 ⟨p, hp, rfl⟩), ih h.2⟩
  refine (List.perm_ext_iff_of_nodup (nd hm) (nd hn)).2 fun a => ?_
  obtain ⟨k, x⟩ := a
  constructor
  · intro ha; exact get_mem (by rw [← h]; exact mem_get hm ha)
  · intro ha; exact get_mem (by rw [h]; exact mem_get hn ha)
theorem size_perm {m n : T} (h : m.Perm n) : size m = size n := (h.map _).sum_nat
theorem files_perm {m n : T} (hn : (n.map (·.1)).Nodup) (h : m.Perm n) : files m = files n := by
  unfold files
  refine List.Perm.eq_of_pairwise (le := fun x y => decide (x.1 ≤ y.1) = true) ?_ (List.pairwise_mergeSort (fun a b c => le_tr a.1 b.1 c.1) (fun a b => le_tot a.1 b.1) _) (List.pairwise_mergeSort (fun a b c => le_tr a.1 b.1 c.1) (fun a b => le_tot a.1 b.1) _)
    ((List.mergeSort_perm _ _).trans (h.trans (List.mergeSort_perm _ _).symm))
  intro a b ha hb h1 h2
  have hab := le_as _ _ h1 h2
  have ha' : a ∈ n := h.mem_iff.1 ((List.mergeSort_perm _ _).mem_iff.1 ha)
  have hb' : b ∈ n := (List.mergeSort_perm _ _).mem_iff.1 hb
  have e1 := mem_get hn (show (a.1, a.2) ∈ n from ha')
  have e2 := mem_get hn (show (b.1, b.2) ∈ n from hb')
  rw [hab] at e1
  rw [e1] at e2
  exact Prod.ext hab (Option.some.inj e2)

-- the names
def dirs : List Bytes := [[97], [98], [98, 47, 99], [98, 47, 100]]
def nameChk (k : UInt8) : Bool := Sp.clean (nameB k) == (nameB k, 0) && (par (nameB k).length (Sp.parent (nameB k))).all (fun d => dirs.contains d) && !dirs.contains (nameB k) && (nameB k != []) && decide ((par (nameB k).length (Sp.parent (nameB k))).length ≤ 2)
theorem names_ok : (List.range 256).all (fun n => nameChk (UInt8.ofNat n)) = true := by kernel_rfl
theorem name_ok (k : UInt8) : nameChk k = true := by
  have h := List.all_eq_true.1 names_ok k.toNat (List.mem_range.2 k.toNat_lt)
  simpa using h
def up (k : UInt8) : List Bytes := par (nameB k).length (Sp.parent (nameB k))
theorem name_clean (k : UInt8) : Sp.clean (nameB k) = (nameB k, 0) := by
  have := name_ok k
  simp only [nameChk, Bool.and_eq_true, beq_iff_eq] at this
  exact this.1.1.1.1
theorem up_dirs {k : UInt8} {d : Bytes} (h : d ∈ up k) : d ∈ dirs := by
  have := name_ok k
  simp only [nameChk, Bool.and_eq_true] at this
  have := List.all_eq_true.1 this.1.1.1.2 d h
  simpa using this
theorem name_file (k : UInt8) : nameB k ∉ dirs := by
  have := name_ok k
  simp only [nameChk, Bool.and_eq_true] at this
  simpa using this.1.1.2
theorem name_ne (k : UInt8) : nameB k ≠ [] := by
  have := name_ok k
  simp only [nameChk, Bool.and_eq_true] at this
  simpa using this.1.2
theorem up_len (k : UInt8) : (up k).length ≤ 2 := by
  have := name_ok k
  simp only [nameChk, Bool.and_eq_true, decide_eq_true_eq] at this
  exact this.2

/-- A tree in which the named files ks stand, each with the bytes that B tells. -/
structure Names (B : Bytes → Bytes) (m : T) (ks : List UInt8) : Prop where
  nodup : (m.map (·.1)).Nodup
  file : ∀ k ∈ ks, get m (nameB k) = some (false, B (nameB k))
  dir : ∀ k ∈ ks, ∀ d ∈ up k, get m d = some (true, [])
  none : ∀ p, (∀ k ∈ ks, p ≠ nameB k ∧ p ∉ up k) → get m p = none
  len : m.length ≤ 3 * ks.length
  bytes : size m ≤ 200 * ks.length
theorem Names.nil (B : Bytes → Bytes) : Names B [] [] := ⟨by simp, by simp, by simp, fun _ _ => rfl, by simp, by simp [size]⟩
theorem Names.dirs {B : Bytes → Bytes} {m : T} {ks : List UInt8} (h : Names B m ks) {d : Bytes} (hd : d ∈ Tr.dirs) {x : Nd} (hx : get m d = some x) : x = (true, []) := by
  by_cases hk : ∃ k ∈ ks, d ∈ up k
  · obtain ⟨k, hk, hd2⟩ := hk
    rw [h.dir k hk d hd2] at hx; cases hx; rfl
  · have := h.none d fun k hk' => ⟨fun e => name_file k (e ▸ hd), fun e => hk ⟨k, hk', e⟩⟩
    rw [this] at hx; cases hx
/-- One name more is written. -/
theorem Names.write {B : Bytes → Bytes} {m : T} {ks : List UInt8} (h : Names B m ks) (k : UInt8) (hB : (B (nameB k)).length ≤ 200) (hl : ks.length ≤ 100) : ∃ m', Tr.write m (nameB k) (B (nameB k)) = (m', 0) ∧ Names B m' (ks ++ [k]) := by
  have hcl := name_clean k
  have hup : ∀ e ∈ up k, ∀ x, get m e = some x → x.1 = true := fun e he x hx => by rw [h.dirs (up_dirs he) hx]
  have hah : ahead m (nameB k) = some ((up k).filter fun e => (get m e).isNone) := aheadF_eq m _ _ hup
  obtain ⟨lack, hlk⟩ : ∃ lack, lack = (up k).filter fun e => (get m e).isNone := ⟨_, rfl⟩
  rw [← hlk] at hah
  have hlack : lack.length ≤ 2 := by rw [hlk]; exact Nat.le_trans (List.length_filter_le _ _) (up_len k)
  have hnd : ∀ x, at_ m (nameB k) = some x → x.1 = false := by
    intro x hx
    unfold at_ at hx
    rw [if_neg (name_ne k)] at hx
    by_cases hk : ∃ j ∈ ks, nameB k = nameB j
    · obtain ⟨j, hj, e⟩ := hk
      rw [e, h.file j hj] at hx; cases hx; rfl
    · have := h.none (nameB k) fun j hj => ⟨fun e => hk ⟨j, hj, e⟩, fun e => name_file k (up_dirs e)⟩
      rw [this] at hx; cases hx
  have hc2 : ¬ (Sp.clean (nameB k)).2 ≠ 0 := by rw [hcl]; simp
  have hc1 : (Sp.clean (nameB k)).1 = nameB k := by rw [hcl]
  obtain ⟨-, hput⟩ := put_ok (b := B (nameB k)) (more := false) hc2 rfl (by rw [hc1]; exact hnd) (by rw [hc1]; exact hah)
  rw [hc1] at hput
  have hpb : putB (at_ m (nameB k)) (B (nameB k)) false = B (nameB k) := by unfold putB; cases at_ m (nameB k) <;> rfl
  have hpn : putN (at_ m (nameB k)) lack ≤ 3 := by unfold putN; cases at_ m (nameB k) <;> simp; omega
  rw [hpb] at hput
  have hm1 := h.len
  have hm2 := h.bytes
  have hroom : room m (putN (at_ m (nameB k)) lack) (((B (nameB k)).length : Int) - old m (nameB k)) = true := by
    unfold room
    simp only [Bool.and_eq_true, decide_eq_true_eq]
    omega
  rw [if_neg (by rw [hroom]; simp; omega)] at hput
  refine ⟨_, hput, ?_⟩
  have hsz := size_put h.nodup hah (name_ne k) (false, B (nameB k))
  have hget : ∀ j, get (set (make m lack) (nameB k) (false, B (nameB k))) j = if j = nameB k then some (false, B (nameB k)) else if j ∈ lack then some (true, []) else get m j := fun j => by rw [get_set, get_make]
  obtain ⟨ha1, ha2⟩ := ahead_spec hah
  refine ⟨nodup_set _ _ (nodup_make _ h.nodup), fun j hj => ?_, fun j hj d hd => ?_, fun p hp => ?_, ?_, ?_⟩
  · rw [hget]
    by_cases e : nameB j = nameB k
    · rw [if_pos e, e]
    · rw [if_neg e]
      have hj' : j ∈ ks := by
        rcases List.mem_append.1 hj with hj | hj
        · exact hj
        · simp at hj; subst hj; exact absurd rfl e
      have : nameB j ∉ lack := fun hm => name_file j (up_dirs (by rw [hlk] at hm; exact (List.mem_filter.1 hm).1))
      rw [if_neg this]; exact h.file j hj'
  · rw [hget]
    have hdn : d ≠ nameB k := fun e => name_file k (e ▸ up_dirs hd)
    rw [if_neg hdn]
    by_cases hm : d ∈ lack
    · rw [if_pos hm]
    · rw [if_neg hm]
      rcases List.mem_append.1 hj with hj | hj
      · exact h.dir j hj d hd
      · simp at hj
        subst hj
        have : ¬ (get m d).isNone = true := fun hn => hm (by rw [hlk]; exact List.mem_filter.2 ⟨hd, hn⟩)
        cases hg : get m d with
        | none => rw [hg] at this; exact absurd rfl this
        | some x => rw [h.dirs (up_dirs hd) hg]
  · rw [hget]
    have hk := hp k (by simp)
    rw [if_neg hk.1, if_neg (fun hm => hk.2 (by rw [hlk] at hm; exact (List.mem_filter.1 hm).1))]
    exact h.none p fun j hj => hp j (by simp [hj])
  · rw [len_set, len_make lack ha2 (fun d hd => (ha1 d hd).1)]
    simp only [List.length_append, List.length_cons, List.length_nil]
    split <;> omega
  · dsimp only at hsz
    simp only [List.length_append, List.length_cons, List.length_nil]
    omega
/-- Whoever has the same names has the same files. -/
theorem Names.same {B : Bytes → Bytes} {m n : T} {ks js : List UInt8} (h : Names B m ks) (g : Names B n js) (hs : ∀ k, k ∈ ks ↔ k ∈ js) : m.Perm n := by
  refine perm_ext h.nodup g.nodup fun p => ?_
  by_cases h1 : ∃ k ∈ ks, p = nameB k
  · obtain ⟨k, hk, rfl⟩ := h1
    rw [h.file k hk, g.file k ((hs k).1 hk)]
  · by_cases h2 : ∃ k ∈ ks, p ∈ up k
    · obtain ⟨k, hk, hp⟩ := h2
      rw [h.dir k hk p hp, g.dir k ((hs k).1 hk) p hp]
    · rw [h.none p fun k hk => ⟨fun e => h1 ⟨k, hk, e⟩, fun e => h2 ⟨k, hk, e⟩⟩, g.none p fun k hk => ⟨fun e => h1 ⟨k, (hs k).2 hk, e⟩, fun e => h2 ⟨k, (hs k).2 hk, e⟩⟩]
end Tr
end Go.Proofs.YtmdpmpdlkaogdaaGreatDoor

namespace Go.Proofs.YtmdpmpdlkaogdaaGreatDoor
namespace Tr
open Sp (Cl)

theorem par_in : ∀ (n : Nat) {d e : Bytes}, Cl d → e ∈ par n d → e ≠ [] ∧ Cl e ∧ Sp.within d e = true := by
  intro n
  induction n with
  | zero => intro d e _ h; cases h
  | succ n ih =>
    intro d e hd h
    rw [par_succ] at h
    by_cases h0 : d = []
    · rw [if_pos h0] at h; cases h
    · rw [if_neg h0] at h
      rcases List.mem_cons.1 h with rfl | h
      · exact ⟨h0, hd, Sp.within_refl _⟩
      · obtain ⟨a, b, c⟩ := ih hd.up h
        exact ⟨a, b, Sp.within_trans hd hd.up b (Sp.within_parent hd) c⟩
theorem within_nil {e : Bytes} (h : Sp.within [] e = true) : e = [] := by
  unfold Sp.within at h
  simp only [Bool.or_eq_true, beq_iff_eq] at h
  rcases h with (h | h) | h
  · exact h
  · exact h.symm
  · simp at h
theorem par_all : ∀ (n : Nat) {d e : Bytes}, d.length ≤ n → Cl d → Cl e → e ≠ [] → Sp.within d e = true → e ∈ par n d := by
  intro n
  induction n with
  | zero =>
    intro d e hl hd he h0 h
    have : d = [] := List.eq_nil_of_length_eq_zero (by omega)
    subst this
    exact absurd (within_nil h) h0
  | succ n ih =>
    intro d e hl hd he h0 h
    rw [par_succ]
    by_cases hd0 : d = []
    · subst hd0; exact absurd (within_nil h) h0
    · rw [if_neg hd0]
      by_cases hde : d = e
      · subst hde; simp
      · have := parent_lt hd0
        exact List.mem_cons_of_mem _ (ih (by omega) hd.up he h0 (Sp.within_up hd he h hde))
/-- What aheadF tells. -/
theorem aheadF_some (m : T) : ∀ (n : Nat) (d : Bytes) (l : List Bytes), aheadF m n d = some l → (∀ e ∈ par n d, (∃ b, get m e = some (true, b)) ∨ e ∈ l) ∧ (∀ e ∈ l, e ∈ par n d ∧ get m e = none) := by
  intro n
  induction n with
  | zero => intro d l h; cases h; exact ⟨fun e he => (by cases he), fun e he => (by cases he)⟩
  | succ n ih =>
    intro d l h
    rw [aheadF_succ] at h
    rw [par_succ]
    by_cases h0 : d = []
    · rw [if_pos h0] at h ⊢; cases h; exact ⟨fun e he => (by cases he), fun e he => (by cases he)⟩
    · rw [if_neg h0] at h ⊢
      cases hg : get m d with
      | none =>
        rw [hg] at h
        cases hr : aheadF m n (Sp.parent d) with
        | none => rw [hr] at h; cases h
        | some r =>
          rw [hr] at h
          cases h
          obtain ⟨h1, h2⟩ := ih _ _ hr
          refine ⟨fun e he => ?_, fun e he => ?_⟩
          · rcases List.mem_cons.1 he with rfl | he
            · exact .inr (by simp)
            · exact (h1 e he).imp id (List.mem_cons_of_mem _)
          · rcases List.mem_cons.1 he with rfl | he
            · exact ⟨by simp, hg⟩
            · exact ⟨List.mem_cons_of_mem _ (h2 e he).1, (h2 e he).2⟩
      | some x =>
        rw [hg] at h
        obtain ⟨b, y⟩ := x
        simp only at h
        split at h
        · rename_i hb
          subst hb
          obtain ⟨h1, h2⟩ := ih _ _ h
          refine ⟨fun e he => ?_, fun e he => ⟨List.mem_cons_of_mem _ (h2 e he).1, (h2 e he).2⟩⟩
          rcases List.mem_cons.1 he with rfl | he
          · exact .inl ⟨_, hg⟩
          · exact h1 e he
        · cases h
theorem aheadF_none (m : T) : ∀ (n : Nat) (d : Bytes), aheadF m n d = none → ∃ e ∈ par n d, ∃ b, get m e = some (false, b) := by
  intro n
  induction n with
  | zero => intro d h; cases h
  | succ n ih =>
    intro d h
    rw [aheadF_succ] at h
    rw [par_succ]
    by_cases h0 : d = []
    · rw [if_pos h0] at h; cases h
    · rw [if_neg h0] at h ⊢
      cases hg : get m d with
      | none =>
        rw [hg] at h
        cases hr : aheadF m n (Sp.parent d) with
        | none =>
          obtain ⟨e, he, hb⟩ := ih _ hr
          exact ⟨e, List.mem_cons_of_mem _ he, hb⟩
        | some r => rw [hr] at h; cases h
      | some x =>
        rw [hg] at h
        obtain ⟨b, y⟩ := x
        simp only at h
        split at h
        · obtain ⟨e, he, hb⟩ := ih _ h
          exact ⟨e, List.mem_cons_of_mem _ he, hb⟩
        · rename_i hb
          refine ⟨d, by simp, y, ?_⟩
          rw [hg]
          cases b
          · rfl
          · exact absurd rfl hb
/-- A path above another one. -/
def Above (e p : Bytes) : Prop := e ≠ [] ∧ Cl e ∧ Sp.within p e = true ∧ e ≠ p
theorem Above.lt {e p : Bytes} (h : Above e p) : e.length < p.length := by
  have h1 := within_len h.2.2.1
  rcases Nat.lt_or_ge e.length p.length with h2 | h2
  · exact h2
  · obtain ⟨h0, -, hw, hne⟩ := h
    unfold Sp.within at hw
    simp only [Bool.or_eq_true, beq_iff_eq] at hw
    rcases hw with (hw | hw) | hw
    · exact absurd hw h0
    · exact absurd hw.symm hne
    · have := (List.isPrefixOf_iff_prefix.1 hw).length_le
      simp at this; omega
theorem Above.par {e p : Bytes} (hp : Cl p) : Above e p ↔ e ∈ par p.length (Sp.parent p) := by
  constructor
  · rintro ⟨h0, he, hw, hne⟩
    exact par_all _ (parent_le p) hp.up he h0 (Sp.within_up hp he hw (fun x => hne x.symm))
  · intro h
    obtain ⟨h0, he, hw⟩ := par_in _ hp.up h
    have hp0 : p ≠ [] := by intro e0; subst e0; exact h0 (within_nil hw)
    refine ⟨h0, he, Sp.within_trans hp hp.up he (Sp.within_parent hp) hw, ?_⟩
    have h1 := within_len hw
    have h2 := parent_lt hp0
    intro e0; subst e0; omega
theorem Above.trans {a b c : Bytes} (hb : Cl b) (hc : Cl c) (h : Above a b) (g : Above b c) : Above a c := by
  have h1 := h.lt
  have h2 := g.lt
  exact ⟨h.1, h.2.1, Sp.within_trans hc hb h.2.1 g.2.2.1 h.2.2.1, fun e => by subst e; omega⟩
theorem Above.parent {p : Bytes} (hp : Cl p) (h0 : Sp.parent p ≠ []) : Above (Sp.parent p) p := by
  have hp0 : p ≠ [] := by intro e; subst e; exact h0 rfl
  have := parent_lt hp0
  exact ⟨h0, hp.up, Sp.within_parent hp, fun e => by rw [e] at this; omega⟩
theorem Above.up {e p : Bytes} (hp : Cl p) (h : Above e p) : e = Sp.parent p ∨ Above e (Sp.parent p) := by
  have := Sp.within_up hp h.2.1 h.2.2.1 (fun x => h.2.2.2 x.symm)
  by_cases he : e = Sp.parent p
  · exact .inl he
  · exact .inr ⟨h.1, h.2.1, this, he⟩
theorem ahead_some {m : T} {p : Bytes} {l : List Bytes} (hp : Cl p) (h : ahead m p = some l) : (∀ e, Above e p → (∃ b, get m e = some (true, b)) ∨ e ∈ l) ∧ (∀ e ∈ l, Above e p ∧ get m e = none) := by
  obtain ⟨h1, h2⟩ := aheadF_some m _ _ _ h
  exact ⟨fun e he => h1 e ((Above.par hp).1 he), fun e he => ⟨(Above.par hp).2 (h2 e he).1, (h2 e he).2⟩⟩
theorem ahead_none {m : T} {p : Bytes} (hp : Cl p) (h : ahead m p = none) : ∃ e, Above e p ∧ ∃ b, get m e = some (false, b) := by
  obtain ⟨e, he, hb⟩ := aheadF_none m _ _ h
  exact ⟨e, (Above.par hp).2 he, hb⟩
theorem ahead_of {m : T} {p : Bytes} (hp : Cl p) (h : ∀ e, Above e p → ∀ b, get m e ≠ some (false, b)) : ∃ l, ahead m p = some l := by
  cases ha : ahead m p with
  | some l => exact ⟨l, rfl⟩
  | none =>
    obtain ⟨e, he, b, hb⟩ := ahead_none hp ha
    exact absurd hb (h e he b)

/-- What is so of all that stands in a tree. -/
def Sound (m : T) (k : Bytes) (x : Nd) : Prop := k ≠ [] ∧ Cl k ∧ (Sp.parent k = [] ∨ ∃ b, get m (Sp.parent k) = some (true, b)) ∧ (x.1 = true → x.2 = []) ∧ x.2.length ≤ 65536
theorem Ok.mk' {m : T} (hn : (m.map (·.1)).Nodup) (h : ∀ k x, get m k = some x → Sound m k x) (hl : m.length ≤ 500) (hb : size m ≤ 1048576) : Ok m :=
  ⟨hn, fun p hp => ⟨(h p.1 p.2 (mem_get hn hp)).1, (h p.1 p.2 (mem_get hn hp)).2.1.clean⟩, fun p hp => (h p.1 p.2 (mem_get hn hp)).2.2.1, fun p hp => (h p.1 p.2 (mem_get hn hp)).2.2.2.1, fun p hp => (h p.1 p.2 (mem_get hn hp)).2.2.2.2, hl, hb⟩
theorem Ok.sound {m : T} (h : Ok m) {k : Bytes} {x : Nd} (hg : get m k = some x) : Sound m k x := by
  have hm := get_mem hg
  exact ⟨(h.cleaned _ hm).1, Cl.of (h.cleaned _ hm).2, h.up _ hm, h.dir _ hm, h.max _ hm⟩
theorem Ok.is_dir {m : T} (h : Ok m) {k : Bytes} {b : Bytes} (hg : get m k = some (true, b)) : get m k = some (true, []) := by
  have := (h.sound hg).2.2.2.1 rfl
  dsimp only at this
  subst this; exact hg
/-- All above what stands are directories. -/
theorem Ok.above {m : T} (h : Ok m) : ∀ (n : Nat) {k e : Bytes} {x : Nd}, k.length ≤ n → get m k = some x → Above e k → get m e = some (true, []) := by
  intro n
  induction n with
  | zero =>
    intro k e x hl hg ha
    have := ha.lt; omega
  | succ n ih =>
    intro k e x hl hg ha
    obtain ⟨h0, hc, hu, -⟩ := h.sound hg
    have hlt := parent_lt h0
    rcases hu with hu | ⟨b, hu⟩
    · rcases ha.up hc with e1 | e1
      · exact absurd (e1.trans hu) ha.1
      · rw [hu] at e1; exact absurd (within_nil e1.2.2.1) e1.1
    · rcases ha.up hc with e1 | e1
      · rw [e1]; exact h.is_dir hu
      · exact ih (by omega) hu e1
theorem Ok.abv {m : T} (h : Ok m) {k e : Bytes} {x : Nd} (hg : get m k = some x) (ha : Above e k) : get m e = some (true, []) := h.above _ (Nat.le_refl _) hg ha
/-- What isn't there has nothing below it. -/
theorem Ok.bare {m : T} (h : Ok m) {p k : Bytes} (hp : Cl p) (h0 : p ≠ []) (hg : get m p = none) (hw : Sp.within k p = true) : get m k = none := by
  cases hk : get m k with
  | none => rfl
  | some x =>
    by_cases e : p = k
    · subst e; rw [hg] at hk; cases hk
    · rw [h.abv hk ⟨h0, hp, hw, e⟩] at hg; cases hg

/-- One thing more, with the directories ahead of it. -/
theorem Ok.add {m : T} (h : Ok m) {p : Bytes} {lack : List Bytes} {x : Nd} (hp : Cl p) (h0 : p ≠ []) (ha : ahead m p = some lack) (hold : ∀ y, get m p = some y → y.1 = x.1) (hx : x.1 = true → x.2 = []) (hmax : x.2.length ≤ 65536)
    (hlen : (set (make m lack) p x).length ≤ 500) (hbytes : size (set (make m lack) p x) ≤ 1048576) : Ok (set (make m lack) p x) := by
  obtain ⟨a1, a2⟩ := ahead_some hp ha
  have hget : ∀ j, get (set (make m lack) p x) j = if j = p then some x else if j ∈ lack then some (true, []) else get m j := fun j => by rw [get_set, get_make]
  have habv : ∀ e, Above e p → ∃ b, get (set (make m lack) p x) e = some (true, b) := fun e he => by
    rw [hget, if_neg he.2.2.2]
    rcases a1 e he with ⟨b, hb⟩ | hl
    · by_cases hl : e ∈ lack
      · exact ⟨[], by rw [if_pos hl]⟩
      · exact ⟨b, by rw [if_neg hl]; exact hb⟩
    · exact ⟨[], by rw [if_pos hl]⟩
  have hpar : ∀ k, Cl k → (k = p ∨ Above k p) → Sp.parent k = [] ∨ ∃ b, get (set (make m lack) p x) (Sp.parent k) = some (true, b) := fun k hk hh => by
    by_cases hk0 : Sp.parent k = []
    · exact .inl hk0
    · right
      rcases hh with rfl | hh
      · exact habv _ (Above.parent hk hk0)
      · exact habv _ (Above.trans hk hp (Above.parent hk hk0) hh)
  refine Ok.mk' (nodup_set _ _ (nodup_make _ h.nodup)) (fun k y hk => ?_) hlen hbytes
  have hk' := hk
  rw [hget] at hk
  by_cases e1 : k = p
  · rw [if_pos e1] at hk
    cases hk
    subst e1
    exact ⟨h0, hp, hpar _ hp (.inl rfl), hx, hmax⟩
  · rw [if_neg e1] at hk
    by_cases e2 : k ∈ lack
    · rw [if_pos e2] at hk
      cases hk
      have hab := (a2 k e2).1
      exact ⟨hab.1, hab.2.1, hpar k hab.2.1 (.inr hab), fun _ => rfl, by simp⟩
    · rw [if_neg e2] at hk
      obtain ⟨s1, s2, s3, s4, s5⟩ := h.sound hk
      refine ⟨s1, s2, ?_, s4, s5⟩
      rcases s3 with s3 | ⟨b, s3⟩
      · exact .inl s3
      · right
        rw [hget]
        by_cases e3 : Sp.parent k = p
        · rw [if_pos e3]
          rw [e3] at s3
          have := hold _ s3
          obtain ⟨x1, x2⟩ := x
          dsimp only at this
          exact ⟨x2, by rw [this]⟩
        · rw [if_neg e3]
          by_cases e4 : Sp.parent k ∈ lack
          · exact ⟨[], by rw [if_pos e4]⟩
          · exact ⟨b, by rw [if_neg e4]; exact s3⟩
theorem len_add {m : T} {p : Bytes} {lack : List Bytes} (x : Nd) (hp : p ≠ []) (ha : ahead m p = some lack) : (set (make m lack) p x).length = m.length + lack.length + if (get m p).isSome then 0 else 1 := by
  obtain ⟨h1, h2⟩ := ahead_spec ha
  rw [len_set, get_make, len_make lack h2 (fun d hd => (h1 d hd).1)]
  have hpl : p ∉ lack := fun hm => by have := (h1 p hm).2.2 hp; omega
  rw [if_neg hpl]
/-- Where a file is, nothing lacks ahead of it. -/
theorem Ok.ahead_nil {m : T} (h : Ok m) {p : Bytes} {x : Nd} (hg : get m p = some x) : ahead m p = some [] := by
  have hc := (h.sound hg).2.1
  obtain ⟨l, hl⟩ := ahead_of hc (fun e he b hb => by rw [h.abv hg he] at hb; cases hb)
  rw [hl]
  obtain ⟨-, a2⟩ := ahead_some hc hl
  cases l with
  | nil => rfl
  | cons e l =>
    obtain ⟨ha, hn⟩ := a2 e (by simp)
    rw [h.abv hg ha] at hn; cases hn
theorem room_spec {m : T} {f b : Int} (h : room m f b = true) : f ≤ 500 - m.length ∧ b ≤ 1048576 - size m := by
  unfold room at h
  simp only [Bool.and_eq_true, decide_eq_true_eq] at h
  exact h
theorem Ok.put {m : T} (h : Ok m) (s b : Bytes) (more : Bool) : Ok (put m s b more).1 := by
  by_cases h0 : (Sp.clean s).2 ≠ 0
  · rw [put_err h0]; exact h
  have hcl := Sp.clean_cl (s := s) (by simpa using h0)
  obtain ⟨ox, hox⟩ : ∃ ox, at_ m (Sp.clean s).1 = ox := ⟨_, rfl⟩
  by_cases hd : ∀ x, ox = some x → x.1 = false
  · cases ha : ahead m (Sp.clean s).1 with
    | none => rw [put_kind h0 ha]; exact h
    | some lack =>
      obtain ⟨hp, hput⟩ := put_ok (b := b) (more := more) h0 hox hd ha
      rw [hput]
      split
      · exact h
      · rename_i hr
        simp only [not_or, Bool.not_eq_false] at hr
        obtain ⟨hr1, hr2⟩ := hr
        obtain ⟨r1, r2⟩ := room_spec hr2
        have hg : get m (Sp.clean s).1 = ox := by unfold at_ at hox; rwa [if_neg hp] at hox
        have hsz := size_put h.nodup ha hp (false, putB ox b more)
        have hln := len_add (false, putB ox b more) hp ha
        have hl := h.len
        refine h.add hcl hp ha (fun y hy => by rw [hg] at hy; exact hd y hy) (fun e => by cases e) (by dsimp only; omega) ?_ ?_
        · rw [hln, hg]
          cases ox with
          | none => simp only [putN] at r1; simp; omega
          | some x =>
            have := h.ahead_nil hg
            rw [ha] at this
            cases this
            simpa using hl
        · dsimp only at hsz ⊢; omega
  · have ⟨x, hx, hx1⟩ : ∃ x, ox = some x ∧ x.1 = true := by
      cases ox with
      | none => exact absurd (fun x h => by cases h) hd
      | some x =>
        refine ⟨x, rfl, ?_⟩
        cases hh : x.1 with
        | true => rfl
        | false => exact absurd (fun y hy => by cases hy; exact hh) hd
    rw [put_dir h0 (hox.trans hx) hx1]; exact h
theorem Ok.write {m : T} (h : Ok m) (s b : Bytes) : Ok (write m s b).1 := h.put s b false
theorem Ok.append {m : T} (h : Ok m) (s b : Bytes) : Ok (append m s b).1 := h.put s _ true
theorem at_none {m : T} {p : Bytes} (h : at_ m p = none) : p ≠ [] ∧ get m p = none := by
  unfold at_ at h
  split at h
  · cases h
  · rename_i hp; exact ⟨hp, h⟩
theorem Ok.mkdir {m : T} (h : Ok m) (s : Bytes) : Ok (mkdir m s).1 := by
  unfold Tr.mkdir
  split
  · exact h
  rename_i h0
  have hcl := Sp.clean_cl (s := s) (by simpa using h0)
  dsimp only
  split
  · split <;> exact h
  · rename_i hat
    obtain ⟨hp, hg⟩ := at_none hat
    split
    · exact h
    · rename_i lack ha
      split
      · exact h
      · rename_i hr
        simp only [Bool.not_eq_false] at hr
        obtain ⟨r1, r2⟩ := room_spec hr
        rw [make_snoc]
        have hsz := size_put h.nodup ha hp (true, [])
        have hln := len_add (true, []) hp ha
        have hb := h.bytes
        refine h.add hcl hp ha (fun y hy => by rw [hg] at hy; cases hy) (fun _ => rfl) (by simp) ?_ ?_
        · rw [hln, hg]; simp; omega
        · simp [old, hg] at hsz; omega
theorem get_drop (l : List Bytes) : ∀ (m : T) (j : Bytes), get (drop m l) j = if j ∈ l then none else get m j := by
  induction l with
  | nil => intro m j; simp [drop]
  | cons k l ih =>
    intro m j
    show get (drop (del m k) l) j = _
    rw [ih, get_del]
    by_cases h1 : j ∈ l
    · simp [h1]
    · by_cases h2 : j = k
      · simp [h2]
      · simp [h1, h2]
theorem nodup_drop (l : List Bytes) : ∀ {m : T}, (m.map (·.1)).Nodup → ((drop m l).map (·.1)).Nodup := by
  induction l with
  | nil => intro m h; exact h
  | cons k l ih => intro m h; exact ih (nodup_del _ h)
theorem len_drop (l : List Bytes) : ∀ (m : T), (drop m l).length ≤ m.length := by
  induction l with
  | nil => intro m; exact Nat.le_refl _
  | cons k l ih => intro m; exact Nat.le_trans (ih (del m k)) (List.length_filter_le _ _)
theorem get_cut {m : T} (p j : Bytes) : get (drop m (below m p)) j = if Sp.within j p = true then none else get m j := by
  rw [get_drop]
  by_cases hw : Sp.within j p = true
  · rw [if_pos hw]
    split
    · rfl
    · rename_i hb
      cases hg : get m j with
      | none => rfl
      | some x => exact absurd (mem_below.2 ⟨List.mem_map.2 ⟨_, get_mem hg, rfl⟩, hw⟩) hb
  · rw [if_neg hw, if_neg]
    intro hb
    exact hw (mem_below.1 hb).2
/-- Whose parent is at or below p, is so too. -/
theorem within_of_parent {k p : Bytes} (hk : Cl k) (hp : Cl p) (h : Sp.within (Sp.parent k) p = true) : Sp.within k p = true := Sp.within_trans hk hk.up hp (Sp.within_parent hk) h
theorem Ok.remove {m : T} (h : Ok m) (s : Bytes) : Ok (remove m s).1 := by
  unfold Tr.remove
  split
  · exact h
  rename_i h0
  have hcl := Sp.clean_cl (s := s) (by simpa using h0)
  dsimp only
  split
  · exact h
  split
  · exact h
  dsimp only
  refine Ok.mk' (nodup_drop _ h.nodup) (fun k x hk => ?_) (Nat.le_trans (len_drop _ _) h.len) (Nat.le_trans (drop_size_le _ _ h.nodup) h.bytes)
  rw [get_cut] at hk
  split at hk
  · cases hk
  rename_i hw
  obtain ⟨s1, s2, s3, s4, s5⟩ := h.sound hk
  refine ⟨s1, s2, s3.imp id fun ⟨b, hb⟩ => ⟨b, ?_⟩, s4, s5⟩
  rw [get_cut, if_neg (fun e => hw (within_of_parent s2 hcl e))]
  exact hb
end Tr
end Go.Proofs.YtmdpmpdlkaogdaaGreatDoor

namespace Go.Proofs.YtmdpmpdlkaogdaaGreatDoor
namespace Sp
theorem within_iff {j q : Bytes} (hq : q ≠ []) : within j q = true ↔ ∃ r, j = q ++ r ∧ (r = [] ∨ r.head? = some 47) := by
  unfold within
  simp only [Bool.or_eq_true, beq_iff_eq]
  constructor
  · rintro ((h | h) | h)
    · exact absurd h hq
    · exact ⟨[], by simp [h], .inl rfl⟩
    · obtain ⟨t, ht⟩ := List.isPrefixOf_iff_prefix.1 h
      exact ⟨47 :: t, by rw [← ht]; simp, .inr rfl⟩
  · rintro ⟨r, rfl, hr⟩
    rcases hr with rfl | hr
    · exact .inl (.inr (by simp))
    · cases r with
      | nil => cases hr
      | cons c r =>
        simp only [List.head?_cons, Option.some.injEq] at hr
        subst hr
        exact .inr (List.isPrefixOf_iff_prefix.2 ⟨r, by simp⟩)
theorem moved_within {p q k : Bytes} (hp : p ≠ []) (hq : q ≠ []) (h : within k p = true) : within (moved p.length q k) q = true ∧ moved q.length p (moved p.length q k) = k := by
  obtain ⟨r, rfl, hr⟩ := (within_iff hp).1 h
  unfold moved
  rw [List.drop_left, List.drop_left]
  exact ⟨(within_iff hq).2 ⟨r, rfl, hr⟩, rfl⟩
theorem moved_self (p q : Bytes) : moved p.length q p = q := by simp [moved]
theorem moved_parts {p q k : Bytes} (hp : Cl p) (hq : Cl q) (hk : Cl k) (hp0 : p ≠ []) (hq0 : q ≠ []) (h : within k p = true) : ∃ lp lq t, p = glue lp ∧ q = glue lq ∧ k = glue (lp ++ t) ∧ Goods (lp ++ t) ∧ Goods (lq ++ t) ∧ lp ≠ [] ∧ lq ≠ [] ∧ moved p.length q k = glue (lq ++ t) := by
  obtain ⟨lp, rfl, gp, -⟩ := hp
  obtain ⟨lq, rfl, gq, -⟩ := hq
  obtain ⟨lk, rfl, gk, -⟩ := hk
  obtain ⟨t, rfl⟩ := (within_glue gk gp).1 h
  have h1 : lp ≠ [] := fun e => hp0 (by rw [e]; rfl)
  have h2 : lq ≠ [] := fun e => hq0 (by rw [e]; rfl)
  exact ⟨lp, lq, t, rfl, rfl, rfl, gk, gq.app gk.right, h1, h2, moved_glue h1 h2⟩
theorem clean_moved {p q k : Bytes} (hp : Cl p) (hq : Cl q) (hk : Cl k) (hp0 : p ≠ []) (hq0 : q ≠ []) (h : within k p = true) :
    (Cl (moved p.length q k) ∧ clean (moved p.length q k) = (moved p.length q k, 0)) ∨ (¬ Cl (moved p.length q k) ∧ clean (moved p.length q k) = ([], 50)) := by
  obtain ⟨lp, lq, t, rfl, rfl, rfl, g1, g2, -, -, e⟩ := moved_parts hp hq hk hp0 hq0 h
  rw [e, clean_glue g2]
  by_cases hc : 200 < (glue (lq ++ t)).length ∨ 12 < (lq ++ t).length
  · rw [if_pos hc]
    refine .inr ⟨?_, rfl⟩
    rintro ⟨l, e1, g, h1, h2⟩
    have := glue_inj g2 g e1
    subst this; omega
  · rw [if_neg hc]
    exact .inl ⟨⟨_, rfl, g2, by omega, by omega⟩, rfl⟩
theorem moved_parent {p q k : Bytes} (hp : Cl p) (hq : Cl q) (hk : Cl k) (hp0 : p ≠ []) (hq0 : q ≠ []) (h : within k p = true) (hne : k ≠ p) : parent (moved p.length q k) = moved p.length q (parent k) := by
  obtain ⟨lp, lq, t, rfl, rfl, rfl, g1, g2, h1, h2, e⟩ := moved_parts hp hq hk hp0 hq0 h
  have ht : t ≠ [] := by intro e; subst e; simp at hne
  obtain ⟨t, x, rfl⟩ := snoc_of ht
  have hx : (47 : UInt8) ∉ x := g1.no x (by simp)
  rw [e, ← List.append_assoc, ← List.append_assoc, parent_glue hx, parent_glue hx, moved_glue h1 h2]
end Sp
namespace Tr
open Sp (Cl moved)

theorem dests_eq {p q : Bytes} (hp : Cl p) (hq : Cl q) (hp0 : p ≠ []) (hq0 : q ≠ []) : ∀ l, (∀ k ∈ l, Cl k ∧ Sp.within k p = true) →
    ((∀ k ∈ l, Cl (moved p.length q k)) ∧ dests p.length q l = (l.map (moved p.length q), 0)) ∨ ((∃ k ∈ l, ¬ Cl (moved p.length q k)) ∧ dests p.length q l = ([], 50)) := by
  intro l
  induction l with
  | nil => intro _; exact .inl ⟨fun k h => (by cases h), rfl⟩
  | cons k l ih =>
    intro h
    obtain ⟨hk, hw⟩ := h k (by simp)
    have ih := ih fun j hj => h j (List.mem_cons_of_mem _ hj)
    have hd := dests_cons p.length q k l
    rw [show q ++ k.drop p.length = moved p.length q k from rfl] at hd
    rw [hd]
    rcases Sp.clean_moved hp hq hk hp0 hq0 hw with ⟨c1, c2⟩ | ⟨c1, c2⟩
    · rw [c2, if_neg (by simp)]
      rcases ih with ⟨i1, i2⟩ | ⟨i1, i2⟩
      · rw [i2, if_neg (by simp)]
        refine .inl ⟨fun j hj => ?_, rfl⟩
        rcases List.mem_cons.1 hj with rfl | hj
        · exact c1
        · exact i1 j hj
      · rw [i2, if_pos (by simp)]
        obtain ⟨j, hj, hn⟩ := i1
        exact .inr ⟨⟨j, List.mem_cons_of_mem _ hj, hn⟩, rfl⟩
    · rw [c2, if_pos (by simp)]
      exact .inr ⟨⟨k, by simp, c1⟩, rfl⟩

/-- What a plan says. -/
structure Planned (m : T) (p q : Bytes) (v : Move) : Prop where
  hp : Cl p
  hq : Cl q
  p0 : p ≠ []
  q0 : q ≠ []
  src : v.src = below m p
  here : ∃ x, get m p = some x
  out : Sp.within q p = false
  free : get m q = none
  ahead : ahead m q = some v.lack
  dst : v.dst = v.src.map (moved p.length q)
  cl : ∀ k ∈ v.src, Cl (moved p.length q k)
  bytes : v.bytes = (v.src.map fun k => old m k).sum
theorem Ok.planned {m : T} (h : Ok m) {s d : Bytes} {v : Move} {e : Int} (hp : plan m s d = (some v, e)) : Planned m (Sp.clean s).1 (Sp.clean d).1 v := by
  obtain ⟨-, h1, h2, h3, h4, h5, h6, h7, h8, h9, h10⟩ := plan_spec hp
  obtain ⟨q0, hq⟩ := at_none h10
  have cp := Sp.clean_cl h5
  have cq := Sp.clean_cl h6
  have hsrc : ∀ k ∈ v.src, Cl k ∧ Sp.within k (Sp.clean s).1 = true := fun k hk => by
    rw [h1] at hk
    obtain ⟨k1, k2⟩ := mem_below.1 hk
    obtain ⟨x, hx, rfl⟩ := List.mem_map.1 k1
    exact ⟨Cl.of (h.cleaned x hx).2, k2⟩
  have hd := dests_eq cp cq h8 q0 v.src hsrc
  rw [h2] at hd
  have hd' := hd.resolve_right fun ⟨_, e⟩ => absurd (congrArg Prod.snd e) (by simp)
  refine ⟨cp, cq, h8, q0, h1, ?_, h9, hq, h3, (Prod.mk.inj hd'.2).1, hd'.1, h4⟩
  unfold Tr.at_ at h7
  rw [if_neg h8] at h7
  exact Option.isSome_iff_exists.1 h7

theorem get_copyL (f : Bytes → Bytes) : ∀ (l : List Bytes) (m : T), (∀ k ∈ l, ∀ j ∈ l, f k ≠ j) → (l.map f).Nodup →
    (∀ k ∈ l, get (copyL m l (l.map f)) (f k) = some ((get m k).getD (true, []))) ∧ ∀ j, j ∉ l.map f → get (copyL m l (l.map f)) j = get m j := by
  intro l
  induction l with
  | nil => intro m _ _; exact ⟨fun k h => (by cases h), fun j _ => rfl⟩
  | cons k l ih =>
    intro m h hn
    rw [List.map_cons, List.nodup_cons] at hn
    rw [List.map_cons, copyL_cons]
    obtain ⟨i1, i2⟩ := ih (set m (f k) ((get m k).getD (true, []))) (fun a ha b hb => h a (List.mem_cons_of_mem _ ha) b (List.mem_cons_of_mem _ hb)) hn.2
    constructor
    · intro a ha
      rcases List.mem_cons.1 ha with rfl | ha
      · rw [i2 _ hn.1, get_set, if_pos rfl]
      · rw [i1 a ha, get_set, if_neg (fun e => h k (by simp) a (List.mem_cons_of_mem _ ha) e.symm)]
    · intro j hj
      rw [List.mem_cons, not_or] at hj
      rw [i2 j hj.2, get_set, if_neg hj.1]
theorem size_copyL (f : Bytes → Bytes) : ∀ (l : List Bytes) (m : T), (m.map (·.1)).Nodup → (∀ k ∈ l, ∀ j ∈ l, f k ≠ j) → (l.map f).Nodup → (∀ k ∈ l, get m (f k) = none) →
    size (copyL m l (l.map f)) = size m + (l.map fun k => old m k).sum ∧ (copyL m l (l.map f)).length = m.length + l.length := by
  intro l
  induction l with
  | nil => intro m _ _ _ _; exact ⟨rfl, rfl⟩
  | cons k l ih =>
    intro m hm h hn hg
    rw [List.map_cons, List.nodup_cons] at hn
    rw [List.map_cons, copyL_cons]
    have hne : ∀ a ∈ l, f a ≠ f k := fun a ha e => hn.1 (e ▸ List.mem_map.2 ⟨a, ha, rfl⟩)
    have hgk := hg k (by simp)
    obtain ⟨i1, i2⟩ := ih (set m (f k) ((get m k).getD (true, []))) (nodup_set _ _ hm) (fun a ha b hb => h a (List.mem_cons_of_mem _ ha) b (List.mem_cons_of_mem _ hb)) hn.2 (fun a ha => by
      rw [get_set, if_neg (hne a ha)]; exact hg a (List.mem_cons_of_mem _ ha))
    have hs := size_set hm (f k) ((get m k).getD (true, []))
    have hl := len_set m (f k) ((get m k).getD (true, []))
    rw [hgk] at hl
    have ho : (l.map fun a => old (set m (f k) ((get m k).getD (true, []))) a) = l.map fun a => old m a := List.map_congr_left fun a ha => by
      unfold old
      rw [get_set, if_neg (fun e => h k (by simp) a (List.mem_cons_of_mem _ ha) e.symm)]
    rw [ho] at i1
    have hok : old m (f k) = 0 := by unfold old; rw [hgk]; rfl
    have hkk : old m k = ((get m k).getD (true, [])).2.length := rfl
    simp only [List.map_cons, List.sum_cons, List.length_cons]
    simp at hl
    omega
theorem size_drop : ∀ (l : List Bytes) {m : T}, (m.map (·.1)).Nodup → l.Nodup → (∀ k ∈ l, (get m k).isSome = true) → size (drop m l) + (l.map fun k => old m k).sum = size m ∧ (drop m l).length + l.length = m.length := by
  intro l
  induction l with
  | nil => intro m _ _ _; exact ⟨rfl, rfl⟩
  | cons k l ih =>
    intro m hm hn hg
    rw [List.nodup_cons] at hn
    have hne : ∀ a ∈ l, a ≠ k := fun a ha e => hn.1 (e ▸ ha)
    obtain ⟨i1, i2⟩ := ih (m := del m k) (nodup_del _ hm) hn.2 (fun a ha => by rw [get_del, if_neg (hne a ha)]; exact hg a (List.mem_cons_of_mem _ ha))
    have ho : (l.map fun a => old (del m k) a) = l.map fun a => old m a := List.map_congr_left fun a ha => by
      unfold old
      rw [get_del, if_neg (hne a ha)]
    rw [ho] at i1
    have hs := size_del hm k
    have hl : (del m k).length + 1 = m.length := by
      have hk := hg k (by simp)
      clear ih i1 i2 ho hs hg
      induction m with
      | nil => cases hk
      | cons p m ihm =>
        rw [List.map_cons, List.nodup_cons] at hm
        unfold del
        rw [List.filter_cons]
        by_cases hp : p.1 = k
        · have h1 : List.filter (fun p => !(p.1 == k)) m = m := List.filter_eq_self.2 fun q hq => by
            have : q.1 ≠ k := fun e => hm.1 (by rw [hp, ← e]; exact List.mem_map.2 ⟨q, hq, rfl⟩)
            simpa using this
          have : (!(p.1 == k)) = false := by simpa using hp
          rw [this, if_neg (by simp), h1]; rfl
        · have : (!(p.1 == k)) = true := by simpa using hp
          rw [this, if_pos rfl, List.length_cons, List.length_cons]
          rw [get_cons, if_neg hp] at hk
          have := ihm hm.2 hk
          unfold del at this
          omega
    show size (drop (del m k) l) + _ = _ ∧ (drop (del m k) l).length + _ = _
    simp only [List.map_cons, List.sum_cons, List.length_cons]
    omega

section planned
variable {m : T} {p q : Bytes} {v : Move} (h : Ok m) (P : Planned m p q v)
include h P
theorem Planned.mem {k : Bytes} : k ∈ v.src ↔ (∃ x, get m k = some x) ∧ Sp.within k p = true := by
  rw [P.src, mem_below]
  constructor
  · rintro ⟨h1, h2⟩
    refine ⟨?_, h2⟩
    obtain ⟨x, hx, rfl⟩ := List.mem_map.1 h1
    exact ⟨x.2, mem_get h.nodup hx⟩
  · rintro ⟨⟨x, hx⟩, h2⟩
    exact ⟨List.mem_map.2 ⟨_, get_mem hx, rfl⟩, h2⟩
/-- Nothing stands where it comes to. -/
theorem Planned.new {j : Bytes} (hw : Sp.within j q = true) : get m j = none := h.bare P.hq P.q0 P.free hw
omit h in
theorem Planned.lack_out {j : Bytes} (hj : j ∈ v.lack) : Sp.within j q = false := by
  obtain ⟨-, a2⟩ := ahead_some P.hq P.ahead
  have := (a2 j hj).1.lt
  cases hw : Sp.within j q with
  | false => rfl
  | true => have := within_len hw; omega
theorem Planned.inj : (v.src.map (moved p.length q)).Nodup ∧ (∀ k ∈ v.src, ∀ j ∈ v.src, moved p.length q k ≠ j) ∧ ∀ k ∈ v.src, get (make m v.lack) (moved p.length q k) = none := by
  refine ⟨?_, fun k hk j hj e => ?_, fun k hk => ?_⟩
  · have hn : v.src.Nodup := by rw [P.src]; exact nodup_below h.nodup
    unfold List.Nodup at hn ⊢
    rw [List.pairwise_map]
    refine hn.imp_of_mem fun {a b} ha hb hne e => hne ?_
    have h1 := (Sp.moved_within P.p0 P.q0 ((P.mem h).1 ha).2).2
    have h2 := (Sp.moved_within P.p0 P.q0 ((P.mem h).1 hb).2).2
    rw [← h1, e, h2]
  · have h1 := (Sp.moved_within P.p0 P.q0 ((P.mem h).1 hk).2).1
    rw [e] at h1
    obtain ⟨⟨x, hx⟩, -⟩ := (P.mem h).1 hj
    rw [P.new h h1] at hx; cases hx
  · have h1 := (Sp.moved_within P.p0 P.q0 ((P.mem h).1 hk).2).1
    rw [get_make, if_neg (fun hm => by rw [P.lack_out hm] at h1; cases h1), P.new h h1]
theorem Planned.get (j : Bytes) : Tr.get (copy m v) j = if Sp.within j q = true then Tr.get m (moved q.length p j) else if j ∈ v.lack then some (true, []) else Tr.get m j := by
  obtain ⟨n1, n2, n3⟩ := P.inj h
  unfold Tr.copy
  rw [P.dst]
  obtain ⟨g1, g2⟩ := get_copyL (moved p.length q) v.src (make m v.lack) n2 n1
  obtain ⟨-, a2⟩ := ahead_some P.hq P.ahead
  have hmake : ∀ k ∈ v.src, Tr.get (make m v.lack) k = Tr.get m k := fun k hk => by
    rw [get_make, if_neg]
    intro hl
    obtain ⟨⟨x, hx⟩, -⟩ := (P.mem h).1 hk
    rw [(a2 k hl).2] at hx; cases hx
  by_cases hw : Sp.within j q = true
  · rw [if_pos hw]
    obtain ⟨b1, b2⟩ := Sp.moved_within P.q0 P.p0 hw
    cases hk : Tr.get m (moved q.length p j) with
    | some x =>
      have hs : moved q.length p j ∈ v.src := (P.mem h).2 ⟨⟨x, hk⟩, b1⟩
      have := g1 _ hs
      rw [b2, hmake _ hs, hk] at this
      exact this
    | none =>
      rw [g2 j (fun hm => ?_), get_make, if_neg (fun hl => by rw [P.lack_out hl] at hw; cases hw), P.new h hw]
      obtain ⟨k, hk1, hk2⟩ := List.mem_map.1 hm
      have := (Sp.moved_within P.p0 P.q0 ((P.mem h).1 hk1).2).2
      rw [hk2] at this
      rw [this] at hk
      obtain ⟨⟨x, hx⟩, -⟩ := (P.mem h).1 hk1
      rw [hx] at hk; cases hk
  · rw [if_neg hw, g2 j (fun hm => ?_), get_make]
    obtain ⟨k, hk1, hk2⟩ := List.mem_map.1 hm
    have := (Sp.moved_within P.p0 P.q0 ((P.mem h).1 hk1).2).1
    rw [hk2] at this
    exact hw this
theorem Planned.size : Tr.size (copy m v) = Tr.size m + v.bytes ∧ (copy m v).length = m.length + v.lack.length + v.src.length := by
  obtain ⟨n1, n2, n3⟩ := P.inj h
  obtain ⟨a1, a2⟩ := ahead_spec P.ahead
  unfold Tr.copy
  rw [P.dst, P.bytes]
  obtain ⟨s1, s2⟩ := size_copyL (moved p.length q) v.src (make m v.lack) (nodup_make _ h.nodup) n2 n1 n3
  have ho : (v.src.map fun k => old (make m v.lack) k) = v.src.map fun k => old m k := List.map_congr_left fun k hk => by
    unfold old
    rw [get_make, if_neg]
    intro hl
    obtain ⟨⟨x, hx⟩, -⟩ := (P.mem h).1 hk
    rw [(a1 k hl).1] at hx; cases hx
  rw [s1, s2, ho, size_make _ h.nodup a2 (fun d hd => (a1 d hd).1), len_make _ a2 (fun d hd => (a1 d hd).1)]
  exact ⟨rfl, rfl⟩
omit P in
theorem Ok.nodup_copy : ((copy m v).map (·.1)).Nodup := nodup_copyL _ _ (nodup_make _ h.nodup)
/-- What stands in a copied tree is as it should be. -/
theorem Planned.sound {k : Bytes} {x : Nd} (hk : Tr.get (copy m v) k = some x) : Sound (copy m v) k x := by
  obtain ⟨a1, a2⟩ := ahead_some P.hq P.ahead
  have habv : ∀ e, Above e q → ∃ b, Tr.get (copy m v) e = some (true, b) := fun e he => by
    rw [P.get h, if_neg (fun hw => by have := within_len hw; have := he.lt; omega)]
    rcases a1 e he with ⟨b, hb⟩ | hl
    · by_cases hl : e ∈ v.lack
      · exact ⟨[], by rw [if_pos hl]⟩
      · exact ⟨b, by rw [if_neg hl]; exact hb⟩
    · exact ⟨[], by rw [if_pos hl]⟩
  have hpar : ∀ j, Cl j → (j = q ∨ Above j q) → Sp.parent j = [] ∨ ∃ b, Tr.get (copy m v) (Sp.parent j) = some (true, b) := fun j hj hh => by
    by_cases hj0 : Sp.parent j = []
    · exact .inl hj0
    · right
      rcases hh with rfl | hh
      · exact habv _ (Above.parent hj hj0)
      · exact habv _ (Above.trans hj P.hq (Above.parent hj hj0) hh)
  have hk' := hk
  rw [P.get h] at hk
  by_cases hw : Sp.within k q = true
  · rw [if_pos hw] at hk
    obtain ⟨b1, b2⟩ := Sp.moved_within P.q0 P.p0 hw
    have hs : moved q.length p k ∈ v.src := (P.mem h).2 ⟨⟨x, hk⟩, b1⟩
    obtain ⟨s1, s2, s3, s4, s5⟩ := h.sound hk
    have hcl := P.cl _ hs
    rw [b2] at hcl
    refine ⟨fun e => by subst e; exact absurd (within_nil hw) P.q0, hcl, ?_, s4, s5⟩
    by_cases he : moved q.length p k = p
    · have : k = q := by rw [← b2, he, Sp.moved_self]
      exact hpar k hcl (.inl this)
    · right
      have hab : Above (Sp.parent (moved q.length p k)) (moved q.length p k) := Above.parent s2 fun e => by
        have := Sp.within_up s2 P.hp b1 he
        rw [e] at this
        exact absurd (within_nil this) P.p0
      have hpp := Sp.moved_parent P.hp P.hq s2 P.p0 P.q0 b1 he
      rw [b2] at hpp
      obtain ⟨c1, c2⟩ := Sp.moved_within P.p0 P.q0 (Sp.within_up s2 P.hp b1 he)
      refine ⟨[], ?_⟩
      rw [hpp, P.get h, if_pos c1, c2]
      exact h.abv hk hab
  · rw [if_neg hw] at hk
    by_cases hl : k ∈ v.lack
    · rw [if_pos hl] at hk
      cases hk
      have hab := (a2 k hl).1
      exact ⟨hab.1, hab.2.1, hpar k hab.2.1 (.inr hab), fun _ => rfl, by simp⟩
    · rw [if_neg hl] at hk
      obtain ⟨s1, s2, s3, s4, s5⟩ := h.sound hk
      refine ⟨s1, s2, s3.imp id fun ⟨b, hb⟩ => ⟨b, ?_⟩, s4, s5⟩
      rw [P.get h, if_neg (fun e => by rw [P.new h e] at hb; cases hb)]
      by_cases hl2 : Sp.parent k ∈ v.lack
      · rw [(a2 _ hl2).2] at hb; cases hb
      · rw [if_neg hl2]; exact hb
theorem Planned.src_in {k : Bytes} (hk : k ∈ v.src) : Tr.get (copy m v) k = Tr.get m k := by
  obtain ⟨-, a2⟩ := ahead_some P.hq P.ahead
  obtain ⟨⟨x, hx⟩, -⟩ := (P.mem h).1 hk
  rw [P.get h, if_neg (fun e => by rw [P.new h e] at hx; cases hx), if_neg (fun e => by rw [(a2 _ e).2] at hx; cases hx)]
theorem Planned.cut : Tr.size (drop (copy m v) v.src) = Tr.size m ∧ (drop (copy m v) v.src).length = m.length + v.lack.length := by
  obtain ⟨s1, s2⟩ := P.size h
  obtain ⟨d1, d2⟩ := size_drop v.src (h.nodup_copy) (by rw [P.src]; exact nodup_below h.nodup) (fun k hk => by
    rw [P.src_in h hk]
    obtain ⟨⟨x, hx⟩, -⟩ := (P.mem h).1 hk
    rw [hx]; rfl)
  have ho : (v.src.map fun k => old (copy m v) k) = v.src.map fun k => old m k := List.map_congr_left fun k hk => by
    unfold old; rw [P.src_in h hk]
  rw [ho, ← P.bytes] at d1
  omega
omit h P in
theorem rget (j : Bytes) : Tr.get (drop (copy m v) v.src) j = if j ∈ v.src then none else Tr.get (copy m v) j := get_drop _ _ _
theorem Planned.rsound {k : Bytes} {x : Nd} (hk : Tr.get (drop (copy m v) v.src) k = some x) : Sound (drop (copy m v) v.src) k x := by
  rw [rget] at hk
  split at hk
  · cases hk
  rename_i hs
  obtain ⟨s1, s2, s3, s4, s5⟩ := P.sound h hk
  refine ⟨s1, s2, s3.imp id fun ⟨b, hb⟩ => ⟨b, ?_⟩, s4, s5⟩
  rw [rget, if_neg]
  · exact hb
  · intro hps
    obtain ⟨⟨y, hy⟩, hw⟩ := (P.mem h).1 hps
    have hkw := within_of_parent s2 P.hp hw
    rw [P.get h] at hk
    by_cases hq : Sp.within k q = true
    · -- k is below q; its parent stands in m, so k is q, and q is within p
      by_cases e : k = q
      · subst e; rw [P.out] at hkw; cases hkw
      · have := Sp.within_up s2 P.hq hq e
        rw [P.new h this] at hy; cases hy
    · rw [if_neg hq] at hk
      by_cases hl : k ∈ v.lack
      · obtain ⟨-, a2⟩ := ahead_some P.hq P.ahead
        have hab := (a2 k hl).1
        have := Sp.within_trans P.hq hab.2.1 P.hp hab.2.2.1 hkw
        rw [P.out] at this; cases this
      · rw [if_neg hl] at hk
        exact hs ((P.mem h).2 ⟨⟨x, hk⟩, hkw⟩)
end planned
theorem Ok.copied {m : T} (h : Ok m) (s d : Bytes) : ∀ x e, plan m s d = (some x, e) → size (copy m x) = size m + x.bytes := fun _ _ hp => (h.planned hp).size h |>.1
theorem Ok.rename {m : T} (h : Ok m) (s d : Bytes) : Ok (rename m s d).1 := by
  unfold Tr.rename
  split
  · rename_i v e hp
    have P := h.planned hp
    split
    · exact h
    · rename_i hr
      simp only [Bool.not_eq_false] at hr
      obtain ⟨r1, r2⟩ := room_spec hr
      obtain ⟨c1, c2⟩ := P.cut h
      have hb := h.bytes
      exact Ok.mk' (nodup_drop _ (h.nodup_copy)) (fun k x hk => P.rsound h hk) (by dsimp only; omega) (by dsimp only; omega)
  · exact h
theorem Ok.cpy {m : T} (h : Ok m) (s d : Bytes) : Ok (cpy m s d).1 := by
  unfold Tr.cpy
  split
  · rename_i v e hp
    have P := h.planned hp
    split
    · exact h
    · rename_i hr
      simp only [Bool.not_eq_false] at hr
      obtain ⟨r1, r2⟩ := room_spec hr
      obtain ⟨c1, c2⟩ := P.size h
      exact Ok.mk' (h.nodup_copy) (fun k x hk => P.sound h hk) (by dsimp only; omega) (by dsimp only; omega)
  · exact h
end Tr
end Go.Proofs.YtmdpmpdlkaogdaaGreatDoor

namespace Go.Proofs.YtmdpmpdlkaogdaaGreatDoor
namespace Tr
open Sp (Cl moved)

/-- In order, each path once. -/
def Sorted (L : T) : Prop := L.Pairwise fun x y => x.1 < y.1
theorem lt_irr (a : Bytes) : ¬ a < a := List.lt_irrefl a
theorem lt_tr {a b c : Bytes} (h : a < b) (k : b < c) : a < c := List.lt_trans h k
theorem lt_le {a b : Bytes} (h : a < b) : a ≤ b := List.le_of_lt h
theorem le_ne {a b : Bytes} (h : a ≤ b) (hn : a ≠ b) : a < b := by
  rcases List.le_iff_lt_or_eq.1 h with h | h
  · exact h
  · exact absurd h hn
theorem not_lt_of {a b : Bytes} (h : ¬ a < b) : b ≤ a := List.not_lt.1 h
theorem Sorted.nodup {L : T} (h : Sorted L) : (L.map (·.1)).Nodup := by
  unfold List.Nodup
  rw [List.pairwise_map]
  exact h.imp fun hlt e => by rw [e] at hlt; exact lt_irr _ hlt
theorem files_sorted {m : T} (hn : (m.map (·.1)).Nodup) : Sorted (files m) := by
  have h1 := List.pairwise_mergeSort (le := fun (x y : Bytes × Nd) => decide (x.1 ≤ y.1)) (fun a b c => le_tr a.1 b.1 c.1) (fun a b => le_tot a.1 b.1) m
  have h2 : ((files m).map (·.1)).Nodup := ((List.mergeSort_perm m _).map _).nodup_iff.2 hn
  unfold List.Nodup at h2
  rw [List.pairwise_map] at h2
  unfold Sorted
  have h3 : (files m).Pairwise fun x y => decide (x.1 ≤ y.1) = true := h1
  exact List.Pairwise.imp₂ (fun a b (h : decide (a.1 ≤ b.1) = true) (k : a.1 ≠ b.1) => le_ne (by simpa using h) k) h3 h2
theorem files_nodup {m : T} (hn : (m.map (·.1)).Nodup) : ((files m).map (·.1)).Nodup := (files_sorted hn).nodup
theorem files_mem {m : T} {p : Bytes × Nd} : p ∈ files m ↔ p ∈ m := (List.mergeSort_perm m _).mem_iff
theorem files_get {m : T} (hn : (m.map (·.1)).Nodup) (k : Bytes) : get (files m) k = get m k := by
  cases h : get m k with
  | some x => exact mem_get (files_nodup hn) (files_mem.2 (get_mem h))
  | none =>
    rw [get_none] at h ⊢
    intro hk
    obtain ⟨x, hx, rfl⟩ := List.mem_map.1 hk
    exact h (List.mem_map.2 ⟨x, files_mem.1 hx, rfl⟩)
theorem files_len (m : T) : (files m).length = m.length := (List.mergeSort_perm m _).length_eq
theorem files_size (m : T) : size (files m) = size m := size_perm (List.mergeSort_perm m _)
theorem sorted_ext {L K : T} (hL : Sorted L) (hK : Sorted K) (h : ∀ k, get L k = get K k) : L = K := by
  have hp := perm_ext hL.nodup hK.nodup h
  refine List.Perm.eq_of_pairwise (le := fun (x y : Bytes × Nd) => x.1 < y.1) (fun a b _ _ h1 h2 => absurd (lt_tr h1 h2) (lt_irr _)) hL hK hp
/-- Who answers as m does, and is in order, is m's files. -/
theorem files_eq_of {L m : T} (hL : Sorted L) (hn : (m.map (·.1)).Nodup) (h : ∀ k, get L k = get m k) : L = files m := sorted_ext hL (files_sorted hn) fun k => by rw [files_get hn, h]

/-- One thing more, in its place. -/
def ins : T → Bytes → Nd → T
  | [], k, x => [(k, x)]
  | p :: L, k, x => if p.1 < k then p :: ins L k x else if p.1 = k then (k, x) :: L else (k, x) :: p :: L
theorem ins_app (pre L : T) (k : Bytes) (x : Nd) (h : ∀ p ∈ pre, p.1 < k) : ins (pre ++ L) k x = pre ++ ins L k x := by
  induction pre with
  | nil => rfl
  | cons p pre ih =>
    rw [List.cons_append, ins, if_pos (h p (by simp)), ih fun q hq => h q (List.mem_cons_of_mem _ hq)]; rfl
theorem ins_mem {L : T} {k : Bytes} {x : Nd} {p : Bytes × Nd} (h : p ∈ ins L k x) : p = (k, x) ∨ p ∈ L := by
  induction L with
  | nil => left; simpa [ins] using h
  | cons q L ih =>
    unfold ins at h
    split at h
    · rcases List.mem_cons.1 h with h | h
      · exact .inr (by simp [h])
      · exact (ih h).imp id (List.mem_cons_of_mem _)
    · split at h
      · rcases List.mem_cons.1 h with h | h
        · exact .inl h
        · exact .inr (List.mem_cons_of_mem _ h)
      · rcases List.mem_cons.1 h with h | h
        · exact .inl h
        · exact .inr h
theorem ins_sorted {L : T} (h : Sorted L) (k : Bytes) (x : Nd) : Sorted (ins L k x) := by
  induction L with
  | nil => simp [ins, Sorted]
  | cons q L ih =>
    have hq := List.pairwise_cons.1 h
    unfold ins
    split
    · rename_i hlt
      refine List.pairwise_cons.2 ⟨fun p hp => ?_, ih hq.2⟩
      rcases ins_mem hp with rfl | hp
      · exact hlt
      · exact hq.1 p hp
    · rename_i hn
      split
      · rename_i he
        refine List.pairwise_cons.2 ⟨fun p hp => ?_, hq.2⟩
        have := hq.1 p hp
        rwa [he] at this
      · rename_i hne
        have hlt : k < q.1 := le_ne (not_lt_of hn) (fun e => hne e.symm)
        refine List.pairwise_cons.2 ⟨fun p hp => ?_, h⟩
        rcases List.mem_cons.1 hp with rfl | hp
        · exact hlt
        · exact lt_tr hlt (hq.1 p hp)
theorem get_ins {L : T} (h : Sorted L) (k : Bytes) (x : Nd) (j : Bytes) : get (ins L k x) j = if j = k then some x else get L j := by
  induction L with
  | nil =>
    unfold ins
    rw [get_cons, get_nil]
    by_cases e : j = k
    · simp [e]
    · have : ¬ k = j := fun h => e h.symm
      simp [e, this]
  | cons q L ih =>
    have hq := List.pairwise_cons.1 h
    unfold ins
    split
    · rename_i hlt
      rw [get_cons, get_cons, ih hq.2]
      by_cases e : q.1 = j
      · have : j ≠ k := fun e2 => by rw [e, e2] at hlt; exact lt_irr _ hlt
        simp [e, this]
      · simp [e]
    · split
      · rename_i he
        rw [get_cons, get_cons]
        by_cases e : j = k
        · simp [e]
        · have h1 : ¬ k = j := fun e2 => e e2.symm
          have h2 : ¬ q.1 = j := fun e2 => e (by rw [← e2, he])
          simp [e, h1, h2]
      · rw [get_cons]
        by_cases e : j = k
        · simp [e]
        · have h1 : ¬ k = j := fun e2 => e e2.symm
          simp [e, h1]
theorem ins_files {m : T} (hn : (m.map (·.1)).Nodup) (k : Bytes) (x : Nd) : ins (files m) k x = files (set m k x) :=
  files_eq_of (ins_sorted (files_sorted hn) k x) (nodup_set k x hn) fun j => by rw [get_ins (files_sorted hn), get_set, files_get hn]
/-- Directories, one behind another. -/
def insL (L : T) (l : List Bytes) : T := l.foldl (fun L d => ins L d (true, [])) L
theorem insL_files : ∀ (l : List Bytes) {m : T}, (m.map (·.1)).Nodup → insL (files m) l = files (make m l) := by
  intro l
  induction l with
  | nil => intro m _; rfl
  | cons d l ih =>
    intro m hn
    show insL (ins (files m) d (true, [])) l = _
    rw [ins_files hn, ih (nodup_set _ _ hn)]; rfl
theorem files_congr {m n : T} (hm : (m.map (·.1)).Nodup) (hn : (n.map (·.1)).Nodup) (h : ∀ k, get m k = get n k) : files m = files n := files_perm hn (perm_ext hm hn h)
theorem filter_sorted {L : T} (h : Sorted L) (f : Bytes × Nd → Bool) : Sorted (L.filter f) := h.sublist List.filter_sublist
theorem get_filter {L : T} (h : (L.map (·.1)).Nodup) (f : Bytes → Bool) (k : Bytes) : get (L.filter fun p => f p.1) k = if f k = true then get L k else none := by
  induction L with
  | nil => simp [get_nil]
  | cons p L ih =>
    rw [List.map_cons, List.nodup_cons] at h
    rw [List.filter_cons]
    by_cases hf : f p.1 = true
    · rw [if_pos hf, get_cons, get_cons, ih h.2]
      by_cases e : p.1 = k
      · rw [if_pos e, if_pos e]; rw [e] at hf; rw [if_pos hf]
      · rw [if_neg e, if_neg e]
    · rw [if_neg hf, ih h.2, get_cons]
      by_cases e : p.1 = k
      · rw [e] at hf; rw [if_neg hf, if_neg hf]
      · rw [if_neg e]
end Tr
end Go.Proofs.YtmdpmpdlkaogdaaGreatDoor

namespace Go.Proofs.YtmdpmpdlkaogdaaGreatDoor
namespace Tr
open Sp (Cl moved Goods glue)

theorem at_of {m : T} {p : Bytes} (h : p ≠ []) : at_ m p = get m p := by unfold Tr.at_; rw [if_neg h]
/-- A plan that nothing forbids. -/
theorem Ok.plans {m : T} (h : Ok m) {s d p q : Bytes} {lack : List Bytes} (hs : Sp.clean s = (p, 0)) (hd : Sp.clean d = (q, 0)) (hp0 : p ≠ []) (hq0 : q ≠ []) (hx : ∃ x, get m p = some x) (hw : Sp.within q p = false) (hq : get m q = none) (ha : ahead m q = some lack)
    (hcl : ∀ k x, get m k = some x → Sp.within k p = true → Cl (moved p.length q k)) : ∃ v, plan m s d = (some v, 0) ∧ v.lack = lack := by
  have cp : Cl p := by have := Sp.clean_cl (s := s) (by rw [hs]); rwa [hs] at this
  have cq : Cl q := by have := Sp.clean_cl (s := d) (by rw [hd]); rwa [hd] at this
  have hsrc : ∀ k ∈ below m p, Cl k ∧ Sp.within k p = true := fun k hk => by
    obtain ⟨k1, k2⟩ := mem_below.1 hk
    obtain ⟨x, hx, rfl⟩ := List.mem_map.1 k1
    exact ⟨Cl.of (h.cleaned x hx).2, k2⟩
  have hde := dests_eq cp cq hp0 hq0 (below m p) hsrc
  have hde' := hde.resolve_right fun ⟨⟨k, hk, hn⟩, _⟩ => by
    obtain ⟨k1, k2⟩ := mem_below.1 hk
    obtain ⟨x, hx, rfl⟩ := List.mem_map.1 k1
    exact hn (hcl x.1 x.2 (mem_get h.nodup hx) k2)
  obtain ⟨x, hx⟩ := hx
  refine ⟨⟨below m p, (below m p).map (moved p.length q), lack, ((below m p).map fun k => ((get m k).getD (true, [])).2.length).sum⟩, ?_, rfl⟩
  unfold Tr.plan
  rw [hs, hd]
  simp only [ne_eq, not_true_eq_false, if_false]
  rw [at_of hp0, at_of hq0, hx, hq, ha, hw, hde'.2]
  simp [hp0]

section back
variable {m : T} {s d : Bytes} {v : Move}
/-- It goes back. -/
theorem Ok.back (h : Ok m) (hpl : plan m s d = (some v, 0)) (hr : room m v.lack.length 0 = true) :
    Tr.rename m s d = (drop (copy m v) v.src, 0) ∧ exists_ (drop (copy m v) v.src) s = false ∧ exists_ (drop (copy m v) v.src) d = true ∧
      ∃ m2, Tr.rename (drop (copy m v) v.src) d s = (m2, 0) ∧ ∀ j, get m2 j = if j ∈ v.lack then some (true, []) else get m j := by
  have P := h.planned hpl
  obtain ⟨-, -, -, -, -, es, ed, -⟩ := plan_spec hpl
  have hren : Tr.rename m s d = (drop (copy m v) v.src, 0) := by
    unfold Tr.rename; rw [hpl]; simp only [hr, Bool.true_eq_false, if_false]
  have hR : Ok (drop (copy m v) v.src) := by have := h.rename s d; rwa [hren] at this
  have hs : Sp.clean s = ((Sp.clean s).1, 0) := Prod.ext rfl es
  have hd : Sp.clean d = ((Sp.clean d).1, 0) := Prod.ext rfl ed
  generalize (Sp.clean s).1 = p at P hs
  generalize (Sp.clean d).1 = q at P hd
  obtain ⟨a1, a2⟩ := ahead_some P.hq P.ahead
  have hrg := rget (m := m) (v := v)
  have hcg := P.get h
  generalize hRR : drop (copy m v) v.src = R at *
  obtain ⟨xp, hxp⟩ := P.here
  have hps : p ∈ v.src := (P.mem h).2 ⟨⟨xp, hxp⟩, Sp.within_refl p⟩
  have hqs : ∀ {j}, Sp.within j q = true → j ∉ v.src := fun hw hm => by
    obtain ⟨⟨x, hx⟩, -⟩ := (P.mem h).1 hm
    rw [P.new h hw] at hx; cases hx
  have hRp : get R p = none := by rw [hrg, if_pos hps]
  have hRin : ∀ {j}, Sp.within j q = true → get R j = get m (moved q.length p j) := fun hw => by rw [hrg, if_neg (hqs hw), hcg, if_pos hw]
  have hRq : get R q = some xp := by rw [hRin (Sp.within_refl q), Sp.moved_self]; exact hxp
  have hpq : Sp.within p q = false := by
    cases hw : Sp.within p q with
    | false => rfl
    | true => rw [P.new h hw] at hxp; cases hxp
  refine ⟨hren, ?_, ?_, ?_⟩
  · unfold Tr.exists_; rw [hs]; simp only [at_of P.p0, hRp, Option.isSome_none, Bool.and_false]
  · unfold Tr.exists_; rw [hd]; simp only [at_of P.q0, hRq, Option.isSome_some, Bool.and_true, beq_self_eq_true]
  have hRab : ∀ e, Above e p → get R e = some (true, []) := fun e he => by
    have hme := h.abv hxp he
    rw [hrg, if_neg (fun hm => by have := within_len ((P.mem h).1 hm).2; have := he.lt; omega), hcg, if_neg (fun hw => by rw [P.new h hw] at hme; cases hme), if_neg (fun hl => by rw [(a2 e hl).2] at hme; cases hme)]
    exact hme
  obtain ⟨lack', hl'⟩ := ahead_of (m := R) P.hp (fun e he b hb => by rw [hRab e he] at hb; cases hb)
  obtain ⟨b1, b2⟩ := ahead_some P.hp hl'
  obtain rfl : lack' = [] := by
    cases lack' with
    | nil => rfl
    | cons e l =>
      obtain ⟨c1, c2⟩ := b2 e (by simp)
      rw [hRab e c1] at c2; cases c2
  obtain ⟨v', hpl', hvl⟩ := hR.plans hd hs P.q0 P.p0 ⟨xp, hRq⟩ hpq hRp hl' (fun k x hk hw => by
    rw [hRin hw] at hk
    exact (h.sound hk).2.1)
  have P' := hR.planned hpl'
  rw [hs, hd] at P'
  dsimp only at P'
  have hroom : room R v'.lack.length 0 = true := by
    rw [hvl]
    unfold room
    have := hR.len
    have := hR.bytes
    simp only [List.length_nil, Bool.and_eq_true, decide_eq_true_eq]
    omega
  refine ⟨drop (copy R v') v'.src, ?_, fun j => ?_⟩
  · unfold Tr.rename; rw [hpl']; simp only [hroom, Bool.true_eq_false, if_false]
  · rw [rget, P'.get hR, hvl]
    by_cases hjp : Sp.within j p = true
    · have hn : j ∉ v'.src := fun hm => by
        obtain ⟨⟨x, hx⟩, -⟩ := (P'.mem hR).1 hm
        rw [P'.new hR hjp] at hx; cases hx
      obtain ⟨c1, c2⟩ := Sp.moved_within P.p0 P.q0 hjp
      rw [if_neg hn, if_pos hjp, hRin c1, c2, if_neg]
      intro hl
      have hab := (a2 j hl).1
      have := Sp.within_trans P.hq hab.2.1 P.hp hab.2.2.1 hjp
      rw [P.out] at this; cases this
    · rw [if_neg hjp]
      simp only [List.not_mem_nil, if_false]
      have hjs : j ∉ v.src := fun hm => hjp ((P.mem h).1 hm).2
      by_cases hjq : Sp.within j q = true
      · rw [if_neg (show j ∉ v.lack from fun hl => by rw [P.lack_out hl] at hjq; cases hjq), P.new h hjq]
        split
        · rfl
        · rename_i hn
          cases hg : get R j with
          | none => rfl
          | some x => exact absurd ((P'.mem hR).2 ⟨⟨x, hg⟩, hjq⟩) hn
      · rw [if_neg (fun hm => hjq ((P'.mem hR).1 hm).2), hrg, if_neg hjs, hcg, if_neg hjq]
/-- And what was made for it is taken away with its first part. -/
theorem Ok.back_all (h : Ok m) {x0 : Bytes} {t : List Bytes} {m2 : T} (hpl : plan m s d = (some v, 0)) (hq : (Sp.clean d).1 = glue (x0 :: t)) (hg : Goods (x0 :: t)) (h0 : get m x0 = none) (hm2 : ∀ j, get m2 j = if j ∈ v.lack then some (true, []) else get m j) :
    ∀ j, get (if Sp.parent (Sp.clean d).1 = [] then m2 else (Tr.remove m2 x0).1) j = get m j := by
  have P := h.planned hpl
  obtain ⟨a1, a2⟩ := ahead_some P.hq P.ahead
  have hx0 := hg x0 (by simp)
  have c0 : Cl x0 := by
    obtain ⟨l, e1, g1, e2, e3⟩ := P.hq
    refine ⟨[x0], rfl, fun y hy => by simp at hy; subst hy; exact hx0, by simp, ?_⟩
    rw [hq] at e3
    cases t with
    | nil => exact e3
    | cons y t =>
      have : (glue (x0 :: y :: t)).length = x0.length + (1 + (glue (y :: t)).length) := by show (x0 ++ 47 :: glue (y :: t)).length = _; simp; omega
      omega
  have hup : ∀ j, Above j (Sp.clean d).1 → Sp.within j x0 = true := fun j hj => by
    obtain ⟨j0, ⟨l, rfl, gl, -⟩, hw, -⟩ := hj
    rw [hq, Sp.within_glue hg gl] at hw
    rw [show x0 = glue [x0] from rfl, Sp.within_glue gl (fun y hy => by simp at hy; subst hy; exact hx0)]
    cases l with
    | nil => exact absurd rfl j0
    | cons y l =>
      rw [List.cons_prefix_cons] at hw
      rw [hw.1]
      exact ⟨l, rfl⟩
  by_cases hpar : Sp.parent (Sp.clean d).1 = []
  · intro j
    rw [if_pos hpar, hm2, if_neg]
    intro hl
    rcases (a2 j hl).1.up P.hq with e | e
    · exact (a2 j hl).1.1 (e.trans hpar)
    · rw [hpar] at e; exact e.1 (within_nil e.2.2.1)
  · intro j
    rw [if_neg hpar]
    have hab : Above x0 (Sp.clean d).1 := by
      refine ⟨hx0.1, c0, ?_, fun e => ?_⟩
      · rw [hq, show Sp.within (glue (x0 :: t)) x0 = Sp.within (glue (x0 :: t)) (glue [x0]) from rfl, Sp.within_glue hg (fun y hy => by simp at hy; subst hy; exact hx0)]
        exact ⟨t, rfl⟩
      · rw [← e, show x0 = glue ([] ++ [x0]) from rfl, Sp.parent_glue hx0.2.2.2.2] at hpar
        exact hpar rfl
    have hl0 : x0 ∈ v.lack := by
      rcases a1 x0 hab with ⟨b, hb⟩ | hl
      · rw [h0] at hb; cases hb
      · exact hl
    have hg2 : get m2 x0 = some (true, []) := by rw [hm2, if_pos hl0]
    have hrm : (Tr.remove m2 x0).1 = drop m2 (below m2 x0) := by
      unfold Tr.remove
      rw [c0.clean]
      simp only [ne_eq, not_true_eq_false, if_false]
      rw [if_neg hx0.1, hg2]; rfl
    rw [hrm, get_cut]
    split
    · rename_i hw
      exact (h.bare c0 hx0.1 h0 hw).symm
    · rename_i hw
      rw [hm2, if_neg (fun hl => hw (hup j (a2 j hl).1))]
end back

/-- A copy, and that each of the two is its own. -/
theorem Ok.twin {m : T} (h : Ok m) {s d : Bytes} {m2 : T} (hc : Tr.cpy m s d = (m2, 0)) : exists_ m2 s = true ∧ exists_ m2 d = true ∧ (Tr.remove m2 d).2 = 0 ∧ exists_ (Tr.remove m2 d).1 s = true := by
  unfold Tr.cpy at hc
  split at hc
  · rename_i v e hp
    split at hc
    · cases hc
    · cases hc
      have P := h.planned hp
      obtain ⟨-, -, -, -, -, es, ed, -⟩ := plan_spec hp
      have hs : Sp.clean s = ((Sp.clean s).1, 0) := Prod.ext rfl es
      have hd : Sp.clean d = ((Sp.clean d).1, 0) := Prod.ext rfl ed
      generalize (Sp.clean s).1 = p at P hs
      generalize (Sp.clean d).1 = q at P hd
      obtain ⟨xp, hxp⟩ := P.here
      have hps : p ∈ v.src := (P.mem h).2 ⟨⟨xp, hxp⟩, Sp.within_refl p⟩
      have h1 : get (copy m v) p = some xp := by rw [P.src_in h hps]; exact hxp
      have h2 : get (copy m v) q = some xp := by rw [P.get h, if_pos (Sp.within_refl q), Sp.moved_self]; exact hxp
      have hpq : Sp.within p q = false := by
        cases hw : Sp.within p q with
        | false => rfl
        | true => rw [P.new h hw] at hxp; cases hxp
      have hrm : Tr.remove (copy m v) d = (drop (copy m v) (below (copy m v) q), 0) := by
        unfold Tr.remove
        rw [hd]
        simp only [ne_eq, not_true_eq_false, if_false]
        rw [if_neg P.q0, h2]; rfl
      refine ⟨?_, ?_, by rw [hrm], ?_⟩
      · unfold Tr.exists_; rw [hs]; simp only [at_of P.p0, h1, Option.isSome_some, Bool.and_true, beq_self_eq_true]
      · unfold Tr.exists_; rw [hd]; simp only [at_of P.q0, h2, Option.isSome_some, Bool.and_true, beq_self_eq_true]
      · rw [hrm]
        unfold Tr.exists_
        rw [hs]
        simp only [at_of P.p0, get_cut, hpq, Bool.false_eq_true, if_false, h1, Option.isSome_some, Bool.and_true, beq_self_eq_true]
  · rename_i e hp
    cases hc
    exact absurd rfl (plan_none hp)
end Tr
end Go.Proofs.YtmdpmpdlkaogdaaGreatDoor

namespace Go.Proofs.YtmdpmpdlkaogdaaGreatDoor
namespace Tr
open Sp (Cl Goods glue moved)

/-- The paths above one, from the top. -/
def ups (l : List Bytes) : List Bytes := (List.range (l.length - 1)).map fun i => glue (l.take (i + 1))
/-- Those that lack; none: one is a file. -/
def ahd (L : T) : List Bytes → Option (List Bytes)
  | [] => some []
  | d :: ds => match get L d with
    | none => (ahd L ds).map (d :: ·)
    | some x => if x.1 then ahd L ds else none
theorem ahd_snoc (L : T) (d : Bytes) : ∀ a : List Bytes, ahd L (a ++ [d]) = match ahd L a with
    | none => none
    | some l => match get L d with | none => some (l ++ [d]) | some x => if x.1 then some l else none := by
  intro a
  induction a with
  | nil =>
    show ahd L [d] = _
    unfold ahd
    cases get L d with
    | none => rfl
    | some x => cases x.1 <;> rfl
  | cons e a ih =>
    rw [List.cons_append]
    unfold ahd
    cases get L e with
    | none =>
      simp only [ih]
      cases ahd L a with
      | none => rfl
      | some l =>
        simp only [Option.map_some]
        cases get L d with
        | none => rfl
        | some x => obtain ⟨t, b⟩ := x; cases t <;> simp
    | some x =>
      obtain ⟨t, b⟩ := x
      cases t with
      | true => simpa using ih
      | false => simp
theorem ahd_app_none (L : T) (b : List Bytes) : ∀ a : List Bytes, ahd L a = none → ahd L (a ++ b) = none := by
  intro a
  induction a with
  | nil => intro h; cases h
  | cons e a ih =>
    intro h
    rw [List.cons_append]
    unfold ahd at h ⊢
    cases hg : get L e with
    | none =>
      rw [hg] at h
      simp only [Option.map_eq_none_iff] at h ⊢
      exact ih h
    | some x =>
      rw [hg] at h
      simp only at h ⊢
      split
      · rename_i hx; rw [if_pos hx] at h; exact ih h
      · rfl
theorem ahd_some (L : T) : ∀ (l k : List Bytes), ahd L l = some k → (∀ e ∈ l, (∃ b, get L e = some (true, b)) ∨ e ∈ k) ∧ (∀ e ∈ k, e ∈ l ∧ get L e = none) ∧ (l.Nodup → k.Nodup) := by
  intro l
  induction l with
  | nil => intro k h; cases h; exact ⟨fun e h => (by cases h), fun e h => (by cases h), fun _ => List.nodup_nil⟩
  | cons d l ih =>
    intro k h
    unfold ahd at h
    cases hg : get L d with
    | none =>
      rw [hg] at h
      simp only [Option.map_eq_some_iff] at h
      obtain ⟨k', hk', rfl⟩ := h
      obtain ⟨i1, i2, i3⟩ := ih k' hk'
      refine ⟨fun e he => ?_, fun e he => ?_, fun hn => ?_⟩
      · rcases List.mem_cons.1 he with rfl | he
        · exact .inr (by simp)
        · exact (i1 e he).imp id (List.mem_cons_of_mem _)
      · rcases List.mem_cons.1 he with rfl | he
        · exact ⟨by simp, hg⟩
        · exact ⟨List.mem_cons_of_mem _ (i2 e he).1, (i2 e he).2⟩
      · rw [List.nodup_cons] at hn
        exact List.nodup_cons.2 ⟨fun hm => hn.1 (i2 d hm).1, i3 hn.2⟩
    | some x =>
      rw [hg] at h
      obtain ⟨t, b⟩ := x
      simp only at h
      split at h
      · rename_i ht
        subst ht
        obtain ⟨i1, i2, i3⟩ := ih k h
        refine ⟨fun e he => ?_, fun e he => ⟨List.mem_cons_of_mem _ (i2 e he).1, (i2 e he).2⟩, fun hn => i3 (List.nodup_cons.1 hn).2⟩
        rcases List.mem_cons.1 he with rfl | he
        · exact .inl ⟨b, hg⟩
        · exact i1 e he
      · cases h
theorem ahd_none (L : T) : ∀ (l : List Bytes), ahd L l = none → ∃ e ∈ l, ∃ b, get L e = some (false, b) := by
  intro l
  induction l with
  | nil => intro h; cases h
  | cons d l ih =>
    intro h
    unfold ahd at h
    cases hg : get L d with
    | none =>
      rw [hg] at h
      simp only [Option.map_eq_none_iff] at h
      obtain ⟨e, he, hb⟩ := ih h
      exact ⟨e, List.mem_cons_of_mem _ he, hb⟩
    | some x =>
      rw [hg] at h
      obtain ⟨t, b⟩ := x
      simp only at h
      split at h
      · obtain ⟨e, he, hb⟩ := ih h
        exact ⟨e, List.mem_cons_of_mem _ he, hb⟩
      · rename_i ht
        refine ⟨d, by simp, b, ?_⟩
        rw [hg]
        cases t with
        | false => rfl
        | true => exact absurd rfl ht

theorem parts_glue {l : List Bytes} (h0 : l ≠ []) (g : Goods l) : Sp.parts (glue l) = l := by
  unfold Sp.parts
  rw [if_neg (Sp.glue_ne g h0), Sp.split_glue h0 g.no]
theorem parts_cl {p : Bytes} (h : Cl p) : Goods (Sp.parts p) ∧ glue (Sp.parts p) = p ∧ (Sp.parts p).length ≤ 12 := by
  obtain ⟨l, rfl, g, hl, -⟩ := h
  by_cases h0 : l = []
  · subst h0; exact ⟨Goods.nil, rfl, by simp [Sp.parts, glue]⟩
  · rw [parts_glue h0 g]; exact ⟨g, rfl, hl⟩
theorem cl_take {l : List Bytes} (g : Goods l) (h12 : l.length ≤ 12) (h200 : (glue l).length ≤ 200) (i : Nat) : Cl (glue (l.take i)) := by
  refine ⟨l.take i, rfl, fun x hx => g x (List.mem_of_mem_take hx), by rw [List.length_take]; omega, ?_⟩
  by_cases hi : l.length ≤ i
  · rw [List.take_of_length_le hi]; exact h200
  · by_cases h0 : l.take i = []
    · rw [h0]; simp [glue]
    · have hd : l.drop i ≠ [] := fun e => by have := congrArg List.length e; simp at this; omega
      have := congrArg List.length (Sp.glue_app h0 hd)
      rw [List.take_append_drop] at this
      simp at this; omega
theorem mem_ups {p e : Bytes} (hp : Cl p) : e ∈ ups (Sp.parts p) ↔ Above e p := by
  obtain ⟨g, hg, h12⟩ := parts_cl hp
  have h200 : (glue (Sp.parts p)).length ≤ 200 := by rw [hg]; obtain ⟨_, _, _, _, h⟩ := hp; exact h
  unfold ups
  rw [List.mem_map]
  constructor
  · rintro ⟨i, hi, rfl⟩
    have hi := List.mem_range.1 hi
    have gt : Goods ((Sp.parts p).take (i + 1)) := fun x hx => g x (List.mem_of_mem_take hx)
    have hne : (Sp.parts p).take (i + 1) ≠ [] := fun e => by have := congrArg List.length e; rw [List.length_take, List.length_nil] at this; omega
    refine ⟨Sp.glue_ne gt hne, cl_take g h12 h200 _, ?_, fun e => ?_⟩
    · have := (Sp.within_glue g gt).2 (List.take_prefix _ _)
      rwa [hg] at this
    · have := Sp.glue_inj gt g (e.trans hg.symm)
      have := congrArg List.length this
      rw [List.length_take] at this
      omega
  · rintro ⟨h0, ⟨l, rfl, gl, -⟩, hw, hne⟩
    rw [← hg, Sp.within_glue g gl] at hw
    have hl0 : l ≠ [] := fun e => h0 (by rw [e]; rfl)
    have hlt : l.length < (Sp.parts p).length := by
      rcases Nat.lt_or_ge l.length (Sp.parts p).length with h | h
      · exact h
      · exact absurd (by rw [← hg, hw.eq_of_length_le h]) hne
    have hl1 : 0 < l.length := by cases l with | nil => exact absurd rfl hl0 | cons _ _ => simp
    refine ⟨l.length - 1, List.mem_range.2 (by omega), ?_⟩
    rw [show l.length - 1 + 1 = l.length by omega, ← List.prefix_iff_eq_take.1 hw]
theorem nodup_ups {p : Bytes} (hp : Cl p) : (ups (Sp.parts p)).Nodup := by
  obtain ⟨g, hg, h12⟩ := parts_cl hp
  unfold ups List.Nodup
  rw [List.pairwise_map]
  refine List.Pairwise.imp_of_mem ?_ (List.nodup_range (n := (Sp.parts p).length - 1))
  intro i j hi hj hne e
  have hi := List.mem_range.1 hi
  have hj := List.mem_range.1 hj
  have := Sp.glue_inj (fun x hx => g x (List.mem_of_mem_take hx)) (fun x hx => g x (List.mem_of_mem_take hx)) e
  have := congrArg List.length this
  rw [List.length_take, List.length_take] at this
  omega
theorem ahd_files {m : T} (hn : (m.map (·.1)).Nodup) (l : List Bytes) : ahd (files m) l = ahd m l := by
  induction l with
  | nil => rfl
  | cons d l ih => unfold ahd; rw [files_get hn, ih]
theorem ahd_iff {m : T} {p : Bytes} (hp : Cl p) : ahd m (ups (Sp.parts p)) = none ↔ ahead m p = none := by
  constructor
  · intro h
    obtain ⟨e, he, b, hb⟩ := ahd_none m _ h
    cases ha : ahead m p with
    | none => rfl
    | some l =>
      obtain ⟨a1, a2⟩ := ahead_some hp ha
      rcases a1 e ((mem_ups hp).1 he) with ⟨b', hb'⟩ | hl
      · rw [hb] at hb'; cases hb'
      · rw [(a2 e hl).2] at hb; cases hb
  · intro h
    obtain ⟨e, he, b, hb⟩ := ahead_none hp h
    cases ha : ahd m (ups (Sp.parts p)) with
    | none => rfl
    | some l =>
      obtain ⟨a1, a2, -⟩ := ahd_some m _ _ ha
      rcases a1 e ((mem_ups hp).2 he) with ⟨b', hb'⟩ | hl
      · rw [hb] at hb'; cases hb'
      · rw [(a2 e hl).2] at hb; cases hb
theorem ahd_perm {m : T} {p : Bytes} {l k : List Bytes} (hp : Cl p) (ha : ahead m p = some l) (hk : ahd m (ups (Sp.parts p)) = some k) : k.Perm l := by
  obtain ⟨a1, a2⟩ := ahead_some hp ha
  obtain ⟨b1, b2, b3⟩ := ahd_some m _ _ hk
  refine (List.perm_ext_iff_of_nodup (b3 (nodup_ups hp)) (ahead_spec ha).2).2 fun e => ⟨fun he => ?_, fun he => ?_⟩
  · obtain ⟨h1, h2⟩ := b2 e he
    rcases a1 e ((mem_ups hp).1 h1) with ⟨b, hb⟩ | h
    · rw [h2] at hb; cases hb
    · exact h
  · obtain ⟨h1, h2⟩ := a2 e he
    rcases b1 e ((mem_ups hp).2 h1) with ⟨b, hb⟩ | h
    · rw [h2] at hb; cases hb
    · exact h
theorem get_make_perm {m : T} {l k : List Bytes} (h : k.Perm l) (j : Bytes) : get (make m k) j = get (make m l) j := by
  rw [get_make, get_make]
  by_cases hj : j ∈ l
  · rw [if_pos hj, if_pos (h.mem_iff.2 hj)]
  · rw [if_neg hj, if_neg (fun x => hj (h.mem_iff.1 x))]
/-- What is put behind the directories that lack, in whatever order these come. -/
theorem ins_put {m : T} {p : Bytes} {l k : List Bytes} (hn : (m.map (·.1)).Nodup) (h : k.Perm l) (x : Nd) : ins (insL (files m) k) p x = files (set (make m l) p x) := by
  rw [insL_files k hn, ins_files (nodup_make _ hn)]
  refine files_congr (nodup_set _ _ (nodup_make _ hn)) (nodup_set _ _ (nodup_make _ hn)) fun j => ?_
  rw [get_set, get_set, get_make_perm h]

/-- One more where nothing is. -/
def more (m : T) (p : Bytes) : Nat := if (get m p).isSome then 0 else 1
theorem write_r {m : T} (h : Ok m) {s b : Bytes} (hc : (Sp.clean s).2 = 0) :
    (((Sp.clean s).1 = [] ∨ (∃ c, get m (Sp.clean s).1 = some (true, c)) ∨ ahd m (ups (Sp.parts (Sp.clean s).1)) = none) → write m s b = (m, 54)) ∧
    (∀ lk, (Sp.clean s).1 ≠ [] → (∀ c, get m (Sp.clean s).1 ≠ some (true, c)) → ahd m (ups (Sp.parts (Sp.clean s).1)) = some lk →
      ((65536 < b.length ∨ (1048576 : Int) < (size m : Int) - old m (Sp.clean s).1 + b.length ∨ 500 < m.length + more m (Sp.clean s).1 + lk.length) → write m s b = (m, 55)) ∧
      (¬ (65536 < b.length ∨ (1048576 : Int) < (size m : Int) - old m (Sp.clean s).1 + b.length ∨ 500 < m.length + more m (Sp.clean s).1 + lk.length) →
        (write m s b).2 = 0 ∧ files (write m s b).1 = ins (insL (files m) lk) (Sp.clean s).1 (false, b))) := by
  have hcl := Sp.clean_cl hc
  have h0 : ¬ (Sp.clean s).2 ≠ 0 := by simpa using hc
  generalize hp : (Sp.clean s).1 = p at *
  constructor
  · rintro (e | ⟨c, hg⟩ | ha)
    · exact put_dir h0 (x := (true, [])) (by rw [hp, e]; rfl) rfl
    · have hp0 : p ≠ [] := (h.sound hg).1
      exact put_dir h0 (x := (true, c)) (by rw [hp, at_of hp0]; exact hg) rfl
    · exact put_kind h0 (by rw [hp]; exact (ahd_iff hcl).1 ha)
  · intro lk hp0 hnd hk
    cases ha : ahead m p with
    | none => rw [(ahd_iff hcl).2 ha] at hk; cases hk
    | some l =>
      have hperm := ahd_perm hcl ha hk
      have hll := hperm.length_eq
      obtain ⟨-, hput⟩ := put_ok (b := b) (more := false) (ox := get m p) (lack := l) h0 (by rw [hp, at_of hp0]) (fun x hx => by
        obtain ⟨t, c⟩ := x
        cases t with
        | false => rfl
        | true => exact absurd hx (hnd c)) (by rw [hp]; exact ha)
      have hB : putB (get m p) b false = b := by unfold putB; cases get m p <;> rfl
      rw [hB, hp] at hput
      have hlen := h.len
      have hNm : (putN (get m p) l : Int) ≤ 500 - m.length ↔ m.length + more m p + lk.length ≤ 500 := by
        unfold putN more
        cases hg : get m p with
        | none => simp; omega
        | some x =>
          have : l = [] := by have := h.ahead_nil hg; rw [ha] at this; cases this; rfl
          subst this
          simp at hll
          simp [hll]; omega
      have hroom : (65536 < b.length ∨ room m (putN (get m p) l) ((b.length : Int) - old m p) = false) ↔ (65536 < b.length ∨ (1048576 : Int) < (size m : Int) - old m p + b.length ∨ 500 < m.length + more m p + lk.length) := by
        unfold room
        rw [Bool.and_eq_false_iff, decide_eq_false_iff_not, decide_eq_false_iff_not]
        by_cases h1 : 65536 < b.length
        · simp [h1]
        · by_cases h2 : (1048576 : Int) < (size m : Int) - old m p + b.length
          · have : ¬ ((b.length : Int) - old m p ≤ 1048576 - size m) := by omega
            simp [h2, this]
          · have h3 : (b.length : Int) - old m p ≤ 1048576 - size m := by omega
            simp only [h1, h2, false_or, h3, not_true_eq_false, or_false]
            rw [hNm]; omega
      unfold Tr.write
      constructor
      · intro hh
        rw [hput, if_pos (hroom.2 hh)]
      · intro hh
        rw [hput, if_neg (fun x => hh (hroom.1 x))]
        exact ⟨rfl, (ins_put h.nodup hperm _).symm⟩
theorem mkdir_r {m : T} (h : Ok m) {s : Bytes} (hc : (Sp.clean s).2 = 0) :
    ((Sp.clean s).1 = [] → mkdir m s = (m, 0)) ∧ (∀ c, get m (Sp.clean s).1 = some (true, c) → mkdir m s = (m, 0)) ∧ (∀ c, get m (Sp.clean s).1 = some (false, c) → mkdir m s = (m, 54)) ∧
    ((Sp.clean s).1 ≠ [] → get m (Sp.clean s).1 = none → (ahd m (ups (Sp.parts (Sp.clean s).1)) = none → mkdir m s = (m, 54)) ∧
      ∀ lk, ahd m (ups (Sp.parts (Sp.clean s).1)) = some lk → (500 < m.length + lk.length + 1 → mkdir m s = (m, 55)) ∧
        (¬ 500 < m.length + lk.length + 1 → (mkdir m s).2 = 0 ∧ files (mkdir m s).1 = insL (files m) (lk ++ [(Sp.clean s).1]))) := by
  have hcl := Sp.clean_cl hc
  have h0 : ¬ (Sp.clean s).2 ≠ 0 := by simpa using hc
  have hun : mkdir m s = match at_ m (Sp.clean s).1 with
    | some x => if x.1 then (m, 0) else (m, 54)
    | none => match ahead m (Sp.clean s).1 with
      | none => (m, 54)
      | some lack => if room m (lack.length + 1) 0 = false then (m, 55) else (make m (lack ++ [(Sp.clean s).1]), 0) := by
    unfold Tr.mkdir; rw [if_neg h0]; rfl
  generalize hp : (Sp.clean s).1 = p at *
  refine ⟨fun e => ?_, fun c hg => ?_, fun c hg => ?_, fun hp0 hg => ⟨fun ha => ?_, fun lk hk => ?_⟩⟩
  · rw [hun, e]; rfl
  · rw [hun, at_of (h.sound hg).1, hg]; rfl
  · rw [hun, at_of (h.sound hg).1, hg]; rfl
  · rw [hun, at_of hp0, hg, (ahd_iff hcl).1 ha]
  · cases ha : ahead m p with
    | none => rw [(ahd_iff hcl).2 ha] at hk; cases hk
    | some l =>
      have hperm := ahd_perm hcl ha hk
      have hll := hperm.length_eq
      have hb := h.bytes
      rw [hun, at_of hp0, hg, ha]
      simp only
      have hroom : room m ((l.length : Int) + 1) 0 = false ↔ 500 < m.length + lk.length + 1 := by
        unfold room
        rw [Bool.and_eq_false_iff, decide_eq_false_iff_not, decide_eq_false_iff_not]
        omega
      constructor
      · intro hh; rw [if_pos (hroom.2 hh)]
      · intro hh
        rw [if_neg (fun x => hh (hroom.1 x))]
        refine ⟨rfl, ?_⟩
        dsimp only
        rw [make_snoc]
        have : insL (files m) (lk ++ [p]) = ins (insL (files m) lk) p (true, []) := by simp [insL]
        rw [this, ins_put h.nodup hperm]
theorem append_r {m : T} {s b : Bytes} : (append m s b).2 = (write m s (((if (Sp.clean s).2 = 0 then get m (Sp.clean s).1 else none).getD (true, [])).2 ++ b)).2 ∧ (append m s b).1 = (write m s (((if (Sp.clean s).2 = 0 then get m (Sp.clean s).1 else none).getD (true, [])).2 ++ b)).1 := by
  by_cases hc : (Sp.clean s).2 = 0
  · rw [if_pos hc]
    have h0 : ¬ (Sp.clean s).2 ≠ 0 := by simpa using hc
    unfold Tr.append Tr.write
    obtain ⟨b', hb'⟩ : ∃ b', b' = (if 65536 < b.length then b.take 65537 else b) := ⟨_, rfl⟩
    rw [← hb']
    by_cases hbig : 65536 < b.length
    · have hbl : 65536 < b'.length := by rw [hb', if_pos hbig, List.length_take]; omega
      have key : ∀ (c c' : Bytes) (mr : Bool), 65536 < c.length → 65536 < c'.length → put m s c mr = put m s c' false := by
        intro c c' mr hcl hcl'
        unfold Tr.put
        rw [if_neg h0, if_neg h0]
        simp only
        cases at_ m (Sp.clean s).1 with
        | none =>
          cases ahead m (Sp.clean s).1 with
          | none => rfl
          | some lack => simp only [hcl, hcl', true_or, if_true]
        | some x =>
          by_cases hx : x.1 = true
          · simp [hx]
          · simp only [hx, Bool.false_eq_true, if_false]
            cases ahead m (Sp.clean s).1 with
            | none => rfl
            | some lack =>
              have h1 : 65536 < (if mr = true then x.2 ++ c else c).length := by cases mr <;> simp <;> omega
              simp only [h1, hcl', true_or, if_true]
      have hbig2 : 65536 < (((get m (Sp.clean s).1).getD (true, [])).2 ++ b).length := by rw [List.length_append]; omega
      rw [key b' _ true hbl hbig2]
      exact ⟨rfl, rfl⟩
    · have : b' = b := by rw [hb', if_neg hbig]
      rw [this]
      have key : put m s b true = put m s (((get m (Sp.clean s).1).getD (true, [])).2 ++ b) false := by
        unfold Tr.put
        rw [if_neg h0, if_neg h0]
        simp only
        by_cases hp0 : (Sp.clean s).1 = []
        · simp [hp0, at_]
        · rw [at_of hp0]
          cases hg : get m (Sp.clean s).1 with
          | none => simp
          | some x => simp
      rw [key]
      exact ⟨rfl, rfl⟩
  · rw [if_neg hc]
    have h0 : (Sp.clean s).2 ≠ 0 := hc
    unfold Tr.append Tr.write
    rw [put_err h0, put_err h0]
    exact ⟨rfl, rfl⟩
end Tr
end Go.Proofs.YtmdpmpdlkaogdaaGreatDoor
