/- Plain laws: trees of named files (haversacklaw8.name). -/
import Derived.Test.YtmdpmpdlkaogdaaGreatDoorTl
namespace Go.Proofs.YtmdpmpdlkaogdaaGreatDoor
namespace Tr

/-- A path's parents, from behind. -/
def par : Nat → Bytes → List Bytes
  | 0, _ => []
  | n + 1, d => if d = [] then [] else d :: par n (Sp.parent d)
theorem par_succ (n : Nat) (d : Bytes) : par (n + 1) d = if d = [] then [] else d :: par n (Sp.parent d) := rfl
theorem aheadF_succ (m : T) (n : Nat) (d : Bytes) : aheadF m (n + 1) d = if d = [] then some [] else match get m d with
    | none => (aheadF m n (Sp.parent d)).map (d :: ·)
    | some x => if x.1 then aheadF m n (Sp.parent d) else none := rfl
theorem aheadF_eq (m : T) : ∀ (n : Nat) (d : Bytes), (∀ e ∈ par n d, ∀ x, get m e = some x → x.1 = true) → aheadF m n d = some ((par n d).filter fun e => (get m e).isNone) := by
  intro n
  induction n with
  | zero => intro d _; rfl
  | succ n ih =>
    intro d h
    rw [par_succ] at h ⊢
    rw [aheadF_succ]
    by_cases h0 : d = []
    · rw [if_pos h0, if_pos h0]; rfl
    · rw [if_neg h0] at h ⊢
      rw [if_neg h0]
      have hr := ih (Sp.parent d) fun e he => h e (List.mem_cons_of_mem _ he)
      cases hg : get m d with
      | none =>
        simp only [hr, List.filter_cons, hg, Option.isNone_none, if_true]; rfl
      | some x =>
        have := h d (by simp) x hg
        simp only [hr, List.filter_cons, hg, Option.isNone_some, Bool.false_eq_true, if_false, this, if_true]
/-- Two trees that answer alike have the same files. -/
theorem perm_ext {m n : T} (hm : (m.map (·.1)).Nodup) (hn : (n.map (·.1)).Nodup) (h : ∀ p, get m p = get n p) : m.Perm n := by
  have nd : ∀ {m : T}, (m.map (·.1)).Nodup → m.Nodup := fun {m} h => by
    induction m with
    | nil => simp
    | cons p m ih =>
      rw [List.map_cons, List.nodup_cons] at h
      exact List.nodup_cons.2 ⟨fun hp => h.1 (List.mem_map.2 ⟨p, hp, rfl⟩), ih h.2⟩
  refine (List.perm_ext_iff_of_nodup (nd hm) (nd hn)).2 fun a => ?_
  obtain ⟨k, x⟩ := a
  constructor
  · intro ha; exact get_mem (by rw [← h]; exact mem_get hm ha)
  · intro ha; exact get_mem (by rw [h]; exact mem_get hn ha)
theorem size_perm {m n : T} (h : m.Perm n) : size m = size n := (h.map _).sum_nat
theorem files_perm {m n : T} (hn : (n.map (·.1)).Nodup) (h : m.Perm n) : files m = files n := by
  unfold files
  refine List.Perm.eq_of_pairwise (le := fun x y => decide (x.1 ≤ y.1) = true) ?_ (List.pairwise_mergeSort (fun a b c => le_tr a.1 b.1 c.1) (fun a b => le_tot a.1 b.1) _) (List.pairwise_mergeSort (fun a b c => le_tr a.1 b.1 c.1) (fun a b => le_tot a.1 b.1) _)
    ((List.mergeSort_perm _ _).trans (h.trans (List.mergeSort_perm _ _).symm))
  intro a b ha hb h1 h2
  have hab := le_as _ _ h1 h2
  have ha' : a ∈ n := h.mem_iff.1 ((List.mergeSort_perm _ _).mem_iff.1 ha)
  have hb' : b ∈ n := (List.mergeSort_perm _ _).mem_iff.1 hb
  have e1 := mem_get hn (show (a.1, a.2) ∈ n from ha')
  have e2 := mem_get hn (show (b.1, b.2) ∈ n from hb')
  rw [hab] at e1
  rw [e1] at e2
  exact Prod.ext hab (Option.some.inj e2)

-- the names
def dirs : List Bytes := [[97], [98], [98, 47, 99], [98, 47, 100]]
def nameChk (k : UInt8) : Bool := Sp.clean (nameB k) == (nameB k, 0) && (par (nameB k).length (Sp.parent (nameB k))).all (fun d => dirs.contains d) && !dirs.contains (nameB k) && (nameB k != []) && decide ((par (nameB k).length (Sp.parent (nameB k))).length ≤ 2)
theorem names_ok : (List.range 256).all (fun n => nameChk (UInt8.ofNat n)) = true := by kernel_rfl
theorem name_ok (k : UInt8) : nameChk k = true := by
  have h := List.all_eq_true.1 names_ok k.toNat (List.mem_range.2 k.toNat_lt)
  simpa using h
def up (k : UInt8) : List Bytes := par (nameB k).length (Sp.parent (nameB k))
theorem name_clean (k : UInt8) : Sp.clean (nameB k) = (nameB k, 0) := by
  have := name_ok k
  simp only [nameChk, Bool.and_eq_true, beq_iff_eq] at this
  exact this.1.1.1.1
theorem up_dirs {k : UInt8} {d : Bytes} (h : d ∈ up k) : d ∈ dirs := by
  have := name_ok k
  simp only [nameChk, Bool.and_eq_true] at this
  have := List.all_eq_true.1 this.1.1.1.2 d h
  simpa using this
theorem name_file (k : UInt8) : nameB k ∉ dirs := by
  have := name_ok k
  simp only [nameChk, Bool.and_eq_true] at this
  simpa using this.1.1.2
theorem name_ne (k : UInt8) : nameB k ≠ [] := by
  have := name_ok k
  simp only [nameChk, Bool.and_eq_true] at this
  simpa using this.1.2
theorem up_len (k : UInt8) : (up k).length ≤ 2 := by
  have := name_ok k
  simp only [nameChk, Bool.and_eq_true, decide_eq_true_eq] at this
  exact this.2

/-- A tree in which the named files ks stand, each with the bytes that B tells. -/
structure Names (B : Bytes → Bytes) (m : T) (ks : List UInt8) : Prop where
  nodup : (m.map (·.1)).Nodup
  file : ∀ k ∈ ks, get m (nameB k) = some (false, B (nameB k))
  dir : ∀ k ∈ ks, ∀ d ∈ up k, get m d = some (true, [])
  none : ∀ p, (∀ k ∈ ks, p ≠ nameB k ∧ p ∉ up k) → get m p = none
  len : m.length ≤ 3 * ks.length
  bytes : size m ≤ 200 * ks.length
theorem Names.nil (B : Bytes → Bytes) : Names B [] [] := ⟨by simp, by simp, by simp, fun _ _ => rfl, by simp, by simp [size]⟩
theorem Names.dirs {B : Bytes → Bytes} {m : T} {ks : List UInt8} (h : Names B m ks) {d : Bytes} (hd : d ∈ Tr.dirs) {x : Nd} (hx : get m d = some x) : x = (true, []) := by
  by_cases hk : ∃ k ∈ ks, d ∈ up k
  · obtain ⟨k, hk, hd2⟩ := hk
    rw [h.dir k hk d hd2] at hx; cases hx; rfl
  · have := h.none d fun k hk' => ⟨fun e => name_file k (e ▸ hd), fun e => hk ⟨k, hk', e⟩⟩
    rw [this] at hx; cases hx
/-- One name more is written. -/
theorem Names.write {B : Bytes → Bytes} {m : T} {ks : List UInt8} (h : Names B m ks) (k : UInt8) (hB : (B (nameB k)).length ≤ 200) (hl : ks.length ≤ 100) : ∃ m', Tr.write m (nameB k) (B (nameB k)) = (m', 0) ∧ Names B m' (ks ++ [k]) := by
  have hcl := name_clean k
  have hup : ∀ e ∈ up k, ∀ x, get m e = some x → x.1 = true := fun e he x hx => by rw [h.dirs (up_dirs he) hx]
  have hah : ahead m (nameB k) = some ((up k).filter fun e => (get m e).isNone) := aheadF_eq m _ _ hup
  obtain ⟨lack, hlk⟩ : ∃ lack, lack = (up k).filter fun e => (get m e).isNone := ⟨_, rfl⟩
  rw [← hlk] at hah
  have hlack : lack.length ≤ 2 := by rw [hlk]; exact Nat.le_trans (List.length_filter_le _ _) (up_len k)
  have hnd : ∀ x, at_ m (nameB k) = some x → x.1 = false := by
    intro x hx
    unfold at_ at hx
    rw [if_neg (name_ne k)] at hx
    by_cases hk : ∃ j ∈ ks, nameB k = nameB j
    · obtain ⟨j, hj, e⟩ := hk
      rw [e, h.file j hj] at hx; cases hx; rfl
    · have := h.none (nameB k) fun j hj => ⟨fun e => hk ⟨j, hj, e⟩, fun e => name_file k (up_dirs e)⟩
      rw [this] at hx; cases hx
  have hc2 : ¬ (Sp.clean (nameB k)).2 ≠ 0 := by rw [hcl]; simp
  have hc1 : (Sp.clean (nameB k)).1 = nameB k := by rw [hcl]
  obtain ⟨-, hput⟩ := put_ok (b := B (nameB k)) (more := false) hc2 rfl (by rw [hc1]; exact hnd) (by rw [hc1]; exact hah)
  rw [hc1] at hput
  have hpb : putB (at_ m (nameB k)) (B (nameB k)) false = B (nameB k) := by unfold putB; cases at_ m (nameB k) <;> rfl
  have hpn : putN (at_ m (nameB k)) lack ≤ 3 := by unfold putN; cases at_ m (nameB k) <;> simp; omega
  rw [hpb] at hput
  have hm1 := h.len
  have hm2 := h.bytes
  have hroom : room m (putN (at_ m (nameB k)) lack) (((B (nameB k)).length : Int) - old m (nameB k)) = true := by
    unfold room
    simp only [Bool.and_eq_true, decide_eq_true_eq]
    omega
  rw [if_neg (by rw [hroom]; simp; omega)] at hput
  refine ⟨_, hput, ?_⟩
  have hsz := size_put h.nodup hah (name_ne k) (false, B (nameB k))
  have hget : ∀ j, get (set (make m lack) (nameB k) (false, B (nameB k))) j = if j = nameB k then some (false, B (nameB k)) else if j ∈ lack then some (true, []) else get m j := fun j => by rw [get_set, get_make]
  obtain ⟨ha1, ha2⟩ := ahead_spec hah
  refine ⟨nodup_set _ _ (nodup_make _ h.nodup), fun j hj => ?_, fun j hj d hd => ?_, fun p hp => ?_, ?_, ?_⟩
  · rw [hget]
    by_cases e : nameB j = nameB k
    · rw [if_pos e, e]
    · rw [if_neg e]
      have hj' : j ∈ ks := by
        rcases List.mem_append.1 hj with hj | hj
        · exact hj
        · simp at hj; subst hj; exact absurd rfl e
      have : nameB j ∉ lack := fun hm => name_file j (up_dirs (by rw [hlk] at hm; exact (List.mem_filter.1 hm).1))
      rw [if_neg this]; exact h.file j hj'
  · rw [hget]
    have hdn : d ≠ nameB k := fun e => name_file k (e ▸ up_dirs hd)
    rw [if_neg hdn]
    by_cases hm : d ∈ lack
    · rw [if_pos hm]
    · rw [if_neg hm]
      rcases List.mem_append.1 hj with hj | hj
      · exact h.dir j hj d hd
      · simp at hj
        subst hj
        have : ¬ (get m d).isNone = true := fun hn => hm (by rw [hlk]; exact List.mem_filter.2 ⟨hd, hn⟩)
        cases hg : get m d with
        | none => rw [hg] at this; exact absurd rfl this
        | some x => rw [h.dirs (up_dirs hd) hg]
  · rw [hget]
    have hk := hp k (by simp)
    rw [if_neg hk.1, if_neg (fun hm => hk.2 (by rw [hlk] at hm; exact (List.mem_filter.1 hm).1))]
    exact h.none p fun j hj => hp j (by simp [hj])
  · rw [len_set, len_make lack ha2 (fun d hd => (ha1 d hd).1)]
    simp only [List.length_append, List.length_cons, List.length_nil]
    split <;> omega
  · dsimp only at hsz
    simp only [List.length_append, List.length_cons, List.length_nil]
    omega
/-- Whoever has the same names has the same files. -/
theorem Names.same {B : Bytes → Bytes} {m n : T} {ks js : List UInt8} (h : Names B m ks) (g : Names B n js) (hs : ∀ k, k ∈ ks ↔ k ∈ js) : m.Perm n := by
  refine perm_ext h.nodup g.nodup fun p => ?_
  by_cases h1 : ∃ k ∈ ks, p = nameB k
  · obtain ⟨k, hk, rfl⟩ := h1
    rw [h.file k hk, g.file k ((hs k).1 hk)]
  · by_cases h2 : ∃ k ∈ ks, p ∈ up k
    · obtain ⟨k, hk, hp⟩ := h2
      rw [h.dir k hk p hp, g.dir k ((hs k).1 hk) p hp]
    · rw [h.none p fun k hk => ⟨fun e => h1 ⟨k, hk, e⟩, fun e => h2 ⟨k, hk, e⟩⟩, g.none p fun k hk => ⟨fun e => h1 ⟨k, (hs k).2 hk, e⟩, fun e => h2 ⟨k, (hs k).2 hk, e⟩⟩]
end Tr
end Go.Proofs.YtmdpmpdlkaogdaaGreatDoor
