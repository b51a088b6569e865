/- Plain laws: what the document's tree does is what the program's does. No Go here. -/
import Derived.Test.YtmdpmpdlkaogdaaGreatDoorRs
import Derived.Test.YtmdpmpdlkaogdaaGreatDoorLs
namespace Go.Proofs.YtmdpmpdlkaogdaaGreatDoor
namespace Tr
open Sp (Cl Goods glue moved)

/-- The paths above one, from the top. -/
def ups (l : List Bytes) : List Bytes := (List.range (l.length - 1)).map fun i => glue (l.take (i + 1))
/-- Those that lack; none: one is a file. -/
def ahd (L : T) : List Bytes → Option (List Bytes)
  | [] => some []
  | d :: ds => match get L d with
    | none => (ahd L ds).map (d :: ·)
    | some x => if x.1 then ahd L ds else none
theorem ahd_snoc (L : T) (d : Bytes) : ∀ a : List Bytes, ahd L (a ++ [d]) = match ahd L a with
    | none => none
    | some l => match get L d with | none => some (l ++ [d]) | some x => if x.1 then some l else none := by
  intro a
  induction a with
  | nil =>
    show ahd L [d] = _
    unfold ahd
    cases get L d with
    | none => rfl
    | some x => cases x.1 <;> rfl
  | cons e a ih =>
    rw [List.cons_append]
    unfold ahd
    cases get L e with
    | none =>
      simp only [ih]
      cases ahd L a with
      | none => rfl
      | some l =>
        simp only [Option.map_some]
        cases get L d with
        | none => rfl
        | some x => obtain ⟨t, b⟩ := x; cases t <;> simp
    | some x =>
      obtain ⟨t, b⟩ := x
      cases t with
      | true => simpa using ih
      | false => simp
theorem ahd_app_none (L : T) (b : List Bytes) : ∀ a : List Bytes, ahd L a = none → ahd L (a ++ b) = none := by
  intro a
  induction a with
  | nil => intro h; cases h
  | cons e a ih =>
    intro h
    rw [List.cons_append]
    unfold ahd at h ⊢
    cases hg : get L e with
    | none =>
      rw [hg] at h
      simp only [Option.map_eq_none_iff] at h ⊢
      exact ih h
    | some x =>
      rw [hg] at h
      simp only at h ⊢
      split
      · rename_i hx; rw [if_pos hx] at h; exact ih h
      · rfl
theorem ahd_some (L : T) : ∀ (l k : List Bytes), ahd L l = some k → (∀ e ∈ l, (∃ b, get L e = some (true, b)) ∨ e ∈ k) ∧ (∀ e ∈ k, e ∈ l ∧ get L e = none) ∧ (l.Nodup → k.Nodup) := by
  intro l
  induction l with
  | nil => intro k h; cases h; exact ⟨fun e h => (by cases h), fun e h => (by cases h), fun _ => List.nodup_nil⟩
  | cons d l ih =>
    intro k h
    unfold ahd at h
    cases hg : get L d with
    | none =>
      rw [hg] at h
      simp only [Option.map_eq_some_iff] at h
      obtain ⟨k', hk', rfl⟩ := h
      obtain ⟨i1, i2, i3⟩ := ih k' hk'
      refine ⟨fun e he => ?_, fun e he => ?_, fun hn => ?_⟩
      · rcases List.mem_cons.1 he with rfl | he
        · exact .inr (by simp)
        · exact (i1 e he).imp id (List.mem_cons_of_mem _)
      · rcases List.mem_cons.1 he with rfl | he
        · exact ⟨by simp, hg⟩
        · exact ⟨List.mem_cons_of_mem _ (i2 e he).1, (i2 e he).2⟩
      · rw [List.nodup_cons] at hn
        exact List.nodup_cons.2 ⟨fun hm => hn.1 (i2 d hm).1, i3 hn.2⟩
    | some x =>
      rw [hg] at h
      obtain ⟨t, b⟩ := x
      simp only at h
      split at h
      · rename_i ht
        subst ht
        obtain ⟨i1, i2, i3⟩ := ih k h
        refine ⟨fun e he => ?_, fun e he => ⟨List.mem_cons_of_mem _ (i2 e he).1, (i2 e he).2⟩, fun hn => i3 (List.nodup_cons.1 hn).2⟩
        rcases List.mem_cons.1 he with rfl | he
        · exact .inl ⟨b, hg⟩
        · exact i1 e he
      · cases h
theorem ahd_none (L : T) : ∀ (l : List Bytes), ahd L l = none → ∃ e ∈ l, ∃ b, get L e = some (false, b) := by
  intro l
  induction l with
  | nil => intro h; cases h
  | cons d l ih =>
    intro h
    unfold ahd at h
    cases hg : get L d with
    | none =>
      rw [hg] at h
      simp only [Option.map_eq_none_iff] at h
      obtain ⟨e, he, hb⟩ := ih h
      exact ⟨e, List.mem_cons_of_mem _ he, hb⟩
    | some x =>
      rw [hg] at h
      obtain ⟨t, b⟩ := x
      simp only at h
      split at h
      · obtain ⟨e, he, hb⟩ := ih h
        exact ⟨e, List.mem_cons_of_mem _ he, hb⟩
      · rename_i ht
        refine ⟨d, by simp, b, ?_⟩
        rw [hg]
        cases t with
        | false => rfl
        | true => exact absurd rfl ht

theorem parts_glue {l : List Bytes} (h0 : l ≠ []) (g : Goods l) : Sp.parts (glue l) = l := by
  unfold Sp.parts
  rw [if_neg (Sp.glue_ne g h0), Sp.split_glue h0 g.no]
theorem parts_cl {p : Bytes} (h : Cl p) : Goods (Sp.parts p) ∧ glue (Sp.parts p) = p ∧ (Sp.parts p).length ≤ 12 := by
  obtain ⟨l, rfl, g, hl, -⟩ := h
  by_cases h0 : l = []
  · subst h0; exact ⟨Goods.nil, rfl, by simp [Sp.parts, glue]⟩
  · rw [parts_glue h0 g]; exact ⟨g, rfl, hl⟩
theorem cl_take {l : List Bytes} (g : Goods l) (h12 : l.length ≤ 12) (h200 : (glue l).length ≤ 200) (i : Nat) : Cl (glue (l.take i)) := by
  refine ⟨l.take i, rfl, fun x hx => g x (List.mem_of_mem_take hx), by rw [List.length_take]; omega, ?_⟩
  by_cases hi : l.length ≤ i
  · rw [List.take_of_length_le hi]; exact h200
  · by_cases h0 : l.take i = []
    · rw [h0]; simp [glue]
    · have hd : l.drop i ≠ [] := fun e => by have := congrArg List.length e; simp at this; omega
      have := congrArg List.length (Sp.glue_app h0 hd)
      rw [List.take_append_drop] at this
      simp at this; omega
theorem mem_ups {p e : Bytes} (hp : Cl p) : e ∈ ups (Sp.parts p) ↔ Above e p := by
  obtain ⟨g, hg, h12⟩ := parts_cl hp
  have h200 : (glue (Sp.parts p)).length ≤ 200 := by rw [hg]; obtain ⟨_, _, _, _, h⟩ := hp; exact h
  unfold ups
  rw [List.mem_map]
  constructor
  · rintro ⟨i, hi, rfl⟩
    have hi := List.mem_range.1 hi
    have gt : Goods ((Sp.parts p).take (i + 1)) := fun x hx => g x (List.mem_of_mem_take hx)
    have hne : (Sp.parts p).take (i + 1) ≠ [] := fun e => by have := congrArg List.length e; rw [List.length_take, List.length_nil] at this; omega
    refine ⟨Sp.glue_ne gt hne, cl_take g h12 h200 _, ?_, fun e => ?_⟩
    · have := (Sp.within_glue g gt).2 (List.take_prefix _ _)
      rwa [hg] at this
    · have := Sp.glue_inj gt g (e.trans hg.symm)
      have := congrArg List.length this
      rw [List.length_take] at this
      omega
  · rintro ⟨h0, ⟨l, rfl, gl, -⟩, hw, hne⟩
    rw [← hg, Sp.within_glue g gl] at hw
    have hl0 : l ≠ [] := fun e => h0 (by rw [e]; rfl)
    have hlt : l.length < (Sp.parts p).length := by
      rcases Nat.lt_or_ge l.length (Sp.parts p).length with h | h
      · exact h
      · exact absurd (by rw [← hg, hw.eq_of_length_le h]) hne
    have hl1 : 0 < l.length := by cases l with | nil => exact absurd rfl hl0 | cons _ _ => simp
    refine ⟨l.length - 1, List.mem_range.2 (by omega), ?_⟩
    rw [show l.length - 1 + 1 = l.length by omega, ← List.prefix_iff_eq_take.1 hw]
theorem nodup_ups {p : Bytes} (hp : Cl p) : (ups (Sp.parts p)).Nodup := by
  obtain ⟨g, hg, h12⟩ := parts_cl hp
  unfold ups List.Nodup
  rw [List.pairwise_map]
  refine List.Pairwise.imp_of_mem ?_ (List.nodup_range (n := (Sp.parts p).length - 1))
  intro i j hi hj hne e
  have hi := List.mem_range.1 hi
  have hj := List.mem_range.1 hj
  have := Sp.glue_inj (fun x hx => g x (List.mem_of_mem_take hx)) (fun x hx => g x (List.mem_of_mem_take hx)) e
  have := congrArg List.length this
  rw [List.length_take, List.length_take] at this
  omega
theorem ahd_files {m : T} (hn : (m.map (·.1)).Nodup) (l : List Bytes) : ahd (files m) l = ahd m l := by
  induction l with
  | nil => rfl
  | cons d l ih => unfold ahd; rw [files_get hn, ih]
theorem ahd_iff {m : T} {p : Bytes} (hp : Cl p) : ahd m (ups (Sp.parts p)) = none ↔ ahead m p = none := by
  constructor
  · intro h
    obtain ⟨e, he, b, hb⟩ := ahd_none m _ h
    cases ha : ahead m p with
    | none => rfl
    | some l =>
      obtain ⟨a1, a2⟩ := ahead_some hp ha
      rcases a1 e ((mem_ups hp).1 he) with ⟨b', hb'⟩ | hl
      · rw [hb] at hb'; cases hb'
      · rw [(a2 e hl).2] at hb; cases hb
  · intro h
    obtain ⟨e, he, b, hb⟩ := ahead_none hp h
    cases ha : ahd m (ups (Sp.parts p)) with
    | none => rfl
    | some l =>
      obtain ⟨a1, a2, -⟩ := ahd_some m _ _ ha
      rcases a1 e ((mem_ups hp).2 he) with ⟨b', hb'⟩ | hl
      · rw [hb] at hb'; cases hb'
      · rw [(a2 e hl).2] at hb; cases hb
theorem ahd_perm {m : T} {p : Bytes} {l k : List Bytes} (hp : Cl p) (ha : ahead m p = some l) (hk : ahd m (ups (Sp.parts p)) = some k) : k.Perm l := by
  obtain ⟨a1, a2⟩ := ahead_some hp ha
  obtain ⟨b1, b2, b3⟩ := ahd_some m _ _ hk
  refine (List.perm_ext_iff_of_nodup (b3 (nodup_ups hp)) (ahead_spec ha).2).2 fun e => ⟨fun he => ?_, fun he => ?_⟩
  · obtain ⟨h1, h2⟩ := b2 e he
    rcases a1 e ((mem_ups hp).1 h1) with ⟨b, hb⟩ | h
    · rw [h2] at hb; cases hb
    · exact h
  · obtain ⟨h1, h2⟩ := a2 e he
    rcases b1 e ((mem_ups hp).2 h1) with ⟨b, hb⟩ | h
    · rw [h2] at hb; cases hb
    · exact h
theorem get_make_perm {m : T} {l k : List Bytes} (h : k.Perm l) (j : Bytes) : get (make m k) j = get (make m l) j := by
  rw [get_make, get_make]
  by_cases hj : j ∈ l
  · rw [if_pos hj, if_pos (h.mem_iff.2 hj)]
  · rw [if_neg hj, if_neg (fun x => hj (h.mem_iff.1 x))]
/-- What is put behind the directories that lack, in whatever order these come. -/
theorem ins_put {m : T} {p : Bytes} {l k : List Bytes} (hn : (m.map (·.1)).Nodup) (h : k.Perm l) (x : Nd) : ins (insL (files m) k) p x = files (set (make m l) p x) := by
  rw [insL_files k hn, ins_files (nodup_make _ hn)]
  refine files_congr (nodup_set _ _ (nodup_make _ hn)) (nodup_set _ _ (nodup_make _ hn)) fun j => ?_
  rw [get_set, get_set, get_make_perm h]

/-- One more where nothing is. -/
def more (m : T) (p : Bytes) : Nat := if (get m p).isSome then 0 else 1
theorem write_r {m : T} (h : Ok m) {s b : Bytes} (hc : (Sp.clean s).2 = 0) :
    (((Sp.clean s).1 = [] ∨ (∃ c, get m (Sp.clean s).1 = some (true, c)) ∨ ahd m (ups (Sp.parts (Sp.clean s).1)) = none) → write m s b = (m, 54)) ∧
    (∀ lk, (Sp.clean s).1 ≠ [] → (∀ c, get m (Sp.clean s).1 ≠ some (true, c)) → ahd m (ups (Sp.parts (Sp.clean s).1)) = some lk →
      ((65536 < b.length ∨ (1048576 : Int) < (size m : Int) - old m (Sp.clean s).1 + b.length ∨ 500 < m.length + more m (Sp.clean s).1 + lk.length) → write m s b = (m, 55)) ∧
      (¬ (65536 < b.length ∨ (1048576 : Int) < (size m : Int) - old m (Sp.clean s).1 + b.length ∨ 500 < m.length + more m (Sp.clean s).1 + lk.length) →
        (write m s b).2 = 0 ∧ files (write m s b).1 = ins (insL (files m) lk) (Sp.clean s).1 (false, b))) := by
  have hcl := Sp.clean_cl hc
  have h0 : ¬ (Sp.clean s).2 ≠ 0 := by simpa using hc
  generalize hp : (Sp.clean s).1 = p at *
  constructor
  · rintro (e | ⟨c, hg⟩ | ha)
    · exact put_dir h0 (x := (true, [])) (by rw [hp, e]; rfl) rfl
    · have hp0 : p ≠ [] := (h.sound hg).1
      exact put_dir h0 (x := (true, c)) (by rw [hp, at_of hp0]; exact hg) rfl
    · exact put_kind h0 (by rw [hp]; exact (ahd_iff hcl).1 ha)
  · intro lk hp0 hnd hk
    cases ha : ahead m p with
    | none => rw [(ahd_iff hcl).2 ha] at hk; cases hk
    | some l =>
      have hperm := ahd_perm hcl ha hk
      have hll := hperm.length_eq
      obtain ⟨-, hput⟩ := put_ok (b := b) (more := false) (ox := get m p) (lack := l) h0 (by rw [hp, at_of hp0]) (fun x hx => by
        obtain ⟨t, c⟩ := x
        cases t with
        | false => rfl
        | true => exact absurd hx (hnd c)) (by rw [hp]; exact ha)
      have hB : putB (get m p) b false = b := by unfold putB; cases get m p <;> rfl
      rw [hB, hp] at hput
      have hlen := h.len
      have hNm : (putN (get m p) l : Int) ≤ 500 - m.length ↔ m.length + more m p + lk.length ≤ 500 := by
        unfold putN more
        cases hg : get m p with
        | none => simp; omega
        | some x =>
          have : l = [] := by have := h.ahead_nil hg; rw [ha] at this; cases this; rfl
          subst this
          simp at hll
          simp [hll]; omega
      have hroom : (65536 < b.length ∨ room m (putN (get m p) l) ((b.length : Int) - old m p) = false) ↔ (65536 < b.length ∨ (1048576 : Int) < (size m : Int) - old m p + b.length ∨ 500 < m.length + more m p + lk.length) := by
        unfold room
        rw [Bool.and_eq_false_iff, decide_eq_false_iff_not, decide_eq_false_iff_not]
        by_cases h1 : 65536 < b.length
        · simp [h1]
        · by_cases h2 : (1048576 : Int) < (size m : Int) - old m p + b.length
          · have : ¬ ((b.length : Int) - old m p ≤ 1048576 - size m) := by omega
            simp [h2, this]
          · have h3 : (b.length : Int) - old m p ≤ 1048576 - size m := by omega
            simp only [h1, h2, false_or, h3, not_true_eq_false, or_false]
            rw [hNm]; omega
      unfold Tr.write
      constructor
      · intro hh
        rw [hput, if_pos (hroom.2 hh)]
      · intro hh
        rw [hput, if_neg (fun x => hh (hroom.1 x))]
        exact ⟨rfl, (ins_put h.nodup hperm _).symm⟩
theorem mkdir_r {m : T} (h : Ok m) {s : Bytes} (hc : (Sp.clean s).2 = 0) :
    ((Sp.clean s).1 = [] → mkdir m s = (m, 0)) ∧ (∀ c, get m (Sp.clean s).1 = some (true, c) → mkdir m s = (m, 0)) ∧ (∀ c, get m (Sp.clean s).1 = some (false, c) → mkdir m s = (m, 54)) ∧
    ((Sp.clean s).1 ≠ [] → get m (Sp.clean s).1 = none → (ahd m (ups (Sp.parts (Sp.clean s).1)) = none → mkdir m s = (m, 54)) ∧
      ∀ lk, ahd m (ups (Sp.parts (Sp.clean s).1)) = some lk → (500 < m.length + lk.length + 1 → mkdir m s = (m, 55)) ∧
        (¬ 500 < m.length + lk.length + 1 → (mkdir m s).2 = 0 ∧ files (mkdir m s).1 = insL (files m) (lk ++ [(Sp.clean s).1]))) := by
  have hcl := Sp.clean_cl hc
  have h0 : ¬ (Sp.clean s).2 ≠ 0 := by simpa using hc
  have hun : mkdir m s = match at_ m (Sp.clean s).1 with
    | some x => if x.1 then (m, 0) else (m, 54)
    | none => match ahead m (Sp.clean s).1 with
      | none => (m, 54)
      | some lack => if room m (lack.length + 1) 0 = false then (m, 55) else (make m (lack ++ [(Sp.clean s).1]), 0) := by
    unfold Tr.mkdir; rw [if_neg h0]; rfl
  generalize hp : (Sp.clean s).1 = p at *
  refine ⟨fun e => ?_, fun c hg => ?_, fun c hg => ?_, fun hp0 hg => ⟨fun ha => ?_, fun lk hk => ?_⟩⟩
  · rw [hun, e]; rfl
  · rw [hun, at_of (h.sound hg).1, hg]; rfl
  · rw [hun, at_of (h.sound hg).1, hg]; rfl
  · rw [hun, at_of hp0, hg, (ahd_iff hcl).1 ha]
  · cases ha : ahead m p with
    | none => rw [(ahd_iff hcl).2 ha] at hk; cases hk
    | some l =>
      have hperm := ahd_perm hcl ha hk
      have hll := hperm.length_eq
      have hb := h.bytes
      rw [hun, at_of hp0, hg, ha]
      simp only
      have hroom : room m ((l.length : Int) + 1) 0 = false ↔ 500 < m.length + lk.length + 1 := by
        unfold room
        rw [Bool.and_eq_false_iff, decide_eq_false_iff_not, decide_eq_false_iff_not]
        omega
      constructor
      · intro hh; rw [if_pos (hroom.2 hh)]
      · intro hh
        rw [if_neg (fun x => hh (hroom.1 x))]
        refine ⟨rfl, ?_⟩
        dsimp only
        rw [make_snoc]
        have : insL (files m) (lk ++ [p]) = ins (insL (files m) lk) p (true, []) := by simp [insL]
        rw [this, ins_put h.nodup hperm]
theorem append_r {m : T} {s b : Bytes} : (append m s b).2 = (write m s (((if (Sp.clean s).2 = 0 then get m (Sp.clean s).1 else none).getD (true, [])).2 ++ b)).2 ∧ (append m s b).1 = (write m s (((if (Sp.clean s).2 = 0 then get m (Sp.clean s).1 else none).getD (true, [])).2 ++ b)).1 := by
  by_cases hc : (Sp.clean s).2 = 0
  · rw [if_pos hc]
    have h0 : ¬ (Sp.clean s).2 ≠ 0 := by simpa using hc
    unfold Tr.append Tr.write
    obtain ⟨b', hb'⟩ : ∃ b', b' = (if 65536 < b.length then b.take 65537 else b) := ⟨_, rfl⟩
    rw [← hb']
    by_cases hbig : 65536 < b.length
    · have hbl : 65536 < b'.length := by rw [hb', if_pos hbig, List.length_take]; omega
      have key : ∀ (c c' : Bytes) (mr : Bool), 65536 < c.length → 65536 < c'.length → put m s c mr = put m s c' false := by
        intro c c' mr hcl hcl'
        unfold Tr.put
        rw [if_neg h0, if_neg h0]
        simp only
        cases at_ m (Sp.clean s).1 with
        | none =>
          cases ahead m (Sp.clean s).1 with
          | none => rfl
          | some lack => simp only [hcl, hcl', true_or, if_true]
        | some x =>
          by_cases hx : x.1 = true
          · simp [hx]
          · simp only [hx, Bool.false_eq_true, if_false]
            cases ahead m (Sp.clean s).1 with
            | none => rfl
            | some lack =>
              have h1 : 65536 < (if mr = true then x.2 ++ c else c).length := by cases mr <;> simp <;> omega
              simp only [h1, hcl', true_or, if_true]
      have hbig2 : 65536 < (((get m (Sp.clean s).1).getD (true, [])).2 ++ b).length := by rw [List.length_append]; omega
      rw [key b' _ true hbl hbig2]
      exact ⟨rfl, rfl⟩
    · have : b' = b := by rw [hb', if_neg hbig]
      rw [this]
      have key : put m s b true = put m s (((get m (Sp.clean s).1).getD (true, [])).2 ++ b) false := by
        unfold Tr.put
        rw [if_neg h0, if_neg h0]
        simp only
        by_cases hp0 : (Sp.clean s).1 = []
        · simp [hp0, at_]
        · rw [at_of hp0]
          cases hg : get m (Sp.clean s).1 with
          | none => simp
          | some x => simp
      rw [key]
      exact ⟨rfl, rfl⟩
  · rw [if_neg hc]
    have h0 : (Sp.clean s).2 ≠ 0 := hc
    unfold Tr.append Tr.write
    rw [put_err h0, put_err h0]
    exact ⟨rfl, rfl⟩
end Tr
end Go.Proofs.YtmdpmpdlkaogdaaGreatDoor
