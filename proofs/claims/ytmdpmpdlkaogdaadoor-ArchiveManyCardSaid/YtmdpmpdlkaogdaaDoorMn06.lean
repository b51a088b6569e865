/- Plain laws: what the document's tree does is what the program's does. No Go here. The walk of TreeRemoves. The document's tree in memory; walks: (*haversackref7.Tree).at, Size, ahead. Walks: (*haversackref7.Tree).put, make. Walks: (*haversackref7.Tree).make, Write, Append. The walk of the document's pad. The walk of the document's Sum. Plain laws: the sum, block by block. No Go here. -/
import Derived.Test.YtmdpmpdlkaogdaaDoorMn05
import Derived.Test.YtmdpmpdlkaogdaaDoorMn04

namespace Go.Proofs.YtmdpmpdlkaogdaaDoor
namespace Tr
open Sp (Cl Goods glue moved)

/-- The paths above one, from the top. -/
def ups (l : List Bytes) : List Bytes := (List.range (l.length - 1)).map fun i => glue (l.take (i + 1))
/-- Those that lack; none: one is a file. -/
def ahd (L : T) : List Bytes → Option (List Bytes)
  | [] => some []
  | d :: ds => match get L d with
    | none => (ahd L ds).map (d :: ·)
    | some x => if x.1 then ahd L ds else none
theorem ahd_snoc (L : T) (d : Bytes) : ∀ a : List Bytes, ahd L (a ++ [d]) = match ahd L a with
    | none => none
    | some l => match get L d with | none => some (l ++ [d]) | some x => if x.1 then some l else none := by
  intro a
  induction a with
  | nil =>
    show ahd L [d] = _
    unfold ahd
    cases get L d with
    | none => rfl
    | some x => cases x.1 <;> rfl
  | cons e a ih =>
    rw [List.cons_append]
    unfold ahd
    cases get L e with
    | none =>
      simp only [ih]
      cases ahd L a with
      | none => rfl
      | some l =>
        simp only [Option.map_some]
        cases get L d with
        | none => rfl
        | some x => obtain ⟨t, b⟩ := x; cases t <;> simp
    | some x =>
      obtain ⟨t, b⟩ := x
      cases t with
      | true => simpa using ih
      | false => simp
theorem ahd_app_none (L : T) (b : List Bytes) : ∀ a : List Bytes, ahd L a = none → ahd L (a ++ b) = none := by
  intro a
  induction a with
  | nil => intro h; cases h
  | cons e a ih =>
    intro h
    rw [List.cons_append]
    unfold ahd at h ⊢
    cases hg : get L e with
    | none =>
      rw [hg] at h
      simp only [Option.map_eq_none_iff] at h ⊢
      exact ih h
    | some x =>
      rw [hg] at h
      simp only at h ⊢
      split
      · rename_i hx; rw [if_pos hx] at h; exact ih h
      · rfl
theorem ahd_some (L : T) : ∀ (l k : List Bytes), ahd L l = some k → (∀ e ∈ l, (∃ b, get L e = some (true, b)) ∨ e ∈ k) ∧ (∀ e ∈ k, e ∈ l ∧ get L e = none) ∧ (l.Nodup → k.Nodup) := by
  intro l
  induction l with
  | nil => intro k h; cases h; exact ⟨fun e h => (by cases h), fun e h => (by cases h), fun _ => List.nodup_nil⟩
  | cons d l ih =>
    intro k h
    unfold ahd at h
    cases hg : get L d with
    | none =>
      rw [hg] at h
      simp only [Option.map_eq_some_iff] at h
      obtain ⟨k', hk', rfl⟩ := h
      obtain ⟨i1, i2, i3⟩ := ih k' hk'
      refine ⟨fun e he => ?_, fun e he => ?_, fun hn => ?_⟩
      · rcases List.mem_cons.1 he with rfl | he
        · exact .inr (by simp)
        · exact (i1 e he).imp id (List.mem_cons_of_mem _)
      · rcases List.mem_cons.1 he with rfl | he
        · exact ⟨by simp, hg⟩
        · exact ⟨List.mem_cons_of_mem _ (i2 e he).1, (i2 e he).2⟩
      · rw [List.nodup_cons] at hn
        exact List.nodup_cons.2 ⟨fun hm => hn.1 (i2 d hm).1, i3 hn.2⟩
    | some x =>
      rw [hg] at h
      obtain ⟨t, b⟩ := x
      simp only at h
      split at h
      · rename_i ht
        subst ht
        obtain ⟨i1, i2, i3⟩ := ih k h
        refine ⟨fun e he => ?_, fun e he => ⟨List.mem_cons_of_mem _ (i2 e he).1, (i2 e he).2⟩, fun hn => i3 (List.nodup_cons.1 hn).2⟩
        rcases List.mem_cons.1 he with rfl | he
        · exact .inl ⟨b, hg⟩
        · exact i1 e he
      · cases h
theorem ahd_none (L : T) : ∀ (l : List Bytes), ahd L l = none → ∃ e ∈ l, ∃ b, get L e = some (false, b) := by
  intro l
  induction l with
  | nil => intro h; cases h
  | cons d l ih =>
    intro h
    unfold ahd at h
    cases hg : get L d with
    | none =>
      rw [hg] at h
      simp only [Option.map_eq_none_iff] at h
      obtain ⟨e, he, hb⟩ := ih h
      exact ⟨e, List.mem_cons_of_mem _ he, hb⟩
    | some x =>
      rw [hg] at h
      obtain ⟨t, b⟩ := x
      simp only at h
      split at h
      · obtain ⟨e, he, hb⟩ := ih h
        exact ⟨e, List.mem_cons_of_mem _ he, hb⟩
      · rename_i ht
        refine ⟨d, by simp, b, ?_⟩
        rw [hg]
        cases t with
        | false => rfl
        | true => exact absurd rfl ht

theorem parts_glue {l : List Bytes} (h0 : l ≠ []) (g : Goods l) : Sp.parts (glue l) = l := by
  unfold Sp.parts
  rw [if_neg (Sp.glue_ne g h0), Sp.split_glue h0 g.no]
theorem parts_cl {p : Bytes} (h : Cl p) : Goods (Sp.parts p) ∧ glue (Sp.parts p) = p ∧ (Sp.parts p).length ≤ 12 := by
  obtain ⟨l, rfl, g, hl, -⟩ := h
  by_cases h0 : l = []
  · subst h0; exact ⟨Goods.nil, rfl, by simp [Sp.parts, glue]⟩
  · rw [parts_glue h0 g]; exact ⟨g, rfl, hl⟩
theorem cl_take {l : List Bytes} (g : Goods l) (h12 : l.length ≤ 12) (h200 : (glue l).length ≤ 200) (i : Nat) : Cl (glue (l.take i)) := by
  refine ⟨l.take i, rfl, fun x hx => g x (List.mem_of_mem_take hx), by rw [List.length_take]; omega, ?_⟩
  by_cases hi : l.length ≤ i
  · rw [List.take_of_length_le hi]; exact h200
  · by_cases h0 : l.take i = []
    · rw [h0]; simp [glue]
    · have hd : l.drop i ≠ [] := fun e => by have := congrArg List.length e; simp at this; omega
      have := congrArg List.length (Sp.glue_app h0 hd)
      rw [List.take_append_drop] at this
      simp at this; omega
theorem mem_ups {p e : Bytes} (hp : Cl p) : e ∈ ups (Sp.parts p) ↔ Above e p := by
  obtain ⟨g, hg, h12⟩ := parts_cl hp
  have h200 : (glue (Sp.parts p)).length ≤ 200 := by rw [hg]; obtain ⟨_, _, _, _, h⟩ := hp; exact h
  unfold ups
  rw [List.mem_map]
  constructor
  · rintro ⟨i, hi, rfl⟩
    have hi := List.mem_range.1 hi
    have gt : Goods ((Sp.parts p).take (i + 1)) := fun x hx => g x (List.mem_of_mem_take hx)
    have hne : (Sp.parts p).take (i + 1) ≠ [] := fun e => by have := congrArg List.length e; rw [List.length_take, List.length_nil] at this; omega
    refine ⟨Sp.glue_ne gt hne, cl_take g h12 h200 _, ?_, fun e => ?_⟩
    · have := (Sp.within_glue g gt).2 (List.take_prefix _ _)
      rwa [hg] at this
    · have := Sp.glue_inj gt g (e.trans hg.symm)
      have := congrArg List.length this
      rw [List.length_take] at this
      omega
  · rintro ⟨h0, ⟨l, rfl, gl, -⟩, hw, hne⟩
    rw [← hg, Sp.within_glue g gl] at hw
    have hl0 : l ≠ [] := fun e => h0 (by rw [e]; rfl)
    have hlt : l.length < (Sp.parts p).length := by
      rcases Nat.lt_or_ge l.length (Sp.parts p).length with h | h
      · exact h
      · exact absurd (by rw [← hg, hw.eq_of_length_le h]) hne
    have hl1 : 0 < l.length := by cases l with | nil => exact absurd rfl hl0 | cons _ _ => simp
    refine ⟨l.length - 1, List.mem_range.2 (by omega), ?_⟩
    rw [show l.length - 1 + 1 = l.length by omega, ← List.prefix_iff_eq_take.1 hw]
theorem nodup_ups {p : Bytes} (hp : Cl p) : (ups (Sp.parts p)).Nodup := by
  obtain ⟨g, hg, h12⟩ := parts_cl hp
  unfold ups List.Nodup
  rw [List.pairwise_map]
  refine List.Pairwise.imp_of_mem ?_ (List.nodup_range (n := (Sp.parts p).length - 1))
  intro i j hi hj hne e
  have hi := List.mem_range.1 hi
  have hj := List.mem_range.1 hj
  have := Sp.glue_inj (fun x hx => g x (List.mem_of_mem_take hx)) (fun x hx => g x (List.mem_of_mem_take hx)) e
  have := congrArg List.length this
  rw [List.length_take, List.length_take] at this
  omega
theorem ahd_files {m : T} (hn : (m.map (·.1)).Nodup) (l : List Bytes) : ahd (files m) l = ahd m l := by
  induction l with
  | nil => rfl
  | cons d l ih => unfold ahd; rw [files_get hn, ih]
theorem ahd_iff {m : T} {p : Bytes} (hp : Cl p) : ahd m (ups (Sp.parts p)) = none ↔ ahead m p = none := by
  constructor
  · intro h
    obtain ⟨e, he, b, hb⟩ := ahd_none m _ h
    cases ha : ahead m p with
    | none => rfl
    | some l =>
      obtain ⟨a1, a2⟩ := ahead_some hp ha
      rcases a1 e ((mem_ups hp).1 he) with ⟨b', hb'⟩ | hl
      · rw [hb] at hb'; cases hb'
      · rw [(a2 e hl).2] at hb; cases hb
  · intro h
    obtain ⟨e, he, b, hb⟩ := ahead_none hp h
    cases ha : ahd m (ups (Sp.parts p)) with
    | none => rfl
    | some l =>
      obtain ⟨a1, a2, -⟩ := ahd_some m _ _ ha
      rcases a1 e ((mem_ups hp).2 he) with ⟨b', hb'⟩ | hl
      · rw [hb] at hb'; cases hb'
      · rw [(a2 e hl).2] at hb; cases hb
theorem ahd_perm {m : T} {p : Bytes} {l k : List Bytes} (hp : Cl p) (ha : ahead m p = some l) (hk : ahd m (ups (Sp.parts p)) = some k) : k.Perm l := by
  obtain ⟨a1, a2⟩ := ahead_some hp ha
  obtain ⟨b1, b2, b3⟩ := ahd_some m _ _ hk
  refine (List.perm_ext_iff_of_nodup (b3 (nodup_ups hp)) (ahead_spec ha).2).2 fun e => ⟨fun he => ?_, fun he => ?_⟩
  · obtain ⟨h1, h2⟩ := b2 e he
    rcases a1 e ((mem_ups hp).1 h1) with ⟨b, hb⟩ | h
    · rw [h2] at hb; cases hb
    · exact h
  · obtain ⟨h1, h2⟩ := a2 e he
    rcases b1 e ((mem_ups hp).2 h1) with ⟨b, hb⟩ | h
    · rw [h2] at hb; cases hb
    · exact h
theorem get_make_perm {m : T} {l k : List Bytes} (h : k.Perm l) (j : Bytes) : get (make m k) j = get (make m l) j := by
  rw [get_make, get_make]
  by_cases hj : j ∈ l
  · rw [if_pos hj, if_pos (h.mem_iff.2 hj)]
  · rw [if_neg hj, if_neg (fun x => hj (h.mem_iff.1 x))]
/-- What is put behind the directories that lack, in whatever order these come. -/
theorem ins_put {m : T} {p : Bytes} {l k : List Bytes} (hn : (m.map (·.1)).Nodup) (h : k.Perm l) (x : Nd) : ins (insL (files m) k) p x = files (set (make m l) p x) := by
  rw [insL_files k hn, ins_files (nodup_make _ hn)]
  refine files_congr (nodup_set _ _ (nodup_make _ hn)) (nodup_set _ _ (nodup_make _ hn)) fun j => ?_
  rw [get_set, get_set, get_make_perm h]

/-- One more where nothing is. -/
def more (m : T) (p : Bytes) : Nat := if (get m p).isSome then 0 else 1
theorem write_r {m : T} (h : Ok m) {s b : Bytes} (hc : (Sp.clean s).2 = 0) :
    (((Sp.clean s).1 = [] ∨ (∃ c, get m (Sp.clean s).1 = some (true, c)) ∨ ahd m (ups (Sp.parts (Sp.clean s).1)) = none) → write m s b = (m, 54)) ∧
    (∀ lk, (Sp.clean s).1 ≠ [] → (∀ c, get m (Sp.clean s).1 ≠ some (true, c)) → ahd m (ups (Sp.parts (Sp.clean s).1)) = some lk →
      ((65536 < b.length ∨ (1048576 : Int) < (size m : Int) - old m (Sp.clean s).1 + b.length ∨ 500 < m.length + more m (Sp.clean s).1 + lk.length) → write m s b = (m, 55)) ∧
      (¬ (65536 < b.length ∨ (1048576 : Int) < (size m : Int) - old m (Sp.clean s).1 + b.length ∨ 500 < m.length + more m (Sp.clean s).1 + lk.length) →
        (write m s b).2 = 0 ∧ files (write m s b).1 = ins (insL (files m) lk) (Sp.clean s).1 (false, b))) := by
  have hcl := Sp.clean_cl hc
  have h0 : ¬ (Sp.clean s).2 ≠ 0 := by simpa using hc
  generalize hp : (Sp.clean s).1 = p at *
  constructor
  · rintro (e | ⟨c, hg⟩ | ha)
    · exact put_dir h0 (x := (true, [])) (by rw [hp, e]; rfl) rfl
    · have hp0 : p ≠ [] := (h.sound hg).1
      exact put_dir h0 (x := (true, c)) (by rw [hp, at_of hp0]; exact hg) rfl
    · exact put_kind h0 (by rw [hp]; exact (ahd_iff hcl).1 ha)
  · intro lk hp0 hnd hk
    cases ha : ahead m p with
    | none => rw [(ahd_iff hcl).2 ha] at hk; cases hk
    | some l =>
      have hperm := ahd_perm hcl ha hk
      have hll := hperm.length_eq
      obtain ⟨-, hput⟩ := put_ok (b := b) (more := false) (ox := get m p) (lack := l) h0 (by rw [hp, at_of hp0]) (fun x hx => by
        obtain ⟨t, c⟩ := x
        cases t with
        | false => rfl
        | true => exact absurd hx (hnd c)) (by rw [hp]; exact ha)
      have hB : putB (get m p) b false = b := by unfold putB; cases get m p <;> rfl
      rw [hB, hp] at hput
      have hlen := h.len
      have hNm : (putN (get m p) l : Int) ≤ 500 - m.length ↔ m.length + more m p + lk.length ≤ 500 := by
        unfold putN more
        cases hg : get m p with
        | none => simp; omega
        | some x =>
          have : l = [] := by have := h.ahead_nil hg; rw [ha] at this; cases this; rfl
          subst this
          simp at hll
          simp [hll]; omega
      have hroom : (65536 < b.length ∨ room m (putN (get m p) l) ((b.length : Int) - old m p) = false) ↔ (65536 < b.length ∨ (1048576 : Int) < (size m : Int) - old m p + b.length ∨ 500 < m.length + more m p + lk.length) := by
        unfold room
        rw [Bool.and_eq_false_iff, decide_eq_false_iff_not, decide_eq_false_iff_not]
        by_cases h1 : 65536 < b.length
        · simp [h1]
        · by_cases h2 : (1048576 : Int) < (size m : Int) - old m p + b.length
          · have : ¬ ((b.length : Int) - old m p ≤ 1048576 - size m) := by omega
            simp [h2, this]
          · have h3 : (b.length : Int) - old m p ≤ 1048576 - size m := by omega
            simp only [h1, h2, false_or, h3, not_true_eq_false, or_false]
            rw [hNm]; omega
      unfold Tr.write
      constructor
      · intro hh
        rw [hput, if_pos (hroom.2 hh)]
      · intro hh
        rw [hput, if_neg (fun x => hh (hroom.1 x))]
        exact ⟨rfl, (ins_put h.nodup hperm _).symm⟩
theorem mkdir_r {m : T} (h : Ok m) {s : Bytes} (hc : (Sp.clean s).2 = 0) :
    ((Sp.clean s).1 = [] → mkdir m s = (m, 0)) ∧ (∀ c, get m (Sp.clean s).1 = some (true, c) → mkdir m s = (m, 0)) ∧ (∀ c, get m (Sp.clean s).1 = some (false, c) → mkdir m s = (m, 54)) ∧
    ((Sp.clean s).1 ≠ [] → get m (Sp.clean s).1 = none → (ahd m (ups (Sp.parts (Sp.clean s).1)) = none → mkdir m s = (m, 54)) ∧
      ∀ lk, ahd m (ups (Sp.parts (Sp.clean s).1)) = some lk → (500 < m.length + lk.length + 1 → mkdir m s = (m, 55)) ∧
        (¬ 500 < m.length + lk.length + 1 → (mkdir m s).2 = 0 ∧ files (mkdir m s).1 = insL (files m) (lk ++ [(Sp.clean s).1]))) := by
  have hcl := Sp.clean_cl hc
  have h0 : ¬ (Sp.clean s).2 ≠ 0 := by simpa using hc
  have hun : mkdir m s = match at_ m (Sp.clean s).1 with
    | some x => if x.1 then (m, 0) else (m, 54)
    | none => match ahead m (Sp.clean s).1 with
      | none => (m, 54)
      | some lack => if room m (lack.length + 1) 0 = false then (m, 55) else (make m (lack ++ [(Sp.clean s).1]), 0) := by
    unfold Tr.mkdir; rw [if_neg h0]; rfl
  generalize hp : (Sp.clean s).1 = p at *
  refine ⟨fun e => ?_, fun c hg => ?_, fun c hg => ?_, fun hp0 hg => ⟨fun ha => ?_, fun lk hk => ?_⟩⟩
  · rw [hun, e]; rfl
  · rw [hun, at_of (h.sound hg).1, hg]; rfl
  · rw [hun, at_of (h.sound hg).1, hg]; rfl
  · rw [hun, at_of hp0, hg, (ahd_iff hcl).1 ha]
  · cases ha : ahead m p with
    | none => rw [(ahd_iff hcl).2 ha] at hk; cases hk
    | some l =>
      have hperm := ahd_perm hcl ha hk
      have hll := hperm.length_eq
      have hb := h.bytes
      rw [hun, at_of hp0, hg, ha]
      simp only
      have hroom : room m ((l.length : Int) + 1) 0 = false ↔ 500 < m.length + lk.length + 1 := by
        unfold room
        rw [Bool.and_eq_false_iff, decide_eq_false_iff_not, decide_eq_false_iff_not]
        omega
      constructor
      · intro hh; rw [if_pos (hroom.2 hh)]
      · intro hh
        rw [if_neg (fun x => hh (hroom.1 x))]
        refine ⟨rfl, ?_⟩
        dsimp only
        rw [make_snoc]
        have : insL (files m) (lk ++ [p]) = ins (insL (files m) lk) p (true, []) := by simp [insL]
        rw [this, ins_put h.nodup hperm]
theorem append_r {m : T} {s b : Bytes} : (append m s b).2 = (write m s (((if (Sp.clean s).2 = 0 then get m (Sp.clean s).1 else none).getD (true, [])).2 ++ b)).2 ∧ (append m s b).1 = (write m s (((if (Sp.clean s).2 = 0 then get m (Sp.clean s).1 else none).getD (true, [])).2 ++ b)).1 := by
  by_cases hc : (Sp.clean s).2 = 0
  · rw [if_pos hc]
    have h0 : ¬ (Sp.clean s).2 ≠ 0 := by simpa using hc
    unfold Tr.append Tr.write
    obtain ⟨b', hb'⟩ : ∃ b', b' = (if 65536 < b.length then b.take 65537 else b) := ⟨_, rfl⟩
    rw [← hb']
    by_cases hbig : 65536 < b.length
    · have hbl : 65536 < b'.length := by rw [hb', if_pos hbig, List.length_take]; omega
      have key : ∀ (c c' : Bytes) (mr : Bool), 65536 < c.length → 65536 < c'.length → put m s c mr = put m s c' false := by
        intro c c' mr hcl hcl'
        unfold Tr.put
        rw [if_neg h0, if_neg h0]
        simp only
        cases at_ m (Sp.clean s).1 with
        | none =>
          cases ahead m (Sp.clean s).1 with
          | none => rfl
          | some lack => simp only [hcl, hcl', true_or, if_true]
        | some x =>
          by_cases hx : x.1 = true
          · simp [hx]
          · simp only [hx, Bool.false_eq_true, if_false]
            cases ahead m (Sp.clean s).1 with
            | none => rfl
            | some lack =>
              have h1 : 65536 < (if mr = true then x.2 ++ c else c).length := by cases mr <;> simp <;> omega
              simp only [h1, hcl', true_or, if_true]
      have hbig2 : 65536 < (((get m (Sp.clean s).1).getD (true, [])).2 ++ b).length := by rw [List.length_append]; omega
      rw [key b' _ true hbl hbig2]
      exact ⟨rfl, rfl⟩
    · have : b' = b := by rw [hb', if_neg hbig]
      rw [this]
      have key : put m s b true = put m s (((get m (Sp.clean s).1).getD (true, [])).2 ++ b) false := by
        unfold Tr.put
        rw [if_neg h0, if_neg h0]
        simp only
        by_cases hp0 : (Sp.clean s).1 = []
        · simp [hp0, at_]
        · rw [at_of hp0]
          cases hg : get m (Sp.clean s).1 with
          | none => simp
          | some x => simp
      rw [key]
      exact ⟨rfl, rfl⟩
  · rw [if_neg hc]
    have h0 : (Sp.clean s).2 ≠ 0 := hc
    unfold Tr.append Tr.write
    rw [put_err h0, put_err h0]
    exact ⟨rfl, rfl⟩
end Tr
end Go.Proofs.YtmdpmpdlkaogdaaDoor

namespace Go.Proofs.YtmdpmpdlkaogdaaDoor
open Go Go.RowKit Vc

/-- A File, as a slice's only element. -/
theorem fbuild {x : FE} {l : List UInt8} {w0 : World} (hx : RowB w0 x.2.2.1 l) : (∀ w, (Instr.buildSlice 23 1 #[(0, .agg (fcells x).toArray)]).run P w = .ok (.slice (some ⟨w.heap.size, 0, none⟩) 1 1) (w.alloc (.cells (fcells x).toArray tF))) ∧ ((fcells x).toArray.toList.all (·.oneCell')) = true := by
  obtain ⟨p, d, v, b⟩ := x
  obtain ⟨-, a, c, rfl, -⟩ := hx
  exact ⟨fun w => by kernel_rfl, rfl⟩
theorem FilesAt.cells {w : World} {b o n c i : Nat} {E : List FE} {x : FE} (h : FilesAt w (.slice (some ⟨b, o, none⟩) n c) E) (hi : E[i]? = some x) : ∀ j v, (fcells x)[j]? = some v → w.cell? ⟨b, o + i * 3 + j, none⟩ = some v := fun j v hj => by
  obtain ⟨h0, h1, h2⟩ := h.cell hi
  match j, hj with
  | 0, hj => cases hj; exact h0
  | 1, hj => cases hj; exact h1
  | 2, hj => cases hj; exact h2
  | j + 3, hj => simp [fcells] at hj
theorem FilesAt.own {B : Nat} {w : World} {v : Value} {E : List FE} (hv : w.ownsRow B tF 3 v E.length (E.flatMap fcells)) (hb : ∀ x ∈ E, RowB w x.2.2.1 x.2.2.2) : FilesAt w v E := ⟨Row.own hv, hb⟩

theorem encB_ne {l : List UInt8} {i : Nat} (h : i < l.length) : encB l ≠ [] := fun e => by
  have := congrArg List.length e
  rw [encB_length, List.length_nil] at this
  omega
/-- What is left of a tree's files. -/
def kept (f : Int) (q : Tr.Bytes) (x : FE) : Bool := !decide (f = 0) || !Sp.within x.1 q

theorem remove_left {m : Tr.T} (h : Tr.Ok m) (p : Tr.Bytes) : (Tr.files m).filter (fun x => !decide ((Tr.remove m p).2 = 0) || !Sp.within x.1 (Sp.clean p).1) = Tr.files (Tr.remove m p).1 ∧
    ((Sp.clean p).2 = 0 ∨ (Tr.remove m p).2 = (Sp.clean p).2) ∧ ((Tr.remove m p).2 ≠ 0 ∨ Tr.exists_ (Tr.remove m p).1 p = false) := by
  have hall : ∀ {f : Int}, f ≠ 0 → (Tr.files m).filter (fun x => !decide (f = 0) || !Sp.within x.1 (Sp.clean p).1) = Tr.files m := fun {f} hf => List.filter_eq_self.2 fun x _ => by simp [hf]
  unfold Tr.remove
  split
  · rename_i h0
    exact ⟨hall h0, .inr rfl, .inl h0⟩
  rename_i h0
  have h0' : (Sp.clean p).2 = 0 := by simpa using h0
  dsimp only
  split
  · exact ⟨hall (by simp), .inl h0', .inl (by simp)⟩
  rename_i hp0
  split
  · exact ⟨hall (by simp), .inl h0', .inl (by simp)⟩
  refine ⟨?_, .inl h0', .inr ?_⟩
  · dsimp only
    have e : (fun x : Tr.Bytes × Tr.Nd => !decide ((0 : Int) = 0) || !Sp.within x.1 (Sp.clean p).1) = fun x => (fun k => !Sp.within k (Sp.clean p).1) x.1 := by funext x; simp
    rw [e]
    refine Tr.files_eq_of (Tr.filter_sorted (Tr.files_sorted h.nodup) _) (Tr.nodup_drop _ h.nodup) fun k => ?_
    rw [Tr.get_filter (Tr.files_nodup h.nodup) (fun k => !Sp.within k (Sp.clean p).1), Tr.files_get h.nodup, Tr.get_cut]
    cases Sp.within k (Sp.clean p).1 <;> simp
  · unfold Tr.exists_
    rw [Tr.at_of hp0, Tr.get_cut, if_pos (Sp.within_refl _)]
    simp

end Go.Proofs.YtmdpmpdlkaogdaaDoor

namespace Go.Proofs.YtmdpmpdlkaogdaaDoor
open Go Go.RowKit Vc

theorem ag_files : aggB P 23 = some false := by kernel_rfl
theorem sz_files : szB P 23 = some 1 := by kernel_rfl
abbrev fm (E : List FE) : Tr.T := E.map fnd
theorem fm_len (E : List FE) : (fm E).length = E.length := by simp
/-- What 'at' tells. -/
def AtR (E : List FE) (p : Tr.Bytes) (k : Int) : Prop := (k = -1 ∧ Tr.get (fm E) p = none) ∨ ∃ (i : Nat) (x : FE), k = i ∧ E[i]? = some x ∧ Tr.get (fm E) p = some (x.2.1, x.2.2.2)
theorem get_fm_none {E : List FE} {p : Tr.Bytes} (h : ∀ x ∈ E, x.1 ≠ p) : Tr.get (fm E) p = none := by
  rw [Tr.get_none]
  intro hm
  obtain ⟨y, hy, rfl⟩ := List.mem_map.1 hm
  obtain ⟨x, hx, rfl⟩ := List.mem_map.1 hy
  exact h x hx rfl

theorem size_fm_take (E : List FE) (i : Nat) : Tr.size (fm (E.take i)) ≤ Tr.size (fm E) := by
  have : fm E = fm (E.take i) ++ fm (E.drop i) := by rw [← List.map_append, List.take_append_drop]
  rw [this, Tr.size_append]; omega
theorem size_fm_snoc (E : List FE) (x : FE) : Tr.size (fm (E ++ [x])) = Tr.size (fm E) + x.2.2.2.length := by
  simp [Tr.size, fnd]

theorem ups_take (l : List Sp.Bytes) (i : Nat) : (Tr.ups l).take (i + 1) = (Tr.ups l).take i ++ if i + 1 < l.length then [Sp.glue (l.take (i + 1))] else [] := by
  rw [List.take_add_one]
  congr 1
  unfold Tr.ups
  rw [List.getElem?_map]
  by_cases h : i + 1 < l.length
  · rw [if_pos h, List.getElem?_range (by omega)]; rfl
  · rw [if_neg h, List.getElem?_eq_none (by simp; omega)]; rfl
theorem ups_len (l : List Sp.Bytes) : (Tr.ups l).length = l.length - 1 := by simp [Tr.ups]

end Go.Proofs.YtmdpmpdlkaogdaaDoor

namespace Go.Proofs.YtmdpmpdlkaogdaaDoor
open Go Go.RowKit Vc

theorem slVlN {st : Sty} [Wy st] {P : Program} {ds : List Deferred} {n : Nat} {Q : Exit → Act → World → Prop} {E : Env} {w : World} {ops : Array Oper} {l : List Oper} {d : Nat} {ty : TypeId} {pos : String} {af : Array Edge}
    {t e : TypeId} {x lo : Operand} {sz : Nat} {κ : IntKind} (hx : opd E x = some (.slice none 0 0)) (hl : opd E lo = some (.int κ (0 : Nat))) (hu : P.underlying t = some (.slice e)) (hs : szB P e = some sz) (hd : Nat.blt d n = true)
    (k : LY st P ds n ops l Q ((d, .slice none 0 0) :: E) w) : LY st P ds n ops (⟨some d, .slice t x (some lo) none none, ty, pos, af, none⟩ :: l) Q E w := by
  refine slVl hx hl hu hs hd (by omega) (by omega) ?_
  have e1 : (if 0 = ((0 : Nat) : Int).toNat then (none : Option Addr) else (none : Option Addr).map (·.add (((0 : Nat) : Int).toNat * sz))) = none := by split <;> rfl
  rw [e1]
  exact k
theorem flat_take {E : List FE} {i j : Nat} {u : Value} (h : ((E.take i).flatMap fcells)[j]? = some u) : (E.flatMap fcells)[j]? = some u := by
  have e : E.flatMap fcells = (E.take i).flatMap fcells ++ (E.drop i).flatMap fcells := by rw [← List.flatMap_append, List.take_append_drop]
  rw [e, List.getElem?_append_left (List.getElem?_eq_some_iff.1 h).1]; exact h
theorem fl_len (E : List FE) : (E.flatMap fcells).length = E.length * 3 := by
  induction E with
  | nil => rfl
  | cons x E ih => rw [List.flatMap_cons, List.length_append, ih, fcells_len, List.length_cons]; omega
theorem flat_drop {E : List FE} {i j : Nat} {u : Value} (hi : i ≤ E.length) (h : ((E.drop i).flatMap fcells)[j]? = some u) : (E.flatMap fcells)[i * 3 + j]? = some u := by
  have e : E.flatMap fcells = (E.take i).flatMap fcells ++ (E.drop i).flatMap fcells := by rw [← List.flatMap_append, List.take_append_drop]
  have hl : ((E.take i).flatMap fcells).length = i * 3 := by rw [fl_len, List.length_take, Nat.min_eq_left hi]
  rw [e, List.getElem?_append_right (by omega), hl, Nat.add_sub_cancel_left]; exact h

end Go.Proofs.YtmdpmpdlkaogdaaDoor

namespace Go.Proofs.YtmdpmpdlkaogdaaDoor
open Go Go.RowKit Vc

/-- A copy of bytes that came in. -/
theorem cpyB {P : Program} {Q : Exit → Act → World → Prop} {ds : List Deferred} {n : Nat} {E : Env} {w : World} {ops : Array Oper} {l : List Oper} {mm : Nat} {d : Nat} {ty : TypeId} {pos : String} {af : Array Edge} {t : TypeId}
    {x : Operand} {bv : Value} {b : List UInt8} (hx : opd E x = some bv) (hb : BytA w bv b) (ht : ElT P t tB (.int .u8 0) 1 1) (hd : Nat.blt d n = true) (hbl : b.length ≤ 1000000000)
    (k : ∀ v' w', Byts w.heap.size w' v' b → Ext none_ w w' → L Fence.wide mm P ds n ops l Q ((d, v') :: E) w') : L Fence.wide mm P ds n ops (⟨some d, .call ⟨.builtin .append, #[.const (.slice none 0 0), x], #[t, t]⟩, ty, pos, af, none⟩ :: l) Q E w := by
  rcases hb.form with ⟨rfl, h0⟩ | ⟨ad, c, rfl, h1, h2, hc⟩
  · obtain rfl : b = [] := List.eq_nil_of_length_eq_zero h0
    exact appN (st := .plain Fence.wide mm) rfl hx hd ht (Nat.le_refl _) (k _ _ (own_nil _ _ _ _) (Ext.refl _ _))
  · exact app rfl hx hd ht (own_nil _ w.heap.size _ _) (by simp) (fun j u hj => (hc j u hj).2) (encB_one b) (by omega) (by simp only [maxLen]; omega) (Nat.le_refl _) fun v' w' ho hx' _ _ => k v' w' (by simpa [Byts] using ho) (hx'.mono fun _ _ h => by cases h)
/-- What 'at' tells, of the tree. -/
theorem AtR.of {E : List FE} {m : Tr.T} {p : Tr.Bytes} {k : Int} (h : AtR E p k) (hE : fm E = Tr.files m) (hn : (m.map (·.1)).Nodup) : (k = -1 ∧ Tr.get m p = none) ∨ ∃ (i : Nat) (x : FE), k = i ∧ E[i]? = some x ∧ Tr.get m p = some (x.2.1, x.2.2.2) := by
  unfold AtR at h
  rw [hE, Tr.files_get hn] at h
  exact h
theorem len_of {E : List FE} {m : Tr.T} (hE : fm E = Tr.files m) : E.length = m.length := by
  have := congrArg List.length hE
  rw [fm_len, Tr.files_len] at this
  exact this

end Go.Proofs.YtmdpmpdlkaogdaaDoor

namespace Go.Proofs.YtmdpmpdlkaogdaaDoor
namespace Sh
/-- A number's eight bytes, the highest first. -/
def len8 (n : Nat) : List UInt8 := (List.range 8).map fun j => UInt8.ofNat (n / 2 ^ (8 * (7 - j)))
def zeros (n : Nat) : Nat := (119 - n % 64) % 64
/-- A text as it is hashed. -/
def pad (b : List UInt8) : List UInt8 := b ++ [128] ++ List.replicate (zeros b.length) 0 ++ len8 (8 * b.length)
theorem len8_len (n : Nat) : (len8 n).length = 8 := by simp [len8]
theorem pad_len (b : List UInt8) : (pad b).length % 64 = 0 ∧ (pad b).length ≤ b.length + 73 := by
  have h : (pad b).length = b.length + 1 + zeros b.length + 8 := by simp [pad, len8_len]; omega
  rw [h]
  unfold zeros
  omega
end Sh
open Go Go.RowKit Vc
theorem u_u64 : P.underlying 49 = some (.int .u64) := Tryd.underlying49
theorem ok_pad : FnOk P 36 := ⟨_, Tryd.func36, by kernel_rfl, by kernel_rfl⟩

theorem c_pad {w : World} {v : Value} {b : List UInt8} (hb : BytA w v b) (hl : b.length ≤ 100000000) : Calls P 36 #[v] w fun e w' => ∃ v', e = .returned v' ∧ Byts w.heap.size w' v' (Sh.pad b) ∧ Ext none_ w w' := by
  obtain ⟨a, c, rfl, hn, hmx, -, -⟩ := id hb
  refine enter (l := [_]) (n := 34) Tryd.func36 rfl rfl rfl ?_
  refine W.seq ?_
  refine W.reg <| asg rfl rfl <| L.nil ?_
  refine N.th ?_
  refine W.seq ?_
  refine W.reg <| mv rfl rfl <| cpyB rfl hb el_bytes rfl (by omega) fun v1 w1 hv1 hx1 => ?_
  refine push1 (cs := #[.int .u8 ((128 : UInt8).toNat : Int)]) rfl rfl rfl rfl (fun _ => by kernel_rfl) el_bytes rfl rfl hv1 (by omega) (by simp only [maxLen]; omega) hx1.size fun v2 w2 hv2 hx2 => ?_
  refine asg rfl rfl <| L.nil ?_
  refine N.th ?_
  have hv2' : Byts w.heap.size w2 v2 (b ++ [128] ++ List.replicate 0 0) := by simpa [Byts, encB] using hv2
  refine W.seq ?_
  refine W.block ?_
  refine W.loop (X := Nat × Value) (fun x => [(3, x.2), (0, .slice a b.length c)]) (fun x w' => x.1 ≤ Sh.zeros b.length ∧ Byts w.heap.size w' x.2 (b ++ [128] ++ List.replicate x.1 0) ∧ Ext none_ w w') (fun x => Sh.zeros b.length - x.1) (0, v2) ⟨rfl, rfl, trivial⟩ ⟨by omega, hv2', hx1.own hv1 hx2⟩ ?_
  rintro ⟨k, v3⟩ w3 ⟨hk, hv3, hx3⟩
  dsimp only at hk hv3 ⊢
  obtain ⟨a3, c3, rfl, hn3, hm3⟩ := own_slice hv3
  have hlen : (b ++ [128] ++ List.replicate k (0 : UInt8)).length = b.length + 1 + k := by simp; omega
  refine W.seq ?_
  refine W.seq ?_
  refine W.reg <| mv rfl rfl <| lenV (t := 24) rfl u_bytes rfl <| remI (c := (((b ++ [128] ++ List.replicate k (0 : UInt8)).length % 64 : Nat) : Int)) rfl rfl rfl (by decide) rfl <| neqI rfl rfl rfl <| L.nil ?_
  refine N.th ?_
  have hz : Sh.zeros b.length = (119 - b.length % 64) % 64 := rfl
  refine W.cond rfl (fun h => ?_) (fun h => ?_)
  · refine W.skip ?_
    refine N.th ?_
    have hk1 : k < Sh.zeros b.length := by
      have h1 : ¬ ((((b ++ [128] ++ List.replicate k (0 : UInt8)).length % 64 : Nat) : Int) = 56) := by simpa using h
      rw [hlen] at h1
      omega
    refine W.block ?_
    refine W.reg <| mv rfl rfl <| push1 (cs := #[.int .u8 ((0 : UInt8).toNat : Int)]) rfl rfl rfl rfl (fun _ => by kernel_rfl) el_bytes rfl rfl hv3 (by omega) (by simp only [maxLen]; omega) hx3.size fun v4 w4 hv4 hx4 => ?_
    refine asg rfl rfl <| L.nil ?_
    refine N.inb ?_
    refine N.th (N.round (x := (k + 1, v4)) ⟨rfl, rfl, trivial⟩ ⟨by dsimp only; omega, ?_, hx3.own hv3 hx4⟩ (by dsimp only; omega))   -- ROUND
    have e : b ++ [128] ++ List.replicate (k + 1) (0 : UInt8) = b ++ [128] ++ List.replicate k 0 ++ [0] := by rw [List.replicate_succ']; simp
    dsimp only
    rw [e]
    unfold Byts
    rw [List.length_append, List.length_singleton, show encB (b ++ [128] ++ List.replicate k 0 ++ [0]) = encB (b ++ [128] ++ List.replicate k 0) ++ [.int .u8 ((0 : UInt8).toNat : Int)] by simp [encB]]
    exact hv4
  refine W.exit ?_
  refine N.xth ?_
  refine N.xth ?_
  refine N.xeq ?_
  refine N.th ?_
  have hk0 : k = Sh.zeros b.length := by
    have h1 : (((b ++ [128] ++ List.replicate k (0 : UInt8)).length % 64 : Nat) : Int) = 56 := by simpa using h
    rw [hlen] at h1
    omega
  subst hk0
  obtain ⟨pre, hpre⟩ : ∃ pre, pre = b ++ [128] ++ List.replicate (Sh.zeros b.length) (0 : UInt8) := ⟨_, rfl⟩
  rw [← hpre] at hv3 hlen ⊢
  refine W.seq ?_
  refine W.reg <| mv rfl rfl <| lenV (t := 24) rfl u_bytes rfl <| cvtI (c := (b.length : Int)) rfl u_u64 u_int rfl (wu64 (by omega) (by omega)) <| mulI (c := ((8 * b.length : Nat) : Int)) rfl rfl rfl (by rw [wu64 (by omega) (by omega)]; omega) <| asg rfl rfl <| L.nil ?_
  refine N.th ?_
  refine W.seq ?_
  refine W.seq ?_
  refine W.reg <| asg rfl rfl <| L.nil ?_
  refine N.th ?_
  refine W.block ?_
  refine W.loop (X := Nat × Value) (fun x => [(5, .int .i64 (7 - (x.1 : Int))), (4, .int .u64 ((8 * b.length : Nat) : Int)), (3, x.2)]) (fun x w' => x.1 ≤ 8 ∧ Byts w.heap.size w' x.2 (pre ++ (Sh.len8 (8 * b.length)).take x.1) ∧ Ext none_ w w') (fun x => 8 - x.1) (0, .slice a3 pre.length c3) ⟨rfl, rfl, rfl, trivial⟩ ⟨by omega, by simpa using hv3, hx3⟩ ?_
  rintro ⟨j, v4⟩ w4 ⟨hj, hv4, hx4⟩
  dsimp only at hj hv4 ⊢
  obtain ⟨a4, c4, rfl, -, -⟩ := own_slice hv4
  refine W.seq ?_
  refine W.seq ?_
  refine W.reg <| mv rfl rfl <| geqI rfl rfl rfl <| L.nil ?_
  refine N.th ?_
  refine W.cond rfl (fun h => ?_) (fun h => ?_)
  · refine W.skip ?_
    refine N.th ?_
    have hj1 : j < 8 := by have := of_decide_eq_true h; omega
    have hz2 : Sh.zeros b.length < 64 := Nat.mod_lt _ (by decide)
    have h8 := Sh.len8_len (8 * b.length)
    have hl4 : (pre ++ (Sh.len8 (8 * b.length)).take j).length ≤ 100000100 := by simp [h8]; omega
    obtain ⟨y, hy⟩ : ∃ y : UInt8, y = UInt8.ofNat (8 * b.length / 2 ^ (8 * (7 - j))) := ⟨_, rfl⟩
    have hget : (Sh.len8 (8 * b.length))[j]? = some y := by rw [hy]; simp [Sh.len8, hj1]
    refine W.seq ?_
    refine W.block ?_
    refine W.reg <| mv rfl rfl <| mv rfl rfl <| mv rfl rfl <| mulI (c := ((8 * (7 - j) : Nat) : Int)) rfl rfl rfl (by rw [w64 (by omega) (by omega)]; omega) <| shrI (c := ((8 * b.length / 2 ^ (8 * (7 - j)) : Nat) : Int)) rfl rfl rfl (by omega) (by
        have h1 : min (((8 * (7 - j) : Nat) : Int)).toNat IntKind.u64.bits = 8 * (7 - j) := by simp [IntKind.bits]; omega
        rw [h1, Int.fdiv_eq_ediv_of_nonneg _ (Int.pow_nonneg (by decide))]
        simp) <| cvtI (c := (y.toNat : Int)) rfl u_u8 u_u64 rfl (by rw [hy]; simp [IntKind.wrap, IntKind.bits, IntKind.signed]) <|
      push1 (cs := #[.int .u8 (y.toNat : Int)]) rfl rfl rfl rfl (fun _ => by kernel_rfl) el_bytes rfl rfl hv4 (by omega) (by simp only [maxLen]; omega) hx4.size fun v5 w5 hv5 hx5 => ?_
    refine asg rfl rfl <| L.nil ?_
    refine N.inb ?_
    refine N.th ?_
    refine W.reg <| mv rfl rfl <| subI (c := 7 - ((j + 1 : Nat) : Int)) rfl rfl rfl (by rw [w64 (by omega) (by omega)]; omega) <| asg rfl rfl <| L.nil ?_
    refine N.th (N.round (x := (j + 1, v5)) ⟨rfl, rfl, rfl, trivial⟩ ⟨by dsimp only; omega, ?_, hx4.own hv4 hx5⟩ (by dsimp only; omega))   -- ROUND
    dsimp only
    rw [List.take_add_one, hget]
    show Byts w.heap.size w5 v5 (pre ++ (_ ++ [y]))
    rw [← List.append_assoc]
    unfold Byts
    rw [List.length_append, List.length_singleton, show encB (pre ++ (Sh.len8 (8 * b.length)).take j ++ [y]) = encB (pre ++ (Sh.len8 (8 * b.length)).take j) ++ [.int .u8 (y.toNat : Int)] by simp [encB]]
    exact hv5
  · refine W.exit ?_
    refine N.xth ?_
    refine N.xth ?_
    refine N.xeq ?_
    refine N.th ?_
    have hj8 : j = 8 := by have := of_decide_eq_false h; omega
    subst hj8
    rw [List.take_of_length_le (by rw [Sh.len8_len]; exact Nat.le_refl _)] at hv4
    refine W.seq ?_
    refine W.reg <| mv rfl rfl <| asg rfl rfl <| L.nil ?_
    refine N.th ?_
    refine W.ret ?_
    refine N.ret1 rfl rfl ?_   -- RETURN
    have hp : Sh.pad b = pre ++ Sh.len8 (8 * b.length) := by rw [hpre]; rfl
    rw [hp]
    refine ⟨_, rfl, ?_, hx4⟩
    rw [List.take_of_length_le (by rw [Sh.len8_len]; exact Nat.le_refl _)]
    exact hv4
end Go.Proofs.YtmdpmpdlkaogdaaDoor

namespace Go.Proofs.YtmdpmpdlkaogdaaDoor
namespace Sh
/-- After so many blocks. -/
def fd (p : List UInt8) : Nat → St
  | 0 => S0
  | j + 1 => turn (fd p j) (p.drop (64 * j))
/-- The words' bytes. -/
def dig (s : St) : List UInt8 := (List.range 32).map fun i => UInt8.ofNat ((at_ s.l (i / 4)) >>> (24 - 8 * (i % 4))).toNat
theorem dig_len (s : St) : (dig s).length = 32 := by simp [dig]
def sum (b : List UInt8) : List UInt8 := dig (fd (pad b) ((pad b).length / 64))
theorem byte_drop (p : List UInt8) (d k : Nat) : byte (p.drop d) k = BitVec.ofNat 32 (p[d + k]?.getD 0).toNat := by unfold byte; rw [List.getElem?_drop]
end Sh
open Go Go.RowKit Vc
abbrev t32 : TypeId := 32
theorem u_t32 : P.underlying t32 = some (.array 32 5) := Tryd.underlying32
theorem sz_t32 : szB P t32 = some 32 := by kernel_rfl
theorem ag_t32 : aggB P t32 = some true := by kernel_rfl
theorem ze_t32 : zeroB P t32 = some (.agg (encB (List.replicate 32 0)).toArray) := by kernel_rfl
theorem oneB (l : List UInt8) : (encB l).toArray.toList.all (·.oneCell') = true := by simp [encB, List.all_map, Function.comp_def]; intro x _; rfl
theorem ok_rSum : FnOk P 19 := ⟨_, Tryd.func19, by kernel_rfl, by kernel_rfl⟩
theorem setL {A R : List Value} {x v : Value} : (A ++ x :: R).toArray.setIfInBounds A.length v = (A ++ v :: R).toArray := by
  apply Array.ext'
  simp only [Array.toList_setIfInBounds]
  rw [List.set_append_right _ _ (Nat.le_refl _)]
  simp
/-- A byte more in an array. -/
theorem setB {l : List UInt8} {i n : Nat} {y : UInt8} (hl : l.length = n) (hi : i < n) (hy : l[i]? = some y) : (encB (l.take i) ++ encB (List.replicate (n - i) 0)).toArray.setIfInBounds i (.int .u8 y.toNat) = (encB (l.take (i + 1)) ++ encB (List.replicate (n - (i + 1)) 0)).toArray := by
  have h1 : (encB (l.take i)).length = i := by simp [encB]; omega
  rw [show n - i = (n - (i + 1)) + 1 by omega, List.replicate_succ]
  conv => lhs; arg 2; rw [← h1]
  rw [show encB (0 :: List.replicate (n - (i + 1)) 0) = (.int .u8 ((0 : UInt8).toNat : Int)) :: encB (List.replicate (n - (i + 1)) 0) from rfl, setL, List.take_add_one, hy]
  simp [encB]

theorem st8 {w : World} {h3 i : Nat} {l l' : List (BitVec 32)} {x : BitVec 32} (hb : w.heap[h3]? = some (.cells (enc32 l).toArray t8 (0, 0))) (hl : l.set i x = l') : (w.setCell ⟨h3, i, none⟩ (V32 x)).heap[h3]? = some (.cells (enc32 l').toArray t8 (0, 0)) := by
  rw [setCell_heap hb, ← hl]
  congr 2
  apply Array.ext'
  simp [enc32, List.map_set]

set_option maxHeartbeats 2000000 in
theorem c_rSum {w : World} {v : Value} {b : List UInt8} (hb : BytA w v b) (hl : b.length ≤ 100000000) : Calls P 19 #[v] w fun e w' => e = .returned (.agg (encB (Sh.sum b)).toArray) ∧ Ext none_ w w' := by
  refine enter (l := [_]) (n := 259) Tryd.func19 rfl rfl rfl ?_
  refine W.seq ?_
  refine W.reg <| new ze_t32 rfl <| L.nil ?_
  refine N.th ?_
  obtain ⟨o, ho⟩ : ∃ o, o = w.heap.size := ⟨_, rfl⟩
  obtain ⟨w1, hw1⟩ : ∃ w1, w1 = w.alloc (.cells (encB (List.replicate 32 0)).toArray t32) := ⟨_, rfl⟩
  have ho1 : w1.heap[o]? = some (.cells (encB (List.replicate 32 0)).toArray t32 (0, 0)) := by rw [hw1, ho]; exact heap_new _ _
  have hx1 : Ext none_ w w1 := by rw [hw1]; exact Ext.alloc _ _ _
  rw [show w.alloc (.cells (Value.cells (.agg (encB (List.replicate 32 0)).toArray)) t32) = w1 from hw1.symm, ← ho]
  refine W.seq ?_
  refine W.reg <| bld (vs := parts Sh.S0.l) (v := .agg (enc32 Sh.S0.l).toArray) (by kernel_rfl) rfl (fun _ => by kernel_rfl) <| new ze_t8 rfl <| stR (cells := (enc32 Sh.S0.l).toArray) rfl rfl sz_t8 (one32 _) (heap_new _ _) rfl <| L.nil ?_
  refine N.th ?_
  obtain ⟨h3, hh3⟩ : ∃ h3, h3 = w1.heap.size := ⟨_, rfl⟩
  obtain ⟨w2, hw2⟩ : ∃ w2, w2 = (w1.alloc (.cells (Value.cells (.agg (enc32 (List.replicate 8 0)).toArray)) t8)).setRow w1.heap.size (enc32 Sh.S0.l).toArray := ⟨_, rfl⟩
  have hh2 : w2.heap[h3]? = some (.cells (enc32 (Sh.fd (Sh.pad b) 0).l).toArray t8 (0, 0)) := by rw [hw2, hh3]; exact setRow_heap _ _ _ _ _ _ (heap_new _ _)
  have hx2 : Ext none_ w1 w2 := by rw [hw2]; exact (Ext.alloc none_ _ _).trans' (Ext.setRow (S := fun k => k = w1.heap.size) _ (fun _ => rfl) _) (fun i hi e => by omega)
  rw [show (w1.alloc (.cells (Value.cells (.agg (enc32 (List.replicate 8 0)).toArray)) t8)).setRow w1.heap.size (enc32 Sh.S0.l).toArray = w2 from hw2.symm, ← hh3]
  refine W.seq ?_
  refine W.reg <| call (vs := []) rfl rfl ok_table (c_table w2) ?_
  rintro e w3 ⟨rfl, hx3⟩
  refine ⟨_, rfl, ?_⟩
  refine new ze_t64 rfl <| stR (cells := (enc32 Sh.K).toArray) rfl rfl sz_t64 (one32 _) (heap_new _ _) rfl <| L.nil ?_
  refine N.th ?_
  obtain ⟨k4, hk4⟩ : ∃ k4, k4 = w3.heap.size := ⟨_, rfl⟩
  obtain ⟨w4, hw4⟩ : ∃ w4, w4 = (w3.alloc (.cells (Value.cells (.agg (enc32 (List.replicate 64 0)).toArray)) t64)).setRow w3.heap.size (enc32 Sh.K).toArray := ⟨_, rfl⟩
  have hkk4 : w4.heap[k4]? = some (.cells (enc32 Sh.K).toArray t64 (0, 0)) := by rw [hw4, hk4]; exact setRow_heap _ _ _ _ _ _ (heap_new _ _)
  have hx4 : Ext none_ w3 w4 := by rw [hw4]; exact (Ext.alloc none_ _ _).trans' (Ext.setRow (S := fun k => k = w3.heap.size) _ (fun _ => rfl) _) (fun i hi e => by omega)
  rw [show (w3.alloc (.cells (Value.cells (.agg (enc32 (List.replicate 64 0)).toArray)) t64)).setRow w3.heap.size (enc32 Sh.K).toArray = w4 from hw4.symm, ← hk4]
  have hx04 : Ext none_ w w4 := ((hx1.trans hx2).trans hx3).trans hx4
  have ho4 := ((hx2.trans hx3).trans hx4).obj ho1 id
  have hh4 := (hx3.trans hx4).obj hh2 id
  refine W.seq ?_
  refine W.reg <| mv rfl rfl <| call (vs := [_]) rfl rfl ok_pad (c_pad (hb.ext0 hx04) hl) ?_
  rintro e w5 ⟨pv, rfl, hp5, hx5⟩
  refine ⟨_, rfl, ?_⟩
  refine asg rfl rfl <| L.nil ?_
  refine N.th ?_
  obtain ⟨hpm, hpl⟩ := Sh.pad_len b
  have hp0 : 64 ≤ (Sh.pad b).length := by
    have : (Sh.pad b).length = b.length + 1 + Sh.zeros b.length + 8 := by simp [Sh.pad, Sh.len8_len]; omega
    omega
  have hsum : Sh.sum b = Sh.dig (Sh.fd (Sh.pad b) ((Sh.pad b).length / 64)) := rfl
  rw [hsum]
  generalize Sh.pad b = p at hh4 hp5 hpm hpl hp0 ⊢
  have ho5 := hx5.obj ho4 id
  have hh5 := hx5.obj hh4 id
  have hk5 := hx5.obj hkk4 id
  obtain ⟨pb, po, pc, rfl, -⟩ := byt_at (j := 0) (Row.own hp5).arg (by omega)
  have rdp : ∀ {wz : World}, Byts w4.heap.size wz (.slice (some ⟨pb, po, none⟩) p.length pc) p → ∀ i, i < p.length → wz.cell? ⟨pb, po + i * 1, none⟩ = some (.int .u8 (p[i]?.getD 0).toNat) := fun hz i hi => by
    obtain ⟨_, _, _, e, h⟩ := byt_at (Row.own hz).arg hi
    cases e
    exact h i hi
  have hb3 : h3 < w5.heap.size := lt_of_obj hh5
  have hws : w.heap.size ≤ w1.heap.size := hx1.size
  have hh3w : ¬ h3 < w.heap.size := by omega
  have hok3 : o ≠ h3 := by have := lt_of_obj ho1; omega
  have hkk3 : k4 ≠ h3 := by have := (hx2.trans hx3).size; have := hx3.size; have := lt_of_obj hh2; omega
  have hx05 : Ext none_ w w5 := hx04.trans hx5
  refine W.seq ?_
  refine W.seq ?_
  refine W.reg <| asg rfl rfl <| L.nil ?_
  refine N.th ?_
  refine W.block ?_
  refine W.loop (X := Nat) (fun j => [(6, .int .i64 ((64 * j : Nat) : Int)), (5, .slice (some ⟨pb, po, none⟩) p.length pc), (4, .pointer (some ⟨k4, 0, none⟩)), (3, .pointer (some ⟨h3, 0, none⟩)), (2, .pointer (some ⟨o, 0, none⟩))])
    (fun j w' => 64 * j ≤ p.length ∧ w'.heap[h3]? = some (.cells (enc32 (Sh.fd p j).l).toArray t8 (0, 0)) ∧ w'.heap[k4]? = some (.cells (enc32 Sh.K).toArray t64 (0, 0)) ∧ w'.heap[o]? = some (.cells (encB (List.replicate 32 0)).toArray t32 (0, 0)) ∧ Byts w4.heap.size w' (.slice (some ⟨pb, po, none⟩) p.length pc) p ∧ Ext none_ w w')
    (fun j => p.length - 64 * j) 0 ⟨rfl, rfl, rfl, rfl, rfl, trivial⟩ ⟨by omega, hh5, hk5, ho5, hp5, hx05⟩ ?_
  rintro j w6 ⟨hj, hh6, hk6, ho6, hp6, hx6⟩
  refine W.seq ?_
  refine W.seq ?_
  refine W.reg <| mv rfl rfl <| mv rfl rfl <| lenV (t := 24) rfl u_bytes rfl <| lssI rfl rfl rfl <| L.nil ?_
  refine N.th ?_
  refine W.cond rfl (fun h => ?_) (fun h => ?_)
  · refine W.skip ?_
    refine N.th ?_
    have hj1 : 64 * j + 64 ≤ p.length := by have := of_decide_eq_true h; omega
    have hfd : Sh.fd p (j + 1) = Sh.turn (Sh.fd p j) (p.drop (64 * j)) := rfl
    generalize Sh.fd p j = s at hh6 hfd
    obtain ⟨bl, hbl⟩ : ∃ bl, bl = p.drop (64 * j) := ⟨_, rfl⟩
    rw [← hbl] at hfd
    have hbyte : ∀ k, Sh.byte bl k = BitVec.ofNat 32 (p[64 * j + k]?.getD 0).toNat := fun k => by rw [hbl]; exact Sh.byte_drop _ _ _
    refine W.seq ?_
    refine W.block ?_
    refine W.seq ?_
    refine W.reg <| new ze_t64 rfl <| L.nil ?_
    refine N.th ?_
    obtain ⟨g, hg⟩ : ∃ g, g = w6.heap.size := ⟨_, rfl⟩
    obtain ⟨w7, hw7⟩ : ∃ w7, w7 = w6.alloc (.cells (enc32 (List.replicate 64 0)).toArray t64) := ⟨_, rfl⟩
    have hg7 : w7.heap[g]? = some (.cells (enc32 (Sh.sch bl 0) ++ enc32 (List.replicate (64 - 0) 0)).toArray t64 (0, 0)) := by rw [hw7, hg]; exact heap_new _ _
    have hx7 : Ext none_ w6 w7 := by rw [hw7]; exact Ext.alloc _ _ _
    rw [show w6.alloc (.cells (Value.cells (.agg (enc32 (List.replicate 64 0)).toArray)) t64) = w7 from hw7.symm, ← hg]
    have hG : ∀ i, i < w6.heap.size → i = g → none_ i := fun i hi e => by omega
    have hset : ∀ {i : Nat} (x : BitVec 32), i < 64 → (enc32 (Sh.sch bl i) ++ enc32 (List.replicate (64 - i) 0)).toArray.setIfInBounds i (V32 x) = (enc32 (Sh.sch bl i ++ [x]) ++ enc32 (List.replicate (64 - (i + 1)) 0)).toArray := fun {i} x hi1 => by
      rw [show 64 - i = (64 - (i + 1)) + 1 by omega]
      conv => lhs; arg 2; rw [← Sh.sch_len bl i]
      exact set32 x
    have hin : ∀ {i : Nat}, i < 64 → ∃ u, (enc32 (Sh.sch bl i) ++ enc32 (List.replicate (64 - i) 0)).toArray[0 + i * 1]? = some u := fun {i} hi => ⟨_, Array.getElem?_eq_getElem (by simp [enc32, Sh.sch_len]; omega)⟩
    have stored : ∀ {wz : World} {i : Nat} (x : BitVec 32), i < 64 → wz.heap[g]? = some (.cells (enc32 (Sh.sch bl i) ++ enc32 (List.replicate (64 - i) 0)).toArray t64 (0, 0)) → Sh.sch bl (i + 1) = Sh.sch bl i ++ [x] →
        (wz.setCell ⟨g, 0 + i * 1, none⟩ (V32 x)).heap[g]? = some (.cells (enc32 (Sh.sch bl (i + 1)) ++ enc32 (List.replicate (64 - (i + 1)) 0)).toArray t64 (0, 0)) := fun {wz i} x hi1 hz hx => by
      rw [setCell_heap hz, hx, ← hset x hi1, Nat.zero_add, Nat.mul_one]
    refine W.seq ?_
    refine W.seq ?_
    refine W.reg <| asg rfl rfl <| L.nil ?_
    refine N.th ?_
    refine W.block ?_
    refine W.loop (X := Nat) (fun i => [(8, .int .i64 i), (7, .pointer (some ⟨g, 0, none⟩)), (6, .int .i64 ((64 * j : Nat) : Int)), (5, .slice (some ⟨pb, po, none⟩) p.length pc), (4, .pointer (some ⟨k4, 0, none⟩)), (3, .pointer (some ⟨h3, 0, none⟩)), (2, .pointer (some ⟨o, 0, none⟩))])
      (fun i w' => i ≤ 16 ∧ w'.heap[g]? = some (.cells (enc32 (Sh.sch bl i) ++ enc32 (List.replicate (64 - i) 0)).toArray t64 (0, 0)) ∧ Ext none_ w6 w') (fun i => 16 - i) 0 ⟨rfl, rfl, rfl, rfl, rfl, rfl, rfl, trivial⟩ ⟨by omega, hg7, hx7⟩ ?_
    rintro i w8 ⟨hi, hg8, hx8⟩
    refine W.seq ?_
    refine W.seq ?_
    refine W.reg <| mv rfl rfl <| lssI rfl rfl rfl <| L.nil ?_
    refine N.th ?_
    refine W.cond rfl (fun h => ?_) (fun h => ?_)
    · refine W.skip ?_
      refine N.th ?_
      have hi1 : i < 16 := by have := of_decide_eq_true h; omega
      have hd : Ext none_ w8 w8.drew := Ext.drew _ _
      obtain ⟨u0, hu0⟩ := hin (i := i) (by omega)
      have rdb : ∀ {wz : World}, Ext none_ w6 wz → ∀ k, 64 * j + k < p.length → wz.cell? ⟨pb, po + (64 * j + k) * 1, none⟩ = some (.int .u8 (p[64 * j + k]?.getD 0).toNat) := fun hz k hk => rdp (own_ext hp6 hz fun _ _ => id) _ hk
      refine W.seq ?_
      refine W.block ?_
      refine W.draw [75] true (fun w' => Ext none_ w6 w') [0, 1, 2, 3, 4, 5, 6, 7, 8, 9, 10, 11, 12, 13, 14, 15, 16, 17, 18, 19, 20, 21, 22, 23, 24, 25, 26, 27, 28, 29, 30, 31, 32, 33, 34, 35, 36, 37, 38, 39, 40, 41, 42, 43] rfl rfl (by kernel_rfl) (hx8.trans hd) ?_   -- held
      refine mv rfl rfl <| mv rfl rfl <| mv rfl rfl <| mv rfl rfl <| mulI (c := ((4 * i : Nat) : Int)) rfl rfl rfl (by rw [w64 (by omega) (by omega)]; omega) <| addI (c := ((64 * j + 4 * i : Nat) : Int)) rfl rfl rfl (by rw [w64 (by omega) (by omega)]; omega) <| ixa rfl rfl u_bytes el_bytes.szB rfl (by omega) (by omega) <| ldK (v := .int .u8 (p[64 * j + 4 * i]?.getD 0).toNat) rfl ag_u8 rfl (fun w' h => rdb h (4 * i) (by omega)) <| b32 rfl u_u32 u_u8 rfl <| shl32 (k := 24) rfl rfl rfl (by omega) <|
        mv rfl rfl <| mv rfl rfl <| mv rfl rfl <| mulI (c := ((4 * i : Nat) : Int)) rfl rfl rfl (by rw [w64 (by omega) (by omega)]; omega) <| addI (c := ((64 * j + 4 * i : Nat) : Int)) rfl rfl rfl (by rw [w64 (by omega) (by omega)]; omega) <| addI (c := ((64 * j + (4 * i + 1) : Nat) : Int)) rfl rfl rfl (by rw [w64 (by omega) (by omega)]; omega) <| ixa rfl rfl u_bytes el_bytes.szB rfl (by omega) (by omega) <| ldK (v := .int .u8 (p[64 * j + (4 * i + 1)]?.getD 0).toNat) rfl ag_u8 rfl (fun w' h => rdb h (4 * i + 1) (by omega)) <| b32 rfl u_u32 u_u8 rfl <| shl32 (k := 16) rfl rfl rfl (by omega) <| or32 rfl rfl rfl <|
        mv rfl rfl <| mv rfl rfl <| mv rfl rfl <| mulI (c := ((4 * i : Nat) : Int)) rfl rfl rfl (by rw [w64 (by omega) (by omega)]; omega) <| addI (c := ((64 * j + 4 * i : Nat) : Int)) rfl rfl rfl (by rw [w64 (by omega) (by omega)]; omega) <| addI (c := ((64 * j + (4 * i + 2) : Nat) : Int)) rfl rfl rfl (by rw [w64 (by omega) (by omega)]; omega) <| ixa rfl rfl u_bytes el_bytes.szB rfl (by omega) (by omega) <| ldK (v := .int .u8 (p[64 * j + (4 * i + 2)]?.getD 0).toNat) rfl ag_u8 rfl (fun w' h => rdb h (4 * i + 2) (by omega)) <| b32 rfl u_u32 u_u8 rfl <| shl32 (k := 8) rfl rfl rfl (by omega) <| or32 rfl rfl rfl <|
        mv rfl rfl <| mv rfl rfl <| mv rfl rfl <| mulI (c := ((4 * i : Nat) : Int)) rfl rfl rfl (by rw [w64 (by omega) (by omega)]; omega) <| addI (c := ((64 * j + 4 * i : Nat) : Int)) rfl rfl rfl (by rw [w64 (by omega) (by omega)]; omega) <| addI (c := ((64 * j + (4 * i + 3) : Nat) : Int)) rfl rfl rfl (by rw [w64 (by omega) (by omega)]; omega) <| ixa rfl rfl u_bytes el_bytes.szB rfl (by omega) (by omega) <| ldK (v := .int .u8 (p[64 * j + (4 * i + 3)]?.getD 0).toNat) rfl ag_u8 rfl (fun w' h => rdb h (4 * i + 3) (by omega)) <| b32 rfl u_u32 u_u8 rfl <| or32 rfl rfl rfl <|
        ixp rfl rfl u_t64 sz_u32 rfl (by omega) (by omega) <| st1 rfl rfl sz_u32 rfl (hd.obj hg8 id) hu0 (hS := .inl ⟨rfl, rfl⟩) <| L.nilH ?_
      refine N.inb ?_
      refine N.th ?_
      refine W.reg <| mv rfl rfl <| addI (c := ((i + 1 : Nat) : Int)) rfl rfl rfl (by rw [w64 (by omega) (by omega)]; simp) <| asg rfl rfl <| L.nil ?_
      refine N.th (N.round (x := i + 1) ⟨rfl, rfl, rfl, rfl, rfl, rfl, rfl, trivial⟩ ⟨by omega, ?_, (hx8.trans hd).trans' (Ext.setCell (S := fun k => k = g) _ (fun _ => rfl) _) hG⟩ (by omega))   -- ROUND
      have hword : Sh.word bl i = (((BitVec.ofNat 32 (p[64 * j + 4 * i]?.getD 0).toNat <<< 24) ||| (BitVec.ofNat 32 (p[64 * j + (4 * i + 1)]?.getD 0).toNat <<< 16)) ||| (BitVec.ofNat 32 (p[64 * j + (4 * i + 2)]?.getD 0).toNat <<< 8)) ||| BitVec.ofNat 32 (p[64 * j + (4 * i + 3)]?.getD 0).toNat := by
        unfold Sh.word
        rw [hbyte, hbyte, hbyte, hbyte]
      rw [← hword]
      refine stored (i := i) (Sh.word bl i) (by omega) (hd.obj hg8 id) ?_
      rw [Sh.sch, if_pos hi1]
    refine W.exit ?_
    refine N.xth ?_
    refine N.xth ?_
    refine N.xeq ?_
    refine N.th ?_
    have hi16 : i = 16 := by have := of_decide_eq_false h; omega
    subst hi16
    refine W.seq ?_
    refine W.seq ?_
    refine W.reg <| asg rfl rfl <| L.nil ?_
    refine N.th ?_
    refine W.block ?_
    refine W.loop (X := Nat) (fun i => [(9, .int .i64 i), (7, .pointer (some ⟨g, 0, none⟩)), (6, .int .i64 ((64 * j : Nat) : Int)), (5, .slice (some ⟨pb, po, none⟩) p.length pc), (4, .pointer (some ⟨k4, 0, none⟩)), (3, .pointer (some ⟨h3, 0, none⟩)), (2, .pointer (some ⟨o, 0, none⟩))])
      (fun i w' => 16 ≤ i ∧ i ≤ 64 ∧ w'.heap[g]? = some (.cells (enc32 (Sh.sch bl i) ++ enc32 (List.replicate (64 - i) 0)).toArray t64 (0, 0)) ∧ Ext none_ w6 w') (fun i => 64 - i) 16 ⟨rfl, rfl, rfl, rfl, rfl, rfl, rfl, trivial⟩ ⟨by omega, by omega, hg8, hx8⟩ ?_
    rintro i w9 ⟨hi', hi, hg9, hx9⟩
    refine W.seq ?_
    refine W.seq ?_
    refine W.reg <| mv rfl rfl <| lssI rfl rfl rfl <| L.nil ?_
    refine N.th ?_
    refine W.cond rfl (fun h => ?_) (fun h => ?_)
    · refine W.skip ?_
      refine N.th ?_
      have hi1 : i < 64 := by have := of_decide_eq_true h; omega
      obtain ⟨u0, hu0⟩ := hin (i := i) hi1
      have rdw : ∀ {wz : World} (k : Nat), k < i → wz.heap[g]? = some (.cells (enc32 (Sh.sch bl i) ++ enc32 (List.replicate (64 - i) 0)).toArray t64 (0, 0)) → wz.cell? ⟨g, 0 + k * 1, none⟩ = some (V32 (Sh.at_ (Sh.sch bl i) k)) := fun k hk hz => by
        rw [Nat.zero_add, Nat.mul_one]
        exact cell_of hz (rd32 (by rw [Sh.sch_len]; exact hk))
      have hd : Ext none_ w9 w9.drew := Ext.drew _ _
      have hgd := hd.obj hg9 id
      refine W.seq ?_
      refine W.block ?_
      refine W.seq ?_
      refine W.draw [] false (fun w' => w'.heap[g]? = some (.cells (enc32 (Sh.sch bl i) ++ enc32 (List.replicate (64 - i) 0)).toArray t64 (0, 0))) [0, 1, 2, 3, 4, 5, 6, 7, 8, 9] rfl rfl (by kernel_rfl) hgd ?_   -- held
      refine mv rfl rfl <| subI (c := ((i - 15 : Nat) : Int)) rfl rfl rfl (by rw [w64 (by omega) (by omega)]; omega) <| ixp rfl rfl u_t64 sz_u32 rfl (by omega) (by omega) <| ldK (v := V32 (Sh.at_ (Sh.sch bl i) (i - 15))) rfl ag_u32 rfl (fun w' h => rdw (i - 15) (by omega) h) <| mv rfl rfl <| subI (c := ((i - 2 : Nat) : Int)) rfl rfl rfl (by rw [w64 (by omega) (by omega)]; omega) <| ixp rfl rfl u_t64 sz_u32 rfl (by omega) (by omega) <| ldK (v := V32 (Sh.at_ (Sh.sch bl i) (i - 2))) rfl ag_u32 rfl (fun w' h => rdw (i - 2) (by omega) h) <| asg rfl rfl <| asg rfl rfl <| L.nilH ?_
      refine N.th ?_
      have hd2 : Ext none_ w9 w9.drew.drew := hd.trans (Ext.drew _ _)
      have hgd2 := hd2.obj hg9 id
      refine W.draw [] true (fun w' => w'.heap[g]? = some (.cells (enc32 (Sh.sch bl i) ++ enc32 (List.replicate (64 - i) 0)).toArray t64 (0, 0))) [0, 1, 2, 3, 4, 5, 7, 10, 11, 14, 15, 16, 17, 19, 21, 24, 25, 6, 8, 9, 12, 13, 18, 20, 22, 23, 26, 27, 28, 29] rfl rfl (by kernel_rfl) hgd2 ?_   -- held
      refine mv rfl rfl <| mv rfl rfl <| subI (c := ((i - 16 : Nat) : Int)) rfl rfl rfl (by rw [w64 (by omega) (by omega)]; omega) <| ixp rfl rfl u_t64 sz_u32 rfl (by omega) (by omega) <| ldK (v := V32 (Sh.at_ (Sh.sch bl i) (i - 16))) rfl ag_u32 rfl (fun w' h => rdw (i - 16) (by omega) h) <| mv rfl rfl <| mv rfl rfl <| mv rfl rfl <| shr32 (k := 3) rfl rfl rfl (by omega) <|
        mv rfl rfl <| subI (c := ((i - 7 : Nat) : Int)) rfl rfl rfl (by rw [w64 (by omega) (by omega)]; omega) <| ixp rfl rfl u_t64 sz_u32 rfl (by omega) (by omega) <| ldK (v := V32 (Sh.at_ (Sh.sch bl i) (i - 7))) rfl ag_u32 rfl (fun w' h => rdw (i - 7) (by omega) h) <| mv rfl rfl <| mv rfl rfl <| mv rfl rfl <| shr32 (k := 10) rfl rfl rfl (by omega) ?_
      refine callH (vs := [_, .int .i64 ((7 : Nat) : Int)]) rfl rfl ok_rturn (c_rturn _ 7 (by omega) (by omega) _) ?_
      rintro e w10 ⟨rfl, hx10⟩
      refine ⟨_, rfl, .inr fun h => hx10.obj h id, ?_⟩
      refine callH (vs := [_, .int .i64 ((18 : Nat) : Int)]) rfl rfl ok_rturn (c_rturn _ 18 (by omega) (by omega) _) ?_
      rintro e w11 ⟨rfl, hx11⟩
      refine ⟨_, rfl, .inr fun h => hx11.obj h id, ?_⟩
      refine xor32 rfl rfl rfl <| xor32 rfl rfl rfl <| add32 rfl rfl rfl <| add32 rfl rfl rfl ?_
      refine callH (vs := [_, .int .i64 ((17 : Nat) : Int)]) rfl rfl ok_rturn (c_rturn _ 17 (by omega) (by omega) _) ?_
      rintro e w12 ⟨rfl, hx12⟩
      refine ⟨_, rfl, .inr fun h => hx12.obj h id, ?_⟩
      refine callH (vs := [_, .int .i64 ((19 : Nat) : Int)]) rfl rfl ok_rturn (c_rturn _ 19 (by omega) (by omega) _) ?_
      rintro e w13 ⟨rfl, hx13⟩
      refine ⟨_, rfl, .inr fun h => hx13.obj h id, ?_⟩
      have hx913 : Ext none_ w9 w13 := (((hd2.trans hx10).trans hx11).trans hx12).trans hx13
      have hg13 := hx913.obj hg9 id
      refine xor32 rfl rfl rfl <| xor32 rfl rfl rfl <| add32 rfl rfl rfl <| ixp rfl rfl u_t64 sz_u32 rfl (by omega) (by omega) <| st1 rfl rfl sz_u32 rfl hg13 hu0 (hS := .inl ⟨rfl, rfl⟩) <| L.nilH ?_
      refine N.inb ?_
      refine N.th ?_
      refine W.reg <| mv rfl rfl <| addI (c := ((i + 1 : Nat) : Int)) rfl rfl rfl (by rw [w64 (by omega) (by omega)]; simp) <| asg rfl rfl <| L.nil ?_
      refine N.th (N.round (x := i + 1) ⟨rfl, rfl, rfl, rfl, rfl, rfl, rfl, trivial⟩ ⟨by omega, by omega, ?_, (hx9.trans hx913).trans' (Ext.setCell (S := fun k => k = g) _ (fun _ => rfl) _) hG⟩ (by omega))   -- ROUND
      refine stored (i := i) (Sh.nw (Sh.sch bl i) i) hi1 hg13 ?_
      rw [Sh.sch, if_neg (by omega)]
    refine W.exit ?_
    refine N.xth ?_
    refine N.xth ?_
    refine N.xeq ?_
    refine N.th ?_
    have hi64 : i = 64 := by have := of_decide_eq_false h; omega
    subst hi64
    clear hset hin stored
    have hh9 := hx9.obj hh6 id
    have hd9 : Ext none_ w9 w9.drew := Ext.drew _ _
    refine W.seq ?_
    refine W.draw [] false (fun w' => w'.heap[h3]? = some (.cells (enc32 s.l).toArray t8 (0, 0))) [0, 1, 2, 3, 4, 5, 6, 7, 8, 9, 10, 11, 12, 13, 14, 15, 16, 17, 18, 19, 20, 21, 22, 23] rfl rfl (by kernel_rfl) (hd9.obj hh9 id) ?_   -- held
    refine ixp rfl rfl u_t8 sz_u32 rfl (by omega) (by omega) <| ldK (v := V32 s.a) rfl ag_u32 rfl (fun w' h => cell_of h rfl) <| ixp rfl rfl u_t8 sz_u32 rfl (by omega) (by omega) <| ldK (v := V32 s.b) rfl ag_u32 rfl (fun w' h => cell_of h rfl) <| ixp rfl rfl u_t8 sz_u32 rfl (by omega) (by omega) <| ldK (v := V32 s.c) rfl ag_u32 rfl (fun w' h => cell_of h rfl) <| ixp rfl rfl u_t8 sz_u32 rfl (by omega) (by omega) <| ldK (v := V32 s.d) rfl ag_u32 rfl (fun w' h => cell_of h rfl) <|
      ixp rfl rfl u_t8 sz_u32 rfl (by omega) (by omega) <| ldK (v := V32 s.e) rfl ag_u32 rfl (fun w' h => cell_of h rfl) <| ixp rfl rfl u_t8 sz_u32 rfl (by omega) (by omega) <| ldK (v := V32 s.f) rfl ag_u32 rfl (fun w' h => cell_of h rfl) <| ixp rfl rfl u_t8 sz_u32 rfl (by omega) (by omega) <| ldK (v := V32 s.g) rfl ag_u32 rfl (fun w' h => cell_of h rfl) <| ixp rfl rfl u_t8 sz_u32 rfl (by omega) (by omega) <| ldK (v := V32 s.h) rfl ag_u32 rfl (fun w' h => cell_of h rfl) <|
      asg rfl rfl <| asg rfl rfl <| asg rfl rfl <| asg rfl rfl <| asg rfl rfl <| asg rfl rfl <| asg rfl rfl <| asg rfl rfl <| L.nilH ?_
    refine N.th ?_
    refine W.seq ?_
    refine W.seq ?_
    refine W.reg <| asg rfl rfl <| L.nil ?_
    refine N.th ?_
    refine W.block ?_
    refine W.loop (X := Nat) (fun i => [(20, .int .i64 i), (12, V32 (Sh.rounds bl s i).a), (13, V32 (Sh.rounds bl s i).b), (14, V32 (Sh.rounds bl s i).c), (15, V32 (Sh.rounds bl s i).d), (16, V32 (Sh.rounds bl s i).e), (17, V32 (Sh.rounds bl s i).f), (18, V32 (Sh.rounds bl s i).g), (19, V32 (Sh.rounds bl s i).h),
        (7, .pointer (some ⟨g, 0, none⟩)), (6, .int .i64 ((64 * j : Nat) : Int)), (5, .slice (some ⟨pb, po, none⟩) p.length pc), (4, .pointer (some ⟨k4, 0, none⟩)), (3, .pointer (some ⟨h3, 0, none⟩)), (2, .pointer (some ⟨o, 0, none⟩))])
      (fun i w' => i ≤ 64 ∧ Ext none_ w9 w') (fun i => 64 - i) 0 ⟨rfl, rfl, rfl, rfl, rfl, rfl, rfl, rfl, rfl, rfl, rfl, rfl, rfl, rfl, rfl, trivial⟩ ⟨by omega, hd9⟩ ?_
    rintro i w10 ⟨hi2, hx10⟩
    refine W.seq ?_
    refine W.seq ?_
    refine W.reg <| mv rfl rfl <| lssI rfl rfl rfl <| L.nil ?_
    refine N.th ?_
    refine W.cond rfl (fun h => ?_) (fun h => ?_)
    · refine W.skip ?_
      refine N.th ?_
      have hi1 : i < 64 := by have := of_decide_eq_true h; omega
      have hstep : Sh.rounds bl s (i + 1) = Sh.step (Sh.rounds bl s i) (Sh.at_ Sh.K i) (Sh.at_ (Sh.sch bl 64) i) := rfl
      generalize Sh.rounds bl s i = r at hstep ⊢
      have hk9 := hx9.obj hk6 id
      have rdw : ∀ {wz : World}, Ext none_ w9 wz → wz.cell? ⟨g, 0 + i * 1, none⟩ = some (V32 (Sh.at_ (Sh.sch bl 64) i)) := fun hz => by
        rw [Nat.zero_add, Nat.mul_one]
        exact cell_of (hz.obj hg9 id) (rd32 (by rw [Sh.sch_len]; exact hi1))
      have rdk : ∀ {wz : World}, Ext none_ w9 wz → wz.cell? ⟨k4, 0 + i * 1, none⟩ = some (V32 (Sh.at_ Sh.K i)) := fun hz => by
        rw [Nat.zero_add, Nat.mul_one]
        refine cell_of (hz.obj hk9 id) ?_
        rw [List.getElem?_toArray]
        have : Sh.K[i]? = some (Sh.at_ Sh.K i) := by unfold Sh.at_; rw [List.getElem?_eq_getElem (by rw [Sh.K_len]; exact hi1)]; rfl
        exact enc32_get this
      have hd : Ext none_ w10 w10.drew := Ext.drew _ _
      refine W.seq ?_
      refine W.block ?_
      refine W.seq ?_
      refine W.draw [] false (fun w' => Ext none_ w9 w') [0, 1, 3, 6, 10, 11, 12, 13, 14, 15, 16, 17, 19, 20, 21, 23, 24, 25, 2, 4, 5, 7, 8, 9, 18, 22, 26, 27] rfl rfl (by kernel_rfl) (hx10.trans hd) ?_   -- held
      refine mv rfl rfl <| mv rfl rfl <| mv rfl rfl <| mv rfl rfl <| mv rfl rfl <| mv rfl rfl <| and32 rfl rfl rfl <| mv rfl rfl <| not32 rfl rfl <| mv rfl rfl <| and32 rfl rfl rfl <| xor32 rfl rfl rfl <| mv rfl rfl <| ixp rfl rfl u_t64 sz_u32 rfl (by omega) (by omega) <| ldK (v := V32 (Sh.at_ Sh.K i)) rfl ag_u32 rfl (fun w' h => rdk h) <| mv rfl rfl <| ixp rfl rfl u_t64 sz_u32 rfl (by omega) (by omega) <| ldK (v := V32 (Sh.at_ (Sh.sch bl 64) i)) rfl ag_u32 rfl (fun w' h => rdw h) ?_
      refine callH (vs := [_, .int .i64 ((6 : Nat) : Int)]) rfl rfl ok_rturn (c_rturn _ 6 (by omega) (by omega) _) ?_
      rintro e w11 ⟨rfl, hx11⟩
      refine ⟨_, rfl, .inr fun h => h.trans hx11, ?_⟩
      refine callH (vs := [_, .int .i64 ((11 : Nat) : Int)]) rfl rfl ok_rturn (c_rturn _ 11 (by omega) (by omega) _) ?_
      rintro e w12 ⟨rfl, hx12⟩
      refine ⟨_, rfl, .inr fun h => h.trans hx12, ?_⟩
      refine xor32 rfl rfl rfl ?_
      refine callH (vs := [_, .int .i64 ((25 : Nat) : Int)]) rfl rfl ok_rturn (c_rturn _ 25 (by omega) (by omega) _) ?_
      rintro e w13 ⟨rfl, hx13⟩
      refine ⟨_, rfl, .inr fun h => h.trans hx13, ?_⟩
      refine xor32 rfl rfl rfl <| add32 rfl rfl rfl <| add32 rfl rfl rfl <| add32 rfl rfl rfl <| add32 rfl rfl rfl <| asg rfl rfl <| L.nilH ?_
      refine N.th ?_
      refine W.seq ?_
      refine W.reg <| mv rfl rfl <| call (vs := [_, .int .i64 ((2 : Nat) : Int)]) rfl rfl ok_rturn (c_rturn _ 2 (by omega) (by omega) _) ?_
      rintro e w14 ⟨rfl, hx14⟩
      refine ⟨_, rfl, ?_⟩
      refine mv rfl rfl <| call (vs := [_, .int .i64 ((13 : Nat) : Int)]) rfl rfl ok_rturn (c_rturn _ 13 (by omega) (by omega) _) ?_
      rintro e w15 ⟨rfl, hx15⟩
      refine ⟨_, rfl, ?_⟩
      refine xor32 rfl rfl rfl <| mv rfl rfl <| call (vs := [_, .int .i64 ((22 : Nat) : Int)]) rfl rfl ok_rturn (c_rturn _ 22 (by omega) (by omega) _) ?_
      rintro e w16 ⟨rfl, hx16⟩
      refine ⟨_, rfl, ?_⟩
      refine xor32 rfl rfl rfl <| mv rfl rfl <| mv rfl rfl <| and32 rfl rfl rfl <| mv rfl rfl <| mv rfl rfl <| and32 rfl rfl rfl <| xor32 rfl rfl rfl <| mv rfl rfl <| mv rfl rfl <| and32 rfl rfl rfl <| xor32 rfl rfl rfl <| add32 rfl rfl rfl <| asg rfl rfl <| L.nil ?_
      refine N.th ?_
      refine W.reg <| mv rfl rfl <| mv rfl rfl <| add32 rfl rfl rfl <| mv rfl rfl <| mv rfl rfl <| mv rfl rfl <| mv rfl rfl <| mv rfl rfl <| add32 rfl rfl rfl <| mv rfl rfl <| mv rfl rfl <| mv rfl rfl <| asg rfl rfl <| asg rfl rfl <| asg rfl rfl <| asg rfl rfl <| asg rfl rfl <| asg rfl rfl <| asg rfl rfl <| asg rfl rfl <| L.nil ?_
      refine N.inb ?_
      refine N.th ?_
      refine W.reg <| mv rfl rfl <| addI (c := ((i + 1 : Nat) : Int)) rfl rfl rfl (by rw [w64 (by omega) (by omega)]; simp) <| asg rfl rfl <| L.nil ?_
      refine N.th (N.round (x := i + 1) ?_ ⟨by omega, (((((hx10.trans hd).trans hx11).trans hx12).trans hx13).trans hx14).trans (hx15.trans hx16)⟩ (by omega))   -- ROUND
      rw [hstep]
      exact ⟨rfl, rfl, rfl, rfl, rfl, rfl, rfl, rfl, rfl, rfl, rfl, rfl, rfl, rfl, rfl, trivial⟩
    refine W.exit ?_
    refine N.xth ?_
    refine N.xth ?_
    refine N.xeq ?_
    refine N.th ?_
    have hi64 : i = 64 := by have := of_decide_eq_false h; omega
    subst hi64
    have hturn : Sh.turn s bl = s.add (Sh.rounds bl s 64) := rfl
    generalize Sh.rounds bl s 64 = r at hturn ⊢
    have hx610 := hx9.trans hx10
    have hh10 := hx610.obj hh6 id
    have hx10h : Ext (fun k => k = h3) w6 w10 := hx610.none
    have hh10' : w10.heap[h3]? = some (.cells (enc32 [s.a, s.b, s.c, s.d, s.e, s.f, s.g, s.h]).toArray t8 (0, 0)) := hh10
    refine W.seq ?_
    refine W.reg <| ixp rfl rfl u_t8 sz_u32 rfl (by omega) (by omega) <| ld1 (v := V32 s.a) rfl ag_u32 rfl (cell_of hh10' rfl) <| mv rfl rfl <| add32 rfl rfl rfl <| ixp rfl rfl u_t8 sz_u32 rfl (by omega) (by omega) <| ld1 (v := V32 s.b) rfl ag_u32 rfl (cell_of hh10' rfl) <| mv rfl rfl <| add32 rfl rfl rfl <| ixp rfl rfl u_t8 sz_u32 rfl (by omega) (by omega) <| ld1 (v := V32 s.c) rfl ag_u32 rfl (cell_of hh10' rfl) <| mv rfl rfl <| add32 rfl rfl rfl <| ixp rfl rfl u_t8 sz_u32 rfl (by omega) (by omega) <| ld1 (v := V32 s.d) rfl ag_u32 rfl (cell_of hh10' rfl) <| mv rfl rfl <| add32 rfl rfl rfl ?_
    refine ixp rfl rfl u_t8 sz_u32 rfl (by omega) (by omega) <| st1 rfl rfl sz_u32 rfl hh10' rfl ?_
    generalize hwe1 : World.setCell _ _ _ = we1
    have hhe1 : we1.heap[h3]? = some (.cells (enc32 [s.a + r.a, s.b, s.c, s.d, s.e, s.f, s.g, s.h]).toArray t8 (0, 0)) := by rw [← hwe1]; exact st8 (i := 0) hh10' rfl
    have hxe1 : Ext (fun k => k = h3) w6 we1 := by rw [← hwe1]; exact hx10h.trans (Ext.setCell (S := fun k => k = h3) _ (fun _ => rfl) _)
    refine ixp rfl rfl u_t8 sz_u32 rfl (by omega) (by omega) <| st1 rfl rfl sz_u32 rfl hhe1 rfl ?_
    generalize hwe2 : World.setCell _ _ _ = we2
    have hhe2 : we2.heap[h3]? = some (.cells (enc32 [s.a + r.a, s.b + r.b, s.c, s.d, s.e, s.f, s.g, s.h]).toArray t8 (0, 0)) := by rw [← hwe2]; exact st8 (i := 1) hhe1 rfl
    have hxe2 : Ext (fun k => k = h3) w6 we2 := by rw [← hwe2]; exact hxe1.trans (Ext.setCell (S := fun k => k = h3) _ (fun _ => rfl) _)
    refine ixp rfl rfl u_t8 sz_u32 rfl (by omega) (by omega) <| st1 rfl rfl sz_u32 rfl hhe2 rfl ?_
    generalize hwe3 : World.setCell _ _ _ = we3
    have hhe3 : we3.heap[h3]? = some (.cells (enc32 [s.a + r.a, s.b + r.b, s.c + r.c, s.d, s.e, s.f, s.g, s.h]).toArray t8 (0, 0)) := by rw [← hwe3]; exact st8 (i := 2) hhe2 rfl
    have hxe3 : Ext (fun k => k = h3) w6 we3 := by rw [← hwe3]; exact hxe2.trans (Ext.setCell (S := fun k => k = h3) _ (fun _ => rfl) _)
    refine ixp rfl rfl u_t8 sz_u32 rfl (by omega) (by omega) <| st1 rfl rfl sz_u32 rfl hhe3 rfl ?_
    generalize hwe4 : World.setCell _ _ _ = we4
    have hhe4 : we4.heap[h3]? = some (.cells (enc32 [s.a + r.a, s.b + r.b, s.c + r.c, s.d + r.d, s.e, s.f, s.g, s.h]).toArray t8 (0, 0)) := by rw [← hwe4]; exact st8 (i := 3) hhe3 rfl
    have hxe4 : Ext (fun k => k = h3) w6 we4 := by rw [← hwe4]; exact hxe3.trans (Ext.setCell (S := fun k => k = h3) _ (fun _ => rfl) _)
    refine L.nil ?_
    refine N.th ?_
    refine W.reg <| ixp rfl rfl u_t8 sz_u32 rfl (by omega) (by omega) <| ld1 (v := V32 s.e) rfl ag_u32 rfl (cell_of hhe4 rfl) <| mv rfl rfl <| add32 rfl rfl rfl <| ixp rfl rfl u_t8 sz_u32 rfl (by omega) (by omega) <| ld1 (v := V32 s.f) rfl ag_u32 rfl (cell_of hhe4 rfl) <| mv rfl rfl <| add32 rfl rfl rfl <| ixp rfl rfl u_t8 sz_u32 rfl (by omega) (by omega) <| ld1 (v := V32 s.g) rfl ag_u32 rfl (cell_of hhe4 rfl) <| mv rfl rfl <| add32 rfl rfl rfl <| ixp rfl rfl u_t8 sz_u32 rfl (by omega) (by omega) <| ld1 (v := V32 s.h) rfl ag_u32 rfl (cell_of hhe4 rfl) <| mv rfl rfl <| add32 rfl rfl rfl ?_
    refine ixp rfl rfl u_t8 sz_u32 rfl (by omega) (by omega) <| st1 rfl rfl sz_u32 rfl hhe4 rfl ?_
    generalize hwe5 : World.setCell _ _ _ = we5
    have hhe5 : we5.heap[h3]? = some (.cells (enc32 [s.a + r.a, s.b + r.b, s.c + r.c, s.d + r.d, s.e + r.e, s.f, s.g, s.h]).toArray t8 (0, 0)) := by rw [← hwe5]; exact st8 (i := 4) hhe4 rfl
    have hxe5 : Ext (fun k => k = h3) w6 we5 := by rw [← hwe5]; exact hxe4.trans (Ext.setCell (S := fun k => k = h3) _ (fun _ => rfl) _)
    refine ixp rfl rfl u_t8 sz_u32 rfl (by omega) (by omega) <| st1 rfl rfl sz_u32 rfl hhe5 rfl ?_
    generalize hwe6 : World.setCell _ _ _ = we6
    have hhe6 : we6.heap[h3]? = some (.cells (enc32 [s.a + r.a, s.b + r.b, s.c + r.c, s.d + r.d, s.e + r.e, s.f + r.f, s.g, s.h]).toArray t8 (0, 0)) := by rw [← hwe6]; exact st8 (i := 5) hhe5 rfl
    have hxe6 : Ext (fun k => k = h3) w6 we6 := by rw [← hwe6]; exact hxe5.trans (Ext.setCell (S := fun k => k = h3) _ (fun _ => rfl) _)
    refine ixp rfl rfl u_t8 sz_u32 rfl (by omega) (by omega) <| st1 rfl rfl sz_u32 rfl hhe6 rfl ?_
    generalize hwe7 : World.setCell _ _ _ = we7
    have hhe7 : we7.heap[h3]? = some (.cells (enc32 [s.a + r.a, s.b + r.b, s.c + r.c, s.d + r.d, s.e + r.e, s.f + r.f, s.g + r.g, s.h]).toArray t8 (0, 0)) := by rw [← hwe7]; exact st8 (i := 6) hhe6 rfl
    have hxe7 : Ext (fun k => k = h3) w6 we7 := by rw [← hwe7]; exact hxe6.trans (Ext.setCell (S := fun k => k = h3) _ (fun _ => rfl) _)
    refine ixp rfl rfl u_t8 sz_u32 rfl (by omega) (by omega) <| st1 rfl rfl sz_u32 rfl hhe7 rfl ?_
    generalize hwe8 : World.setCell _ _ _ = we8
    have hhe8 : we8.heap[h3]? = some (.cells (enc32 [s.a + r.a, s.b + r.b, s.c + r.c, s.d + r.d, s.e + r.e, s.f + r.f, s.g + r.g, s.h + r.h]).toArray t8 (0, 0)) := by rw [← hwe8]; exact st8 (i := 7) hhe7 rfl
    have hxe8 : Ext (fun k => k = h3) w6 we8 := by rw [← hwe8]; exact hxe7.trans (Ext.setCell (S := fun k => k = h3) _ (fun _ => rfl) _)
    refine L.nil ?_
    refine N.inb ?_
    refine N.th ?_
    refine W.reg <| mv rfl rfl <| addI (c := ((64 * (j + 1) : Nat) : Int)) rfl rfl rfl (by rw [w64 (by omega) (by omega)]; omega) <| asg rfl rfl <| L.nil ?_
    refine N.th (N.round (x := j + 1) ⟨rfl, rfl, rfl, rfl, rfl, trivial⟩ ⟨by omega, ?_, hxe8.obj hk6 hkk3, hxe8.obj ho6 hok3, own_ext hp6 hxe8 (fun k hk e => ?_), hx6.trans' hxe8 (fun i hi e => by omega)⟩ (by omega))   -- ROUND
    · rw [hfd, hturn]
      exact hhe8
    · subst e
      obtain ⟨ck, fk, hk⟩ := own_kind hp6 _ hk
      rw [hh6] at hk; cases hk
  refine W.exit ?_
  refine N.xth ?_
  refine N.xth ?_
  refine N.xeq ?_
  refine N.th ?_
  have hjl : p.length / 64 = j := by have := of_decide_eq_false h; omega
  rw [hjl]
  generalize Sh.fd p j = s at hh6 ⊢
  refine W.seq ?_
  refine W.reg <| new ze_t32 rfl <| L.nil ?_
  refine N.th ?_
  obtain ⟨q, hq⟩ : ∃ q, q = w6.heap.size := ⟨_, rfl⟩
  obtain ⟨w7, hw7⟩ : ∃ w7, w7 = w6.alloc (.cells (encB (List.replicate 32 0)).toArray t32) := ⟨_, rfl⟩
  have hq7 : w7.heap[q]? = some (.cells (encB ((Sh.dig s).take 0) ++ encB (List.replicate (32 - 0) 0)).toArray t32 (0, 0)) := by rw [hw7, hq]; exact heap_new _ _
  have hx7 : Ext none_ w6 w7 := by rw [hw7]; exact Ext.alloc _ _ _
  rw [show w6.alloc (.cells (Value.cells (.agg (encB (List.replicate 32 0)).toArray)) t32) = w7 from hw7.symm, ← hq]
  have hQ : ∀ i, i < w6.heap.size → i = q → none_ i := fun i hi e => by omega
  refine W.seq ?_
  refine W.seq ?_
  refine W.reg <| asg rfl rfl <| L.nil ?_
  refine N.th ?_
  refine W.block ?_
  refine W.loop (X := Nat) (fun i => [(24, .int .i64 i), (23, .pointer (some ⟨q, 0, none⟩)), (3, .pointer (some ⟨h3, 0, none⟩)), (2, .pointer (some ⟨o, 0, none⟩))])
    (fun i w' => i ≤ 32 ∧ w'.heap[q]? = some (.cells (encB ((Sh.dig s).take i) ++ encB (List.replicate (32 - i) 0)).toArray t32 (0, 0)) ∧ Ext none_ w6 w') (fun i => 32 - i) 0 ⟨rfl, rfl, rfl, rfl, trivial⟩ ⟨by omega, hq7, hx7⟩ ?_
  rintro i w8 ⟨hi, hq8, hx8⟩
  refine W.seq ?_
  refine W.seq ?_
  refine W.reg <| mv rfl rfl <| lssI rfl rfl rfl <| L.nil ?_
  refine N.th ?_
  refine W.cond rfl (fun h => ?_) (fun h => ?_)
  · refine W.skip ?_
    refine N.th ?_
    have hi1 : i < 32 := by have := of_decide_eq_true h; omega
    have hh8 := hx8.obj hh6 id
    obtain ⟨y, hy⟩ : ∃ y : UInt8, y = UInt8.ofNat ((Sh.at_ s.l (i / 4)) >>> (24 - 8 * (i % 4))).toNat := ⟨_, rfl⟩
    have hget : (Sh.dig s)[i]? = some y := by rw [hy]; simp [Sh.dig, hi1]
    obtain ⟨u0, hu0⟩ : ∃ u, (encB ((Sh.dig s).take i) ++ encB (List.replicate (32 - i) 0)).toArray[0 + i * 1]? = some u := ⟨_, Array.getElem?_eq_getElem (by simp [encB, Sh.dig_len]; omega)⟩
    refine W.seq ?_
    refine W.block ?_
    refine W.reg <| mv rfl rfl <| mv rfl rfl <| quoI (c := ((i / 4 : Nat) : Int)) rfl rfl rfl (by decide) (by rw [show ((i : Int).tdiv 4) = ((i / 4 : Nat) : Int) from rfl]; exact w64 (by omega) (by omega)) <| ixp rfl rfl u_t8 sz_u32 rfl (by omega) (by omega) <| ld1 (v := V32 (Sh.at_ s.l (i / 4))) rfl ag_u32 rfl (cell_of hh8 (l_get s (by omega))) <| mv rfl rfl <| remI (c := ((i % 4 : Nat) : Int)) rfl rfl rfl (by decide) rfl <| mulI (c := ((8 * (i % 4) : Nat) : Int)) rfl rfl rfl (by rw [w64 (by omega) (by omega)]; omega) <| subI (c := ((24 - 8 * (i % 4) : Nat) : Int)) rfl rfl rfl (by rw [w64 (by omega) (by omega)]; omega) <| shr32 (k := 24 - 8 * (i % 4)) rfl rfl rfl (by omega) <| b8 rfl u_u8 u_u32 rfl <|
      ixp rfl rfl u_t32 el_bytes.szB rfl (by omega) (by omega) <| st1 rfl rfl sz_u8 rfl hq8 hu0 <| L.nil ?_
    refine N.inb ?_
    refine N.th ?_
    refine W.reg <| mv rfl rfl <| addI (c := ((i + 1 : Nat) : Int)) rfl rfl rfl (by rw [w64 (by omega) (by omega)]; simp) <| asg rfl rfl <| L.nil ?_
    refine N.th (N.round (x := i + 1) ⟨rfl, rfl, rfl, rfl, trivial⟩ ⟨by omega, ?_, hx8.trans' (Ext.setCell (S := fun k => k = q) _ (fun _ => rfl) _) hQ⟩ (by omega))   -- ROUND
    rw [← hy, setCell_heap hq8, ← setB (Sh.dig_len s) hi1 hget]
    have : 0 + ((i : Nat) : Int).toNat * 1 = i := by omega
    rw [this]
  · refine W.exit ?_
    refine N.xth ?_
    refine N.xth ?_
    refine N.xeq ?_
    refine N.th ?_
    have hi32 : i = 32 := by have := of_decide_eq_false h; omega
    subst hi32
    have hq9 : w8.heap[q]? = some (.cells (encB (Sh.dig s)).toArray t32 (0, 0)) := by
      rw [hq8, List.take_of_length_le (by rw [Sh.dig_len]; exact Nat.le_refl _)]
      simp [encB]
    have hlen : (encB (Sh.dig s)).length = 32 := by simp [encB, Sh.dig_len]
    refine W.seq ?_
    refine W.reg <| ldk (cs := encB (Sh.dig s)) rfl ag_t32 sz_t32 rfl hlen (row_cells hq9) <| stR (cells := (encB (Sh.dig s)).toArray) rfl rfl (by rw [sz_t32]; simp [hlen]) (oneB _) (hx8.obj ho6 id) (by simp [encB, Sh.dig_len]) <| L.nil ?_
    refine N.th ?_
    refine W.ret ?_
    refine N.retC (cs := encB (Sh.dig s)) rfl rfl ag_t32 (by rw [sz_t32, hlen]) (row_cells (setRow_heap _ _ _ _ _ _ (hx8.obj ho6 id))) ?_
    exact ⟨rfl, (hx6.trans hx8).trans' (Ext.setRow (S := fun k => k = o) _ (fun _ => rfl) _) (fun i hi e => by omega)⟩
end Go.Proofs.YtmdpmpdlkaogdaaDoor

namespace Go.Proofs.YtmdpmpdlkaogdaaDoor
namespace Sh
def fdl (s : St) (l : List UInt8) : Nat → St
  | 0 => s
  | n + 1 => turn (fdl s l n) (l.drop (64 * n))
/-- What does not fill a block. -/
def rest (b : List UInt8) : List UInt8 := b.drop (64 * (b.length / 64))
theorem rest_len (b : List UInt8) : (rest b).length = b.length % 64 := by unfold rest; rw [List.length_drop]; omega
def stop (k : Nat) : Nat := if 64 < k + 9 then 128 else 64
/-- The last blocks. -/
def last (b : List UInt8) (i : Nat) : List UInt8 := rest b ++ [128] ++ List.replicate (stop (rest b).length - (rest b).length - 9) 0 ++ (len8 (8 * b.length)).take i ++ List.replicate (136 - stop (rest b).length - i) 0
theorem fd_eq (p q : List UInt8) : ∀ m, (∀ i, i < 64 * m → p[i]? = q[i]?) → fd p m = fd q m := by
  intro m
  induction m with
  | zero => intro _; rfl
  | succ m ih =>
    intro h
    rw [fd, fd, ih fun i hi => h i (by omega)]
    refine turn_take _ _ _ fun i hi => ?_
    rw [List.getElem?_drop, List.getElem?_drop]
    exact h _ (by omega)
theorem fd_add (p l : List UInt8) (m : Nat) (h : ∀ i, p[64 * m + i]? = l[i]? ∨ l.length ≤ i) : ∀ n, 64 * n ≤ l.length → fd p (m + n) = fdl (fd p m) l n := by
  intro n
  induction n with
  | zero => intro _; rfl
  | succ n ih =>
    intro hn
    rw [← Nat.add_assoc, fd, fdl, ih (by omega)]
    refine turn_take _ _ _ fun i hi => ?_
    rw [List.getElem?_drop, List.getElem?_drop]
    rcases h (64 * n + i) with e | e
    · rw [← e]; congr 1; omega
    · omega
theorem fdl_eq (s : St) (l k : List UInt8) : ∀ n, (∀ i, i < 64 * n → l[i]? = k[i]?) → fdl s l n = fdl s k n := by
  intro n
  induction n with
  | zero => intro _; rfl
  | succ n ih =>
    intro h
    rw [fdl, fdl, ih fun i hi => h i (by omega)]
    refine turn_take _ _ _ fun i hi => ?_
    rw [List.getElem?_drop, List.getElem?_drop]
    exact h _ (by omega)
theorem sum_eq (b : List UInt8) : sum b = dig (fdl (fd b (b.length / 64)) (last b 8) (stop (rest b).length / 64)) := by
  have hr := rest_len b
  have hsp : b = b.take (64 * (b.length / 64)) ++ rest b := (List.take_append_drop _ _).symm
  have hz : zeros b.length = stop (rest b).length - (rest b).length - 9 := by
    rw [hr]; unfold zeros stop; split <;> omega
  have hst : stop (rest b).length = 64 ∨ stop (rest b).length = 128 := by unfold stop; split <;> simp
  obtain ⟨l, hl⟩ : ∃ l, l = rest b ++ [128] ++ List.replicate (zeros b.length) 0 ++ len8 (8 * b.length) := ⟨_, rfl⟩
  have hpad : pad b = b.take (64 * (b.length / 64)) ++ l := by
    have e : pad b = b ++ ([128] ++ List.replicate (zeros b.length) 0 ++ len8 (8 * b.length)) := by simp [pad]
    rw [e, hl]
    conv => lhs; arg 1; rw [hsp]
    simp only [List.append_assoc]
  have hll : l.length = stop (rest b).length := by
    rw [hl]
    simp only [List.length_append, List.length_cons, List.length_nil, List.length_replicate, len8_len]
    rw [hz]
    have : (rest b).length + 9 ≤ stop (rest b).length := by rw [hr]; unfold stop; split <;> omega
    omega
  have htl : (b.take (64 * (b.length / 64))).length = 64 * (b.length / 64) := by rw [List.length_take]; omega
  have hpl : (pad b).length / 64 = b.length / 64 + stop (rest b).length / 64 := by
    rw [hpad, List.length_append, htl, hll]
    rcases hst with e | e <;> rw [e] <;> omega
  have h1 : fd (pad b) (b.length / 64) = fd b (b.length / 64) := fd_eq _ _ _ fun i hi => by
    rw [hpad, List.getElem?_append_left (by omega), List.getElem?_take, if_pos hi]
  unfold sum
  rw [hpl, fd_add (pad b) l (b.length / 64) (fun i => .inl (by rw [hpad, List.getElem?_append_right (by omega), htl]; congr 1; omega)) _ (by rw [hll]; rcases hst with e | e <;> rw [e] <;> omega), h1]
  congr 1
  refine fdl_eq _ _ _ _ fun i hi => ?_
  have hil : i < l.length := by rw [hll]; rcases hst with e | e <;> rw [e] at hi ⊢ <;> omega
  have hlast : last b 8 = l ++ List.replicate (136 - stop (rest b).length - 8) 0 := by
    unfold last
    rw [hl, hz, List.take_of_length_le (by rw [len8_len]; exact Nat.le_refl _)]
  rw [hlast, List.getElem?_append_left hil]
end Sh
end Go.Proofs.YtmdpmpdlkaogdaaDoor
