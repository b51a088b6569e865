/- Plain laws of trees: what a tree always is, is kept. No Go here. -/
import Derived.Test.YtmdpmpdlkaogdaaGreatDoorLp
import Derived.Test.YtmdpmpdlkaogdaaGreatDoorLn
namespace Go.Proofs.YtmdpmpdlkaogdaaGreatDoor
namespace Tr
open Sp (Cl)

theorem par_in : ∀ (n : Nat) {d e : Bytes}, Cl d → e ∈ par n d → e ≠ [] ∧ Cl e ∧ Sp.within d e = true := by
  intro n
  induction n with
  | zero => intro d e _ h; cases h
  | succ n ih =>
    intro d e hd h
    rw [par_succ] at h
    by_cases h0 : d = []
    · rw [if_pos h0] at h; cases h
    · rw [if_neg h0] at h
      rcases List.mem_cons.1 h with rfl | h
      · exact ⟨h0, hd, Sp.within_refl _⟩
      · obtain ⟨a, b, c⟩ := ih hd.up h
        exact ⟨a, b, Sp.within_trans hd hd.up b (Sp.within_parent hd) c⟩
theorem within_nil {e : Bytes} (h : Sp.within [] e = true) : e = [] := by
  unfold Sp.within at h
  simp only [Bool.or_eq_true, beq_iff_eq] at h
  rcases h with (h | h) | h
  · exact h
  · exact h.symm
  · simp at h
theorem par_all : ∀ (n : Nat) {d e : Bytes}, d.length ≤ n → Cl d → Cl e → e ≠ [] → Sp.within d e = true → e ∈ par n d := by
  intro n
  induction n with
  | zero =>
    intro d e hl hd he h0 h
    have : d = [] := List.eq_nil_of_length_eq_zero (by omega)
    subst this
    exact absurd (within_nil h) h0
  | succ n ih =>
    intro d e hl hd he h0 h
    rw [par_succ]
    by_cases hd0 : d = []
    · subst hd0; exact absurd (within_nil h) h0
    · rw [if_neg hd0]
      by_cases hde : d = e
      · subst hde; simp
      · have := parent_lt hd0
        exact List.mem_cons_of_mem _ (ih (by omega) hd.up he h0 (Sp.within_up hd he h hde))
/-- What aheadF tells. -/
theorem aheadF_some (m : T) : ∀ (n : Nat) (d : Bytes) (l : List Bytes), aheadF m n d = some l → (∀ e ∈ par n d, (∃ b, get m e = some (true, b)) ∨ e ∈ l) ∧ (∀ e ∈ l, e ∈ par n d ∧ get m e = none) := by
  intro n
  induction n with
  | zero => intro d l h; cases h; exact ⟨fun e he => (by cases he), fun e he => (by cases he)⟩
  | succ n ih =>
    intro d l h
    rw [aheadF_succ] at h
    rw [par_succ]
    by_cases h0 : d = []
    · rw [if_pos h0] at h ⊢; cases h; exact ⟨fun e he => (by cases he), fun e he => (by cases he)⟩
    · rw [if_neg h0] at h ⊢
      cases hg : get m d with
      | none =>
        rw [hg] at h
        cases hr : aheadF m n (Sp.parent d) with
        | none => rw [hr] at h; cases h
        | some r =>
          rw [hr] at h
          cases h
          obtain ⟨h1, h2⟩ := ih _ _ hr
          refine ⟨fun e he => ?_, fun e he => ?_⟩
          · rcases List.mem_cons.1 he with rfl | he
            · exact .inr (by simp)
            · exact (h1 e he).imp id (List.mem_cons_of_mem _)
          · rcases List.mem_cons.1 he with rfl | he
            · exact ⟨by simp, hg⟩
            · exact ⟨List.mem_cons_of_mem _ (h2 e he).1, (h2 e he).2⟩
      | some x =>
        rw [hg] at h
        obtain ⟨b, y⟩ := x
        simp only at h
        split at h
        · rename_i hb
          subst hb
          obtain ⟨h1, h2⟩ := ih _ _ h
          refine ⟨fun e he => ?_, fun e he => ⟨List.mem_cons_of_mem _ (h2 e he).1, (h2 e he).2⟩⟩
          rcases List.mem_cons.1 he with rfl | he
          · exact .inl ⟨_, hg⟩
          · exact h1 e he
        · cases h
theorem aheadF_none (m : T) : ∀ (n : Nat) (d : Bytes), aheadF m n d = none → ∃ e ∈ par n d, ∃ b, get m e = some (false, b) := by
  intro n
  induction n with
  | zero => intro d h; cases h
  | succ n ih =>
    intro d h
    rw [aheadF_succ] at h
    rw [par_succ]
    by_cases h0 : d = []
    · rw [if_pos h0] at h; cases h
    · rw [if_neg h0] at h ⊢
      cases hg : get m d with
      | none =>
        rw [hg] at h
        cases hr : aheadF m n (Sp.parent d) with
        | none =>
          obtain ⟨e, he, hb⟩ := ih _ hr
          exact ⟨e, List.mem_cons_of_mem _ he, hb⟩
        | some r => rw [hr] at h; cases h
      | some x =>
        rw [hg] at h
        obtain ⟨b, y⟩ := x
        simp only at h
        split at h
        · obtain ⟨e, he, hb⟩ := ih _ h
          exact ⟨e, List.mem_cons_of_mem _ he, hb⟩
        · rename_i hb
          refine ⟨d, by simp, y, ?_⟩
          rw [hg]
          cases b
          · rfl
          · exact absurd rfl hb
/-- A path above another one. -/
def Above (e p : Bytes) : Prop := e ≠ [] ∧ Cl e ∧ Sp.within p e = true ∧ e ≠ p
theorem Above.lt {e p : Bytes} (h : Above e p) : e.length < p.length := by
  have h1 := within_len h.2.2.1
  rcases Nat.lt_or_ge e.length p.length with h2 | h2
  · exact h2
  · obtain ⟨h0, -, hw, hne⟩ := h
    unfold Sp.within at hw
    simp only [Bool.or_eq_true, beq_iff_eq] at hw
    rcases hw with (hw | hw) | hw
    · exact absurd hw h0
    · exact absurd hw.symm hne
    · have := (List.isPrefixOf_iff_prefix.1 hw).length_le
      simp at this; omega
theorem Above.par {e p : Bytes} (hp : Cl p) : Above e p ↔ e ∈ par p.length (Sp.parent p) := by
  constructor
  · rintro ⟨h0, he, hw, hne⟩
    exact par_all _ (parent_le p) hp.up he h0 (Sp.within_up hp he hw (fun x => hne x.symm))
  · intro h
    obtain ⟨h0, he, hw⟩ := par_in _ hp.up h
    have hp0 : p ≠ [] := by intro e0; subst e0; exact h0 (within_nil hw)
    refine ⟨h0, he, Sp.within_trans hp hp.up he (Sp.within_parent hp) hw, ?_⟩
    have h1 := within_len hw
    have h2 := parent_lt hp0
    intro e0; subst e0; omega
theorem Above.trans {a b c : Bytes} (hb : Cl b) (hc : Cl c) (h : Above a b) (g : Above b c) : Above a c := by
  have h1 := h.lt
  have h2 := g.lt
  exact ⟨h.1, h.2.1, Sp.within_trans hc hb h.2.1 g.2.2.1 h.2.2.1, fun e => by subst e; omega⟩
theorem Above.parent {p : Bytes} (hp : Cl p) (h0 : Sp.parent p ≠ []) : Above (Sp.parent p) p := by
  have hp0 : p ≠ [] := by intro e; subst e; exact h0 rfl
  have := parent_lt hp0
  exact ⟨h0, hp.up, Sp.within_parent hp, fun e => by rw [e] at this; omega⟩
theorem Above.up {e p : Bytes} (hp : Cl p) (h : Above e p) : e = Sp.parent p ∨ Above e (Sp.parent p) := by
  have := Sp.within_up hp h.2.1 h.2.2.1 (fun x => h.2.2.2 x.symm)
  by_cases he : e = Sp.parent p
  · exact .inl he
  · exact .inr ⟨h.1, h.2.1, this, he⟩
theorem ahead_some {m : T} {p : Bytes} {l : List Bytes} (hp : Cl p) (h : ahead m p = some l) : (∀ e, Above e p → (∃ b, get m e = some (true, b)) ∨ e ∈ l) ∧ (∀ e ∈ l, Above e p ∧ get m e = none) := by
  obtain ⟨h1, h2⟩ := aheadF_some m _ _ _ h
  exact ⟨fun e he => h1 e ((Above.par hp).1 he), fun e he => ⟨(Above.par hp).2 (h2 e he).1, (h2 e he).2⟩⟩
theorem ahead_none {m : T} {p : Bytes} (hp : Cl p) (h : ahead m p = none) : ∃ e, Above e p ∧ ∃ b, get m e = some (false, b) := by
  obtain ⟨e, he, hb⟩ := aheadF_none m _ _ h
  exact ⟨e, (Above.par hp).2 he, hb⟩
theorem ahead_of {m : T} {p : Bytes} (hp : Cl p) (h : ∀ e, Above e p → ∀ b, get m e ≠ some (false, b)) : ∃ l, ahead m p = some l := by
  cases ha : ahead m p with
  | some l => exact ⟨l, rfl⟩
  | none =>
    obtain ⟨e, he, b, hb⟩ := ahead_none hp ha
    exact absurd hb (h e he b)

/-- What is so of all that stands in a tree. -/
def Sound (m : T) (k : Bytes) (x : Nd) : Prop := k ≠ [] ∧ Cl k ∧ (Sp.parent k = [] ∨ ∃ b, get m (Sp.parent k) = some (true, b)) ∧ (x.1 = true → x.2 = []) ∧ x.2.length ≤ 65536
theorem Ok.mk' {m : T} (hn : (m.map (·.1)).Nodup) (h : ∀ k x, get m k = some x → Sound m k x) (hl : m.length ≤ 500) (hb : size m ≤ 1048576) : Ok m :=
  ⟨hn, fun p hp => ⟨(h p.1 p.2 (mem_get hn hp)).1, (h p.1 p.2 (mem_get hn hp)).2.1.clean⟩, fun p hp => (h p.1 p.2 (mem_get hn hp)).2.2.1, fun p hp => (h p.1 p.2 (mem_get hn hp)).2.2.2.1, fun p hp => (h p.1 p.2 (mem_get hn hp)).2.2.2.2, hl, hb⟩
theorem Ok.sound {m : T} (h : Ok m) {k : Bytes} {x : Nd} (hg : get m k = some x) : Sound m k x := by
  have hm := get_mem hg
  exact ⟨(h.cleaned _ hm).1, Cl.of (h.cleaned _ hm).2, h.up _ hm, h.dir _ hm, h.max _ hm⟩
theorem Ok.is_dir {m : T} (h : Ok m) {k : Bytes} {b : Bytes} (hg : get m k = some (true, b)) : get m k = some (true, []) := by
  have := (h.sound hg).2.2.2.1 rfl
  dsimp only at this
  subst this; exact hg
/-- All above what stands are directories. -/
theorem Ok.above {m : T} (h : Ok m) : ∀ (n : Nat) {k e : Bytes} {x : Nd}, k.length ≤ n → get m k = some x → Above e k → get m e = some (true, []) := by
  intro n
  induction n with
  | zero =>
    intro k e x hl hg ha
    have := ha.lt; omega
  | succ n ih =>
    intro k e x hl hg ha
    obtain ⟨h0, hc, hu, -⟩ := h.sound hg
    have hlt := parent_lt h0
    rcases hu with hu | ⟨b, hu⟩
    · rcases ha.up hc with e1 | e1
      · exact absurd (e1.trans hu) ha.1
      · rw [hu] at e1; exact absurd (within_nil e1.2.2.1) e1.1
    · rcases ha.up hc with e1 | e1
      · rw [e1]; exact h.is_dir hu
      · exact ih (by omega) hu e1
theorem Ok.abv {m : T} (h : Ok m) {k e : Bytes} {x : Nd} (hg : get m k = some x) (ha : Above e k) : get m e = some (true, []) := h.above _ (Nat.le_refl _) hg ha
/-- What isn't there has nothing below it. -/
theorem Ok.bare {m : T} (h : Ok m) {p k : Bytes} (hp : Cl p) (h0 : p ≠ []) (hg : get m p = none) (hw : Sp.within k p = true) : get m k = none := by
  cases hk : get m k with
  | none => rfl
  | some x =>
    by_cases e : p = k
    · subst e; rw [hg] at hk; cases hk
    · rw [h.abv hk ⟨h0, hp, hw, e⟩] at hg; cases hg

/-- One thing more, with the directories ahead of it. -/
theorem Ok.add {m : T} (h : Ok m) {p : Bytes} {lack : List Bytes} {x : Nd} (hp : Cl p) (h0 : p ≠ []) (ha : ahead m p = some lack) (hold : ∀ y, get m p = some y → y.1 = x.1) (hx : x.1 = true → x.2 = []) (hmax : x.2.length ≤ 65536)
    (hlen : (set (make m lack) p x).length ≤ 500) (hbytes : size (set (make m lack) p x) ≤ 1048576) : Ok (set (make m lack) p x) := by
  obtain ⟨a1, a2⟩ := ahead_some hp ha
  have hget : ∀ j, get (set (make m lack) p x) j = if j = p then some x else if j ∈ lack then some (true, []) else get m j := fun j => by rw [get_set, get_make]
  have habv : ∀ e, Above e p → ∃ b, get (set (make m lack) p x) e = some (true, b) := fun e he => by
    rw [hget, if_neg he.2.2.2]
    rcases a1 e he with ⟨b, hb⟩ | hl
    · by_cases hl : e ∈ lack
      · exact ⟨[], by rw [if_pos hl]⟩
      · exact ⟨b, by rw [if_neg hl]; exact hb⟩
    · exact ⟨[], by rw [if_pos hl]⟩
  have hpar : ∀ k, Cl k → (k = p ∨ Above k p) → Sp.parent k = [] ∨ ∃ b, get (set (make m lack) p x) (Sp.parent k) = some (true, b) := fun k hk hh => by
    by_cases hk0 : Sp.parent k = []
    · exact .inl hk0
    · right
      rcases hh with rfl | hh
      · exact habv _ (Above.parent hk hk0)
      · exact habv _ (Above.trans hk hp (Above.parent hk hk0) hh)
  refine Ok.mk' (nodup_set _ _ (nodup_make _ h.nodup)) (fun k y hk => ?_) hlen hbytes
  have hk' := hk
  rw [hget] at hk
  by_cases e1 : k = p
  · rw [if_pos e1] at hk
    cases hk
    subst e1
    exact ⟨h0, hp, hpar _ hp (.inl rfl), hx, hmax⟩
  · rw [if_neg e1] at hk
    by_cases e2 : k ∈ lack
    · rw [if_pos e2] at hk
      cases hk
      have hab := (a2 k e2).1
      exact ⟨hab.1, hab.2.1, hpar k hab.2.1 (.inr hab), fun _ => rfl, by simp⟩
    · rw [if_neg e2] at hk
      obtain ⟨s1, s2, s3, s4, s5⟩ := h.sound hk
      refine ⟨s1, s2, ?_, s4, s5⟩
      rcases s3 with s3 | ⟨b, s3⟩
      · exact .inl s3
      · right
        rw [hget]
        by_cases e3 : Sp.parent k = p
        · rw [if_pos e3]
          rw [e3] at s3
          have := hold _ s3
          obtain ⟨x1, x2⟩ := x
          dsimp only at this
          exact ⟨x2, by rw [this]⟩
        · rw [if_neg e3]
          by_cases e4 : Sp.parent k ∈ lack
          · exact ⟨[], by rw [if_pos e4]⟩
          · exact ⟨b, by rw [if_neg e4]; exact s3⟩
theorem len_add {m : T} {p : Bytes} {lack : List Bytes} (x : Nd) (hp : p ≠ []) (ha : ahead m p = some lack) : (set (make m lack) p x).length = m.length + lack.length + if (get m p).isSome then 0 else 1 := by
  obtain ⟨h1, h2⟩ := ahead_spec ha
  rw [len_set, get_make, len_make lack h2 (fun d hd => (h1 d hd).1)]
  have hpl : p ∉ lack := fun hm => by have := (h1 p hm).2.2 hp; omega
  rw [if_neg hpl]
/-- Where a file is, nothing lacks ahead of it. -/
theorem Ok.ahead_nil {m : T} (h : Ok m) {p : Bytes} {x : Nd} (hg : get m p = some x) : ahead m p = some [] := by
  have hc := (h.sound hg).2.1
  obtain ⟨l, hl⟩ := ahead_of hc (fun e he b hb => by rw [h.abv hg he] at hb; cases hb)
  rw [hl]
  obtain ⟨-, a2⟩ := ahead_some hc hl
  cases l with
  | nil => rfl
  | cons e l =>
    obtain ⟨ha, hn⟩ := a2 e (by simp)
    rw [h.abv hg ha] at hn; cases hn
theorem room_spec {m : T} {f b : Int} (h : room m f b = true) : f ≤ 500 - m.length ∧ b ≤ 1048576 - size m := by
  unfold room at h
  simp only [Bool.and_eq_true, decide_eq_true_eq] at h
  exact h
theorem Ok.put {m : T} (h : Ok m) (s b : Bytes) (more : Bool) : Ok (put m s b more).1 := by
  by_cases h0 : (Sp.clean s).2 ≠ 0
  · rw [put_err h0]; exact h
  have hcl := Sp.clean_cl (s := s) (by simpa using h0)
  obtain ⟨ox, hox⟩ : ∃ ox, at_ m (Sp.clean s).1 = ox := ⟨_, rfl⟩
  by_cases hd : ∀ x, ox = some x → x.1 = false
  · cases ha : ahead m (Sp.clean s).1 with
    | none => rw [put_kind h0 ha]; exact h
    | some lack =>
      obtain ⟨hp, hput⟩ := put_ok (b := b) (more := more) h0 hox hd ha
      rw [hput]
      split
      · exact h
      · rename_i hr
        simp only [not_or, Bool.not_eq_false] at hr
        obtain ⟨hr1, hr2⟩ := hr
        obtain ⟨r1, r2⟩ := room_spec hr2
        have hg : get m (Sp.clean s).1 = ox := by unfold at_ at hox; rwa [if_neg hp] at hox
        have hsz := size_put h.nodup ha hp (false, putB ox b more)
        have hln := len_add (false, putB ox b more) hp ha
        have hl := h.len
        refine h.add hcl hp ha (fun y hy => by rw [hg] at hy; exact hd y hy) (fun e => by cases e) (by dsimp only; omega) ?_ ?_
        · rw [hln, hg]
          cases ox with
          | none => simp only [putN] at r1; simp; omega
          | some x =>
            have := h.ahead_nil hg
            rw [ha] at this
            cases this
            simpa using hl
        · dsimp only at hsz ⊢; omega
  · have ⟨x, hx, hx1⟩ : ∃ x, ox = some x ∧ x.1 = true := by
      cases ox with
      | none => exact absurd (fun x h => by cases h) hd
      | some x =>
        refine ⟨x, rfl, ?_⟩
        cases hh : x.1 with
        | true => rfl
        | false => exact absurd (fun y hy => by cases hy; exact hh) hd
    rw [put_dir h0 (hox.trans hx) hx1]; exact h
theorem Ok.write {m : T} (h : Ok m) (s b : Bytes) : Ok (write m s b).1 := h.put s b false
theorem Ok.append {m : T} (h : Ok m) (s b : Bytes) : Ok (append m s b).1 := h.put s _ true
theorem at_none {m : T} {p : Bytes} (h : at_ m p = none) : p ≠ [] ∧ get m p = none := by
  unfold at_ at h
  split at h
  · cases h
  · rename_i hp; exact ⟨hp, h⟩
theorem Ok.mkdir {m : T} (h : Ok m) (s : Bytes) : Ok (mkdir m s).1 := by
  unfold Tr.mkdir
  split
  · exact h
  rename_i h0
  have hcl := Sp.clean_cl (s := s) (by simpa using h0)
  dsimp only
  split
  · split <;> exact h
  · rename_i hat
    obtain ⟨hp, hg⟩ := at_none hat
    split
    · exact h
    · rename_i lack ha
      split
      · exact h
      · rename_i hr
        simp only [Bool.not_eq_false] at hr
        obtain ⟨r1, r2⟩ := room_spec hr
        rw [make_snoc]
        have hsz := size_put h.nodup ha hp (true, [])
        have hln := len_add (true, []) hp ha
        have hb := h.bytes
        refine h.add hcl hp ha (fun y hy => by rw [hg] at hy; cases hy) (fun _ => rfl) (by simp) ?_ ?_
        · rw [hln, hg]; simp; omega
        · simp [old, hg] at hsz; omega
theorem get_drop (l : List Bytes) : ∀ (m : T) (j : Bytes), get (drop m l) j = if j ∈ l then none else get m j := by
  induction l with
  | nil => intro m j; simp [drop]
  | cons k l ih =>
    intro m j
    show get (drop (del m k) l) j = _
    rw [ih, get_del]
    by_cases h1 : j ∈ l
    · simp [h1]
    · by_cases h2 : j = k
      · simp [h2]
      · simp [h1, h2]
theorem nodup_drop (l : List Bytes) : ∀ {m : T}, (m.map (·.1)).Nodup → ((drop m l).map (·.1)).Nodup := by
  induction l with
  | nil => intro m h; exact h
  | cons k l ih => intro m h; exact ih (nodup_del _ h)
theorem len_drop (l : List Bytes) : ∀ (m : T), (drop m l).length ≤ m.length := by
  induction l with
  | nil => intro m; exact Nat.le_refl _
  | cons k l ih => intro m; exact Nat.le_trans (ih (del m k)) (List.length_filter_le _ _)
theorem get_cut {m : T} (p j : Bytes) : get (drop m (below m p)) j = if Sp.within j p = true then none else get m j := by
  rw [get_drop]
  by_cases hw : Sp.within j p = true
  · rw [if_pos hw]
    split
    · rfl
    · rename_i hb
      cases hg : get m j with
      | none => rfl
      | some x => exact absurd (mem_below.2 ⟨List.mem_map.2 ⟨_, get_mem hg, rfl⟩, hw⟩) hb
  · rw [if_neg hw, if_neg]
    intro hb
    exact hw (mem_below.1 hb).2
/-- Whose parent is at or below p, is so too. -/
theorem within_of_parent {k p : Bytes} (hk : Cl k) (hp : Cl p) (h : Sp.within (Sp.parent k) p = true) : Sp.within k p = true := Sp.within_trans hk hk.up hp (Sp.within_parent hk) h
theorem Ok.remove {m : T} (h : Ok m) (s : Bytes) : Ok (remove m s).1 := by
  unfold Tr.remove
  split
  · exact h
  rename_i h0
  have hcl := Sp.clean_cl (s := s) (by simpa using h0)
  dsimp only
  split
  · exact h
  split
  · exact h
  dsimp only
  refine Ok.mk' (nodup_drop _ h.nodup) (fun k x hk => ?_) (Nat.le_trans (len_drop _ _) h.len) (Nat.le_trans (drop_size_le _ _ h.nodup) h.bytes)
  rw [get_cut] at hk
  split at hk
  · cases hk
  rename_i hw
  obtain ⟨s1, s2, s3, s4, s5⟩ := h.sound hk
  refine ⟨s1, s2, s3.imp id fun ⟨b, hb⟩ => ⟨b, ?_⟩, s4, s5⟩
  rw [get_cut, if_neg (fun e => hw (within_of_parent s2 hcl e))]
  exact hb
end Tr
end Go.Proofs.YtmdpmpdlkaogdaaGreatDoor
