/- Plain laws of trees: Rename and Copy. No Go here. -/
import Derived.Test.YtmdpmpdlkaogdaaGreatDoorLo
namespace Go.Proofs.YtmdpmpdlkaogdaaGreatDoor
namespace Sp
theorem within_iff {j q : Bytes} (hq : q ≠ []) : within j q = true ↔ ∃ r, j = q ++ r ∧ (r = [] ∨ r.head? = some 47) := by
  unfold within
  simp only [Bool.or_eq_true, beq_iff_eq]
  constructor
  · rintro ((h | h) | h)
    · exact absurd h hq
    · exact ⟨[], by simp [h], .inl rfl⟩
    · obtain ⟨t, ht⟩ := List.isPrefixOf_iff_prefix.1 h
      exact ⟨47 :: t, by rw [← ht]; simp, .inr rfl⟩
  · rintro ⟨r, rfl, hr⟩
    rcases hr with rfl | hr
    · exact .inl (.inr (by simp))
    · cases r with
      | nil => cases hr
      | cons c r =>
        simp only [List.head?_cons, Option.some.injEq] at hr
        subst hr
        exact .inr (List.isPrefixOf_iff_prefix.2 ⟨r, by simp⟩)
theorem moved_within {p q k : Bytes} (hp : p ≠ []) (hq : q ≠ []) (h : within k p = true) : within (moved p.length q k) q = true ∧ moved q.length p (moved p.length q k) = k := by
  obtain ⟨r, rfl, hr⟩ := (within_iff hp).1 h
  unfold moved
  rw [List.drop_left, List.drop_left]
  exact ⟨(within_iff hq).2 ⟨r, rfl, hr⟩, rfl⟩
theorem moved_self (p q : Bytes) : moved p.length q p = q := by simp [moved]
theorem moved_parts {p q k : Bytes} (hp : Cl p) (hq : Cl q) (hk : Cl k) (hp0 : p ≠ []) (hq0 : q ≠ []) (h : within k p = true) : ∃ lp lq t, p = glue lp ∧ q = glue lq ∧ k = glue (lp ++ t) ∧ Goods (lp ++ t) ∧ Goods (lq ++ t) ∧ lp ≠ [] ∧ lq ≠ [] ∧ moved p.length q k = glue (lq ++ t) := by
  obtain ⟨lp, rfl, gp, -⟩ := hp
  obtain ⟨lq, rfl, gq, -⟩ := hq
  obtain ⟨lk, rfl, gk, -⟩ := hk
  obtain ⟨t, rfl⟩ := (within_glue gk gp).1 h
  have h1 : lp ≠ [] := fun e => hp0 (by rw [e]; rfl)
  have h2 : lq ≠ [] := fun e => hq0 (by rw [e]; rfl)
  exact ⟨lp, lq, t, rfl, rfl, rfl, gk, gq.app gk.right, h1, h2, moved_glue h1 h2⟩
theorem clean_moved {p q k : Bytes} (hp : Cl p) (hq : Cl q) (hk : Cl k) (hp0 : p ≠ []) (hq0 : q ≠ []) (h : within k p = true) :
    (Cl (moved p.length q k) ∧ clean (moved p.length q k) = (moved p.length q k, 0)) ∨ (¬ Cl (moved p.length q k) ∧ clean (moved p.length q k) = ([], 50)) := by
  obtain ⟨lp, lq, t, rfl, rfl, rfl, g1, g2, -, -, e⟩ := moved_parts hp hq hk hp0 hq0 h
  rw [e, clean_glue g2]
  by_cases hc : 200 < (glue (lq ++ t)).length ∨ 12 < (lq ++ t).length
  · rw [if_pos hc]
    refine .inr ⟨?_, rfl⟩
    rintro ⟨l, e1, g, h1, h2⟩
    have := glue_inj g2 g e1
    subst this; omega
  · rw [if_neg hc]
    exact .inl ⟨⟨_, rfl, g2, by omega, by omega⟩, rfl⟩
theorem moved_parent {p q k : Bytes} (hp : Cl p) (hq : Cl q) (hk : Cl k) (hp0 : p ≠ []) (hq0 : q ≠ []) (h : within k p = true) (hne : k ≠ p) : parent (moved p.length q k) = moved p.length q (parent k) := by
  obtain ⟨lp, lq, t, rfl, rfl, rfl, g1, g2, h1, h2, e⟩ := moved_parts hp hq hk hp0 hq0 h
  have ht : t ≠ [] := by intro e; subst e; simp at hne
  obtain ⟨t, x, rfl⟩ := snoc_of ht
  have hx : (47 : UInt8) ∉ x := g1.no x (by simp)
  rw [e, ← List.append_assoc, ← List.append_assoc, parent_glue hx, parent_glue hx, moved_glue h1 h2]
end Sp
namespace Tr
open Sp (Cl moved)

theorem dests_eq {p q : Bytes} (hp : Cl p) (hq : Cl q) (hp0 : p ≠ []) (hq0 : q ≠ []) : ∀ l, (∀ k ∈ l, Cl k ∧ Sp.within k p = true) →
    ((∀ k ∈ l, Cl (moved p.length q k)) ∧ dests p.length q l = (l.map (moved p.length q), 0)) ∨ ((∃ k ∈ l, ¬ Cl (moved p.length q k)) ∧ dests p.length q l = ([], 50)) := by
  intro l
  induction l with
  | nil => intro _; exact .inl ⟨fun k h => (by cases h), rfl⟩
  | cons k l ih =>
    intro h
    obtain ⟨hk, hw⟩ := h k (by simp)
    have ih := ih fun j hj => h j (List.mem_cons_of_mem _ hj)
    have hd := dests_cons p.length q k l
    rw [show q ++ k.drop p.length = moved p.length q k from rfl] at hd
    rw [hd]
    rcases Sp.clean_moved hp hq hk hp0 hq0 hw with ⟨c1, c2⟩ | ⟨c1, c2⟩
    · rw [c2, if_neg (by simp)]
      rcases ih with ⟨i1, i2⟩ | ⟨i1, i2⟩
      · rw [i2, if_neg (by simp)]
        refine .inl ⟨fun j hj => ?_, rfl⟩
        rcases List.mem_cons.1 hj with rfl | hj
        · exact c1
        · exact i1 j hj
      · rw [i2, if_pos (by simp)]
        obtain ⟨j, hj, hn⟩ := i1
        exact .inr ⟨⟨j, List.mem_cons_of_mem _ hj, hn⟩, rfl⟩
    · rw [c2, if_pos (by simp)]
      exact .inr ⟨⟨k, by simp, c1⟩, rfl⟩

/-- What a plan says. -/
structure Planned (m : T) (p q : Bytes) (v : Move) : Prop where
  hp : Cl p
  hq : Cl q
  p0 : p ≠ []
  q0 : q ≠ []
  src : v.src = below m p
  here : ∃ x, get m p = some x
  out : Sp.within q p = false
  free : get m q = none
  ahead : ahead m q = some v.lack
  dst : v.dst = v.src.map (moved p.length q)
  cl : ∀ k ∈ v.src, Cl (moved p.length q k)
  bytes : v.bytes = (v.src.map fun k => old m k).sum
theorem Ok.planned {m : T} (h : Ok m) {s d : Bytes} {v : Move} {e : Int} (hp : plan m s d = (some v, e)) : Planned m (Sp.clean s).1 (Sp.clean d).1 v := by
  obtain ⟨-, h1, h2, h3, h4, h5, h6, h7, h8, h9, h10⟩ := plan_spec hp
  obtain ⟨q0, hq⟩ := at_none h10
  have cp := Sp.clean_cl h5
  have cq := Sp.clean_cl h6
  have hsrc : ∀ k ∈ v.src, Cl k ∧ Sp.within k (Sp.clean s).1 = true := fun k hk => by
    rw [h1] at hk
    obtain ⟨k1, k2⟩ := mem_below.1 hk
    obtain ⟨x, hx, rfl⟩ := List.mem_map.1 k1
    exact ⟨Cl.of (h.cleaned x hx).2, k2⟩
  have hd := dests_eq cp cq h8 q0 v.src hsrc
  rw [h2] at hd
  have hd' := hd.resolve_right fun ⟨_, e⟩ => absurd (congrArg Prod.snd e) (by simp)
  refine ⟨cp, cq, h8, q0, h1, ?_, h9, hq, h3, (Prod.mk.inj hd'.2).1, hd'.1, h4⟩
  unfold Tr.at_ at h7
  rw [if_neg h8] at h7
  exact Option.isSome_iff_exists.1 h7

theorem get_copyL (f : Bytes → Bytes) : ∀ (l : List Bytes) (m : T), (∀ k ∈ l, ∀ j ∈ l, f k ≠ j) → (l.map f).Nodup →
    (∀ k ∈ l, get (copyL m l (l.map f)) (f k) = some ((get m k).getD (true, []))) ∧ ∀ j, j ∉ l.map f → get (copyL m l (l.map f)) j = get m j := by
  intro l
  induction l with
  | nil => intro m _ _; exact ⟨fun k h => (by cases h), fun j _ => rfl⟩
  | cons k l ih =>
    intro m h hn
    rw [List.map_cons, List.nodup_cons] at hn
    rw [List.map_cons, copyL_cons]
    obtain ⟨i1, i2⟩ := ih (set m (f k) ((get m k).getD (true, []))) (fun a ha b hb => h a (List.mem_cons_of_mem _ ha) b (List.mem_cons_of_mem _ hb)) hn.2
    constructor
    · intro a ha
      rcases List.mem_cons.1 ha with rfl | ha
      · rw [i2 _ hn.1, get_set, if_pos rfl]
      · rw [i1 a ha, get_set, if_neg (fun e => h k (by simp) a (List.mem_cons_of_mem _ ha) e.symm)]
    · intro j hj
      rw [List.mem_cons, not_or] at hj
      rw [i2 j hj.2, get_set, if_neg hj.1]
theorem size_copyL (f : Bytes → Bytes) : ∀ (l : List Bytes) (m : T), (m.map (·.1)).Nodup → (∀ k ∈ l, ∀ j ∈ l, f k ≠ j) → (l.map f).Nodup → (∀ k ∈ l, get m (f k) = none) →
    size (copyL m l (l.map f)) = size m + (l.map fun k => old m k).sum ∧ (copyL m l (l.map f)).length = m.length + l.length := by
  intro l
  induction l with
  | nil => intro m _ _ _ _; exact ⟨rfl, rfl⟩
  | cons k l ih =>
    intro m hm h hn hg
    rw [List.map_cons, List.nodup_cons] at hn
    rw [List.map_cons, copyL_cons]
    have hne : ∀ a ∈ l, f a ≠ f k := fun a ha e => hn.1 (e ▸ List.mem_map.2 ⟨a, ha, rfl⟩)
    have hgk := hg k (by simp)
    obtain ⟨i1, i2⟩ := ih (set m (f k) ((get m k).getD (true, []))) (nodup_set _ _ hm) (fun a ha b hb => h a (List.mem_cons_of_mem _ ha) b (List.mem_cons_of_mem _ hb)) hn.2 (fun a ha => by
      rw [get_set, if_neg (hne a ha)]; exact hg a (List.mem_cons_of_mem _ ha))
    have hs := size_set hm (f k) ((get m k).getD (true, []))
    have hl := len_set m (f k) ((get m k).getD (true, []))
    rw [hgk] at hl
    have ho : (l.map fun a => old (set m (f k) ((get m k).getD (true, []))) a) = l.map fun a => old m a := List.map_congr_left fun a ha => by
      unfold old
      rw [get_set, if_neg (fun e => h k (by simp) a (List.mem_cons_of_mem _ ha) e.symm)]
    rw [ho] at i1
    have hok : old m (f k) = 0 := by unfold old; rw [hgk]; rfl
    have hkk : old m k = ((get m k).getD (true, [])).2.length := rfl
    simp only [List.map_cons, List.sum_cons, List.length_cons]
    simp at hl
    omega
theorem size_drop : ∀ (l : List Bytes) {m : T}, (m.map (·.1)).Nodup → l.Nodup → (∀ k ∈ l, (get m k).isSome = true) → size (drop m l) + (l.map fun k => old m k).sum = size m ∧ (drop m l).length + l.length = m.length := by
  intro l
  induction l with
  | nil => intro m _ _ _; exact ⟨rfl, rfl⟩
  | cons k l ih =>
    intro m hm hn hg
    rw [List.nodup_cons] at hn
    have hne : ∀ a ∈ l, a ≠ k := fun a ha e => hn.1 (e ▸ ha)
    obtain ⟨i1, i2⟩ := ih (m := del m k) (nodup_del _ hm) hn.2 (fun a ha => by rw [get_del, if_neg (hne a ha)]; exact hg a (List.mem_cons_of_mem _ ha))
    have ho : (l.map fun a => old (del m k) a) = l.map fun a => old m a := List.map_congr_left fun a ha => by
      unfold old
      rw [get_del, if_neg (hne a ha)]
    rw [ho] at i1
    have hs := size_del hm k
    have hl : (del m k).length + 1 = m.length := by
      have hk := hg k (by simp)
      clear ih i1 i2 ho hs hg
      induction m with
      | nil => cases hk
      | cons p m ihm =>
        rw [List.map_cons, List.nodup_cons] at hm
        unfold del
        rw [List.filter_cons]
        by_cases hp : p.1 = k
        · have h1 : List.filter (fun p => !(p.1 == k)) m = m := List.filter_eq_self.2 fun q hq => by
            have : q.1 ≠ k := fun e => hm.1 (by rw [hp, ← e]; exact List.mem_map.2 ⟨q, hq, rfl⟩)
            simpa using this
          have : (!(p.1 == k)) = false := by simpa using hp
          rw [this, if_neg (by simp), h1]; rfl
        · have : (!(p.1 == k)) = true := by simpa using hp
          rw [this, if_pos rfl, List.length_cons, List.length_cons]
          rw [get_cons, if_neg hp] at hk
          have := ihm hm.2 hk
          unfold del at this
          omega
    show size (drop (del m k) l) + _ = _ ∧ (drop (del m k) l).length + _ = _
    simp only [List.map_cons, List.sum_cons, List.length_cons]
    omega

section planned
variable {m : T} {p q : Bytes} {v : Move} (h : Ok m) (P : Planned m p q v)
include h P
theorem Planned.mem {k : Bytes} : k ∈ v.src ↔ (∃ x, get m k = some x) ∧ Sp.within k p = true := by
  rw [P.src, mem_below]
  constructor
  · rintro ⟨h1, h2⟩
    refine ⟨?_, h2⟩
    obtain ⟨x, hx, rfl⟩ := List.mem_map.1 h1
    exact ⟨x.2, mem_get h.nodup hx⟩
  · rintro ⟨⟨x, hx⟩, h2⟩
    exact ⟨List.mem_map.2 ⟨_, get_mem hx, rfl⟩, h2⟩
/-- Nothing stands where it comes to. -/
theorem Planned.new {j : Bytes} (hw : Sp.within j q = true) : get m j = none := h.bare P.hq P.q0 P.free hw
omit h in
theorem Planned.lack_out {j : Bytes} (hj : j ∈ v.lack) : Sp.within j q = false := by
  obtain ⟨-, a2⟩ := ahead_some P.hq P.ahead
  have := (a2 j hj).1.lt
  cases hw : Sp.within j q with
  | false => rfl
  | true => have := within_len hw; omega
theorem Planned.inj : (v.src.map (moved p.length q)).Nodup ∧ (∀ k ∈ v.src, ∀ j ∈ v.src, moved p.length q k ≠ j) ∧ ∀ k ∈ v.src, get (make m v.lack) (moved p.length q k) = none := by
  refine ⟨?_, fun k hk j hj e => ?_, fun k hk => ?_⟩
  · have hn : v.src.Nodup := by rw [P.src]; exact nodup_below h.nodup
    unfold List.Nodup at hn ⊢
    rw [List.pairwise_map]
    refine hn.imp_of_mem fun {a b} ha hb hne e => hne ?_
    have h1 := (Sp.moved_within P.p0 P.q0 ((P.mem h).1 ha).2).2
    have h2 := (Sp.moved_within P.p0 P.q0 ((P.mem h).1 hb).2).2
    rw [← h1, e, h2]
  · have h1 := (Sp.moved_within P.p0 P.q0 ((P.mem h).1 hk).2).1
    rw [e] at h1
    obtain ⟨⟨x, hx⟩, -⟩ := (P.mem h).1 hj
    rw [P.new h h1] at hx; cases hx
  · have h1 := (Sp.moved_within P.p0 P.q0 ((P.mem h).1 hk).2).1
    rw [get_make, if_neg (fun hm => by rw [P.lack_out hm] at h1; cases h1), P.new h h1]
theorem Planned.get (j : Bytes) : Tr.get (copy m v) j = if Sp.within j q = true then Tr.get m (moved q.length p j) else if j ∈ v.lack then some (true, []) else Tr.get m j := by
  obtain ⟨n1, n2, n3⟩ := P.inj h
  unfold Tr.copy
  rw [P.dst]
  obtain ⟨g1, g2⟩ := get_copyL (moved p.length q) v.src (make m v.lack) n2 n1
  obtain ⟨-, a2⟩ := ahead_some P.hq P.ahead
  have hmake : ∀ k ∈ v.src, Tr.get (make m v.lack) k = Tr.get m k := fun k hk => by
    rw [get_make, if_neg]
    intro hl
    obtain ⟨⟨x, hx⟩, -⟩ := (P.mem h).1 hk
    rw [(a2 k hl).2] at hx; cases hx
  by_cases hw : Sp.within j q = true
  · rw [if_pos hw]
    obtain ⟨b1, b2⟩ := Sp.moved_within P.q0 P.p0 hw
    cases hk : Tr.get m (moved q.length p j) with
    | some x =>
      have hs : moved q.length p j ∈ v.src := (P.mem h).2 ⟨⟨x, hk⟩, b1⟩
      have := g1 _ hs
      rw [b2, hmake _ hs, hk] at this
      exact this
    | none =>
      rw [g2 j (fun hm => ?_), get_make, if_neg (fun hl => by rw [P.lack_out hl] at hw; cases hw), P.new h hw]
      obtain ⟨k, hk1, hk2⟩ := List.mem_map.1 hm
      have := (Sp.moved_within P.p0 P.q0 ((P.mem h).1 hk1).2).2
      rw [hk2] at this
      rw [this] at hk
      obtain ⟨⟨x, hx⟩, -⟩ := (P.mem h).1 hk1
      rw [hx] at hk; cases hk
  · rw [if_neg hw, g2 j (fun hm => ?_), get_make]
    obtain ⟨k, hk1, hk2⟩ := List.mem_map.1 hm
    have := (Sp.moved_within P.p0 P.q0 ((P.mem h).1 hk1).2).1
    rw [hk2] at this
    exact hw this
theorem Planned.size : Tr.size (copy m v) = Tr.size m + v.bytes ∧ (copy m v).length = m.length + v.lack.length + v.src.length := by
  obtain ⟨n1, n2, n3⟩ := P.inj h
  obtain ⟨a1, a2⟩ := ahead_spec P.ahead
  unfold Tr.copy
  rw [P.dst, P.bytes]
  obtain ⟨s1, s2⟩ := size_copyL (moved p.length q) v.src (make m v.lack) (nodup_make _ h.nodup) n2 n1 n3
  have ho : (v.src.map fun k => old (make m v.lack) k) = v.src.map fun k => old m k := List.map_congr_left fun k hk => by
    unfold old
    rw [get_make, if_neg]
    intro hl
    obtain ⟨⟨x, hx⟩, -⟩ := (P.mem h).1 hk
    rw [(a1 k hl).1] at hx; cases hx
  rw [s1, s2, ho, size_make _ h.nodup a2 (fun d hd => (a1 d hd).1), len_make _ a2 (fun d hd => (a1 d hd).1)]
  exact ⟨rfl, rfl⟩
omit P in
theorem Ok.nodup_copy : ((copy m v).map (·.1)).Nodup := nodup_copyL _ _ (nodup_make _ h.nodup)
/-- What stands in a copied tree is as it should be. -/
theorem Planned.sound {k : Bytes} {x : Nd} (hk : Tr.get (copy m v) k = some x) : Sound (copy m v) k x := by
  obtain ⟨a1, a2⟩ := ahead_some P.hq P.ahead
  have habv : ∀ e, Above e q → ∃ b, Tr.get (copy m v) e = some (true, b) := fun e he => by
    rw [P.get h, if_neg (fun hw => by have := within_len hw; have := he.lt; omega)]
    rcases a1 e he with ⟨b, hb⟩ | hl
    · by_cases hl : e ∈ v.lack
      · exact ⟨[], by rw [if_pos hl]⟩
      · exact ⟨b, by rw [if_neg hl]; exact hb⟩
    · exact ⟨[], by rw [if_pos hl]⟩
  have hpar : ∀ j, Cl j → (j = q ∨ Above j q) → Sp.parent j = [] ∨ ∃ b, Tr.get (copy m v) (Sp.parent j) = some (true, b) := fun j hj hh => by
    by_cases hj0 : Sp.parent j = []
    · exact .inl hj0
    · right
      rcases hh with rfl | hh
      · exact habv _ (Above.parent hj hj0)
      · exact habv _ (Above.trans hj P.hq (Above.parent hj hj0) hh)
  have hk' := hk
  rw [P.get h] at hk
  by_cases hw : Sp.within k q = true
  · rw [if_pos hw] at hk
    obtain ⟨b1, b2⟩ := Sp.moved_within P.q0 P.p0 hw
    have hs : moved q.length p k ∈ v.src := (P.mem h).2 ⟨⟨x, hk⟩, b1⟩
    obtain ⟨s1, s2, s3, s4, s5⟩ := h.sound hk
    have hcl := P.cl _ hs
    rw [b2] at hcl
    refine ⟨fun e => by subst e; exact absurd (within_nil hw) P.q0, hcl, ?_, s4, s5⟩
    by_cases he : moved q.length p k = p
    · have : k = q := by rw [← b2, he, Sp.moved_self]
      exact hpar k hcl (.inl this)
    · right
      have hab : Above (Sp.parent (moved q.length p k)) (moved q.length p k) := Above.parent s2 fun e => by
        have := Sp.within_up s2 P.hp b1 he
        rw [e] at this
        exact absurd (within_nil this) P.p0
      have hpp := Sp.moved_parent P.hp P.hq s2 P.p0 P.q0 b1 he
      rw [b2] at hpp
      obtain ⟨c1, c2⟩ := Sp.moved_within P.p0 P.q0 (Sp.within_up s2 P.hp b1 he)
      refine ⟨[], ?_⟩
      rw [hpp, P.get h, if_pos c1, c2]
      exact h.abv hk hab
  · rw [if_neg hw] at hk
    by_cases hl : k ∈ v.lack
    · rw [if_pos hl] at hk
      cases hk
      have hab := (a2 k hl).1
      exact ⟨hab.1, hab.2.1, hpar k hab.2.1 (.inr hab), fun _ => rfl, by simp⟩
    · rw [if_neg hl] at hk
      obtain ⟨s1, s2, s3, s4, s5⟩ := h.sound hk
      refine ⟨s1, s2, s3.imp id fun ⟨b, hb⟩ => ⟨b, ?_⟩, s4, s5⟩
      rw [P.get h, if_neg (fun e => by rw [P.new h e] at hb; cases hb)]
      by_cases hl2 : Sp.parent k ∈ v.lack
      · rw [(a2 _ hl2).2] at hb; cases hb
      · rw [if_neg hl2]; exact hb
theorem Planned.src_in {k : Bytes} (hk : k ∈ v.src) : Tr.get (copy m v) k = Tr.get m k := by
  obtain ⟨-, a2⟩ := ahead_some P.hq P.ahead
  obtain ⟨⟨x, hx⟩, -⟩ := (P.mem h).1 hk
  rw [P.get h, if_neg (fun e => by rw [P.new h e] at hx; cases hx), if_neg (fun e => by rw [(a2 _ e).2] at hx; cases hx)]
theorem Planned.cut : Tr.size (drop (copy m v) v.src) = Tr.size m ∧ (drop (copy m v) v.src).length = m.length + v.lack.length := by
  obtain ⟨s1, s2⟩ := P.size h
  obtain ⟨d1, d2⟩ := size_drop v.src (h.nodup_copy) (by rw [P.src]; exact nodup_below h.nodup) (fun k hk => by
    rw [P.src_in h hk]
    obtain ⟨⟨x, hx⟩, -⟩ := (P.mem h).1 hk
    rw [hx]; rfl)
  have ho : (v.src.map fun k => old (copy m v) k) = v.src.map fun k => old m k := List.map_congr_left fun k hk => by
    unfold old; rw [P.src_in h hk]
  rw [ho, ← P.bytes] at d1
  omega
omit h P in
theorem rget (j : Bytes) : Tr.get (drop (copy m v) v.src) j = if j ∈ v.src then none else Tr.get (copy m v) j := get_drop _ _ _
theorem Planned.rsound {k : Bytes} {x : Nd} (hk : Tr.get (drop (copy m v) v.src) k = some x) : Sound (drop (copy m v) v.src) k x := by
  rw [rget] at hk
  split at hk
  · cases hk
  rename_i hs
  obtain ⟨s1, s2, s3, s4, s5⟩ := P.sound h hk
  refine ⟨s1, s2, s3.imp id fun ⟨b, hb⟩ => ⟨b, ?_⟩, s4, s5⟩
  rw [rget, if_neg]
  · exact hb
  · intro hps
    obtain ⟨⟨y, hy⟩, hw⟩ := (P.mem h).1 hps
    have hkw := within_of_parent s2 P.hp hw
    rw [P.get h] at hk
    by_cases hq : Sp.within k q = true
    · -- k is below q; its parent stands in m, so k is q, and q is within p
      by_cases e : k = q
      · subst e; rw [P.out] at hkw; cases hkw
      · have := Sp.within_up s2 P.hq hq e
        rw [P.new h this] at hy; cases hy
    · rw [if_neg hq] at hk
      by_cases hl : k ∈ v.lack
      · obtain ⟨-, a2⟩ := ahead_some P.hq P.ahead
        have hab := (a2 k hl).1
        have := Sp.within_trans P.hq hab.2.1 P.hp hab.2.2.1 hkw
        rw [P.out] at this; cases this
      · rw [if_neg hl] at hk
        exact hs ((P.mem h).2 ⟨⟨x, hk⟩, hkw⟩)
end planned
theorem Ok.copied {m : T} (h : Ok m) (s d : Bytes) : ∀ x e, plan m s d = (some x, e) → size (copy m x) = size m + x.bytes := fun _ _ hp => (h.planned hp).size h |>.1
theorem Ok.rename {m : T} (h : Ok m) (s d : Bytes) : Ok (rename m s d).1 := by
  unfold Tr.rename
  split
  · rename_i v e hp
    have P := h.planned hp
    split
    · exact h
    · rename_i hr
      simp only [Bool.not_eq_false] at hr
      obtain ⟨r1, r2⟩ := room_spec hr
      obtain ⟨c1, c2⟩ := P.cut h
      have hb := h.bytes
      exact Ok.mk' (nodup_drop _ (h.nodup_copy)) (fun k x hk => P.rsound h hk) (by dsimp only; omega) (by dsimp only; omega)
  · exact h
theorem Ok.cpy {m : T} (h : Ok m) (s d : Bytes) : Ok (cpy m s d).1 := by
  unfold Tr.cpy
  split
  · rename_i v e hp
    have P := h.planned hp
    split
    · exact h
    · rename_i hr
      simp only [Bool.not_eq_false] at hr
      obtain ⟨r1, r2⟩ := room_spec hr
      obtain ⟨c1, c2⟩ := P.size h
      exact Ok.mk' (h.nodup_copy) (fun k x hk => P.sound h hk) (by dsimp only; omega) (by dsimp only; omega)
  · exact h
end Tr
end Go.Proofs.YtmdpmpdlkaogdaaGreatDoor
