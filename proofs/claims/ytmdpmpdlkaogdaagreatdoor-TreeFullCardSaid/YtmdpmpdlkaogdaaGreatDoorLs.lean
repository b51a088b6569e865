/- Plain laws of trees: what is renamed, and renamed back, is as it was (TreeMoves). No Go here. -/
import Derived.Test.YtmdpmpdlkaogdaaGreatDoorLr
namespace Go.Proofs.YtmdpmpdlkaogdaaGreatDoor
namespace Tr
open Sp (Cl moved Goods glue)

theorem at_of {m : T} {p : Bytes} (h : p ≠ []) : at_ m p = get m p := by unfold Tr.at_; rw [if_neg h]
/-- A plan that nothing forbids. -/
theorem Ok.plans {m : T} (h : Ok m) {s d p q : Bytes} {lack : List Bytes} (hs : Sp.clean s = (p, 0)) (hd : Sp.clean d = (q, 0)) (hp0 : p ≠ []) (hq0 : q ≠ []) (hx : ∃ x, get m p = some x) (hw : Sp.within q p = false) (hq : get m q = none) (ha : ahead m q = some lack)
    (hcl : ∀ k x, get m k = some x → Sp.within k p = true → Cl (moved p.length q k)) : ∃ v, plan m s d = (some v, 0) ∧ v.lack = lack := by
  have cp : Cl p := by have := Sp.clean_cl (s := s) (by rw [hs]); rwa [hs] at this
  have cq : Cl q := by have := Sp.clean_cl (s := d) (by rw [hd]); rwa [hd] at this
  have hsrc : ∀ k ∈ below m p, Cl k ∧ Sp.within k p = true := fun k hk => by
    obtain ⟨k1, k2⟩ := mem_below.1 hk
    obtain ⟨x, hx, rfl⟩ := List.mem_map.1 k1
    exact ⟨Cl.of (h.cleaned x hx).2, k2⟩
  have hde := dests_eq cp cq hp0 hq0 (below m p) hsrc
  have hde' := hde.resolve_right fun ⟨⟨k, hk, hn⟩, _⟩ => by
    obtain ⟨k1, k2⟩ := mem_below.1 hk
    obtain ⟨x, hx, rfl⟩ := List.mem_map.1 k1
    exact hn (hcl x.1 x.2 (mem_get h.nodup hx) k2)
  obtain ⟨x, hx⟩ := hx
  refine ⟨⟨below m p, (below m p).map (moved p.length q), lack, ((below m p).map fun k => ((get m k).getD (true, [])).2.length).sum⟩, ?_, rfl⟩
  unfold Tr.plan
  rw [hs, hd]
  simp only [ne_eq, not_true_eq_false, if_false]
  rw [at_of hp0, at_of hq0, hx, hq, ha, hw, hde'.2]
  simp [hp0]

section back
variable {m : T} {s d : Bytes} {v : Move}
/-- It goes back. -/
theorem Ok.back (h : Ok m) (hpl : plan m s d = (some v, 0)) (hr : room m v.lack.length 0 = true) :
    Tr.rename m s d = (drop (copy m v) v.src, 0) ∧ exists_ (drop (copy m v) v.src) s = false ∧ exists_ (drop (copy m v) v.src) d = true ∧
      ∃ m2, Tr.rename (drop (copy m v) v.src) d s = (m2, 0) ∧ ∀ j, get m2 j = if j ∈ v.lack then some (true, []) else get m j := by
  have P := h.planned hpl
  obtain ⟨-, -, -, -, -, es, ed, -⟩ := plan_spec hpl
  have hren : Tr.rename m s d = (drop (copy m v) v.src, 0) := by
    unfold Tr.rename; rw [hpl]; simp only [hr, Bool.true_eq_false, if_false]
  have hR : Ok (drop (copy m v) v.src) := by have := h.rename s d; rwa [hren] at this
  have hs : Sp.clean s = ((Sp.clean s).1, 0) := Prod.ext rfl es
  have hd : Sp.clean d = ((Sp.clean d).1, 0) := Prod.ext rfl ed
  generalize (Sp.clean s).1 = p at P hs
  generalize (Sp.clean d).1 = q at P hd
  obtain ⟨a1, a2⟩ := ahead_some P.hq P.ahead
  have hrg := rget (m := m) (v := v)
  have hcg := P.get h
  generalize hRR : drop (copy m v) v.src = R at *
  obtain ⟨xp, hxp⟩ := P.here
  have hps : p ∈ v.src := (P.mem h).2 ⟨⟨xp, hxp⟩, Sp.within_refl p⟩
  have hqs : ∀ {j}, Sp.within j q = true → j ∉ v.src := fun hw hm => by
    obtain ⟨⟨x, hx⟩, -⟩ := (P.mem h).1 hm
    rw [P.new h hw] at hx; cases hx
  have hRp : get R p = none := by rw [hrg, if_pos hps]
  have hRin : ∀ {j}, Sp.within j q = true → get R j = get m (moved q.length p j) := fun hw => by rw [hrg, if_neg (hqs hw), hcg, if_pos hw]
  have hRq : get R q = some xp := by rw [hRin (Sp.within_refl q), Sp.moved_self]; exact hxp
  have hpq : Sp.within p q = false := by
    cases hw : Sp.within p q with
    | false => rfl
    | true => rw [P.new h hw] at hxp; cases hxp
  refine ⟨hren, ?_, ?_, ?_⟩
  · unfold Tr.exists_; rw [hs]; simp only [at_of P.p0, hRp, Option.isSome_none, Bool.and_false]
  · unfold Tr.exists_; rw [hd]; simp only [at_of P.q0, hRq, Option.isSome_some, Bool.and_true, beq_self_eq_true]
  have hRab : ∀ e, Above e p → get R e = some (true, []) := fun e he => by
    have hme := h.abv hxp he
    rw [hrg, if_neg (fun hm => by have := within_len ((P.mem h).1 hm).2; have := he.lt; omega), hcg, if_neg (fun hw => by rw [P.new h hw] at hme; cases hme), if_neg (fun hl => by rw [(a2 e hl).2] at hme; cases hme)]
    exact hme
  obtain ⟨lack', hl'⟩ := ahead_of (m := R) P.hp (fun e he b hb => by rw [hRab e he] at hb; cases hb)
  obtain ⟨b1, b2⟩ := ahead_some P.hp hl'
  obtain rfl : lack' = [] := by
    cases lack' with
    | nil => rfl
    | cons e l =>
      obtain ⟨c1, c2⟩ := b2 e (by simp)
      rw [hRab e c1] at c2; cases c2
  obtain ⟨v', hpl', hvl⟩ := hR.plans hd hs P.q0 P.p0 ⟨xp, hRq⟩ hpq hRp hl' (fun k x hk hw => by
    rw [hRin hw] at hk
    exact (h.sound hk).2.1)
  have P' := hR.planned hpl'
  rw [hs, hd] at P'
  dsimp only at P'
  have hroom : room R v'.lack.length 0 = true := by
    rw [hvl]
    unfold room
    have := hR.len
    have := hR.bytes
    simp only [List.length_nil, Bool.and_eq_true, decide_eq_true_eq]
    omega
  refine ⟨drop (copy R v') v'.src, ?_, fun j => ?_⟩
  · unfold Tr.rename; rw [hpl']; simp only [hroom, Bool.true_eq_false, if_false]
  · rw [rget, P'.get hR, hvl]
    by_cases hjp : Sp.within j p = true
    · have hn : j ∉ v'.src := fun hm => by
        obtain ⟨⟨x, hx⟩, -⟩ := (P'.mem hR).1 hm
        rw [P'.new hR hjp] at hx; cases hx
      obtain ⟨c1, c2⟩ := Sp.moved_within P.p0 P.q0 hjp
      rw [if_neg hn, if_pos hjp, hRin c1, c2, if_neg]
      intro hl
      have hab := (a2 j hl).1
      have := Sp.within_trans P.hq hab.2.1 P.hp hab.2.2.1 hjp
      rw [P.out] at this; cases this
    · rw [if_neg hjp]
      simp only [List.not_mem_nil, if_false]
      have hjs : j ∉ v.src := fun hm => hjp ((P.mem h).1 hm).2
      by_cases hjq : Sp.within j q = true
      · rw [if_neg (show j ∉ v.lack from fun hl => by rw [P.lack_out hl] at hjq; cases hjq), P.new h hjq]
        split
        · rfl
        · rename_i hn
          cases hg : get R j with
          | none => rfl
          | some x => exact absurd ((P'.mem hR).2 ⟨⟨x, hg⟩, hjq⟩) hn
      · rw [if_neg (fun hm => hjq ((P'.mem hR).1 hm).2), hrg, if_neg hjs, hcg, if_neg hjq]
/-- And what was made for it is taken away with its first part. -/
theorem Ok.back_all (h : Ok m) {x0 : Bytes} {t : List Bytes} {m2 : T} (hpl : plan m s d = (some v, 0)) (hq : (Sp.clean d).1 = glue (x0 :: t)) (hg : Goods (x0 :: t)) (h0 : get m x0 = none) (hm2 : ∀ j, get m2 j = if j ∈ v.lack then some (true, []) else get m j) :
    ∀ j, get (if Sp.parent (Sp.clean d).1 = [] then m2 else (Tr.remove m2 x0).1) j = get m j := by
  have P := h.planned hpl
  obtain ⟨a1, a2⟩ := ahead_some P.hq P.ahead
  have hx0 := hg x0 (by simp)
  have c0 : Cl x0 := by
    obtain ⟨l, e1, g1, e2, e3⟩ := P.hq
    refine ⟨[x0], rfl, fun y hy => by simp at hy; subst hy; exact hx0, by simp, ?_⟩
    rw [hq] at e3
    cases t with
    | nil => exact e3
    | cons y t =>
      have : (glue (x0 :: y :: t)).length = x0.length + (1 + (glue (y :: t)).length) := by show (x0 ++ 47 :: glue (y :: t)).length = _; simp; omega
      omega
  have hup : ∀ j, Above j (Sp.clean d).1 → Sp.within j x0 = true := fun j hj => by
    obtain ⟨j0, ⟨l, rfl, gl, -⟩, hw, -⟩ := hj
    rw [hq, Sp.within_glue hg gl] at hw
    rw [show x0 = glue [x0] from rfl, Sp.within_glue gl (fun y hy => by simp at hy; subst hy; exact hx0)]
    cases l with
    | nil => exact absurd rfl j0
    | cons y l =>
      rw [List.cons_prefix_cons] at hw
      rw [hw.1]
      exact ⟨l, rfl⟩
  by_cases hpar : Sp.parent (Sp.clean d).1 = []
  · intro j
    rw [if_pos hpar, hm2, if_neg]
    intro hl
    rcases (a2 j hl).1.up P.hq with e | e
    · exact (a2 j hl).1.1 (e.trans hpar)
    · rw [hpar] at e; exact e.1 (within_nil e.2.2.1)
  · intro j
    rw [if_neg hpar]
    have hab : Above x0 (Sp.clean d).1 := by
      refine ⟨hx0.1, c0, ?_, fun e => ?_⟩
      · rw [hq, show Sp.within (glue (x0 :: t)) x0 = Sp.within (glue (x0 :: t)) (glue [x0]) from rfl, Sp.within_glue hg (fun y hy => by simp at hy; subst hy; exact hx0)]
        exact ⟨t, rfl⟩
      · rw [← e, show x0 = glue ([] ++ [x0]) from rfl, Sp.parent_glue hx0.2.2.2.2] at hpar
        exact hpar rfl
    have hl0 : x0 ∈ v.lack := by
      rcases a1 x0 hab with ⟨b, hb⟩ | hl
      · rw [h0] at hb; cases hb
      · exact hl
    have hg2 : get m2 x0 = some (true, []) := by rw [hm2, if_pos hl0]
    have hrm : (Tr.remove m2 x0).1 = drop m2 (below m2 x0) := by
      unfold Tr.remove
      rw [c0.clean]
      simp only [ne_eq, not_true_eq_false, if_false]
      rw [if_neg hx0.1, hg2]; rfl
    rw [hrm, get_cut]
    split
    · rename_i hw
      exact (h.bare c0 hx0.1 h0 hw).symm
    · rename_i hw
      rw [hm2, if_neg (fun hl => hw (hup j (a2 j hl).1))]
end back

/-- A copy, and that each of the two is its own. -/
theorem Ok.twin {m : T} (h : Ok m) {s d : Bytes} {m2 : T} (hc : Tr.cpy m s d = (m2, 0)) : exists_ m2 s = true ∧ exists_ m2 d = true ∧ (Tr.remove m2 d).2 = 0 ∧ exists_ (Tr.remove m2 d).1 s = true := by
  unfold Tr.cpy at hc
  split at hc
  · rename_i v e hp
    split at hc
    · cases hc
    · cases hc
      have P := h.planned hp
      obtain ⟨-, -, -, -, -, es, ed, -⟩ := plan_spec hp
      have hs : Sp.clean s = ((Sp.clean s).1, 0) := Prod.ext rfl es
      have hd : Sp.clean d = ((Sp.clean d).1, 0) := Prod.ext rfl ed
      generalize (Sp.clean s).1 = p at P hs
      generalize (Sp.clean d).1 = q at P hd
      obtain ⟨xp, hxp⟩ := P.here
      have hps : p ∈ v.src := (P.mem h).2 ⟨⟨xp, hxp⟩, Sp.within_refl p⟩
      have h1 : get (copy m v) p = some xp := by rw [P.src_in h hps]; exact hxp
      have h2 : get (copy m v) q = some xp := by rw [P.get h, if_pos (Sp.within_refl q), Sp.moved_self]; exact hxp
      have hpq : Sp.within p q = false := by
        cases hw : Sp.within p q with
        | false => rfl
        | true => rw [P.new h hw] at hxp; cases hxp
      have hrm : Tr.remove (copy m v) d = (drop (copy m v) (below (copy m v) q), 0) := by
        unfold Tr.remove
        rw [hd]
        simp only [ne_eq, not_true_eq_false, if_false]
        rw [if_neg P.q0, h2]; rfl
      refine ⟨?_, ?_, by rw [hrm], ?_⟩
      · unfold Tr.exists_; rw [hs]; simp only [at_of P.p0, h1, Option.isSome_some, Bool.and_true, beq_self_eq_true]
      · unfold Tr.exists_; rw [hd]; simp only [at_of P.q0, h2, Option.isSome_some, Bool.and_true, beq_self_eq_true]
      · rw [hrm]
        unfold Tr.exists_
        rw [hs]
        simp only [at_of P.p0, get_cut, hpq, Bool.false_eq_true, if_false, h1, Option.isSome_some, Bool.and_true, beq_self_eq_true]
  · rename_i e hp
    cases hc
    exact absurd rfl (plan_none hp)
end Tr
end Go.Proofs.YtmdpmpdlkaogdaaGreatDoor
