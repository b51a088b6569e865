/- Plain laws: the document's Rename and Copy. No Go here. -/
import Derived.Test.YtmdpmpdlkaogdaaGreatDoorRx
namespace Go.Proofs.YtmdpmpdlkaogdaaGreatDoor
namespace Tr
open Sp (Cl moved)

/-- What stands at or below a path, as it would at another. -/
def mvd (p q : Bytes) (L : T) : T := (L.filter fun x => Sp.within x.1 p).map fun x => (moved p.length q x.1, x.2)
def insM (L l : T) : T := l.foldl (fun L x => ins L x.1 x.2) L
def setM (m l : T) : T := l.foldl (fun m x => set m x.1 x.2) m
theorem nodup_setM : ∀ (l : T) {m : T}, (m.map (·.1)).Nodup → ((setM m l).map (·.1)).Nodup
  | [], _, h => h
  | x :: l, _, h => nodup_setM l (nodup_set x.1 x.2 h)
theorem insM_files : ∀ (l : T) {m : T}, (m.map (·.1)).Nodup → insM (files m) l = files (setM m l)
  | [], _, _ => rfl
  | x :: l, m, h => by
    show insM (ins (files m) x.1 x.2) l = files (setM (set m x.1 x.2) l)
    rw [ins_files h, insM_files l (nodup_set x.1 x.2 h)]
theorem get_setM : ∀ (l m : T) (j : Bytes), (l.map (·.1)).Nodup → get (setM m l) j = match get l j with | some x => some x | none => get m j
  | [], _, _, _ => rfl
  | x :: l, m, j, h => by
    rw [List.map_cons, List.nodup_cons] at h
    show get (setM (set m x.1 x.2) l) j = _
    rw [get_setM l _ j h.2, get_set, get_cons]
    by_cases hj : x.1 = j
    · subst hj
      rw [get_none.2 h.1, if_pos rfl, if_pos rfl]
    · rw [if_neg hj, if_neg (fun e => hj e.symm)]

theorem below_perm (m : T) (p : Bytes) : (((files m).filter fun x => Sp.within x.1 p).map (·.1)).Perm (below m p) := by
  refine List.Perm.trans (((List.mergeSort_perm m _).filter _).map _) ?_
  refine List.Perm.trans ?_ (List.mergeSort_perm _ _).symm
  rw [List.filter_map]
  exact List.Perm.refl _
theorem mvd_keys (m : T) (p q : Bytes) : ((mvd p q (files m)).map (·.1)).Perm ((below m p).map (moved p.length q)) := by
  have h := (below_perm m p).map (moved p.length q)
  rw [List.map_map] at h
  unfold mvd
  rw [List.map_map]
  exact h
theorem mvd_len (m : T) (p q : Bytes) : (mvd p q (files m)).length = (below m p).length := by
  have := (mvd_keys m p q).length_eq
  rwa [List.length_map, List.length_map] at this
theorem mvd_size {m : T} (hn : (m.map (·.1)).Nodup) (p q : Bytes) : size (mvd p q (files m)) = ((below m p).map fun k => ((get m k).getD (true, [])).2.length).sum := by
  have h := ((below_perm m p).map fun k => ((get m k).getD (true, [])).2.length).sum_nat
  rw [← h]
  unfold size mvd
  rw [List.map_map, List.map_map]
  congr 1
  refine List.map_congr_left fun x hx => ?_
  have hm : x ∈ m := files_mem.1 (List.mem_filter.1 hx).1
  show x.2.2.length = ((get m x.1).getD (true, [])).2.length
  rw [mem_get hn (show (x.1, x.2) ∈ m from hm)]; rfl
theorem mvd_get {m : T} {p q : Bytes} (hn : (m.map (·.1)).Nodup) (p0 : p ≠ []) (q0 : q ≠ []) (hnd : ((mvd p q (files m)).map (·.1)).Nodup) (j : Bytes) : get (mvd p q (files m)) j = if Sp.within j q = true then get m (moved q.length p j) else none := by
  have key : ∀ x, get (mvd p q (files m)) j = some x → Sp.within j q = true ∧ get m (moved q.length p j) = some x := fun x hx => by
    obtain ⟨y, hy, e⟩ := List.mem_map.1 (get_mem hx)
    obtain ⟨hy1, hy2⟩ := List.mem_filter.1 hy
    obtain ⟨rfl, rfl⟩ := Prod.mk.inj e
    obtain ⟨a, b⟩ := Sp.moved_within p0 q0 hy2
    exact ⟨a, by rw [b]; exact mem_get hn (files_mem.1 hy1)⟩
  by_cases hw : Sp.within j q = true
  · rw [if_pos hw]
    cases hg : get m (moved q.length p j) with
    | none =>
      cases hv : get (mvd p q (files m)) j with
      | none => rfl
      | some x => have := (key x hv).2; rw [hg] at this; cases this
    | some x =>
      obtain ⟨a, b⟩ := Sp.moved_within q0 p0 hw
      refine mem_get hnd (List.mem_map.2 ⟨(moved q.length p j, x), List.mem_filter.2 ⟨files_mem.2 (get_mem hg), a⟩, ?_⟩)
      dsimp only
      rw [b]
  · rw [if_neg hw]
    cases hv : get (mvd p q (files m)) j with
    | none => rfl
    | some x => exact absurd (key x hv).1 hw

/-- The document's tree after a copy, a rename. -/
theorem two_copy {m : T} {p q : Bytes} {v : Move} {k : List Bytes} (h : Ok m) (P : Planned m p q v) (hk : k.Perm v.lack) : insM (insL (files m) k) (mvd p q (files m)) = files (copy m v) := by
  have hnd : ((mvd p q (files m)).map (·.1)).Nodup := (mvd_keys m p q).nodup_iff.2 (by have := (Planned.inj h P).1; rwa [P.src] at this)
  rw [insL_files k h.nodup, insM_files _ (nodup_make k h.nodup)]
  refine files_congr (nodup_setM _ (nodup_make k h.nodup)) (Ok.nodup_copy h) fun j => ?_
  rw [get_setM _ _ _ hnd, mvd_get h.nodup P.p0 P.q0 hnd, Planned.get h P, get_make]
  have hkm : j ∈ k ↔ j ∈ v.lack := hk.mem_iff
  by_cases hw : Sp.within j q = true
  · have h1 := Planned.new h P hw
    have h2 : j ∉ v.lack := fun hj => by have := Planned.lack_out P hj; rw [hw] at this; cases this
    rw [if_pos hw, if_pos hw, if_neg (fun e => h2 (hkm.1 e)), h1]
    cases get m (moved q.length p j) <;> rfl
  · rw [if_neg hw, if_neg hw]
    by_cases hj : j ∈ k
    · rw [if_pos hj, if_pos (hkm.1 hj)]
    · rw [if_neg hj, if_neg (fun e => hj (hkm.2 e))]
theorem two_rename {m : T} {p q : Bytes} {v : Move} {k : List Bytes} (h : Ok m) (P : Planned m p q v) (hk : k.Perm v.lack) : insM (insL (files (drop m (below m p))) k) (mvd p q (files m)) = files (drop (copy m v) v.src) := by
  have hnd : ((mvd p q (files m)).map (·.1)).Nodup := (mvd_keys m p q).nodup_iff.2 (by have := (Planned.inj h P).1; rwa [P.src] at this)
  have hn1 := nodup_drop (below m p) h.nodup
  rw [insL_files k hn1, insM_files _ (nodup_make k hn1)]
  refine files_congr (nodup_setM _ (nodup_make k hn1)) (nodup_drop _ (Ok.nodup_copy h)) fun j => ?_
  rw [get_setM _ _ _ hnd, mvd_get h.nodup P.p0 P.q0 hnd, get_drop, Planned.get h P, get_make, get_cut]
  have hkm : j ∈ k ↔ j ∈ v.lack := hk.mem_iff
  have hmem := Planned.mem h P (k := j)
  by_cases hw : Sp.within j q = true
  · have h1 := Planned.new h P hw
    have h2 : j ∉ v.lack := fun hj => by have := Planned.lack_out P hj; rw [hw] at this; cases this
    have h3 : j ∉ v.src := fun hj => by obtain ⟨⟨x, hx⟩, -⟩ := hmem.1 hj; rw [h1] at hx; cases hx
    rw [if_pos hw, if_pos hw, if_neg (fun e => h2 (hkm.1 e)), h1, if_neg h3]
    cases get m (moved q.length p j) with
    | some x => rfl
    | none => simp
  · rw [if_neg hw, if_neg hw]
    by_cases hj : j ∈ k
    · have h3 : j ∉ v.src := fun hs => by
        obtain ⟨⟨x, hx⟩, -⟩ := hmem.1 hs
        have := ((ahead_some P.hq P.ahead).2 j (hkm.1 hj)).2
        rw [this] at hx; cases hx
      rw [if_pos hj, if_neg h3, if_pos (hkm.1 hj)]
    · rw [if_neg hj, if_neg (fun e => hj (hkm.2 e))]
      by_cases hs : j ∈ v.src
      · rw [if_pos hs, if_pos (hmem.1 hs).2]
      · rw [if_neg hs]
        by_cases hwp : Sp.within j p = true
        · rw [if_pos hwp]
          cases hg : get m j with
          | none => rfl
          | some x => exact absurd (hmem.2 ⟨⟨x, hg⟩, hwp⟩) hs
        · rw [if_neg hwp]

/-- What is looked at ahead of a move. -/
structure Fine (m : T) (s d : Bytes) (lack : List Bytes) : Prop where
  cs : (Sp.clean s).2 = 0
  cd : (Sp.clean d).2 = 0
  here : (at_ m (Sp.clean s).1).isSome = true
  p0 : (Sp.clean s).1 ≠ []
  out : Sp.within (Sp.clean d).1 (Sp.clean s).1 = false
  free : at_ m (Sp.clean d).1 = none
  ahead : ahead m (Sp.clean d).1 = some lack
theorem Fine.plan {m : T} {s d : Bytes} {lack : List Bytes} (F : Fine m s d lack) : Tr.plan m s d = if (dests (Sp.clean s).1.length (Sp.clean d).1 (below m (Sp.clean s).1)).2 ≠ 0 then (none, (dests (Sp.clean s).1.length (Sp.clean d).1 (below m (Sp.clean s).1)).2)
    else (some ⟨below m (Sp.clean s).1, (dests (Sp.clean s).1.length (Sp.clean d).1 (below m (Sp.clean s).1)).1, lack, ((below m (Sp.clean s).1).map fun k => ((get m k).getD (true, [])).2.length).sum⟩, 0) := by
  have h1 : ¬ (at_ m (Sp.clean s).1).isNone = true := by have := F.here; cases hx : at_ m (Sp.clean s).1 <;> simp_all
  unfold Tr.plan
  rw [if_neg (by rw [F.cs]; simp), if_neg (by rw [F.cd]; simp)]
  dsimp only
  rw [if_neg h1, if_neg (by rw [F.out]; simp [F.p0]), if_neg (by rw [F.free]; simp), F.ahead]
theorem Fine.q0 {m : T} {s d : Bytes} {lack : List Bytes} (F : Fine m s d lack) : (Sp.clean d).1 ≠ [] := (at_none F.free).1
theorem Fine.dests {m : T} {s d : Bytes} {lack : List Bytes} (F : Fine m s d lack) (h : Ok m) :
    ((∀ y ∈ mvd (Sp.clean s).1 (Sp.clean d).1 (files m), (Sp.clean y.1).2 = 0) ∧ ∃ v, Tr.plan m s d = (some v, 0) ∧ v.lack = lack ∧ v.src.length = (mvd (Sp.clean s).1 (Sp.clean d).1 (files m)).length ∧ v.bytes = size (mvd (Sp.clean s).1 (Sp.clean d).1 (files m))) ∨
    ((∃ y ∈ mvd (Sp.clean s).1 (Sp.clean d).1 (files m), (Sp.clean y.1).2 ≠ 0) ∧ Tr.plan m s d = (none, 50)) := by
  have cp := Sp.clean_cl F.cs
  have cq := Sp.clean_cl F.cd
  have hsrc : ∀ k ∈ below m (Sp.clean s).1, Cl k ∧ Sp.within k (Sp.clean s).1 = true := fun k hk => by
    obtain ⟨k1, k2⟩ := mem_below.1 hk
    obtain ⟨x, hx, rfl⟩ := List.mem_map.1 k1
    exact ⟨Cl.of (h.cleaned x hx).2, k2⟩
  have hin : ∀ y ∈ mvd (Sp.clean s).1 (Sp.clean d).1 (files m), ∃ k ∈ below m (Sp.clean s).1, y.1 = moved (Sp.clean s).1.length (Sp.clean d).1 k := fun y hy => by
    have := (mvd_keys m (Sp.clean s).1 (Sp.clean d).1).mem_iff.1 (List.mem_map_of_mem (f := (·.1)) hy)
    obtain ⟨k, hk, e⟩ := List.mem_map.1 this
    exact ⟨k, hk, e.symm⟩
  have hout : ∀ k ∈ below m (Sp.clean s).1, ∃ y ∈ mvd (Sp.clean s).1 (Sp.clean d).1 (files m), y.1 = moved (Sp.clean s).1.length (Sp.clean d).1 k := fun k hk => by
    have := (mvd_keys m (Sp.clean s).1 (Sp.clean d).1).mem_iff.2 (List.mem_map_of_mem (f := moved (Sp.clean s).1.length (Sp.clean d).1) hk)
    obtain ⟨y, hy, e⟩ := List.mem_map.1 this
    exact ⟨y, hy, e⟩
  rcases dests_eq cp cq F.p0 F.q0 _ hsrc with ⟨d1, d2⟩ | ⟨d1, d2⟩
  · refine .inl ⟨fun y hy => ?_, ⟨_, _, _, _⟩, by rw [F.plan, d2, if_neg (by simp)], rfl, ?_, ?_⟩
    · obtain ⟨k, hk, e⟩ := hin y hy
      rw [e, (d1 k hk).clean]
    · exact (mvd_len m _ _).symm
    · exact (mvd_size h.nodup _ _).symm
  · refine .inr ⟨?_, by rw [F.plan, d2, if_pos (by simp)]⟩
    obtain ⟨k, hk, hn⟩ := d1
    obtain ⟨y, hy, e⟩ := hout k hk
    refine ⟨y, hy, ?_⟩
    rw [e]
    obtain ⟨h1, h2⟩ := hsrc k hk
    rcases Sp.clean_moved cp cq h1 F.p0 F.q0 h2 with ⟨c1, -⟩ | ⟨-, c2⟩
    · exact absurd c1 hn
    · rw [c2]; simp
end Tr
end Go.Proofs.YtmdpmpdlkaogdaaGreatDoor
