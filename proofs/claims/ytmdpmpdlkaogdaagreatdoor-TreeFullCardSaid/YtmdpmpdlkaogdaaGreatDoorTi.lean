/- slices.SortFunc at files: what it leaves. -/
import Derived.Test.YtmdpmpdlkaogdaaGreatDoorTh
namespace Go.Proofs.YtmdpmpdlkaogdaaGreatDoor
open Go Go.RowKit Vc Go.Sort

theorem ok_cmp : FnOk P 68 := ⟨_, Tryz.func68, by kernel_rfl, by kernel_rfl⟩

theorem flat_get {α β : Type} (f : α → List β) (k : Nat) (hk : ∀ x, (f x).length = k) (hk0 : 0 < k) : ∀ (l : List α) (t : Nat), (l.flatMap f)[t]? = (l[t / k]?).bind fun x => (f x)[t % k]? := by
  intro l
  induction l with
  | nil => intro t; simp
  | cons x l ih =>
    intro t
    rw [List.flatMap_cons]
    by_cases ht : t < k
    · rw [List.getElem?_append_left (by rw [hk]; exact ht), Nat.div_eq_of_lt ht, Nat.mod_eq_of_lt ht]; rfl
    · obtain ⟨u, rfl⟩ : ∃ u, t = k + u := ⟨t - k, by omega⟩
      rw [List.getElem?_append_right (by rw [hk]; omega), hk, Nat.add_sub_cancel_left, ih, Nat.add_div_left _ hk0, Nat.add_mod_left, List.getElem?_cons_succ]
theorem flat_len {α β : Type} (f : α → List β) (k : Nat) (hk : ∀ x, (f x).length = k) (l : List α) : (l.flatMap f).length = l.length * k := by
  induction l with
  | nil => simp
  | cons x l ih => rw [List.flatMap_cons, List.length_append, hk, ih, List.length_cons, Nat.succ_mul]; omega
theorem flatK_eq {α : Type} [Inhabited α] (enc : α → List Value) (k : Nat) (hk : ∀ x, (enc x).length = k) (hk0 : 0 < k) (d : List α) : flatK enc k d.toArray = (d.flatMap enc).toArray := by
  apply Array.ext'
  apply List.ext_getElem?
  intro t
  rw [flat_get enc k hk hk0]
  by_cases ht : t < d.length * k
  · have h1 : t / k < d.length := Nat.div_lt_of_lt_mul (by rw [Nat.mul_comm]; exact ht)
    have h2 : t % k < k := Nat.mod_lt _ hk0
    simp [flatK, ht, h1, hk, h2]
  · have h1 : d.length ≤ t / k := (Nat.le_div_iff_mul_le hk0).2 (by omega)
    simp [flatK, ht, h1]

theorem fcells_len (x : FE) : (fcells x).length = 3 := rfl
theorem ltOf_cmp (a b : Tr.Bytes) : decide (cmpB a b < 0) = decide (a < b) := by
  unfold cmpB
  rw [bytesLess_lt]
  by_cases h : a < b
  · simp [h]
  · simp [h]; split <;> omega

theorem putCells_take (D cur : Array Value) (h : D.size ≤ cur.size) : (Sort.putCells id 0 D cur).toList.take D.size = D.toList := by
  apply List.ext_getElem?
  intro j
  rw [List.getElem?_take, Array.getElem?_toList, Array.getElem?_toList]
  by_cases hj : j < D.size
  · have hjc : j < cur.size := by omega
    simp only [if_pos hj, Sort.putCells, Array.getElem?_mapIdx, Array.getElem?_eq_getElem hjc, Option.map_some]
    rw [if_pos (by omega)]
    simp [hj]
  · simp [hj]

def sortE (E : List FE) : List FE := E.mergeSort fun x y => decide (x.1 ≤ y.1)

theorem path_inj {E : List FE} (hn : (E.map (·.1)).Nodup) {a b : FE} (ha : a ∈ E) (hb : b ∈ E) (hab : a.1 = b.1) : a = b := by
  induction E with
  | nil => cases ha
  | cons c E ih =>
    rw [List.map_cons, List.nodup_cons] at hn
    obtain ⟨h1, h2⟩ := hn
    rcases List.mem_cons.1 ha with e | ha
    · rcases List.mem_cons.1 hb with e' | hb
      · rw [e, e']
      · exact absurd (List.mem_map.2 ⟨b, hb, by rw [← hab, e]⟩) h1
    · rcases List.mem_cons.1 hb with e' | hb
      · exact absurd (List.mem_map.2 ⟨a, ha, by rw [hab, e']⟩) h1
      · exact ih h2 ha hb

theorem c_SortFunc {w : World} {B : Nat} {v : Value} {E : List FE} (h : w.ownsRow B tF 3 v E.length (E.flatMap fcells)) (hn : (E.map (·.1)).Nodup) (hone : ∀ x ∈ E, x.2.2.1.oneCell' = true) (hl : E.length ≤ 1000000000) :
    Calls P 67 #[v, .func (.func 68) #[] #[]] w fun e w' => e = .returned (.tuple #[]) ∧ w'.ownsRow B tF 3 v E.length ((sortE E).flatMap fcells) ∧ Ext (fun k => v.ownBlock = some k) w w' := by
  by_cases hE : E = []
  · subst hE
    obtain ⟨a, cap, rfl, -, -⟩ := own_slice h
    refine (AnyF.slices_SortFunc_none Tryz.laysSF a cap _ w).mono ?_
    rintro e w' ⟨rfl, rfl⟩
    refine ⟨rfl, ?_, Ext.refl _ _⟩
    rw [show sortE [] = [] by simp [sortE]]; exact h
  · obtain ⟨hlen, ⟨rfl, h0⟩ | ⟨g, cap, cur, rfl, hb, hg, hnc, hm, hs, ht⟩⟩ := h
    · exact absurd (List.eq_nil_of_length_eq_zero h0) hE
    obtain ⟨x0, hx0⟩ := List.exists_mem_of_ne_nil E hE
    have inst : Inhabited {x // x ∈ E} := ⟨⟨x0, hx0⟩⟩
    have hsz : E.attach.toArray.size = E.length := by simp
    have hfl : flatK (fun x : {x // x ∈ E} => fcells x.1) 3 E.attach.toArray = (E.flatMap fcells).toArray := by
      rw [flatK_eq _ 3 (fun _ => rfl) (by omega)]
      congr 1
      conv => rhs; rw [← List.attach_map_subtype_val E, List.flatMap_map]
    have hrow : Row w (.slice (some ⟨g, 0, none⟩) E.length cap) tF 3 E.length (E.flatMap fcells) := Row.own ⟨hlen, .inr ⟨g, cap, cur, rfl, hb, hg, hnc, hm, hs, ht⟩⟩
    have hlt : ∀ x y : {x // x ∈ E}, ltOf (fun x y : {x // x ∈ E} => cmpB x.1.1 y.1.1) x y = decide (x.1.1 < y.1.1) := fun x y => ltOf_cmp _ _
    have hso : Sort.SWO (ltOf fun x y : {x // x ∈ E} => cmpB x.1.1 y.1.1) := by
      refine ⟨fun x => ?_, fun x y z h1 h2 => ?_, fun x y z h1 h2 => ?_⟩
      · rw [hlt]; simp
      · rw [hlt] at *; simp only [decide_eq_true_eq] at *; exact List.lt_trans h1 h2
      · rw [hlt] at *; simp only [decide_eq_false_iff_not, List.not_lt] at *; exact List.le_trans h2 h1
    have hcon := AnyQ.slices_SortFunc_total Tryz.laysSF 3 (fun w => Vc.run_isAgg ag_File) (fun w => Vc.run_sizeOf sz_File) (fun x : {x // x ∈ E} => fcells x.1) (fun _ => rfl)
      (fun x u hu => by
        simp only [fcells, List.mem_cons, List.not_mem_nil, or_false] at hu
        rcases hu with rfl | rfl | rfl
        · rfl
        · rfl
        · exact hone _ x.2) (fun x y => cmpB x.1.1 y.1.1) hso 68 #[] g 0 cap E.attach.toArray w
      (fun args w => by
        obtain ⟨fn, h1, h2, h3⟩ := ok_cmp
        have hne' : ¬ fn.name = "runtime.NumGoroutine" := by simpa using h2
        have hbd' : ¬ fn.body = none := by cases h : fn.body with | none => rw [h] at h3; cases h3 | some c => simp
        simp [callFunc, program, Sem.run, h1, hne', hbd'])
      (fun m os dk _ x y => (c_cmp x.1 y.1 _).mono fun e w' ⟨h1, h2⟩ => ⟨h1, 0, #[.cells (fcells x.1).toArray tF, .cells (fcells y.1).toArray tF], by rw [h2, Sort.alloc_eq_grow, Sort.alloc_eq_grow, Sort.grow_grow]; rfl⟩)
      (fun j hj => by
        rw [hfl] at hj ⊢
        refine ⟨?_, by simp [World.frozen?, hg]⟩
        have hj' : j < (E.flatMap fcells).length := by simpa using hj
        have := hrow.cells rfl j _ (List.getElem?_eq_getElem hj')
        rw [this]
        simp
        rw [List.getElem?_eq_getElem hj']
        rfl)
      (lt_of_obj hg) (by rw [hsz]; omega)
      (fun x y h1 h2 => by
        rw [hlt] at h1 h2
        simp only [decide_eq_false_iff_not, List.not_lt] at h1 h2
        have hp : x.1.1 = y.1.1 := List.le_antisymm h2 h1
        apply Subtype.ext
        exact path_inj hn x.2 y.2 hp)
    rw [hsz] at hcon
    refine hcon.mono ?_
    rintro e w' ⟨rfl, n, os, rfl⟩
    have hfs : flatK (fun x : {x // x ∈ E} => fcells x.1) 3 (E.attach.toArray.toList.mergeSort fun x y => !(ltOf fun x y : {x // x ∈ E} => cmpB x.1.1 y.1.1) y x).toArray = ((sortE E).flatMap fcells).toArray := by
      rw [flatK_eq _ 3 (fun _ => rfl) (by omega)]
      congr 1
      have : (E.attach.toArray.toList.mergeSort fun x y => !(ltOf fun x y : {x // x ∈ E} => cmpB x.1.1 y.1.1) y x).map Subtype.val = sortE E := by
        rw [List.map_mergeSort (s := fun x y => decide (x.1 ≤ y.1))]
        · show (E.attach.map Subtype.val).mergeSort _ = _
          rw [List.attach_map_subtype_val]; rfl
        · intro a _ b _
          rw [hlt]
          by_cases h : b.1.1 < a.1.1
          · have : ¬ a.1.1 ≤ b.1.1 := by rw [List.not_le]; exact h
            simp [h, this]
          · have : a.1.1 ≤ b.1.1 := List.not_lt.1 h
            simp [h, this]
      rw [← this, List.flatMap_map]
    unfold sortWorldK putRowK
    rw [hfs]
    have hsl : (sortE E).length = E.length := List.length_mergeSort E
    obtain ⟨D, hD⟩ : ∃ D, D = ((sortE E).flatMap fcells).toArray := ⟨_, rfl⟩
    have hDl : D.size = E.length * 3 := by rw [hD]; simp [flat_len fcells 3 fcells_len, hsl]
    have hDc : D.size ≤ cur.size := by rw [hDl, hs]; omega
    rw [← hD]
    have hgl := lt_of_obj hg
    have hh : (Sort.grow (Sort.putRow id (Sort.ahead w n) g 0 D) os).heap[g]? = some (.cells (Sort.putCells id 0 D cur) tF (0, 0)) := by
      rw [show (Sort.grow (Sort.putRow id (Sort.ahead w n) g 0 D) os).heap = (Sort.putRow id (Sort.ahead w n) g 0 D).heap ++ os from rfl, Array.getElem?_append_left (by simpa [Sort.putRow, Sort.mapBlock, Sort.ahead] using hgl)]
      simp [Sort.putRow, Sort.mapBlock, Sort.ahead, Array.getElem?_modify, hg, Sort.onCells]
    refine ⟨rfl, ⟨by rw [flat_len fcells 3 fcells_len, hsl], .inr ⟨g, cap, _, rfl, hb, hh, hnc, hm, by simpa [Sort.putCells] using hs, ?_⟩⟩, ?_⟩
    · rw [← hDl, putCells_take D cur hDc, hD]
    · refine ⟨rfl, rfl, rfl, by simp [Sort.grow, Sort.putRow, Sort.mapBlock, Sort.ahead], fun k hk hne => ?_⟩
      rw [show (Sort.grow (Sort.putRow id (Sort.ahead w n) g 0 D) os).heap = (Sort.putRow id (Sort.ahead w n) g 0 D).heap ++ os from rfl, Array.getElem?_append_left (by simpa [Sort.putRow, Sort.mapBlock, Sort.ahead] using hk)]
      have : g ≠ k := fun e => hne (by rw [e]; rfl)
      simp [Sort.putRow, Sort.mapBlock, Sort.ahead, Array.getElem?_modify, this]
end Go.Proofs.YtmdpmpdlkaogdaaGreatDoor
