/- How a tree lies in memory. -/
import Derived.Test.YtmdpmpdlkaogdaaGreatDoorPe
import Derived.Test.YtmdpmpdlkaogdaaGreatDoorVq
import Derived.Test.YtmdpmpdlkaogdaaGreatDoorTr
namespace Go.Proofs.YtmdpmpdlkaogdaaGreatDoor
open Go Go.RowKit Vc

abbrev tN : TypeId := 104
abbrev tT : TypeId := 100
abbrev tB : TypeId := 5

/-- Blocks that hold neither a tree's node nor bytes. -/
def Kd (w : World) (S : Nat → Prop) : Prop := ∀ k, S k → ∀ c e fr, w.heap[k]? = some (.cells c e fr) → e ≠ tN ∧ e ≠ tB
theorem Kd.none (w : World) : Kd w none_ := fun _ h => h.elim
variable {A : Nat → Prop}
/-- A pointer to a node, whose bytes lie in no block of A. -/
def NodeAt (A : Nat → Prop) (w : World) (v : Value) (x : Tr.Nd) : Prop := ∃ b sl, v = .pointer (some ⟨b, 0, none⟩) ∧ w.heap[b]? = some (.cells #[.bool x.1, sl] tN (0, 0)) ∧ (∀ k, sl.ownBlock = some k → ¬ A k) ∧ Row w sl tB 1 x.2.length (encB x.2)
theorem Vc.Row.extK {S : Nat → Prop} {w w' : World} {v : Value} {sz n : Nat} {xs : List Value} (h : Row w v tB sz n xs) (hx : Ext S w w') (hk : Kd w S) : Row w' v tB sz n xs :=
  h.ext hx fun k hkv hS => by
    obtain ⟨cur, fr, hc⟩ := h.kind k hkv
    exact (hk k hS _ _ _ hc).2 rfl
theorem NodeAt.ext {S : Nat → Prop} {w w' : World} {v : Value} {x : Tr.Nd} (h : NodeAt A w v x) (hx : Ext S w w') (hk : Kd w S) : NodeAt A w' v x := by
  obtain ⟨b, sl, rfl, hb, ha, hr⟩ := h
  exact ⟨b, sl, rfl, hx.obj hb (fun hS => (hk b hS _ _ _ hb).1 rfl), ha, hr.extK hx hk⟩
/-- What a look-up may give. -/
def PtrAt (A : Nat → Prop) (w : World) (v : Value) : Option Tr.Nd → Prop
  | none => v = .pointer none
  | some x => NodeAt A w v x
theorem PtrAt.ext {S : Nat → Prop} {w w' : World} {v : Value} {x : Option Tr.Nd} (h : PtrAt A w v x) (hx : Ext S w w') (hk : Kd w S) : PtrAt A w' v x := by
  cases x with
  | none => exact h
  | some x => exact NodeAt.ext h hx hk
def Reps (A : Nat → Prop) (w : World) : AL → Tr.T → Prop
  | [], [] => True
  | (k, v) :: al, (k', x) :: m => k = k' ∧ NodeAt A w v x ∧ Reps A w al m
  | _, _ => False
theorem Reps.ext {S : Nat → Prop} {w w' : World} : ∀ {al : AL} {m : Tr.T}, Reps A w al m → Ext S w w' → Kd w S → Reps A w' al m
  | [], [], _, _, _ => trivial
  | (_, _) :: _, (_, _) :: _, h, hx, hk => ⟨h.1, h.2.1.ext hx hk, h.2.2.ext hx hk⟩
  | [], _ :: _, h, _, _ => h.elim
  | _ :: _, [], h, _, _ => h.elim
theorem Reps.keys {w : World} : ∀ {al : AL} {m : Tr.T}, Reps A w al m → al.map (·.1) = m.map (·.1)
  | [], [], _ => rfl
  | (_, _) :: _, (_, _) :: _, h => by simp only [List.map_cons]; rw [h.1, h.2.2.keys]
  | [], _ :: _, h => h.elim
  | _ :: _, [], h => h.elim
theorem Reps.length {w : World} {al : AL} {m : Tr.T} (h : Reps A w al m) : al.length = m.length := by have := congrArg List.length h.keys; simpa using this
theorem Reps.look {w : World} {al : AL} {m : Tr.T} (h : Reps A w al m) (k : Tr.Bytes) : PtrAt A w ((aget al k).getD (.pointer none)) (Tr.get m k) := by
  induction al generalizing m with
  | nil => cases m with | nil => exact rfl | cons _ _ => exact h.elim
  | cons p al ih =>
    cases m with
    | nil => exact h.elim
    | cons q m =>
      obtain ⟨k1, v⟩ := p
      obtain ⟨k2, x⟩ := q
      obtain ⟨rfl, hn, h⟩ := h
      unfold aget Tr.get
      simp only [List.find?_cons]
      cases hb : (k1 == k) with
      | true => exact hn
      | false => exact ih h
theorem Reps.isSome {w : World} {al : AL} {m : Tr.T} (h : Reps A w al m) (k : Tr.Bytes) : (aget al k).isSome = (Tr.get m k).isSome := by
  induction al generalizing m with
  | nil => cases m with | nil => exact rfl | cons _ _ => exact h.elim
  | cons p al ih =>
    cases m with
    | nil => exact h.elim
    | cons q m =>
      obtain ⟨k1, v⟩ := p
      obtain ⟨k2, x⟩ := q
      obtain ⟨rfl, hn, h⟩ := h
      unfold aget Tr.get
      simp only [List.find?_cons]
      cases hb : (k1 == k) with
      | true => rfl
      | false => exact ih h
theorem Reps.put {w : World} {al : AL} {m : Tr.T} (h : Reps A w al m) (k : Tr.Bytes) {v : Value} {x : Tr.Nd} (hv : NodeAt A w v x) : Reps A w (aset al k v) (Tr.set m k x) := by
  unfold aset Tr.set
  rw [h.keys]
  split
  · rename_i hh; clear hh
    induction al generalizing m with
    | nil => cases m with | nil => trivial | cons _ _ => exact h.elim
    | cons p al ih =>
      cases m with
      | nil => exact h.elim
      | cons q m =>
        obtain ⟨k1, v1⟩ := p
        obtain ⟨k2, x1⟩ := q
        obtain ⟨rfl, hn, h⟩ := h
        simp only [List.map_cons]
        cases hb : (k1 == k) with
        | true => exact ⟨rfl, hv, ih h⟩
        | false => exact ⟨rfl, hn, ih h⟩
  · rename_i hh; clear hh
    induction al generalizing m with
    | nil => cases m with | nil => exact ⟨rfl, hv, trivial⟩ | cons _ _ => exact h.elim
    | cons p al ih =>
      cases m with
      | nil => exact h.elim
      | cons q m => exact ⟨h.1, h.2.1, ih h.2.2⟩
theorem Reps.del {w : World} {al : AL} {m : Tr.T} (h : Reps A w al m) (k : Tr.Bytes) : Reps A w (adel al k) (Tr.del m k) := by
  unfold adel Tr.del
  induction al generalizing m with
  | nil => cases m with | nil => trivial | cons _ _ => exact h.elim
  | cons p al ih =>
    cases m with
    | nil => exact h.elim
    | cons q m =>
      obtain ⟨k1, v1⟩ := p
      obtain ⟨k2, x1⟩ := q
      obtain ⟨rfl, hn, h⟩ := h
      simp only [List.filter_cons]
      cases hb : (k1 == k) with
      | true => exact ih h
      | false => exact ⟨rfl, hn, ih h⟩

/-- Block bt is a tree: its map is block bm, its paths and nodes are m, the bytes that it counts sz. -/
structure TreeAt (A : Nat → Prop) (w : World) (bt bm : Nat) (m : Tr.T) (sz : Int) : Prop where
  cell : w.heap[bt]? = some (.cells #[.map (some bm), .int .i64 sz] tT (0, 0))
  reps : ∃ al, MapAt w bm al ∧ Reps A w al m
  low : ∀ k, A k → k < w.heap.size
theorem TreeAt.lowAt {w w' : World} {bt bm : Nat} {m : Tr.T} {sz : Int} (h : TreeAt A w bt bm m sz) (hs : w.heap.size ≤ w'.heap.size) : ∀ k, A k → k < w'.heap.size := fun k hk => Nat.lt_of_lt_of_le (h.low k hk) hs
theorem TreeAt.nil_any {w : World} {bt bm : Nat} {sz : Int} (h : TreeAt none_ w bt bm [] sz) (hA : ∀ k, A k → k < w.heap.size) : TreeAt A w bt bm [] sz := by
  obtain ⟨al, h1, h2⟩ := h.reps
  cases al with
  | nil => exact ⟨h.cell, ⟨[], h1, trivial⟩, hA⟩
  | cons _ _ => exact h2.elim
/-- The blocks that a tree's methods turn. -/
def Two (bt bm : Nat) : Nat → Prop := fun k => k = bt ∨ k = bm
theorem TreeAt.kd {w : World} {bt bm : Nat} {m : Tr.T} {sz : Int} (h : TreeAt A w bt bm m sz) : Kd w (Two bt bm) := by
  rintro k (rfl | rfl) c e fr hc
  · rw [h.cell] at hc; cases hc; exact ⟨by decide, by decide⟩
  · obtain ⟨al, ⟨es, cl, hm, _⟩, _⟩ := h.reps
    rw [hm] at hc; cases hc
theorem TreeAt.ne {w : World} {bt bm : Nat} {m : Tr.T} {sz : Int} (h : TreeAt A w bt bm m sz) : bt ≠ bm := by
  rintro rfl
  obtain ⟨al, ⟨es, cl, hm, _⟩, _⟩ := h.reps
  rw [h.cell] at hm; cases hm
theorem TreeAt.lt {w : World} {bt bm : Nat} {m : Tr.T} {sz : Int} (h : TreeAt A w bt bm m sz) : bt < w.heap.size ∧ bm < w.heap.size := by
  obtain ⟨al, hm, _⟩ := h.reps
  exact ⟨lt_of_obj h.cell, hm.lt⟩
theorem TreeAt.nodup {w : World} {bt bm : Nat} {m : Tr.T} {sz : Int} (h : TreeAt A w bt bm m sz) : (m.map (·.1)).Nodup := by
  obtain ⟨al, hm, hr⟩ := h.reps
  rw [← hr.keys]; exact hm.nodup
theorem TreeAt.ext {S : Nat → Prop} {w w' : World} {bt bm : Nat} {m : Tr.T} {sz : Int} (h : TreeAt A w bt bm m sz) (hx : Ext S w w') (hk : Kd w S) (h1 : ¬ S bt) (h2 : ¬ S bm) : TreeAt A w' bt bm m sz := by
  obtain ⟨al, hm, hr⟩ := h.reps
  exact ⟨hx.obj h.cell h1, ⟨al, hm.ext hx h2, hr.ext hx hk⟩, fun k hk => Nat.lt_of_lt_of_le (h.low k hk) hx.size⟩
theorem TreeAt.ext0 {w w' : World} {bt bm : Nat} {m : Tr.T} {sz : Int} (h : TreeAt A w bt bm m sz) (hx : Ext none_ w w') : TreeAt A w' bt bm m sz := h.ext hx (Kd.none w) id id
/-- Another tree stays as it is. -/
theorem TreeAt.other {w w' : World} {bt bm ct cm : Nat} {m k : Tr.T} {sz tz : Int} (h : TreeAt A w bt bm m sz) (h' : TreeAt A w ct cm k tz) (hx : Ext (Two ct cm) w w') (h1 : bt ≠ ct) (h2 : bm ≠ cm) : TreeAt A w' bt bm m sz := by
  refine h.ext hx h'.kd ?_ ?_
  · rintro (e | e)
    · exact h1 e
    · subst e
      obtain ⟨al, ⟨es, cl, hm, _⟩, _⟩ := h'.reps
      rw [h.cell] at hm; cases hm
  · rintro (e | e)
    · subst e
      obtain ⟨al, ⟨es, cl, hm, _⟩, _⟩ := h.reps
      rw [h'.cell] at hm; cases hm
    · exact h2 e
theorem NodeAt.step {B : Nat → Prop} {w w' : World} {v : Value} {x : Tr.Nd} (h : NodeAt A w v x) (hx : Ext A w w') (hk : ∀ k, A k → ∃ c fr, w.heap[k]? = some (.cells c tB fr)) (hB : ∀ k, B k → A k ∨ w.heap.size ≤ k) : NodeAt B w' v x := by
  obtain ⟨b, sl, rfl, hb, ha, hr⟩ := h
  refine ⟨b, sl, rfl, hx.obj hb (fun hA => ?_), fun k hkv hBk => ?_, hr.ext hx ha⟩
  · obtain ⟨c, fr, h⟩ := hk b hA
    rw [hb] at h; cases h
  · rcases hB k hBk with h | h
    · exact ha k hkv h
    · have := hr.lt k hkv; omega
theorem Reps.step {B : Nat → Prop} {w w' : World} : ∀ {al : AL} {m : Tr.T}, Reps A w al m → Ext A w w' → (∀ k, A k → ∃ c fr, w.heap[k]? = some (.cells c tB fr)) → (∀ k, B k → A k ∨ w.heap.size ≤ k) → Reps B w' al m
  | [], [], _, _, _, _ => trivial
  | (_, _) :: _, (_, _) :: _, h, hx, hk, hB => ⟨h.1, h.2.1.step hx hk hB, h.2.2.step hx hk hB⟩
  | [], _ :: _, h, _, _, _ => h.elim
  | _ :: _, [], h, _, _, _ => h.elim
/-- Bytes that a tree has nothing of may turn; and the tree has nothing of what is new. -/
theorem TreeAt.step {B : Nat → Prop} {w w' : World} {bt bm : Nat} {m : Tr.T} {sz : Int} (h : TreeAt A w bt bm m sz) (hx : Ext A w w') (hk : ∀ k, A k → ∃ c fr, w.heap[k]? = some (.cells c tB fr)) (hB : ∀ k, B k → A k ∨ w.heap.size ≤ k) (hlt : ∀ k, B k → k < w'.heap.size) : TreeAt B w' bt bm m sz := by
  obtain ⟨al, ⟨es, cl, hm, h2⟩, hr⟩ := h.reps
  refine ⟨hx.obj h.cell (fun hA => ?_), ⟨al, ⟨es, cl, hx.obj hm (fun hA => ?_), h2⟩, hr.step hx hk hB⟩, hlt⟩
  · obtain ⟨c, fr, h'⟩ := hk bt hA
    rw [h.cell] at h'; cases h'
  · obtain ⟨c, fr, h'⟩ := hk bm hA
    rw [hm] at h'; cases h'
/-- It has nothing of what is new. -/
theorem TreeAt.fresh {B : Nat → Prop} {w w' : World} {bt bm : Nat} {m : Tr.T} {sz : Int} (h : TreeAt none_ w bt bm m sz) (hx : Ext none_ w w') (hB : ∀ k, B k → w.heap.size ≤ k ∧ k < w'.heap.size) : TreeAt B w' bt bm m sz :=
  h.step hx (fun _ h => h.elim) (fun k hk => .inr (hB k hk).1) (fun k hk => (hB k hk).2)
/-- Cells that a tree's own blocks have not. -/
def calm : Value → Bool | .map _ | .int .i64 _ => false | _ => true
/-- What came in stays as it is, whatever is done to the tree. -/
theorem Vc.RowA.two {w w' : World} {bt bm : Nat} {m : Tr.T} {sz : Int} {v : Value} {n : Nat} {xs : List Value} (h : RowA w v n xs) (hT : TreeAt A w bt bm m sz) (hx : Ext (Two bt bm) w w') (hc : ∀ u ∈ xs, calm u = true) : RowA w' v n xs :=
  h.keep hx.size fun ad u hu hb hcell => hx.block _ hb fun hS => by
    have hcu := hc u hu
    rcases hS with e | e
    · unfold World.cell? at hcell
      rw [e, hT.cell] at hcell
      simp only at hcell
      split at hcell
      · cases hcell
      · match ad.off, hcell with
        | 0, hcell => simp at hcell; subst hcell; cases hcu
        | 1, hcell => simp at hcell; subst hcell; cases hcu
        | k + 2, hcell => simp at hcell
    · obtain ⟨al, ⟨es, cl, hm, _⟩, _⟩ := hT.reps
      unfold World.cell? at hcell
      rw [e, hm] at hcell
      cases hcell
theorem calmB (l : List UInt8) : ∀ u ∈ encB l, calm u = true := by intro u hu; simp [encB] at hu; obtain ⟨b, _, rfl⟩ := hu; rfl
theorem TreeAt.c0 {w : World} {bt bm : Nat} {m : Tr.T} {sz : Int} (h : TreeAt A w bt bm m sz) : w.cell? ⟨bt, 0, none⟩ = some (.map (some bm)) := cell_of h.cell rfl
theorem TreeAt.c1 {w : World} {bt bm : Nat} {m : Tr.T} {sz : Int} (h : TreeAt A w bt bm m sz) : w.cell? ⟨bt, 1, none⟩ = some (.int .i64 sz) := cell_of h.cell rfl
theorem TreeAt.len {w : World} {bt bm : Nat} {m : Tr.T} {sz : Int} (h : TreeAt A w bt bm m sz) : ∃ es c, w.heap[bm]? = some (.map es c) ∧ es.size = m.length := by
  obtain ⟨al, ⟨es, c, h1, h2, rfl⟩, hr⟩ := h.reps
  refine ⟨es, c, h1, ?_⟩
  have := hr.length
  simpa [absM] using this
abbrev pT (b : Nat) : Value := .pointer (some ⟨b, 0, none⟩)
/-- The string list of a call's own. -/
abbrev Strs (B : Nat) (w : World) (v : Value) (l : List Tr.Bytes) : Prop := w.ownsRow B 9 1 v l.length (encT l)
end Go.Proofs.YtmdpmpdlkaogdaaGreatDoor
