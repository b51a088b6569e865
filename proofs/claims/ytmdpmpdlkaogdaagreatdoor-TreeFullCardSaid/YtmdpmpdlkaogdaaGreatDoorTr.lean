/- The plain laws' words: the tree, as a list of paths with what stands there. No Go here. -/
import Derived.Test.YtmdpmpdlkaogdaaGreatDoorSp
namespace Go.Proofs.YtmdpmpdlkaogdaaGreatDoor
namespace Tr
abbrev Bytes := Sp.Bytes
abbrev Nd := Bool × Bytes
abbrev T := List (Bytes × Nd)

def get {α : Type} (m : List (Bytes × α)) (k : Bytes) : Option α := (m.find? (·.1 == k)).map (·.2)
def set {α : Type} (m : List (Bytes × α)) (k : Bytes) (v : α) : List (Bytes × α) := if (m.map (·.1)).contains k then m.map (fun p => if p.1 == k then (k, v) else p) else m ++ [(k, v)]
def del {α : Type} (m : List (Bytes × α)) (k : Bytes) : List (Bytes × α) := m.filter (fun p => !(p.1 == k))
/-- The bytes of all files. -/
def size (m : T) : Nat := (m.map (·.2.2.length)).sum
def at_ (m : T) (p : Bytes) : Option Nd := if p = [] then some (true, []) else get m p
def aheadF (m : T) : Nat → Bytes → Option (List Bytes)
  | 0, _ => some []
  | n + 1, d => if d = [] then some [] else match get m d with
    | none => (aheadF m n (Sp.parent d)).map (d :: ·)
    | some x => if x.1 then aheadF m n (Sp.parent d) else none
/-- The directories that lack ahead of a path, from behind; none: a file is ahead. -/
def ahead (m : T) (p : Bytes) : Option (List Bytes) := aheadF m p.length (Sp.parent p)
def room (m : T) (files bytes : Int) : Bool := decide (files ≤ 500 - m.length) && decide (bytes ≤ 1048576 - size m)
def make (m : T) (l : List Bytes) : T := l.foldl (fun m d => set m d (true, [])) m
def put (m : T) (s : Bytes) (b : Bytes) (more : Bool) : T × Int :=
  if (Sp.clean s).2 ≠ 0 then (m, (Sp.clean s).2) else
  let p := (Sp.clean s).1
  match at_ m p with
  | some x =>
    if x.1 then (m, 54) else
    match ahead m p with
    | none => (m, 54)
    | some lack =>
      let b' := if more then x.2 ++ b else b
      if 65536 < b'.length ∨ room m 0 ((b'.length : Int) - x.2.length) = false then (m, 55) else (set (make m lack) p (false, b'), 0)
  | none =>
    match ahead m p with
    | none => (m, 54)
    | some lack => if 65536 < b.length ∨ room m (lack.length + 1) b.length = false then (m, 55) else (set (make m lack) p (false, b), 0)
def write (m : T) (s b : Bytes) : T × Int := put m s b false
def append (m : T) (s b : Bytes) : T × Int := put m s (if 65536 < b.length then b.take 65537 else b) true
def read (m : T) (s : Bytes) : Bytes × Int :=
  if (Sp.clean s).2 ≠ 0 then ([], (Sp.clean s).2) else
  let p := (Sp.clean s).1
  match at_ m p with
  | some x => if x.1 then ([], 54) else match ahead m p with
    | none => ([], 54)
    | some _ => (x.2, 0)
  | none => match ahead m p with
    | none => ([], 54)
    | some _ => ([], 52)
def mkdir (m : T) (s : Bytes) : T × Int :=
  if (Sp.clean s).2 ≠ 0 then (m, (Sp.clean s).2) else
  let p := (Sp.clean s).1
  match at_ m p with
  | some x => if x.1 then (m, 0) else (m, 54)
  | none => match ahead m p with
    | none => (m, 54)
    | some lack => if room m (lack.length + 1) 0 = false then (m, 55) else (make m (lack ++ [p]), 0)
def sort (l : List Bytes) : List Bytes := l.mergeSort fun x y => decide (x ≤ y)
def below (m : T) (p : Bytes) : List Bytes := sort ((m.map (·.1)).filter fun k => Sp.within k p)
def drop (m : T) (l : List Bytes) : T := l.foldl del m
def remove (m : T) (s : Bytes) : T × Int :=
  if (Sp.clean s).2 ≠ 0 then (m, (Sp.clean s).2) else
  let p := (Sp.clean s).1
  if p = [] then (m, 54) else if (get m p).isNone then (m, 52) else (drop m (below m p), 0)
def exists_ (m : T) (s : Bytes) : Bool := (Sp.clean s).2 == 0 && (at_ m (Sp.clean s).1).isSome
structure Move where
  src : List Bytes
  dst : List Bytes
  lack : List Bytes
  bytes : Nat
/-- Where the paths come to; none: a path is too long or too deep there. -/
def dests (n : Nat) (to : Bytes) : List Bytes → List Bytes × Int
  | [] => ([], 0)
  | k :: l => let c := Sp.clean (to ++ k.drop n); if c.2 ≠ 0 then ([], c.2) else let r := dests n to l; if r.2 ≠ 0 then ([], r.2) else (c.1 :: r.1, 0)
def plan (m : T) (s d : Bytes) : Option Move × Int :=
  if (Sp.clean s).2 ≠ 0 then (none, (Sp.clean s).2) else
  if (Sp.clean d).2 ≠ 0 then (none, (Sp.clean d).2) else
  let p := (Sp.clean s).1
  let q := (Sp.clean d).1
  if (at_ m p).isNone then (none, 52) else
  if p = [] ∨ Sp.within q p = true then (none, 54) else
  if (at_ m q).isSome then (none, 53) else
  match ahead m q with
  | none => (none, 54)
  | some lack =>
    let l := below m p
    let r := dests p.length q l
    if r.2 ≠ 0 then (none, r.2) else (some ⟨l, r.1, lack, (l.map fun k => ((get m k).getD (true, [])).2.length).sum⟩, 0)
def copyL (m : T) : List Bytes → List Bytes → T
  | k :: l, d :: r => copyL (set m d ((get m k).getD (true, []))) l r
  | _, _ => m
def copy (m : T) (v : Move) : T := copyL (make m v.lack) v.src v.dst
def rename (m : T) (s d : Bytes) : T × Int :=
  match plan m s d with
  | (some v, _) => if room m v.lack.length 0 = false then (m, 55) else (drop (copy m v) v.src, 0)
  | (none, e) => (m, e)
def cpy (m : T) (s d : Bytes) : T × Int :=
  match plan m s d with
  | (some v, _) => if room m (v.lack.length + v.src.length) v.bytes = false then (m, 55) else (copy m v, 0)
  | (none, e) => (m, e)
/-- All, in order. -/
def files (m : T) : T := m.mergeSort fun x y => decide (x.1 ≤ y.1)

/-- What a tree always is. -/
structure Ok (m : T) : Prop where
  nodup : (m.map (·.1)).Nodup
  cleaned : ∀ p ∈ m, p.1 ≠ [] ∧ Sp.clean p.1 = (p.1, 0)
  up : ∀ p ∈ m, Sp.parent p.1 = [] ∨ ∃ b, get m (Sp.parent p.1) = some (true, b)
  dir : ∀ p ∈ m, p.2.1 = true → p.2.2 = []
  max : ∀ p ∈ m, p.2.2.length ≤ 65536
  len : m.length ≤ 500
  bytes : size m ≤ 1048576

theorem Ok.nil : Ok [] := ⟨by simp, by simp, by simp, by simp, by simp, by simp, by simp [size]⟩
theorem get_mem {α : Type} {m : List (Bytes × α)} {k : Bytes} {v : α} (h : get m k = some v) : (k, v) ∈ m := by
  unfold get at h
  cases hf : m.find? (·.1 == k) with
  | none => rw [hf] at h; cases h
  | some p =>
    rw [hf] at h
    have h1 := List.find?_some hf
    have h2 := List.mem_of_find?_eq_some hf
    simp only [beq_iff_eq] at h1
    simp only [Option.map_some, Option.some.injEq] at h
    obtain ⟨a, b⟩ := p
    subst h1; subst h; exact h2
theorem mem_get {α : Type} {m : List (Bytes × α)} {k : Bytes} {v : α} (hn : (m.map (·.1)).Nodup) (h : (k, v) ∈ m) : get m k = some v := by
  induction m with
  | nil => cases h
  | cons p m ih =>
    simp only [List.map_cons, List.nodup_cons] at hn
    unfold get
    rw [List.find?_cons]
    rcases List.mem_cons.1 h with h | h
    · subst h; simp
    · have : p.1 ≠ k := fun e => hn.1 (List.mem_map.2 ⟨_, h, e.symm⟩)
      rw [show (p.1 == k) = false from by simpa using this]
      exact ih hn.2 h
theorem get_none {α : Type} {m : List (Bytes × α)} {k : Bytes} : get m k = none ↔ k ∉ m.map (·.1) := by
  unfold get
  rw [Option.map_eq_none_iff, List.find?_eq_none]
  simp only [beq_iff_eq, List.mem_map, not_exists, not_and]
end Tr
end Go.Proofs.YtmdpmpdlkaogdaaGreatDoor
