/- Plain laws: the tree of files (TreeOf). No Go here. -/
import Derived.Test.YtmdpmpdlkaogdaaGreatDoorRx
namespace Go.Proofs.YtmdpmpdlkaogdaaGreatDoor
namespace Tr
open Sp (Cl)

/-- Is a directory told twice? -/
def isDir (o : Option Nd) : Bool := match o with | some x => x.1 | none => false
/-- One file. -/
def step (m : T) (k : Bytes) (x : Nd) : T × Int := if x.1 then mkdir m k else write m k x.2
theorem Ok.step {m : T} (h : Ok m) (k : Bytes) (x : Nd) : Ok (Tr.step m k x).1 := by
  unfold Tr.step
  split
  · exact h.mkdir _
  · exact h.write _ _
/-- The tree of files, one after another; none: refused. -/
def ofF : T → List Bytes → T → Option T × Int
  | m, _, [] => (some m, 0)
  | m, seen, (s, x) :: l =>
    if (Sp.clean s).2 ≠ 0 then (none, (Sp.clean s).2)
    else if seen.contains (Sp.clean s).1 || (x.1 && isDir (at_ m (Sp.clean s).1)) then (none, 53)
    else if (step m (Sp.clean s).1 x).2 ≠ 0 then (none, (step m (Sp.clean s).1 x).2)
    else ofF (step m (Sp.clean s).1 x).1 (seen ++ [(Sp.clean s).1]) l
def of (l : T) : Option T × Int := ofF [] [] l
theorem ofF_none : ∀ (l m : T) (seen : List Bytes), (ofF m seen l).1 = none → (ofF m seen l).2 ≠ 0 := by
  intro l
  induction l with
  | nil => intro m seen h; cases h
  | cons p l ih =>
    intro m seen
    obtain ⟨s, x⟩ := p
    unfold ofF
    split
    · rename_i h; intro _; exact h
    · split
      · intro _; simp
      · split
        · rename_i h; intro _; exact h
        · exact ih _ _
theorem ofF_some : ∀ (l m : T) (seen : List Bytes), (ofF m seen l).1 ≠ none → (ofF m seen l).2 = 0 := by
  intro l
  induction l with
  | nil => intro m seen _; rfl
  | cons p l ih =>
    intro m seen
    obtain ⟨s, x⟩ := p
    unfold ofF
    split
    · intro h; exact absurd rfl h
    · split
      · intro h; exact absurd rfl h
      · split
        · intro h; exact absurd rfl h
        · exact ih _ _
theorem ofF_ok : ∀ (l m : T) (seen : List Bytes) (m' : T), Ok m → (ofF m seen l).1 = some m' → Ok m' := by
  intro l
  induction l with
  | nil => intro m seen m' h e; cases e; exact h
  | cons p l ih =>
    intro m seen m' h
    obtain ⟨s, x⟩ := p
    unfold ofF
    split
    · intro e; cases e
    · split
      · intro e; cases e
      · split
        · intro e; cases e
        · exact ih _ _ _ (h.step _ _)
/-- What is written by a path is written by its one form. -/
theorem mkdir_clean {m : T} {s : Bytes} (h : (Sp.clean s).2 = 0) : mkdir m s = mkdir m (Sp.clean s).1 := by
  unfold mkdir
  rw [(Sp.clean_cl h).clean, h]
theorem write_clean {m : T} {s b : Bytes} (h : (Sp.clean s).2 = 0) : write m s b = write m (Sp.clean s).1 b := by
  unfold write put
  rw [(Sp.clean_cl h).clean, h]

theorem lt_append (a b : Bytes) (h : b ≠ []) : a < a ++ b := by
  induction a with
  | nil =>
    cases b with
    | nil => exact absurd rfl h
    | cons c b => exact List.nil_lt_cons c b
  | cons c a ih => exact List.cons_lt_cons_iff.2 (.inr ⟨rfl, ih⟩)
theorem Above.less {e k : Bytes} (h : Above e k) : e < k := by
  obtain ⟨h0, -, hw, hne⟩ := h
  obtain ⟨r, rfl, hr⟩ := (Sp.within_iff h0).1 hw
  exact lt_append _ _ fun e => hne (by rw [e]; simp)
theorem set_new {α : Type} {m : List (Bytes × α)} {k : Bytes} (v : α) (h : get m k = none) : set m k v = m ++ [(k, v)] := by
  unfold set
  rw [if_neg (by have := get_none.1 h; simpa using this)]
/-- A tree's files, in order, are that tree. -/
theorem of_again {L : T} (hok : Ok L) (hs : Sorted L) : ∀ (rest pre : T), L = pre ++ rest → ofF pre (pre.map (·.1)) rest = (some L, 0) := by
  intro rest
  induction rest with
  | nil => intro pre h; rw [List.append_nil] at h; rw [h]; rfl
  | cons p rest ih =>
    intro pre h
    obtain ⟨k, x⟩ := p
    have hmem : (k, x) ∈ L := by rw [h]; simp
    have hgk : get L k = some x := mem_get hok.nodup hmem
    obtain ⟨hk0, hcl, -, hdir, hmax⟩ := hok.sound hgk
    have hn := hok.nodup
    rw [h, List.map_append, List.nodup_append] at hn
    have hkpre : k ∉ pre.map (·.1) := fun hm => hn.2.2 k hm k (by simp) rfl
    have hgp : get pre k = none := get_none.2 hkpre
    have hlt : ∀ q ∈ rest, k < q.1 := by
      unfold Sorted at hs
      rw [h, List.pairwise_append] at hs
      exact (List.pairwise_cons.1 hs.2.1).1
    have habv : ∀ e, Above e k → get pre e = some (true, []) := fun e he => by
      have hge := hok.abv hgk he
      have hm := get_mem hge
      rw [h] at hm
      rcases List.mem_append.1 hm with hm | hm
      · exact mem_get hn.1 hm
      · rcases List.mem_cons.1 hm with hm | hm
        · have : e = k := congrArg Prod.fst hm
          exact absurd this he.2.2.2
        · exact absurd (lt_tr (hlt _ hm) he.less) (lt_irr _)
    have hah : ahead pre k = some [] := by
      obtain ⟨l, hl⟩ := ahead_of (m := pre) hcl (fun e he b hb => by rw [habv e he] at hb; cases hb)
      obtain ⟨-, b2⟩ := ahead_some hcl hl
      cases l with
      | nil => exact hl
      | cons e l =>
        obtain ⟨c1, c2⟩ := b2 e (by simp)
        rw [habv e c1] at c2; cases c2
    have hsz : size L = size pre + (x.2.length + size rest) := by rw [h, size_append, size_cons]
    have hln : L.length = pre.length + (rest.length + 1) := by rw [h]; simp
    have hL1 := hok.len
    have hL2 := hok.bytes
    unfold ofF
    rw [hcl.clean]
    simp only [ne_eq, not_true_eq_false, if_false]
    have hcon : ((pre.map (·.1)).contains k || (x.1 && isDir (at_ pre k))) = false := by
      rw [at_of hk0, hgp]
      simp only [isDir, Bool.and_false, Bool.or_false]
      rw [← Bool.not_eq_true]
      simpa using hkpre
    rw [if_neg (by rw [hcon]; simp)]
    have hnext : ∀ m', m' = pre ++ [(k, x)] → ofF m' (pre.map (·.1) ++ [k]) rest = (some L, 0) := fun m' e => by
      rw [e]
      have := ih (pre ++ [(k, x)]) (by rw [h]; simp)
      simpa using this
    obtain ⟨d, b⟩ := x
    cases d with
    | true =>
      have hb : b = [] := hdir rfl
      subst hb
      have hr : mkdir pre k = (pre ++ [(k, (true, []))], 0) := by
        unfold mkdir
        rw [hcl.clean]
        simp only [ne_eq, not_true_eq_false, if_false]
        rw [at_of hk0, hgp, hah]
        have hroom : room pre (([] : List Bytes).length + 1) 0 = true := by
          unfold room
          simp only [List.length_nil, Bool.and_eq_true, decide_eq_true_eq]
          omega
        simp only [hroom, Bool.true_eq_false, if_false, List.nil_append]
        rw [show make pre [k] = set pre k (true, []) from rfl, set_new _ hgp]
      have hst : step pre k (true, []) = (pre ++ [(k, (true, []))], 0) := hr
      rw [hst, if_neg (by simp)]
      exact hnext _ rfl
    | false =>
      have hr : write pre k b = (pre ++ [(k, (false, b))], 0) := by
        obtain ⟨-, hput⟩ := put_ok (m := pre) (s := k) (b := b) (more := false) (ox := none) (lack := []) (by rw [hcl.clean]; simp) (by rw [hcl.clean, at_of hk0]; exact hgp) (fun x hx => by cases hx) (by rw [hcl.clean]; exact hah)
        unfold write
        rw [hput, hcl.clean]
        have hroom : room pre (putN none []) ((putB none b false).length - old pre k) = true := by
          unfold room putN putB old
          rw [hgp]
          simp only [List.length_nil, Bool.and_eq_true, decide_eq_true_eq, Option.getD_none]
          dsimp only at hsz
          omega
        rw [if_neg (by
          rw [hroom]
          simp only [putB, Bool.true_eq_false, or_false]
          dsimp only at hmax
          omega)]
        rw [show make pre [] = pre from rfl, set_new _ hgp]
        rfl
      have hst : step pre k (false, b) = (pre ++ [(k, (false, b))], 0) := hr
      rw [hst, if_neg (by simp)]
      exact hnext _ rfl
theorem of_files {m : T} (hok : Ok m) : of (files m) = (some (files m), 0) := by
  have hp : (files m).Perm m := List.mergeSort_perm m _
  have hok' : Ok (files m) := Ok.mk' (files_nodup hok.nodup) (fun k x hk => by
    rw [files_get hok.nodup] at hk
    obtain ⟨a, b, c, d⟩ := hok.sound hk
    exact ⟨a, b, by rw [files_get hok.nodup]; exact c, d⟩) (by rw [files_len]; exact hok.len) (by rw [files_size]; exact hok.bytes)
  exact of_again hok' (files_sorted hok.nodup) (files m) [] rfl
theorem files_files {m : T} (hn : (m.map (·.1)).Nodup) : files (files m) = files m := files_perm hn (List.mergeSort_perm m _)
end Tr
end Go.Proofs.YtmdpmpdlkaogdaaGreatDoor
