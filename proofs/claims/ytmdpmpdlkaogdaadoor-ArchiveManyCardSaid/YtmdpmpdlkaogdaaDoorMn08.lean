/- The walk of reader.number. Plain laws: the tree of files (TreeOf). No Go here. Plain words: what an archive's entries are. No Go here. The calculus' conversion from bytes of any row to a string. Nothing here speaks of the program. The walk of reader.all. The calculus: deferred closures that recover, results that lie in variables. Nothing here speaks of the program. Walks: archive.Open's deferred closure, strings.HasPrefix. Walks: (*haversackref7.Tree).Append, Read, Mkdir, Remove, Exists. The walk of tree.Of. The walk of archive.Open. The walk of the document's Of. The walk of the document's Open. The calculus: arrays of bytes, held against one another. Nothing here speaks of the program. -/
import Derived.Test.YtmdpmpdlkaogdaaDoorMn07
import Derived.Test.YtmdpmpdlkaogdaaDoorMn06
import Derived.Test.YtmdpmpdlkaogdaaDoorMn01
import Derived.Recover
import Derived.Test.YtmdpmpdlkaogdaaDoorMn02
import Derived.Stop.BytesEq

namespace Go.Proofs.YtmdpmpdlkaogdaaDoor
namespace Ar
/-- A number out of its bytes. -/
def val (l : List UInt8) : Nat := l.foldl (fun n c => n * 256 + c.toNat) 0
theorem val_snoc (l : List UInt8) (c : UInt8) : val (l ++ [c]) = val l * 256 + c.toNat := by simp [val]
theorem val_lt (l : List UInt8) : val l < 256 ^ l.length := by
  rw [← List.reverse_reverse l]
  induction l.reverse with
  | nil => decide
  | cons c r ih =>
    rw [List.reverse_cons, val_snoc, List.length_append, List.length_singleton, Nat.pow_succ]
    have := c.toNat_lt
    omega
end Ar
open Go Go.RowKit Vc
theorem ok_rnumber : FnOk P 27 := ⟨_, Tryd.func27, by kernel_rfl, by kernel_rfl⟩
theorem or64 {n c : Nat} (hn : n * 256 + c < 18446744073709551616) (hc : c < 256) : IntKind.u64.wrap ((BitVec.ofInt 64 ((n * 256 : Nat) : Int) ||| BitVec.ofInt 64 (c : Int)).toNat : Int) = ((n * 256 + c : Nat) : Int) := by
  have h1 : (BitVec.ofInt 64 ((n * 256 : Nat) : Int)).toNat = n * 256 := by rw [BitVec.toNat_ofInt]; omega
  have h2 : (BitVec.ofInt 64 (c : Int)).toNat = c := by rw [BitVec.toNat_ofInt]; omega
  have h3 : n * 256 ||| c = n * 256 + c := by
    have := Nat.shiftLeft_add_eq_or_of_lt (i := 8) (b := c) (by omega) n
    rw [Nat.shiftLeft_eq] at this
    exact this.symm
  rw [BitVec.toNat_or, h1, h2, h3]
  exact wu64 (by omega) (by omega)

theorem c_rnumber {w : World} {rb : Nat} {v : Value} {b : List UInt8} (n : Nat) (h : RdAt w rb v b) (hn : n ≤ 8) (hl : b.length ≤ 1000000000) :
    Calls P 27 #[.pointer (some ⟨rb, 0, none⟩), .int .u64 n] w fun e w' => (b.length < n ∧ e = .panicked (stop 64) ∧ w = w') ∨ (n ≤ b.length ∧ e = .returned (.int .u64 (Ar.val (b.take n))) ∧ ∃ v2, RdAt w' rb v2 (b.drop n) ∧ Ext (fun k => k = rb) w w' ∧ v2.ownBlock = v.ownBlock) := by
  refine enter (l := [_, _]) (n := 23) Tryd.func27 rfl rfl rfl ?_
  refine W.seq ?_
  refine W.reg <| asg rfl rfl <| L.nil ?_
  refine N.th ?_
  refine W.seq ?_
  refine W.reg <| asg rfl rfl <| L.nil ?_
  refine N.th ?_
  refine W.seq ?_
  refine W.seq ?_
  refine W.reg <| mv rfl rfl <| mv rfl rfl <| callP (vs := [_, _]) rfl rfl ok_take (c_take n h (by omega) hl) ?_
  rintro e w1 (⟨h1, rfl, rfl⟩ | ⟨h1, v1, v2, rfl, hv1, hr2, hx1, -, ho2⟩)
  · refine .inr ⟨_, rfl, ?_⟩
    refine N.pth <| N.pth <| N.pan ?_
    exact .inl ⟨h1, rfl, rfl⟩
  refine .inl ⟨_, rfl, ?_⟩
  obtain ⟨l, hll⟩ : ∃ l, l = b.take n := ⟨_, rfl⟩
  have hln : l.length ≤ 8 := by rw [hll, List.length_take]; omega
  rw [← hll] at hv1 ⊢
  obtain ⟨a, c, rfl, -, -, -, -⟩ := id hv1
  refine lenV (t := 24) rfl u_bytes rfl <| mv rfl rfl <| L.nil ?_
  refine N.th ?_
  refine W.block ?_
  refine W.loop (X := Nat) (fun i => [(12, .int .i64 i), (11, .int .i64 l.length), (10, .slice a l.length c), (5, .int .u64 (Ar.val (l.take i)))]) (fun i w' => i ≤ l.length ∧ w' = w1) (fun i => l.length - i) 0 ⟨rfl, rfl, rfl, rfl, trivial⟩ ⟨by omega, rfl⟩ ?_
  rintro i w2 ⟨hi, rfl⟩
  refine W.seq ?_
  refine W.reg <| lssI rfl rfl rfl <| L.nil ?_
  refine N.th ?_
  refine W.seq ?_
  refine W.cond rfl (fun h => ?_) (fun h => ?_)
  · refine W.skip ?_
    refine N.th ?_
    have hi1 : i < l.length := by have := of_decide_eq_true h; omega
    obtain ⟨bb, bo, bc, e, hcell⟩ := byt_at hv1 hi1
    cases e
    have hy : l[i]? = some (l[i]?.getD 0) := by rw [List.getElem?_eq_getElem hi1]; rfl
    have hlt := Ar.val_lt (l.take (i + 1))
    have hlen : (l.take (i + 1)).length = i + 1 := by rw [List.length_take]; omega
    have hval : Ar.val (l.take (i + 1)) = Ar.val (l.take i) * 256 + (l[i]?.getD 0).toNat := by
      conv => lhs; rw [List.take_add_one, hy]
      exact Ar.val_snoc _ _
    have hp : 256 ^ (i + 1) ≤ 256 ^ 8 := Nat.pow_le_pow_right (by decide) (by omega)
    have hmax : Ar.val (l.take i) * 256 + (l[i]?.getD 0).toNat < 18446744073709551616 := by
      rw [← hval]
      rw [hlen] at hlt
      have : (256 : Nat) ^ 8 = 18446744073709551616 := by decide
      omega
    have hb8 := (l[i]?.getD 0).toNat_lt
    refine W.seq ?_
    refine W.block ?_
    refine W.seq ?_
    refine W.reg <| ixa rfl rfl u_bytes el_bytes.szB rfl (by omega) (by omega) <| ld1 (v := .int .u8 (l[i]?.getD 0).toNat) rfl ag_u8 rfl (hcell i hi1) <| asg rfl rfl <| L.nil ?_
    refine N.th ?_
    refine W.reg <| mv rfl rfl <| shlI (c := ((Ar.val (l.take i) * 256 : Nat) : Int)) rfl rfl rfl (by decide) (by
        show IntKind.u64.wrap ((Ar.val (l.take i) : Int) * 256) = _
        rw [wu64 (by omega) (by omega)]; omega) <| mv rfl rfl <| cvtI (c := ((l[i]?.getD 0).toNat : Int)) rfl u_u64 u_u8 rfl (wu64 (by omega) (by omega)) <|
      binI (v := .int .u64 (Ar.val (l.take (i + 1)) : Int)) rfl rfl (fun w => by
        show (pure (.int .u64 (IntKind.u64.wrap ((BitVec.ofInt 64 ((Ar.val (l.take i) * 256 : Nat) : Int) ||| BitVec.ofInt 64 ((l[i]?.getD 0).toNat : Int)).toNat))) : Sem Value).run P w = _
        rw [or64 hmax (by omega), hval]; rfl) rfl <| asg rfl rfl <| L.nil ?_
    refine N.inb ?_
    refine N.th ?_
    refine W.reg <| addI (c := ((i + 1 : Nat) : Int)) rfl rfl rfl (by rw [w64 (by omega) (by omega)]; simp) <| mv rfl rfl <| L.nil ?_
    exact N.th (N.round (x := i + 1) ⟨rfl, rfl, rfl, rfl, trivial⟩ ⟨by omega, rfl⟩ (by omega))   -- ROUND
  · refine W.exit ?_
    refine N.xth ?_
    refine N.xth ?_
    refine N.xeq ?_
    refine N.th ?_
    have hil : i = l.length := by have := of_decide_eq_false h; omega
    subst hil
    refine W.seq ?_
    refine W.reg <| mv rfl rfl <| asg rfl rfl <| L.nil ?_
    refine N.th ?_
    refine W.ret ?_
    refine N.ret1 rfl rfl ?_   -- RETURN
    rw [List.take_length]
    exact .inr ⟨h1, rfl, _, hr2, hx1, ho2⟩
end Go.Proofs.YtmdpmpdlkaogdaaDoor

namespace Go.Proofs.YtmdpmpdlkaogdaaDoor
namespace Tr
open Sp (Cl)

/-- Is a directory told twice? -/
def isDir (o : Option Nd) : Bool := match o with | some x => x.1 | none => false
/-- One file. -/
def step (m : T) (k : Bytes) (x : Nd) : T × Int := if x.1 then mkdir m k else write m k x.2
theorem Ok.step {m : T} (h : Ok m) (k : Bytes) (x : Nd) : Ok (Tr.step m k x).1 := by
  unfold Tr.step
  split
  · exact h.mkdir _
  · exact h.write _ _
/-- The tree of files, one after another; none: refused. -/
def ofF : T → List Bytes → T → Option T × Int
  | m, _, [] => (some m, 0)
  | m, seen, (s, x) :: l =>
    if (Sp.clean s).2 ≠ 0 then (none, (Sp.clean s).2)
    else if seen.contains (Sp.clean s).1 || (x.1 && isDir (at_ m (Sp.clean s).1)) then (none, 53)
    else if (step m (Sp.clean s).1 x).2 ≠ 0 then (none, (step m (Sp.clean s).1 x).2)
    else ofF (step m (Sp.clean s).1 x).1 (seen ++ [(Sp.clean s).1]) l
def of (l : T) : Option T × Int := ofF [] [] l
theorem ofF_none : ∀ (l m : T) (seen : List Bytes), (ofF m seen l).1 = none → (ofF m seen l).2 ≠ 0 := by
  intro l
  induction l with
  | nil => intro m seen h; cases h
  | cons p l ih =>
    intro m seen
    obtain ⟨s, x⟩ := p
    unfold ofF
    split
    · rename_i h; intro _; exact h
    · split
      · intro _; simp
      · split
        · rename_i h; intro _; exact h
        · exact ih _ _
theorem ofF_some : ∀ (l m : T) (seen : List Bytes), (ofF m seen l).1 ≠ none → (ofF m seen l).2 = 0 := by
  intro l
  induction l with
  | nil => intro m seen _; rfl
  | cons p l ih =>
    intro m seen
    obtain ⟨s, x⟩ := p
    unfold ofF
    split
    · intro h; exact absurd rfl h
    · split
      · intro h; exact absurd rfl h
      · split
        · intro h; exact absurd rfl h
        · exact ih _ _
theorem ofF_ok : ∀ (l m : T) (seen : List Bytes) (m' : T), Ok m → (ofF m seen l).1 = some m' → Ok m' := by
  intro l
  induction l with
  | nil => intro m seen m' h e; cases e; exact h
  | cons p l ih =>
    intro m seen m' h
    obtain ⟨s, x⟩ := p
    unfold ofF
    split
    · intro e; cases e
    · split
      · intro e; cases e
      · split
        · intro e; cases e
        · exact ih _ _ _ (h.step _ _)
/-- What is written by a path is written by its one form. -/
theorem mkdir_clean {m : T} {s : Bytes} (h : (Sp.clean s).2 = 0) : mkdir m s = mkdir m (Sp.clean s).1 := by
  unfold mkdir
  rw [(Sp.clean_cl h).clean, h]
theorem write_clean {m : T} {s b : Bytes} (h : (Sp.clean s).2 = 0) : write m s b = write m (Sp.clean s).1 b := by
  unfold write put
  rw [(Sp.clean_cl h).clean, h]

theorem lt_append (a b : Bytes) (h : b ≠ []) : a < a ++ b := by
  induction a with
  | nil =>
    cases b with
    | nil => exact absurd rfl h
    | cons c b => exact List.nil_lt_cons c b
  | cons c a ih => exact List.cons_lt_cons_iff.2 (.inr ⟨rfl, ih⟩)
theorem Above.less {e k : Bytes} (h : Above e k) : e < k := by
  obtain ⟨h0, -, hw, hne⟩ := h
  obtain ⟨r, rfl, hr⟩ := (Sp.within_iff h0).1 hw
  exact lt_append _ _ fun e => hne (by rw [e]; simp)
theorem set_new {α : Type} {m : List (Bytes × α)} {k : Bytes} (v : α) (h : get m k = none) : set m k v = m ++ [(k, v)] := by
  unfold set
  rw [if_neg (by have := get_none.1 h; simpa using this)]
/-- A tree's files, in order, are that tree. -/
theorem of_again {L : T} (hok : Ok L) (hs : Sorted L) : ∀ (rest pre : T), L = pre ++ rest → ofF pre (pre.map (·.1)) rest = (some L, 0) := by
  intro rest
  induction rest with
  | nil => intro pre h; rw [List.append_nil] at h; rw [h]; rfl
  | cons p rest ih =>
    intro pre h
    obtain ⟨k, x⟩ := p
    have hmem : (k, x) ∈ L := by rw [h]; simp
    have hgk : get L k = some x := mem_get hok.nodup hmem
    obtain ⟨hk0, hcl, -, hdir, hmax⟩ := hok.sound hgk
    have hn := hok.nodup
    rw [h, List.map_append, List.nodup_append] at hn
    have hkpre : k ∉ pre.map (·.1) := fun hm => hn.2.2 k hm k (by simp) rfl
    have hgp : get pre k = none := get_none.2 hkpre
    have hlt : ∀ q ∈ rest, k < q.1 := by
      unfold Sorted at hs
      rw [h, List.pairwise_append] at hs
      exact (List.pairwise_cons.1 hs.2.1).1
    have habv : ∀ e, Above e k → get pre e = some (true, []) := fun e he => by
      have hge := hok.abv hgk he
      have hm := get_mem hge
      rw [h] at hm
      rcases List.mem_append.1 hm with hm | hm
      · exact mem_get hn.1 hm
      · rcases List.mem_cons.1 hm with hm | hm
        · have : e = k := congrArg Prod.fst hm
          exact absurd this he.2.2.2
        · exact absurd (lt_tr (hlt _ hm) he.less) (lt_irr _)
    have hah : ahead pre k = some [] := by
      obtain ⟨l, hl⟩ := ahead_of (m := pre) hcl (fun e he b hb => by rw [habv e he] at hb; cases hb)
      obtain ⟨-, b2⟩ := ahead_some hcl hl
      cases l with
      | nil => exact hl
      | cons e l =>
        obtain ⟨c1, c2⟩ := b2 e (by simp)
        rw [habv e c1] at c2; cases c2
    have hsz : size L = size pre + (x.2.length + size rest) := by rw [h, size_append, size_cons]
    have hln : L.length = pre.length + (rest.length + 1) := by rw [h]; simp
    have hL1 := hok.len
    have hL2 := hok.bytes
    unfold ofF
    rw [hcl.clean]
    simp only [ne_eq, not_true_eq_false, if_false]
    have hcon : ((pre.map (·.1)).contains k || (x.1 && isDir (at_ pre k))) = false := by
      rw [at_of hk0, hgp]
      simp only [isDir, Bool.and_false, Bool.or_false]
      rw [← Bool.not_eq_true]
      simpa using hkpre
    rw [if_neg (by rw [hcon]; simp)]
    have hnext : ∀ m', m' = pre ++ [(k, x)] → ofF m' (pre.map (·.1) ++ [k]) rest = (some L, 0) := fun m' e => by
      rw [e]
      have := ih (pre ++ [(k, x)]) (by rw [h]; simp)
      simpa using this
    obtain ⟨d, b⟩ := x
    cases d with
    | true =>
      have hb : b = [] := hdir rfl
      subst hb
      have hr : mkdir pre k = (pre ++ [(k, (true, []))], 0) := by
        unfold mkdir
        rw [hcl.clean]
        simp only [ne_eq, not_true_eq_false, if_false]
        rw [at_of hk0, hgp, hah]
        have hroom : room pre (([] : List Bytes).length + 1) 0 = true := by
          unfold room
          simp only [List.length_nil, Bool.and_eq_true, decide_eq_true_eq]
          omega
        simp only [hroom, Bool.true_eq_false, if_false, List.nil_append]
        rw [show make pre [k] = set pre k (true, []) from rfl, set_new _ hgp]
      have hst : step pre k (true, []) = (pre ++ [(k, (true, []))], 0) := hr
      rw [hst, if_neg (by simp)]
      exact hnext _ rfl
    | false =>
      have hr : write pre k b = (pre ++ [(k, (false, b))], 0) := by
        obtain ⟨-, hput⟩ := put_ok (m := pre) (s := k) (b := b) (more := false) (ox := none) (lack := []) (by rw [hcl.clean]; simp) (by rw [hcl.clean, at_of hk0]; exact hgp) (fun x hx => by cases hx) (by rw [hcl.clean]; exact hah)
        unfold write
        rw [hput, hcl.clean]
        have hroom : room pre (putN none []) ((putB none b false).length - old pre k) = true := by
          unfold room putN putB old
          rw [hgp]
          simp only [List.length_nil, Bool.and_eq_true, decide_eq_true_eq, Option.getD_none]
          dsimp only at hsz
          omega
        rw [if_neg (by
          rw [hroom]
          simp only [putB, Bool.true_eq_false, or_false]
          dsimp only at hmax
          omega)]
        rw [show make pre [] = pre from rfl, set_new _ hgp]
        rfl
      have hst : step pre k (false, b) = (pre ++ [(k, (false, b))], 0) := hr
      rw [hst, if_neg (by simp)]
      exact hnext _ rfl
theorem of_files {m : T} (hok : Ok m) : of (files m) = (some (files m), 0) := by
  have hp : (files m).Perm m := List.mergeSort_perm m _
  have hok' : Ok (files m) := Ok.mk' (files_nodup hok.nodup) (fun k x hk => by
    rw [files_get hok.nodup] at hk
    obtain ⟨a, b, c, d⟩ := hok.sound hk
    exact ⟨a, b, by rw [files_get hok.nodup]; exact c, d⟩) (by rw [files_len]; exact hok.len) (by rw [files_size]; exact hok.bytes)
  exact of_again hok' (files_sorted hok.nodup) (files m) [] rfl
theorem files_files {m : T} (hn : (m.map (·.1)).Nodup) : files (files m) = files m := files_perm hn (List.mergeSort_perm m _)
end Tr
end Go.Proofs.YtmdpmpdlkaogdaaDoor

namespace Go.Proofs.YtmdpmpdlkaogdaaDoor
namespace Ar
/-- The entries behind the sign, one after another; none: refused. -/
def par : Nat → List UInt8 → Tr.T → Option Tr.T × Int
  | 0, _, _ => (none, 64)
  | _ + 1, [], _ => (none, 64)
  | f + 1, k :: b, acc =>
    if k = 255 then (if b = [] then (some acc, 0) else (none, 64))
    else if ¬ (k.toNat ≤ 1 ∧ acc.length < 500) then (none, 64)
    else if b.length < 2 then (none, 64)
    else if (b.drop 2).length < val (b.take 2) then (none, 64)
    else
      if (Sp.clean ((b.drop 2).take (val (b.take 2)))).2 = 51 then (none, 51)
      else if (Sp.clean ((b.drop 2).take (val (b.take 2)))).2 ≠ 0 then (none, 64)
      else if k = 1 then par f ((b.drop 2).drop (val (b.take 2))) (acc ++ [((b.drop 2).take (val (b.take 2)), true, [])])
      else if ((b.drop 2).drop (val (b.take 2))).length < 8 then (none, 64)
      else if (((b.drop 2).drop (val (b.take 2))).drop 8).length < val (((b.drop 2).drop (val (b.take 2))).take 8) then (none, 64)
      else par f ((((b.drop 2).drop (val (b.take 2))).drop 8).drop (val (((b.drop 2).drop (val (b.take 2))).take 8)))
        (acc ++ [((b.drop 2).take (val (b.take 2)), false, (((b.drop 2).drop (val (b.take 2))).drop 8).take (val (((b.drop 2).drop (val (b.take 2))).take 8)))])
/-- An archive, opened; none: refused. -/
def opn (b : List UInt8) : Option Tr.T × Int :=
  if ¬ (b.length ≤ 262144 ∧ sign.isPrefixOf b = true) then (none, 64)
  else match par (b.length + 1) (b.drop 4) [] with
    | (none, c) => (none, c)
    | (some l, _) => match Tr.of l with
      | (none, _) => (none, 64)
      | (some m, _) => (some (Tr.files m), 0)
end Ar
end Go.Proofs.YtmdpmpdlkaogdaaDoor

namespace Go.Proofs.YtmdpmpdlkaogdaaDoor
open Go Go.RowKit Vc
theorem run_bytA_str {P : Program} {w : World} {t u e : TypeId} {v : Value} {l : List UInt8} (ht : P.underlying t = some (.slice e)) (he : P.underlying e = some (.int .u8)) (hu : P.underlying u = some .string) (hr : BytA w v l) :
    (convert t u v).run P w = .ok (.string (S l)) w := by
  by_cases hl : l = []
  · subst hl
    obtain ⟨a, c, rfl, -, -, -, -⟩ := id hr
    cases a with
    | none => exact run_convert_bytes_nil w t e ht he _ c u hu
    | some ad =>
      have hl : (loadCells ad 0).run P w = .ok #[] w := by
        simpa using run_loadCells_list (P := P) w ad [] (fun j v hj => by simp at hj)
      rw [run_convert_bytes_string w t u e _ _ c ht he hu]
      rw [show ([] : List UInt8).length = 0 from rfl]
      rw [run_bytesToString w ad 0 c [] (by simpa using hl)]
      rfl
  · obtain ⟨b, o, c, rfl, hcell⟩ := byt_at (j := 0) hr (List.length_pos_iff.2 hl)
    have h := run_convert_bytes_arg (P := P) w t e ht he b o l.length c (l.map fun x => (x.toNat : Int)) (by simp) (fun i hi => by
      have := hcell i (by simpa using hi)
      rw [Nat.mul_one] at this
      rw [this]
      simp [hi]) u hu
    rw [h]
    have : strOfNums (l.map fun x => (x.toNat : Int)) = S l := by
      apply ByteArray.ext; apply Array.ext'
      rw [strOfNums_data, List.map_map]
      show _ = l
      conv => rhs; rw [← List.map_id l]
      refine List.map_congr_left fun x _ => ?_
      simp
    rw [this]
namespace Vc
variable {st : Sty} [Wy st] {P : Program} {ds : List Deferred} {n : Nat} {Q : Exit → Act → World → Prop} {E : Env} {w : World} {ops : Array Oper} {l : List Oper}
variable {d : Nat} {ty : TypeId} {pos : String} {af : Array Edge}
theorem cvtBA {t u e : TypeId} {x : Operand} {v : Value} {a : List UInt8} (hx : opd E x = some v) (ht : P.underlying t = some (.slice e)) (he : P.underlying e = some (.int .u8)) (hu : P.underlying u = some .string) (hd : Nat.blt d n = true) (hr : Kn st w fun w => BytA w v a)
    (k : LY st P ds n ops l Q ((d, .string (S a)) :: E) w) : LY st P ds n ops (⟨some d, .convert t u x, ty, pos, af, none⟩ :: l) Q E w :=
  LY.rd _ hd (fun ac ha w hs => by simp [execOp, opd_eval ha hx, run_bytA_str ht he hu (hr w hs)]) k
end Vc
end Go.Proofs.YtmdpmpdlkaogdaaDoor

namespace Go.Proofs.YtmdpmpdlkaogdaaDoor
open Go Go.RowKit Vc
theorem ok_all : FnOk P 14 := ⟨_, Tryd.func14, by kernel_rfl, by kernel_rfl⟩
theorem ze_F3 : zeroB P tF = some (.agg #[.string (S []), .bool false, .slice none 0 0]) := by kernel_rfl
/-- What reading all answers. -/
def AllR (w : World) (rb : Nat) (r : Option Tr.T × Int) (e : Ending) (w' : World) : Prop := Ext (fun k => k = rb) w w' ∧ (r.1 = none → e = .panicked (stop r.2)) ∧
  ∀ l, r.1 = some l → ∃ v K, e = .returned v ∧ w'.ownsRow w.heap.size tF 3 v K.length (K.flatMap fcells) ∧ (∀ x ∈ K, BytA w' x.2.2.1 x.2.2.2) ∧ fm K = l
theorem AllR.fail {w w' : World} {rb : Nat} {r : Option Tr.T × Int} {c : Int} (hx : Ext (fun k => k = rb) w w') (h : r = (none, c)) : AllR w rb r (.panicked (stop c)) w' := by
  subst h
  exact ⟨hx, fun _ => rfl, fun l hl => by cases hl⟩

theorem fbuildS {x : FE} (hv : ∃ a n c, x.2.2.1 = .slice a n c) : (∀ w, (Instr.buildSlice 23 1 #[(0, .agg (fcells x).toArray)]).run P w = .ok (.slice (some ⟨w.heap.size, 0, none⟩) 1 1) (w.alloc (.cells (fcells x).toArray tF))) ∧ ((fcells x).toArray.toList.all (·.oneCell')) = true := by
  obtain ⟨p, d, v, l⟩ := x
  obtain ⟨a, n, c, rfl⟩ := hv
  exact ⟨fun _ => by kernel_rfl, rfl⟩
theorem encB_get {l : List UInt8} {i : Nat} {y : UInt8} (h : l[i]? = some y) : (encB l)[i]? = some (.int .u8 y.toNat) := by simp [encB, h]
theorem BytA.blk0 {w w' : World} {v : Value} (h : BytA w v []) : BytA w' v [] := by
  obtain ⟨a, cap, rfl, h1, h2, h3, hc⟩ := h
  exact ⟨a, cap, rfl, h1, h2, h3, fun j u hj => by cases hj⟩

set_option maxHeartbeats 1000000 in
theorem c_all {w : World} {rb : Nat} {v : Value} {b : List UInt8} (h : RdAt w rb v b) (hl : b.length ≤ 1000000) :
    Calls P 14 #[.pointer (some ⟨rb, 0, none⟩)] w (AllR w rb (Ar.par (b.length + 1) b [])) := by
  generalize hr : Ar.par (b.length + 1) b [] = r
  have hst := h
  refine enter (l := [_]) (n := 62) Tryd.func14 rfl rfl rfl ?_
  refine W.seq ?_
  refine W.reg <| asg rfl rfl <| L.nil ?_
  refine N.th ?_
  refine W.seq ?_
  refine W.reg <| asg rfl rfl <| L.nil ?_
  refine N.th ?_
  refine W.block ?_
  refine W.loop (X := Nat × List UInt8 × Value × List FE × Value) (fun x => [(0, .pointer (some ⟨rb, 0, none⟩)), (3, x.2.2.2.2)])
    (fun x w' => RdAt w' rb x.2.2.1 x.2.1 ∧ Ar.par x.1 x.2.1 (fm x.2.2.2.1) = r ∧ x.2.1.length < x.1 ∧ x.2.1.length ≤ 1000000 ∧ w'.ownsRow w.heap.size tF 3 x.2.2.2.2 x.2.2.2.1.length (x.2.2.2.1.flatMap fcells) ∧ (∀ y ∈ x.2.2.2.1, BytA w' y.2.2.1 y.2.2.2) ∧ x.2.2.2.1.length ≤ 500 ∧ Ext (fun k => k = rb) w w' ∧ x.2.1.length ≤ b.length ∧ x.2.2.1.ownBlock = v.ownBlock ∧ ∀ y ∈ x.2.2.2.1, y.2.2.2 = [] ∨ y.2.2.1.ownBlock = v.ownBlock) (fun x => x.1)
    (b.length + 1, b, v, [], .slice none 0 0) ⟨rfl, rfl, trivial⟩ ⟨h, hr, by dsimp only; omega, hl, own_nil _ _ _ _, by simp, by simp, Ext.refl _ _, Nat.le_refl _, rfl, by simp⟩ ?_
  rintro ⟨f, b1, v1, K, sv⟩ w1 ⟨hrd, hpar, hf, hl1, hown, hbs, hK5, hx1, hlb, hov, hoK⟩
  dsimp only at hrd hpar hf hl1 hown hbs hK5 hlb hov hoK ⊢
  obtain ⟨f, rfl⟩ : ∃ g, f = g + 1 := ⟨f - 1, by omega⟩
  refine W.block ?_
  refine W.seq ?_
  refine W.reg <| mv rfl rfl <| callP (vs := [_, .int .u64 ((1 : Nat) : Int)]) rfl rfl ok_take (c_take 1 hrd (by omega) (by omega)) ?_
  rintro e w2 (⟨h1, rfl, rfl⟩ | ⟨h1, u1, u2, rfl, hu1, hrd2, hx2, -, ho2⟩)
  · refine .inr ⟨_, rfl, ?_⟩
    refine fun _ ha => ⟨ha.1, ?_⟩
    refine AllR.fail hx1 ?_
    rw [← hpar, List.eq_nil_of_length_eq_zero (by omega : b1.length = 0)]; rfl
  have hrbl : rb < w.heap.size := (Array.getElem?_eq_some_iff.1 h.1).1
  have hnb : ∀ k, sv.ownBlock = some k → k ≠ rb := by
    intro k hk hkr
    rcases hown.2 with ⟨e, -⟩ | ⟨g, cap, cur, e, hg, -⟩
    · rw [e] at hk; cases hk
    · rw [e] at hk; have hgk : g = k := Option.some.inj hk; omega
  have hbsx : ∀ {w' : World}, Ext (fun k => k = rb) w1 w' → ∀ x ∈ K, BytA w' x.2.2.1 x.2.2.2 := fun hx y hy => (hbs y hy).rd hrd.1 (by obtain ⟨a, c, e, -⟩ := hrd.2; exact ⟨_, _, _, e⟩) hx
  have own2 := own_ext hown hx2 hnb
  have hbs2 := hbsx hx2
  obtain ⟨k, b1, rfl⟩ : ∃ k l, b1 = k :: l := by
    cases b1 with
    | nil => simp at h1
    | cons k l => exact ⟨k, l, rfl⟩
  refine .inl ⟨_, rfl, ?_⟩
  obtain ⟨bb, bo, bc, e, hcell⟩ := byt_at (j := 0) hu1 (by simp)
  subst e
  refine ixa rfl rfl u_bytes el_bytes.szB rfl (by decide) (by simp) <| ld1 (v := .int .u8 k.toNat) rfl ag_u8 rfl (hcell 0 (by simp)) <| asg rfl rfl <| L.nil ?_
  refine N.th ?_
  refine W.seq ?_
  refine W.seq ?_
  refine W.reg <| mv rfl rfl <| eqlI rfl rfl rfl <| L.nil ?_
  refine N.th ?_
  refine W.cond rfl (fun h => ?_) (fun h => ?_)
  · have hk : k = 255 := by
      have := of_decide_eq_true h
      apply UInt8.toNat_inj.1
      show k.toNat = 255
      omega
    subst hk
    obtain ⟨hc2, hb2⟩ := id hrd2
    obtain ⟨a2, c2, rfl, hbn, hbm, -, -⟩ := id hb2
    have hcc : w2.cell? ⟨rb, 0, none⟩ = some (.slice a2 (List.drop 1 (255 :: b1)).length c2) := cell_of hc2 rfl
    refine W.seq ?_
    refine W.reg <| mv rfl rfl <| nilc rfl rfl <| fad rfl fl_Rd_0 rfl <| ld1 rfl ag_bytes rfl hcc <| lenV (t := 24) rfl u_bytes rfl <| eqlI rfl rfl rfl <| callP (vs := [_, .int .i64 64]) rfl rfl ok_must (c_must _ 64 w2) ?_
    rintro e w3 ⟨rfl, rfl⟩
    by_cases hb0 : b1 = []
    · subst hb0
      refine .inl ⟨_, rfl, ?_⟩
      refine L.nil ?_
      refine N.th ?_
      refine W.seq ?_
      refine W.reg <| mv rfl rfl <| asg rfl rfl <| L.nil ?_
      refine N.th ?_
      refine W.ret ?_
      refine N.rth <| N.rinb <| N.rth <| N.rinb ?_
      refine N.ret1 rfl rfl ?_   -- RETURN
      refine ⟨hx1.trans hx2, fun hn => ?_, fun l hn => ?_⟩
      · rw [← hpar] at hn; simp [Ar.par] at hn
      · rw [← hpar] at hn
        have hn : fm K = l := by simpa [Ar.par] using hn
        exact ⟨sv, K, rfl, own2, hbs2, hn⟩
    · refine .inr ⟨stop 64, ?_, ?_⟩
      · simp [hb0]
      · refine fun _ ha => ⟨ha.1, ?_⟩
        refine AllR.fail (hx1.trans hx2) ?_
        rw [← hpar]; simp [Ar.par, hb0]
  have hk255 : k ≠ 255 := by
    rintro rfl
    simp at h
  have hk8 := k.toNat_lt
  refine W.skip ?_
  refine N.th ?_
  refine W.seq ?_
  have hsv : ∃ a c, sv = .slice a K.length c := by
    rcases hown.2 with ⟨e, h0⟩ | ⟨g, cap, cur, e, -⟩
    · exact ⟨none, 0, by rw [e, h0]⟩
    · exact ⟨_, _, e⟩
  obtain ⟨sa, sc, rfl⟩ := hsv
  by_cases hok : k.toNat ≤ 1 ∧ K.length < 500
  case neg =>
    have hfail : ∀ {w' : World}, w2 = w' → AllR w rb r (.panicked (stop 64)) w' := by
      rintro w' rfl
      refine AllR.fail (hx1.trans hx2) ?_
      rw [← hpar, Ar.par, if_neg hk255, if_pos (by rw [fm, List.length_map]; exact hok)]
    by_cases hk1 : k.toNat ≤ 1
    · refine W.reg <| mv rfl rfl <| leqI rfl rfl rfl <| Vc.bt (by simp; omega) ?_
      refine mv rfl rfl <| L.on rfl rfl rfl <| mv rfl rfl <| L.on rfl rfl rfl <| lenV rfl u_files rfl <| L.on rfl rfl rfl <| lssI rfl rfl rfl <| Vc.bf (by simp; omega) ?_
      refine pickT rfl rfl rfl <| callP (vs := [_, _]) rfl rfl ok_must (c_must _ 64 w2) ?_
      rintro e w3 ⟨rfl, rfl⟩
      exact .inr ⟨_, rfl, fun _ ha => ⟨ha.1, hfail rfl⟩⟩
    · refine W.reg <| mv rfl rfl <| leqI rfl rfl rfl <| Vc.bf (by simp; omega) ?_
      refine mv rfl rfl <| L.off rfl rfl rfl rfl rfl <| L.off rfl rfl rfl rfl rfl <| L.off rfl rfl rfl rfl rfl ?_
      refine pickF rfl rfl rfl <| callP (vs := [_, _]) rfl rfl ok_must (c_must _ 64 w2) ?_
      rintro e w3 ⟨rfl, rfl⟩
      exact .inr ⟨_, rfl, fun _ ha => ⟨ha.1, hfail rfl⟩⟩
  refine W.reg <| mv rfl rfl <| leqI rfl rfl rfl <| Vc.bt (by simp; omega) ?_
  refine mv rfl rfl <| L.on rfl rfl rfl <| mv rfl rfl <| L.on rfl rfl rfl <| lenV rfl u_files rfl <| L.on rfl rfl rfl <| lssI rfl rfl rfl <| Vc.bt (by simp; omega) ?_
  refine pickT rfl rfl rfl <| callP (vs := [_, _]) rfl rfl ok_must (c_must _ 64 w2) ?_
  rintro e w3 ⟨rfl, rfl⟩
  refine .inl ⟨_, rfl, ?_⟩
  refine L.nil ?_
  refine N.th ?_
  refine W.seq ?_
  refine W.reg <| mv rfl rfl <| mv rfl rfl <| callP (vs := [_, _]) rfl rfl ok_rnumber (c_rnumber 2 hrd2 (by omega) (by simp at hl1 ⊢; omega)) ?_
  rintro e w3 (⟨h3, rfl, rfl⟩ | ⟨h3, rfl, u3, hrd3, hx3, ho3⟩)
  · refine .inr ⟨_, rfl, ?_⟩
    refine fun _ ha => ⟨ha.1, ?_⟩
    refine AllR.fail (hx1.trans hx2) ?_
    rw [← hpar]
    simp only [List.drop_one, List.tail_cons] at h3
    simp [Ar.par, hk255, hok, fm, h3]
  refine .inl ⟨_, rfl, ?_⟩
  simp only [List.drop_one, List.tail_cons] at h3 hrd3 ⊢
  obtain ⟨m, hm⟩ : ∃ m, m = Ar.val (b1.take 2) := ⟨_, rfl⟩
  have hmb : m < 65536 := by
    have := Ar.val_lt (b1.take 2)
    rw [show (b1.take 2).length = 2 by rw [List.length_take]; omega] at this
    omega
  rw [← hm]
  refine callP (vs := [_, _]) rfl rfl ok_take (c_take m hrd3 (by omega) (by simp at hl1 ⊢; omega)) ?_
  rintro e w4 (⟨h4, rfl, rfl⟩ | ⟨h4, u4, u5, rfl, hu4, hrd4, hx4, -, ho4⟩)
  · refine .inr ⟨_, rfl, ?_⟩
    refine fun _ ha => ⟨ha.1, ?_⟩
    refine AllR.fail ((hx1.trans hx2).trans hx3) ?_
    rw [← hpar]
    rw [hm] at h4
    have h5 : ¬ b1.length < 2 := by omega
    simp [Ar.par, hk255, hok, fm, h5]
    rw [List.length_drop] at h4
    intro h6; omega
  refine .inl ⟨_, rfl, ?_⟩
  refine cvtBA (a := (b1.drop 2).take m) rfl u_bytes u_u8 u_str rfl (Kn.here hu4) ?_
  refine mv rfl rfl <| eqlI rfl rfl rfl ?_
  obtain ⟨bd, hbd⟩ : ∃ bd : Bool, bd = decide ((k.toNat : Int) = 1) := ⟨_, rfl⟩
  obtain ⟨p, hp⟩ : ∃ p, p = (b1.drop 2).take m := ⟨_, rfl⟩
  rw [← hbd, ← hp]
  have hparB := hpar
  have hlA : ¬ b1.length < 2 := by omega
  have hlB : ¬ (b1.drop 2).length < m := by omega
  have hcA : ¬ ¬ (k.toNat ≤ 1 ∧ (fm K).length < 500) := fun hc => hc (by rw [fm, List.length_map]; exact hok)
  rw [Ar.par, if_neg hk255, if_neg hcA, if_neg hlA, ← hm, if_neg hlB, ← hp] at hparB
  refine bld (vs := #[(0, .string (S p)), (1, .bool bd)]) (v := .agg #[.string (S p), .bool bd, .slice none 0 0]) rfl rfl (fun _ => by kernel_rfl) <| new ze_F3 rfl <|
    stR (cells := #[.string (S p), .bool bd, .slice none 0 0]) rfl rfl sz_File rfl (heap_new _ _) rfl <| L.nil ?_
  refine N.th ?_
  refine W.seq ?_
  obtain ⟨w5, hw5⟩ : ∃ w5, w5 = (w4.alloc (.cells (Value.cells (.agg #[.string (S []), .bool false, .slice none 0 0])) tF)).setRow w4.heap.size #[.string (S p), .bool bd, .slice none 0 0] := ⟨_, rfl⟩
  obtain ⟨fb, hfb⟩ : ∃ f, f = w4.heap.size := ⟨_, rfl⟩
  have hx45 : Ext none_ w4 w5 := by rw [hw5]; exact (Ext.alloc none_ _ _).trans' (Ext.setRow (S := fun k => k = w4.heap.size) _ (fun _ => rfl) _) (fun i hi e => by omega)
  have hf5 : w5.heap[fb]? = some (.cells #[.string (S p), .bool bd, .slice none 0 0] tF (0, 0)) := by rw [hw5, hfb]; exact setRow_heap _ _ _ _ _ _ (heap_new _ _)
  rw [show (w4.alloc (.cells (Value.cells (.agg #[.string (S []), .bool false, .slice none 0 0])) tF)).setRow w4.heap.size #[.string (S p), .bool bd, .slice none 0 0] = w5 from hw5.symm, ← hfb]
  refine W.reg <| fad rfl fl_File_0 rfl <| ld1 (v := .string (S p)) rfl ag_str rfl (cell_of hf5 rfl) <| call (vs := [_]) rfl rfl ok_Clean (c_Clean p _) ?_
  rintro e w6 ⟨rfl, hx56⟩
  refine ⟨_, rfl, ?_⟩
  refine mv rfl rfl <| ext rfl rfl rfl <| ext rfl rfl rfl <| asg rfl rfl <| asg rfl rfl <| L.nil ?_
  refine N.th ?_
  refine W.seq ?_
  refine W.reg <| mv rfl rfl <| neqI rfl rfl rfl <| callP (vs := [_, _]) rfl rfl ok_must (c_must _ 51 w6) ?_
  rintro e w7 ⟨rfl, rfl⟩
  have hx6 : Ext (fun k => k = rb) w w6 := ((((hx1.trans hx2).trans hx3).trans hx4).trans' hx45 (fun _ _ h => h.elim)).trans' hx56 (fun _ _ h => h.elim)
  by_cases h51 : (Sp.clean p).2 = 51
  · refine .inr ⟨stop 51, by simp [h51], ?_⟩
    refine fun _ ha => ⟨ha.1, ?_⟩
    refine AllR.fail hx6 ?_
    rw [← hparB, if_pos h51]
  refine .inl ⟨_, if_pos (by simp [h51]), ?_⟩
  refine L.nil ?_
  refine N.th ?_
  refine W.seq ?_
  refine W.reg <| mv rfl rfl <| eqlI rfl rfl rfl <| callP (vs := [_, _]) rfl rfl ok_must (c_must _ 64 w6) ?_
  rintro e w7 ⟨rfl, rfl⟩
  by_cases h0 : (Sp.clean p).2 = 0
  case neg =>
    refine .inr ⟨stop 64, by simp [h0], ?_⟩
    refine fun _ ha => ⟨ha.1, ?_⟩
    refine AllR.fail hx6 ?_
    rw [← hparB, if_neg h51, if_pos h0]
  refine .inl ⟨_, if_pos (by simp [h0]), ?_⟩
  refine L.nil ?_
  refine N.th ?_
  have hf6 : w6.heap[fb]? = some (.cells #[.string (S p), .bool bd, .slice none 0 0] tF (0, 0)) := hx56.obj hf5 id
  have hoB : u5.ownBlock = v.ownBlock := ho4.trans (ho3.trans (ho2.trans hov))
  refine W.seqM (fun E' w' => ∃ (bv : Value) (bl : List UInt8) (v9 : Value) (b9 : List UInt8), E' = [(0, .pointer (some ⟨rb, 0, none⟩)), (3, .slice sa K.length sc), (5, .pointer (some ⟨fb, 0, none⟩))] ∧ w'.heap[fb]? = some (.cells #[.string (S p), .bool bd, bv] tF (0, 0)) ∧ BytA w' bv bl ∧ (bl = [] ∨ bv.ownBlock = v.ownBlock) ∧ v9.ownBlock = v.ownBlock ∧ RdAt w' rb v9 b9 ∧ Ar.par f b9 (fm K ++ [(p, bd, bl)]) = r ∧ b9.length < (k :: b1).length ∧ Ext (fun i => i = rb) w w' ∧ Ext (fun i => i = rb) w1 w') ?_ ?_   -- CUT
  · refine W.seq ?_
    refine W.reg <| fad rfl fl_File_1 rfl <| ld1 rfl ag_bool rfl (cell_of hf6 rfl) <| notB rfl rfl <| L.nil ?_
    refine N.th ?_
    refine W.cond rfl (fun hb => ?_) (fun hb => ?_)
    · have hbt : bd = false := by simpa using hb
      have hk1 : k ≠ 1 := by
        rintro rfl
        rw [hbd] at hbt
        simp at hbt
      rw [if_neg h51, if_neg (fun hc => hc h0), if_neg hk1] at hparB
      have hx46 := hx45.trans hx56
      have hr6 : RdAt w6 rb u5 ((b1.drop 2).drop m) := ⟨hx46.obj hrd4.1 id, hrd4.2.ext0 hx46⟩
      refine W.reg <| mv rfl rfl <| mv rfl rfl <| callP (vs := [_, _]) rfl rfl ok_rnumber (c_rnumber 8 hr6 (by omega) (by simp at hl1 ⊢; omega)) ?_
      rintro e w7 (⟨h8, rfl, rfl⟩ | ⟨h8, rfl, u7, hrd7, hx7, ho7⟩)
      · refine .inr ⟨_, rfl, ?_⟩
        refine fun _ ha => ⟨ha.1, ?_⟩
        refine AllR.fail hx6 ?_
        rw [← hparB, if_pos h8]
      refine .inl ⟨_, rfl, ?_⟩
      obtain ⟨q, hq⟩ : ∃ q, q = Ar.val (((b1.drop 2).drop m).take 8) := ⟨_, rfl⟩
      have hqb : q < 18446744073709551616 := by
        have := Ar.val_lt (((b1.drop 2).drop m).take 8)
        rw [show (((b1.drop 2).drop m).take 8).length = 8 by rw [List.length_take]; omega] at this
        rw [hq]
        exact Nat.lt_of_lt_of_le this (by decide)
      rw [← hq]
      refine callP (vs := [_, _]) rfl rfl ok_take (c_take q hrd7 hqb (by simp at hl1 ⊢; omega)) ?_
      rintro e w8 (⟨h9, rfl, rfl⟩ | ⟨h9, u8, u9, rfl, hu8, hrd8, hx8, ho8, ho9⟩)
      · refine .inr ⟨_, rfl, ?_⟩
        refine fun _ ha => ⟨ha.1, ?_⟩
        refine AllR.fail (hx6.trans hx7) ?_
        rw [← hparB, if_neg (by omega), ← hq, if_pos h9]
      refine .inl ⟨_, rfl, ?_⟩
      have hfne : fb ≠ rb := by
        intro e; have := hx1.size; have := hx2.size; have := hx3.size; have := hx4.size; omega
      have hf8 : w8.heap[fb]? = some (.cells #[.string (S p), .bool bd, .slice none 0 0] tF (0, 0)) := (hx7.trans hx8).obj hf6 hfne
      obtain ⟨ua, uc, rfl, -, -, -, -⟩ := id hu8
      refine fad rfl fl_File_2 rfl <| st1 rfl rfl sz_bytes rfl hf8 rfl <| L.nil ?_
      have hx89 : Ext (fun i => i = fb) w8 (w8.setCell ⟨fb, 0 + 2, none⟩ (.slice ua (List.take q (((b1.drop 2).drop m).drop 8)).length uc)) := Ext.setCell (S := fun i => i = fb) _ (fun _ => rfl) _
      have hf9 := setCell_heap (i := 0 + 2) hf8 (.slice ua (List.take q (((b1.drop 2).drop m).drop 8)).length uc)
      generalize hw9 : w8.setCell _ _ = w9 at hx89 hf9 ⊢
      have hnf : ∀ u ∈ (#[.string (S p), .bool bd, .slice none 0 0] : Array Value).toList, ∀ κ i, u ≠ .int κ i := by
        intro u hu κ i e
        subst e
        simp at hu
      have hub : BytA w9 (.slice ua (List.take q (((b1.drop 2).drop m).drop 8)).length uc) (List.take q (((b1.drop 2).drop m).drop 8)) := hu8.off hf8 hnf hx89
      have hr9 : RdAt w9 rb u9 (List.drop q (((b1.drop 2).drop m).drop 8)) := ⟨hx89.obj hrd8.1 (fun e => hfne e.symm), hrd8.2.off hf8 hnf hx89⟩
      have hfn : ∀ {v : World}, Ext (fun i => i = rb) w v → v.heap.size ≤ fb → ∀ i, i < v.heap.size → i = fb → i = rb := fun _ h i hi e => by omega
      have hfw : w4.heap.size = fb := hfb.symm
      have hx09 : Ext (fun i => i = rb) w w9 := ((hx6.trans hx7).trans hx8).trans' hx89 (fun i hi e => by
        have := (((hx1.trans hx2).trans hx3).trans hx4).size; omega)
      have hx19 : Ext (fun i => i = rb) w1 w9 := ((((((hx2.trans hx3).trans hx4).trans' hx46 (fun _ _ h => h.elim)).trans hx7).trans hx8)).trans' hx89 (fun i hi e => by
        have := ((hx2.trans hx3).trans hx4).size; omega)
      rw [if_neg (by omega), ← hq, if_neg (by omega)] at hparB
      refine N.th (N.meet [(0, .pointer (some ⟨rb, 0, none⟩)), (3, .slice sa K.length sc), (5, .pointer (some ⟨fb, 0, none⟩))] ⟨rfl, rfl, rfl, trivial⟩ ⟨_, _, u9, _, rfl, by rw [hf9]; rfl, hub, ?_, ?_, hr9, ?_, ?_, hx09, hx19⟩)
      · exact .inr (ho8.trans (ho7.trans hoB))
      · exact ho9.trans (ho7.trans hoB)
      · rw [hbt]; exact hparB
      · simp; omega
    · refine W.skip ?_
      have hbt : bd = true := by simpa using hb
      have hk1 : k = 1 := by
        rw [hbd] at hbt
        have := of_decide_eq_true hbt
        apply UInt8.toNat_inj.1
        show k.toNat = 1
        omega
      rw [if_neg h51, if_neg (fun hc => hc h0), if_pos hk1] at hparB
      have hx46 := hx45.trans hx56
      have hr6 : RdAt w6 rb u5 ((b1.drop 2).drop m) := ⟨hx46.obj hrd4.1 id, hrd4.2.ext0 hx46⟩
      have hx16 : Ext (fun i => i = rb) w1 w6 := (((hx2.trans hx3).trans hx4).trans' hx46 (fun _ _ h => h.elim))
      refine N.th (N.meet [(0, .pointer (some ⟨rb, 0, none⟩)), (3, .slice sa K.length sc), (5, .pointer (some ⟨fb, 0, none⟩))] ⟨rfl, rfl, rfl, trivial⟩ ⟨.slice none 0 0, [], u5, _, rfl, hf6, (Row.nil w6 tB 1).arg, .inl rfl, hoB, hr6, ?_, ?_, hx6, hx16⟩)
      · rw [hbt]; exact hparB
      · simp; omega
  · rintro E w7 ⟨bv, bl, v9, b9, rfl, hf7, hbv, hobv, hov9, hr9, hpar9, hlt9, hx07, hx17⟩
    obtain ⟨ba, bc, rfl, -, -, -, -⟩ := id hbv
    obtain ⟨y, hy⟩ : ∃ y : FE, y = (p, bd, .slice ba bl.length bc, bl) := ⟨_, rfl⟩
    have hf7' : w7.heap[fb]? = some (.cells (fcells y).toArray tF (0, 0)) := by rw [hf7, hy]; rfl
    have own7 := own_ext hown hx17 hnb
    obtain ⟨hb1, hb2⟩ := fbuildS (x := y) (by rw [hy]; exact ⟨_, _, _, rfl⟩)
    have hK6 : K.length + 1 ≤ 500 := by have := hok.2; omega
    refine W.reg <| mv rfl rfl <| ldk (cs := fcells y) rfl ag_File sz_File rfl rfl (fun i u hi => row_cells hf7' i u hi) <|
      push1 (cs := (fcells y).toArray) rfl rfl rfl rfl hb1 el_files rfl hb2 own7 (by omega) (by simp only [maxLen]; omega) hx07.size fun v' w9 hown9 hx9 => ?_
    refine asg rfl rfl <| L.nil ?_
    have hvb : ∀ k, v.ownBlock = some k → k < w.heap.size := by
      intro k hk
      have hbne : 0 < b.length := by simp at hlb; omega
      obtain ⟨bb, bo, bc, e, -⟩ := byt_at (j := 0) hst.2 hbne
      obtain ⟨a', c', e', -, -, -, hc⟩ := id hst.2
      obtain ⟨ad, e2, hlt, -⟩ := hc 0 _ (encB_get (by rw [List.getElem?_eq_getElem hbne]))
      rw [e'] at hk
      rw [e2] at hk
      cases hk
      exact hlt
    have hxo : ∀ k, v.ownBlock = some k → ¬ ((Value.slice sa K.length sc).ownBlock = some k) := by
      intro k hk hk2
      have := hvb k hk
      have := own_new own7 k hk2
      omega
    have hx79 : Ext (fun i => i = rb) w w9 := hx07.trans' hx9 (fun i hi hk => by have := own_new own7 i hk; omega)
    have hr79 : RdAt w9 rb v9 b9 := ⟨hx9.obj hr9.1 (fun hk => by have := own_new own7 rb hk; omega), hr9.2.blk hx9 (fun k hk _ => hxo k (hov9 ▸ hk))⟩
    have hkb : ∀ {z : FE}, (z.2.2.2 = [] ∨ z.2.2.1.ownBlock = v.ownBlock) → BytA w7 z.2.2.1 z.2.2.2 → BytA w9 z.2.2.1 z.2.2.2 := fun {z} hz hb => by
      rcases hz with hz | hz
      · rw [hz] at hb ⊢
        exact hb.blk0
      · exact hb.blk hx9 (fun k hk _ => hxo k (hz ▸ hk))
    refine N.inb ?_
    refine N.th (N.round (x := (f, b9, v9, K ++ [y], v')) ⟨rfl, rfl, trivial⟩ ⟨hr79, ?_, ?_, ?_, ?_, ?_, ?_, hx79, ?_, hov9, ?_⟩ (by dsimp only; omega))   -- ROUND
    · simp only [fm, List.map_append, hy]
      exact hpar9
    · dsimp only; omega
    · dsimp only; omega
    · dsimp only
      rw [fcells_snoc, List.length_append]; exact hown9
    · intro z hz
      rcases List.mem_append.1 hz with hz | hz
      · exact hkb (hoK z hz) (hbsx hx17 z hz)
      · simp at hz
        rw [hz]
        refine hkb ?_ ?_
        · rw [hy]; exact hobv
        · rw [hy]; exact hbv
    · simp; omega
    · dsimp only; omega
    · intro z hz
      rcases List.mem_append.1 hz with hz | hz
      · exact hoK z hz
      · simp at hz
        rw [hz, hy]; exact hobv
end Go.Proofs.YtmdpmpdlkaogdaaDoor

namespace Go.Proofs.YtmdpmpdlkaogdaaDoor.Vc
open Go Go.RowKit
/-- A call of a function that defers. -/
theorem enterD {P : Program} {f : FuncId} {fn : Func} {c : Code} {l : List Value} {w : World} {R : Ending → World → Prop} {n : Nat} (hf : P.funcs[f]? = some fn) (hb : fn.body = some c) (hn : fn.ntmps = n) (hl : Nat.ble l.length n = true)
    (h : W Fence.wide 0 P [] n c (bodyPostD P fn R) (argE 0 l) w) : Calls P f l.toArray w R := by
  refine calls_of_wp_defers hf hb (wpIn_wide.1 (h _ ⟨rfl, ?_, ?_⟩))
  · have : l.length ≤ n := Nat.le_of_ble_eq_true hl
    simp [hn]; omega
  · intro t v hg
    obtain ⟨_, h2⟩ := getE_argE l 0 t v hg
    rw [Nat.sub_zero] at h2
    simp only [Array.getD_eq_getD_getElem?]
    rw [Array.getElem?_append_left (by have := (List.getElem?_eq_some_iff.1 h2).1; simpa using this)]
    simp [h2]
/-- A call by a frame on its way out, of a function that recovers first of all. -/
theorem enterR {P : Program} {f : FuncId} {fn : Func} {c : Code} {l : List Value} {u : FrameMode} {w : World} {R : Ending → FrameMode → World → Prop} {n d d2 id : Nat} {tys : Array TypeId} {ty ty2 : TypeId} {pos pos2 : String} {af af2 : Array Edge} {r : Value} {u' : FrameMode} (hf : P.funcs[f]? = some fn)
    (hb : fn.body = some (.seq (.region id #[⟨some d, .call ⟨.builtin .recover, #[], tys⟩, ty, pos, af, none⟩, ⟨some d2, .assign (.tmp d), ty2, pos2, af2, none⟩] false) c)) (hn : fn.ntmps = n) (hl : Nat.ble l.length n = true) (hd : Nat.blt d n = true) (hd2 : Nat.blt d2 n = true)
    (hu : (∃ v older, u = .panicking ({ v := v, recovered := false } :: older) ∧ r = v ∧ u' = .panicking ({ v := v, recovered := true } :: older)) ∨ (u = .returning ∧ r = .nilIface ∧ u' = .returning))
    (h : W Fence.wide 0 P [] n c (bodyPost P fn fun e w' => R e u' w') ((d2, r) :: (d, r) :: argE 0 l) w) : CallsD P f l.toArray u w R := by
  refine callsD_of_wpS hf hb fun c₀ cs hc => ?_
  have hF : Fits [] n (argE 0 l) { tmps := l.toArray ++ Array.replicate (fn.ntmps - l.toArray.size) undef, defers := [] } := by
    refine ⟨rfl, ?_, ?_⟩
    · have : l.length ≤ n := Nat.le_of_ble_eq_true hl
      simp [hn]; omega
    · intro t v hg
      obtain ⟨_, h2⟩ := getE_argE l 0 t v hg
      rw [Nat.sub_zero] at h2
      simp only [Array.getD_eq_getD_getElem?]
      rw [Array.getElem?_append_left (by have := (List.getElem?_eq_some_iff.1 h2).1; simpa using this)]
      simp [h2]
  generalize ({ tmps := l.toArray ++ Array.replicate (fn.ntmps - l.toArray.size) undef, defers := [] } : Act) = a at hF
  refine wpS_seq (wpS_region ?_)
  have key : ∀ c1 : Frame, c1 = { c₀ with mode := u' } → Exit.thenS (c.wpS P (bodyPostS P fn c₀ cs R)) (bodyPostS P fn c₀ cs R) .normal ((a.put (some d) r).put (some d2) r) (c1 :: cs) w := by
    intro c1 hc1
    refine wpS_of_wp ?_
    have := wpIn_wide.1 (h _ ((hF.put hd).put hd2))
    refine wp_mono this fun e a' w' q => ?_
    cases e with
    | normal => exact ⟨q.1, u', by rw [hc1], q.2⟩
    | ret => exact ⟨q.1, u', by rw [hc1], q.2⟩
    | panic ch => exact ⟨q.1, u', by rw [hc1], q.2⟩
    | outgrown => exact ⟨u', q⟩
    | exit i => exact q
    | goto i => exact q
  have hg : ∀ w : World, ∀ z, (execOp (a.put (some d) z).eval ⟨some d2, .assign (.tmp d), ty2, pos2, af2, none⟩).run P w = .ok (.value z) w := by
    intro w z
    have hE : getE ((d, z) :: argE 0 l) d = some z := by simp [getE]
    have := (hF.put (v := z) hd).2.2 d z hE
    simp [execOp, Act.eval, this]
  have hr : (execOp a.eval ⟨some d, .call ⟨.builtin .recover, #[], tys⟩, ty, pos, af, none⟩).run P w = .ok .recover w := by simp [execOp, resolve, invoke, builtin]
  show wpOpsS P _ _ [0, 1] a (c₀ :: cs) w
  rcases hu with ⟨v, older, hu, rfl, rfl⟩ | ⟨hu, rfl, rfl⟩
  · have hrec : recoverD (c₀ :: cs) = some (r, { c₀ with mode := .panicking ({ v := r, recovered := true } :: older) } :: cs) := by
      simp [recoverD, hc, hu]
    have hg' := hg w r
    simp only [wpOpsS, List.getElem?_toArray, List.getElem?_cons_zero, List.getElem?_cons_succ, Region.wanted, hr, hrec, if_true, hg']
    exact key _ rfl
  · have hrec : recoverD (c₀ :: cs) = none := by simp [recoverD, hc, hu]
    have hg' := hg w .nilIface
    simp only [wpOpsS, List.getElem?_toArray, List.getElem?_cons_zero, List.getElem?_cons_succ, Region.wanted, hr, hrec, if_true, hg']
    exact key _ (by rw [← hu, ← hc])
section ops
variable {mm : Nat} {P : Program} {ds : List Deferred} {n : Nat} {Q : Exit → Act → World → Prop} {E : Env} {w : World} {ops : Array Oper} {l : List Oper}
variable {d : Nat} {ty : TypeId} {pos : String} {af : Array Edge}
theorem mkf2 {Fe : Fence} [Wd Fe] {f : Fn} {x y : Operand} {v1 v2 : Value} (h1 : opd E x = some v1) (h2 : opd E y = some v2) (hd : Nat.blt d n = true) (k : L Fe mm P ds n ops l Q ((d, .func f #[] #[v1, v2]) :: E) w) : L Fe mm P ds n ops (⟨some d, .makeFunc f #[] #[x, y], ty, pos, af, none⟩ :: l) Q E w :=
  LY.rd _ hd (fun ac ha w _ => by simp [execOp, Instr.makeFunc, opd_eval ha h1, opd_eval ha h2]) k
/-- A deferred call of a closure. -/
theorem dfr {x : Operand} {tys : Array TypeId} {g : FuncId} {cap : Array Value} (hx : opd E x = some (.func (.func g) #[] cap)) (k : L Fence.wide mm P ({ target := .fn (.func g) cap, args := #[] } :: ds) n ops l Q E w) :
    L Fence.wide mm P ds n ops (⟨none, .defer ⟨.value x, #[], tys⟩, ty, pos, af, none⟩ :: l) Q E w := fun a ha => by
  have hrun : (execOp a.eval ⟨none, .defer ⟨.value x, #[], tys⟩, ty, pos, af, none⟩).run P w = .ok (.defer { target := .fn (.func g) cap, args := #[] }) w := by
    simp [execOp, resolve, opd_eval ha hx, Deferred.ofValue]
  refine wpListIn_plain rfl fun K hK => ?_
  refine ⟨about_any _ _ _, ?_⟩
  show Oper.uponIn Fence.wide mm P _ a K Q (Sem.run P (Oper.semAt none a.eval _) w)
  rw [Oper.semAt_none, hrun]
  exact hK _ _ (k _ ⟨by rw [← ha.1]; rfl, ha.2⟩)
/-- What an interface holds: 'x != nil'. -/
theorem neqIN {st : Sty} [Wy st] {x : Operand} {t yt : TypeId} {v : Value} {b : Bool} (hx : opd E x = some v) (hv : (v = .nilIface ∧ b = false) ∨ (∃ t' u, v = .iface t' u) ∧ b = true) (hu : ∃ ms, P.underlying t = some (.interface ms)) (hd : Nat.blt d n = true) (k : LY st P ds n ops l Q ((d, .bool b) :: E) w) :
    LY st P ds n ops (⟨some d, .binOp .neq t x (.const .nilIface) yt, ty, pos, af, none⟩ :: l) Q E w := by
  have hm : P.underlying t = some (.interface (P.methodsAt t)) := by
    obtain ⟨ms, hu⟩ := hu
    simp [Program.methodsAt, hu]
  refine LY.rd _ hd (fun ac ha w _ => ?_) k
  have hx' := opd_eval ha hx
  have hy' : ac.eval (.const .nilIface) = .nilIface := rfl
  rcases hv with ⟨rfl, rfl⟩ | ⟨⟨t', u, rfl⟩, rfl⟩
  · have hg : (eqGuard .neq t x (.const .nilIface) .nilIface .nilIface).run P w = .ok () w := by cases x <;> simp [eqGuard]
    simp only [execOp, hx', hy', Sem.run_bind, hg, Result.andThen_ok, run_neq_nil_nil w t hm, Sem.run_pure]
  · have hg : (eqGuard .neq t x (.const .nilIface) (.iface t' u) .nilIface).run P w = .ok () w := by cases x <;> simp [eqGuard]
    simp only [execOp, hx', hy', Sem.run_bind, hg, Result.andThen_ok, run_neq_held_nil w t t' u hm, Sem.run_pure]
/-- 'x.(T)' with its bool, of the type that it has. -/
theorem taY {st : Sty} [Wy st] {x : Operand} {t a : TypeId} {v : Value} {td : TypeDesc} (hx : opd E x = some (.iface a v)) (hu : P.underlying a = some td) (ht : (match td with | .interface _ => true | _ => false) = false) (hd : Nat.blt d n = true) (k : LY st P ds n ops l Q ((d, .tuple #[v, .bool true]) :: E) w) :
    LY st P ds n ops (⟨some d, .typeAssert x t a true, ty, pos, af, none⟩ :: l) Q E w := by
  refine LY.rd _ hd (fun ac ha w _ => ?_) k
  cases td <;> first | (cases ht; done) | simp [execOp, opd_eval ha hx, Instr.typeAssert, underlying, program, Sem.run, hu]
end ops
theorem run_results_cc {P : Program} {w : World} {fn : Func} {t u : Nat} {a b : Addr} {tt tu : TypeId} {v x : Value} {tmps : Array Value} (hr : fn.results = #[.cell t tt, .cell u tu]) (ht : tmps.getD t undef = .pointer (some a)) (hu : tmps.getD u undef = .pointer (some b))
    (h1 : aggB P tt = some false) (h2 : aggB P tu = some false) (hc : w.cell? a = some v) (hd : w.cell? b = some x) : (results fn tmps).run P w = .ok (.tuple #[v, x]) w := by
  simp only [Array.getD_eq_getD_getElem?] at ht hu
  simp [results, hr, ht, hu, asAddr, loadVar, run_isAgg h1, run_isAgg h2, hc, hd]
end Go.Proofs.YtmdpmpdlkaogdaaDoor.Vc

namespace Go.Proofs.YtmdpmpdlkaogdaaDoor
open Go Go.RowKit Vc
theorem u_any : ∃ ms, P.underlying 20 = some (.interface ms) := ⟨_, Tryd.underlying20⟩
theorem ze_Stop : zeroB P tStop = some (.agg #[.int .i64 0]) := by kernel_rfl
theorem sz_Stop : szB P tStop = some 1 := by kernel_rfl
theorem fl_Stop_0 : fldB P tStop 0 = some 0 := by kernel_rfl
theorem c_Open1 {w : World} {bo be : Nat} {vo : Value} {x c : Int} (ho : w.heap[bo]? = some (.cells #[vo] 23 (0, 0))) (he : w.heap[be]? = some (.cells #[.int .i64 x] 27 (0, 0))) (hne : bo ≠ be) :
    CallsD P 10 #[.pointer (some ⟨bo, 0, none⟩), .pointer (some ⟨be, 0, none⟩)] (.panicking (stop c)) w fun e u' w' => e = .returned (.tuple #[]) ∧ settle u' = .returning ∧ Ext (fun k => k = bo ∨ k = be) w w' ∧
      w'.heap[bo]? = some (.cells #[.slice none 0 0] 23 (0, 0)) ∧ w'.heap[be]? = some (.cells #[.int .i64 c] 27 (0, 0)) := by
  refine enterR (l := [_, _]) (n := 18) (r := .iface tStop (.agg #[.int .i64 c])) Tryd.func10 rfl rfl rfl rfl rfl (.inl ⟨_, [], rfl, rfl, rfl⟩) ?_
  refine W.seq ?_
  refine W.reg <| mv rfl rfl <| neqIN rfl (.inr ⟨⟨_, _, rfl⟩, rfl⟩) u_any rfl <| L.nil ?_
  refine N.th ?_
  refine W.condT rfl ?_
  refine W.seq ?_
  refine W.reg <| mv rfl rfl <| taY rfl Tryd.underlying37 rfl rfl <| mv rfl rfl <| ext rfl rfl rfl <| ext rfl rfl rfl <| new ze_Stop rfl <| stR (cells := #[.int .i64 c]) rfl rfl sz_Stop rfl (heap_new _ _) rfl <| asg rfl rfl <| L.nil ?_
  refine N.th ?_
  obtain ⟨w1, hw1⟩ : ∃ w1, w1 = (w.alloc (.cells (Value.cells (.agg #[.int .i64 0])) tStop)).setRow w.heap.size #[.int .i64 c] := ⟨_, rfl⟩
  have hx1 : Ext none_ w w1 := by rw [hw1]; exact (Ext.alloc none_ _ _).trans' (Ext.setRow (S := fun k => k = w.heap.size) _ (fun _ => rfl) _) (fun i hi e => by omega)
  have hs1 : w1.heap[w.heap.size]? = some (.cells #[.int .i64 c] tStop (0, 0)) := by rw [hw1]; exact setRow_heap _ _ _ _ _ _ (heap_new _ _)
  rw [show (w.alloc (.cells (Value.cells (.agg #[.int .i64 0])) tStop)).setRow w.heap.size #[.int .i64 c] = w1 from hw1.symm]
  refine W.seq ?_
  refine W.seq ?_
  refine W.reg <| mv rfl rfl <| notB rfl rfl <| L.nil ?_
  refine N.th ?_
  refine W.condF rfl ?_
  refine W.skip ?_
  refine N.th ?_
  have hx1d : Ext none_ w1 w1.drew := Ext.drew _ _
  have ho1 := hx1d.obj (hx1.obj ho id) id
  have he1 := hx1d.obj (hx1.obj he id) id
  have hs2 := hx1d.obj hs1 id
  have hbo := lt_of_obj ho
  have hxa : Ext (fun k => k = bo) w1.drew (w1.drew.setCell ⟨bo, 0, none⟩ (.slice none 0 0)) := Ext.setCell (S := fun k => k = bo) _ (fun _ => rfl) _
  have hS2 : (w1.drew.setCell ⟨bo, 0, none⟩ (.slice none 0 0)).cell? ⟨w.heap.size, 0 + 0, none⟩ = some (.int .i64 c) := cell_of (hxa.obj hs2 (fun e => by omega)) rfl
  refine W.draw [] true (fun w' => w'.cell? ⟨w.heap.size, 0 + 0, none⟩ = some (.int .i64 c)) [0, 1, 2, 3] rfl rfl (by kernel_rfl) (cell_of hs2 rfl) ?_
  refine fad rfl fl_Stop_0 rfl <| ldK rfl ag_Errno rfl (fun w h => h) <| st1 rfl rfl sz_files rfl ho1 rfl ?_ (.inr fun _ => hS2)
  have he2 := hxa.obj he1 (fun e => hne e.symm)
  have hxb : Ext (fun k => k = be) (w1.drew.setCell ⟨bo, 0, none⟩ (.slice none 0 0)) ((w1.drew.setCell ⟨bo, 0, none⟩ (.slice none 0 0)).setCell ⟨be, 0, none⟩ (.int .i64 c)) := Ext.setCell (S := fun k => k = be) _ (fun _ => rfl) _
  refine st1 rfl rfl sz_Errno rfl he2 rfl ?_ (.inl ⟨rfl, rfl⟩)
  refine L.nilH ?_
  refine N.end0 rfl ⟨rfl, rfl, ?_, ?_, ?_⟩
  · exact ((hx1.trans hx1d).none.trans (hxa.mono fun _ _ h => .inl h)).trans (hxb.mono fun _ _ h => .inr h)
  · exact hxb.obj (set1 ho1 _) hne
  · exact set1 he2 _
theorem c_Open1q {w : World} {v1 v2 : Value} :
    CallsD P 10 #[v1, v2] .returning w fun e u' w' => e = .returned (.tuple #[]) ∧ u' = .returning ∧ w' = w := by
  refine enterR (l := [_, _]) (n := 18) (r := .nilIface) Tryd.func10 rfl rfl rfl rfl rfl (.inr ⟨rfl, rfl, rfl⟩) ?_
  refine W.seq ?_
  refine W.reg <| mv rfl rfl <| neqIN rfl (.inl ⟨rfl, rfl⟩) u_any rfl <| L.nil ?_
  refine N.th ?_
  refine W.condF rfl ?_
  refine W.skip ?_
  exact N.end0 rfl ⟨rfl, rfl, rfl⟩
end Go.Proofs.YtmdpmpdlkaogdaaDoor

namespace Go.Proofs.YtmdpmpdlkaogdaaDoor
open Go Go.RowKit Vc

/-- What a call of 'ahead' tells, of the tree. -/
theorem ahead_of_call {m : Tr.T} {E : List FE} {p : Tr.Bytes} {w w' : World} {e : Ending} (hE : fm E = Tr.files m) (hn : (m.map (·.1)).Nodup) (h : match Tr.ahd (fm E) (Tr.ups (Sp.parts p)) with
      | none => e = .returned (.tuple #[.bool true, .slice none 0 0])
      | some k => ∃ v, e = .returned (.tuple #[.bool false, v]) ∧ StrsA w.heap.size w' v k) :
    ∃ (fb : Bool) (lkv : Value), e = .returned (.tuple #[.bool fb, lkv]) ∧ ((fb = true ∧ Tr.ahd m (Tr.ups (Sp.parts p)) = none) ∨ (fb = false ∧ ∃ lk, Tr.ahd m (Tr.ups (Sp.parts p)) = some lk ∧ StrsA w.heap.size w' lkv lk)) := by
  rw [hE, Tr.ahd_files hn] at h
  cases ha : Tr.ahd m (Tr.ups (Sp.parts p)) with
  | none => rw [ha] at h; exact ⟨_, _, h, .inl ⟨rfl, rfl⟩⟩
  | some lk => rw [ha] at h; obtain ⟨v, he, hv⟩ := h; exact ⟨_, _, he, .inr ⟨rfl, lk, rfl, hv⟩⟩
theorem lack_len {m : Tr.T} {p : Tr.Bytes} {lk : List Tr.Bytes} (hcp : Sp.Cl p) (halk : Tr.ahd m (Tr.ups (Sp.parts p)) = some lk) : lk.length ≤ 12 := by
  have h1 := (Tr.ahd_some m _ _ halk).2
  have h3 : lk.length ≤ (Tr.ups (Sp.parts p)).length := (h1.2 (Tr.nodup_ups hcp)).length_le_of_subset fun e he => (h1.1 e he).1
  have h4 := (Tr.parts_cl hcp).2.2
  rw [ups_len] at h3
  omega

theorem read_r {m : Tr.T} (h : Tr.Ok m) {s : Tr.Bytes} (hc : (Sp.clean s).2 = 0) :
    (((Sp.clean s).1 = [] ∨ (∃ c, Tr.get m (Sp.clean s).1 = some (true, c)) ∨ Tr.ahd m (Tr.ups (Sp.parts (Sp.clean s).1)) = none) → Tr.read m s = ([], 54)) ∧
    ((Sp.clean s).1 ≠ [] → Tr.ahd m (Tr.ups (Sp.parts (Sp.clean s).1)) ≠ none → Tr.get m (Sp.clean s).1 = none → Tr.read m s = ([], 52)) ∧
    (∀ c, (Sp.clean s).1 ≠ [] → Tr.get m (Sp.clean s).1 = some (false, c) → Tr.read m s = (c, 0)) := by
  have hcl := Sp.clean_cl hc
  have h0 : ¬ (Sp.clean s).2 ≠ 0 := by simpa using hc
  have hun : Tr.read m s = match Tr.at_ m (Sp.clean s).1 with
    | some x => if x.1 then ([], 54) else match Tr.ahead m (Sp.clean s).1 with
      | none => ([], 54)
      | some _ => (x.2, 0)
    | none => match Tr.ahead m (Sp.clean s).1 with
      | none => ([], 54)
      | some _ => ([], 52) := by
    unfold Tr.read; rw [if_neg h0]; rfl
  generalize hp : (Sp.clean s).1 = p at *
  refine ⟨?_, fun hp0 ha hg => ?_, fun c hp0 hg => ?_⟩
  · rintro (e | ⟨c, hg⟩ | ha)
    · rw [hun, e]; rfl
    · rw [hun, Tr.at_of (h.sound hg).1, hg]; rfl
    · have ha' := (Tr.ahd_iff hcl).1 ha
      rw [hun, ha']
      cases Tr.at_ m p with
      | none => rfl
      | some x => simp
  · rw [hun, Tr.at_of hp0, hg]
    cases ha' : Tr.ahead m p with
    | none => exact absurd ((Tr.ahd_iff hcl).2 ha') ha
    | some l => rfl
  · rw [hun, Tr.at_of hp0, hg, h.ahead_nil hg]; rfl

end Go.Proofs.YtmdpmpdlkaogdaaDoor

namespace Go.Proofs.YtmdpmpdlkaogdaaDoor
open Go Go.RowKit Vc

theorem ze_File : zeroB P tF = some (.agg #[.string (S []), .bool false, .slice none 0 0]) := by kernel_rfl
theorem ok_Of : FnOk P 13 := ⟨_, Tryd.func13, by kernel_rfl, by kernel_rfl⟩
/-- Each seen once. -/
def cnt (l : List Tr.Bytes) : AL := l.map fun k => (k, .int .i64 1)
theorem cnt_keys (l : List Tr.Bytes) : (cnt l).map (·.1) = l := by simp [cnt, Function.comp_def]
theorem cnt_none {l : List Tr.Bytes} {k : Tr.Bytes} (h : k ∉ l) : aget (cnt l) k = none := (Tr.get_none (α := Value)).2 (by rw [cnt_keys]; exact h)
theorem cnt_some {l : List Tr.Bytes} {k : Tr.Bytes} (h : k ∈ l) : aget (cnt l) k = some (.int .i64 1) := by
  cases hg : aget (cnt l) k with
  | none => exact absurd h (by have := (Tr.get_none (α := Value)).1 hg; rwa [cnt_keys] at this)
  | some v =>
    obtain ⟨j, -, e⟩ := List.mem_map.1 (Tr.get_mem (α := Value) hg)
    cases e; rfl
theorem cnt_new {l : List Tr.Bytes} {k : Tr.Bytes} (h : k ∉ l) : aset (cnt l) k (.int .i64 1) = cnt (l ++ [k]) := by
  have := Tr.set_new (α := Value) (.int .i64 1) (cnt_none h)
  simp only [cnt, List.map_append, List.map_cons, List.map_nil]
  exact this
theorem aget_aset (al : AL) (k : Tr.Bytes) (v : Value) : aget (aset al k v) k = some v := by
  have := Tr.get_set (α := Value) al k k v
  rw [if_pos rfl] at this
  exact this
theorem FilesA.cells {w : World} {b o n c i : Nat} {E : List FE} {x : FE} (h : FilesA w (.slice (some ⟨b, o, none⟩) n c) E) (hi : E[i]? = some x) : ∀ j u, (fcells x)[j]? = some u → w.cell? ⟨b, o + i * 3 + j, none⟩ = some u := by
  obtain ⟨h0, h1, h2⟩ := h.cell hi
  rintro (_ | _ | _ | j) u hj
  · cases hj; exact h0
  · cases hj; exact h1
  · cases hj; exact h2
  · cases hj
theorem drop_fm {E : List FE} {i : Nat} {x : FE} (h : E[i]? = some x) : fm (E.drop i) = (x.1, (x.2.1, x.2.2.2)) :: fm (E.drop (i + 1)) := by
  obtain ⟨hi, rfl⟩ := List.getElem?_eq_some_iff.1 h
  rw [List.drop_eq_getElem_cons hi]; rfl

/-- What Of answers. -/
def OfR (w : World) (E : List FE) (e : Ending) (w' : World) : Prop := Ext none_ w w' ∧ ((Tr.of (fm E)).1 = none → e = .returned (.tuple #[.pointer none, .int .i64 (Tr.of (fm E)).2])) ∧
  ∀ m, (Tr.of (fm E)).1 = some m → Tr.Ok m ∧ ∃ bt bm, e = .returned (.tuple #[pT bt, .int .i64 0]) ∧ w.heap.size ≤ bt ∧ w.heap.size ≤ bm ∧ TreeAt none_ w' bt bm m (Tr.size m)
theorem OfR.fail {w w' : World} {E : List FE} {c : Int} (hx : Ext none_ w w') (h : Tr.of (fm E) = (none, c)) : OfR w E (.returned (.tuple #[.pointer none, .int .i64 c])) w' := by
  refine ⟨hx, fun _ => by rw [h], fun m hm => ?_⟩
  rw [h] at hm; cases hm

theorem c_Of {w : World} {v : Value} {E : List FE} (hv : FilesA w v E) (hl : ∀ x ∈ E, x.2.2.2.length ≤ 100000000) : Calls P 13 #[v] w (OfR w E) := by
  obtain ⟨a, c, rfl, hn, hmx, -, -⟩ := id hv.row
  simp only [maxLen] at hmx
  refine enter (l := [_]) (n := 68) Tryd.func13 rfl rfl rfl ?_
  refine W.seq ?_
  refine W.reg <| asg rfl rfl <| asg rfl rfl <| L.nil ?_
  refine N.th ?_
  refine W.seq ?_
  refine W.reg <| call (vs := []) rfl rfl ok_New (c_New w) ?_
  rintro e w1 ⟨bt, bm, rfl, hbt, hbm, hT1, hx1⟩
  refine ⟨_, rfl, ?_⟩
  refine asg rfl rfl <| L.nil ?_
  refine N.th ?_
  have hs1 := hx1.size
  have hTlt := hT1.lt
  have hTwo : ∀ i, i < w.heap.size → Two bt bm i → none_ i := by rintro i hi (e | e) <;> omega
  refine W.seq ?_
  refine W.reg <| mkm rfl <| asg rfl rfl <| L.nil ?_
  refine N.th ?_
  obtain ⟨w2, hw2⟩ : ∃ w2, w2 = w1.alloc (.map #[] 0) := ⟨_, rfl⟩
  obtain ⟨r, hr⟩ : ∃ r, r = w1.heap.size := ⟨_, rfl⟩
  have hM2 : MapAt w2 r [] := by rw [hw2, hr]; exact MapAt.new w1
  have hx12 : Ext none_ w1 w2 := by rw [hw2]; exact Ext.alloc _ _ _
  rw [← hw2, ← hr]
  refine W.seq ?_
  refine W.seq ?_
  refine W.reg <| mv rfl rfl <| lenV rfl u_files rfl <| mv rfl rfl <| L.nil ?_
  refine N.th ?_
  refine W.block ?_
  refine W.loop (X := Nat × Tr.T × List Tr.Bytes) (fun x => [(15, .int .i64 x.1), (13, .slice a E.length c), (14, .int .i64 E.length), (4, pT bt), (5, .map (some r))])
    (fun x w' => x.1 ≤ E.length ∧ Tr.Ok x.2.1 ∧ TreeAt none_ w' bt bm x.2.1 (Tr.size x.2.1) ∧ MapAt w' r (cnt x.2.2) ∧ Ext none_ w w' ∧ Tr.ofF x.2.1 x.2.2 (fm (E.drop x.1)) = Tr.of (fm E)) (fun x => E.length - x.1) (0, [], []) ⟨rfl, rfl, rfl, rfl, rfl, trivial⟩
    ⟨by omega, Tr.Ok.nil, hT1.ext0 hx12, hM2, hx1.trans hx12, rfl⟩ ?_
  rintro ⟨i, m, seen⟩ w4 ⟨hi, hok, hT4, hM4, hx4, hof⟩
  dsimp only at hi hok hT4 hM4 hof ⊢
  refine W.seq ?_
  refine W.reg <| lssI rfl rfl rfl <| L.nil ?_
  refine N.th ?_
  refine W.seq ?_
  refine W.cond rfl (fun h => ?_) (fun h => ?_)
  · refine W.skip ?_
    refine N.th ?_
    have hi1 : i < E.length := by simp at h; omega
    obtain ⟨x, hxe⟩ : ∃ x, E[i]? = some x := ⟨_, List.getElem?_eq_getElem hi1⟩
    have hxm := List.mem_of_getElem? hxe
    obtain ⟨b, o, c', hv', -, -⟩ := hv.plain hxm
    cases hv'
    have hxl := hl x hxm
    rw [drop_fm hxe] at hof
    obtain ⟨va, vc, hbv, -⟩ := hv.bytes x hxm
    refine W.seqM (fun E' w' => E' = [(15, .int .i64 i), (13, .slice (some ⟨b, o, none⟩) E.length c), (14, .int .i64 E.length), (4, pT bt), (5, .map (some r))] ∧ ∃ m' seen', Tr.Ok m' ∧ TreeAt none_ w' bt bm m' (Tr.size m') ∧ MapAt w' r (cnt seen') ∧ Ext none_ w w' ∧ Tr.ofF m' seen' (fm (E.drop (i + 1))) = Tr.of (fm E)) ?_ ?_
    · refine W.block ?_
      refine W.seq ?_
      refine W.reg <| ixa rfl rfl u_files sz_File rfl (by omega) (by omega) <| ldk (cs := fcells x) rfl ag_File sz_File rfl rfl (fun j u hj => (hv.ext0 hx4).cells hxe j u hj) <| new ze_File rfl <|
        stR (cells := (fcells x).toArray) rfl rfl sz_File (by rw [show fcells x = [.string (S x.1), .bool x.2.1, x.2.2.1] from rfl, hbv]; rfl) (heap_new _ _) rfl <| L.nil ?_
      refine N.th ?_
      obtain ⟨w5, hw5⟩ : ∃ w5, w5 = (w4.alloc (.cells (Value.cells (.agg #[.string (S []), .bool false, .slice none 0 0])) tF)).setRow w4.heap.size (fcells x).toArray := ⟨_, rfl⟩
      obtain ⟨f, hf⟩ : ∃ f, f = w4.heap.size := ⟨_, rfl⟩
      have hx45 : Ext none_ w4 w5 := by rw [hw5]; exact (Ext.alloc none_ _ _).trans' (Ext.setRow (S := fun k => k = w4.heap.size) _ (fun _ => rfl) _) (fun i hi e => by omega)
      have hf5 : w5.heap[f]? = some (.cells (fcells x).toArray tF (0, 0)) := by rw [hw5, hf]; exact setRow_heap _ _ _ _ _ _ (heap_new _ _)
      rw [show (w4.alloc (.cells (Value.cells (.agg #[.string (S []), .bool false, .slice none 0 0])) tF)).setRow w4.heap.size (fcells x).toArray = w5 from hw5.symm, ← hf]
      refine W.seq ?_
      refine W.reg <| fad rfl fl_File_0 rfl <| ld1 rfl ag_str rfl (cell_of hf5 rfl) <| call (vs := [_]) rfl rfl ok_Clean (c_Clean x.1 w5) ?_
      rintro e w6 ⟨rfl, hx6⟩
      refine ⟨_, rfl, ?_⟩
      refine mv rfl rfl <| ext rfl rfl rfl <| ext rfl rfl rfl <| asg rfl rfl <| asg rfl rfl <| L.nil ?_
      refine N.th ?_
      obtain ⟨q, ec, hq⟩ : ∃ q ec, Sp.clean x.1 = (q, ec) := ⟨_, _, rfl⟩
      rw [hq]
      dsimp only
      have hx46 := hx45.trans hx6
      refine W.seq ?_
      refine W.seq ?_
      refine W.reg <| mv rfl rfl <| neqI rfl rfl rfl <| L.nil ?_
      refine N.th ?_
      refine W.cond rfl (fun h => ?_) (fun h => ?_)
      · refine W.seq ?_
        refine W.reg <| mv rfl rfl <| asg rfl rfl <| asg rfl rfl <| L.nil ?_
        refine N.th ?_
        refine W.ret ?_
        refine N.rth <| N.rinb <| N.rth <| N.rth <| N.rinb <| N.rth ?_
        refine N.ret2 rfl rfl rfl ?_   -- RETURN
        have h0 : ec ≠ 0 := by simpa using h
        refine OfR.fail (hx4.trans hx46) ?_
        rw [← hof]
        unfold Tr.ofF
        rw [hq, if_pos h0]
      have h0 : ec = 0 := by simpa using h
      subst h0
      refine W.skip ?_
      refine N.th ?_
      have hT6 := hT4.ext0 hx46
      refine W.seq ?_
      refine W.reg <| mv rfl rfl <| mv rfl rfl <| call (vs := [_, _]) rfl rfl ok_at (c_at q hT6) ?_
      rintro e w7 ⟨nv, rfl, hnv, hx7⟩
      refine ⟨_, rfl, ?_⟩
      refine asg rfl rfl <| L.nil ?_
      refine N.th ?_
      have hx47 := hx46.trans hx7
      have hM7 := hM4.ext hx47 id
      have hT7 := hT4.ext0 hx47
      have hf7 := (hx6.trans hx7).obj hf5 id
      refine W.seq ?_
      refine W.seq ?_
      have kdr : ∀ {wz : World}, MapAt wz r (cnt seen) → Kd wz (fun k => k = r) := fun hMz k hk ce e fr he => by
        subst hk
        obtain ⟨es, ck, h1, -⟩ := hMz
        rw [h1] at he; cases he
      have hrt : ¬ r = bt := fun e => by
        subst e
        obtain ⟨es, ck, h1, -⟩ := hM7
        rw [hT7.cell] at h1; cases h1
      have hrm : ¬ r = bm := by omega
      have hrf : f ≠ r := fun e => by
        subst e
        obtain ⟨es, ck, h1, -⟩ := hM7
        rw [hf7] at h1; cases h1
      by_cases hseen : q ∈ seen
      · refine W.reg <| mv rfl rfl <| mv rfl rfl <| lku rfl rfl u_mInt u_str ze_int rfl hM7 ?_
        rw [cnt_some hseen]
        refine addI (c := 2) rfl rfl rfl rfl <| mup rfl rfl rfl u_mInt u_str hM7 fun w8 hM8 hx8 _ => ?_
        refine L.nil ?_
        refine N.th ?_
        refine W.seqM (fun E' w' => getE E' 52 = some (.bool true) ∧ w' = w8) ?_ ?_
        · refine W.reg <| mv rfl rfl <| mv rfl rfl <| lku rfl rfl u_mInt u_str ze_int rfl hM8 ?_
          rw [aget_aset]
          refine gtrI rfl rfl rfl ?_
          refine Vc.bt rfl ?_
          (repeat (first | refine mv rfl rfl ?_ | refine asg rfl rfl ?_ | refine L.off rfl rfl rfl rfl rfl ?_ | refine L.offU rfl rfl rfl rfl ?_ | refine L.on rfl rfl rfl ?_ | refine pickT rfl rfl rfl ?_ | refine pickF rfl rfl rfl ?_ | refine ext rfl rfl rfl ?_ | refine nilc rfl rfl ?_ | refine lenV (t := 86) rfl u_strs rfl ?_ | refine lenV (t := 24) rfl u_bytes rfl ?_ | refine lenV (t := 23) rfl u_files rfl ?_ | refine lenS (t := 9) rfl u_str rfl ?_ | refine eqlI rfl rfl rfl ?_ | refine neqI rfl rfl rfl ?_ | refine lssI rfl rfl rfl ?_ | refine leqI rfl rfl rfl ?_ | refine gtrI rfl rfl rfl ?_ | refine geqI rfl rfl rfl ?_))
          exact L.nil <| N.th (N.meet [(52, .bool true)] ⟨rfl, trivial⟩ ⟨rfl, rfl⟩)
        rintro E' w9 ⟨he, rfl⟩
        refine W.condT he ?_
        refine W.seq ?_
        refine W.reg <| asg rfl rfl <| asg rfl rfl <| L.nil ?_
        refine N.th ?_
        refine W.ret ?_
        refine N.rth <| N.rinb <| N.rth <| N.rth <| N.rinb <| N.rth ?_
        refine N.ret2 rfl rfl rfl ?_   -- RETURN
        refine OfR.fail ((hx4.trans hx47).trans' hx8 fun i hi e => by have := hx1.size; omega) ?_
        rw [← hof]
        unfold Tr.ofF
        rw [hq]
        simp [hseen]
      · refine W.reg <| mv rfl rfl <| mv rfl rfl <| lku rfl rfl u_mInt u_str ze_int rfl hM7 ?_
        rw [cnt_none hseen]
        refine addI (c := 1) rfl rfl rfl rfl <| mup rfl rfl rfl u_mInt u_str hM7 fun w8 hM8 hx8 _ => ?_
        rw [cnt_new hseen] at hM8
        refine L.nil ?_
        refine N.th ?_
        have hT8 : TreeAt none_ w8 bt bm m (Tr.size m) := hT7.ext hx8 (kdr hM7) (fun e => hrt e.symm) (fun e => hrm e.symm)
        have hf8 := hx8.obj hf7 hrf
        have hx08 : Ext none_ w w8 := (hx4.trans hx47).trans' hx8 fun i hi e => by have := hx1.size; omega
        have hnv8 : PtrAt none_ w8 nv (Tr.at_ m q) := hnv.ext hx8 (kdr hM7)
        refine W.seqM (fun E' w' => E' = [(52, .bool (x.2.1 && Tr.isDir (Tr.at_ m q))), (7, .pointer (some ⟨f, 0, none⟩)), (8, .string (S q)), (15, .int .i64 i), (13, .slice (some ⟨b, o, none⟩) E.length c), (14, .int .i64 E.length), (4, pT bt), (5, .map (some r))] ∧ w' = w8) ?_ ?_
        · refine W.reg <| mv rfl rfl <| mv rfl rfl <| lku rfl rfl u_mInt u_str ze_int rfl hM8 ?_
          rw [cnt_some (by simp : q ∈ seen ++ [q])]
          refine gtrI rfl rfl rfl ?_
          refine Vc.bf rfl ?_
          (repeat (first | refine mv rfl rfl ?_ | refine asg rfl rfl ?_ | refine L.off rfl rfl rfl rfl rfl ?_ | refine L.offU rfl rfl rfl rfl ?_ | refine L.on rfl rfl rfl ?_ | refine pickT rfl rfl rfl ?_ | refine pickF rfl rfl rfl ?_ | refine ext rfl rfl rfl ?_ | refine nilc rfl rfl ?_ | refine lenV (t := 86) rfl u_strs rfl ?_ | refine lenV (t := 24) rfl u_bytes rfl ?_ | refine lenV (t := 23) rfl u_files rfl ?_ | refine lenS (t := 9) rfl u_str rfl ?_ | refine eqlI rfl rfl rfl ?_ | refine neqI rfl rfl rfl ?_ | refine lssI rfl rfl rfl ?_ | refine leqI rfl rfl rfl ?_ | refine gtrI rfl rfl rfl ?_ | refine geqI rfl rfl rfl ?_))
          refine fad rfl fl_File_1 rfl <| L.on rfl rfl rfl <| ld1 (v := .bool x.2.1) rfl ag_bool rfl (cell_of hf8 rfl) ?_
          cases hd : x.2.1 with
          | false =>
            (repeat (first | refine mv rfl rfl ?_ | refine asg rfl rfl ?_ | refine L.off rfl rfl rfl rfl rfl ?_ | refine L.offU rfl rfl rfl rfl ?_ | refine L.on rfl rfl rfl ?_ | refine pickT rfl rfl rfl ?_ | refine pickF rfl rfl rfl ?_ | refine ext rfl rfl rfl ?_ | refine nilc rfl rfl ?_ | refine lenV (t := 86) rfl u_strs rfl ?_ | refine lenV (t := 24) rfl u_bytes rfl ?_ | refine lenV (t := 23) rfl u_files rfl ?_ | refine lenS (t := 9) rfl u_str rfl ?_ | refine eqlI rfl rfl rfl ?_ | refine neqI rfl rfl rfl ?_ | refine lssI rfl rfl rfl ?_ | refine leqI rfl rfl rfl ?_ | refine gtrI rfl rfl rfl ?_ | refine geqI rfl rfl rfl ?_))
            exact L.nil <| N.th (N.meet [(52, .bool false), (7, _), (8, _), (15, _), (13, _), (14, _), (4, _), (5, _)] ⟨rfl, rfl, rfl, rfl, rfl, rfl, rfl, rfl, trivial⟩ ⟨rfl, rfl⟩)
          | true =>
            (repeat (first | refine mv rfl rfl ?_ | refine asg rfl rfl ?_ | refine L.off rfl rfl rfl rfl rfl ?_ | refine L.offU rfl rfl rfl rfl ?_ | refine L.on rfl rfl rfl ?_ | refine pickT rfl rfl rfl ?_ | refine pickF rfl rfl rfl ?_ | refine ext rfl rfl rfl ?_ | refine nilc rfl rfl ?_ | refine lenV (t := 86) rfl u_strs rfl ?_ | refine lenV (t := 24) rfl u_bytes rfl ?_ | refine lenV (t := 23) rfl u_files rfl ?_ | refine lenS (t := 9) rfl u_str rfl ?_ | refine eqlI rfl rfl rfl ?_ | refine neqI rfl rfl rfl ?_ | refine lssI rfl rfl rfl ?_ | refine leqI rfl rfl rfl ?_ | refine gtrI rfl rfl rfl ?_ | refine geqI rfl rfl rfl ?_))
            cases hox : Tr.at_ m q with
            | none =>
              rw [hox] at hnv8
              cases hnv8
              refine neqPN rfl u_pNode rfl ?_
              refine Vc.bf rfl ?_
              (repeat (first | refine mv rfl rfl ?_ | refine asg rfl rfl ?_ | refine L.off rfl rfl rfl rfl rfl ?_ | refine L.offU rfl rfl rfl rfl ?_ | refine L.on rfl rfl rfl ?_ | refine pickT rfl rfl rfl ?_ | refine pickF rfl rfl rfl ?_ | refine ext rfl rfl rfl ?_ | refine nilc rfl rfl ?_ | refine lenV (t := 86) rfl u_strs rfl ?_ | refine lenV (t := 24) rfl u_bytes rfl ?_ | refine lenV (t := 23) rfl u_files rfl ?_ | refine lenS (t := 9) rfl u_str rfl ?_ | refine eqlI rfl rfl rfl ?_ | refine neqI rfl rfl rfl ?_ | refine lssI rfl rfl rfl ?_ | refine leqI rfl rfl rfl ?_ | refine gtrI rfl rfl rfl ?_ | refine geqI rfl rfl rfl ?_))
              exact L.nil <| N.th (N.meet [(52, .bool false), (7, _), (8, _), (15, _), (13, _), (14, _), (4, _), (5, _)] ⟨rfl, rfl, rfl, rfl, rfl, rfl, rfl, rfl, trivial⟩ ⟨rfl, rfl⟩)
            | some y =>
              rw [hox] at hnv8
              obtain ⟨nb, sl, rfl, hnb, hav, hrow⟩ := hnv8
              refine neqPN rfl u_pNode rfl ?_
              refine Vc.bt rfl ?_
              (repeat (first | refine mv rfl rfl ?_ | refine asg rfl rfl ?_ | refine L.off rfl rfl rfl rfl rfl ?_ | refine L.offU rfl rfl rfl rfl ?_ | refine L.on rfl rfl rfl ?_ | refine pickT rfl rfl rfl ?_ | refine pickF rfl rfl rfl ?_ | refine ext rfl rfl rfl ?_ | refine nilc rfl rfl ?_ | refine lenV (t := 86) rfl u_strs rfl ?_ | refine lenV (t := 24) rfl u_bytes rfl ?_ | refine lenV (t := 23) rfl u_files rfl ?_ | refine lenS (t := 9) rfl u_str rfl ?_ | refine eqlI rfl rfl rfl ?_ | refine neqI rfl rfl rfl ?_ | refine lssI rfl rfl rfl ?_ | refine leqI rfl rfl rfl ?_ | refine gtrI rfl rfl rfl ?_ | refine geqI rfl rfl rfl ?_))
              refine fad rfl fl_Node_0 rfl <| L.on rfl rfl rfl <| ld1 (v := .bool y.1) rfl ag_bool rfl (cell_of hnb rfl) ?_
              (repeat (first | refine mv rfl rfl ?_ | refine asg rfl rfl ?_ | refine L.off rfl rfl rfl rfl rfl ?_ | refine L.offU rfl rfl rfl rfl ?_ | refine L.on rfl rfl rfl ?_ | refine pickT rfl rfl rfl ?_ | refine pickF rfl rfl rfl ?_ | refine ext rfl rfl rfl ?_ | refine nilc rfl rfl ?_ | refine lenV (t := 86) rfl u_strs rfl ?_ | refine lenV (t := 24) rfl u_bytes rfl ?_ | refine lenV (t := 23) rfl u_files rfl ?_ | refine lenS (t := 9) rfl u_str rfl ?_ | refine eqlI rfl rfl rfl ?_ | refine neqI rfl rfl rfl ?_ | refine lssI rfl rfl rfl ?_ | refine leqI rfl rfl rfl ?_ | refine gtrI rfl rfl rfl ?_ | refine geqI rfl rfl rfl ?_))
              exact L.nil <| N.th (N.meet [(52, .bool y.1), (7, _), (8, _), (15, _), (13, _), (14, _), (4, _), (5, _)] ⟨rfl, rfl, rfl, rfl, rfl, rfl, rfl, rfl, trivial⟩ ⟨rfl, rfl⟩)
        rintro E' w9 ⟨rfl, rfl⟩
        refine W.cond rfl (fun h => ?_) (fun h => ?_)
        · refine W.seq ?_
          refine W.reg <| asg rfl rfl <| asg rfl rfl <| L.nil ?_
          refine N.th ?_
          refine W.ret ?_
          refine N.rth <| N.rinb <| N.rth <| N.rth <| N.rinb <| N.rth ?_
          refine N.ret2 rfl rfl rfl ?_   -- RETURN
          refine OfR.fail hx08 ?_
          rw [← hof]
          unfold Tr.ofF
          rw [hq]
          dsimp only
          rw [h]
          simp
        refine W.skip ?_
        refine N.th ?_
        have hof' : (if (Tr.step m q (x.2.1, x.2.2.2)).2 ≠ 0 then (none, (Tr.step m q (x.2.1, x.2.2.2)).2) else Tr.ofF (Tr.step m q (x.2.1, x.2.2.2)).1 (seen ++ [q]) (fm (E.drop (i + 1)))) = Tr.of (fm E) := by
          rw [← hof]
          conv => rhs; unfold Tr.ofF
          rw [hq]
          dsimp only
          rw [h]
          simp [hseen]
        have hMT : ∀ {wz}, Ext (Two bt bm) w9 wz → MapAt wz r (cnt (seen ++ [q])) := fun hz => hM8.ext hz (fun e => e.elim hrt hrm)
        refine W.seqM (fun E' w' => E' = [(9, .int .i64 (Tr.step m q (x.2.1, x.2.2.2)).2), (15, .int .i64 i), (13, .slice (some ⟨b, o, none⟩) E.length c), (14, .int .i64 E.length), (4, pT bt), (5, .map (some r))] ∧ TreeAt none_ w' bt bm (Tr.step m q (x.2.1, x.2.2.2)).1 (Tr.size (Tr.step m q (x.2.1, x.2.2.2)).1) ∧ MapAt w' r (cnt (seen ++ [q])) ∧ Ext none_ w w') ?_ ?_   -- CUT
        · refine W.seq ?_
          refine W.reg <| fad rfl fl_File_1 rfl <| ld1 (v := .bool x.2.1) rfl ag_bool rfl (cell_of hf8 rfl) <| L.nil ?_
          refine N.th ?_
          have hT9 : Tree none_ w9 bt bm m := ⟨hT8, hok.len, hok.bytes⟩
          cases hd : x.2.1 with
          | true =>
            refine W.condT rfl ?_
            refine W.reg <| mv rfl rfl <| mv rfl rfl <| call (vs := [_, _]) rfl rfl ok_Mkdir (c_Mkdir q hT9) ?_
            rintro e w10 ⟨rfl, hT10, hx10⟩
            refine ⟨_, rfl, ?_⟩
            refine asg rfl rfl <| L.nil ?_
            exact N.th (N.meet [(9, _), (15, _), (13, _), (14, _), (4, _), (5, _)] ⟨rfl, rfl, rfl, rfl, rfl, rfl, trivial⟩ ⟨rfl, hT10, hMT hx10, hx08.trans' hx10 hTwo⟩)   -- MEET
          | false =>
            refine W.condF rfl ?_
            refine W.reg <| mv rfl rfl <| mv rfl rfl <| fad rfl fl_File_2 rfl <| ld1 (v := x.2.2.1) rfl ag_bytes rfl (cell_of hf8 rfl) <| call (vs := [_, _, _]) rfl rfl ok_Write (c_Write q hT9 ((hv.ext0 hx08).bytes x hxm) hxl) ?_
            rintro e w10 ⟨rfl, hT10, hx10⟩
            refine ⟨_, rfl, ?_⟩
            refine asg rfl rfl <| L.nil ?_
            exact N.th (N.meet [(9, _), (15, _), (13, _), (14, _), (4, _), (5, _)] ⟨rfl, rfl, rfl, rfl, rfl, rfl, trivial⟩ ⟨rfl, hT10, hMT hx10, hx08.trans' hx10 hTwo⟩)   -- MEET
        rintro E' w10 ⟨rfl, hT10, hM10, hx10⟩
        refine W.seq ?_
        refine W.reg <| mv rfl rfl <| neqI rfl rfl rfl <| L.nil ?_
        refine N.th ?_
        refine W.cond rfl (fun h => ?_) (fun h => ?_)
        · refine W.seq ?_
          refine W.reg <| mv rfl rfl <| asg rfl rfl <| asg rfl rfl <| L.nil ?_
          refine N.th ?_
          refine W.ret ?_
          refine N.rinb <| N.rth <| N.rth <| N.rinb <| N.rth ?_
          refine N.ret2 rfl rfl rfl ?_   -- RETURN
          have h1 : (Tr.step m q (x.2.1, x.2.2.2)).2 ≠ 0 := by simpa using h
          refine OfR.fail hx10 ?_
          rw [← hof', if_pos h1]
        · refine W.skip ?_
          refine N.inb ?_
          have h1 : ¬ (Tr.step m q (x.2.1, x.2.2.2)).2 ≠ 0 := by simpa using h
          rw [if_neg h1] at hof'
          exact N.th (N.meet [(15, _), (13, _), (14, _), (4, _), (5, _)] ⟨rfl, rfl, rfl, rfl, rfl, trivial⟩ ⟨rfl, _, _, hok.step _ _, hT10, hM10, hx10, hof'⟩)   -- MEET
    rintro E' w5 ⟨rfl, m', seen', hok', hT5, hM5, hx5, hof5⟩
    refine W.reg <| addI (c := ((i + 1 : Nat) : Int)) rfl rfl rfl (by rw [w64 (by omega) (by omega)]; simp) <| mv rfl rfl <| L.nil ?_
    exact N.th (N.round (x := (i + 1, m', seen')) ⟨rfl, rfl, rfl, rfl, rfl, trivial⟩ ⟨by dsimp only; omega, hok', hT5, hM5, hx5, hof5⟩ (by dsimp only; omega))   -- ROUND
  · refine W.exit ?_
    refine N.xth ?_
    refine N.xth ?_
    refine N.xeq ?_
    refine N.th ?_
    refine W.seq ?_
    refine W.reg <| mv rfl rfl <| asg rfl rfl <| asg rfl rfl <| L.nil ?_
    refine N.th ?_
    refine W.ret ?_
    refine N.ret2 rfl rfl rfl ?_   -- RETURN
    have hi1 : i = E.length := by simp at h; omega
    rw [hi1, List.drop_length] at hof
    have hof2 : Tr.of (fm E) = (some m, 0) := hof.symm
    refine ⟨hx4, fun h => ?_, fun m' hm' => ?_⟩
    · rw [hof2] at h; cases h
    · rw [hof2] at hm'
      cases hm'
      exact ⟨hok, bt, bm, rfl, hbt, hbm, hT4⟩
end Go.Proofs.YtmdpmpdlkaogdaaDoor

namespace Go.Proofs.YtmdpmpdlkaogdaaDoor
namespace Ar
theorem par_fuel : ∀ (f g : Nat) (b : List UInt8) (acc : Tr.T), b.length < f → b.length < g → par f b acc = par g b acc := by
  intro f
  induction f with
  | zero => intro g b acc h; omega
  | succ f ih =>
    intro g b acc hf hg
    obtain ⟨g, rfl⟩ : ∃ k, g = k + 1 := ⟨g - 1, by omega⟩
    cases b with
    | nil => rfl
    | cons k b =>
      simp only [List.length_cons] at hf hg
      simp only [par]
      rw [ih g ((b.drop 2).drop (val (b.take 2))) _ (by simp; omega) (by simp; omega)]
      rw [ih g ((((b.drop 2).drop (val (b.take 2))).drop 8).drop (val (((b.drop 2).drop (val (b.take 2))).take 8))) _ (by simp; omega) (by simp; omega)]
theorem par_len : ∀ (f : Nat) (b : List UInt8) (acc l : Tr.T), (par f b acc).1 = some l → ∀ x ∈ l, x ∈ acc ∨ x.2.2.length ≤ b.length := by
  intro f
  induction f with
  | zero => intro b acc l h; cases h
  | succ f ih =>
    intro b acc l h x hx
    cases b with
    | nil => cases h
    | cons k b =>
      unfold par at h
      split at h
      · split at h
        · cases h; exact .inl hx
        · cases h
      split at h
      · cases h
      split at h
      · cases h
      split at h
      · cases h
      split at h
      · cases h
      split at h
      · cases h
      split at h
      · rcases ih _ _ _ h x hx with h1 | h1
        · rcases List.mem_append.1 h1 with h1 | h1
          · exact .inl h1
          · right; simp at h1; rw [h1]; simp
        · right; simp at h1 ⊢; omega
      split at h
      · cases h
      split at h
      · cases h
      · rcases ih _ _ _ h x hx with h1 | h1
        · rcases List.mem_append.1 h1 with h1 | h1
          · exact .inl h1
          · right; simp at h1; rw [h1]; simp; omega
        · right; simp at h1 ⊢; omega
/-- What the entries come to. -/
def fin (r : Option Tr.T × Int) : Option Tr.T × Int := match r with
  | (none, c) => (none, c)
  | (some l, _) => match Tr.of l with
    | (none, _) => (none, 64)
    | (some m, _) => (some (Tr.files m), 0)
theorem opn_fin {b : List UInt8} (h : b.length ≤ 262144 ∧ sign.isPrefixOf b = true) : opn b = fin (par (b.length + 1) (b.drop 4) []) := by
  rw [opn, if_neg (fun x => x h)]; rfl
theorem opn_bad {b : List UInt8} (h : ¬ (b.length ≤ 262144 ∧ sign.isPrefixOf b = true)) : opn b = (none, 64) := by
  rw [opn, if_pos h]
theorem sign_take (b : List UInt8) (m : Nat) (hm : m = min b.length 4) : sign.isPrefixOf (b.take m) = sign.isPrefixOf b := by
  have h4 : b.take m = b.take 4 := by
    rw [hm]
    by_cases h : b.length ≤ 4
    · rw [Nat.min_eq_left h, List.take_of_length_le h, List.take_of_length_le (Nat.le_refl _)]
    · rw [Nat.min_eq_right (by omega)]
  rw [h4, Bool.eq_iff_iff, List.isPrefixOf_iff_prefix, List.isPrefixOf_iff_prefix, List.prefix_iff_eq_take, List.prefix_iff_eq_take]
  rw [List.take_take]
  exact Iff.rfl
end Ar
open Go Go.RowKit Vc
/-- What Open answers. -/
def OpenR (w : World) (r : Option Tr.T × Int) (e : Ending) (w' : World) : Prop := Ext none_ w w' ∧ (r.1 = none → e = .returned (.tuple #[.slice none 0 0, .int .i64 r.2])) ∧
  ∀ l, r.1 = some l → ∃ v E, e = .returned (.tuple #[v, .int .i64 0]) ∧ w'.ownsRow w.heap.size tF 3 v E.length (E.flatMap fcells) ∧ (∀ x ∈ E, Byts w.heap.size w' x.2.2.1 x.2.2.2) ∧ fm E = l
theorem OpenR.fail {w w' : World} {r : Option Tr.T × Int} {c : Int} (hx : Ext none_ w w') (h : r = (none, c)) : OpenR w r (.returned (.tuple #[.slice none 0 0, .int .i64 c])) w' := by
  subst h
  exact ⟨hx, fun _ => rfl, fun l hl => by cases hl⟩
theorem own_low {w : World} {B C : Nat} {v : Value} {e : TypeId} {sz n : Nat} {xs : List Value} (h : w.ownsRow B e sz v n xs) (hC : C ≤ B) : w.ownsRow C e sz v n xs := by
  obtain ⟨h1, h | ⟨g, cap, cur, a, b, c⟩⟩ := h
  · exact ⟨h1, .inl h⟩
  · exact ⟨h1, .inr ⟨g, cap, cur, a, Nat.le_trans hC b, c⟩⟩
theorem inv_fn {P : Program} {g : FuncId} {cap args : Array Value} {w : World} (hf : FnOk P g) : (invoke (.fn (.func g) cap) args).run P w = .ok (.enter g (args ++ cap)) w := by
  obtain ⟨fn, hfn, hne, hbd⟩ := hf
  have hne' : ¬ fn.name = "runtime.NumGoroutine" := by simpa using hne
  have hbd' : ¬ fn.body = none := by cases h : fn.body with | none => rw [h] at hbd; cases hbd | some c => simp
  simp [invoke, callFunc, program, Sem.run, hfn, hne', hbd']
theorem ok_Open1 : FnOk P 10 := ⟨_, Tryd.func10, by kernel_rfl, by kernel_rfl⟩
theorem ok_AOpen : FnOk P 5 := ⟨_, Tryd.func5, by kernel_rfl, by kernel_rfl⟩
abbrev dOpen (bo be : Nat) : Deferred := { target := .fn (.func 10) #[.pointer (some ⟨bo, 0, none⟩), .pointer (some ⟨be, 0, none⟩)], args := #[] }
section door
variable {fn : Func} {E : Env} {w : World} {bo be n : Nat} {vo : Value} {x c : Int} {R : Ending → World → Prop}
theorem door_pan (hr : fn.results = #[.cell 2 23, .cell 3 27]) (h2 : getE E 2 = some (.pointer (some ⟨bo, 0, none⟩))) (h3 : getE E 3 = some (.pointer (some ⟨be, 0, none⟩)))
    (ho : w.heap[bo]? = some (.cells #[vo] 23 (0, 0))) (he : w.heap[be]? = some (.cells #[.int .i64 x] 27 (0, 0))) (hne : bo ≠ be)
    (k : ∀ w', Ext (fun k => k = bo ∨ k = be) w w' → R (.returned (.tuple #[.slice none 0 0, .int .i64 c])) w') : N [dOpen bo be] n (bodyPostD P fn R (.panic (stop c))) E w := fun a ha => by
  show Leaves P fn a.tmps R a.defers (.panicking (stop c)) w
  rw [ha.1]
  refine leaves_cons (f := 10) (args := #[] ++ #[.pointer (some ⟨bo, 0, none⟩), .pointer (some ⟨be, 0, none⟩)]) (by simp) (inv_fn ok_Open1) ?_
  refine (c_Open1 ho he hne).mono ?_
  rintro e u' w' ⟨rfl, hu, hx, h4, h5⟩
  show Leaves P fn a.tmps R [] (settle u') w'
  rw [hu]
  exact ⟨_, run_results_cc hr (ha.2.2 _ _ h2) (ha.2.2 _ _ h3) ag_files ag_Errno (cell1 h4) (cell1 h5), k w' hx⟩
theorem door_ret (hr : fn.results = #[.cell 2 23, .cell 3 27]) (h2 : getE E 2 = some (.pointer (some ⟨bo, 0, none⟩))) (h3 : getE E 3 = some (.pointer (some ⟨be, 0, none⟩)))
    (ho : w.heap[bo]? = some (.cells #[vo] 23 (0, 0))) (he : w.heap[be]? = some (.cells #[.int .i64 x] 27 (0, 0)))
    (k : R (.returned (.tuple #[vo, .int .i64 x])) w) : N [dOpen bo be] n (bodyPostD P fn R .ret) E w := fun a ha => by
  show Leaves P fn a.tmps R a.defers .returning w
  rw [ha.1]
  refine leaves_cons (f := 10) (args := #[] ++ #[.pointer (some ⟨bo, 0, none⟩), .pointer (some ⟨be, 0, none⟩)]) (by simp) (inv_fn ok_Open1) ?_
  refine c_Open1q.mono ?_
  rintro e u' w' ⟨rfl, rfl, rfl⟩
  show Leaves P fn a.tmps R [] .returning w'
  exact ⟨_, run_results_cc hr (ha.2.2 _ _ h2) (ha.2.2 _ _ h3) ag_files ag_Errno (cell1 ho) (cell1 he), k⟩
end door
theorem ze_filesV : zeroB P 23 = some (.slice none 0 0) := by kernel_rfl

set_option maxHeartbeats 1000000 in
theorem c_AOpen {w : World} {v : Value} {b : List UInt8} (hv : BytA w v b) (hl : b.length ≤ 1000000) : Calls P 5 #[v] w (OpenR w (Ar.opn b)) := by
  obtain ⟨a, c, rfl, hbn, hbm, -, -⟩ := id hv
  refine enterD (l := [_]) (n := 35) Tryd.func5 rfl rfl rfl ?_
  refine W.seq ?_
  refine W.reg <| new ze_filesV rfl <| new ze_Errno rfl <| L.nil ?_
  refine N.th ?_
  obtain ⟨w1, hw1⟩ : ∃ w1, w1 = (w.alloc (.cells (Value.cells (.slice none 0 0)) 23)).alloc (.cells (Value.cells (.int .i64 0)) 27) := ⟨_, rfl⟩
  obtain ⟨bo, hbo⟩ : ∃ bo, bo = w.heap.size := ⟨_, rfl⟩
  obtain ⟨be, hbe⟩ : ∃ be, be = (w.alloc (.cells (Value.cells (.slice none 0 0)) 23)).heap.size := ⟨_, rfl⟩
  have hbe1 : be = bo + 1 := by rw [hbe, hbo]; simp
  have hx1 : Ext none_ w w1 := by rw [hw1]; exact (Ext.alloc none_ _ _).trans (Ext.alloc none_ _ _)
  have ho1 : w1.heap[bo]? = some (.cells #[.slice none 0 0] 23 (0, 0)) := by rw [hw1, hbo]; exact (Ext.alloc none_ _ _).obj (heap_new _ _) id
  have he1 : w1.heap[be]? = some (.cells #[.int .i64 0] 27 (0, 0)) := by rw [hw1, hbe]; exact heap_new _ _
  rw [← hw1, ← hbo, ← hbe]
  have hne : bo ≠ be := by omega
  have hbk : ∀ {S : Nat → Prop} {w' : World}, Ext S w w' → ∀ i, i < w.heap.size → (i = bo ∨ i = be) → none_ i := fun _ i hi h => by omega
  refine W.seq ?_
  refine W.reg <| mkf2 rfl rfl rfl <| dfr rfl <| L.nil ?_
  refine N.th ?_
  have hv1 := hv.ext0 hx1
  have hfail : ∀ {E : Env} {w' : World} {fn : Func} {vo : Value} {x c : Int}, fn.results = #[.cell 2 23, .cell 3 27] → getE E 2 = some (.pointer (some ⟨bo, 0, none⟩)) → getE E 3 = some (.pointer (some ⟨be, 0, none⟩)) → w'.heap[bo]? = some (.cells #[vo] 23 (0, 0)) → w'.heap[be]? = some (.cells #[.int .i64 x] 27 (0, 0)) → Ext none_ w w' → Ar.opn b = (none, c) →
      N [dOpen bo be] 35 (bodyPostD P fn (OpenR w (Ar.opn b)) (.panic (stop c))) E w' := fun hr h2 h3 ho he hx hop => door_pan hr h2 h3 ho he hne fun w'' hx' => OpenR.fail (hx.trans' hx' (hbk hx)) hop
  refine W.seq ?_
  refine W.reg <| mv rfl rfl <| lenV rfl u_bytes rfl <| leqI rfl rfl rfl ?_
  by_cases hlen : b.length ≤ 262144
  case neg =>
    refine Vc.bf (by simp; omega) ?_
    (repeat (first | refine mv rfl rfl ?_ | refine asg rfl rfl ?_ | refine L.off rfl rfl rfl rfl rfl ?_ | refine L.offU rfl rfl rfl rfl ?_ | refine L.on rfl rfl rfl ?_ | refine pickT rfl rfl rfl ?_ | refine pickF rfl rfl rfl ?_ | refine ext rfl rfl rfl ?_ | refine nilc rfl rfl ?_ | refine lenV (t := 86) rfl u_strs rfl ?_ | refine lenV (t := 24) rfl u_bytes rfl ?_ | refine lenV (t := 23) rfl u_files rfl ?_ | refine lenS (t := 9) rfl u_str rfl ?_ | refine eqlI rfl rfl rfl ?_ | refine neqI rfl rfl rfl ?_ | refine lssI rfl rfl rfl ?_ | refine leqI rfl rfl rfl ?_ | refine gtrI rfl rfl rfl ?_ | refine geqI rfl rfl rfl ?_))
    refine callP (vs := [_, .int .i64 64]) rfl rfl ok_must (c_must _ 64 w1) ?_
    rintro e w2 ⟨rfl, rfl⟩
    refine .inr ⟨_, rfl, ?_⟩
    refine fun _ ha => hfail rfl rfl rfl ho1 he1 hx1 ?_ _ ha
    rw [Ar.opn, if_pos (fun h => hlen h.1)]
  refine Vc.bt (by simp; omega) ?_
  obtain ⟨m, hm⟩ : ∃ m, m = min b.length 4 := ⟨_, rfl⟩
  have hmI : (min (b.length : Int) 4) = (m : Int) := by omega
  refine mv rfl rfl <| L.on rfl rfl rfl <| mv rfl rfl <| L.on rfl rfl rfl <| mv rfl rfl <| L.on rfl rfl rfl <| lenV rfl u_bytes rfl <| L.on rfl rfl rfl <| minI rfl rfl rfl ?_
  rw [hmI]
  have hvm : BytA w1 (.slice a m c) (b.take m) := by
    have := RowA.take (m := m) (k := m) hv1 (by omega)
    unfold BytA
    rw [show (b.take m).length = m by rw [List.length_take]; omega, show encB (b.take m) = (encB b).take m by simp [encB]]
    exact this
  refine L.on rfl rfl rfl <| slVh rfl rfl u_bytes el_bytes.szB rfl (by omega) (by omega) <| L.on rfl rfl rfl <| cvtBA (a := b.take m) rfl u_bytes u_u8 u_str rfl (Kn.here hvm) <| L.on rfl rfl rfl <|
    call (vs := [_, .string (S Ar.sign)]) rfl rfl ok_HasPrefix (c_HasPrefix (b.take m) Ar.sign w1) ?_
  rintro e w2 ⟨rfl, rfl⟩
  refine ⟨_, rfl, ?_⟩
  rw [Ar.sign_take b m hm]
  refine pickT rfl rfl rfl <| callP (vs := [_, .int .i64 64]) rfl rfl ok_must (c_must _ 64 w1) ?_
  rintro e w2 ⟨rfl, rfl⟩
  by_cases hsg : Ar.sign.isPrefixOf b = true
  case neg =>
    refine .inr ⟨stop 64, by simp [hsg], ?_⟩
    refine fun _ ha => hfail rfl rfl rfl ho1 he1 hx1 ?_ _ ha
    rw [Ar.opn, if_pos (fun h => hsg h.2)]
  refine .inl ⟨_, if_pos hsg, ?_⟩
  have hb4 : 4 ≤ b.length := by
    have := (List.isPrefixOf_iff_prefix.1 hsg).length_le
    simpa [Ar.sign] using this
  refine L.nil ?_
  refine N.th ?_
  refine W.seq ?_
  have hcut := BytA.cut (k := 4) hv1 hb4
  refine W.reg <| mv rfl rfl <| slVl rfl rfl u_bytes el_bytes.szB rfl (by omega) (by omega) <| bld (vs := #[(0, .slice (if c = 4 then a else a.map (·.add (4 * 1))) (b.length - 4) (c - 4))]) (v := .agg #[.slice (if c = 4 then a else a.map (·.add (4 * 1))) (b.length - 4) (c - 4)]) rfl rfl (fun _ => by kernel_rfl) <| box rfl rfl <| asg rfl rfl <| L.nil ?_
  refine N.th ?_
  obtain ⟨v4, hv4⟩ : ∃ v4, v4 = Value.slice (if c = 4 then a else a.map (·.add (4 * 1))) (b.length - 4) (c - 4) := ⟨_, rfl⟩
  obtain ⟨w2, hw2⟩ : ∃ w2, w2 = w1.alloc (.cells #[Value.slice (if c = 4 then a else a.map (·.add (4 * 1))) (b.length - 4) (c - 4)] tRd) := ⟨_, rfl⟩
  obtain ⟨rb, hrb⟩ : ∃ rb, rb = w1.heap.size := ⟨_, rfl⟩
  refine W.seq ?_
  show W _ _ _ _ _ _ _ _ (w1.alloc (.cells #[Value.slice (if c = 4 then a else a.map (·.add (4 * 1))) (b.length - 4) (c - 4)] tRd))
  rw [← hw2, ← hrb]
  have hx12 : Ext none_ w1 w2 := by rw [hw2]; exact Ext.alloc none_ _ _
  have hrd : RdAt w2 rb v4 (b.drop 4) := ⟨by rw [hw2, hrb, hv4]; exact heap_new _ _, by rw [hv4]; exact hcut.ext0 hx12⟩
  have hs1 := hx1.size
  refine W.reg <| mv rfl rfl <| callP (vs := [_]) rfl rfl ok_all (c_all hrd (by simp; omega)) ?_
  rintro e w3 ⟨hx3, hnone, hsome⟩
  generalize hr : Ar.par ((b.drop 4).length + 1) (b.drop 4) [] = r at hnone hsome
  have hop : Ar.par (b.length + 1) (b.drop 4) [] = r := by rw [← hr]; exact Ar.par_fuel _ _ _ _ (by simp; omega) (by omega)
  have hrlt := lt_of_obj hrd.1
  have hx03 : Ext none_ w w3 := (hx1.trans hx12).trans' hx3 (fun i hi e => by omega)
  have hbl := lt_of_obj he1
  have hx13 : Ext none_ w1 w3 := hx12.trans' hx3 (fun i hi e => by omega)
  have ho3 := hx13.obj ho1 id
  have he3 := hx13.obj he1 id
  have hopn : Ar.opn b = Ar.fin r := by rw [← hop]; exact Ar.opn_fin ⟨hlen, hsg⟩
  obtain ⟨o, c1⟩ := r
  cases o with
  | none =>
    rw [hnone rfl]
    exact .inr ⟨_, rfl, fun _ ha => hfail rfl rfl rfl ho3 he3 hx03 hopn _ ha⟩
  | some l =>
    obtain ⟨v2, K, rfl, hown, hbs, hK⟩ := hsome l rfl
    refine .inl ⟨_, rfl, ?_⟩
    have hFA : FilesA w3 v2 K := ⟨(Row.own hown).arg, hbs⟩
    have hlens : ∀ x ∈ K, x.2.2.2.length ≤ 100000000 := by
      intro x hx
      have hm : fnd x ∈ l := by rw [← hK]; exact List.mem_map_of_mem hx
      rcases Ar.par_len _ _ _ l (by rw [hr]) _ hm with h | h
      · cases h
      · have : x.2.2.2.length ≤ (b.drop 4).length := h
        rw [List.length_drop] at this
        omega
    refine call (vs := [_]) rfl rfl ok_Of (c_Of hFA hlens) ?_
    rintro e w4 ⟨hx4, hnone4, hsome4⟩
    rw [hK] at hnone4 hsome4
    have hx04 := hx03.trans hx4
    have ho4 := hx4.obj ho3 id
    have he4 := hx4.obj he3 id
    have hopn4 : Ar.opn b = match Tr.of l with
        | (none, _) => (none, 64)
        | (some m, _) => (some (Tr.files m), 0) := hopn
    have hxe : ∀ {w' : World} {z : Value}, Ext (fun k => k = be) w' (w'.setCell ⟨be, 0, none⟩ z) := fun {w' z} => Ext.setCell (S := fun k => k = be) _ (fun _ => rfl) _
    have hxo : ∀ {w' : World} {z : Value}, Ext (fun k => k = bo) w' (w'.setCell ⟨bo, 0, none⟩ z) := fun {w' z} => Ext.setCell (S := fun k => k = bo) _ (fun _ => rfl) _
    have hbe0 : ∀ i, i < w.heap.size → i = be → none_ i := fun i hi e => by omega
    have hbo0 : ∀ i, i < w.heap.size → i = bo → none_ i := fun i hi e => by omega
    cases hof : Tr.of l with
    | mk o4 c4 =>
    rw [hof] at hnone4 hsome4 hopn4
    cases o4 with
    | none =>
      rw [hnone4 rfl]
      have hc4 : c4 ≠ 0 := by
        have := Tr.ofF_none l [] [] (by have := congrArg Prod.fst hof; exact this)
        rw [show Tr.ofF [] [] l = (none, c4) from hof] at this
        exact this
      refine ⟨_, rfl, ?_⟩
      refine mv rfl rfl <| ext rfl rfl rfl <| ext (v := .int .i64 c4) rfl rfl rfl <| asg rfl rfl <| st1 rfl rfl sz_Errno rfl he4 rfl <| L.nil ?_
      refine N.th ?_
      refine W.seq ?_
      have he5 := set1 he4 (.int .i64 c4)
      have hx45 := hxe (w' := w4) (z := .int .i64 c4)
      have ho5 := hxe (w' := w4) (z := .int .i64 c4) |>.obj ho4 hne
      generalize w4.setCell ⟨be, 0, none⟩ (.int .i64 c4) = w5 at he5 ho5 hx45 ⊢
      refine W.reg <| ld1 rfl ag_Errno rfl (cell1 he5) <| eqlI rfl rfl rfl <| callP (vs := [_, .int .i64 64]) rfl rfl ok_must (c_must _ 64 w5) ?_
      rintro e w6 ⟨rfl, rfl⟩
      exact .inr ⟨stop 64, by simp [hc4], fun _ ha => hfail rfl rfl rfl ho5 he5 (hx04.trans' hx45 hbe0) hopn4 _ ha⟩
    | some mm =>
      obtain ⟨hokm, bt, bm, rfl, hbt, hbm', hT4⟩ := hsome4 mm rfl
      refine ⟨_, rfl, ?_⟩
      refine mv rfl rfl <| ext rfl rfl rfl <| ext (v := .int .i64 0) rfl rfl rfl <| asg rfl rfl <| st1 rfl rfl sz_Errno rfl he4 rfl <| L.nil ?_
      refine N.th ?_
      refine W.seq ?_
      have he5 := set1 he4 (.int .i64 0)
      have hx45 := hxe (w' := w4) (z := .int .i64 0)
      have ho5 := hxe (w' := w4) (z := .int .i64 0) |>.obj ho4 hne
      generalize w4.setCell ⟨be, 0, none⟩ (.int .i64 0) = w5 at he5 ho5 hx45 ⊢
      have hl3 := lt_of_obj he3
      have hT5 : TreeAt none_ w5 bt bm mm (Tr.size mm) := hT4.ext hx45 (fun k hk c e fr hc => by
        rw [hk, he4] at hc; cases hc; exact ⟨by decide, by decide⟩) (fun e => by omega) (fun e => by omega)
      refine W.reg <| ld1 rfl ag_Errno rfl (cell1 he5) <| eqlI rfl rfl rfl <| callP (vs := [_, .int .i64 64]) rfl rfl ok_must (c_must _ 64 w5) ?_
      rintro e w6 ⟨rfl, rfl⟩
      refine .inl ⟨_, if_pos rfl, ?_⟩
      refine L.nil ?_
      refine N.th ?_
      refine W.seq ?_
      have hml := hokm.len
      have hmb := hokm.bytes
      have hx05 := hx04.trans' hx45 hbe0
      refine W.reg <| mv rfl rfl <| call (vs := [_]) rfl rfl ok_Files (c_Files hT5 (by omega) (by omega)) ?_
      rintro e w6 ⟨v6, E6, rfl, hE6, hown6, hb6, hx56⟩
      refine ⟨_, rfl, ?_⟩
      have ho6 := hx56.obj ho5 id
      have he6 := hx56.obj he5 id
      obtain ⟨-, hone⟩ := own_cells hown6
      refine st1 rfl rfl sz_files hone ho6 rfl ?_
      have ho7 := set1 ho6 v6
      have hx67 := hxo (w' := w6) (z := v6)
      have he7 := hx67.obj he6 (fun e => hne e.symm)
      generalize w6.setCell ⟨bo, 0, none⟩ v6 = w7 at ho7 he7 hx67 ⊢
      refine st1 rfl rfl sz_Errno rfl he7 rfl <| L.nil ?_
      refine N.th ?_
      have he8 := set1 he7 (.int .i64 0)
      have hx78 := hxe (w' := w7) (z := .int .i64 0)
      have ho8 := hx78.obj ho7 hne
      generalize w7.setCell ⟨be, 0, none⟩ (.int .i64 0) = w8 at ho8 he8 hx78 ⊢
      refine W.ret ?_
      have hx08 : Ext none_ w w8 := ((hx05.trans hx56).trans' hx67 hbo0).trans' hx78 hbe0
      have hl5 := lt_of_obj he5
      have hs5 := hx05.size
      have hx68 : Ext (fun k => k = bo ∨ k = be) w6 w8 := (hx67.mono fun _ _ h => .inl h).trans (hx78.mono fun _ _ h => .inr h)
      refine fun _ ha => door_ret rfl rfl rfl ho8 he8 ⟨hx08, fun h => ?_, fun l' hl' => ?_⟩ _ ha
      · rw [hopn4] at h; cases h
      · rw [hopn4] at hl'
        cases hl'
        refine ⟨v6, E6, rfl, own_low (own_ext hown6 hx68 fun k hk => ?_) (by omega), fun x hx => own_low (own_ext (hb6 x hx) hx68 fun k hk => ?_) (by omega), hE6⟩
        · have := own_new hown6 k hk
          rintro (e | e) <;> omega
        · have := own_new (hb6 x hx) k hk
          rintro (e | e) <;> omega
end Go.Proofs.YtmdpmpdlkaogdaaDoor

namespace Go.Proofs.YtmdpmpdlkaogdaaDoor
open Go Go.RowKit Vc

theorem strs_at {B : Nat} {w : World} {v : Value} {l : List Sp.Bytes} {j : Nat} {x : Sp.Bytes} (h : StrsA B w v l) (hj : l[j]? = some x) : ∃ b o c, v = .slice (some ⟨b, o, none⟩) l.length c ∧ w.cell? ⟨b, o + j * 1, none⟩ = some (.string (S x)) := by
  have hlt := (List.getElem?_eq_some_iff.1 hj).1
  rcases (Row.own h).form with ⟨-, h0, -⟩ | ⟨b, o, c, rfl, -, -, -, hc⟩
  · omega
  · exact ⟨b, o, c, rfl, by rw [Nat.mul_one]; exact hc j _ (by simp [encT, hj])⟩
end Go.Proofs.YtmdpmpdlkaogdaaDoor

namespace Go.Proofs.YtmdpmpdlkaogdaaDoor
open Go Go.RowKit Vc
section ops
variable {Fe : Fence} {mm : Nat} [Wd Fe] {P : Program} {ds : List Deferred} {n : Nat} {Q : Exit → Act → World → Prop} {E : Env} {w : World} {ops : Array Oper} {rest : List Oper}
variable {d : Nat} {ty : TypeId} {pos : String} {af : Array Edge}
/-- 'b[k:]' of bytes that came in. -/
theorem slB {w0 : World} {t e : TypeId} {x lo : Operand} {a : Option Addr} {c k : Nat} {l : List UInt8} {κ : IntKind} (hx : opd E x = some (.slice a l.length c)) (hl : opd E lo = some (.int κ (k : Int))) (hu : P.underlying t = some (.slice e)) (hs : szB P e = some 1) (hd : Nat.blt d n = true) (hb : BytA w0 (.slice a l.length c) l) (hk : k ≤ l.length)
    (K : ∀ a' c', BytA w0 (.slice a' (l.drop k).length c') (l.drop k) → L Fe mm P ds n ops rest Q ((d, .slice a' (l.drop k).length c') :: E) w) : L Fe mm P ds n ops (⟨some d, .slice t x (some lo) none none, ty, pos, af, none⟩ :: rest) Q E w := by
  refine slVl hx hl hu hs hd (by omega) (by omega) ?_
  have h := BytA.cut hb hk
  rw [Int.toNat_natCast, show l.length - k = (l.drop k).length by rw [List.length_drop]]
  rw [show l.length - k = (l.drop k).length by rw [List.length_drop]] at h
  exact K _ _ h
/-- 'b[:k]' of bytes that came in. -/
theorem slBh {w0 : World} {t e : TypeId} {x hi : Operand} {a : Option Addr} {c k : Nat} {l : List UInt8} {κ : IntKind} (hx : opd E x = some (.slice a l.length c)) (hl : opd E hi = some (.int κ (k : Int))) (hu : P.underlying t = some (.slice e)) (hs : szB P e = some 1) (hd : Nat.blt d n = true) (hb : BytA w0 (.slice a l.length c) l) (hk : k ≤ l.length)
    (K : BytA w0 (.slice a (l.take k).length c) (l.take k) → L Fe mm P ds n ops rest Q ((d, .slice a (l.take k).length c) :: E) w) : L Fe mm P ds n ops (⟨some d, .slice t x none (some hi) none, ty, pos, af, none⟩ :: rest) Q E w := by
  obtain ⟨a', c', e, hn, -, -, -⟩ := id hb
  cases e
  refine slVh hx hl hu hs hd (by omega) (by omega) ?_
  have h := RowA.take (m := k) (k := k) hb hk
  have e1 : (l.take k).length = k := by rw [List.length_take]; omega
  have K' := K (by unfold BytA; rw [e1, show encB (l.take k) = (encB l).take k by simp [encB]]; exact h)
  rw [e1] at K'
  rw [Int.toNat_natCast]
  exact K'
end ops
theorem BytA.cellx {w : World} {bb o n c i : Nat} {b : List UInt8} (h : BytA w (.slice (some ⟨bb, o, none⟩) n c) b) (hi : i < b.length) : w.cell? ⟨bb, o + i * 1, none⟩ = some (.int .u8 (b[i]?.getD 0).toNat) := by
  obtain ⟨bb', o', c', e, hc⟩ := byt_at h hi
  cases e
  exact hc i hi
/-- What the document's Open answers. -/
def OpenRR (w : World) (r : Option Tr.T × Int) (e : Ending) (w' : World) : Prop := Ext none_ w w' ∧ (r.1 = none → e = .returned (.tuple #[.slice none 0 0, .int .i64 r.2])) ∧
  ∀ l, r.1 = some l → ∃ v E, e = .returned (.tuple #[v, .int .i64 0]) ∧ FilesAt w' v E ∧ fm E = l
theorem OpenRR.fail {w w' : World} {r : Option Tr.T × Int} {c : Int} (hx : Ext none_ w w') (h : r = (none, c)) : OpenRR w r (.returned (.tuple #[.slice none 0 0, .int .i64 c])) w' := by
  subst h
  exact ⟨hx, fun _ => rfl, fun l hl => by cases hl⟩
theorem prefix_take (a b : List UInt8) : (a.take b.length == b) = b.isPrefixOf a := by
  rw [Bool.eq_iff_iff, beq_iff_eq, List.isPrefixOf_iff_prefix, List.prefix_iff_eq_take]
  exact ⟨fun h => h.symm, fun h => h.symm⟩
theorem sign_eq (b : List UInt8) : (b.take 4 == Ar.sign) = Ar.sign.isPrefixOf b := prefix_take b Ar.sign
theorem val2 {b : List UInt8} (h : 2 ≤ b.length) : Ar.val (b.take 2) = (b[0]?.getD 0).toNat * 256 + (b[1]?.getD 0).toNat := by
  match b, h with
  | x :: y :: l, _ => simp [Ar.val]
theorem or_i64 {n c : Nat} (hn : n * 256 + c < 9223372036854775808) (hc : c < 256) : IntKind.i64.wrap ((BitVec.ofInt 64 ((n * 256 : Nat) : Int) ||| BitVec.ofInt 64 (c : Int)).toNat : Int) = ((n * 256 + c : Nat) : Int) := by
  have h1 : (BitVec.ofInt 64 ((n * 256 : Nat) : Int)).toNat = n * 256 := by rw [BitVec.toNat_ofInt]; omega
  have h2 : (BitVec.ofInt 64 (c : Int)).toNat = c := by rw [BitVec.toNat_ofInt]; omega
  have h3 : n * 256 ||| c = n * 256 + c := by
    have := Nat.shiftLeft_add_eq_or_of_lt (i := 8) (b := c) (by omega) n
    rw [Nat.shiftLeft_eq] at this
    exact this.symm
  rw [BitVec.toNat_or, h1, h2, h3]
  exact w64 (by omega) (by omega)

theorem orI64 {st : Sty} [Wy st] {P : Program} {ds : List Deferred} {n : Nat} {Q : Exit → Act → World → Prop} {E : Env} {w : World} {ops : Array Oper} {rest : List Oper} {d : Nat} {ty : TypeId} {pos : String} {af : Array Edge} {x y : Operand} {t yt : TypeId} {a c : Nat} (hx : opd E x = some (.int .i64 ((a * 256 : Nat) : Int))) (hy : opd E y = some (.int .i64 (c : Int))) (hn : a * 256 + c < 9223372036854775808) (hc : c < 256) (hd : Nat.blt d n = true)
    (k : LY st P ds n ops rest Q ((d, .int .i64 ((a * 256 + c : Nat) : Int)) :: E) w) : LY st P ds n ops (⟨some d, .binOp .or t x y yt, ty, pos, af, none⟩ :: rest) Q E w :=
  binI hx hy (fun w => by
    show (pure (.int .i64 (IntKind.i64.wrap ((BitVec.ofInt 64 ((a * 256 : Nat) : Int) ||| BitVec.ofInt 64 (c : Int)).toNat))) : Sem Value).run P w = _
    rw [or_i64 hn hc]; rfl) hd k

end Go.Proofs.YtmdpmpdlkaogdaaDoor

namespace Go.Proofs.YtmdpmpdlkaogdaaDoor.Vc
open Go Go.RowKit
variable {st : Sty} [Wy st] {P : Program} {ds : List Deferred} {n : Nat} {Q : Exit → Act → World → Prop} {E : Env} {w : World} {ops : Array Oper} {l : List Oper}
variable {d : Nat} {ty : TypeId} {pos : String} {af : Array Edge}
theorem encB_cell (l : List UInt8) : encB l = l.map Extern.Stop.cell := rfl
theorem run_eqGuard_arr (op : BinOp) (t : TypeId) (x y : Operand) (a b : Array Value) (w : World) (hg : P.eqGuardType P.depth t = false) : (eqGuard op t x y (.agg a) (.agg b)).run P w = .ok () w := by
  simp [eqGuard, program, Sem.run, hg]
theorem run_eqlA {t e : TypeId} {m : Nat} {a b : List UInt8} (w : World) (ht : P.underlying t = some (.array m e)) (he : P.underlying e = some (.int .u8)) (hs : szB P e = some 1) (ha : a.length = m) (hb : b.length = m) :
    (binOp .eql t (.agg (encB a).toArray) (.agg (encB b).toArray)).run P w = .ok (.bool (a == b)) w := run_eql_bytes w t e m ht he (fun _ => run_sizeOf hs) a b ha hb
theorem eqlA {x y : Operand} {t e yt : TypeId} {m : Nat} {a b : List UInt8} (hx : opd E x = some (.agg (encB a).toArray)) (hy : opd E y = some (.agg (encB b).toArray)) (ht : P.underlying t = some (.array m e)) (he : P.underlying e = some (.int .u8)) (hs : szB P e = some 1) (hg : P.eqGuardType P.depth t = false) (ha : a.length = m) (hb : b.length = m) (hd : Nat.blt d n = true)
    (k : LY st P ds n ops l Q ((d, .bool (a == b)) :: E) w) : LY st P ds n ops (⟨some d, .binOp .eql t x y yt, ty, pos, af, none⟩ :: l) Q E w :=
  binG hx hy (fun x y w => run_eqGuard_arr _ _ _ _ _ _ _ hg) (fun w => run_eqlA w ht he hs ha hb) hd k
theorem neqA {x y : Operand} {t e yt : TypeId} {m : Nat} {a b : List UInt8} (hx : opd E x = some (.agg (encB a).toArray)) (hy : opd E y = some (.agg (encB b).toArray)) (ht : P.underlying t = some (.array m e)) (he : P.underlying e = some (.int .u8)) (hs : szB P e = some 1) (hg : P.eqGuardType P.depth t = false) (ha : a.length = m) (hb : b.length = m) (hd : Nat.blt d n = true)
    (k : LY st P ds n ops l Q ((d, .bool (!(a == b))) :: E) w) : LY st P ds n ops (⟨some d, .binOp .neq t x y yt, ty, pos, af, none⟩ :: l) Q E w :=
  binG hx hy (fun x y w => run_eqGuard_arr _ _ _ _ _ _ _ hg) (fun w => by
    rw [run_neq_struct, encB_cell, encB_cell, run_equalIn_bytes w 9998 t e m ht he (fun _ => run_sizeOf hs) a b ha hb]; rfl) hd k
end Go.Proofs.YtmdpmpdlkaogdaaDoor.Vc
