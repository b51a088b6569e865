/- ArchiveLengths' row and card: of whatever numbers, bytes and choice come in, the law answers true and never panics. -/
import Derived.Test.YtmdpmpdlkaogdaaGreatDoorPl12
import Derived.Test.YtmdpmpdlkaogdaaGreatDoorRows
import Derived.Test.YtmdpmpdlkaogdaaGreatDoorCards
import Derived.Test.YtmdpmpdlkaogdaaGreatDoorTie
import Derived.Test.YtmdpmpdlkaogdaaGreatDoorChecked
import Derived.Test.YtmdpmpdlkaogdaaGreatDoorPl09
import Derived.WalkKit
import Derived.ProofKit
import Derived.OpenShut
import Derived.ShutString
import Derived.ChangeOld
import Derived.Below
import Derived.SizedLaws
import Derived.LaidMore
import Derived.Lay
import Derived.SevenTiedAt
import Derived.Stop.Joined

namespace Go.Proofs.YtmdpmpdlkaogdaaGreatDoor
namespace Ar
def opc (r : Option Tr.T × Int) : Int := match r.1 with | none => r.2 | some _ => 0
def opl (r : Option Tr.T × Int) : Tr.T := r.1.getD []
theorem opn_len (b : List UInt8) : (opl (opn b)).length ≤ 500 := by
  by_cases h : b.length ≤ 262144 ∧ sign.isPrefixOf b = true
  · rw [opn_fin h]
    obtain ⟨o, c⟩ := par (b.length + 1) (b.drop 4) []
    cases o with
    | none => simp [fin, opl]
    | some l =>
      unfold fin
      dsimp only
      cases hof : Tr.of l with
      | mk o2 c2 =>
      cases o2 with
      | none => simp [opl]
      | some m =>
        have hok : Tr.Ok m := Tr.ofF_ok l [] [] m Tr.Ok.nil (by have := congrArg Prod.fst hof; exact this)
        have := hok.len
        simp only [opl, Option.getD_some]
        rw [Tr.files_len]; exact this
  · rw [opn_bad h]; simp [opl]
theorem ent_len (x : Tr.Bytes × Tr.Nd) : (ent x).length ≤ 11 + x.1.length + x.2.2.length := by
  unfold ent
  split
  · simp [num_len]; omega
  · simp [num_len]; omega
theorem ents_len (a : Nat) : ∀ (l : Tr.T), (∀ x ∈ l, x.1.length + x.2.2.length ≤ a) → (ents l).length ≤ l.length * (11 + a) := by
  intro l
  induction l with
  | nil => intro _; simp [ents]
  | cons x l ih =>
    intro h
    have h1 := ent_len x
    have h2 := h x (by simp)
    have h3 := ih fun y hy => h y (List.mem_cons_of_mem _ hy)
    have h4 : ents (x :: l) = ent x ++ ents l := by simp [ents]
    rw [h4, List.length_append, List.length_cons, Nat.add_mul]
    omega
theorem pk_len (l : Tr.T) : (pk l).length = (ents l).length + 5 := by simp [pk, sign]
end Ar
open Go Go.RowKit Vc
theorem files_bound {E : List FE} {l : Tr.T} (h : fm E = l) (hl : l.length ≤ 500) : E.length ≤ 500 := by rw [← h] at hl; simpa using hl
/-- What both Opens answer. -/
def BothR (w : World) (b : List UInt8) (e : Ending) (w' : World) : Prop := ∃ v E, e = .returned (.tuple #[v, .int .i64 (Ar.opc (Ar.opn b))]) ∧ FilesAt w' v E ∧ fm E = Ar.opl (Ar.opn b) ∧ E.length ≤ 500 ∧ Ext none_ w w'
theorem FilesAt.nil (w : World) : FilesAt w (.slice none 0 0) [] := ⟨Row.nil w tF 3, by simp⟩
theorem b_AOpen {w : World} {v : Value} {b : List UInt8} (hv : BytA w v b) (hl : b.length ≤ 1000000) : Calls P 22 #[v] w (BothR w b) := by
  have hlen := Ar.opn_len b
  refine (c_AOpen hv hl).mono fun e w' h => ?_
  obtain ⟨hx, h1, h2⟩ := h
  unfold BothR
  generalize Ar.opn b = r at *
  obtain ⟨o, c⟩ := r
  cases o with
  | none => exact ⟨_, [], h1 rfl, FilesAt.nil w', rfl, by simp, hx⟩
  | some l =>
    obtain ⟨v, E, rfl, ho, hb, hE⟩ := h2 l rfl
    exact ⟨v, E, rfl, FilesA.own ho hb, hE, files_bound hE hlen, hx⟩
theorem b_ROpen {w : World} {v : Value} {b : List UInt8} (hv : BytA w v b) (hl : b.length ≤ 1000000) : Calls P 23 #[v] w (BothR w b) := by
  have hlen := Ar.opn_len b
  refine (c_ROpen hv hl).mono fun e w' h => ?_
  obtain ⟨hx, h1, h2⟩ := h
  unfold BothR
  generalize Ar.opn b = r at *
  obtain ⟨o, c⟩ := r
  cases o with
  | none => exact ⟨_, [], h1 rfl, FilesAt.nil w', rfl, by simp, hx⟩
  | some l =>
    obtain ⟨v, E, rfl, hF, hE⟩ := h2 l rfl
    exact ⟨v, E, rfl, hF, hE, files_bound hE hlen, hx⟩
theorem same_files {b : List UInt8} {E1 E2 : List FE} (h1 : fm E1 = Ar.opl (Ar.opn b)) (h2 : fm E2 = Ar.opl (Ar.opn b)) : decide (E1.map fnd = E2.map fnd) = true := by
  rw [decide_eq_true_eq]; exact h1.trans h2.symm
theorem light_ents {E : List FE} (h : E.length ≤ 20 ∧ ∀ x ∈ E, x.1.length ≤ 300 ∧ x.2.2.2.length ≤ 500) : (Ar.ents (fm E)).length ≤ 20000 := by
  have h1 := Ar.ents_len 800 (fm E) (fun x hx => by
    obtain ⟨y, hy, rfl⟩ := List.mem_map.1 hx
    have := h.2 y hy
    show y.1.length + y.2.2.2.length ≤ 800
    omega)
  rw [fm_len] at h1
  have := h.1
  have h2 : E.length * (11 + 800) ≤ 20 * (11 + 800) := Nat.mul_le_mul_right _ this
  omega

set_option maxHeartbeats 1000000 in
theorem c_ArchivePacks (w : World) {v : Value} {E : List FE} (hv : RowA w v E.length (E.flatMap fcells)) (hb : ∀ x ∈ E, BytA w x.2.2.1 x.2.2.2) :
    Calls P 3 #[v] w fun e w' => e = .returned (.bool true) ∧ Ext none_ w w' := by
  have hA : FilesA w v E := ⟨hv, hb⟩
  refine enter (l := [_]) (n := 47) Tryz.func3 rfl rfl rfl ?_
  refine W.seq ?_
  refine W.reg <| asg rfl rfl <| L.nil ?_
  refine N.th ?_
  refine W.seq ?_
  refine W.seq ?_
  refine W.reg <| call (vs := []) rfl rfl ok_known13 (c_known13 w) ?_
  rintro e w1 ⟨rfl, hx1⟩
  refine ⟨_, rfl, ?_⟩
  refine notB rfl rfl <| L.nil ?_
  refine N.th ?_
  refine W.condF rfl ?_
  refine W.skip ?_
  refine N.th ?_
  refine W.seq ?_
  refine W.seq ?_
  refine W.reg <| mv rfl rfl <| call (vs := [_]) rfl rfl ok_LightFiles (c_LightFiles (hA.ext0 hx1)) ?_
  rintro e w2 ⟨rfl, rfl⟩
  refine ⟨_, rfl, ?_⟩
  refine notB rfl rfl <| L.nil ?_
  refine N.th ?_
  refine W.cond rfl (fun h => ?_) (fun h => ?_)
  · refine W.seq ?_
    refine W.reg <| asg rfl rfl <| L.nil ?_
    refine N.th ?_
    refine W.ret ?_
    refine N.rth ?_
    exact N.ret1 rfl rfl ⟨rfl, hx1⟩   -- RETURN
  have hlight := lightL_spec (by simpa using h)
  have hents := light_ents hlight
  have hpk := Ar.pk_len (fm E)
  have hE20 := hlight.1
  refine W.skip ?_
  refine N.th ?_
  refine W.seq ?_
  refine W.reg <| mv rfl rfl <| call (vs := [_]) rfl rfl ok_Pack (c_Pack (hA.ext0 hx1) (by omega) (by omega) (fun x hx => by have := hlight.2 x hx; omega)) ?_
  rintro e w3 ⟨v3, rfl, hp3, hx3⟩
  refine ⟨_, rfl, ?_⟩
  refine asg rfl rfl <| L.nil ?_
  refine N.th ?_
  refine W.seq ?_
  refine W.seqM (fun E' w' => E' = [(28, .bool false), (3, v3)] ∧ Ext none_ w3 w') ?_ ?_
  · have hxd : Ext none_ w3 w3.drew := Ext.drew _ _
    have hA3 := (hA.ext0 hx1).ext0 hx3
    have hb3 : BytA w3 v3 (Ar.pk (fm E)) := (Row.own hp3).arg
    refine W.draw3 [9] (fun w' => Ext none_ w3 w') [0, 1, 2, 3] [4, 5, 6, 7, 9] [8] [10, 11, 12, 13] [10] [8, 11, 12, 13] rfl rfl (by kernel_rfl) (by kernel_rfl) hxd ?_
    refine mv rfl rfl <| cvtBA (a := Ar.pk (fm E)) rfl u_bytes u_u8 u_str rfl (fun w' h => hb3.ext0 h) <| mv rfl rfl <| callH (vs := [_]) rfl rfl ok_RPack (c_RPack (hA3.ext0 hxd) (by omega) (by omega) (fun x hx => by have := hlight.2 x hx; omega)) ?_
    rintro e w4 ⟨v4, rfl, hp4, hx4⟩
    have hx34 := hxd.trans hx4
    refine ⟨_, rfl, .inr fun h => h.trans hx4, ?_⟩
    have hb4 : BytA w4 v4 (Ar.pk (fm E)) := (Row.own hp4).arg
    refine L.segH (fun w' => Ext none_ w4 w') (fun w' h => hx34.trans h) (Ext.refl _ _) ?_
    refine cvtBA (a := Ar.pk (fm E)) rfl u_bytes u_u8 u_str rfl (fun w' h => hb4.ext0 h) <| neqS rfl rfl rfl <| Vc.bf (by simp) ?_
    refine mv rfl rfl <| L.on rfl rfl rfl <| mv rfl rfl <| L.on rfl rfl rfl <| mv rfl rfl ?_
    have hbAt : ∀ {w' : World}, Ext none_ w4 w' → BytA w' v3 (Ar.pk (fm E)) := fun h => (hb3.ext0 hx34).ext0 h
    obtain ⟨va, vc, rfl, -⟩ := id hb3
    have hone : ∀ {w' : World} {g : Nat}, w'.heap[g]? = some (.cells #[Value.slice va (Ar.pk (fm E)).length vc] 25 (0, 0)) → RowA w' (.slice (some ⟨g, 0, none⟩) 1 1) [(Value.slice va (Ar.pk (fm E)).length vc, Ar.pk (fm E))].length ([(Value.slice va (Ar.pk (fm E)).length vc, Ar.pk (fm E))].map (·.1)) := fun {w' g} hg =>
      ⟨_, 1, rfl, Nat.le_refl _, by simp [maxLen], (fun h => by cases h), fun j u hj => ⟨_, rfl, lt_of_obj hg, by rw [add_at]; exact cell_of hg (by simpa using hj)⟩⟩
    have htot : total [(Value.slice va (Ar.pk (fm E)).length vc, Ar.pk (fm E))] = Ar.pk (fm E) := by simp [total]
    refine L.forkH ?_ ?_
    · refine L.on rfl rfl rfl <| callH (vs := [_]) rfl rfl ok_Digest (c_Digest (hbAt (Ext.refl _ _)) (by omega)) ?_
      rintro e w5 ⟨rfl, hx5⟩
      refine ⟨_, rfl, .inr fun h => h.trans hx5, ?_⟩
      refine L.nextH (fun w' => Ext none_ w4 w') (fun _ h => h) hx5 ?_
      refine L.on rfl rfl rfl <| bls (vs := #[(0, .slice va (Ar.pk (fm E)).length vc)]) (cs := #[.slice va (Ar.pk (fm E)).length vc]) (e := 25) rfl rfl (fun _ => by kernel_rfl) (hS := .inr fun h => h.trans (Ext.alloc _ _ _)) ?_
      have hg6 := heap_new w5 (.cells #[Value.slice va (Ar.pk (fm E)).length vc] 25)
      have hx6 : Ext none_ w5 (w5.alloc (.cells #[Value.slice va (Ar.pk (fm E)).length vc] 25)) := Ext.alloc _ _ _
      generalize w5.alloc _ = w6 at hg6 hx6 ⊢
      refine L.on rfl rfl rfl <| callH (vs := [_]) rfl rfl ok_r1Of (c_r1Of (vs := [(_, Ar.pk (fm E))]) (hone hg6) (by simpa using hbAt (hx5.trans hx6)) (by rw [htot]; omega) (by simp)) ?_
      rintro e w7 ⟨rfl, hx7⟩
      refine ⟨_, rfl, .inr fun h => h.trans hx7, ?_⟩
      rw [htot]
      refine L.on rfl rfl rfl <| neqA rfl rfl u_Key u_u8 el_bytes.szB eg_Key (sum_len _) (sum_len _) rfl <| Vc.bf (by simp) <| pickF rfl rfl rfl <| L.nilH ?_
      exact N.th (N.meet [(28, _), (3, _)] ⟨rfl, rfl, trivial⟩ ⟨rfl, (hx34.trans hx5).trans (hx6.trans hx7)⟩)
    · refine L.on rfl rfl rfl <| bls (vs := #[(0, .slice va (Ar.pk (fm E)).length vc)]) (cs := #[.slice va (Ar.pk (fm E)).length vc]) (e := 25) rfl rfl (fun _ => by kernel_rfl) (hS := .inr fun h => h.trans (Ext.alloc _ _ _)) ?_
      have hg5 := heap_new w4 (.cells #[Value.slice va (Ar.pk (fm E)).length vc] 25)
      have hx5 : Ext none_ w4 (w4.alloc (.cells #[Value.slice va (Ar.pk (fm E)).length vc] 25)) := Ext.alloc _ _ _
      generalize w4.alloc _ = w5 at hg5 hx5 ⊢
      refine L.nextH (fun w' => Ext none_ w4 w') (fun _ h => h) hx5 ?_
      refine L.on rfl rfl rfl <| callH (vs := [_]) rfl rfl ok_Digest (c_Digest (hbAt hx5) (by omega)) ?_
      rintro e w6 ⟨rfl, hx6⟩
      refine ⟨_, rfl, .inr fun h => h.trans hx6, ?_⟩
      refine L.on rfl rfl rfl <| callH (vs := [_]) rfl rfl ok_r1Of (c_r1Of (vs := [(_, Ar.pk (fm E))]) (hone (hx6.obj hg5 id)) (by simpa using hbAt (hx5.trans hx6)) (by rw [htot]; omega) (by simp)) ?_
      rintro e w7 ⟨rfl, hx7⟩
      refine ⟨_, rfl, .inr fun h => h.trans hx7, ?_⟩
      rw [htot]
      refine L.on rfl rfl rfl <| neqA rfl rfl u_Key u_u8 el_bytes.szB eg_Key (sum_len _) (sum_len _) rfl <| Vc.bf (by simp) <| pickF rfl rfl rfl <| L.nilH ?_
      exact N.th (N.meet [(28, _), (3, _)] ⟨rfl, rfl, trivial⟩ ⟨rfl, (hx34.trans hx5).trans (hx6.trans hx7)⟩)
  rintro E' w4 ⟨rfl, hx4⟩
  refine W.condF rfl ?_
  refine W.skip ?_
  refine N.th ?_
  refine W.seq ?_
  have hb4 : BytA w4 v3 (Ar.pk (fm E)) := (Row.own hp3).arg.ext0 hx4
  refine W.reg <| mv rfl rfl <| call (vs := [_]) rfl rfl ok_AOpen (b_AOpen hb4 (by omega)) ?_
  rintro e w5 ⟨v5, E5, rfl, hF5, hE5, hl5, hx5⟩
  refine ⟨_, rfl, ?_⟩
  refine mv rfl rfl <| ext rfl rfl rfl <| ext (v := .int .i64 (Ar.opc (Ar.opn (Ar.pk (fm E))))) rfl rfl rfl <| asg rfl rfl <| asg rfl rfl <| L.nil ?_
  refine N.th ?_
  refine W.seq ?_
  refine W.reg <| mv rfl rfl <| call (vs := [_]) rfl rfl ok_ROpen (b_ROpen (hb4.ext0 hx5) (by omega)) ?_
  rintro e w6 ⟨v6, E6, rfl, hF6, hE6, hl6, hx6⟩
  refine ⟨_, rfl, ?_⟩
  refine mv rfl rfl <| ext rfl rfl rfl <| ext (v := .int .i64 (Ar.opc (Ar.opn (Ar.pk (fm E))))) rfl rfl rfl <| asg rfl rfl <| asg rfl rfl <| L.nil ?_
  refine N.th ?_
  refine W.seq ?_
  refine W.reg <| mv rfl rfl <| mv rfl rfl <| eqlI rfl rfl rfl <| Vc.bt (by simp) ?_
  (repeat (first | refine mv rfl rfl ?_ | refine asg rfl rfl ?_ | refine L.off rfl rfl rfl rfl rfl ?_ | refine L.offU rfl rfl rfl rfl ?_ | refine L.on rfl rfl rfl ?_ | refine pickT rfl rfl rfl ?_ | refine pickF rfl rfl rfl ?_ | refine ext rfl rfl rfl ?_ | refine nilc rfl rfl ?_ | refine lenV (t := 46) rfl u_strs rfl ?_ | refine lenV (t := 25) rfl u_bytes rfl ?_ | refine lenV (t := 22) rfl u_files rfl ?_ | refine lenS (t := 9) rfl u_str rfl ?_ | refine eqlI rfl rfl rfl ?_ | refine neqI rfl rfl rfl ?_ | refine lssI rfl rfl rfl ?_ | refine leqI rfl rfl rfl ?_ | refine gtrI rfl rfl rfl ?_ | refine geqI rfl rfl rfl ?_))
  refine call (vs := [_, _]) rfl rfl ok_HFiles (c_HFiles (hF5.ext0 hx6) hF6 (by omega) (by omega)) ?_
  rintro e w7 ⟨rfl, hx7⟩
  refine ⟨_, rfl, ?_⟩
  rw [same_files hE5 hE6]
  (repeat (first | refine mv rfl rfl ?_ | refine asg rfl rfl ?_ | refine L.off rfl rfl rfl rfl rfl ?_ | refine L.offU rfl rfl rfl rfl ?_ | refine L.on rfl rfl rfl ?_ | refine pickT rfl rfl rfl ?_ | refine pickF rfl rfl rfl ?_ | refine ext rfl rfl rfl ?_ | refine nilc rfl rfl ?_ | refine lenV (t := 46) rfl u_strs rfl ?_ | refine lenV (t := 25) rfl u_bytes rfl ?_ | refine lenV (t := 22) rfl u_files rfl ?_ | refine lenS (t := 9) rfl u_str rfl ?_ | refine eqlI rfl rfl rfl ?_ | refine neqI rfl rfl rfl ?_ | refine lssI rfl rfl rfl ?_ | refine leqI rfl rfl rfl ?_ | refine gtrI rfl rfl rfl ?_ | refine geqI rfl rfl rfl ?_))
  refine L.nil ?_
  refine N.th ?_
  refine W.ret ?_
  exact N.ret1 rfl rfl ⟨rfl, (((((hx1.trans hx3).trans hx4).trans hx5).trans hx6).trans hx7)⟩   -- RETURN
end Go.Proofs.YtmdpmpdlkaogdaaGreatDoor

namespace Go.Proofs.YtmdpmpdlkaogdaaGreatDoor
open Go Go.RowKit Vc
theorem Buf.arg {B : Nat} {w : World} {v : Value} {xs : List UInt8} (h : Buf B w v xs) (hl : xs.length ≤ 1000) : BytA w v xs := by
  rcases h with h | ⟨g, fz, rfl, -, hc⟩
  · exact (Row.own h).arg
  · exact lit_arg hc hl
section ops
variable {mm : Nat} {P : Program} {ds : List Deferred} {n : Nat} {Q : Exit → Act → World → Prop} {E : Env} {w : World} {ops : Array Oper} {l : List Oper}
variable {d : Nat} {ty : TypeId} {pos : String} {af : Array Edge}
/-- 'append(s, x...)' onto bytes of the call's own, or those of a text. -/
theorem appBuf {t : TypeId} {B : Nat} {s x : Operand} {v bv : Value} {xs b : List UInt8} (hs : opd E s = some v) (hx : opd E x = some bv) (hown : Buf B w v xs) (hb : BytA w bv b) (ht : ElT P t tB (.int .u8 0) 1 1) (hd : Nat.blt d n = true) (hl : xs.length + b.length ≤ 1000000000) (hB : B ≤ w.heap.size)
    (k : ∀ v' w', Buf B w' v' (xs ++ b) → (b ≠ [] → Byts B w' v' (xs ++ b)) → Ext (fun k => v.ownBlock = some k) w w' → L Fence.wide mm P ds n ops l Q ((d, v') :: E) w') : L Fence.wide mm P ds n ops (⟨some d, .call ⟨.builtin .append, #[s, x], #[t, t]⟩, ty, pos, af, none⟩ :: l) Q E w := by
  rcases hown with hown | ⟨g, fz, rfl, hg, hc⟩
  · exact appB hs hx hown hb ht hd hl hB fun v' w' h hx => k v' w' (.inl h) (fun _ => h) hx
  · have hgl := lt_of_obj hc
    rcases hb.form with ⟨rfl, h0⟩ | ⟨ad, c, rfl, h1, h2, hcb⟩
    · obtain rfl : b = [] := List.eq_nil_of_length_eq_zero h0
      exact appN (st := .plain Fence.wide mm) hs hx hd ht (Nat.le_refl _) (k _ _ (.inr ⟨g, fz, by simp, hg, by simpa using hc⟩) (fun h => absurd rfl h) (Ext.refl _ _))
    · by_cases hb0 : b = []
      · subst hb0
        obtain ⟨i, hi, hz, hsz, hby⟩ := ht.info
        have hl0 : (loadCells ad 0).run P w = .ok #[] w := run_loadCells_list (P := P) w ad [] (fun j v hj => by cases hj)
        exact bltin (vs := [.slice (some ⟨g, 0, none⟩) xs.length xs.length, .slice (some ad) 0 c]) (v := .slice (some ⟨g, 0, none⟩) xs.length xs.length) (w' := w) (by simp [hs, hx]) hd (fun _ => by
          simp [builtin, Builtin.append_, run_underlying ht.u, sizeOf, typeInfo, program, Sem.run, hi, Builtin.lenOf, Builtin.firstCells, hl0, storeCells]) (k _ _ (.inr ⟨g, fz, by simp, hg, by simpa using hc⟩) (fun h => absurd rfl h) (Ext.refl _ _))
      · have hbl : 0 < b.length := List.length_pos_iff.2 hb0
        refine appG (st := .plain Fence.wide mm) hs hx hd ht (olds := encB xs) (by simp [encB]) (fun j u hj => by rw [add_at, Nat.zero_add]; exact cell_of hc (by simpa using hj)) (news := encB b) (by simp [encB]) (fun j u hj => (hcb j u hj).2) (by omega) (by simp only [Nat.mul_one]; omega) (by simp only [maxLen]; omega) fun v' w' ho hx2 => ⟨trivial, ?_⟩
        have hB' : Byts B w' v' (xs ++ b) := own_more (by simpa [encB, Byts] using ho) hB
        exact k v' w' (.inl hB') (fun _ => hB') hx2.none
end ops
theorem Byts.buf {B : Nat} {w : World} {v : Value} {xs : List UInt8} (h : Byts B w v xs) : Buf B w v xs := .inl h
theorem ext_buf {S : Nat → Prop} {w w1 w2 : World} {v : Value} {xs : List UInt8} (h : Ext S w w1) (hb : Buf w.heap.size w1 v xs) (hx : Ext (fun k => v.ownBlock = some k) w1 w2) : Ext S w w2 := by
  rcases hb with hb | ⟨g, fz, rfl, hg, -⟩
  · exact h.own hb hx
  · exact h.trans' hx fun i hi e => by
      simp [Value.ownBlock] at e
      omega
theorem u_u16 : P.underlying 41 = some (.int .u16) := Tryz.underlying41

set_option maxHeartbeats 1000000 in
theorem c_ArchiveLengths (w : World) (n : Nat) (hn : n < 18446744073709551616) (path : Nat) (hpath : path < 65536) {bv : Value} {b : List UInt8} (hb : BytA w bv b) (dir : Bool) :
    Calls P 5 #[.int .u64 n, .int .u16 path, bv, .bool dir] w fun e w' => e = .returned (.bool true) ∧ Ext none_ w w' := by
  obtain ⟨ba, bc, rfl, -, -, -, -⟩ := id hb
  refine enter (l := [_, _, _, _]) (n := 67) Tryz.func5 rfl rfl rfl ?_
  refine W.seq ?_
  refine W.reg <| asg rfl rfl <| L.nil ?_
  refine N.th ?_
  refine W.seq ?_
  refine W.seq ?_
  refine W.reg <| call (vs := []) rfl rfl ok_known13 (c_known13 w) ?_
  rintro e w1 ⟨rfl, hx1⟩
  refine ⟨_, rfl, ?_⟩
  refine notB rfl rfl <| L.nil ?_
  refine N.th ?_
  refine W.condF rfl ?_
  refine W.skip ?_
  refine N.th ?_
  refine W.seq ?_
  refine W.seq ?_
  refine W.reg <| mv rfl rfl <| lenV rfl u_bytes rfl <| gtrI rfl rfl rfl <| L.nil ?_
  refine N.th ?_
  refine W.cond rfl (fun h => ?_) (fun h => ?_)
  · refine W.seq ?_
    refine W.reg <| asg rfl rfl <| L.nil ?_
    refine N.th ?_
    refine W.ret ?_
    refine N.rth ?_
    exact N.ret1 rfl rfl ⟨rfl, hx1⟩   -- RETURN
  have hbl : b.length ≤ 500 := by have := of_decide_eq_false h; omega
  refine W.skip ?_
  refine N.th ?_
  refine W.seq ?_
  refine W.reg <| asg rfl rfl <| L.nil ?_
  refine N.th ?_
  refine W.seqM (fun E' w' => ∃ kk : UInt8, E' = [(9, .int .u8 kk.toNat), (0, .int .u64 n), (1, .int .u16 path), (2, .slice ba b.length bc)] ∧ w' = w1) ?_ ?_
  · refine W.seq ?_
    refine W.reg <| mv rfl rfl <| L.nil ?_
    refine N.th ?_
    refine W.cond rfl (fun h => ?_) (fun h => ?_)
    · refine W.reg <| asg rfl rfl <| L.nil ?_
      exact N.th (N.meet [(9, .int .u8 1), (0, _), (1, _), (2, _)] ⟨rfl, rfl, rfl, rfl, trivial⟩ ⟨1, rfl, rfl⟩)
    · refine W.skip ?_
      exact N.th (N.meet [(9, .int .u8 0), (0, _), (1, _), (2, _)] ⟨rfl, rfl, rfl, rfl, trivial⟩ ⟨0, rfl, rfl⟩)
  rintro E' w2 ⟨kk, rfl, rfl⟩
  refine W.seq ?_
  obtain ⟨y1, hy1⟩ : ∃ y : UInt8, y = UInt8.ofNat (path / 256) := ⟨_, rfl⟩
  obtain ⟨y2, hy2⟩ : ∃ y : UInt8, y = UInt8.ofNat path := ⟨_, rfl⟩
  refine W.reg <| bls (vs := #[(0, .int .u8 80), (1, .int .u8 65), (2, .int .u8 75), (3, .int .u8 49)]) (cs := #[.int .u8 80, .int .u8 65, .int .u8 75, .int .u8 49]) (e := tB) rfl rfl (fun _ => by kernel_rfl) <| cvtBB rfl u_bytes u_u8 rfl (heap_new _ _) trivial fun w3 hg3 hx3 => ⟨trivial, ?_⟩
  have hs1 := hx1.size
  have hx03 : Ext none_ w w3 := hx1.trans ((Ext.alloc none_ _ _).trans' hx3 fun i hi e => by omega)
  have hbuf3 : Buf w.heap.size w3 (.slice (some ⟨w2.heap.size, 0, none⟩) 4 4) [80, 65, 75, 49] := .inr ⟨_, _, rfl, hs1, hg3⟩
  refine mv rfl rfl <| mv rfl rfl <| shrI (c := ((path / 256 : Nat) : Int)) rfl rfl rfl (by decide) (by
      show (path : Int).fdiv (2 ^ 8) = _
      rw [Int.fdiv_eq_ediv_of_nonneg _ (by decide)]
      omega) <| cvtI (c := (y1.toNat : Int)) rfl u_u8 u_u16 rfl (by rw [hy1]; simp [IntKind.wrap, IntKind.bits, IntKind.signed]) <| mv rfl rfl <| cvtI (c := (y2.toNat : Int)) rfl u_u8 u_u16 rfl (by rw [hy2]; simp [IntKind.wrap, IntKind.bits, IntKind.signed]) <|
    bls (vs := #[(0, .int .u8 kk.toNat), (1, .int .u8 y1.toNat), (2, .int .u8 y2.toNat), (3, .int .u8 97)]) (cs := #[.int .u8 kk.toNat, .int .u8 y1.toNat, .int .u8 y2.toNat, .int .u8 97]) (e := tB) rfl rfl (fun _ => by kernel_rfl) ?_
  have hx4 : Ext none_ w3 (w3.alloc (.cells #[.int .u8 kk.toNat, .int .u8 y1.toNat, .int .u8 y2.toNat, .int .u8 97] tB)) := Ext.alloc _ _ _
  have hg4 := heap_new w3 (.cells #[.int .u8 kk.toNat, .int .u8 y1.toNat, .int .u8 y2.toNat, .int .u8 97] tB)
  generalize w3.alloc _ = w4 at hx4 hg4 ⊢
  have hb4 : BytA w4 (.slice (some ⟨w3.heap.size, 0, none⟩) 4 4) [kk, y1, y2, 97] := lit_arg (l := [kk, y1, y2, 97]) hg4 (by simp)
  have hbuf4 : Buf w.heap.size w4 (.slice (some ⟨w2.heap.size, 0, none⟩) 4 4) [80, 65, 75, 49] := .inr ⟨_, _, rfl, hs1, hx4.obj hg3 id⟩
  have hx04 := hx03.trans hx4
  refine appBuf rfl rfl hbuf4 hb4 el_bytes rfl (by simp) hx04.size fun v5 w5 _ hb5 hx5 => ?_
  have hb5 := hb5 (by simp)
  have hx05 : Ext none_ w w5 := ext_buf hx04 hbuf4 hx5
  refine asg rfl rfl <| L.nil ?_
  refine N.th ?_
  refine W.seq ?_
  refine W.seq ?_
  refine W.reg <| asg rfl rfl <| L.nil ?_
  refine N.th ?_
  refine W.block ?_
  refine W.loop (X := Nat × Value × List UInt8) (fun x => [(11, .int .i64 ((7 : Int) - x.1)), (10, x.2.1), (0, .int .u64 n), (2, .slice ba b.length bc)])
    (fun x w' => x.1 ≤ 8 ∧ x.2.2.length = 8 + x.1 ∧ Byts w.heap.size w' x.2.1 x.2.2 ∧ Ext none_ w w') (fun x => 8 - x.1) (0, v5, _) ⟨rfl, rfl, rfl, rfl, trivial⟩ ⟨by simp, by rfl, hb5, hx05⟩ ?_
  rintro ⟨i, v6, xs⟩ w6 ⟨hi, hxl, hv6, hx06⟩
  dsimp only at hi hxl hv6 ⊢
  refine W.seq ?_
  refine W.seq ?_
  refine W.reg <| mv rfl rfl <| geqI rfl rfl rfl <| L.nil ?_
  refine N.th ?_
  refine W.cond rfl (fun h => ?_) (fun h => ?_)
  · refine W.skip ?_
    refine N.th ?_
    have hi1 : i < 8 := by have := of_decide_eq_true h; omega
    obtain ⟨y, hy⟩ : ∃ y : UInt8, y = UInt8.ofNat (n / 2 ^ (8 * (7 - i))) := ⟨_, rfl⟩
    refine W.seq ?_
    refine W.block ?_
    refine W.reg <| mv rfl rfl <| mv rfl rfl <| mv rfl rfl <| mulI (c := ((8 * (7 - i) : Nat) : Int)) rfl rfl rfl (by rw [w64 (by omega) (by omega)]; omega) <|
      shrI (c := ((n / 2 ^ (8 * (7 - i)) : Nat) : Int)) rfl rfl rfl (by omega) (by
        have h1 : min (((8 * (7 - i) : Nat) : Int)).toNat IntKind.u64.bits = 8 * (7 - i) := by simp [IntKind.bits]; omega
        rw [h1, Int.fdiv_eq_ediv_of_nonneg _ (Int.pow_nonneg (by decide))]
        simp) <| cvtI (c := (y.toNat : Int)) rfl u_u8 u_u64 rfl (by rw [hy]; simp [IntKind.wrap, IntKind.bits, IntKind.signed]) <|
      pushB rfl rfl rfl rfl (fun _ => by kernel_rfl) el_bytes (.inl hv6) (by omega) hx06.size fun v7 w7 hv7 hx7 _ => ?_
    refine asg rfl rfl <| L.nil ?_
    refine N.inb ?_
    refine N.th ?_
    refine W.reg <| mv rfl rfl <| subI (c := (7 : Int) - ((i + 1 : Nat) : Int)) rfl rfl rfl (by rw [w64 (by omega) (by omega)]; omega) <| asg rfl rfl <| L.nil ?_
    exact N.th (N.round (x := (i + 1, v7, xs ++ [y])) ⟨rfl, rfl, rfl, rfl, trivial⟩ ⟨by dsimp only; omega, by simp; omega, hv7, hx06.own hv6 hx7⟩ (by dsimp only; omega))   -- ROUND
  · refine W.exit ?_
    refine N.xth ?_
    refine N.xth ?_
    refine N.xeq ?_
    refine N.th ?_
    refine W.seq ?_
    refine W.reg <| mv rfl rfl <| mv rfl rfl <| appB rfl rfl hv6 (hb.ext0 hx06) el_bytes rfl (by omega) hx06.size fun v7 w7 hv7 hx7 => ?_
    have hx07 := hx06.own hv6 hx7
    refine pushB (y := 255) rfl rfl rfl rfl (fun _ => by kernel_rfl) el_bytes (.inl hv7) (by simp; omega) hx07.size fun v8 w8 hv8 hx8 _ => ?_
    have hx08 := hx07.own hv7 hx8
    refine asg rfl rfl <| L.nil ?_
    refine N.th ?_
    obtain ⟨Y, hY⟩ : ∃ Y, Y = xs ++ b ++ [255] := ⟨_, rfl⟩
    have hYl : Y.length ≤ 1000 := by rw [hY]; simp; omega
    rw [← hY] at hv8
    have hY8 : BytA w8 v8 Y := (Row.own hv8).arg
    refine W.seq ?_
    refine W.reg <| mv rfl rfl <| call (vs := [_]) rfl rfl ok_AOpen (b_AOpen hY8 (by omega)) ?_
    rintro e w9 ⟨v9, E9, rfl, hF9, hE9, hl9, hx9⟩
    refine ⟨_, rfl, ?_⟩
    refine mv rfl rfl <| ext rfl rfl rfl <| ext (v := .int .i64 (Ar.opc (Ar.opn Y))) rfl rfl rfl <| asg rfl rfl <| asg rfl rfl <| L.nil ?_
    refine N.th ?_
    refine W.seq ?_
    refine W.reg <| mv rfl rfl <| call (vs := [_]) rfl rfl ok_ROpen (b_ROpen (hY8.ext0 hx9) (by omega)) ?_
    rintro e w10 ⟨v10, E10, rfl, hF10, hE10, hl10, hx10⟩
    refine ⟨_, rfl, ?_⟩
    refine mv rfl rfl <| ext rfl rfl rfl <| ext (v := .int .i64 (Ar.opc (Ar.opn Y))) rfl rfl rfl <| asg rfl rfl <| asg rfl rfl <| L.nil ?_
    refine N.th ?_
    refine W.seq ?_
    refine W.reg <| mv rfl rfl <| mv rfl rfl <| eqlI rfl rfl rfl <| Vc.bt (by simp) ?_
    (repeat (first | refine mv rfl rfl ?_ | refine asg rfl rfl ?_ | refine L.off rfl rfl rfl rfl rfl ?_ | refine L.offU rfl rfl rfl rfl ?_ | refine L.on rfl rfl rfl ?_ | refine pickT rfl rfl rfl ?_ | refine pickF rfl rfl rfl ?_ | refine ext rfl rfl rfl ?_ | refine nilc rfl rfl ?_ | refine lenV (t := 46) rfl u_strs rfl ?_ | refine lenV (t := 25) rfl u_bytes rfl ?_ | refine lenV (t := 22) rfl u_files rfl ?_ | refine lenS (t := 9) rfl u_str rfl ?_ | refine eqlI rfl rfl rfl ?_ | refine neqI rfl rfl rfl ?_ | refine lssI rfl rfl rfl ?_ | refine leqI rfl rfl rfl ?_ | refine gtrI rfl rfl rfl ?_ | refine geqI rfl rfl rfl ?_))
    refine call (vs := [_, _]) rfl rfl ok_HFiles (c_HFiles (hF9.ext0 hx10) hF10 (by omega) (by omega)) ?_
    rintro e w11 ⟨rfl, hx11⟩
    refine ⟨_, rfl, ?_⟩
    rw [same_files hE9 hE10]
    (repeat (first | refine mv rfl rfl ?_ | refine asg rfl rfl ?_ | refine L.off rfl rfl rfl rfl rfl ?_ | refine L.offU rfl rfl rfl rfl ?_ | refine L.on rfl rfl rfl ?_ | refine pickT rfl rfl rfl ?_ | refine pickF rfl rfl rfl ?_ | refine ext rfl rfl rfl ?_ | refine nilc rfl rfl ?_ | refine lenV (t := 46) rfl u_strs rfl ?_ | refine lenV (t := 25) rfl u_bytes rfl ?_ | refine lenV (t := 22) rfl u_files rfl ?_ | refine lenS (t := 9) rfl u_str rfl ?_ | refine eqlI rfl rfl rfl ?_ | refine neqI rfl rfl rfl ?_ | refine lssI rfl rfl rfl ?_ | refine leqI rfl rfl rfl ?_ | refine gtrI rfl rfl rfl ?_ | refine geqI rfl rfl rfl ?_))
    refine L.nil ?_
    refine N.th ?_
    refine W.ret ?_
    exact N.ret1 rfl rfl ⟨rfl, ((hx08.trans hx9).trans hx10).trans hx11⟩   -- RETURN
end Go.Proofs.YtmdpmpdlkaogdaaGreatDoor

namespace Go.Proofs.YtmdpmpdlkaogdaaGreatDoor.ArchiveLengthsZ
open Go Go.ChangeShapes Go.WideShapes Go.ChangeAt Go.RowKit Go.Proofs.YtmdpmpdlkaogdaaGreatDoor
open Go.ChangeMaps (open_string shut_string)

theorem own : ownKnob Tryz.prog.godebug = none := by kernel_rfl
theorem laidOut : laidOutB Tryz.prog = true := by kernel_rfl
abbrev lv := Rows.archiveLengthsRow.laid

set_option maxRecDepth 100000 in
theorem lifted (os : Os) (started : os.Started) (H : Type) (enc : TypeId × Value → H) :
    ReturnsInHanded {} Tryz.checked os 5 .any (fun w args => (Rows.archiveLengthsSpec.pre enc Tryz.prog Tryz.f5 Rows.archiveLengthsRow.domain false w args ∧ laidMetH Tryz.prog lv w) ∧ sizedMet enc Tryz.prog Tryz.f5 (OpenSpec.ofChange Rows.archiveLengthsSpec) false w args)
      (Rows.archiveLengthsSpec.post enc Tryz.prog Tryz.f5 false true false false) := by
  refine returnsInHanded_of_change_and (C := Tryz.checked) (X := fun w _ => laidMetH Tryz.prog lv w) (fun _ _ _ hh h => h.of_heap hh) own started (by kernel_rfl) Tryz.func5
    (ChangeSpec.witness_shaped (enc := enc) (C := Tryz.checked) (os := os) (X := fun w _ => laidMetH Tryz.prog lv w) false (World.laidAll Tryz.prog os lv) #[.int .u64 0, .int .u16 0, .slice none 0 0, .bool false] 8 (World.laidAll_os _ _ _)
      (World.shaped_of_ZipB (by kernel_rfl) (by kernel_rfl)) (by kernel_rfl) (by kernel_rfl) (by kernel_rfl)
      (by rw [MakeChecks.laidMetH_plain _ _ _ (by kernel_rfl)]; exact laidMet_laidAll _ (by kernel_rfl) (by kernel_rfl))) ?_
  intro W base args ds gs before hval0 hW _ _ _ _
  have hval : ∀ (j : Nat) t v, Tryz.f5.params[j]? = some t → args[j]? = some v → Value.okWide Tryz.prog W .any base t v := hval0
  have hW' := hW
  obtain ⟨p, q, hA0, hV, rfl, hfz, hnd⟩ := hW
  have hA : DataW.TrodAll enc Tryz.prog W 0 (fun _ => true) true Tryz.f5.params.toList args.toList ds p := hA0
  rw [Tryz.params5] at hA hval
  obtain ⟨v0, vs0, d0, ds0, p0, q0, hargs, rfl, rfl, h0, r0⟩ := trodAll_cons hA
  obtain ⟨v1, vs1, d1, ds1, p1, q1, rfl, rfl, rfl, h1, r1⟩ := trodAll_cons r0
  obtain ⟨v2, vs2, d2, ds2, p2, q2, rfl, rfl, rfl, h2, r2⟩ := trodAll_cons r1
  obtain ⟨v3, vs3, d3, ds3, p3, q3, rfl, rfl, rfl, h3, r3⟩ := trodAll_cons r2
  obtain ⟨rfl, rfl, rfl⟩ := trodAll_nil r3
  obtain rfl : args = #[v0, v1, v2, v3] := by cases args; simp_all
  obtain ⟨rfl, rfl⟩ := trodVars_none hV
  obtain ⟨z0, rfl, rfl, rfl, w0⟩ := open_int Tryz.underlying40 (hval 0 40 v0 rfl rfl) h0
  have hz0 : (0 : Int) ≤ z0 ∧ z0 < 18446744073709551616 := by
    simp [Lit.wf, IntKind.min, IntKind.max, IntKind.bits, IntKind.signed] at w0
    omega
  obtain ⟨a0, rfl⟩ : ∃ t : Nat, z0 = t := ⟨z0.toNat, by omega⟩
  obtain ⟨z1, rfl, rfl, rfl, w1⟩ := open_int Tryz.underlying41 (hval 1 41 v1 rfl rfl) h1
  have hz1 : (0 : Int) ≤ z1 ∧ z1 < 65536 := by
    simp [Lit.wf, IntKind.min, IntKind.max, IntKind.bits, IntKind.signed] at w1
    omega
  obtain ⟨a1, rfl⟩ : ∃ t : Nat, z1 = t := ⟨z1.toNat, by omega⟩
  have k2 := h2
  have lt2 : ∀ x ∈ p2, x.block < W.heap.size := by obtain ⟨m, hm⟩ := k2; exact DataW.trod_lt m _ _ _ hm
  obtain ⟨a2, len2, cap2, rfl⟩ := okWide_slice Tryz.underlying25 (hval 2 25 v2 rfl rfl)
  obtain ⟨fu2, hf2⟩ := h2
  obtain ⟨v2, l2, hc2, hr2⟩ := open_bytesA Tryz.underlying25 Tryz.underlying5 (by kernel_rfl) hf2
  obtain rfl : .slice a2 len2 cap2 = v2 := by simpa [Value.cells] using hc2
  obtain ⟨a3, rfl, rfl, rfl⟩ := open_bool Tryz.underlying4 (hval 3 4 v3 rfl rfl) h3
  clear hA0 hval0
  refine (c_ArchiveLengths W a0 (by omega) a1 (by omega) hr2 a3).mono fun e W' ⟨he, hx⟩ => ?_
  subst he
  have bel : Below W.heap.size W W' := hx.below
  exact ⟨_, rfl, _, _, _, [], _, [], hW', trodAll_mk1 (shut_bool Tryz.underlying4 _), (trodAll_cons_mk (shut_int Tryz.underlying40 w0) (trodAll_cons_mk (shut_int Tryz.underlying41 w1) (trodAll_cons_mk (Below.trod laidOut (by kernel_rfl) (of_decide_eq_true (by kernel_rfl)) k2 bel lt2) (trodAll_cons_mk (shut_bool Tryz.underlying4 _) trodAll_mk0)))), rfl, bel.frame _, fun h => by cases h⟩

theorem over : Rows.ArchiveLengthsSaid :=
  OpenClaim.holds_of_wide 5 Tryz.f5 rfl rfl rfl rfl rfl rfl rfl ⟨rfl, rfl, rfl, rfl, rfl⟩ rfl rfl rfl rfl rfl (by kernel_rfl) Tryz.func5 (by kernel_rfl)
    (of_decide_eq_true (by kernel_rfl)) (by unfold Func.isWrapper; first | (rw [if_pos (by decide +kernel)]; kernel_rfl) | (rw [if_neg (by decide +kernel)]; exact ⟨rfl, rfl⟩))
    (fun os started H enc _ => lifted os started H enc)

theorem card : Rows.ArchiveLengthsCardSaid :=
  Claim7.holds_tied_plain_at .later [] [.data, .pinned] true Rows.archiveLengthsCard.stood.harness true over (fun _ h => by cases h) (by kernel_rfl) (fun _ h => by cases h) archiveLengths_row_tie rfl ⟨rfl, rfl⟩ (by kernel_rfl) rfl
    (fun f fn hf hfn => by
      obtain rfl : f = 5 := Option.some.inj ((show Tryz.prog.funcNamed Rows.archiveLengthsRow.func = some 5 by kernel_rfl).symm.trans hf) |>.symm
      obtain rfl : fn = Tryz.f5 := (Option.some.inj (Tryz.func5.symm.trans hfn)).symm
      exact ⟨by kernel_rfl, fun j t ht => by
        rw [Tryz.params5] at ht
        have hm : t ∈ ([40, 41, 25, 4] : List TypeId) := by simpa using Array.mem_of_getElem? ht
        have hall : (([40, 41, 25, 4] : List TypeId).all fun u => !Tryz.prog.wantsStandIn u) = true := by kernel_rfl
        exact (show Tryz.prog.wantsStandIn t = false by simpa using List.all_eq_true.1 hall t hm)⟩)
    (by kernel_rfl)
end Go.Proofs.YtmdpmpdlkaogdaaGreatDoor.ArchiveLengthsZ
namespace Go.Proofs.YtmdpmpdlkaogdaaGreatDoor
/-- The statement. -/
theorem archiveLengths_card_holds : Rows.ArchiveLengthsCardSaid := ArchiveLengthsZ.card
#print axioms archiveLengths_card_holds
end Go.Proofs.YtmdpmpdlkaogdaaGreatDoor
