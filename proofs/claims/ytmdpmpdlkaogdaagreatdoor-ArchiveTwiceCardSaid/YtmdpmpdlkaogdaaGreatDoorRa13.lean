/- The walk of ArchivePacks. The walk of ArchiveLengths. The walk of ArchiveOpens. Plain laws: what is packed is read again. No Go here. The walk of ArchiveTwice. The walk of ArchiveEscapes. -/
import Derived.Test.YtmdpmpdlkaogdaaGreatDoorRa12

namespace Go.Proofs.YtmdpmpdlkaogdaaGreatDoor
namespace Ar
def opc (r : Option Tr.T × Int) : Int := match r.1 with | none => r.2 | some _ => 0
def opl (r : Option Tr.T × Int) : Tr.T := r.1.getD []
theorem opn_len (b : List UInt8) : (opl (opn b)).length ≤ 500 := by
  by_cases h : b.length ≤ 262144 ∧ sign.isPrefixOf b = true
  · rw [opn_fin h]
    obtain ⟨o, c⟩ := par (b.length + 1) (b.drop 4) []
    cases o with
    | none => simp [fin, opl]
    | some l =>
      unfold fin
      dsimp only
      cases hof : Tr.of l with
      | mk o2 c2 =>
      cases o2 with
      | none => simp [opl]
      | some m =>
        have hok : Tr.Ok m := Tr.ofF_ok l [] [] m Tr.Ok.nil (by have := congrArg Prod.fst hof; exact this)
        have := hok.len
        simp only [opl, Option.getD_some]
        rw [Tr.files_len]; exact this
  · rw [opn_bad h]; simp [opl]
theorem ent_len (x : Tr.Bytes × Tr.Nd) : (ent x).length ≤ 11 + x.1.length + x.2.2.length := by
  unfold ent
  split
  · simp [num_len]; omega
  · simp [num_len]; omega
theorem ents_len (a : Nat) : ∀ (l : Tr.T), (∀ x ∈ l, x.1.length + x.2.2.length ≤ a) → (ents l).length ≤ l.length * (11 + a) := by
  intro l
  induction l with
  | nil => intro _; simp [ents]
  | cons x l ih =>
    intro h
    have h1 := ent_len x
    have h2 := h x (by simp)
    have h3 := ih fun y hy => h y (List.mem_cons_of_mem _ hy)
    have h4 : ents (x :: l) = ent x ++ ents l := by simp [ents]
    rw [h4, List.length_append, List.length_cons, Nat.add_mul]
    omega
theorem pk_len (l : Tr.T) : (pk l).length = (ents l).length + 5 := by simp [pk, sign]
end Ar
open Go Go.RowKit Vc
theorem files_bound {E : List FE} {l : Tr.T} (h : fm E = l) (hl : l.length ≤ 500) : E.length ≤ 500 := by rw [← h] at hl; simpa using hl
/-- What both Opens answer. -/
def BothR (w : World) (b : List UInt8) (e : Ending) (w' : World) : Prop := ∃ v E, e = .returned (.tuple #[v, .int .i64 (Ar.opc (Ar.opn b))]) ∧ FilesAt w' v E ∧ fm E = Ar.opl (Ar.opn b) ∧ E.length ≤ 500 ∧ Ext none_ w w'
theorem FilesAt.nil (w : World) : FilesAt w (.slice none 0 0) [] := ⟨Row.nil w tF 3, by simp⟩
theorem b_AOpen {w : World} {v : Value} {b : List UInt8} (hv : BytA w v b) (hl : b.length ≤ 1000000) : Calls P 22 #[v] w (BothR w b) := by
  have hlen := Ar.opn_len b
  refine (c_AOpen hv hl).mono fun e w' h => ?_
  obtain ⟨hx, h1, h2⟩ := h
  unfold BothR
  generalize Ar.opn b = r at *
  obtain ⟨o, c⟩ := r
  cases o with
  | none => exact ⟨_, [], h1 rfl, FilesAt.nil w', rfl, by simp, hx⟩
  | some l =>
    obtain ⟨v, E, rfl, ho, hb, hE⟩ := h2 l rfl
    exact ⟨v, E, rfl, FilesA.own ho hb, hE, files_bound hE hlen, hx⟩
theorem b_ROpen {w : World} {v : Value} {b : List UInt8} (hv : BytA w v b) (hl : b.length ≤ 1000000) : Calls P 23 #[v] w (BothR w b) := by
  have hlen := Ar.opn_len b
  refine (c_ROpen hv hl).mono fun e w' h => ?_
  obtain ⟨hx, h1, h2⟩ := h
  unfold BothR
  generalize Ar.opn b = r at *
  obtain ⟨o, c⟩ := r
  cases o with
  | none => exact ⟨_, [], h1 rfl, FilesAt.nil w', rfl, by simp, hx⟩
  | some l =>
    obtain ⟨v, E, rfl, hF, hE⟩ := h2 l rfl
    exact ⟨v, E, rfl, hF, hE, files_bound hE hlen, hx⟩
theorem same_files {b : List UInt8} {E1 E2 : List FE} (h1 : fm E1 = Ar.opl (Ar.opn b)) (h2 : fm E2 = Ar.opl (Ar.opn b)) : decide (E1.map fnd = E2.map fnd) = true := by
  rw [decide_eq_true_eq]; exact h1.trans h2.symm
theorem light_ents {E : List FE} (h : E.length ≤ 20 ∧ ∀ x ∈ E, x.1.length ≤ 300 ∧ x.2.2.2.length ≤ 500) : (Ar.ents (fm E)).length ≤ 20000 := by
  have h1 := Ar.ents_len 800 (fm E) (fun x hx => by
    obtain ⟨y, hy, rfl⟩ := List.mem_map.1 hx
    have := h.2 y hy
    show y.1.length + y.2.2.2.length ≤ 800
    omega)
  rw [fm_len] at h1
  have := h.1
  have h2 : E.length * (11 + 800) ≤ 20 * (11 + 800) := Nat.mul_le_mul_right _ this
  omega

set_option maxHeartbeats 1000000 in
theorem c_ArchivePacks (w : World) {v : Value} {E : List FE} (hv : RowA w v E.length (E.flatMap fcells)) (hb : ∀ x ∈ E, BytA w x.2.2.1 x.2.2.2) :
    Calls P 3 #[v] w fun e w' => e = .returned (.bool true) ∧ Ext none_ w w' := by
  have hA : FilesA w v E := ⟨hv, hb⟩
  refine enter (l := [_]) (n := 47) Tryz.func3 rfl rfl rfl ?_
  refine W.seq ?_
  refine W.reg <| asg rfl rfl <| L.nil ?_
  refine N.th ?_
  refine W.seq ?_
  refine W.seq ?_
  refine W.reg <| call (vs := []) rfl rfl ok_known13 (c_known13 w) ?_
  rintro e w1 ⟨rfl, hx1⟩
  refine ⟨_, rfl, ?_⟩
  refine notB rfl rfl <| L.nil ?_
  refine N.th ?_
  refine W.condF rfl ?_
  refine W.skip ?_
  refine N.th ?_
  refine W.seq ?_
  refine W.seq ?_
  refine W.reg <| mv rfl rfl <| call (vs := [_]) rfl rfl ok_LightFiles (c_LightFiles (hA.ext0 hx1)) ?_
  rintro e w2 ⟨rfl, rfl⟩
  refine ⟨_, rfl, ?_⟩
  refine notB rfl rfl <| L.nil ?_
  refine N.th ?_
  refine W.cond rfl (fun h => ?_) (fun h => ?_)
  · refine W.seq ?_
    refine W.reg <| asg rfl rfl <| L.nil ?_
    refine N.th ?_
    refine W.ret ?_
    refine N.rth ?_
    exact N.ret1 rfl rfl ⟨rfl, hx1⟩   -- RETURN
  have hlight := lightL_spec (by simpa using h)
  have hents := light_ents hlight
  have hpk := Ar.pk_len (fm E)
  have hE20 := hlight.1
  refine W.skip ?_
  refine N.th ?_
  refine W.seq ?_
  refine W.reg <| mv rfl rfl <| call (vs := [_]) rfl rfl ok_Pack (c_Pack (hA.ext0 hx1) (by omega) (by omega) (fun x hx => by have := hlight.2 x hx; omega)) ?_
  rintro e w3 ⟨v3, rfl, hp3, hx3⟩
  refine ⟨_, rfl, ?_⟩
  refine asg rfl rfl <| L.nil ?_
  refine N.th ?_
  refine W.seq ?_
  refine W.seqM (fun E' w' => E' = [(28, .bool false), (3, v3)] ∧ Ext none_ w3 w') ?_ ?_
  · have hxd : Ext none_ w3 w3.drew := Ext.drew _ _
    have hA3 := (hA.ext0 hx1).ext0 hx3
    have hb3 : BytA w3 v3 (Ar.pk (fm E)) := (Row.own hp3).arg
    refine W.draw3 [9] (fun w' => Ext none_ w3 w') [0, 1, 2, 3] [4, 5, 6, 7, 9] [8] [10, 11, 12, 13] [10] [8, 11, 12, 13] rfl rfl (by kernel_rfl) (by kernel_rfl) hxd ?_
    refine mv rfl rfl <| cvtBA (a := Ar.pk (fm E)) rfl u_bytes u_u8 u_str rfl (fun w' h => hb3.ext0 h) <| mv rfl rfl <| callH (vs := [_]) rfl rfl ok_RPack (c_RPack (hA3.ext0 hxd) (by omega) (by omega) (fun x hx => by have := hlight.2 x hx; omega)) ?_
    rintro e w4 ⟨v4, rfl, hp4, hx4⟩
    have hx34 := hxd.trans hx4
    refine ⟨_, rfl, .inr fun h => h.trans hx4, ?_⟩
    have hb4 : BytA w4 v4 (Ar.pk (fm E)) := (Row.own hp4).arg
    refine L.segH (fun w' => Ext none_ w4 w') (fun w' h => hx34.trans h) (Ext.refl _ _) ?_
    refine cvtBA (a := Ar.pk (fm E)) rfl u_bytes u_u8 u_str rfl (fun w' h => hb4.ext0 h) <| neqS rfl rfl rfl <| Vc.bf (by simp) ?_
    refine mv rfl rfl <| L.on rfl rfl rfl <| mv rfl rfl <| L.on rfl rfl rfl <| mv rfl rfl ?_
    have hbAt : ∀ {w' : World}, Ext none_ w4 w' → BytA w' v3 (Ar.pk (fm E)) := fun h => (hb3.ext0 hx34).ext0 h
    obtain ⟨va, vc, rfl, -⟩ := id hb3
    have hone : ∀ {w' : World} {g : Nat}, w'.heap[g]? = some (.cells #[Value.slice va (Ar.pk (fm E)).length vc] 25 (0, 0)) → RowA w' (.slice (some ⟨g, 0, none⟩) 1 1) [(Value.slice va (Ar.pk (fm E)).length vc, Ar.pk (fm E))].length ([(Value.slice va (Ar.pk (fm E)).length vc, Ar.pk (fm E))].map (·.1)) := fun {w' g} hg =>
      ⟨_, 1, rfl, Nat.le_refl _, by simp [maxLen], (fun h => by cases h), fun j u hj => ⟨_, rfl, lt_of_obj hg, by rw [add_at]; exact cell_of hg (by simpa using hj)⟩⟩
    have htot : total [(Value.slice va (Ar.pk (fm E)).length vc, Ar.pk (fm E))] = Ar.pk (fm E) := by simp [total]
    refine L.forkH ?_ ?_
    · refine L.on rfl rfl rfl <| callH (vs := [_]) rfl rfl ok_Digest (c_Digest (hbAt (Ext.refl _ _)) (by omega)) ?_
      rintro e w5 ⟨rfl, hx5⟩
      refine ⟨_, rfl, .inr fun h => h.trans hx5, ?_⟩
      refine L.nextH (fun w' => Ext none_ w4 w') (fun _ h => h) hx5 ?_
      refine L.on rfl rfl rfl <| bls (vs := #[(0, .slice va (Ar.pk (fm E)).length vc)]) (cs := #[.slice va (Ar.pk (fm E)).length vc]) (e := 25) rfl rfl (fun _ => by kernel_rfl) (hS := .inr fun h => h.trans (Ext.alloc _ _ _)) ?_
      have hg6 := heap_new w5 (.cells #[Value.slice va (Ar.pk (fm E)).length vc] 25)
      have hx6 : Ext none_ w5 (w5.alloc (.cells #[Value.slice va (Ar.pk (fm E)).length vc] 25)) := Ext.alloc _ _ _
      generalize w5.alloc _ = w6 at hg6 hx6 ⊢
      refine L.on rfl rfl rfl <| callH (vs := [_]) rfl rfl ok_r1Of (c_r1Of (vs := [(_, Ar.pk (fm E))]) (hone hg6) (by simpa using hbAt (hx5.trans hx6)) (by rw [htot]; omega) (by simp)) ?_
      rintro e w7 ⟨rfl, hx7⟩
      refine ⟨_, rfl, .inr fun h => h.trans hx7, ?_⟩
      rw [htot]
      refine L.on rfl rfl rfl <| neqA rfl rfl u_Key u_u8 el_bytes.szB eg_Key (sum_len _) (sum_len _) rfl <| Vc.bf (by simp) <| pickF rfl rfl rfl <| L.nilH ?_
      exact N.th (N.meet [(28, _), (3, _)] ⟨rfl, rfl, trivial⟩ ⟨rfl, (hx34.trans hx5).trans (hx6.trans hx7)⟩)
    · refine L.on rfl rfl rfl <| bls (vs := #[(0, .slice va (Ar.pk (fm E)).length vc)]) (cs := #[.slice va (Ar.pk (fm E)).length vc]) (e := 25) rfl rfl (fun _ => by kernel_rfl) (hS := .inr fun h => h.trans (Ext.alloc _ _ _)) ?_
      have hg5 := heap_new w4 (.cells #[Value.slice va (Ar.pk (fm E)).length vc] 25)
      have hx5 : Ext none_ w4 (w4.alloc (.cells #[Value.slice va (Ar.pk (fm E)).length vc] 25)) := Ext.alloc _ _ _
      generalize w4.alloc _ = w5 at hg5 hx5 ⊢
      refine L.nextH (fun w' => Ext none_ w4 w') (fun _ h => h) hx5 ?_
      refine L.on rfl rfl rfl <| callH (vs := [_]) rfl rfl ok_Digest (c_Digest (hbAt hx5) (by omega)) ?_
      rintro e w6 ⟨rfl, hx6⟩
      refine ⟨_, rfl, .inr fun h => h.trans hx6, ?_⟩
      refine L.on rfl rfl rfl <| callH (vs := [_]) rfl rfl ok_r1Of (c_r1Of (vs := [(_, Ar.pk (fm E))]) (hone (hx6.obj hg5 id)) (by simpa using hbAt (hx5.trans hx6)) (by rw [htot]; omega) (by simp)) ?_
      rintro e w7 ⟨rfl, hx7⟩
      refine ⟨_, rfl, .inr fun h => h.trans hx7, ?_⟩
      rw [htot]
      refine L.on rfl rfl rfl <| neqA rfl rfl u_Key u_u8 el_bytes.szB eg_Key (sum_len _) (sum_len _) rfl <| Vc.bf (by simp) <| pickF rfl rfl rfl <| L.nilH ?_
      exact N.th (N.meet [(28, _), (3, _)] ⟨rfl, rfl, trivial⟩ ⟨rfl, (hx34.trans hx5).trans (hx6.trans hx7)⟩)
  rintro E' w4 ⟨rfl, hx4⟩
  refine W.condF rfl ?_
  refine W.skip ?_
  refine N.th ?_
  refine W.seq ?_
  have hb4 : BytA w4 v3 (Ar.pk (fm E)) := (Row.own hp3).arg.ext0 hx4
  refine W.reg <| mv rfl rfl <| call (vs := [_]) rfl rfl ok_AOpen (b_AOpen hb4 (by omega)) ?_
  rintro e w5 ⟨v5, E5, rfl, hF5, hE5, hl5, hx5⟩
  refine ⟨_, rfl, ?_⟩
  refine mv rfl rfl <| ext rfl rfl rfl <| ext (v := .int .i64 (Ar.opc (Ar.opn (Ar.pk (fm E))))) rfl rfl rfl <| asg rfl rfl <| asg rfl rfl <| L.nil ?_
  refine N.th ?_
  refine W.seq ?_
  refine W.reg <| mv rfl rfl <| call (vs := [_]) rfl rfl ok_ROpen (b_ROpen (hb4.ext0 hx5) (by omega)) ?_
  rintro e w6 ⟨v6, E6, rfl, hF6, hE6, hl6, hx6⟩
  refine ⟨_, rfl, ?_⟩
  refine mv rfl rfl <| ext rfl rfl rfl <| ext (v := .int .i64 (Ar.opc (Ar.opn (Ar.pk (fm E))))) rfl rfl rfl <| asg rfl rfl <| asg rfl rfl <| L.nil ?_
  refine N.th ?_
  refine W.seq ?_
  refine W.reg <| mv rfl rfl <| mv rfl rfl <| eqlI rfl rfl rfl <| Vc.bt (by simp) ?_
  (repeat (first | refine mv rfl rfl ?_ | refine asg rfl rfl ?_ | refine L.off rfl rfl rfl rfl rfl ?_ | refine L.offU rfl rfl rfl rfl ?_ | refine L.on rfl rfl rfl ?_ | refine pickT rfl rfl rfl ?_ | refine pickF rfl rfl rfl ?_ | refine ext rfl rfl rfl ?_ | refine nilc rfl rfl ?_ | refine lenV (t := 46) rfl u_strs rfl ?_ | refine lenV (t := 25) rfl u_bytes rfl ?_ | refine lenV (t := 22) rfl u_files rfl ?_ | refine lenS (t := 9) rfl u_str rfl ?_ | refine eqlI rfl rfl rfl ?_ | refine neqI rfl rfl rfl ?_ | refine lssI rfl rfl rfl ?_ | refine leqI rfl rfl rfl ?_ | refine gtrI rfl rfl rfl ?_ | refine geqI rfl rfl rfl ?_))
  refine call (vs := [_, _]) rfl rfl ok_HFiles (c_HFiles (hF5.ext0 hx6) hF6 (by omega) (by omega)) ?_
  rintro e w7 ⟨rfl, hx7⟩
  refine ⟨_, rfl, ?_⟩
  rw [same_files hE5 hE6]
  (repeat (first | refine mv rfl rfl ?_ | refine asg rfl rfl ?_ | refine L.off rfl rfl rfl rfl rfl ?_ | refine L.offU rfl rfl rfl rfl ?_ | refine L.on rfl rfl rfl ?_ | refine pickT rfl rfl rfl ?_ | refine pickF rfl rfl rfl ?_ | refine ext rfl rfl rfl ?_ | refine nilc rfl rfl ?_ | refine lenV (t := 46) rfl u_strs rfl ?_ | refine lenV (t := 25) rfl u_bytes rfl ?_ | refine lenV (t := 22) rfl u_files rfl ?_ | refine lenS (t := 9) rfl u_str rfl ?_ | refine eqlI rfl rfl rfl ?_ | refine neqI rfl rfl rfl ?_ | refine lssI rfl rfl rfl ?_ | refine leqI rfl rfl rfl ?_ | refine gtrI rfl rfl rfl ?_ | refine geqI rfl rfl rfl ?_))
  refine L.nil ?_
  refine N.th ?_
  refine W.ret ?_
  exact N.ret1 rfl rfl ⟨rfl, (((((hx1.trans hx3).trans hx4).trans hx5).trans hx6).trans hx7)⟩   -- RETURN
end Go.Proofs.YtmdpmpdlkaogdaaGreatDoor

namespace Go.Proofs.YtmdpmpdlkaogdaaGreatDoor
open Go Go.RowKit Vc
theorem Buf.arg {B : Nat} {w : World} {v : Value} {xs : List UInt8} (h : Buf B w v xs) (hl : xs.length ≤ 1000) : BytA w v xs := by
  rcases h with h | ⟨g, fz, rfl, -, hc⟩
  · exact (Row.own h).arg
  · exact lit_arg hc hl
section ops
variable {mm : Nat} {P : Program} {ds : List Deferred} {n : Nat} {Q : Exit → Act → World → Prop} {E : Env} {w : World} {ops : Array Oper} {l : List Oper}
variable {d : Nat} {ty : TypeId} {pos : String} {af : Array Edge}
/-- 'append(s, x...)' onto bytes of the call's own, or those of a text. -/
theorem appBuf {t : TypeId} {B : Nat} {s x : Operand} {v bv : Value} {xs b : List UInt8} (hs : opd E s = some v) (hx : opd E x = some bv) (hown : Buf B w v xs) (hb : BytA w bv b) (ht : ElT P t tB (.int .u8 0) 1 1) (hd : Nat.blt d n = true) (hl : xs.length + b.length ≤ 1000000000) (hB : B ≤ w.heap.size)
    (k : ∀ v' w', Buf B w' v' (xs ++ b) → (b ≠ [] → Byts B w' v' (xs ++ b)) → Ext (fun k => v.ownBlock = some k) w w' → L Fence.wide mm P ds n ops l Q ((d, v') :: E) w') : L Fence.wide mm P ds n ops (⟨some d, .call ⟨.builtin .append, #[s, x], #[t, t]⟩, ty, pos, af, none⟩ :: l) Q E w := by
  rcases hown with hown | ⟨g, fz, rfl, hg, hc⟩
  · exact appB hs hx hown hb ht hd hl hB fun v' w' h hx => k v' w' (.inl h) (fun _ => h) hx
  · have hgl := lt_of_obj hc
    rcases hb.form with ⟨rfl, h0⟩ | ⟨ad, c, rfl, h1, h2, hcb⟩
    · obtain rfl : b = [] := List.eq_nil_of_length_eq_zero h0
      exact appN (st := .plain Fence.wide mm) hs hx hd ht (Nat.le_refl _) (k _ _ (.inr ⟨g, fz, by simp, hg, by simpa using hc⟩) (fun h => absurd rfl h) (Ext.refl _ _))
    · by_cases hb0 : b = []
      · subst hb0
        obtain ⟨i, hi, hz, hsz, hby⟩ := ht.info
        have hl0 : (loadCells ad 0).run P w = .ok #[] w := run_loadCells_list (P := P) w ad [] (fun j v hj => by cases hj)
        exact bltin (vs := [.slice (some ⟨g, 0, none⟩) xs.length xs.length, .slice (some ad) 0 c]) (v := .slice (some ⟨g, 0, none⟩) xs.length xs.length) (w' := w) (by simp [hs, hx]) hd (fun _ => by
          simp [builtin, Builtin.append_, run_underlying ht.u, sizeOf, typeInfo, program, Sem.run, hi, Builtin.lenOf, Builtin.firstCells, hl0, storeCells]) (k _ _ (.inr ⟨g, fz, by simp, hg, by simpa using hc⟩) (fun h => absurd rfl h) (Ext.refl _ _))
      · have hbl : 0 < b.length := List.length_pos_iff.2 hb0
        refine appG (st := .plain Fence.wide mm) hs hx hd ht (olds := encB xs) (by simp [encB]) (fun j u hj => by rw [add_at, Nat.zero_add]; exact cell_of hc (by simpa using hj)) (news := encB b) (by simp [encB]) (fun j u hj => (hcb j u hj).2) (by omega) (by simp only [Nat.mul_one]; omega) (by simp only [maxLen]; omega) fun v' w' ho hx2 => ⟨trivial, ?_⟩
        have hB' : Byts B w' v' (xs ++ b) := own_more (by simpa [encB, Byts] using ho) hB
        exact k v' w' (.inl hB') (fun _ => hB') hx2.none
end ops
theorem Byts.buf {B : Nat} {w : World} {v : Value} {xs : List UInt8} (h : Byts B w v xs) : Buf B w v xs := .inl h
theorem ext_buf {S : Nat → Prop} {w w1 w2 : World} {v : Value} {xs : List UInt8} (h : Ext S w w1) (hb : Buf w.heap.size w1 v xs) (hx : Ext (fun k => v.ownBlock = some k) w1 w2) : Ext S w w2 := by
  rcases hb with hb | ⟨g, fz, rfl, hg, -⟩
  · exact h.own hb hx
  · exact h.trans' hx fun i hi e => by
      simp [Value.ownBlock] at e
      omega
theorem u_u16 : P.underlying 41 = some (.int .u16) := Tryz.underlying41

set_option maxHeartbeats 1000000 in
theorem c_ArchiveLengths (w : World) (n : Nat) (_hn : n < 18446744073709551616) (path : Nat) (_hpath : path < 65536) {bv : Value} {b : List UInt8} (hb : BytA w bv b) (dir : Bool) :
    Calls P 5 #[.int .u64 n, .int .u16 path, bv, .bool dir] w fun e w' => e = .returned (.bool true) ∧ Ext none_ w w' := by
  obtain ⟨ba, bc, rfl, -, -, -, -⟩ := id hb
  refine enter (l := [_, _, _, _]) (n := 67) Tryz.func5 rfl rfl rfl ?_
  refine W.seq ?_
  refine W.reg <| asg rfl rfl <| L.nil ?_
  refine N.th ?_
  refine W.seq ?_
  refine W.seq ?_
  refine W.reg <| call (vs := []) rfl rfl ok_known13 (c_known13 w) ?_
  rintro e w1 ⟨rfl, hx1⟩
  refine ⟨_, rfl, ?_⟩
  refine notB rfl rfl <| L.nil ?_
  refine N.th ?_
  refine W.condF rfl ?_
  refine W.skip ?_
  refine N.th ?_
  refine W.seq ?_
  refine W.seq ?_
  refine W.reg <| mv rfl rfl <| lenV rfl u_bytes rfl <| gtrI rfl rfl rfl <| L.nil ?_
  refine N.th ?_
  refine W.cond rfl (fun h => ?_) (fun h => ?_)
  · refine W.seq ?_
    refine W.reg <| asg rfl rfl <| L.nil ?_
    refine N.th ?_
    refine W.ret ?_
    refine N.rth ?_
    exact N.ret1 rfl rfl ⟨rfl, hx1⟩   -- RETURN
  have hbl : b.length ≤ 500 := by have := of_decide_eq_false h; omega
  refine W.skip ?_
  refine N.th ?_
  refine W.seq ?_
  refine W.reg <| asg rfl rfl <| L.nil ?_
  refine N.th ?_
  refine W.seqM (fun E' w' => ∃ kk : UInt8, E' = [(9, .int .u8 kk.toNat), (0, .int .u64 n), (1, .int .u16 path), (2, .slice ba b.length bc)] ∧ w' = w1) ?_ ?_
  · refine W.seq ?_
    refine W.reg <| mv rfl rfl <| L.nil ?_
    refine N.th ?_
    refine W.cond rfl (fun h => ?_) (fun h => ?_)
    · refine W.reg <| asg rfl rfl <| L.nil ?_
      exact N.th (N.meet [(9, .int .u8 1), (0, _), (1, _), (2, _)] ⟨rfl, rfl, rfl, rfl, trivial⟩ ⟨1, rfl, rfl⟩)
    · refine W.skip ?_
      exact N.th (N.meet [(9, .int .u8 0), (0, _), (1, _), (2, _)] ⟨rfl, rfl, rfl, rfl, trivial⟩ ⟨0, rfl, rfl⟩)
  rintro E' w2 ⟨kk, rfl, rfl⟩
  refine W.seq ?_
  obtain ⟨y1, hy1⟩ : ∃ y : UInt8, y = UInt8.ofNat (path / 256) := ⟨_, rfl⟩
  obtain ⟨y2, hy2⟩ : ∃ y : UInt8, y = UInt8.ofNat path := ⟨_, rfl⟩
  refine W.reg <| bls (vs := #[(0, .int .u8 80), (1, .int .u8 65), (2, .int .u8 75), (3, .int .u8 49)]) (cs := #[.int .u8 80, .int .u8 65, .int .u8 75, .int .u8 49]) (e := tB) rfl rfl (fun _ => by kernel_rfl) <| cvtBB rfl u_bytes u_u8 rfl (heap_new _ _) trivial fun w3 hg3 hx3 => ⟨trivial, ?_⟩
  have hs1 := hx1.size
  have hx03 : Ext none_ w w3 := hx1.trans ((Ext.alloc none_ _ _).trans' hx3 fun i hi e => by omega)
  have hbuf3 : Buf w.heap.size w3 (.slice (some ⟨w2.heap.size, 0, none⟩) 4 4) [80, 65, 75, 49] := .inr ⟨_, _, rfl, hs1, hg3⟩
  refine mv rfl rfl <| mv rfl rfl <| shrI (c := ((path / 256 : Nat) : Int)) rfl rfl rfl (by decide) (by
      show (path : Int).fdiv (2 ^ 8) = _
      rw [Int.fdiv_eq_ediv_of_nonneg _ (by decide)]
      omega) <| cvtI (c := (y1.toNat : Int)) rfl u_u8 u_u16 rfl (by rw [hy1]; simp [IntKind.wrap, IntKind.bits, IntKind.signed]) <| mv rfl rfl <| cvtI (c := (y2.toNat : Int)) rfl u_u8 u_u16 rfl (by rw [hy2]; simp [IntKind.wrap, IntKind.bits, IntKind.signed]) <|
    bls (vs := #[(0, .int .u8 kk.toNat), (1, .int .u8 y1.toNat), (2, .int .u8 y2.toNat), (3, .int .u8 97)]) (cs := #[.int .u8 kk.toNat, .int .u8 y1.toNat, .int .u8 y2.toNat, .int .u8 97]) (e := tB) rfl rfl (fun _ => by kernel_rfl) ?_
  have hx4 : Ext none_ w3 (w3.alloc (.cells #[.int .u8 kk.toNat, .int .u8 y1.toNat, .int .u8 y2.toNat, .int .u8 97] tB)) := Ext.alloc _ _ _
  have hg4 := heap_new w3 (.cells #[.int .u8 kk.toNat, .int .u8 y1.toNat, .int .u8 y2.toNat, .int .u8 97] tB)
  generalize w3.alloc _ = w4 at hx4 hg4 ⊢
  have hb4 : BytA w4 (.slice (some ⟨w3.heap.size, 0, none⟩) 4 4) [kk, y1, y2, 97] := lit_arg (l := [kk, y1, y2, 97]) hg4 (by simp)
  have hbuf4 : Buf w.heap.size w4 (.slice (some ⟨w2.heap.size, 0, none⟩) 4 4) [80, 65, 75, 49] := .inr ⟨_, _, rfl, hs1, hx4.obj hg3 id⟩
  have hx04 := hx03.trans hx4
  refine appBuf rfl rfl hbuf4 hb4 el_bytes rfl (by simp) hx04.size fun v5 w5 _ hb5 hx5 => ?_
  have hb5 := hb5 (by simp)
  have hx05 : Ext none_ w w5 := ext_buf hx04 hbuf4 hx5
  refine asg rfl rfl <| L.nil ?_
  refine N.th ?_
  refine W.seq ?_
  refine W.seq ?_
  refine W.reg <| asg rfl rfl <| L.nil ?_
  refine N.th ?_
  refine W.block ?_
  refine W.loop (X := Nat × Value × List UInt8) (fun x => [(11, .int .i64 ((7 : Int) - x.1)), (10, x.2.1), (0, .int .u64 n), (2, .slice ba b.length bc)])
    (fun x w' => x.1 ≤ 8 ∧ x.2.2.length = 8 + x.1 ∧ Byts w.heap.size w' x.2.1 x.2.2 ∧ Ext none_ w w') (fun x => 8 - x.1) (0, v5, _) ⟨rfl, rfl, rfl, rfl, trivial⟩ ⟨by simp, by rfl, hb5, hx05⟩ ?_
  rintro ⟨i, v6, xs⟩ w6 ⟨hi, hxl, hv6, hx06⟩
  dsimp only at hi hxl hv6 ⊢
  refine W.seq ?_
  refine W.seq ?_
  refine W.reg <| mv rfl rfl <| geqI rfl rfl rfl <| L.nil ?_
  refine N.th ?_
  refine W.cond rfl (fun h => ?_) (fun h => ?_)
  · refine W.skip ?_
    refine N.th ?_
    have hi1 : i < 8 := by have := of_decide_eq_true h; omega
    obtain ⟨y, hy⟩ : ∃ y : UInt8, y = UInt8.ofNat (n / 2 ^ (8 * (7 - i))) := ⟨_, rfl⟩
    refine W.seq ?_
    refine W.block ?_
    refine W.reg <| mv rfl rfl <| mv rfl rfl <| mv rfl rfl <| mulI (c := ((8 * (7 - i) : Nat) : Int)) rfl rfl rfl (by rw [w64 (by omega) (by omega)]; omega) <|
      shrI (c := ((n / 2 ^ (8 * (7 - i)) : Nat) : Int)) rfl rfl rfl (by omega) (by
        have h1 : min (((8 * (7 - i) : Nat) : Int)).toNat IntKind.u64.bits = 8 * (7 - i) := by simp [IntKind.bits]; omega
        rw [h1, Int.fdiv_eq_ediv_of_nonneg _ (Int.pow_nonneg (by decide))]
        simp) <| cvtI (c := (y.toNat : Int)) rfl u_u8 u_u64 rfl (by rw [hy]; simp [IntKind.wrap, IntKind.bits, IntKind.signed]) <|
      pushB rfl rfl rfl rfl (fun _ => by kernel_rfl) el_bytes (.inl hv6) (by omega) hx06.size fun v7 w7 hv7 hx7 _ => ?_
    refine asg rfl rfl <| L.nil ?_
    refine N.inb ?_
    refine N.th ?_
    refine W.reg <| mv rfl rfl <| subI (c := (7 : Int) - ((i + 1 : Nat) : Int)) rfl rfl rfl (by rw [w64 (by omega) (by omega)]; omega) <| asg rfl rfl <| L.nil ?_
    exact N.th (N.round (x := (i + 1, v7, xs ++ [y])) ⟨rfl, rfl, rfl, rfl, trivial⟩ ⟨by dsimp only; omega, by simp; omega, hv7, hx06.own hv6 hx7⟩ (by dsimp only; omega))   -- ROUND
  · refine W.exit ?_
    refine N.xth ?_
    refine N.xth ?_
    refine N.xeq ?_
    refine N.th ?_
    refine W.seq ?_
    refine W.reg <| mv rfl rfl <| mv rfl rfl <| appB rfl rfl hv6 (hb.ext0 hx06) el_bytes rfl (by omega) hx06.size fun v7 w7 hv7 hx7 => ?_
    have hx07 := hx06.own hv6 hx7
    refine pushB (y := 255) rfl rfl rfl rfl (fun _ => by kernel_rfl) el_bytes (.inl hv7) (by simp; omega) hx07.size fun v8 w8 hv8 hx8 _ => ?_
    have hx08 := hx07.own hv7 hx8
    refine asg rfl rfl <| L.nil ?_
    refine N.th ?_
    obtain ⟨Y, hY⟩ : ∃ Y, Y = xs ++ b ++ [255] := ⟨_, rfl⟩
    have hYl : Y.length ≤ 1000 := by rw [hY]; simp; omega
    rw [← hY] at hv8
    have hY8 : BytA w8 v8 Y := (Row.own hv8).arg
    refine W.seq ?_
    refine W.reg <| mv rfl rfl <| call (vs := [_]) rfl rfl ok_AOpen (b_AOpen hY8 (by omega)) ?_
    rintro e w9 ⟨v9, E9, rfl, hF9, hE9, hl9, hx9⟩
    refine ⟨_, rfl, ?_⟩
    refine mv rfl rfl <| ext rfl rfl rfl <| ext (v := .int .i64 (Ar.opc (Ar.opn Y))) rfl rfl rfl <| asg rfl rfl <| asg rfl rfl <| L.nil ?_
    refine N.th ?_
    refine W.seq ?_
    refine W.reg <| mv rfl rfl <| call (vs := [_]) rfl rfl ok_ROpen (b_ROpen (hY8.ext0 hx9) (by omega)) ?_
    rintro e w10 ⟨v10, E10, rfl, hF10, hE10, hl10, hx10⟩
    refine ⟨_, rfl, ?_⟩
    refine mv rfl rfl <| ext rfl rfl rfl <| ext (v := .int .i64 (Ar.opc (Ar.opn Y))) rfl rfl rfl <| asg rfl rfl <| asg rfl rfl <| L.nil ?_
    refine N.th ?_
    refine W.seq ?_
    refine W.reg <| mv rfl rfl <| mv rfl rfl <| eqlI rfl rfl rfl <| Vc.bt (by simp) ?_
    (repeat (first | refine mv rfl rfl ?_ | refine asg rfl rfl ?_ | refine L.off rfl rfl rfl rfl rfl ?_ | refine L.offU rfl rfl rfl rfl ?_ | refine L.on rfl rfl rfl ?_ | refine pickT rfl rfl rfl ?_ | refine pickF rfl rfl rfl ?_ | refine ext rfl rfl rfl ?_ | refine nilc rfl rfl ?_ | refine lenV (t := 46) rfl u_strs rfl ?_ | refine lenV (t := 25) rfl u_bytes rfl ?_ | refine lenV (t := 22) rfl u_files rfl ?_ | refine lenS (t := 9) rfl u_str rfl ?_ | refine eqlI rfl rfl rfl ?_ | refine neqI rfl rfl rfl ?_ | refine lssI rfl rfl rfl ?_ | refine leqI rfl rfl rfl ?_ | refine gtrI rfl rfl rfl ?_ | refine geqI rfl rfl rfl ?_))
    refine call (vs := [_, _]) rfl rfl ok_HFiles (c_HFiles (hF9.ext0 hx10) hF10 (by omega) (by omega)) ?_
    rintro e w11 ⟨rfl, hx11⟩
    refine ⟨_, rfl, ?_⟩
    rw [same_files hE9 hE10]
    (repeat (first | refine mv rfl rfl ?_ | refine asg rfl rfl ?_ | refine L.off rfl rfl rfl rfl rfl ?_ | refine L.offU rfl rfl rfl rfl ?_ | refine L.on rfl rfl rfl ?_ | refine pickT rfl rfl rfl ?_ | refine pickF rfl rfl rfl ?_ | refine ext rfl rfl rfl ?_ | refine nilc rfl rfl ?_ | refine lenV (t := 46) rfl u_strs rfl ?_ | refine lenV (t := 25) rfl u_bytes rfl ?_ | refine lenV (t := 22) rfl u_files rfl ?_ | refine lenS (t := 9) rfl u_str rfl ?_ | refine eqlI rfl rfl rfl ?_ | refine neqI rfl rfl rfl ?_ | refine lssI rfl rfl rfl ?_ | refine leqI rfl rfl rfl ?_ | refine gtrI rfl rfl rfl ?_ | refine geqI rfl rfl rfl ?_))
    refine L.nil ?_
    refine N.th ?_
    refine W.ret ?_
    exact N.ret1 rfl rfl ⟨rfl, ((hx08.trans hx9).trans hx10).trans hx11⟩   -- RETURN
end Go.Proofs.YtmdpmpdlkaogdaaGreatDoor

namespace Go.Proofs.YtmdpmpdlkaogdaaGreatDoor
open Go Go.RowKit Vc
theorem u8_xor (a b : UInt8) : IntKind.u8.wrap ((BitVec.ofInt 8 (a.toNat : Int) ^^^ BitVec.ofInt 8 (b.toNat : Int)).toNat : Int) = ((a ^^^ b).toNat : Int) := by
  have h1 : (BitVec.ofInt 8 (a.toNat : Int)).toNat = a.toNat := by have := a.toNat_lt; rw [BitVec.toNat_ofInt]; omega
  have h2 : (BitVec.ofInt 8 (b.toNat : Int)).toNat = b.toNat := by have := b.toNat_lt; rw [BitVec.toNat_ofInt]; omega
  have h3 := (a ^^^ b).toNat_lt
  rw [BitVec.toNat_xor, h1, h2, ← UInt8.toNat_xor]
  exact wu8 (by omega) (by omega)
theorem xorU8 {st : Sty} [Wy st] {P : Program} {ds : List Deferred} {n : Nat} {Q : Exit → Act → World → Prop} {E : Env} {w : World} {ops : Array Oper} {rest : List Oper} {d : Nat} {ty : TypeId} {pos : String} {af : Array Edge} {x y : Operand} {t yt : TypeId} {a b : UInt8} (hx : opd E x = some (.int .u8 (a.toNat : Int))) (hy : opd E y = some (.int .u8 (b.toNat : Int))) (hd : Nat.blt d n = true)
    (k : LY st P ds n ops rest Q ((d, .int .u8 ((a ^^^ b).toNat : Int)) :: E) w) : LY st P ds n ops (⟨some d, .binOp .xor t x y yt, ty, pos, af, none⟩ :: rest) Q E w :=
  binI hx hy (fun w => by
    show (pure (.int .u8 (IntKind.u8.wrap ((BitVec.ofInt 8 (a.toNat : Int) ^^^ BitVec.ofInt 8 (b.toNat : Int)).toNat))) : Sem Value).run P w = _
    rw [u8_xor]; rfl) hd k
/-- One byte of a row of the call's own, set anew. -/
theorem own_setB {w : World} {B g cap i : Nat} {xs : List UInt8} (h : Byts B w (.slice (some ⟨g, 0, none⟩) xs.length cap) xs) (y : UInt8) : Byts B (w.setCell ⟨g, i, none⟩ (.int .u8 (y.toNat : Int))) (.slice (some ⟨g, 0, none⟩) (xs.set i y).length cap) (xs.set i y) := by
  rcases h.2 with ⟨e, h0⟩ | ⟨g', cap', cur, e, hg, hcur, hn, hcm, hcs, htk⟩
  · cases e
  · cases e
    refine ⟨by simp [encB], .inr ⟨g, cap, cur.setIfInBounds i (.int .u8 (y.toNat : Int)), rfl, hg, setCell_heap hcur _, by simpa using hn, hcm, by simpa using hcs, ?_⟩⟩
    rw [Array.toList_setIfInBounds, List.take_set, List.length_set, htk]
    simp [encB, List.map_set]
theorem own_cell {w : World} {B g cap i : Nat} {xs : List UInt8} (h : Byts B w (.slice (some ⟨g, 0, none⟩) xs.length cap) xs) (hi : i < xs.length) : ∃ cur, w.heap[g]? = some (.cells cur tB (0, 0)) ∧ cur[i]? = some (.int .u8 ((xs[i]?.getD 0).toNat : Int)) := by
  rcases h.2 with ⟨e, h0⟩ | ⟨g', cap', cur, e, hg, hcur, hn, hcm, hcs, htk⟩
  · cases e
  · cases e
    refine ⟨cur, hcur, ?_⟩
    have h1 : (cur.toList.take (xs.length * 1))[i]? = (encB xs)[i]? := by rw [htk]
    rw [List.getElem?_take, if_pos (by omega)] at h1
    simp only [Array.getElem?_toList] at h1
    rw [h1, encB_get (y := xs[i]?.getD 0) (by rw [List.getElem?_eq_getElem hi]; rfl)]

set_option maxHeartbeats 1000000 in
theorem c_ArchiveOpens (w : World) {rv : Value} {raw : List UInt8} (hraw : BytA w rv raw) {v : Value} {E : List FE} (hv : RowA w v E.length (E.flatMap fcells)) (hb : ∀ x ∈ E, BytA w x.2.2.1 x.2.2.2) (at_ : Int) (_hat : -9223372036854775808 ≤ at_ ∧ at_ < 9223372036854775808) (x : UInt8) (cut more : Bool) :
    Calls P 4 #[rv, v, .int .i64 at_, .int .u8 x.toNat, .bool cut, .bool more] w fun e w' => e = .returned (.bool true) ∧ Ext none_ w w' := by
  have hA : FilesA w v E := ⟨hv, hb⟩
  obtain ⟨ra, rc, rfl, -, -, -, -⟩ := id hraw
  refine enter (l := [_, _, _, _, _, _]) (n := 84) Tryz.func4 rfl rfl rfl ?_
  refine W.seq ?_
  refine W.reg <| asg rfl rfl <| L.nil ?_
  refine N.th ?_
  refine W.seq ?_
  refine W.seq ?_
  refine W.reg <| call (vs := []) rfl rfl ok_known13 (c_known13 w) ?_
  rintro e w1 ⟨rfl, hx1⟩
  refine ⟨_, rfl, ?_⟩
  refine notB rfl rfl <| L.nil ?_
  refine N.th ?_
  refine W.condF rfl ?_
  refine W.skip ?_
  refine N.th ?_
  refine W.seq ?_
  refine W.seqM (fun E' w' => ∃ t, E' = [(30, .bool t), (0, .slice ra raw.length rc), (1, v), (2, .int .i64 at_), (3, .int .u8 x.toNat), (4, .bool cut), (5, .bool more)] ∧ w' = w1 ∧ t = !(decide (raw.length ≤ 1000) && lightL E)) ?_ ?_
  · refine W.reg <| mv rfl rfl <| lenV rfl u_bytes rfl <| gtrI rfl rfl rfl ?_
    by_cases hrl : raw.length ≤ 1000
    case neg =>
      refine Vc.bt (by simp; omega) ?_
      (repeat (first | refine mv rfl rfl ?_ | refine asg rfl rfl ?_ | refine L.off rfl rfl rfl rfl rfl ?_ | refine L.offU rfl rfl rfl rfl ?_ | refine L.on rfl rfl rfl ?_ | refine pickT rfl rfl rfl ?_ | refine pickF rfl rfl rfl ?_ | refine ext rfl rfl rfl ?_ | refine nilc rfl rfl ?_ | refine lenV (t := 46) rfl u_strs rfl ?_ | refine lenV (t := 25) rfl u_bytes rfl ?_ | refine lenV (t := 22) rfl u_files rfl ?_ | refine lenS (t := 9) rfl u_str rfl ?_ | refine eqlI rfl rfl rfl ?_ | refine neqI rfl rfl rfl ?_ | refine lssI rfl rfl rfl ?_ | refine leqI rfl rfl rfl ?_ | refine gtrI rfl rfl rfl ?_ | refine geqI rfl rfl rfl ?_))
      exact L.nil <| N.th (N.meet [(30, .bool true), (0, _), (1, _), (2, _), (3, _), (4, _), (5, _)] ⟨rfl, rfl, rfl, rfl, rfl, rfl, rfl, trivial⟩ ⟨true, rfl, rfl, by simp [hrl]⟩)
    refine Vc.bf (by simp; omega) ?_
    (repeat (first | refine mv rfl rfl ?_ | refine asg rfl rfl ?_ | refine L.off rfl rfl rfl rfl rfl ?_ | refine L.offU rfl rfl rfl rfl ?_ | refine L.on rfl rfl rfl ?_ | refine pickT rfl rfl rfl ?_ | refine pickF rfl rfl rfl ?_ | refine ext rfl rfl rfl ?_ | refine nilc rfl rfl ?_ | refine lenV (t := 46) rfl u_strs rfl ?_ | refine lenV (t := 25) rfl u_bytes rfl ?_ | refine lenV (t := 22) rfl u_files rfl ?_ | refine lenS (t := 9) rfl u_str rfl ?_ | refine eqlI rfl rfl rfl ?_ | refine neqI rfl rfl rfl ?_ | refine lssI rfl rfl rfl ?_ | refine leqI rfl rfl rfl ?_ | refine gtrI rfl rfl rfl ?_ | refine geqI rfl rfl rfl ?_))
    refine call (vs := [_]) rfl rfl ok_LightFiles (c_LightFiles (hA.ext0 hx1)) ?_
    rintro e w2 ⟨rfl, rfl⟩
    refine ⟨_, rfl, ?_⟩
    refine L.on rfl rfl rfl <| notB rfl rfl <| pickF rfl rfl rfl <| L.nil ?_
    exact N.th (N.meet [(30, .bool (!lightL E)), (0, _), (1, _), (2, _), (3, _), (4, _), (5, _)] ⟨rfl, rfl, rfl, rfl, rfl, rfl, rfl, trivial⟩ ⟨_, rfl, rfl, by simp [hrl]⟩)
  rintro E' w2 ⟨t, rfl, rfl, ht⟩
  refine W.cond rfl (fun h => ?_) (fun h => ?_)
  · refine W.seq ?_
    refine W.reg <| asg rfl rfl <| L.nil ?_
    refine N.th ?_
    refine W.ret ?_
    refine N.rth ?_
    exact N.ret1 rfl rfl ⟨rfl, hx1⟩   -- RETURN
  obtain ⟨hrl, hlt⟩ : raw.length ≤ 1000 ∧ lightL E = true := by rw [h] at ht; simpa using ht
  have hlight := lightL_spec hlt
  have hents := light_ents hlight
  have hpk := Ar.pk_len (fm E)
  have hE20 := hlight.1
  refine W.skip ?_
  refine N.th ?_
  refine W.seq ?_
  refine W.reg <| mv rfl rfl <| call (vs := [_]) rfl rfl ok_RPack (c_RPack (hA.ext0 hx1) (by omega) (by omega) (fun x hx => by have := hlight.2 x hx; omega)) ?_
  rintro e w3 ⟨v3, rfl, hp3, hx3⟩
  refine ⟨_, rfl, ?_⟩
  refine asg rfl rfl <| L.nil ?_
  refine N.th ?_
  have hs1 := hx1.size
  obtain ⟨pk, hpke⟩ : ∃ pk, pk = Ar.pk (fm E) := ⟨_, rfl⟩
  rw [← hpke] at hp3 hpk
  obtain ⟨g, cap, rfl, hg⟩ : ∃ g cap, v3 = .slice (some ⟨g, 0, none⟩) pk.length cap ∧ w2.heap.size ≤ g := by
    rcases hp3.2 with ⟨-, h0⟩ | ⟨g, cap, cur, rfl, hg, -⟩
    · omega
    · exact ⟨g, cap, rfl, hg⟩
  refine W.seq ?_
  refine W.reg <| mv rfl rfl <| mv rfl rfl <| lenV rfl u_bytes rfl <| call (vs := [_, _]) rfl rfl ok_Place (c_Place at_ (n := pk.length) (by omega) (by omega) w3) ?_
  rintro e w4 ⟨rfl, rfl⟩
  refine ⟨_, rfl, ?_⟩
  refine asg rfl rfl <| L.nil ?_
  refine N.th ?_
  have hi := place_lt at_ (n := pk.length) (by omega)
  generalize place at_ pk.length = i at hi ⊢
  obtain ⟨cur, hcur, hci⟩ := own_cell hp3 hi
  refine W.seq ?_
  refine W.reg <| mv rfl rfl <| mv rfl rfl <| ixa rfl rfl u_bytes el_bytes.szB rfl (by omega) (by omega) <| ld1 (v := .int .u8 ((pk[i]?.getD (0 : UInt8)).toNat : Int)) rfl ag_u8 rfl (cell_of hcur (by rw [Int.toNat_natCast, Nat.mul_one, Nat.zero_add]; exact hci)) <| mv rfl rfl <| xorU8 (b := x) rfl rfl rfl <| ixa rfl rfl u_bytes el_bytes.szB rfl (by omega) (by omega) <|
    st1 rfl rfl sz_u8 rfl hcur (by rw [Int.toNat_natCast, Nat.mul_one, Nat.zero_add]; exact hci) <| L.nil ?_
  refine N.th ?_
  rw [show 0 + Int.toNat (i : Int) * 1 = i by omega]
  have hp5 := own_setB hp3 (i := i) ((pk[i]?.getD (0 : UInt8)) ^^^ x)
  have hx35 : Ext (fun k => k = g) w3 (w3.setCell ⟨g, i, none⟩ (.int .u8 (((pk[i]?.getD (0 : UInt8)) ^^^ x).toNat : Int))) := Ext.setCell (S := fun k => k = g) _ (fun _ => rfl) _
  generalize w3.setCell _ _ = w5 at hp5 hx35 ⊢
  have hYl : (pk.set i ((pk[i]?.getD (0 : UInt8)) ^^^ x)).length = pk.length := by simp
  generalize pk.set i ((pk[i]?.getD (0 : UInt8)) ^^^ x) = Y at hp5 hYl
  rw [hYl] at hp5
  have hx05 : Ext none_ w w5 := (hx1.trans hx3).trans' hx35 fun i hi e => by omega
  have hp5' : w5.ownsRow w.heap.size tB 1 (.slice (some ⟨g, 0, none⟩) pk.length cap) pk.length (encB Y) := own_more (by rw [← hYl]; rw [← hYl] at hp5; exact hp5) hs1
  refine W.seqM (fun E' w' => ∃ m' Y', E' = [(13, .slice (some ⟨g, 0, none⟩) m' cap), (0, .slice ra raw.length rc), (5, .bool more)] ∧ w' = w5 ∧ m' = Y'.length ∧ Y'.length ≤ 25000 ∧ Byts w.heap.size w5 (.slice (some ⟨g, 0, none⟩) m' cap) Y') ?_ ?_
  · refine W.seq ?_
    refine W.reg <| mv rfl rfl <| L.nil ?_
    refine N.th ?_
    refine W.cond rfl (fun h => ?_) (fun h => ?_)
    · refine W.reg <| mv rfl rfl <| mv rfl rfl <| slVh rfl rfl u_bytes el_bytes.szB rfl (by omega) (by obtain ⟨a, c', e, hc', -⟩ := own_slice hp5'; cases e; omega) <| asg rfl rfl <| L.nil ?_
      refine N.th (N.meet [(13, .slice (some ⟨g, 0, none⟩) i cap), (0, _), (5, _)] ⟨rfl, rfl, rfl, trivial⟩ ⟨i, Y.take i, rfl, rfl, by rw [List.length_take]; omega, by rw [List.length_take]; omega, ?_⟩)
      have := own_take hp5' (m := i) (by omega)
      unfold Byts
      rw [show (Y.take i).length = i by rw [List.length_take]; omega, show encB (Y.take i) = (encB Y).take (i * 1) by simp [encB]]
      exact this
    · refine W.skip ?_
      exact N.th (N.meet [(13, .slice (some ⟨g, 0, none⟩) pk.length cap), (0, _), (5, _)] ⟨rfl, rfl, rfl, trivial⟩ ⟨pk.length, Y, rfl, rfl, hYl.symm, by omega, by unfold Byts; rw [hYl]; exact hp5'⟩)
  rintro E' w6 ⟨m', Y', rfl, rfl, hm', hYl', hp6⟩
  refine W.seqM (fun E' w' => ∃ v7 Y7, E' = [(13, v7), (0, .slice ra raw.length rc)] ∧ Ext none_ w w' ∧ Y7.length ≤ 30000 ∧ Byts w.heap.size w' v7 Y7) ?_ ?_
  · refine W.seq ?_
    refine W.reg <| mv rfl rfl <| L.nil ?_
    refine N.th ?_
    refine W.cond rfl (fun h => ?_) (fun h => ?_)
    · refine W.reg <| mv rfl rfl <| mv rfl rfl <| appB rfl rfl hp6 (hraw.ext0 hx05) el_bytes rfl (by omega) hx05.size fun v7 w7 hp7 hx7 => ?_
      refine asg rfl rfl <| L.nil ?_
      exact N.th (N.meet [(13, _), (0, _)] ⟨rfl, rfl, trivial⟩ ⟨v7, _, rfl, hx05.own hp6 hx7, by simp; omega, hp7⟩)
    · refine W.skip ?_
      exact N.th (N.meet [(13, _), (0, _)] ⟨rfl, rfl, trivial⟩ ⟨_, _, rfl, hx05, by omega, hp6⟩)
  rintro E' w7 ⟨v7, Y7, rfl, hx07, hY7, hp7⟩
  refine W.seq ?_
  refine W.seq ?_
  refine W.reg <| mv rfl rfl <| bls (vs := #[(0, .int .u8 80), (1, .int .u8 65), (2, .int .u8 75), (3, .int .u8 49)]) (cs := #[.int .u8 80, .int .u8 65, .int .u8 75, .int .u8 49]) (e := tB) rfl rfl (fun _ => by kernel_rfl) <| cvtBB rfl u_bytes u_u8 rfl (heap_new _ _) trivial fun w8 hg8 hx8 => ⟨trivial, ?_⟩
  have hx78 : Ext none_ w7 w8 := (Ext.alloc none_ _ _).trans' hx8 fun i hi e => by omega
  have hs7 := hx07.size
  have hx08 := hx07.trans hx78
  have hbuf8 : Buf w.heap.size w8 (.slice (some ⟨w7.heap.size, 0, none⟩) 4 4) [80, 65, 75, 49] := .inr ⟨_, _, rfl, hs7, hg8⟩
  have hbuf7 : Buf w7.heap.size w8 (.slice (some ⟨w7.heap.size, 0, none⟩) 4 4) [80, 65, 75, 49] := .inr ⟨_, _, rfl, Nat.le_refl _, hg8⟩
  refine mv rfl rfl <| appBuf rfl rfl hbuf8 (hraw.ext0 hx08) el_bytes rfl (by simp; omega) hx08.size fun v9 w9 hb9 _ hx9 => ?_
  have hx79 : Ext none_ w7 w9 := ext_buf hx78 hbuf7 hx9
  have hx09 := hx07.trans hx79
  have hA9 : BytA w9 v9 ([80, 65, 75, 49] ++ raw) := by
    rcases hb9 with h | ⟨g', fz, rfl, -, hc⟩
    · exact (Row.own h).arg
    · refine ⟨_, _, rfl, Nat.le_refl _, by simp only [maxLen, List.length_append]; simp; omega, (fun h => by cases h), fun j u hj => ⟨_, rfl, lt_of_obj hc, by rw [add_at]; exact cell_of hc (by simpa using hj)⟩⟩
  obtain ⟨a9, c9, rfl, -, -, -, -⟩ := id hA9
  obtain ⟨a7, c7, rfl, -, -⟩ := own_slice hp7
  refine mv rfl rfl <| bls (vs := #[(0, .slice ra raw.length rc), (1, .slice a9 ([80, 65, 75, 49] ++ raw).length c9), (2, .slice a7 Y7.length c7)]) (cs := #[.slice ra raw.length rc, .slice a9 ([80, 65, 75, 49] ++ raw).length c9, .slice a7 Y7.length c7]) (e := 25) rfl rfl (fun _ => by kernel_rfl) ?_
  have hg10 := heap_new w9 (.cells #[Value.slice ra raw.length rc, .slice a9 ([80, 65, 75, 49] ++ raw).length c9, .slice a7 Y7.length c7] 25)
  have hx10 : Ext none_ w9 (w9.alloc (.cells #[Value.slice ra raw.length rc, .slice a9 ([80, 65, 75, 49] ++ raw).length c9, .slice a7 Y7.length c7] 25)) := Ext.alloc _ _ _
  generalize w9.alloc _ = w10 at hg10 hx10 ⊢
  generalize w9.heap.size = g10 at hg10 ⊢
  refine lenV rfl u_bss rfl <| mv rfl rfl <| L.nil ?_
  refine N.th ?_
  obtain ⟨L3, hL3⟩ : ∃ L3 : List (Value × List UInt8), L3 = [(.slice ra raw.length rc, raw), (.slice a9 ([80, 65, 75, 49] ++ raw).length c9, [80, 65, 75, 49] ++ raw), (.slice a7 Y7.length c7, Y7)] := ⟨_, rfl⟩
  have hL3l : L3.length = 3 := by rw [hL3]; rfl
  have hL3c : ∀ i p, L3[i]? = some p → w10.cell? ⟨g10, 0 + i * 1, none⟩ = some p.1 := by
    intro i p hp
    refine cell_of hg10 ?_
    rw [hL3] at hp
    match i, hp with
    | 0, hp => cases hp; rfl
    | 1, hp => cases hp; rfl
    | 2, hp => cases hp; rfl
    | i + 3, hp => simp at hp
  have hx010 := hx09.trans hx10
  have hL3b : ∀ p ∈ L3, BytA w10 p.1 p.2 ∧ p.2.length ≤ 30000 := by
    intro p hp
    rw [hL3] at hp
    simp only [List.mem_cons, List.not_mem_nil, or_false] at hp
    rcases hp with rfl | rfl | rfl
    · exact ⟨hraw.ext0 hx010, by dsimp only; omega⟩
    · exact ⟨hA9.ext0 hx10, by simp; omega⟩
    · exact ⟨((Row.own hp7).arg.ext0 hx79).ext0 hx10, hY7⟩
  refine W.block ?_
  refine W.loop (X := Nat) (fun i => [(60, .int .i64 i), (59, .int .i64 3), (58, .slice (some ⟨g10, 0, none⟩) 3 3)]) (fun i w' => i ≤ 3 ∧ Ext none_ w10 w') (fun i => 3 - i) 0 ⟨rfl, rfl, rfl, trivial⟩ ⟨by omega, Ext.refl _ _⟩ ?_
  rintro i w11 ⟨hi3, hx11⟩
  refine W.seq ?_
  refine W.reg <| lssI rfl rfl rfl <| L.nil ?_
  refine N.th ?_
  refine W.seq ?_
  refine W.cond rfl (fun h => ?_) (fun h => ?_)
  · refine W.skip ?_
    refine N.th ?_
    have hi1 : i < 3 := by have := of_decide_eq_true h; omega
    obtain ⟨p, hp⟩ : ∃ p, L3[i]? = some p := ⟨_, List.getElem?_eq_getElem (by omega)⟩
    obtain ⟨hpb, hpl⟩ := hL3b p (List.mem_of_getElem? hp)
    have hpc : w11.cell? ⟨g10, 0 + i * 1, none⟩ = some p.1 := by
      have := hL3c i p hp
      rw [← this]
      exact World.cell?_of_block (hx11.block _ (lt_of_obj hg10) id)
    obtain ⟨pv, pb⟩ := p
    dsimp only at hpb hpl hpc
    obtain ⟨pa, pc, rfl, -, -, -, -⟩ := id hpb
    refine W.seq ?_
    refine W.block ?_
    refine W.seq ?_
    refine W.reg <| ixa rfl rfl u_bss sz_bytes rfl (by omega) (by omega) <| ld1 rfl ag_bytes rfl hpc <| asg rfl rfl <| L.nil ?_
    refine N.th ?_
    refine W.seq ?_
    have hpb11 := hpb.ext0 hx11
    refine W.reg <| mv rfl rfl <| call (vs := [_]) rfl rfl ok_AOpen (b_AOpen hpb11 (by omega)) ?_
    rintro e w12 ⟨v12, E12, rfl, hF12, hE12, hl12, hx12⟩
    refine ⟨_, rfl, ?_⟩
    refine mv rfl rfl <| ext rfl rfl rfl <| ext (v := .int .i64 (Ar.opc (Ar.opn pb))) rfl rfl rfl <| asg rfl rfl <| asg rfl rfl <| L.nil ?_
    refine N.th ?_
    refine W.seq ?_
    refine W.reg <| mv rfl rfl <| call (vs := [_]) rfl rfl ok_ROpen (b_ROpen (hpb11.ext0 hx12) (by omega)) ?_
    rintro e w13 ⟨v13, E13, rfl, hF13, hE13, hl13, hx13⟩
    refine ⟨_, rfl, ?_⟩
    refine mv rfl rfl <| ext rfl rfl rfl <| ext (v := .int .i64 (Ar.opc (Ar.opn pb))) rfl rfl rfl <| asg rfl rfl <| asg rfl rfl <| L.nil ?_
    refine N.th ?_
    refine W.seq ?_
    refine W.reg <| mv rfl rfl <| mv rfl rfl <| neqI rfl rfl rfl <| Vc.bf (by simp) ?_
    (repeat (first | refine mv rfl rfl ?_ | refine asg rfl rfl ?_ | refine L.off rfl rfl rfl rfl rfl ?_ | refine L.offU rfl rfl rfl rfl ?_ | refine L.on rfl rfl rfl ?_ | refine pickT rfl rfl rfl ?_ | refine pickF rfl rfl rfl ?_ | refine ext rfl rfl rfl ?_ | refine nilc rfl rfl ?_ | refine lenV (t := 46) rfl u_strs rfl ?_ | refine lenV (t := 25) rfl u_bytes rfl ?_ | refine lenV (t := 22) rfl u_files rfl ?_ | refine lenS (t := 9) rfl u_str rfl ?_ | refine eqlI rfl rfl rfl ?_ | refine neqI rfl rfl rfl ?_ | refine lssI rfl rfl rfl ?_ | refine leqI rfl rfl rfl ?_ | refine gtrI rfl rfl rfl ?_ | refine geqI rfl rfl rfl ?_))
    refine call (vs := [_, _]) rfl rfl ok_HFiles (c_HFiles (hF12.ext0 hx13) hF13 (by omega) (by omega)) ?_
    rintro e w14 ⟨rfl, hx14⟩
    refine ⟨_, rfl, ?_⟩
    rw [same_files hE12 hE13]
    refine L.on rfl rfl rfl <| notB rfl rfl <| pickF rfl rfl rfl <| L.nil ?_
    refine N.th ?_
    refine W.condF rfl ?_
    refine W.skip ?_
    refine N.inb ?_
    refine N.th ?_
    refine W.reg <| addI (c := ((i + 1 : Nat) : Int)) rfl rfl rfl (by rw [w64 (by omega) (by omega)]; simp) <| mv rfl rfl <| L.nil ?_
    exact N.th (N.round (x := i + 1) ⟨rfl, rfl, rfl, trivial⟩ ⟨by omega, ((hx11.trans hx12).trans hx13).trans hx14⟩ (by omega))   -- ROUND
  · refine W.exit ?_
    refine N.xth ?_
    refine N.xth ?_
    refine N.xeq ?_
    refine N.th ?_
    refine W.seq ?_
    refine W.reg <| asg rfl rfl <| L.nil ?_
    refine N.th ?_
    refine W.ret ?_
    exact N.ret1 rfl rfl ⟨rfl, hx010.trans hx11⟩   -- RETURN
end Go.Proofs.YtmdpmpdlkaogdaaGreatDoor

namespace Go.Proofs.YtmdpmpdlkaogdaaGreatDoor
namespace Ar
theorem num_snoc (n k : Nat) : num n (k + 1) = num (n / 256) k ++ [UInt8.ofNat n] := by
  unfold num
  rw [List.range_succ, List.map_append]
  congr 1
  · refine List.map_congr_left fun i hi => ?_
    have hi : i < k := List.mem_range.1 hi
    have h1 : 2 ^ (8 * (k + 1 - 1 - i)) = 256 * 2 ^ (8 * (k - 1 - i)) := by
      rw [show 8 * (k + 1 - 1 - i) = 8 + 8 * (k - 1 - i) by omega, Nat.pow_add]
    rw [h1, Nat.div_div_eq_div_mul]
  · simp
theorem val_num : ∀ (k n : Nat), n < 256 ^ k → val (num n k) = n := by
  intro k
  induction k with
  | zero => intro n h; have : n = 0 := by simpa using h
            subst this; rfl
  | succ k ih =>
    intro n h
    rw [num_snoc, val_snoc, ih (n / 256) (by rw [Nat.pow_succ] at h; exact Nat.div_lt_of_lt_mul (by omega))]
    simp
    omega
/-- What reading makes of an entry. -/
def nrm (x : Tr.Bytes × Tr.Nd) : Tr.Bytes × Tr.Nd := (x.1.take 65535, x.2.1, if x.2.1 then [] else x.2.2)
/-- The entries, one after another; none: refused. -/
def chk : Tr.T → Tr.T → Option Tr.T × Int
  | [], acc => (some acc, 0)
  | x :: l, acc =>
    if ¬ acc.length < 500 then (none, 64)
    else if (Sp.clean (nrm x).1).2 = 51 then (none, 51)
    else if (Sp.clean (nrm x).1).2 ≠ 0 then (none, 64)
    else chk l (acc ++ [nrm x])
theorem take_app {α : Type} {a b : List α} {n : Nat} (h : a.length = n) : (a ++ b).take n = a := by rw [← h]; simp
theorem drop_app {α : Type} {a b : List α} {n : Nat} (h : a.length = n) : (a ++ b).drop n = b := by rw [← h]; simp
theorem par_ent (f : Nat) (x : Tr.Bytes × Tr.Nd) (rest : List UInt8) (acc : Tr.T) (hx : x.2.2.length ≤ 1000000) : par (f + 1) (ent x ++ rest) acc =
    if ¬ acc.length < 500 then (none, 64)
    else if (Sp.clean (nrm x).1).2 = 51 then (none, 51)
    else if (Sp.clean (nrm x).1).2 ≠ 0 then (none, 64)
    else par f rest (acc ++ [nrm x]) := by
  obtain ⟨p, d, c⟩ := x
  obtain ⟨q, hq⟩ : ∃ q, q = p.take 65535 := ⟨_, rfl⟩
  have hql : q.length < 65536 := by rw [hq, List.length_take]; omega
  have hn : nrm (p, d, c) = (q, d, if d then [] else c) := by rw [hq]; rfl
  rw [hn]
  dsimp only at hx ⊢
  have h2 : (num q.length 2).length = 2 := num_len _ _
  have hv2 : val (num q.length 2) = q.length := val_num 2 _ (by simpa using hql)
  cases d with
  | true =>
    have he : ent (p, true, c) ++ rest = 1 :: (num q.length 2 ++ (q ++ rest)) := by rw [hq]; simp [ent]
    rw [he, par, if_neg (by decide)]
    by_cases h1 : acc.length < 500
    · rw [if_neg (fun h => h ⟨by decide, h1⟩), take_app h2, drop_app h2, hv2, take_app rfl, drop_app rfl]
      have h6 : ¬ 500 ≤ acc.length := by omega
      have h7 : ¬ q.length + rest.length < q.length := by omega
      have h12 : ¬ 2 + (q.length + rest.length) < 2 := by omega
      simp [h2, h6, h7, h12]
    · rw [if_pos (fun h => h1 h.2), if_pos h1]
  | false =>
    have he : ent (p, false, c) ++ rest = 0 :: (num q.length 2 ++ (q ++ (num c.length 8 ++ (c ++ rest)))) := by rw [hq]; simp [ent]
    have h8 : (num c.length 8).length = 8 := num_len _ _
    have hv8 : val (num c.length 8) = c.length := val_num 8 _ (by
      have : (256 : Nat) ^ 8 = 18446744073709551616 := by decide
      omega)
    rw [he, par, if_neg (by decide)]
    by_cases h1 : acc.length < 500
    · rw [if_neg (fun h => h ⟨by decide, h1⟩), take_app h2, drop_app h2, hv2, take_app rfl, drop_app rfl, take_app h8, drop_app h8, hv8, take_app rfl, drop_app rfl]
      have h6 : ¬ 500 ≤ acc.length := by omega
      have h7 : ¬ c.length + rest.length < c.length := by omega
      have h9 : ¬ 8 + (c.length + rest.length) < 8 := by omega
      have h10 : ¬ q.length + (8 + (c.length + rest.length)) < q.length := by omega
      have h11 : ¬ 2 + (q.length + (8 + (c.length + rest.length))) < 2 := by omega
      simp [h2, h8, h6, h7, h9, h10, h11]
    · rw [if_pos (fun h => h1 h.2), if_pos h1]
theorem ent_pos (x : Tr.Bytes × Tr.Nd) : 0 < (ent x).length := by simp [ent]
theorem par_ents : ∀ (l : Tr.T) (f : Nat) (acc : Tr.T), (∀ x ∈ l, x.2.2.length ≤ 1000000) → (ents l ++ [255]).length < f → par f (ents l ++ [255]) acc = chk l acc := by
  intro l
  induction l with
  | nil =>
    intro f acc _ hf
    obtain ⟨f, rfl⟩ : ∃ g, f = g + 1 := ⟨f - 1, by omega⟩
    simp [ents, par, chk]
  | cons x l ih =>
    intro f acc hl hf
    obtain ⟨f, rfl⟩ : ∃ g, f = g + 1 := ⟨f - 1, by omega⟩
    have h4 : ents (x :: l) ++ [255] = ent x ++ (ents l ++ [255]) := by simp [ents]
    have h5 := ent_pos x
    rw [h4] at hf ⊢
    rw [par_ent f x _ acc (hl x (by simp)), chk]
    rw [ih f _ (fun y hy => hl y (List.mem_cons_of_mem _ hy)) (by rw [List.length_append] at hf; omega)]
theorem opn_pk {l : Tr.T} (hl : ∀ x ∈ l, x.2.2.length ≤ 1000000) : opn (pk l) = if (pk l).length ≤ 262144 then fin (chk l []) else (none, 64) := by
  have hs : sign.isPrefixOf (pk l) = true := by rw [List.isPrefixOf_iff_prefix]; exact ⟨ents l ++ [255], by simp [pk]⟩
  have hd : (pk l).drop 4 = ents l ++ [255] := by rw [pk, List.append_assoc]; exact drop_app rfl
  split
  · rename_i h
    rw [opn_fin ⟨h, hs⟩, hd, par_ents l _ [] hl (by rw [← hd, List.length_drop]; omega)]
  · rename_i h
    exact opn_bad fun h' => h h'.1
theorem fin_none {c : Int} : fin (none, c) = (none, c) := rfl
theorem fin_of {l : Tr.T} {c : Int} (h : (Tr.of l).1 = none) : fin (some l, c) = (none, 64) := by
  unfold fin
  dsimp only
  generalize Tr.of l = r at h ⊢
  obtain ⟨o, d⟩ := r
  cases h
  rfl
/-- Paths that are one are no archive. -/
theorem twice {a b : Tr.Bytes} (dir other : Bool) (c : Tr.Bytes) (hc : c.length ≤ 10) (ha : a.length ≤ 200) (hb : b.length ≤ 200) (h1 : (Sp.clean a).2 = 0) (h2 : (Sp.clean b).2 = 0) (h : (Sp.clean a).1 = (Sp.clean b).1) : opn (pk [(a, (dir, c)), (b, (other, []))]) = (none, 64) := by
  have hl : ∀ x ∈ [(a, (dir, c)), (b, (other, ([] : Tr.Bytes)))], x.2.2.length ≤ 1000000 := by
    intro x hx
    simp only [List.mem_cons, List.not_mem_nil, or_false] at hx
    rcases hx with rfl | rfl
    · dsimp only; omega
    · simp
  have hlen := ents_len 300 [(a, (dir, c)), (b, (other, ([] : Tr.Bytes)))] (by
    intro x hx
    simp only [List.mem_cons, List.not_mem_nil, or_false] at hx
    rcases hx with rfl | rfl
    · dsimp only; omega
    · simp; omega)
  have hpl := pk_len [(a, (dir, c)), (b, (other, ([] : Tr.Bytes)))]
  simp only [List.length_cons, List.length_nil] at hlen
  rw [opn_pk hl, if_pos (by omega)]
  have ta : a.take 65535 = a := List.take_of_length_le (by omega)
  have tb : b.take 65535 = b := List.take_of_length_le (by omega)
  have n1 : nrm (a, (dir, c)) = (a, dir, if dir then [] else c) := by simp only [nrm, ta]
  have n2 : nrm (b, (other, [])) = (b, other, []) := by simp [nrm, tb]
  have hchk : chk [(a, (dir, c)), (b, (other, []))] [] = (some [(a, dir, if dir then [] else c), (b, other, [])], 0) := by
    simp [chk, n1, n2, h1, h2]
  rw [hchk]
  refine fin_of ?_
  generalize (if dir then [] else c : Tr.Bytes) = c'
  show (Tr.ofF [] [] [(a, dir, c'), (b, other, [])]).1 = none
  have e2 : ∀ m : Tr.T, (Tr.ofF m [(Sp.clean a).1] [(b, other, [])]).1 = none := by
    intro m
    unfold Tr.ofF
    rw [if_neg (by rw [h2]; simp), if_pos (by simp [h])]
  unfold Tr.ofF
  rw [if_neg (by rw [h1]; simp)]
  split
  · rfl
  · split
    · rfl
    · exact e2 _
end Ar
end Go.Proofs.YtmdpmpdlkaogdaaGreatDoor

namespace Go.Proofs.YtmdpmpdlkaogdaaGreatDoor
open Go Go.RowKit Vc
theorem FilesA.two {w : World} {x y : FE} {g : Nat} {f : Nat × Nat} (hg : w.heap[g]? = some (.cells (fcells x ++ fcells y).toArray tF f)) (hx : BytA w x.2.2.1 x.2.2.2) (hy : BytA w y.2.2.1 y.2.2.2) : FilesA w (.slice (some ⟨g, 0, none⟩) 2 2) [x, y] :=
  ⟨⟨_, 2, rfl, Nat.le_refl _, by simp [maxLen], (fun h => by cases h), fun j u hj => ⟨_, rfl, lt_of_obj hg, by rw [add_at]; exact cell_of hg (by simpa using hj)⟩⟩, by
    intro z hz
    simp only [List.mem_cons, List.not_mem_nil, or_false] at hz
    rcases hz with rfl | rfl
    · exact hx
    · exact hy⟩

set_option maxHeartbeats 1000000 in
theorem c_ArchiveTwice (w : World) (a b : List UInt8) (dir other : Bool) :
    Calls P 7 #[.string (S a), .string (S b), .bool dir, .bool other] w fun e w' => e = .returned (.bool true) ∧ Ext none_ w w' := by
  refine enter (l := [_, _, _, _]) (n := 89) Tryz.func7 rfl rfl rfl ?_
  refine W.seq ?_
  refine W.reg <| asg rfl rfl <| L.nil ?_
  refine N.th ?_
  refine W.seq ?_
  refine W.seq ?_
  refine W.reg <| call (vs := []) rfl rfl ok_known13 (c_known13 w) ?_
  rintro e w1 ⟨rfl, hx1⟩
  refine ⟨_, rfl, ?_⟩
  refine notB rfl rfl <| L.nil ?_
  refine N.th ?_
  refine W.condF rfl ?_
  refine W.skip ?_
  refine N.th ?_
  refine W.seq ?_
  refine W.seqM (fun E' w' => ∃ t, E' = [(27, .bool t), (0, .string (S a)), (1, .string (S b)), (2, .bool dir), (3, .bool other)] ∧ w' = w1 ∧ t = !(decide (a.length ≤ 200) && decide (b.length ≤ 200))) ?_ ?_
  · refine W.reg <| mv rfl rfl <| lenS rfl u_str rfl <| gtrI rfl rfl rfl ?_
    by_cases hal : a.length ≤ 200
    case neg =>
      refine Vc.bt (by simp; omega) ?_
      (repeat (first | refine mv rfl rfl ?_ | refine asg rfl rfl ?_ | refine L.off rfl rfl rfl rfl rfl ?_ | refine L.offU rfl rfl rfl rfl ?_ | refine L.on rfl rfl rfl ?_ | refine pickT rfl rfl rfl ?_ | refine pickF rfl rfl rfl ?_ | refine ext rfl rfl rfl ?_ | refine nilc rfl rfl ?_ | refine lenV (t := 46) rfl u_strs rfl ?_ | refine lenV (t := 25) rfl u_bytes rfl ?_ | refine lenV (t := 22) rfl u_files rfl ?_ | refine lenS (t := 9) rfl u_str rfl ?_ | refine eqlI rfl rfl rfl ?_ | refine neqI rfl rfl rfl ?_ | refine lssI rfl rfl rfl ?_ | refine leqI rfl rfl rfl ?_ | refine gtrI rfl rfl rfl ?_ | refine geqI rfl rfl rfl ?_))
      exact L.nil <| N.th (N.meet [(27, .bool true), (0, _), (1, _), (2, _), (3, _)] ⟨rfl, rfl, rfl, rfl, rfl, trivial⟩ ⟨true, rfl, rfl, by simp [hal]⟩)
    refine Vc.bf (by simp; omega) ?_
    (repeat (first | refine mv rfl rfl ?_ | refine asg rfl rfl ?_ | refine L.off rfl rfl rfl rfl rfl ?_ | refine L.offU rfl rfl rfl rfl ?_ | refine L.on rfl rfl rfl ?_ | refine pickT rfl rfl rfl ?_ | refine pickF rfl rfl rfl ?_ | refine ext rfl rfl rfl ?_ | refine nilc rfl rfl ?_ | refine lenV (t := 46) rfl u_strs rfl ?_ | refine lenV (t := 25) rfl u_bytes rfl ?_ | refine lenV (t := 22) rfl u_files rfl ?_ | refine lenS (t := 9) rfl u_str rfl ?_ | refine eqlI rfl rfl rfl ?_ | refine neqI rfl rfl rfl ?_ | refine lssI rfl rfl rfl ?_ | refine leqI rfl rfl rfl ?_ | refine gtrI rfl rfl rfl ?_ | refine geqI rfl rfl rfl ?_))
    by_cases hbl : b.length ≤ 200
    case neg =>
      refine L.nil <| N.th (N.meet [(27, .bool (decide ((200 : Int) < (b.length : Int)))), (0, _), (1, _), (2, _), (3, _)] ⟨rfl, rfl, rfl, rfl, rfl, trivial⟩ ⟨_, rfl, rfl, ?_⟩)
      rw [decide_eq_true (by omega : (200 : Int) < (b.length : Int))]
      simp [hbl]
    refine L.nil <| N.th (N.meet [(27, .bool (decide ((200 : Int) < (b.length : Int)))), (0, _), (1, _), (2, _), (3, _)] ⟨rfl, rfl, rfl, rfl, rfl, trivial⟩ ⟨_, rfl, rfl, ?_⟩)
    rw [decide_eq_false (by omega : ¬ (200 : Int) < (b.length : Int))]
    simp [hal, hbl]
  rintro E' w2 ⟨t, rfl, rfl, ht⟩
  refine W.cond rfl (fun h => ?_) (fun h => ?_)
  · refine W.seq ?_
    refine W.reg <| asg rfl rfl <| L.nil ?_
    refine N.th ?_
    refine W.ret ?_
    refine N.rth ?_
    exact N.ret1 rfl rfl ⟨rfl, hx1⟩   -- RETURN
  obtain ⟨hal, hbl⟩ : a.length ≤ 200 ∧ b.length ≤ 200 := by rw [h] at ht; simpa using ht
  refine W.skip ?_
  refine N.th ?_
  refine W.seq ?_
  refine W.reg <| mv rfl rfl <| mv rfl rfl <| bld (vs := #[(0, .string (S a)), (1, .bool dir)]) (v := .agg (fcells (a, dir, .slice none 0 0, [])).toArray) rfl rfl (fun _ => by kernel_rfl) <| mv rfl rfl <| mv rfl rfl <| bld (vs := #[(0, .string (S b)), (1, .bool other)]) (v := .agg (fcells (b, other, .slice none 0 0, [])).toArray) rfl rfl (fun _ => by kernel_rfl) <|
    bls (vs := #[(0, .agg (fcells (a, dir, .slice none 0 0, [])).toArray), (1, .agg (fcells (b, other, .slice none 0 0, [])).toArray)]) (cs := (fcells (a, dir, .slice none 0 0, []) ++ fcells (b, other, .slice none 0 0, [])).toArray) (e := tF) rfl rfl (fun _ => by kernel_rfl) ?_
  have hx12 : Ext none_ w2 (w2.alloc (.cells (fcells (a, dir, .slice none 0 0, []) ++ fcells (b, other, .slice none 0 0, [])).toArray tF)) := Ext.alloc _ _ _
  have hg2 := heap_new w2 (.cells (fcells (a, dir, .slice none 0 0, []) ++ fcells (b, other, .slice none 0 0, [])).toArray tF)
  have hgs : w.heap.size ≤ w2.heap.size := hx1.size
  generalize w2.alloc _ = w3 at hx12 hg2 ⊢
  generalize w2.heap.size = g at hg2 hgs ⊢
  have hx03 := hx1.trans hx12
  refine asg rfl rfl <| L.nil ?_
  refine N.th ?_
  refine W.seqM (fun E' w' => ∃ bv c f, E' = [(9, .slice (some ⟨g, 0, none⟩) 2 2), (0, .string (S a)), (1, .string (S b))] ∧ w'.heap[g]? = some (.cells (fcells (a, dir, bv, c) ++ fcells (b, other, .slice none 0 0, [])).toArray tF f) ∧ BytA w' bv c ∧ c.length ≤ 10 ∧ Ext none_ w w') ?_ ?_
  · refine W.seq ?_
    refine W.reg <| mv rfl rfl <| notB rfl rfl <| L.nil ?_
    refine N.th ?_
    refine W.cond rfl (fun h => ?_) (fun h => ?_)
    · refine W.reg <| mv rfl rfl <| bls (vs := #[(0, .int .u8 49)]) (cs := #[.int .u8 49]) (e := tB) rfl rfl (fun _ => by kernel_rfl) <| cvtBB rfl u_bytes u_u8 rfl (heap_new _ _) trivial fun w4 hg4 hx4 => ⟨trivial, ?_⟩
      have hl3 := lt_of_obj hg2
      have hx34 : Ext none_ w3 w4 := (Ext.alloc none_ _ _).trans' hx4 fun i hi e => by omega
      have hg24 := hx34.obj hg2 id
      have hb4 : BytA w4 (.slice (some ⟨w3.heap.size, 0, none⟩) 1 1) [49] := lit_arg (l := [49]) hg4 (by simp)
      refine ixa rfl rfl u_files sz_File rfl (by decide) (by decide) <| fad rfl fl_File_2 rfl <| st1 rfl rfl sz_bytes rfl hg24 rfl <| L.nil ?_
      have hx45 : Ext (fun k => k = g) w4 (w4.setCell ⟨g, 0 + Int.toNat 0 * 3 + 2, none⟩ (.slice (some ⟨w3.heap.size, 0, none⟩) 1 1)) := Ext.setCell (S := fun k => k = g) _ (fun _ => rfl) _
      have hg5 := setCell_heap (i := 0 + Int.toNat 0 * 3 + 2) hg24 (.slice (some ⟨w3.heap.size, 0, none⟩) 1 1)
      refine N.th (N.meet [(9, _), (0, _), (1, _)] ⟨rfl, rfl, rfl, trivial⟩ ⟨.slice (some ⟨w3.heap.size, 0, none⟩) 1 1, [49], (0, 0), rfl, by rw [hg5]; rfl, ?_, by simp, (hx03.trans hx34).trans' hx45 fun i hi e => by omega⟩)
      exact hb4.off hg24 (by
        intro u hu κ i e
        subst e
        simp [fcells] at hu) hx45
    · refine W.skip ?_
      exact N.th (N.meet [(9, _), (0, _), (1, _)] ⟨rfl, rfl, rfl, trivial⟩ ⟨_, [], _, rfl, hg2, (Row.nil w3 tB 1).arg, by simp, hx03⟩)
  rintro E' w4 ⟨bv, c, f, rfl, hg4, hb4, hcl, hx04⟩
  have hF4 := FilesA.two hg4 hb4 (Row.nil w4 tB 1).arg
  obtain ⟨T, hT⟩ : ∃ T : Tr.T, T = [(a, (dir, c)), (b, (other, []))] := ⟨_, rfl⟩
  have hfT : fm [(a, dir, bv, c), (b, other, .slice none 0 0, [])] = T := by rw [hT]; rfl
  have hents := Ar.ents_len 300 T (by
    intro x hx
    rw [hT] at hx
    simp only [List.mem_cons, List.not_mem_nil, or_false] at hx
    rcases hx with rfl | rfl
    · dsimp only; omega
    · simp; omega)
  have hTl : T.length = 2 := by rw [hT]; rfl
  rw [hTl] at hents
  have hpl := Ar.pk_len T
  have hlim : ∀ x ∈ ([(a, dir, bv, c), (b, other, .slice none 0 0, [])] : List FE), x.1.length ≤ 100000 ∧ x.2.2.2.length ≤ 100000 := by
    intro x hx
    simp only [List.mem_cons, List.not_mem_nil, or_false] at hx
    rcases hx with rfl | rfl
    · dsimp only; omega
    · simp; omega
  have hP : ∀ {w' : World}, Ext none_ w4 w' → Calls P 19 #[.slice (some ⟨g, 0, none⟩) 2 2] w' fun e w'' => ∃ v', e = .returned v' ∧ Byts w'.heap.size w'' v' (Ar.pk T) ∧ Ext none_ w' w'' := fun hx => by
    have := c_RPack (hF4.ext0 hx) (by simp) (by rw [hfT]; omega) hlim
    rwa [hfT] at this
  refine W.seq ?_
  refine W.reg <| mv rfl rfl <| call (vs := [_]) rfl rfl ok_RPack (hP (Ext.refl _ _)) ?_
  rintro e w5 ⟨v5, rfl, hp5, hx5⟩
  refine ⟨_, rfl, ?_⟩
  refine call (vs := [_]) rfl rfl ok_AOpen (b_AOpen (Row.own hp5).arg (by omega)) ?_
  rintro e w6 ⟨v6, E6, rfl, hF6, hE6, hl6, hx6⟩
  refine ⟨_, rfl, ?_⟩
  refine mv rfl rfl <| ext rfl rfl rfl <| ext (v := .int .i64 (Ar.opc (Ar.opn (Ar.pk T)))) rfl rfl rfl <| asg rfl rfl <| asg rfl rfl <| L.nil ?_
  refine N.th ?_
  refine W.seq ?_
  refine W.reg <| mv rfl rfl <| call (vs := [_]) rfl rfl ok_RPack (hP (hx5.trans hx6)) ?_
  rintro e w7 ⟨v7, rfl, hp7, hx7⟩
  refine ⟨_, rfl, ?_⟩
  refine call (vs := [_]) rfl rfl ok_ROpen (b_ROpen (Row.own hp7).arg (by omega)) ?_
  rintro e w8 ⟨v8, E8, rfl, hF8, hE8, hl8, hx8⟩
  refine ⟨_, rfl, ?_⟩
  refine mv rfl rfl <| ext rfl rfl rfl <| ext (v := .int .i64 (Ar.opc (Ar.opn (Ar.pk T)))) rfl rfl rfl <| asg rfl rfl <| asg rfl rfl <| L.nil ?_
  refine N.th ?_
  refine W.seq ?_
  refine W.reg <| mv rfl rfl <| call (vs := [_]) rfl rfl ok_RClean (c_RClean a w8) ?_
  rintro e w9 ⟨rfl, hx9⟩
  refine ⟨_, rfl, ?_⟩
  refine mv rfl rfl <| ext (v := .string (S (Sp.clean a).1)) rfl rfl rfl <| ext (v := .int .i64 (Sp.clean a).2) rfl rfl rfl <| asg rfl rfl <| asg rfl rfl <| L.nil ?_
  refine N.th ?_
  refine W.seq ?_
  refine W.reg <| mv rfl rfl <| call (vs := [_]) rfl rfl ok_RClean (c_RClean b w9) ?_
  rintro e w10 ⟨rfl, hx10⟩
  refine ⟨_, rfl, ?_⟩
  refine mv rfl rfl <| ext (v := .string (S (Sp.clean b).1)) rfl rfl rfl <| ext (v := .int .i64 (Sp.clean b).2) rfl rfl rfl <| asg rfl rfl <| asg rfl rfl <| L.nil ?_
  refine N.th ?_
  refine W.seq ?_
  refine W.reg <| mv rfl rfl <| mv rfl rfl <| eqlI rfl rfl rfl <| Vc.bt (by simp) ?_
  (repeat (first | refine mv rfl rfl ?_ | refine asg rfl rfl ?_ | refine L.off rfl rfl rfl rfl rfl ?_ | refine L.offU rfl rfl rfl rfl ?_ | refine L.on rfl rfl rfl ?_ | refine pickT rfl rfl rfl ?_ | refine pickF rfl rfl rfl ?_ | refine ext rfl rfl rfl ?_ | refine nilc rfl rfl ?_ | refine lenV (t := 46) rfl u_strs rfl ?_ | refine lenV (t := 25) rfl u_bytes rfl ?_ | refine lenV (t := 22) rfl u_files rfl ?_ | refine lenS (t := 9) rfl u_str rfl ?_ | refine eqlI rfl rfl rfl ?_ | refine neqI rfl rfl rfl ?_ | refine lssI rfl rfl rfl ?_ | refine leqI rfl rfl rfl ?_ | refine gtrI rfl rfl rfl ?_ | refine geqI rfl rfl rfl ?_))
  have hx610 := (hx7.trans hx8).trans (hx9.trans hx10)
  refine call (vs := [_, _]) rfl rfl ok_HFiles (c_HFiles (hF6.ext0 hx610) (hF8.ext0 (hx9.trans hx10)) (by omega) (by omega)) ?_
  rintro e w11 ⟨rfl, hx11⟩
  refine ⟨_, rfl, ?_⟩
  rw [same_files hE6 hE8]
  have hend : Ext none_ w w11 := ((((hx04.trans hx5).trans hx6).trans hx610).trans hx11)
  (repeat (first | refine mv rfl rfl ?_ | refine asg rfl rfl ?_ | refine L.off rfl rfl rfl rfl rfl ?_ | refine L.offU rfl rfl rfl rfl ?_ | refine L.on rfl rfl rfl ?_ | refine pickT rfl rfl rfl ?_ | refine pickF rfl rfl rfl ?_ | refine ext rfl rfl rfl ?_ | refine nilc rfl rfl ?_ | refine lenV (t := 46) rfl u_strs rfl ?_ | refine lenV (t := 25) rfl u_bytes rfl ?_ | refine lenV (t := 22) rfl u_files rfl ?_ | refine lenS (t := 9) rfl u_str rfl ?_ | refine eqlI rfl rfl rfl ?_ | refine neqI rfl rfl rfl ?_ | refine lssI rfl rfl rfl ?_ | refine leqI rfl rfl rfl ?_ | refine gtrI rfl rfl rfl ?_ | refine geqI rfl rfl rfl ?_))
  by_cases h1 : (Sp.clean a).2 = 0
  case neg =>
    refine Vc.bt (by simp [h1]) ?_
    (repeat (first | refine mv rfl rfl ?_ | refine asg rfl rfl ?_ | refine L.off rfl rfl rfl rfl rfl ?_ | refine L.offU rfl rfl rfl rfl ?_ | refine L.on rfl rfl rfl ?_ | refine pickT rfl rfl rfl ?_ | refine pickF rfl rfl rfl ?_ | refine ext rfl rfl rfl ?_ | refine nilc rfl rfl ?_ | refine lenV (t := 46) rfl u_strs rfl ?_ | refine lenV (t := 25) rfl u_bytes rfl ?_ | refine lenV (t := 22) rfl u_files rfl ?_ | refine lenS (t := 9) rfl u_str rfl ?_ | refine eqlI rfl rfl rfl ?_ | refine neqI rfl rfl rfl ?_ | refine lssI rfl rfl rfl ?_ | refine leqI rfl rfl rfl ?_ | refine gtrI rfl rfl rfl ?_ | refine geqI rfl rfl rfl ?_))
    refine L.nil ?_
    refine N.th ?_
    refine W.ret ?_
    exact N.ret1 rfl rfl ⟨rfl, hend⟩   -- RETURN
  refine Vc.bf (by simp [h1]) ?_
  (repeat (first | refine mv rfl rfl ?_ | refine asg rfl rfl ?_ | refine L.off rfl rfl rfl rfl rfl ?_ | refine L.offU rfl rfl rfl rfl ?_ | refine L.on rfl rfl rfl ?_ | refine pickT rfl rfl rfl ?_ | refine pickF rfl rfl rfl ?_ | refine ext rfl rfl rfl ?_ | refine nilc rfl rfl ?_ | refine lenV (t := 46) rfl u_strs rfl ?_ | refine lenV (t := 25) rfl u_bytes rfl ?_ | refine lenV (t := 22) rfl u_files rfl ?_ | refine lenS (t := 9) rfl u_str rfl ?_ | refine eqlI rfl rfl rfl ?_ | refine neqI rfl rfl rfl ?_ | refine lssI rfl rfl rfl ?_ | refine leqI rfl rfl rfl ?_ | refine gtrI rfl rfl rfl ?_ | refine geqI rfl rfl rfl ?_))
  by_cases h2 : (Sp.clean b).2 = 0
  case neg =>
    refine Vc.bt (by simp [h2]) ?_
    (repeat (first | refine mv rfl rfl ?_ | refine asg rfl rfl ?_ | refine L.off rfl rfl rfl rfl rfl ?_ | refine L.offU rfl rfl rfl rfl ?_ | refine L.on rfl rfl rfl ?_ | refine pickT rfl rfl rfl ?_ | refine pickF rfl rfl rfl ?_ | refine ext rfl rfl rfl ?_ | refine nilc rfl rfl ?_ | refine lenV (t := 46) rfl u_strs rfl ?_ | refine lenV (t := 25) rfl u_bytes rfl ?_ | refine lenV (t := 22) rfl u_files rfl ?_ | refine lenS (t := 9) rfl u_str rfl ?_ | refine eqlI rfl rfl rfl ?_ | refine neqI rfl rfl rfl ?_ | refine lssI rfl rfl rfl ?_ | refine leqI rfl rfl rfl ?_ | refine gtrI rfl rfl rfl ?_ | refine geqI rfl rfl rfl ?_))
    refine L.nil ?_
    refine N.th ?_
    refine W.ret ?_
    exact N.ret1 rfl rfl ⟨rfl, hend⟩   -- RETURN
  refine Vc.bf (by simp [h2]) ?_
  (repeat (first | refine mv rfl rfl ?_ | refine asg rfl rfl ?_ | refine L.off rfl rfl rfl rfl rfl ?_ | refine L.offU rfl rfl rfl rfl ?_ | refine L.on rfl rfl rfl ?_ | refine pickT rfl rfl rfl ?_ | refine pickF rfl rfl rfl ?_ | refine ext rfl rfl rfl ?_ | refine nilc rfl rfl ?_ | refine lenV (t := 46) rfl u_strs rfl ?_ | refine lenV (t := 25) rfl u_bytes rfl ?_ | refine lenV (t := 22) rfl u_files rfl ?_ | refine lenS (t := 9) rfl u_str rfl ?_ | refine eqlI rfl rfl rfl ?_ | refine neqI rfl rfl rfl ?_ | refine lssI rfl rfl rfl ?_ | refine leqI rfl rfl rfl ?_ | refine gtrI rfl rfl rfl ?_ | refine geqI rfl rfl rfl ?_))
  refine neqS rfl rfl rfl ?_
  by_cases h3 : (Sp.clean a).1 = (Sp.clean b).1
  case neg =>
    refine Vc.bt (by simp [h3]) ?_
    (repeat (first | refine mv rfl rfl ?_ | refine asg rfl rfl ?_ | refine L.off rfl rfl rfl rfl rfl ?_ | refine L.offU rfl rfl rfl rfl ?_ | refine L.on rfl rfl rfl ?_ | refine pickT rfl rfl rfl ?_ | refine pickF rfl rfl rfl ?_ | refine ext rfl rfl rfl ?_ | refine nilc rfl rfl ?_ | refine lenV (t := 46) rfl u_strs rfl ?_ | refine lenV (t := 25) rfl u_bytes rfl ?_ | refine lenV (t := 22) rfl u_files rfl ?_ | refine lenS (t := 9) rfl u_str rfl ?_ | refine eqlI rfl rfl rfl ?_ | refine neqI rfl rfl rfl ?_ | refine lssI rfl rfl rfl ?_ | refine leqI rfl rfl rfl ?_ | refine gtrI rfl rfl rfl ?_ | refine geqI rfl rfl rfl ?_))
    refine L.nil ?_
    refine N.th ?_
    refine W.ret ?_
    exact N.ret1 rfl rfl ⟨rfl, hend⟩   -- RETURN
  refine Vc.bf (by simp [h3]) ?_
  (repeat (first | refine mv rfl rfl ?_ | refine asg rfl rfl ?_ | refine L.off rfl rfl rfl rfl rfl ?_ | refine L.offU rfl rfl rfl rfl ?_ | refine L.on rfl rfl rfl ?_ | refine pickT rfl rfl rfl ?_ | refine pickF rfl rfl rfl ?_ | refine ext rfl rfl rfl ?_ | refine nilc rfl rfl ?_ | refine lenV (t := 46) rfl u_strs rfl ?_ | refine lenV (t := 25) rfl u_bytes rfl ?_ | refine lenV (t := 22) rfl u_files rfl ?_ | refine lenS (t := 9) rfl u_str rfl ?_ | refine eqlI rfl rfl rfl ?_ | refine neqI rfl rfl rfl ?_ | refine lssI rfl rfl rfl ?_ | refine leqI rfl rfl rfl ?_ | refine gtrI rfl rfl rfl ?_ | refine geqI rfl rfl rfl ?_))
  have hopn : Ar.opc (Ar.opn (Ar.pk T)) = 64 := by rw [hT, Ar.twice dir other c hcl hal hbl h1 h2 h3]; rfl
  refine Vc.bt (by simp [hopn]) ?_
  (repeat (first | refine mv rfl rfl ?_ | refine asg rfl rfl ?_ | refine L.off rfl rfl rfl rfl rfl ?_ | refine L.offU rfl rfl rfl rfl ?_ | refine L.on rfl rfl rfl ?_ | refine pickT rfl rfl rfl ?_ | refine pickF rfl rfl rfl ?_ | refine ext rfl rfl rfl ?_ | refine nilc rfl rfl ?_ | refine lenV (t := 46) rfl u_strs rfl ?_ | refine lenV (t := 25) rfl u_bytes rfl ?_ | refine lenV (t := 22) rfl u_files rfl ?_ | refine lenS (t := 9) rfl u_str rfl ?_ | refine eqlI rfl rfl rfl ?_ | refine neqI rfl rfl rfl ?_ | refine lssI rfl rfl rfl ?_ | refine leqI rfl rfl rfl ?_ | refine gtrI rfl rfl rfl ?_ | refine geqI rfl rfl rfl ?_))
  refine L.nil ?_
  refine N.th ?_
  refine W.ret ?_
  exact N.ret1 rfl rfl ⟨rfl, hend⟩   -- RETURN
end Go.Proofs.YtmdpmpdlkaogdaaGreatDoor

namespace Go.Proofs.YtmdpmpdlkaogdaaGreatDoor
namespace Ar
/-- The paths that lead out. -/
def esc : Nat → List UInt8
  | 0 => [46, 46, 47, 120]
  | 1 => [47, 120]
  | 2 => [97, 47, 46, 46, 47, 46, 46, 47, 120]
  | 3 => [46, 46]
  | _ => [97, 47, 46, 46, 47, 46, 46]
def fl (j : Nat) : Tr.Bytes × Tr.Nd := ([102, UInt8.ofNat (97 + j)], (false, [120, 121, 122]))
def escF (k i p : Nat) : Tr.T := (List.range k).map fun j => if j = i then (esc p, (false, [120, 121, 122])) else fl j
theorem esc_all : ((List.range 6).all fun k => (List.range (k + 1)).all fun i => (List.range 5).all fun p => (opc (opn (pk (escF (k + 1) i p))) == 51) && decide ((ents (escF (k + 1) i p)).length ≤ 1000)) = true := by kernel_rfl
theorem esc_one {k i p : Nat} (hk : k < 6) (hi : i < k + 1) (hp : p < 5) : opc (opn (pk (escF (k + 1) i p))) = 51 ∧ (ents (escF (k + 1) i p)).length ≤ 1000 := by
  have h1 := List.all_eq_true.1 esc_all k (List.mem_range.2 hk)
  have h2 := List.all_eq_true.1 h1 i (List.mem_range.2 hi)
  have h3 := List.all_eq_true.1 h2 p (List.mem_range.2 hp)
  simpa using h3
end Ar
open Go Go.RowKit Vc
theorem flat_set (s : Value) (p : List UInt8) (hs : s = .string (S p)) : ∀ (K : List FE) (i : Nat) (x : FE), K[i]? = some x → (K.flatMap fcells).set (i * 3) s = (K.set i (p, x.2)).flatMap fcells := by
  intro K
  induction K with
  | nil => intro i x h; cases h
  | cons y K ih =>
    intro i x h
    cases i with
    | zero => cases h; subst hs; rfl
    | succ i =>
      have := ih i x h
      rw [List.set_cons_succ, List.flatMap_cons, List.flatMap_cons, ← this, Nat.add_mul, Nat.one_mul]
      rfl
theorem own_setF {w : World} {B g cap i : Nat} {K : List FE} {x : FE} (h : w.ownsRow B tF 3 (.slice (some ⟨g, 0, none⟩) K.length cap) K.length (K.flatMap fcells)) (hi : K[i]? = some x) (p : List UInt8) :
    (w.setCell ⟨g, i * 3, none⟩ (.string (S p))).ownsRow B tF 3 (.slice (some ⟨g, 0, none⟩) K.length cap) K.length ((K.set i (p, x.2)).flatMap fcells) ∧ ∃ cur, w.heap[g]? = some (.cells cur tF (0, 0)) ∧ cur[i * 3]? = some (.string (S x.1)) := by
  have hlt := (List.getElem?_eq_some_iff.1 hi).1
  rcases h.2 with ⟨e, h0⟩ | ⟨g', cap', cur, e, hg, hcur, hn, hcm, hcs, htk⟩
  · cases e
  · cases e
    refine ⟨⟨by rw [← flat_set _ p rfl K i x hi, List.length_set]; exact h.1, .inr ⟨g, cap, cur.setIfInBounds (i * 3) (.string (S p)), rfl, hg, setCell_heap hcur _, hn, hcm, by simpa using hcs, ?_⟩⟩, cur, hcur, ?_⟩
    · rw [Array.toList_setIfInBounds, List.take_set, htk, flat_set _ p rfl K i x hi]
    · have h1 : (cur.toList.take (K.length * 3))[i * 3]? = (K.flatMap fcells)[i * 3]? := by rw [htk]
      rw [List.getElem?_take, if_pos (by omega), Array.getElem?_toList] at h1
      rw [h1, flat_get fcells 3 fcells_len (by decide), show i * 3 / 3 = i by omega, show i * 3 % 3 = 0 by omega, hi]
      rfl
/-- A file whose bytes are a text of three. -/
def LitF (w : World) (y : FE) : Prop := ∃ g f, y.2.2.1 = .slice (some ⟨g, 0, none⟩) 3 3 ∧ y.2.2.2 = [120, 121, 122] ∧ w.heap[g]? = some (.cells (encB [120, 121, 122]).toArray tB f)
theorem LitF.arg {w : World} {y : FE} (h : LitF w y) : BytA w y.2.2.1 y.2.2.2 := by
  obtain ⟨g, f, h1, h2, h3⟩ := h
  rw [h1, h2]
  exact lit_arg (l := [120, 121, 122]) h3 (by simp)
theorem LitF.ext {T : Nat → Prop} {w w' : World} {y : FE} (h : LitF w y) (hx : Ext T w w') (hT : ∀ k, T k → ∀ c f, w.heap[k]? ≠ some (.cells c tB f)) : LitF w' y := by
  obtain ⟨g, f, h1, h2, h3⟩ := h
  exact ⟨g, f, h1, h2, hx.obj h3 fun e => hT g e _ _ h3⟩

set_option maxHeartbeats 1000000 in
theorem c_ArchiveEscapes (w : World) (n at_ p cut : UInt8) :
    Calls P 6 #[.int .u8 n.toNat, .int .u8 at_.toNat, .int .u8 p.toNat, .int .u8 cut.toNat] w fun e w' => e = .returned (.bool true) ∧ Ext none_ w w' := by
  refine enter (l := [_, _, _, _]) (n := 91) Tryz.func6 rfl rfl rfl ?_
  refine W.seq ?_
  refine W.reg <| asg rfl rfl <| L.nil ?_
  refine N.th ?_
  refine W.seq ?_
  refine W.seq ?_
  refine W.reg <| call (vs := []) rfl rfl ok_known13 (c_known13 w) ?_
  rintro e w1 ⟨rfl, hx1⟩
  refine ⟨_, rfl, ?_⟩
  refine notB rfl rfl <| L.nil ?_
  refine N.th ?_
  refine W.condF rfl ?_
  refine W.skip ?_
  refine N.th ?_
  refine W.seq ?_
  obtain ⟨k, hk⟩ : ∃ k, k = n.toNat % 6 := ⟨_, rfl⟩
  have hk6 : k < 6 := by omega
  refine W.reg <| mv rfl rfl <| remI (c := ((n.toNat % 6 : Nat) : Int)) rfl rfl rfl (by decide) rfl <| cvtI (c := (k : Int)) rfl u_int u_u8 rfl (by rw [w64 (by omega) (by omega), hk]) <| addI (c := ((k + 1 : Nat) : Int)) rfl rfl rfl (by rw [w64 (by omega) (by omega)]; simp) <| asg rfl rfl <| L.nil ?_
  refine N.th ?_
  refine W.seq ?_
  refine W.reg <| asg rfl rfl <| L.nil ?_
  refine N.th ?_
  refine W.seq ?_
  refine W.seq ?_
  refine W.reg <| asg rfl rfl <| L.nil ?_
  refine N.th ?_
  refine W.block ?_
  refine W.loop (X := Nat × List FE × Value) (fun x => [(11, .int .i64 x.1), (10, x.2.2), (9, .int .i64 ((k + 1 : Nat) : Int)), (1, .int .u8 at_.toNat), (2, .int .u8 p.toNat), (3, .int .u8 cut.toNat)])
    (fun x w' => x.1 ≤ k + 1 ∧ x.2.1.length = x.1 ∧ w'.ownsRow w.heap.size tF 3 x.2.2 x.2.1.length (x.2.1.flatMap fcells) ∧ fm x.2.1 = (List.range x.1).map Ar.fl ∧ (∀ y ∈ x.2.1, LitF w' y) ∧ Ext none_ w w') (fun x => k + 1 - x.1) (0, [], .slice none 0 0) ⟨rfl, rfl, rfl, rfl, rfl, rfl, trivial⟩
    ⟨by simp, rfl, own_nil _ _ _ _, rfl, by simp, hx1⟩ ?_
  rintro ⟨i, K, v2⟩ w2 ⟨hi, hKl, hown, hK, hlit, hx2⟩
  dsimp only at hi hKl hown hK hlit ⊢
  refine W.seq ?_
  refine W.seq ?_
  refine W.reg <| mv rfl rfl <| mv rfl rfl <| lssI rfl rfl rfl <| L.nil ?_
  refine N.th ?_
  refine W.cond rfl (fun h => ?_) (fun h => ?_)
  · have hi1 : i < k + 1 := by have := of_decide_eq_true h; omega
    refine W.skip ?_
    refine N.th ?_
    refine W.seq ?_
    refine W.block ?_
    obtain ⟨c, hc⟩ : ∃ c : UInt8, c = UInt8.ofNat (97 + i) := ⟨_, rfl⟩
    have hcn : c.toNat = 97 + i := by rw [hc]; simp; omega
    refine W.reg <| mv rfl rfl <| mv rfl rfl <| addI (c := ((97 + i : Nat) : Int)) rfl rfl rfl (by rw [w64 (by omega) (by omega)]; simp) <| cvtI (c := (c.toNat : Int)) rfl u_u8 u_int rfl (by rw [wu8 (by omega) (by omega), hcn]) <|
      bls (vs := #[(0, .int .u8 (c.toNat : Int))]) (cs := #[.int .u8 (c.toNat : Int)]) (e := tB) rfl rfl (fun _ => by kernel_rfl) ?_
    have hx3 : Ext none_ w2 (w2.alloc (.cells #[.int .u8 (c.toNat : Int)] tB)) := Ext.alloc _ _ _
    have hg3 := heap_new w2 (.cells #[.int .u8 (c.toNat : Int)] tB)
    generalize w2.alloc _ = w3 at hx3 hg3 ⊢
    have hb3 : BytA w3 (.slice (some ⟨w2.heap.size, 0, none⟩) 1 1) [c] := lit_arg (l := [c]) hg3 (by simp)
    refine cvtBA (a := [c]) rfl u_bytes u_u8 u_str rfl (Kn.here hb3) <| addS (a := [102]) (b := [c]) rfl rfl rfl (by simp) <|
      bls (vs := #[(0, .int .u8 120), (1, .int .u8 121), (2, .int .u8 122)]) (cs := #[.int .u8 120, .int .u8 121, .int .u8 122]) (e := tB) rfl rfl (fun _ => by kernel_rfl) <| cvtBB rfl u_bytes u_u8 rfl (heap_new _ _) trivial fun w4 hg4 hx4 => ⟨trivial, ?_⟩
    have hx34 : Ext none_ w3 w4 := (Ext.alloc none_ _ _).trans' hx4 fun i hi e => by omega
    have hx24 := hx3.trans hx34
    obtain ⟨y, hy⟩ : ∃ y : FE, y = ([102] ++ [c], false, .slice (some ⟨w3.heap.size, 0, none⟩) 3 3, [120, 121, 122]) := ⟨_, rfl⟩
    have hly : LitF w4 y := by rw [hy]; exact ⟨_, _, rfl, rfl, hg4⟩
    obtain ⟨hp1, hp2⟩ := fbuildS (x := y) (by rw [hy]; exact ⟨_, _, _, rfl⟩)
    refine bld (vs := #[(0, .string (S ([102] ++ [c]))), (2, .slice (some ⟨w3.heap.size, 0, none⟩) 3 3)]) (v := .agg (fcells y).toArray) rfl rfl (fun _ => by rw [hy]; kernel_rfl) <|
      push1 (cs := (fcells y).toArray) rfl rfl rfl rfl hp1 el_files rfl hp2 (own_ext hown hx24 fun _ _ => id) (by omega) (by simp only [maxLen]; omega) (hx2.trans hx24).size fun v5 w5 hown5 hx5 => ?_
    refine asg rfl rfl <| L.nil ?_
    refine N.inb ?_
    refine N.th ?_
    have hown4 := own_ext hown hx24 fun _ _ => id
    have hkd : ∀ g, v2.ownBlock = some g → ∀ c f, w4.heap[g]? ≠ some (.cells c tB f) := fun g hg c f h1 => by
      obtain ⟨c2, f2, h2⟩ := own_kind hown4 g hg
      rw [h1] at h2; cases h2
    refine W.reg <| mv rfl rfl <| addI (c := ((i + 1 : Nat) : Int)) rfl rfl rfl (by rw [w64 (by omega) (by omega)]; simp) <| asg rfl rfl <| L.nil ?_
    refine N.th (N.round (x := (i + 1, K ++ [y], v5)) ⟨rfl, rfl, rfl, rfl, rfl, rfl, trivial⟩ ⟨by dsimp only; omega, by simp [hKl], ?_, ?_, ?_, (hx2.trans hx24).own hown4 hx5⟩ (by dsimp only; omega))   -- ROUND
    · dsimp only
      rw [fcells_snoc, List.length_append]; exact hown5
    · dsimp only
      rw [List.range_succ, List.map_append, ← hK]
      simp [fm, hy, Ar.fl, fnd, hc]
    · intro z hz
      rcases List.mem_append.1 hz with hz | hz
      · exact ((hlit z hz).ext hx24 fun _ h => h.elim).ext hx5 hkd
      · simp at hz
        rw [hz]; exact hly.ext hx5 hkd
  · have hik : i = k + 1 := by have := of_decide_eq_false h; omega
    subst hik
    refine W.exit ?_
    refine N.xth ?_
    refine N.xth ?_
    refine N.xeq ?_
    refine N.th ?_
    refine W.seq ?_
    obtain ⟨j, hj⟩ : ∃ j, j = at_.toNat % (k + 1) := ⟨_, rfl⟩
    have hjk : j < k + 1 := by rw [hj]; exact Nat.mod_lt _ (by omega)
    have hat := at_.toNat_lt
    refine W.reg <| mv rfl rfl <| cvtI (c := (at_.toNat : Int)) rfl u_int u_u8 rfl (w64 (by omega) (by omega)) <| mv rfl rfl <| remI (c := (j : Int)) rfl rfl rfl (by omega) (by rw [hj]; rfl) <| asg rfl rfl <| L.nil ?_
    refine N.th ?_
    refine W.seq ?_
    obtain ⟨q, hq⟩ : ∃ q, q = p.toNat % 5 := ⟨_, rfl⟩
    have hq5 : q < 5 := by omega
    refine W.reg <| mv rfl rfl <| mv rfl rfl <| bls (vs := #[(0, .string (S [46, 46, 47, 120])), (1, .string (S [47, 120])), (2, .string (S [97, 47, 46, 46, 47, 46, 46, 47, 120])), (3, .string (S [46, 46])), (4, .string (S [97, 47, 46, 46, 47, 46, 46]))]) (cs := #[.string (S [46, 46, 47, 120]), .string (S [47, 120]), .string (S [97, 47, 46, 46, 47, 46, 46, 47, 120]), .string (S [46, 46]), .string (S [97, 47, 46, 46, 47, 46, 46])]) (e := 9) rfl rfl (fun _ => by kernel_rfl) ?_
    have hx3 : Ext none_ w2 (w2.alloc (.cells #[.string (S [46, 46, 47, 120]), .string (S [47, 120]), .string (S [97, 47, 46, 46, 47, 46, 46, 47, 120]), .string (S [46, 46]), .string (S [97, 47, 46, 46, 47, 46, 46])] 9)) := Ext.alloc _ _ _
    have hg3 := heap_new w2 (.cells #[.string (S [46, 46, 47, 120]), .string (S [47, 120]), .string (S [97, 47, 46, 46, 47, 46, 46, 47, 120]), .string (S [46, 46]), .string (S [97, 47, 46, 46, 47, 46, 46])] 9)
    generalize w2.alloc _ = w3 at hx3 hg3 ⊢
    have hcell : w3.cell? ⟨w2.heap.size, 0 + q * 1, none⟩ = some (.string (S (Ar.esc q))) := by
      refine cell_of hg3 ?_
      match q, hq5 with
      | 0, _ => rfl
      | 1, _ => rfl
      | 2, _ => rfl
      | 3, _ => rfl
      | 4, _ => rfl
    have hown3 := own_ext hown hx3 fun _ _ => id
    obtain ⟨x, hxe⟩ : ∃ x, K[j]? = some x := ⟨_, List.getElem?_eq_getElem (by omega)⟩
    obtain ⟨g, cap, rfl, hgw⟩ : ∃ g cap, v2 = .slice (some ⟨g, 0, none⟩) K.length cap ∧ w.heap.size ≤ g := by
      rcases hown3.2 with ⟨-, h0⟩ | ⟨g, cap, cur, rfl, hg, -⟩
      · omega
      · exact ⟨g, cap, rfl, hg⟩
    obtain ⟨hown4, cur, hcur, hcj⟩ := own_setF hown3 hxe (Ar.esc q)
    refine mv rfl rfl <| remI (c := (q : Int)) rfl rfl rfl (by decide) (by rw [hq]; rfl) <| ixa rfl rfl u_strs sz_str rfl (by omega) (by omega) <| ld1 rfl ag_str rfl hcell <|
      ixa rfl rfl u_files sz_File rfl (by omega) (by omega) <| fad rfl fl_File_0 rfl <| st1 rfl rfl sz_str rfl hcur (by rw [Int.toNat_natCast, Nat.zero_add, Nat.add_zero]; exact hcj) <| L.nil ?_
    refine N.th ?_
    rw [show 0 + Int.toNat (j : Int) * 3 + 0 = j * 3 by omega]
    have hx34 : Ext (fun b => b = g) w3 (w3.setCell ⟨g, j * 3, none⟩ (.string (S (Ar.esc q)))) := Ext.setCell (S := fun b => b = g) _ (fun _ => rfl) _
    generalize w3.setCell _ _ = w4 at hown4 hx34 ⊢
    have hlit4 : ∀ y ∈ K.set j (Ar.esc q, x.2), LitF w4 y := by
      intro y hy
      have hl : ∀ z ∈ K, LitF w4 z := fun z hz => ((hlit z hz).ext hx3 fun _ h => h.elim).ext hx34 fun b hb c f h1 => by
        rw [hb, hcur] at h1; cases h1
      rcases List.mem_or_eq_of_mem_set hy with h1 | h1
      · exact hl y h1
      · rw [h1]
        obtain ⟨g', f', e1, e2, e3⟩ := hl x (List.mem_of_getElem? hxe)
        exact ⟨g', f', e1, e2, e3⟩
    have hfm : fm (K.set j (Ar.esc q, x.2)) = Ar.escF (k + 1) j q := by
      apply List.ext_getElem?
      intro i
      have hKi : (fm K)[i]? = ((List.range (k + 1)).map Ar.fl)[i]? := by rw [hK]
      simp only [fm, Ar.escF, List.getElem?_map, List.getElem?_set] at hKi ⊢
      by_cases hij : j = i
      · subst hij
        rw [if_pos rfl, if_pos (by omega), List.getElem?_range hjk]
        obtain ⟨g', f', e1, e2, e3⟩ := hlit x (List.mem_of_getElem? hxe)
        have hx21 : x.2.1 = false := by
          rw [hxe, List.getElem?_range hjk] at hKi
          simp [fnd, Ar.fl] at hKi
          exact hKi.2.1
        simp [fnd, e2, hx21]
      · rw [if_neg hij, hKi]
        by_cases hik : i < k + 1
        · rw [List.getElem?_range hik]
          simp
          intro h
          exact absurd h.symm hij
        · rw [List.getElem?_eq_none (by simp; omega)]
          rfl
    obtain ⟨K', hK'⟩ : ∃ K', K' = K.set j (Ar.esc q, x.2) := ⟨_, rfl⟩
    rw [← hK'] at hown4 hlit4 hfm
    have hK'l : K'.length = K.length := by rw [hK']; simp
    rw [← hK'l] at hown4 ⊢
    obtain ⟨he51, hel⟩ := Ar.esc_one hk6 hjk hq5
    have hF4 : FilesA w4 (.slice (some ⟨g, 0, none⟩) K'.length cap) K' := ⟨(Row.own hown4).arg, fun y hy => (hlit4 y hy).arg⟩
    have hx04 : Ext none_ w w4 := (hx2.trans hx3).trans' hx34 fun i hi e => by omega
    have hpl := Ar.pk_len (Ar.escF (k + 1) j q)
    have hlim : ∀ y ∈ K', y.1.length ≤ 100000 ∧ y.2.2.2.length ≤ 100000 := by
      intro y hy
      have hm : fnd y ∈ Ar.escF (k + 1) j q := by rw [← hfm]; exact List.mem_map_of_mem hy
      have : y.1.length ≤ 100000 ∧ y.2.2.2.length ≤ 100000 := by
        obtain ⟨g', f', e1, e2, e3⟩ := hlit4 y hy
        refine ⟨?_, by rw [e2]; simp⟩
        rw [Ar.escF] at hm
        obtain ⟨i, -, hi⟩ := List.mem_map.1 hm
        have hp : (fnd y).1.length ≤ 100 := by
          rw [← hi]
          split
          · match q, hq5 with
            | 0, _ => decide
            | 1, _ => decide
            | 2, _ => decide
            | 3, _ => decide
            | 4, _ => decide
          · simp [Ar.fl]
        exact Nat.le_trans hp (by decide)
      exact this
    refine W.seq ?_
    refine W.reg <| mv rfl rfl <| call (vs := [_]) rfl rfl ok_RPack (c_RPack hF4 (by omega) (by rw [hfm]; omega) hlim) ?_
    rintro e w5 ⟨v5, rfl, hp5, hx5⟩
    rw [hfm] at hp5
    refine ⟨_, rfl, ?_⟩
    refine asg rfl rfl <| L.nil ?_
    refine N.th ?_
    have hct := cut.toNat_lt
    have hb5 : BytA w5 v5 (Ar.pk (Ar.escF (k + 1) j q)) := (Row.own hp5).arg
    have hpk5 : 5 ≤ (Ar.pk (Ar.escF (k + 1) j q)).length := by omega
    have hpk6 : (Ar.pk (Ar.escF (k + 1) j q)).length ≤ 1005 := by omega
    generalize hPK : Ar.pk (Ar.escF (k + 1) j q) = PK at *
    obtain ⟨a5, c5, rfl, -, -, -, -⟩ := id hb5
    refine W.seqM (fun E' w' => ∃ a6 c6 Y, E' = [(13, .slice a6 Y.length c6), (3, .int .u8 cut.toNat)] ∧ w' = w5 ∧ BytA w5 (.slice a6 Y.length c6) Y ∧ Y.length ≤ 1100 ∧ (cut.toNat % 2 = 1 ∨ Ar.opc (Ar.opn Y) = 51)) ?_ ?_
    · refine W.seq ?_
      refine W.reg <| mv rfl rfl <| remI (c := ((cut.toNat % 2 : Nat) : Int)) rfl rfl rfl (by decide) rfl <| eqlI rfl rfl rfl <| L.nil ?_
      refine N.th ?_
      refine W.cond rfl (fun h => ?_) (fun h => ?_)
      · have h2 : cut.toNat % 2 = 1 := by have := of_decide_eq_true h; omega
        obtain ⟨m, hm⟩ : ∃ m, m = PK.length - 1 - (cut.toNat / 2) % 3 := ⟨_, rfl⟩
        refine W.reg <| mv rfl rfl <| mv rfl rfl <| lenV rfl u_bytes rfl <| subI (c := ((PK.length - 1 : Nat) : Int)) rfl rfl rfl (by rw [w64 (by omega) (by omega)]; omega) <| mv rfl rfl <| quoI (c := ((cut.toNat / 2 : Nat) : Int)) rfl rfl rfl (by decide) (by
            show IntKind.u8.wrap ((cut.toNat / 2 : Nat) : Int) = _
            exact wu8 (by omega) (by omega)) <| cvtI (c := ((cut.toNat / 2 : Nat) : Int)) rfl u_int u_u8 rfl (w64 (by omega) (by omega)) <| remI (c := (((cut.toNat / 2) % 3 : Nat) : Int)) rfl rfl rfl (by decide) rfl <| subI (c := (m : Int)) rfl rfl rfl (by rw [w64 (by omega) (by omega)]; omega) <|
          slBh (k := m) rfl rfl u_bytes el_bytes.szB rfl hb5 (by omega) fun hb6 => ?_
        refine asg rfl rfl <| L.nil ?_
        exact N.th (N.meet [(13, _), (3, _)] ⟨rfl, rfl, trivial⟩ ⟨a5, c5, _, rfl, rfl, hb6, by rw [List.length_take]; omega, .inl h2⟩)
      · refine W.skip ?_
        exact N.th (N.meet [(13, _), (3, _)] ⟨rfl, rfl, trivial⟩ ⟨a5, c5, _, rfl, rfl, hb5, by omega, .inr he51⟩)
    rintro E' w6 ⟨a6, c6, Y, rfl, hw6, hb6, hYl, hor⟩
    obtain rfl := hw6.symm
    refine W.seq ?_
    refine W.reg <| mv rfl rfl <| call (vs := [_]) rfl rfl ok_AOpen (b_AOpen hb6 (by omega)) ?_
    rintro e w7 ⟨v7, E7, rfl, hF7, hE7, hl7, hx7⟩
    refine ⟨_, rfl, ?_⟩
    refine mv rfl rfl <| ext rfl rfl rfl <| ext (v := .int .i64 (Ar.opc (Ar.opn Y))) rfl rfl rfl <| asg rfl rfl <| asg rfl rfl <| L.nil ?_
    refine N.th ?_
    refine W.seq ?_
    refine W.reg <| mv rfl rfl <| call (vs := [_]) rfl rfl ok_ROpen (b_ROpen (RowA.ext0 hb6 hx7) (by omega)) ?_
    rintro e w8 ⟨v8, E8, rfl, hF8, hE8, hl8, hx8⟩
    refine ⟨_, rfl, ?_⟩
    refine mv rfl rfl <| ext rfl rfl rfl <| ext (v := .int .i64 (Ar.opc (Ar.opn Y))) rfl rfl rfl <| asg rfl rfl <| asg rfl rfl <| L.nil ?_
    refine N.th ?_
    have hend : Ext none_ w w8 := ((hx04.trans hx5).trans hx7).trans hx8
    refine W.seq ?_
    refine W.reg <| mv rfl rfl <| mv rfl rfl <| eqlI rfl rfl rfl <| Vc.bt (by simp) ?_
    (repeat (first | refine mv rfl rfl ?_ | refine asg rfl rfl ?_ | refine L.off rfl rfl rfl rfl rfl ?_ | refine L.offU rfl rfl rfl rfl ?_ | refine L.on rfl rfl rfl ?_ | refine pickT rfl rfl rfl ?_ | refine pickF rfl rfl rfl ?_ | refine ext rfl rfl rfl ?_ | refine nilc rfl rfl ?_ | refine lenV (t := 46) rfl u_strs rfl ?_ | refine lenV (t := 25) rfl u_bytes rfl ?_ | refine lenV (t := 22) rfl u_files rfl ?_ | refine lenS (t := 9) rfl u_str rfl ?_ | refine eqlI rfl rfl rfl ?_ | refine neqI rfl rfl rfl ?_ | refine lssI rfl rfl rfl ?_ | refine leqI rfl rfl rfl ?_ | refine gtrI rfl rfl rfl ?_ | refine geqI rfl rfl rfl ?_))
    by_cases h51 : Ar.opc (Ar.opn Y) = 51
    · refine Vc.bt (by simp [h51]) ?_
      (repeat (first | refine mv rfl rfl ?_ | refine asg rfl rfl ?_ | refine L.off rfl rfl rfl rfl rfl ?_ | refine L.offU rfl rfl rfl rfl ?_ | refine L.on rfl rfl rfl ?_ | refine pickT rfl rfl rfl ?_ | refine pickF rfl rfl rfl ?_ | refine ext rfl rfl rfl ?_ | refine nilc rfl rfl ?_ | refine lenV (t := 46) rfl u_strs rfl ?_ | refine lenV (t := 25) rfl u_bytes rfl ?_ | refine lenV (t := 22) rfl u_files rfl ?_ | refine lenS (t := 9) rfl u_str rfl ?_ | refine eqlI rfl rfl rfl ?_ | refine neqI rfl rfl rfl ?_ | refine lssI rfl rfl rfl ?_ | refine leqI rfl rfl rfl ?_ | refine gtrI rfl rfl rfl ?_ | refine geqI rfl rfl rfl ?_))
      refine L.nil ?_
      refine N.th ?_
      refine W.ret ?_
      exact N.ret1 rfl rfl ⟨rfl, hend⟩   -- RETURN
    · have h2 : cut.toNat % 2 = 1 := hor.resolve_right h51
      refine Vc.bf (by simp [h51]) ?_
      (repeat (first | refine mv rfl rfl ?_ | refine asg rfl rfl ?_ | refine L.off rfl rfl rfl rfl rfl ?_ | refine L.offU rfl rfl rfl rfl ?_ | refine L.on rfl rfl rfl ?_ | refine pickT rfl rfl rfl ?_ | refine pickF rfl rfl rfl ?_ | refine ext rfl rfl rfl ?_ | refine nilc rfl rfl ?_ | refine lenV (t := 46) rfl u_strs rfl ?_ | refine lenV (t := 25) rfl u_bytes rfl ?_ | refine lenV (t := 22) rfl u_files rfl ?_ | refine lenS (t := 9) rfl u_str rfl ?_ | refine eqlI rfl rfl rfl ?_ | refine neqI rfl rfl rfl ?_ | refine lssI rfl rfl rfl ?_ | refine leqI rfl rfl rfl ?_ | refine gtrI rfl rfl rfl ?_ | refine geqI rfl rfl rfl ?_))
      refine remI (c := ((cut.toNat % 2 : Nat) : Int)) rfl rfl rfl (by decide) rfl ?_
      (repeat (first | refine mv rfl rfl ?_ | refine asg rfl rfl ?_ | refine L.off rfl rfl rfl rfl rfl ?_ | refine L.offU rfl rfl rfl rfl ?_ | refine L.on rfl rfl rfl ?_ | refine pickT rfl rfl rfl ?_ | refine pickF rfl rfl rfl ?_ | refine ext rfl rfl rfl ?_ | refine nilc rfl rfl ?_ | refine lenV (t := 46) rfl u_strs rfl ?_ | refine lenV (t := 25) rfl u_bytes rfl ?_ | refine lenV (t := 22) rfl u_files rfl ?_ | refine lenS (t := 9) rfl u_str rfl ?_ | refine eqlI rfl rfl rfl ?_ | refine neqI rfl rfl rfl ?_ | refine lssI rfl rfl rfl ?_ | refine leqI rfl rfl rfl ?_ | refine gtrI rfl rfl rfl ?_ | refine geqI rfl rfl rfl ?_))
      refine Vc.bt (by simp; omega) ?_
      (repeat (first | refine mv rfl rfl ?_ | refine asg rfl rfl ?_ | refine L.off rfl rfl rfl rfl rfl ?_ | refine L.offU rfl rfl rfl rfl ?_ | refine L.on rfl rfl rfl ?_ | refine pickT rfl rfl rfl ?_ | refine pickF rfl rfl rfl ?_ | refine ext rfl rfl rfl ?_ | refine nilc rfl rfl ?_ | refine lenV (t := 46) rfl u_strs rfl ?_ | refine lenV (t := 25) rfl u_bytes rfl ?_ | refine lenV (t := 22) rfl u_files rfl ?_ | refine lenS (t := 9) rfl u_str rfl ?_ | refine eqlI rfl rfl rfl ?_ | refine neqI rfl rfl rfl ?_ | refine lssI rfl rfl rfl ?_ | refine leqI rfl rfl rfl ?_ | refine gtrI rfl rfl rfl ?_ | refine geqI rfl rfl rfl ?_))
      refine L.nil ?_
      refine N.th ?_
      refine W.ret ?_
      exact N.ret1 rfl rfl ⟨rfl, hend⟩   -- RETURN
end Go.Proofs.YtmdpmpdlkaogdaaGreatDoor
