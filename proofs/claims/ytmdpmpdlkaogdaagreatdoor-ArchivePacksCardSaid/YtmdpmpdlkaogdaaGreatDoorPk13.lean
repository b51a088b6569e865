/- ArchivePacks' row and card: of whatever files come in, the law answers true and never panics. -/
import Derived.Test.YtmdpmpdlkaogdaaGreatDoorPk12
import Derived.Test.YtmdpmpdlkaogdaaGreatDoorRows
import Derived.Test.YtmdpmpdlkaogdaaGreatDoorCards
import Derived.Test.YtmdpmpdlkaogdaaGreatDoorTie
import Derived.Test.YtmdpmpdlkaogdaaGreatDoorChecked
import Derived.Test.YtmdpmpdlkaogdaaGreatDoorPk09
import Derived.WalkKit
import Derived.ProofKit
import Derived.OpenShut
import Derived.ShutString
import Derived.ChangeOld
import Derived.Below
import Derived.SizedLaws
import Derived.LaidMore
import Derived.Lay
import Derived.SevenTiedAt
import Derived.Stop.Joined

namespace Go.Proofs.YtmdpmpdlkaogdaaGreatDoor
namespace Ar
def opc (r : Option Tr.T × Int) : Int := match r.1 with | none => r.2 | some _ => 0
def opl (r : Option Tr.T × Int) : Tr.T := r.1.getD []
theorem opn_len (b : List UInt8) : (opl (opn b)).length ≤ 500 := by
  by_cases h : b.length ≤ 262144 ∧ sign.isPrefixOf b = true
  · rw [opn_fin h]
    obtain ⟨o, c⟩ := par (b.length + 1) (b.drop 4) []
    cases o with
    | none => simp [fin, opl]
    | some l =>
      unfold fin
      dsimp only
      cases hof : Tr.of l with
      | mk o2 c2 =>
      cases o2 with
      | none => simp [opl]
      | some m =>
        have hok : Tr.Ok m := Tr.ofF_ok l [] [] m Tr.Ok.nil (by have := congrArg Prod.fst hof; exact this)
        have := hok.len
        simp only [opl, Option.getD_some]
        rw [Tr.files_len]; exact this
  · rw [opn_bad h]; simp [opl]
theorem ent_len (x : Tr.Bytes × Tr.Nd) : (ent x).length ≤ 11 + x.1.length + x.2.2.length := by
  unfold ent
  split
  · simp [num_len]; omega
  · simp [num_len]; omega
theorem ents_len (a : Nat) : ∀ (l : Tr.T), (∀ x ∈ l, x.1.length + x.2.2.length ≤ a) → (ents l).length ≤ l.length * (11 + a) := by
  intro l
  induction l with
  | nil => intro _; simp [ents]
  | cons x l ih =>
    intro h
    have h1 := ent_len x
    have h2 := h x (by simp)
    have h3 := ih fun y hy => h y (List.mem_cons_of_mem _ hy)
    have h4 : ents (x :: l) = ent x ++ ents l := by simp [ents]
    rw [h4, List.length_append, List.length_cons, Nat.add_mul]
    omega
theorem pk_len (l : Tr.T) : (pk l).length = (ents l).length + 5 := by simp [pk, sign]
end Ar
open Go Go.RowKit Vc
theorem files_bound {E : List FE} {l : Tr.T} (h : fm E = l) (hl : l.length ≤ 500) : E.length ≤ 500 := by rw [← h] at hl; simpa using hl
/-- What both Opens answer. -/
def BothR (w : World) (b : List UInt8) (e : Ending) (w' : World) : Prop := ∃ v E, e = .returned (.tuple #[v, .int .i64 (Ar.opc (Ar.opn b))]) ∧ FilesAt w' v E ∧ fm E = Ar.opl (Ar.opn b) ∧ E.length ≤ 500 ∧ Ext none_ w w'
theorem FilesAt.nil (w : World) : FilesAt w (.slice none 0 0) [] := ⟨Row.nil w tF 3, by simp⟩
theorem b_AOpen {w : World} {v : Value} {b : List UInt8} (hv : BytA w v b) (hl : b.length ≤ 1000000) : Calls P 22 #[v] w (BothR w b) := by
  have hlen := Ar.opn_len b
  refine (c_AOpen hv hl).mono fun e w' h => ?_
  obtain ⟨hx, h1, h2⟩ := h
  unfold BothR
  generalize Ar.opn b = r at *
  obtain ⟨o, c⟩ := r
  cases o with
  | none => exact ⟨_, [], h1 rfl, FilesAt.nil w', rfl, by simp, hx⟩
  | some l =>
    obtain ⟨v, E, rfl, ho, hb, hE⟩ := h2 l rfl
    exact ⟨v, E, rfl, FilesA.own ho hb, hE, files_bound hE hlen, hx⟩
theorem b_ROpen {w : World} {v : Value} {b : List UInt8} (hv : BytA w v b) (hl : b.length ≤ 1000000) : Calls P 23 #[v] w (BothR w b) := by
  have hlen := Ar.opn_len b
  refine (c_ROpen hv hl).mono fun e w' h => ?_
  obtain ⟨hx, h1, h2⟩ := h
  unfold BothR
  generalize Ar.opn b = r at *
  obtain ⟨o, c⟩ := r
  cases o with
  | none => exact ⟨_, [], h1 rfl, FilesAt.nil w', rfl, by simp, hx⟩
  | some l =>
    obtain ⟨v, E, rfl, hF, hE⟩ := h2 l rfl
    exact ⟨v, E, rfl, hF, hE, files_bound hE hlen, hx⟩
theorem same_files {b : List UInt8} {E1 E2 : List FE} (h1 : fm E1 = Ar.opl (Ar.opn b)) (h2 : fm E2 = Ar.opl (Ar.opn b)) : decide (E1.map fnd = E2.map fnd) = true := by
  rw [decide_eq_true_eq]; exact h1.trans h2.symm
theorem light_ents {E : List FE} (h : E.length ≤ 20 ∧ ∀ x ∈ E, x.1.length ≤ 300 ∧ x.2.2.2.length ≤ 500) : (Ar.ents (fm E)).length ≤ 20000 := by
  have h1 := Ar.ents_len 800 (fm E) (fun x hx => by
    obtain ⟨y, hy, rfl⟩ := List.mem_map.1 hx
    have := h.2 y hy
    show y.1.length + y.2.2.2.length ≤ 800
    omega)
  rw [fm_len] at h1
  have := h.1
  have h2 : E.length * (11 + 800) ≤ 20 * (11 + 800) := Nat.mul_le_mul_right _ this
  omega

set_option maxHeartbeats 1000000 in
theorem c_ArchivePacks (w : World) {v : Value} {E : List FE} (hv : RowA w v E.length (E.flatMap fcells)) (hb : ∀ x ∈ E, BytA w x.2.2.1 x.2.2.2) :
    Calls P 3 #[v] w fun e w' => e = .returned (.bool true) ∧ Ext none_ w w' := by
  have hA : FilesA w v E := ⟨hv, hb⟩
  refine enter (l := [_]) (n := 47) Tryz.func3 rfl rfl rfl ?_
  refine W.seq ?_
  refine W.reg <| asg rfl rfl <| L.nil ?_
  refine N.th ?_
  refine W.seq ?_
  refine W.seq ?_
  refine W.reg <| call (vs := []) rfl rfl ok_known13 (c_known13 w) ?_
  rintro e w1 ⟨rfl, hx1⟩
  refine ⟨_, rfl, ?_⟩
  refine notB rfl rfl <| L.nil ?_
  refine N.th ?_
  refine W.condF rfl ?_
  refine W.skip ?_
  refine N.th ?_
  refine W.seq ?_
  refine W.seq ?_
  refine W.reg <| mv rfl rfl <| call (vs := [_]) rfl rfl ok_LightFiles (c_LightFiles (hA.ext0 hx1)) ?_
  rintro e w2 ⟨rfl, rfl⟩
  refine ⟨_, rfl, ?_⟩
  refine notB rfl rfl <| L.nil ?_
  refine N.th ?_
  refine W.cond rfl (fun h => ?_) (fun h => ?_)
  · refine W.seq ?_
    refine W.reg <| asg rfl rfl <| L.nil ?_
    refine N.th ?_
    refine W.ret ?_
    refine N.rth ?_
    exact N.ret1 rfl rfl ⟨rfl, hx1⟩   -- RETURN
  have hlight := lightL_spec (by simpa using h)
  have hents := light_ents hlight
  have hpk := Ar.pk_len (fm E)
  have hE20 := hlight.1
  refine W.skip ?_
  refine N.th ?_
  refine W.seq ?_
  refine W.reg <| mv rfl rfl <| call (vs := [_]) rfl rfl ok_Pack (c_Pack (hA.ext0 hx1) (by omega) (by omega) (fun x hx => by have := hlight.2 x hx; omega)) ?_
  rintro e w3 ⟨v3, rfl, hp3, hx3⟩
  refine ⟨_, rfl, ?_⟩
  refine asg rfl rfl <| L.nil ?_
  refine N.th ?_
  refine W.seq ?_
  refine W.seqM (fun E' w' => E' = [(28, .bool false), (3, v3)] ∧ Ext none_ w3 w') ?_ ?_
  · have hxd : Ext none_ w3 w3.drew := Ext.drew _ _
    have hA3 := (hA.ext0 hx1).ext0 hx3
    have hb3 : BytA w3 v3 (Ar.pk (fm E)) := (Row.own hp3).arg
    refine W.draw3 [9] (fun w' => Ext none_ w3 w') [0, 1, 2, 3] [4, 5, 6, 7, 9] [8] [10, 11, 12, 13] [10] [8, 11, 12, 13] rfl rfl (by kernel_rfl) (by kernel_rfl) hxd ?_
    refine mv rfl rfl <| cvtBA (a := Ar.pk (fm E)) rfl u_bytes u_u8 u_str rfl (fun w' h => hb3.ext0 h) <| mv rfl rfl <| callH (vs := [_]) rfl rfl ok_RPack (c_RPack (hA3.ext0 hxd) (by omega) (by omega) (fun x hx => by have := hlight.2 x hx; omega)) ?_
    rintro e w4 ⟨v4, rfl, hp4, hx4⟩
    have hx34 := hxd.trans hx4
    refine ⟨_, rfl, .inr fun h => h.trans hx4, ?_⟩
    have hb4 : BytA w4 v4 (Ar.pk (fm E)) := (Row.own hp4).arg
    refine L.segH (fun w' => Ext none_ w4 w') (fun w' h => hx34.trans h) (Ext.refl _ _) ?_
    refine cvtBA (a := Ar.pk (fm E)) rfl u_bytes u_u8 u_str rfl (fun w' h => hb4.ext0 h) <| neqS rfl rfl rfl <| Vc.bf (by simp) ?_
    refine mv rfl rfl <| L.on rfl rfl rfl <| mv rfl rfl <| L.on rfl rfl rfl <| mv rfl rfl ?_
    have hbAt : ∀ {w' : World}, Ext none_ w4 w' → BytA w' v3 (Ar.pk (fm E)) := fun h => (hb3.ext0 hx34).ext0 h
    obtain ⟨va, vc, rfl, -⟩ := id hb3
    have hone : ∀ {w' : World} {g : Nat}, w'.heap[g]? = some (.cells #[Value.slice va (Ar.pk (fm E)).length vc] 25 (0, 0)) → RowA w' (.slice (some ⟨g, 0, none⟩) 1 1) [(Value.slice va (Ar.pk (fm E)).length vc, Ar.pk (fm E))].length ([(Value.slice va (Ar.pk (fm E)).length vc, Ar.pk (fm E))].map (·.1)) := fun {w' g} hg =>
      ⟨_, 1, rfl, Nat.le_refl _, by simp [maxLen], (fun h => by cases h), fun j u hj => ⟨_, rfl, lt_of_obj hg, by rw [add_at]; exact cell_of hg (by simpa using hj)⟩⟩
    have htot : total [(Value.slice va (Ar.pk (fm E)).length vc, Ar.pk (fm E))] = Ar.pk (fm E) := by simp [total]
    refine L.forkH ?_ ?_
    · refine L.on rfl rfl rfl <| callH (vs := [_]) rfl rfl ok_Digest (c_Digest (hbAt (Ext.refl _ _)) (by omega)) ?_
      rintro e w5 ⟨rfl, hx5⟩
      refine ⟨_, rfl, .inr fun h => h.trans hx5, ?_⟩
      refine L.nextH (fun w' => Ext none_ w4 w') (fun _ h => h) hx5 ?_
      refine L.on rfl rfl rfl <| bls (vs := #[(0, .slice va (Ar.pk (fm E)).length vc)]) (cs := #[.slice va (Ar.pk (fm E)).length vc]) (e := 25) rfl rfl (fun _ => by kernel_rfl) (hS := .inr fun h => h.trans (Ext.alloc _ _ _)) ?_
      have hg6 := heap_new w5 (.cells #[Value.slice va (Ar.pk (fm E)).length vc] 25)
      have hx6 : Ext none_ w5 (w5.alloc (.cells #[Value.slice va (Ar.pk (fm E)).length vc] 25)) := Ext.alloc _ _ _
      generalize w5.alloc _ = w6 at hg6 hx6 ⊢
      refine L.on rfl rfl rfl <| callH (vs := [_]) rfl rfl ok_r1Of (c_r1Of (vs := [(_, Ar.pk (fm E))]) (hone hg6) (by simpa using hbAt (hx5.trans hx6)) (by rw [htot]; omega) (by simp)) ?_
      rintro e w7 ⟨rfl, hx7⟩
      refine ⟨_, rfl, .inr fun h => h.trans hx7, ?_⟩
      rw [htot]
      refine L.on rfl rfl rfl <| neqA rfl rfl u_Key u_u8 el_bytes.szB eg_Key (sum_len _) (sum_len _) rfl <| Vc.bf (by simp) <| pickF rfl rfl rfl <| L.nilH ?_
      exact N.th (N.meet [(28, _), (3, _)] ⟨rfl, rfl, trivial⟩ ⟨rfl, (hx34.trans hx5).trans (hx6.trans hx7)⟩)
    · refine L.on rfl rfl rfl <| bls (vs := #[(0, .slice va (Ar.pk (fm E)).length vc)]) (cs := #[.slice va (Ar.pk (fm E)).length vc]) (e := 25) rfl rfl (fun _ => by kernel_rfl) (hS := .inr fun h => h.trans (Ext.alloc _ _ _)) ?_
      have hg5 := heap_new w4 (.cells #[Value.slice va (Ar.pk (fm E)).length vc] 25)
      have hx5 : Ext none_ w4 (w4.alloc (.cells #[Value.slice va (Ar.pk (fm E)).length vc] 25)) := Ext.alloc _ _ _
      generalize w4.alloc _ = w5 at hg5 hx5 ⊢
      refine L.nextH (fun w' => Ext none_ w4 w') (fun _ h => h) hx5 ?_
      refine L.on rfl rfl rfl <| callH (vs := [_]) rfl rfl ok_Digest (c_Digest (hbAt hx5) (by omega)) ?_
      rintro e w6 ⟨rfl, hx6⟩
      refine ⟨_, rfl, .inr fun h => h.trans hx6, ?_⟩
      refine L.on rfl rfl rfl <| callH (vs := [_]) rfl rfl ok_r1Of (c_r1Of (vs := [(_, Ar.pk (fm E))]) (hone (hx6.obj hg5 id)) (by simpa using hbAt (hx5.trans hx6)) (by rw [htot]; omega) (by simp)) ?_
      rintro e w7 ⟨rfl, hx7⟩
      refine ⟨_, rfl, .inr fun h => h.trans hx7, ?_⟩
      rw [htot]
      refine L.on rfl rfl rfl <| neqA rfl rfl u_Key u_u8 el_bytes.szB eg_Key (sum_len _) (sum_len _) rfl <| Vc.bf (by simp) <| pickF rfl rfl rfl <| L.nilH ?_
      exact N.th (N.meet [(28, _), (3, _)] ⟨rfl, rfl, trivial⟩ ⟨rfl, (hx34.trans hx5).trans (hx6.trans hx7)⟩)
  rintro E' w4 ⟨rfl, hx4⟩
  refine W.condF rfl ?_
  refine W.skip ?_
  refine N.th ?_
  refine W.seq ?_
  have hb4 : BytA w4 v3 (Ar.pk (fm E)) := (Row.own hp3).arg.ext0 hx4
  refine W.reg <| mv rfl rfl <| call (vs := [_]) rfl rfl ok_AOpen (b_AOpen hb4 (by omega)) ?_
  rintro e w5 ⟨v5, E5, rfl, hF5, hE5, hl5, hx5⟩
  refine ⟨_, rfl, ?_⟩
  refine mv rfl rfl <| ext rfl rfl rfl <| ext (v := .int .i64 (Ar.opc (Ar.opn (Ar.pk (fm E))))) rfl rfl rfl <| asg rfl rfl <| asg rfl rfl <| L.nil ?_
  refine N.th ?_
  refine W.seq ?_
  refine W.reg <| mv rfl rfl <| call (vs := [_]) rfl rfl ok_ROpen (b_ROpen (hb4.ext0 hx5) (by omega)) ?_
  rintro e w6 ⟨v6, E6, rfl, hF6, hE6, hl6, hx6⟩
  refine ⟨_, rfl, ?_⟩
  refine mv rfl rfl <| ext rfl rfl rfl <| ext (v := .int .i64 (Ar.opc (Ar.opn (Ar.pk (fm E))))) rfl rfl rfl <| asg rfl rfl <| asg rfl rfl <| L.nil ?_
  refine N.th ?_
  refine W.seq ?_
  refine W.reg <| mv rfl rfl <| mv rfl rfl <| eqlI rfl rfl rfl <| Vc.bt (by simp) ?_
  (repeat (first | refine mv rfl rfl ?_ | refine asg rfl rfl ?_ | refine L.off rfl rfl rfl rfl rfl ?_ | refine L.offU rfl rfl rfl rfl ?_ | refine L.on rfl rfl rfl ?_ | refine pickT rfl rfl rfl ?_ | refine pickF rfl rfl rfl ?_ | refine ext rfl rfl rfl ?_ | refine nilc rfl rfl ?_ | refine lenV (t := 46) rfl u_strs rfl ?_ | refine lenV (t := 25) rfl u_bytes rfl ?_ | refine lenV (t := 22) rfl u_files rfl ?_ | refine lenS (t := 9) rfl u_str rfl ?_ | refine eqlI rfl rfl rfl ?_ | refine neqI rfl rfl rfl ?_ | refine lssI rfl rfl rfl ?_ | refine leqI rfl rfl rfl ?_ | refine gtrI rfl rfl rfl ?_ | refine geqI rfl rfl rfl ?_))
  refine call (vs := [_, _]) rfl rfl ok_HFiles (c_HFiles (hF5.ext0 hx6) hF6 (by omega) (by omega)) ?_
  rintro e w7 ⟨rfl, hx7⟩
  refine ⟨_, rfl, ?_⟩
  rw [same_files hE5 hE6]
  (repeat (first | refine mv rfl rfl ?_ | refine asg rfl rfl ?_ | refine L.off rfl rfl rfl rfl rfl ?_ | refine L.offU rfl rfl rfl rfl ?_ | refine L.on rfl rfl rfl ?_ | refine pickT rfl rfl rfl ?_ | refine pickF rfl rfl rfl ?_ | refine ext rfl rfl rfl ?_ | refine nilc rfl rfl ?_ | refine lenV (t := 46) rfl u_strs rfl ?_ | refine lenV (t := 25) rfl u_bytes rfl ?_ | refine lenV (t := 22) rfl u_files rfl ?_ | refine lenS (t := 9) rfl u_str rfl ?_ | refine eqlI rfl rfl rfl ?_ | refine neqI rfl rfl rfl ?_ | refine lssI rfl rfl rfl ?_ | refine leqI rfl rfl rfl ?_ | refine gtrI rfl rfl rfl ?_ | refine geqI rfl rfl rfl ?_))
  refine L.nil ?_
  refine N.th ?_
  refine W.ret ?_
  exact N.ret1 rfl rfl ⟨rfl, (((((hx1.trans hx3).trans hx4).trans hx5).trans hx6).trans hx7)⟩   -- RETURN
end Go.Proofs.YtmdpmpdlkaogdaaGreatDoor

namespace Go.Proofs.YtmdpmpdlkaogdaaGreatDoor.ArchivePacksZ
open Go Go.ChangeShapes Go.WideShapes Go.ChangeAt Go.RowKit Go.Proofs.YtmdpmpdlkaogdaaGreatDoor
open Go.ChangeMaps (open_string shut_string)

theorem own : ownKnob Tryz.prog.godebug = none := by kernel_rfl
theorem laidOut : laidOutB Tryz.prog = true := by kernel_rfl
abbrev lv := Rows.archivePacksRow.laid

set_option maxRecDepth 100000 in
theorem lifted (os : Os) (started : os.Started) (H : Type) (enc : TypeId × Value → H) :
    ReturnsInHanded {} Tryz.checked os 3 .any (fun w args => (Rows.archivePacksSpec.pre enc Tryz.prog Tryz.f3 Rows.archivePacksRow.domain false w args ∧ laidMetH Tryz.prog lv w) ∧ sizedMet enc Tryz.prog Tryz.f3 (OpenSpec.ofChange Rows.archivePacksSpec) false w args)
      (Rows.archivePacksSpec.post enc Tryz.prog Tryz.f3 false true false false) := by
  refine returnsInHanded_of_change_and (C := Tryz.checked) (X := fun w _ => laidMetH Tryz.prog lv w) (fun _ _ _ hh h => h.of_heap hh) own started (by kernel_rfl) Tryz.func3
    (ChangeSpec.witness_shaped (enc := enc) (C := Tryz.checked) (os := os) (X := fun w _ => laidMetH Tryz.prog lv w) false (World.laidAll Tryz.prog os lv) #[.slice none 0 0] 8 (World.laidAll_os _ _ _)
      (World.shaped_of_ZipB (by kernel_rfl) (by kernel_rfl)) (by kernel_rfl) (by kernel_rfl) (by kernel_rfl)
      (by rw [MakeChecks.laidMetH_plain _ _ _ (by kernel_rfl)]; exact laidMet_laidAll _ (by kernel_rfl) (by kernel_rfl))) ?_
  intro W base args ds gs before hval0 hW _ _ _ _
  have hval : ∀ (j : Nat) t v, Tryz.f3.params[j]? = some t → args[j]? = some v → Value.okWide Tryz.prog W .any base t v := hval0
  have hW' := hW
  obtain ⟨p, q, hA0, hV, rfl, hfz, hnd⟩ := hW
  have hA : DataW.TrodAll enc Tryz.prog W 0 (fun _ => true) true Tryz.f3.params.toList args.toList ds p := hA0
  rw [Tryz.params3] at hA hval
  obtain ⟨v0, vs0, d0, ds0, p0, q0, hargs, rfl, rfl, h0, r0⟩ := trodAll_cons hA
  obtain ⟨rfl, rfl, rfl⟩ := trodAll_nil r0
  obtain rfl : args = #[v0] := by cases args; simp_all
  obtain ⟨rfl, rfl⟩ := trodVars_none hV
  have k0 := h0
  have lt0 : ∀ x ∈ p0, x.block < W.heap.size := by obtain ⟨m, hm⟩ := k0; exact DataW.trod_lt m _ _ _ hm
  obtain ⟨a0, len0, cap0, rfl⟩ := okWide_slice Tryz.underlying22 (hval 0 22 v0 rfl rfl)
  obtain ⟨fu0, hf0⟩ := h0
  obtain ⟨v0, l0, hc0, hr0, hb0⟩ := open_filesA hf0
  obtain rfl : .slice a0 len0 cap0 = v0 := by simpa [Value.cells] using hc0
  clear hA0 hval0
  refine (c_ArchivePacks W hr0 hb0).mono fun e W' ⟨he, hx⟩ => ?_
  subst he
  have bel : Below W.heap.size W W' := hx.below
  exact ⟨_, rfl, _, _, _, [], _, [], hW', trodAll_mk1 (shut_bool Tryz.underlying4 _), (trodAll_cons_mk (Below.trod laidOut (by kernel_rfl) (of_decide_eq_true (by kernel_rfl)) k0 bel lt0) trodAll_mk0), rfl, bel.frame _, fun h => by cases h⟩

theorem over : Rows.ArchivePacksSaid :=
  OpenClaim.holds_of_wide 3 Tryz.f3 rfl rfl rfl rfl rfl rfl rfl ⟨rfl, rfl, rfl, rfl, rfl⟩ rfl rfl rfl rfl rfl (by kernel_rfl) Tryz.func3 (by kernel_rfl)
    (of_decide_eq_true (by kernel_rfl)) (by unfold Func.isWrapper; first | (rw [if_pos (by decide +kernel)]; kernel_rfl) | (rw [if_neg (by decide +kernel)]; exact ⟨rfl, rfl⟩))
    (fun os started H enc _ => lifted os started H enc)

theorem card : Rows.ArchivePacksCardSaid :=
  Claim7.holds_tied_plain_at .later [] [.data, .pinned] true Rows.archivePacksCard.stood.harness true over (fun _ h => by cases h) (by kernel_rfl) (fun _ h => by cases h) archivePacks_row_tie rfl ⟨rfl, rfl⟩ (by kernel_rfl) rfl
    (fun f fn hf hfn => by
      obtain rfl : f = 3 := Option.some.inj ((show Tryz.prog.funcNamed Rows.archivePacksRow.func = some 3 by kernel_rfl).symm.trans hf) |>.symm
      obtain rfl : fn = Tryz.f3 := (Option.some.inj (Tryz.func3.symm.trans hfn)).symm
      exact ⟨by kernel_rfl, fun j t ht => by
        rw [Tryz.params3] at ht
        have hm : t ∈ ([22] : List TypeId) := by simpa using Array.mem_of_getElem? ht
        have hall : (([22] : List TypeId).all fun u => !Tryz.prog.wantsStandIn u) = true := by kernel_rfl
        exact (show Tryz.prog.wantsStandIn t = false by simpa using List.all_eq_true.1 hall t hm)⟩)
    (by kernel_rfl)
end Go.Proofs.YtmdpmpdlkaogdaaGreatDoor.ArchivePacksZ
namespace Go.Proofs.YtmdpmpdlkaogdaaGreatDoor
/-- The statement. -/
theorem archivePacks_card_holds : Rows.ArchivePacksCardSaid := ArchivePacksZ.card
#print axioms archivePacks_card_holds
end Go.Proofs.YtmdpmpdlkaogdaaGreatDoor
