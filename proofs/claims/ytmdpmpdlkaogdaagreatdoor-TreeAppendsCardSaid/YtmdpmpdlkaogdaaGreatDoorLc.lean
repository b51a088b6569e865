/- The walk of TreeAppends. -/
import Derived.Test.YtmdpmpdlkaogdaaGreatDoorLb
namespace Go.Proofs.YtmdpmpdlkaogdaaGreatDoor
open Go Go.RowKit Vc

namespace Apd
/-- The path x/y, and a tree in which it alone stands. -/
def p : Tr.Bytes := [120, 47, 121]
def one (c : Tr.Bytes) : Tr.T := [([120], (true, [])), (p, (false, c))]
theorem clean : Sp.clean p = (p, 0) := by kernel_rfl
theorem no : ¬ (Sp.clean p).2 ≠ 0 := by rw [clean]; simp
/-- Nothing yet, or the file. -/
def at_ (i : Nat) (c : Tr.Bytes) : Tr.T := if i = 0 then [] else one c
theorem size_one (c : Tr.Bytes) : Tr.size (one c) = c.length := by simp [Tr.size, one]
theorem ok (i : Nat) (c : Tr.Bytes) (h : c.length ≤ 4000) : (at_ i c).length ≤ 500 ∧ Tr.size (at_ i c) ≤ 1048576 := by
  unfold at_
  split
  · simp [Tr.size]
  · rw [size_one]; exact ⟨by simp [one], by omega⟩
theorem put_nil (c : Tr.Bytes) (more : Bool) (h : c.length ≤ 4000) : Tr.put [] p c more = (one c, 0) := by
  have h1 : Tr.at_ [] (Sp.clean p).1 = none := by rw [clean]; rfl
  have h2 : Tr.ahead [] (Sp.clean p).1 = some [[120]] := by rw [clean]; kernel_rfl
  obtain ⟨-, hp⟩ := put_ok (b := c) (more := more) no h1 (fun x h => by cases h) h2
  rw [hp, if_neg]
  · rw [clean]; rfl
  · simp [putB, putN, Tr.room, Tr.old, clean, Tr.get, Tr.size]; omega
theorem put_one (c0 c : Tr.Bytes) (more : Bool) (h0 : c0.length ≤ 4000) (h : c.length ≤ 4000) : Tr.put (one c0) p c more = (one (if more then c0 ++ c else c), 0) := by
  have h1 : Tr.at_ (one c0) (Sp.clean p).1 = some (false, c0) := by rw [clean]; rfl
  have h2 : Tr.ahead (one c0) (Sp.clean p).1 = some [] := by rw [clean]; rfl
  obtain ⟨-, hp⟩ := put_ok (b := c) (more := more) no h1 (fun x h => by cases h; rfl) h2
  have hold : Tr.old (one c0) p = c0.length := rfl
  rw [hp, if_neg]
  · rw [clean]; cases more <;> rfl
  · rw [clean]
    simp only [putB, putN, Tr.room, hold, size_one]
    have hl : (one c0).length = 2 := rfl
    rw [hl]
    cases more <;> simp <;> omega
theorem write (i : Nat) (c0 c : Tr.Bytes) (h0 : c0.length ≤ 4000) (h : c.length ≤ 4000) : Tr.write (at_ i c0) p c = (one c, 0) := by
  unfold Tr.write at_
  split
  · exact put_nil c false h
  · exact put_one c0 c false h0 h
theorem append (i : Nat) (c0 c : Tr.Bytes) (h0 : c0.length ≤ 4000) (h : c.length ≤ 4000) (hi : i = 0 → c0 = []) : Tr.append (at_ i c0) p c = (one (c0 ++ c), 0) := by
  unfold Tr.append
  rw [if_neg (by omega)]
  unfold at_
  split
  · rename_i h1
    rw [hi h1]; exact put_nil c true h
  · exact put_one c0 c true h0 h
end Apd

theorem c_TreeAppends (w : World) {v : Value} {rows : List (Value × List UInt8)} (hv : RowA w v rows.length (rows.map (·.1))) (hb : ∀ p ∈ rows, BytA w p.1 p.2) :
    Calls P 9 #[v] w fun e w' => e = .returned (.bool true) ∧ Ext none_ w w' := by
  obtain ⟨a, c, rfl, hn, hmx, -, -⟩ := id hv
  refine enter (l := [_]) (n := 50) Tryz.func9 rfl rfl rfl ?_
  refine W.seq ?_
  refine W.reg <| asg rfl rfl <| L.nil ?_
  refine N.th ?_
  refine W.seq ?_
  refine W.seq ?_
  refine W.reg <| call (vs := []) rfl rfl ok_known (c_known w) ?_
  rintro e w1 ⟨rfl, hx1⟩
  refine ⟨_, rfl, ?_⟩
  refine notB rfl rfl <| L.nil ?_
  refine N.th ?_
  refine W.condF rfl ?_
  refine W.skip ?_
  refine N.th ?_
  refine W.seq ?_
  refine W.seq ?_
  refine W.reg <| mv rfl rfl <| lenV rfl u_bss rfl <| gtrI rfl rfl rfl <| L.nil ?_
  refine N.th ?_
  refine W.cond rfl (fun h => ?_) (fun h => ?_)
  · refine W.seq ?_
    refine W.reg <| asg rfl rfl <| L.nil ?_
    refine N.th ?_
    refine W.ret ?_
    refine N.rth ?_
    refine N.ret1 rfl rfl ?_   -- RETURN
    exact ⟨rfl, hx1⟩
  have hl20 : rows.length ≤ 20 := by simp at h; omega
  refine W.skip ?_
  refine N.th ?_
  refine W.seq ?_
  refine W.reg <| call (vs := []) rfl rfl ok_New (c_New w1) ?_
  rintro e w2 ⟨at_, am, rfl, hat, ham, hA2, hx2⟩
  refine ⟨_, rfl, ?_⟩
  refine call (vs := []) rfl rfl ok_New (c_New w2) ?_
  rintro e w3 ⟨bt, bm, rfl, hbt, hbm, hB3, hx3⟩
  refine ⟨_, rfl, ?_⟩
  refine asg rfl rfl <| asg rfl rfl <| L.nil ?_
  refine N.th ?_
  refine W.seq ?_
  refine W.reg <| asg rfl rfl <| L.nil ?_
  refine N.th ?_
  refine W.seq ?_
  refine W.seq ?_
  refine W.reg <| asg rfl rfl <| L.nil ?_
  refine N.th ?_
  refine W.block ?_
  have hlt2 := hA2.lt
  have hs1 := hx1.size
  have hs2 := hx2.size
  have hs3 := hx3.size
  have hdis : at_ ≠ bt ∧ am ≠ bm := ⟨by omega, by omega⟩
  have hx03 := hx1.trans (hx2.trans hx3)
  have hTw : ∀ {x y : Nat}, w.heap.size ≤ x → w.heap.size ≤ y → ∀ i, i < w.heap.size → Two x y i → none_ i := by
    rintro x y h1 h2 i hi (e | e) <;> omega
  refine W.loop (X := Nat × Tr.Bytes × Value) (fun x => [(6, .int .i64 x.1), (5, x.2.2), (4, pT bt), (3, pT at_), (0, .slice a rows.length c)])
    (fun x w' => x.1 ≤ rows.length ∧ x.2.1.length ≤ 200 * x.1 ∧ (x.1 = 0 → x.2.1 = []) ∧ Byts w3.heap.size w' x.2.2 x.2.1 ∧
      TreeAt (fun k => x.2.2.ownBlock = some k) w' at_ am (Apd.at_ x.1 x.2.1) (Tr.size (Apd.at_ x.1 x.2.1)) ∧ TreeAt (fun k => x.2.2.ownBlock = some k) w' bt bm (Apd.at_ x.1 x.2.1) (Tr.size (Apd.at_ x.1 x.2.1)) ∧ Ext none_ w w' ∧ w3.heap.size ≤ w'.heap.size) (fun x => rows.length - x.1) (0, [], .slice none 0 0) ⟨rfl, rfl, rfl, rfl, rfl, trivial⟩
    ⟨by omega, by simp, fun _ => rfl, own_nil _ _ _ _, (hA2.ext0 hx3).nil_any (fun k h => by cases h), hB3.nil_any (fun k h => by cases h), hx03, Nat.le_refl _⟩ ?_
  rintro ⟨i, acc, va⟩ w4 ⟨hi, hal, hi0, hown, hA4, hB4, hx4, hs4⟩
  dsimp only at hi hal hi0 hown hA4 hB4 hs4 ⊢
  refine W.seq ?_
  refine W.seq ?_
  refine W.reg <| mv rfl rfl <| mv rfl rfl <| lenV rfl u_bss rfl <| lssI rfl rfl rfl <| L.nil ?_
  refine N.th ?_
  refine W.cond rfl (fun h => ?_) (fun h => ?_)
  · refine W.skip ?_
    refine N.th ?_
    have hi1 : i < rows.length := by simp at h; omega
    obtain ⟨p, hp⟩ : ∃ p, rows[i]? = some p := ⟨_, List.getElem?_eq_getElem hi1⟩
    obtain ⟨ab, ao, ac, hv', -, -, -, hcell⟩ := (hv.ext0 hx4).plain (by intro e; have := congrArg List.length e; rw [List.length_map, List.length_nil] at this; omega)
    cases hv'
    have hck : w4.cell? ⟨ab, ao + i * 1, none⟩ = some p.1 := by rw [Nat.mul_one]; exact hcell i _ (by rw [List.getElem?_map, hp]; rfl)
    have hbp := (hb p (List.mem_of_getElem? hp)).ext0 hx4
    obtain ⟨pv, pb⟩ := p
    obtain ⟨pa, pc, hpv, hpn, hpm, -, -⟩ := id hbp
    dsimp only at hck hbp hpv hpn
    subst hpv
    refine W.seq ?_
    refine W.block ?_
    refine W.seq ?_
    refine W.seq ?_
    refine W.reg <| mv rfl rfl <| mv rfl rfl <| ixa rfl rfl u_bss sz_bytes rfl (by omega) (by omega) <| ld1 rfl ag_bytes rfl hck <| lenV rfl u_bytes rfl <| gtrI rfl rfl rfl <| L.nil ?_
    refine N.th ?_
    refine W.cond rfl (fun h => ?_) (fun h => ?_)
    · refine W.seq ?_
      refine W.reg <| asg rfl rfl <| L.nil ?_
      refine N.th ?_
      refine W.ret ?_
      refine N.rth <| N.rinb <| N.rth <| N.rth <| N.rinb <| N.rth ?_
      refine N.ret1 rfl rfl ?_   -- RETURN
      exact ⟨rfl, hx4⟩
    have hpl : pb.length ≤ 200 := by simp at h; omega
    refine W.skip ?_
    refine N.th ?_
    refine W.seqM (fun E w' => ∃ va' : Value, E = [(6, .int .i64 i), (5, va'), (4, pT bt), (3, pT at_), (0, .slice (some ⟨ab, ao, none⟩) rows.length c)] ∧ Byts w3.heap.size w' va' (acc ++ pb) ∧ Ext (fun k => va.ownBlock = some k) w4 w' ∧ (va'.ownBlock = va.ownBlock ∨ va'.ownBlock = some w4.heap.size)) ?_ ?_
    · obtain ⟨va1, vac, rfl, hvc, hvm⟩ := own_slice hown
      rcases hbp.form with ⟨h0, h1⟩ | ⟨ad, pc', h0, h1, h2, hcl⟩
      · have hl0 : pb = [] := List.eq_nil_of_length_eq_zero h1
        subst hl0
        cases h0
        refine W.reg <| mv rfl rfl <| mv rfl rfl <| mv rfl rfl <| ixa rfl rfl u_bss sz_bytes rfl (by omega) (by omega) <| ld1 rfl ag_bytes rfl hck <| appN rfl rfl rfl el_bytes hvc <| asg rfl rfl <| L.nil ?_
        exact N.th (N.meet [(6, _), (5, .slice va1 acc.length vac), (4, _), (3, _), (0, _)] ⟨rfl, rfl, rfl, rfl, rfl, trivial⟩ ⟨_, rfl, by rw [List.append_nil]; exact hown, Ext.refl _ _, .inl rfl⟩)
      · cases h0
        refine W.reg <| mv rfl rfl <| mv rfl rfl <| mv rfl rfl <| ixa rfl rfl u_bss sz_bytes rfl (by omega) (by omega) <| ld1 rfl ag_bytes rfl hck <| app rfl rfl rfl el_bytes hown (by simp) (fun j u hj => (hcl j u hj).2) (encB_one pb) (by omega) (by simp only [maxLen]; omega) hs4 fun v' w5 hown5 hx5 _ hat5 => ?_
        refine asg rfl rfl <| L.nil ?_
        exact N.th (N.meet [(6, _), (5, v'), (4, _), (3, _), (0, _)] ⟨rfl, rfl, rfl, rfl, rfl, trivial⟩ ⟨v', rfl, by simpa [Byts, encB] using hown5, hx5, hat5⟩)
    rintro E w5 ⟨va', rfl, hown5, hx5, hat5⟩
    have hkind : ∀ k, va.ownBlock = some k → ∃ c fr, w4.heap[k]? = some (.cells c tB fr) := own_kind hown
    have hB : ∀ k, va'.ownBlock = some k → va.ownBlock = some k ∨ w4.heap.size ≤ k := fun k hk => by
      rcases hat5 with e | e
      · left; rw [← e]; exact hk
      · right; rw [e] at hk; cases hk; exact Nat.le_refl _
    have hlt5 : ∀ k, va'.ownBlock = some k → k < w5.heap.size := (Row.own hown5).lt
    have hA5 : TreeAt (fun k => va'.ownBlock = some k) w5 at_ am (Apd.at_ i acc) (Tr.size (Apd.at_ i acc)) := hA4.step hx5 hkind hB hlt5
    have hB5 : TreeAt (fun k => va'.ownBlock = some k) w5 bt bm (Apd.at_ i acc) (Tr.size (Apd.at_ i acc)) := hB4.step hx5 hkind hB hlt5
    have hx05 : Ext none_ w w5 := hx4.trans' hx5 fun k hk e => by have := own_new hown k e; omega
    have hbp5 : BytA w5 (.slice pa pb.length pc) pb := (hb _ (List.mem_of_getElem? hp)).ext0 hx05
    have hv5 := (hv.ext0 hx05)
    have hacc : acc.length ≤ 4000 := by omega
    have hall : (acc ++ pb).length ≤ 4000 := by simp; omega
    obtain ⟨ho1, ho2⟩ := Apd.ok i acc hacc
    have hck5 : w5.cell? ⟨ab, ao + i * 1, none⟩ = some (.slice pa pb.length pc) := by
      obtain ⟨ab', ao', ac', hv', -, -, -, hcell'⟩ := hv5.plain (by intro e; have := congrArg List.length e; rw [List.length_map, List.length_nil] at this; omega)
      cases hv'
      rw [Nat.mul_one]; exact hcell' i _ (by rw [List.getElem?_map, hp]; rfl)
    refine W.seq ?_
    refine W.reg <| mv rfl rfl <| mv rfl rfl <| mv rfl rfl <| ixa rfl rfl u_bss sz_bytes rfl (by omega) (by omega) <| ld1 rfl ag_bytes rfl hck5 <| call (vs := [_, .string (S Apd.p), _]) rfl rfl ok_Append (c_Append Apd.p ⟨hA5, ho1, ho2⟩ hbp5 (by omega)) ?_
    rintro e w6 ⟨rfl, hA6, hx6⟩
    refine ⟨_, rfl, ?_⟩
    rw [Apd.append i acc pb hacc (by omega) hi0] at hA6 ⊢
    dsimp only at hA6 ⊢
    have hs5 := hx05.size
    have hs45 := hx5.size
    have hB6 := hB5.other hA5 hx6 (fun e => hdis.1 e.symm) (fun e => hdis.2 e.symm)
    have hown6 : Byts w3.heap.size w6 va' (acc ++ pb) := own_ext hown5 hx6 fun k hk e => by
      obtain ⟨c', fr, hc'⟩ := own_kind hown5 k hk
      have := hA5.kd k e _ _ _ hc'
      exact this.2 rfl
    have hbw : BytA w6 va' (acc ++ pb) := (Row.own hown6).arg
    (repeat (first | refine mv rfl rfl ?_ | refine asg rfl rfl ?_ | refine L.off rfl rfl rfl rfl rfl ?_ | refine L.offU rfl rfl rfl rfl ?_ | refine L.on rfl rfl rfl ?_ | refine pickT rfl rfl rfl ?_ | refine pickF rfl rfl rfl ?_ | refine ext rfl rfl rfl ?_ | refine nilc rfl rfl ?_ | refine lenV (t := 46) rfl u_strs rfl ?_ | refine lenV (t := 25) rfl u_bytes rfl ?_ | refine lenV (t := 22) rfl u_files rfl ?_ | refine lenS (t := 9) rfl u_str rfl ?_ | refine eqlI rfl rfl rfl ?_ | refine neqI rfl rfl rfl ?_ | refine lssI rfl rfl rfl ?_ | refine leqI rfl rfl rfl ?_ | refine gtrI rfl rfl rfl ?_ | refine geqI rfl rfl rfl ?_))
    refine call (vs := [_, .string (S Apd.p), _]) rfl rfl ok_Write (c_Write Apd.p ⟨hB6, ho1, ho2⟩ hbw (by omega)) ?_
    rintro e w7 ⟨rfl, hB7, hx7⟩
    refine ⟨_, rfl, ?_⟩
    rw [Apd.write i acc (acc ++ pb) hacc hall] at hB7 ⊢
    dsimp only at hB7 ⊢
    refine L.on rfl rfl rfl <| neqI rfl rfl rfl <| pickF rfl rfl rfl <| L.nil ?_
    refine N.th ?_
    refine W.condF rfl ?_
    refine W.skip ?_
    refine N.inb ?_
    refine N.th ?_
    refine W.reg <| mv rfl rfl <| addI (c := ((i + 1 : Nat) : Int)) rfl rfl rfl (by rw [w64 (by omega) (by omega)]; simp) <| asg rfl rfl <| L.nil ?_
    have hA7 := hA6.other hB6 hx7 hdis.1 hdis.2
    have hown7 : Byts w3.heap.size w7 va' (acc ++ pb) := own_ext hown6 hx7 fun k hk e => by
      obtain ⟨c', fr, hc'⟩ := own_kind hown6 k hk
      have := hB6.kd k e _ _ _ hc'
      exact this.2 rfl
    have hnext : Apd.at_ (i + 1) (acc ++ pb) = Apd.one (acc ++ pb) := by unfold Apd.at_; rw [if_neg (by omega)]
    have hs6 := hx6.size
    have hs7 := hx7.size
    refine N.th (N.round (x := (i + 1, acc ++ pb, va')) ⟨rfl, rfl, rfl, rfl, rfl, trivial⟩ ⟨by dsimp only; omega, by dsimp only; simp; omega, fun e => by simp at e, hown7, ?_, ?_, ?_, by omega⟩ (by dsimp only; omega))   -- ROUND
    · dsimp only; rw [hnext]; exact hA7
    · dsimp only; rw [hnext]; exact hB7
    · exact (hx05.trans' hx6 (hTw (by omega) (by omega))).trans' hx7 (hTw (by omega) (by omega))
  · refine W.exit ?_
    refine N.xth ?_
    refine N.xth ?_
    refine N.xeq ?_
    refine N.th ?_
    have hacc : acc.length ≤ 4000 := by omega
    obtain ⟨ho1, ho2⟩ := Apd.ok i acc hacc
    refine W.seq ?_
    refine W.reg <| mv rfl rfl <| call (vs := [_]) rfl rfl ok_Files (c_Files hA4 (by omega) (by omega)) ?_
    rintro e w5 ⟨vx, Ea, rfl, hEa, hvx, hfa, hx5⟩
    refine ⟨_, rfl, ?_⟩
    refine mv rfl rfl <| call (vs := [_]) rfl rfl ok_Files (c_Files (hB4.ext0 hx5) (by omega) (by omega)) ?_
    rintro e w6 ⟨vy, Eb, rfl, hEb, hvy, hfb, hx6⟩
    refine ⟨_, rfl, ?_⟩
    have hFa : FilesAt w6 vx Ea := FilesAt.ext0 ⟨Row.own hvx, fun z hz => Row.own (hfa z hz)⟩ hx6
    have hFb : FilesAt w6 vy Eb := ⟨Row.own hvy, fun z hz => Row.own (hfb z hz)⟩
    have hEal : Ea.length = (Apd.at_ i acc).length := by have := congrArg List.length hEa; simpa [Tr.files] using this
    have hEbl : Eb.length = (Apd.at_ i acc).length := by have := congrArg List.length hEb; simpa [Tr.files] using this
    refine call (vs := [_, _]) rfl rfl ok_HFiles (c_HFiles hFa hFb (by omega) (by omega)) ?_
    rintro e w7 ⟨rfl, hx7⟩
    refine ⟨_, rfl, ?_⟩
    rw [decide_eq_true (show Ea.map fnd = Eb.map fnd by rw [hEa, hEb])]
    refine asg rfl rfl <| L.nil ?_
    refine N.th ?_
    refine W.ret ?_
    refine N.ret1 rfl rfl ?_   -- RETURN
    exact ⟨rfl, hx4.trans (hx5.trans (hx6.trans hx7))⟩
end Go.Proofs.YtmdpmpdlkaogdaaGreatDoor
