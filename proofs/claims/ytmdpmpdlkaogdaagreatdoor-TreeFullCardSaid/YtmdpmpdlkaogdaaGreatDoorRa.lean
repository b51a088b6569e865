/- Walks: haversackref7.Split, bad, glue. -/
import Derived.Test.YtmdpmpdlkaogdaaGreatDoorPa
import Derived.Test.YtmdpmpdlkaogdaaGreatDoorVt
namespace Go.Proofs.YtmdpmpdlkaogdaaGreatDoor
open Go Go.RowKit Vc

theorem ok_RSplit : FnOk P 80 := ⟨_, Tryz.func80, by kernel_rfl, by kernel_rfl⟩
theorem ok_Rbad : FnOk P 95 := ⟨_, Tryz.func95, by kernel_rfl, by kernel_rfl⟩
theorem ok_Rglue : FnOk P 83 := ⟨_, Tryz.func83, by kernel_rfl, by kernel_rfl⟩
abbrev StrsA (B : Nat) (w : World) (v : Value) (l : List Sp.Bytes) : Prop := w.ownsRow B 9 1 v l.length (encT l)

theorem rsplit_app (a b : Sp.Bytes) (h : 47 ∉ a) : Sp.split (a ++ 47 :: b) = a :: Sp.split b := by
  induction a with
  | nil => simp [Sp.split]
  | cons c a ih =>
    simp only [List.mem_cons, not_or] at h
    rw [List.cons_append]
    show (if c = 47 then [] :: Sp.split (a ++ 47 :: b) else _) = _
    rw [if_neg (fun e => h.1 e.symm), ih h.2]
theorem rsplit_one (a : Sp.Bytes) (h : 47 ∉ a) : Sp.split a = [a] := by
  induction a with
  | nil => rfl
  | cons c a ih =>
    simp only [List.mem_cons, not_or] at h
    show (if c = 47 then [] :: Sp.split a else _) = _
    rw [if_neg (fun e => h.1 e.symm), ih h.2]
/-- Between two rounds. -/
structure SplitI (w0 : World) (s : Sp.Bytes) (i from_ : Nat) (out : List Sp.Bytes) (v : Value) (w : World) : Prop where
  own : StrsA w0.heap.size w v out
  ext : Ext none_ w0 w
  le : i ≤ s.length + 1
  len : out.length ≤ i
  on : i ≤ s.length → from_ ≤ i ∧ Sp.split s = out ++ Sp.split (s.drop from_) ∧ 47 ∉ (s.drop from_).take (i - from_)
  off : i = s.length + 1 → out = Sp.split s

theorem drop_at {s : Sp.Bytes} {f i : Nat} {b : UInt8} (h : f ≤ i) (hb : s[i]? = some b) : s.drop f = (s.drop f).take (i - f) ++ b :: s.drop (i + 1) := by
  have h1 : s.drop f = (s.drop f).take (i - f) ++ (s.drop f).drop (i - f) := (List.take_append_drop _ _).symm
  have h2 : (s.drop f).drop (i - f) = s.drop i := by rw [List.drop_drop]; congr 1; omega
  have h3 : s.drop i = b :: s.drop (i + 1) := by
    obtain ⟨hi, rfl⟩ := List.getElem?_eq_some_iff.1 hb
    exact List.drop_eq_getElem_cons hi
  rw [h2, h3] at h1
  exact h1

theorem c_RSplit (s : Sp.Bytes) (hs : s.length ≤ 1000000000) (w : World) : Calls P 80 #[.string (S s)] w fun e w' => ∃ v, e = .returned v ∧ StrsA w.heap.size w' v (Sp.split s) ∧ Ext none_ w w' := by
  refine enter (l := [_]) (n := 32) Tryz.func80 rfl rfl rfl ?_
  refine W.seq ?_
  refine W.reg <| asg rfl rfl <| L.nil ?_
  refine N.th ?_
  refine W.seq ?_
  refine W.reg <| asg rfl rfl <| L.nil ?_
  refine N.th ?_
  refine W.seq ?_
  refine W.reg <| asg rfl rfl <| L.nil ?_
  refine N.th ?_
  refine W.seq ?_
  refine W.seq ?_
  refine W.reg <| asg rfl rfl <| L.nil ?_
  refine N.th ?_
  refine W.block ?_
  refine W.loop (X := Nat × Nat × List Sp.Bytes × Value) (fun x => [(0, .string (S s)), (3, x.2.2.2), (4, .int .i64 x.2.1), (5, .int .i64 x.1)]) (fun x w' => SplitI w s x.1 x.2.1 x.2.2.1 x.2.2.2 w') (fun x => s.length + 1 - x.1) (0, 0, [], .slice none 0 0) ⟨rfl, rfl, rfl, rfl, trivial⟩
    ⟨own_nil _ _ _ _, Ext.refl _ _, by simp, by simp, fun _ => ⟨Nat.le_refl _, by simp, by simp⟩, fun h => by simp at h⟩ ?_
  rintro ⟨i, f, out, v⟩ w1 hI
  obtain ⟨hown, hx, hle, hlen, hon, hoff⟩ := id hI
  dsimp only at hown hx hle hlen hon hoff ⊢
  refine W.seq ?_
  refine W.seq ?_
  refine W.reg <| mv rfl rfl <| mv rfl rfl <| lenS rfl u_str rfl <| leqI rfl rfl rfl <| L.nil ?_
  refine N.th ?_
  refine W.cond rfl (fun h => ?_) (fun h => ?_)
  · have hi : i ≤ s.length := by simp at h; omega
    obtain ⟨hf, hsp, hno⟩ := hon hi
    refine W.skip ?_
    refine N.th ?_
    refine W.seqM (fun E w' => ∃ (f' : Nat) (out' : List Sp.Bytes) (v' : Value), E = [(0, .string (S s)), (3, v'), (4, .int .i64 f'), (5, .int .i64 i)] ∧ SplitI w s (i + 1) f' out' v' w') ?_ ?_   -- CUT
    · refine W.block ?_
      refine W.seqM (fun E w' => ∃ c, E = [(21, .bool c), (0, .string (S s)), (3, v), (4, .int .i64 f), (5, .int .i64 i)] ∧ w' = w1 ∧ (c = true → i = s.length ∨ s[i]? = some 47) ∧ (c = false → ∃ b, s[i]? = some b ∧ b ≠ 47)) ?_ ?_
      · refine W.reg <| mv rfl rfl <| mv rfl rfl <| lenS rfl u_str rfl <| eqlI rfl rfl rfl <| ?_
        by_cases he : i = s.length
        · refine Vc.bt (by simp [he]) ?_
          refine mv rfl rfl <| L.off rfl rfl rfl rfl rfl <| L.off rfl rfl rfl rfl rfl <| L.off rfl rfl rfl rfl rfl <| L.off rfl rfl rfl rfl rfl <| pickT rfl rfl rfl <| L.nil ?_
          exact N.th (N.meet [(21, _), (0, _), (3, _), (4, _), (5, _)] ⟨rfl, rfl, rfl, rfl, rfl, trivial⟩ ⟨true, rfl, rfl, fun _ => .inl he, fun h => by cases h⟩)
        · obtain ⟨b, hb⟩ : ∃ b, s[i]? = some b := ⟨_, List.getElem?_eq_getElem (by omega)⟩
          refine Vc.bf (by simp; omega) ?_
          refine mv rfl rfl <| L.on rfl rfl rfl <| mv rfl rfl <| L.on rfl rfl rfl <| mv rfl rfl <| L.on rfl rfl rfl <| idxS rfl rfl u_str rfl (by omega) (b := b) (by simpa using hb) <| L.on rfl rfl rfl <| eqlI rfl rfl rfl <| pickF rfl rfl rfl <| L.nil ?_
          refine N.th (N.meet [(21, _), (0, _), (3, _), (4, _), (5, _)] ⟨rfl, rfl, rfl, rfl, rfl, trivial⟩ ⟨_, rfl, rfl, fun h => ?_, fun h => ?_⟩)
          · right
            have : b = 47 := UInt8.toNat_inj.1 (by simp at h; simp; omega)
            rw [hb, this]
          · refine ⟨b, hb, fun e => ?_⟩
            subst e
            simp at h
      rintro E w2 ⟨c, rfl, rfl, hc1, hc2⟩
      refine W.cond rfl (fun h => ?_) (fun h => ?_)
      · refine W.seq ?_
        refine W.reg <| mv rfl rfl <| mv rfl rfl <| mv rfl rfl <| mv rfl rfl <| slS rfl rfl rfl u_str rfl (by omega) (by omega) (by omega) <|
          push1 (cs := #[.string (S ((s.drop f).take (i - f)))]) rfl rfl rfl rfl (fun _ => by kernel_rfl) el_strs rfl rfl hown (by omega) (by simp only [maxLen]; omega) hx.size fun v' w3 hown3 hx3 => ?_
        refine asg rfl rfl <| L.nil ?_
        refine N.th ?_
        refine W.reg <| mv rfl rfl <| addI (c := ((i + 1 : Nat) : Int)) rfl rfl rfl (by rw [w64 (by omega) (by omega)]; simp) <| asg rfl rfl <| L.nil ?_
        refine N.inb ?_
        refine N.th (N.meet [(0, _), (3, v'), (4, _), (5, _)] ⟨rfl, rfl, rfl, rfl, trivial⟩ ⟨i + 1, out ++ [(s.drop f).take (i - f)], v', rfl, by simpa [StrsA, encT] using hown3, hx.own hown hx3, by omega, by simp; omega, fun hi1 => ?_, fun hi1 => ?_⟩)   -- MEET
        · have hb := (hc1 h).resolve_left (by omega)
          refine ⟨Nat.le_refl _, ?_, by simp⟩
          have := congrArg Sp.split (drop_at hf hb)
          rw [rsplit_app _ _ hno] at this
          rw [hsp, this]
          simp
        · have hil : i = s.length := by omega
          have : (s.drop f).take (i - f) = s.drop f := List.take_of_length_le (by simp; omega)
          rw [this] at hno ⊢
          rw [hsp, rsplit_one _ hno]
      · refine W.skip ?_
        refine N.inb ?_
        obtain ⟨b, hb, hb47⟩ := hc2 h
        have hil : i < s.length := (List.getElem?_eq_some_iff.1 hb).1
        refine N.th (N.meet [(0, _), (3, v), (4, _), (5, _)] ⟨rfl, rfl, rfl, rfl, trivial⟩ ⟨f, out, v, rfl, hown, hx, by omega, by omega, fun hi1 => ⟨by omega, hsp, ?_⟩, fun hi1 => by omega⟩)   -- MEET
        have e1 : (s.drop f).take (i + 1 - f) = (s.drop f).take (i - f) ++ [b] := by
          have hg : (s.drop f)[i - f]? = some b := by rw [List.getElem?_drop, ← hb]; congr 1; omega
          rw [show i + 1 - f = (i - f) + 1 by omega, List.take_add_one, hg]; rfl
        rw [e1]
        simp only [List.mem_append, List.mem_singleton, not_or]
        exact ⟨hno, fun e => hb47 e.symm⟩
    rintro E w3 ⟨f', out', v', rfl, hI'⟩
    refine W.reg <| mv rfl rfl <| addI (c := ((i + 1 : Nat) : Int)) rfl rfl rfl (by rw [w64 (by omega) (by omega)]; simp) <| asg rfl rfl <| L.nil ?_
    refine N.th (N.round (x := (i + 1, f', out', v')) ⟨rfl, rfl, rfl, rfl, trivial⟩ hI' (by dsimp only; omega))   -- ROUND
  · refine W.exit ?_
    refine N.xth ?_
    refine N.xth ?_
    refine N.xeq ?_
    refine N.th ?_
    refine W.seq ?_
    refine W.reg <| mv rfl rfl <| asg rfl rfl <| L.nil ?_
    refine N.th ?_
    refine W.ret ?_
    refine N.ret1 rfl rfl ?_   -- RETURN
    have hi : i = s.length + 1 := by simp at h; omega
    rw [← hoff hi]
    exact ⟨_, rfl, hown, hx⟩

/-- Is something wrong with a part? -/
def rbad (s : Sp.Bytes) : Bool := !decide (Sp.part s = 0)
def wrongB (c : UInt8) : Bool := c.toNat < 33 || 126 < c.toNat || c.toNat = 34 || c.toNat = 92 || c.toNat = 42 || c.toNat = 63 || c.toNat = 58
theorem wrong_right (c : UInt8) : wrongB c = !Sp.right c := by
  have h : ((List.range 256).all fun n => wrongB (UInt8.ofNat n) == !Sp.right (UInt8.ofNat n)) = true := by kernel_rfl
  have := List.all_eq_true.1 h c.toNat (List.mem_range.2 c.toNat_lt)
  simpa using this

theorem c_Rbad (s : Sp.Bytes) (hs : s.length ≤ 1000000000) (w : World) : Calls P 95 #[.string (S s)] w fun e w' => e = .returned (.bool (rbad s)) ∧ w = w' := by
  refine enter (l := [_]) (n := 43) Tryz.func95 rfl rfl rfl ?_
  refine W.seq ?_
  refine W.reg <| asg rfl rfl <| L.nil ?_
  refine N.th ?_
  refine W.seq ?_
  refine W.seq ?_
  refine W.reg <| mv rfl rfl <| lenS rfl u_str rfl <| gtrI rfl rfl rfl <| L.nil ?_
  refine N.th ?_
  refine W.cond rfl (fun h => ?_) (fun h => ?_)
  · refine W.seq ?_
    refine W.reg <| asg rfl rfl <| L.nil ?_
    refine N.th ?_
    refine W.ret ?_
    refine N.rth ?_
    refine N.ret1 rfl rfl ?_   -- RETURN
    have h1 : 32 < s.length := by simp at h; omega
    exact ⟨by simp [rbad, Sp.part, h1], rfl⟩
  have h1 : ¬ 32 < s.length := by simp at h; omega
  refine W.skip ?_
  refine N.th ?_
  refine W.seq ?_
  refine W.seq ?_
  refine W.reg <| asg rfl rfl <| L.nil ?_
  refine N.th ?_
  refine W.block ?_
  refine W.loop (X := Nat) (fun i => [(0, .string (S s)), (3, .int .i64 i)]) (fun i w' => i ≤ s.length ∧ w' = w ∧ (s.take i).all Sp.right = true) (fun i => s.length - i) 0 ⟨rfl, rfl, trivial⟩ ⟨by omega, rfl, rfl⟩ ?_
  rintro i w1 ⟨hi, rfl, hall⟩
  refine W.seq ?_
  refine W.seq ?_
  refine W.reg <| mv rfl rfl <| mv rfl rfl <| lenS rfl u_str rfl <| lssI rfl rfl rfl <| L.nil ?_
  refine N.th ?_
  refine W.cond rfl (fun h => ?_) (fun h => ?_)
  · refine W.skip ?_
    refine N.th ?_
    have hi1 : i < s.length := by simp at h; omega
    obtain ⟨b, hb⟩ : ∃ b, s[i]? = some b := ⟨_, List.getElem?_eq_getElem hi1⟩
    refine W.seq ?_
    refine W.block ?_
    refine W.seq ?_
    refine W.reg <| mv rfl rfl <| mv rfl rfl <| idxS rfl rfl u_str rfl (by omega) (b := b) (by simpa using hb) <| asg rfl rfl <| L.nil ?_
    refine N.th ?_
    refine W.seqM (fun E w' => E = [(42, .bool (wrongB b)), (0, .string (S s)), (3, .int .i64 i)] ∧ w' = w1) ?_ ?_
    · refine W.reg <| mv rfl rfl <| lssI rfl rfl rfl <| ?_
      cases c1 : decide ((b.toNat : Int) < 33) with
      | true =>
        refine mv rfl rfl <| L.off rfl rfl rfl rfl rfl <| L.off rfl rfl rfl rfl rfl <| pickT rfl rfl rfl <| mv rfl rfl <| L.off rfl rfl rfl rfl rfl <| L.off rfl rfl rfl rfl rfl <| pickT rfl rfl rfl <| mv rfl rfl <| L.off rfl rfl rfl rfl rfl <| L.off rfl rfl rfl rfl rfl <| pickT rfl rfl rfl <| mv rfl rfl <| L.off rfl rfl rfl rfl rfl <| L.off rfl rfl rfl rfl rfl <| pickT rfl rfl rfl <| mv rfl rfl <| L.off rfl rfl rfl rfl rfl <| L.off rfl rfl rfl rfl rfl <| pickT rfl rfl rfl <| mv rfl rfl <| L.off rfl rfl rfl rfl rfl <| L.off rfl rfl rfl rfl rfl <| pickT rfl rfl rfl <| L.nil ?_
        refine N.th (N.meet [(42, .bool true), (0, _), (3, _)] ⟨rfl, rfl, rfl, trivial⟩ ⟨?_, rfl⟩)
        have : b.toNat < 33 := by simp at c1; omega
        simp [wrongB, this]
      | false =>
      refine mv rfl rfl <| L.on rfl rfl rfl <| mv rfl rfl <| L.on rfl rfl rfl <| gtrI rfl rfl rfl <| pickF rfl rfl rfl <| ?_
      cases c2 : decide ((126 : Int) < b.toNat) with
      | true =>
        refine mv rfl rfl <| L.off rfl rfl rfl rfl rfl <| L.off rfl rfl rfl rfl rfl <| pickT rfl rfl rfl <| mv rfl rfl <| L.off rfl rfl rfl rfl rfl <| L.off rfl rfl rfl rfl rfl <| pickT rfl rfl rfl <| mv rfl rfl <| L.off rfl rfl rfl rfl rfl <| L.off rfl rfl rfl rfl rfl <| pickT rfl rfl rfl <| mv rfl rfl <| L.off rfl rfl rfl rfl rfl <| L.off rfl rfl rfl rfl rfl <| pickT rfl rfl rfl <| mv rfl rfl <| L.off rfl rfl rfl rfl rfl <| L.off rfl rfl rfl rfl rfl <| pickT rfl rfl rfl <| L.nil ?_
        refine N.th (N.meet [(42, .bool true), (0, _), (3, _)] ⟨rfl, rfl, rfl, trivial⟩ ⟨?_, rfl⟩)
        have : 126 < b.toNat := by simp at c2; omega
        simp [wrongB, this]
      | false =>
      refine mv rfl rfl <| L.on rfl rfl rfl <| mv rfl rfl <| L.on rfl rfl rfl <| eqlI rfl rfl rfl <| pickF rfl rfl rfl <| ?_
      cases c3 : decide ((b.toNat : Int) = 34) with
      | true =>
        refine mv rfl rfl <| L.off rfl rfl rfl rfl rfl <| L.off rfl rfl rfl rfl rfl <| pickT rfl rfl rfl <| mv rfl rfl <| L.off rfl rfl rfl rfl rfl <| L.off rfl rfl rfl rfl rfl <| pickT rfl rfl rfl <| mv rfl rfl <| L.off rfl rfl rfl rfl rfl <| L.off rfl rfl rfl rfl rfl <| pickT rfl rfl rfl <| mv rfl rfl <| L.off rfl rfl rfl rfl rfl <| L.off rfl rfl rfl rfl rfl <| pickT rfl rfl rfl <| L.nil ?_
        refine N.th (N.meet [(42, .bool true), (0, _), (3, _)] ⟨rfl, rfl, rfl, trivial⟩ ⟨?_, rfl⟩)
        have : b.toNat = 34 := by simp at c3; omega
        simp [wrongB, this]
      | false =>
      refine mv rfl rfl <| L.on rfl rfl rfl <| mv rfl rfl <| L.on rfl rfl rfl <| eqlI rfl rfl rfl <| pickF rfl rfl rfl <| ?_
      cases c4 : decide ((b.toNat : Int) = 92) with
      | true =>
        refine mv rfl rfl <| L.off rfl rfl rfl rfl rfl <| L.off rfl rfl rfl rfl rfl <| pickT rfl rfl rfl <| mv rfl rfl <| L.off rfl rfl rfl rfl rfl <| L.off rfl rfl rfl rfl rfl <| pickT rfl rfl rfl <| mv rfl rfl <| L.off rfl rfl rfl rfl rfl <| L.off rfl rfl rfl rfl rfl <| pickT rfl rfl rfl <| L.nil ?_
        refine N.th (N.meet [(42, .bool true), (0, _), (3, _)] ⟨rfl, rfl, rfl, trivial⟩ ⟨?_, rfl⟩)
        have : b.toNat = 92 := by simp at c4; omega
        simp [wrongB, this]
      | false =>
      refine mv rfl rfl <| L.on rfl rfl rfl <| mv rfl rfl <| L.on rfl rfl rfl <| eqlI rfl rfl rfl <| pickF rfl rfl rfl <| ?_
      cases c5 : decide ((b.toNat : Int) = 42) with
      | true =>
        refine mv rfl rfl <| L.off rfl rfl rfl rfl rfl <| L.off rfl rfl rfl rfl rfl <| pickT rfl rfl rfl <| mv rfl rfl <| L.off rfl rfl rfl rfl rfl <| L.off rfl rfl rfl rfl rfl <| pickT rfl rfl rfl <| L.nil ?_
        refine N.th (N.meet [(42, .bool true), (0, _), (3, _)] ⟨rfl, rfl, rfl, trivial⟩ ⟨?_, rfl⟩)
        have : b.toNat = 42 := by simp at c5; omega
        simp [wrongB, this]
      | false =>
      refine mv rfl rfl <| L.on rfl rfl rfl <| mv rfl rfl <| L.on rfl rfl rfl <| eqlI rfl rfl rfl <| pickF rfl rfl rfl <| ?_
      cases c6 : decide ((b.toNat : Int) = 63) with
      | true =>
        refine mv rfl rfl <| L.off rfl rfl rfl rfl rfl <| L.off rfl rfl rfl rfl rfl <| pickT rfl rfl rfl <| L.nil ?_
        refine N.th (N.meet [(42, .bool true), (0, _), (3, _)] ⟨rfl, rfl, rfl, trivial⟩ ⟨?_, rfl⟩)
        have : b.toNat = 63 := by simp at c6; omega
        simp [wrongB, this]
      | false =>
      refine mv rfl rfl <| L.on rfl rfl rfl <| mv rfl rfl <| L.on rfl rfl rfl <| eqlI rfl rfl rfl <| pickF rfl rfl rfl <| L.nil ?_
      refine N.th (N.meet [(42, .bool (decide ((b.toNat : Int) = 58))), (0, _), (3, _)] ⟨rfl, rfl, rfl, trivial⟩ ⟨?_, rfl⟩)
      have d1 : ¬ b.toNat < 33 := by simp at c1; omega
      have d2 : ¬ 126 < b.toNat := by simp at c2; omega
      have d3 : ¬ b.toNat = 34 := by simp at c3; omega
      have d4 : ¬ b.toNat = 92 := by simp at c4; omega
      have d5 : ¬ b.toNat = 42 := by simp at c5; omega
      have d6 : ¬ b.toNat = 63 := by simp at c6; omega
      have d7 : decide ((b.toNat : Int) = 58) = decide (b.toNat = 58) := by apply Bool.eq_iff_iff.2; simp only [decide_eq_true_eq]; omega
      rw [d7]
      simp only [wrongB, d1, d2, d3, d4, d5, d6, decide_false, Bool.false_or, Bool.or_false]
    rintro E w2 ⟨rfl, rfl⟩
    refine W.cond rfl (fun h => ?_) (fun h => ?_)
    · refine W.seq ?_
      refine W.reg <| asg rfl rfl <| L.nil ?_
      refine N.th ?_
      refine W.ret ?_
      refine N.rinb <| N.rth <| N.rth <| N.rinb <| N.rth ?_
      refine N.ret1 rfl rfl ?_   -- RETURN
      rw [wrong_right] at h
      have hn : s.all Sp.right = false := by
        rw [List.all_eq_false]
        exact ⟨b, List.mem_of_getElem? hb, by simpa using h⟩
      exact ⟨by simp [rbad, Sp.part, h1, hn], rfl⟩
    · refine W.skip ?_
      refine N.inb ?_
      refine N.th ?_
      refine W.reg <| mv rfl rfl <| addI (c := ((i + 1 : Nat) : Int)) rfl rfl rfl (by rw [w64 (by omega) (by omega)]; simp) <| asg rfl rfl <| L.nil ?_
      refine N.th (N.round (x := i + 1) ⟨rfl, rfl, trivial⟩ ⟨by omega, rfl, ?_⟩ (by omega))   -- ROUND
      rw [wrong_right] at h
      rw [List.take_add_one, hb, List.all_append, hall]
      simpa using h
  · refine W.exit ?_
    refine N.xth ?_
    refine N.xth ?_
    refine N.xeq ?_
    refine N.th ?_
    refine W.seq ?_
    refine W.reg <| asg rfl rfl <| L.nil ?_
    refine N.th ?_
    refine W.ret ?_
    refine N.ret1 rfl rfl ?_   -- RETURN
    have hi1 : i = s.length := by simp at h; omega
    rw [hi1, List.take_length] at hall
    exact ⟨by simp [rbad, Sp.part, h1, hall], rfl⟩

/-- Glued, from before. -/
theorem glue_snoc (l : List Sp.Bytes) (x : Sp.Bytes) : Sp.glue (l ++ [x]) = if l = [] then x else Sp.glue l ++ 47 :: x := by
  induction l with
  | nil => rfl
  | cons y l ih =>
    rw [if_neg (by simp)]
    cases l with
    | nil => rfl
    | cons z l =>
      rw [if_neg (by simp)] at ih
      show y ++ 47 :: Sp.glue (z :: l ++ [x]) = (y ++ 47 :: Sp.glue (z :: l)) ++ 47 :: x
      rw [ih]; simp
theorem glue_take_len (l : List Sp.Bytes) (i : Nat) : (Sp.glue (l.take i)).length ≤ (Sp.glue l).length := by
  induction l generalizing i with
  | nil => simp
  | cons x l ih =>
    cases i with
    | zero => simp [Sp.glue]
    | succ i =>
      cases l with
      | nil => simp [Sp.glue]
      | cons y l =>
        rw [List.take_succ_cons]
        cases i with
        | zero => simp [Sp.glue]
        | succ i =>
          have := ih (i + 1)
          rw [List.take_succ_cons] at this ⊢
          simp only [Sp.glue, List.length_append, List.length_cons] at this ⊢
          omega

theorem c_Rglue (w : World) (v : Value) (l : List Sp.Bytes) (h : Row w v 9 1 l.length (encT l)) (hlen : (Sp.glue l).length ≤ 1000000000) (hn : l.length ≤ 1000000000) :
    Calls P 83 #[v] w fun e w' => e = .returned (.string (S (Sp.glue l))) ∧ w = w' := by
  obtain ⟨-, a, c, rfl, hnc, hmx, hnil, -⟩ := id h
  refine enter (l := [_]) (n := 22) Tryz.func83 rfl rfl rfl ?_
  refine W.seq ?_
  refine W.reg <| asg rfl rfl <| L.nil ?_
  refine N.th ?_
  refine W.seq ?_
  refine W.reg <| asg rfl rfl <| L.nil ?_
  refine N.th ?_
  refine W.seq ?_
  refine W.seq ?_
  refine W.reg <| asg rfl rfl <| L.nil ?_
  refine N.th ?_
  refine W.block ?_
  refine W.loop (X := Nat) (fun i => [(0, .slice a l.length c), (3, .string (S (Sp.glue (l.take i)))), (4, .int .i64 i)]) (fun i w' => i ≤ l.length ∧ w' = w) (fun i => l.length - i) 0 ⟨rfl, rfl, rfl, trivial⟩ ⟨by omega, rfl⟩ ?_
  rintro i w1 ⟨hi, rfl⟩
  refine W.seq ?_
  refine W.seq ?_
  refine W.reg <| mv rfl rfl <| mv rfl rfl <| lenV rfl u_strs rfl <| lssI rfl rfl rfl <| L.nil ?_
  refine N.th ?_
  refine W.cond rfl (fun hc => ?_) (fun hc => ?_)
  · refine W.skip ?_
    refine N.th ?_
    have hi1 : i < l.length := by simp at hc; omega
    obtain ⟨x, hx⟩ : ∃ x, l[i]? = some x := ⟨_, List.getElem?_eq_getElem hi1⟩
    have hg := glue_snoc (l.take i) x
    have htk : l.take i ++ [x] = l.take (i + 1) := by rw [List.take_add_one, hx]; rfl
    rw [htk] at hg
    have hgl := glue_take_len l (i + 1)
    rcases h.form with ⟨h0, h3, _⟩ | ⟨b, o, c', h0, -, -, -, hcell⟩
    · omega
    cases h0
    have hcx : w1.cell? ⟨b, o + i * 1, none⟩ = some (.string (S x)) := by rw [Nat.mul_one]; exact hcell i _ (by simp [encT, hx])
    refine W.seqM (fun E w' => E = [(0, .slice (some ⟨b, o, none⟩) l.length c), (3, .string (S (Sp.glue (l.take (i + 1))))), (4, .int .i64 i)] ∧ w' = w1) ?_ ?_   -- CUT
    · refine W.block ?_
      refine W.seqM (fun E w' => E = [(0, .slice (some ⟨b, o, none⟩) l.length c), (3, .string (S (if l.take i = [] then [] else Sp.glue (l.take i) ++ [47]))), (4, .int .i64 i)] ∧ w' = w1) ?_ ?_   -- CUT
      · refine W.seq ?_
        refine W.reg <| mv rfl rfl <| gtrI rfl rfl rfl <| L.nil ?_
        refine N.th ?_
        have hl0 : l.take i = [] ↔ i = 0 := by rw [← List.length_eq_zero_iff, List.length_take]; omega
        refine W.cond rfl (fun h => ?_) (fun h => ?_)
        · have h0 : i ≠ 0 := by simp at h; omega
          rw [if_neg (by rw [hl0]; exact h0)] at hg
          have : (Sp.glue (l.take i)).length + 1 ≤ 1000000000 := by rw [hg] at hgl; simp at hgl; omega
          refine W.reg <| mv rfl rfl <| addS (b := [47]) rfl rfl rfl (by simp; omega) <| asg rfl rfl <| L.nil ?_
          refine N.th (N.meet [(0, _), (3, _), (4, _)] ⟨rfl, rfl, rfl, trivial⟩ ⟨?_, rfl⟩)   -- MEET
          rw [if_neg (by rw [hl0]; exact h0)]
        · have h0 : i = 0 := by simp at h; omega
          subst h0
          refine W.skip ?_
          exact N.th (N.meet [(0, _), (3, _), (4, _)] ⟨rfl, rfl, rfl, trivial⟩ ⟨rfl, rfl⟩)   -- MEET
      rintro E w2 ⟨rfl, rfl⟩
      have hsum : (if l.take i = [] then [] else Sp.glue (l.take i) ++ [47]) ++ x = Sp.glue (l.take (i + 1)) := by
        rw [hg]; split <;> simp
      refine W.reg <| mv rfl rfl <| mv rfl rfl <| mv rfl rfl <| ixa rfl rfl u_strs sz_str rfl (by omega) (by omega) <| ld1 rfl ag_str rfl hcx <| addS (b := x) rfl rfl rfl (by rw [← List.length_append, hsum]; omega) <| asg rfl rfl <| L.nil ?_
      refine N.inb ?_
      refine N.th (N.meet [(0, _), (3, _), (4, _)] ⟨rfl, rfl, rfl, trivial⟩ ⟨?_, rfl⟩)   -- MEET
      rw [hsum]
    rintro E w2 ⟨rfl, rfl⟩
    refine W.reg <| mv rfl rfl <| addI (c := ((i + 1 : Nat) : Int)) rfl rfl rfl (by rw [w64 (by omega) (by omega)]; simp) <| asg rfl rfl <| L.nil ?_
    exact N.th (N.round (x := i + 1) ⟨rfl, rfl, rfl, trivial⟩ ⟨by omega, rfl⟩ (by omega))   -- ROUND
  · refine W.exit ?_
    refine N.xth ?_
    refine N.xth ?_
    refine N.xeq ?_
    refine N.th ?_
    refine W.seq ?_
    refine W.reg <| mv rfl rfl <| asg rfl rfl <| L.nil ?_
    refine N.th ?_
    refine W.ret ?_
    refine N.ret1 rfl rfl ?_   -- RETURN
    have hi1 : i = l.length := by simp at hc; omega
    rw [hi1, List.take_length]
    exact ⟨rfl, rfl⟩
end Go.Proofs.YtmdpmpdlkaogdaaGreatDoor
