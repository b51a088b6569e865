/- Walks: the library's functions that package path calls, in its own words; Parent, Within, Parts of nothing; strings.SplitSeq at a slash. -/
import Derived.Test.YtmdpmpdlkaogdaaGreatDoorPa
import Derived.Test.YtmdpmpdlkaogdaaGreatDoorVr
import Derived.Test.YtmdpmpdlkaogdaaGreatDoorSf
namespace Go.Proofs.YtmdpmpdlkaogdaaGreatDoor
open Go Go.RowKit Vc

theorem ok_HasPrefix : FnOk P 62 := ⟨_, Tryz.func62, by kernel_rfl, by kernel_rfl⟩
theorem ok_LastIndexByte : FnOk P 121 := ⟨_, Tryz.func121, by kernel_rfl, by kernel_rfl⟩
theorem ok_Index : FnOk P 154 := ⟨_, Tryz.func154, by kernel_rfl, by kernel_rfl⟩
theorem ok_Join_ : FnOk P 119 := ⟨_, Tryz.func119, by kernel_rfl, by kernel_rfl⟩
theorem ok_splitSeq : FnOk P 144 := ⟨_, Tryz.func144, by kernel_rfl, by kernel_rfl⟩
theorem ok_SplitSeq : FnOk P 127 := ⟨_, Tryz.func127, by kernel_rfl, by kernel_rfl⟩
theorem ok_Parent : FnOk P 103 := ⟨_, Tryz.func103, by kernel_rfl, by kernel_rfl⟩
theorem ok_Within : FnOk P 101 := ⟨_, Tryz.func101, by kernel_rfl, by kernel_rfl⟩

theorem c_HasPrefix (s p : Sp.Bytes) (w : World) : Calls P 62 #[.string (S s), .string (S p)] w fun e w' => e = .returned (.bool (p.isPrefixOf s)) ∧ w = w' :=
  (Tryz.strings_HasPrefix (S s) (S p) w).mono fun _ _ ⟨h1, h2⟩ => ⟨by rw [h1]; rfl, h2.symm⟩

theorem lastSlash_spec (s : Sp.Bytes) : (Sp.lastSlash s = -1 ∧ ∀ j (h : j < s.length), s[j] ≠ 47) ∨ ∃ i : Nat, Sp.lastSlash s = i ∧ (∃ h : i < s.length, s[i] = 47) ∧ ∀ j (h : j < s.length), i < j → s[j] ≠ 47 := by
  induction s with
  | nil => exact .inl ⟨rfl, fun j h => absurd h (Nat.not_lt_zero _)⟩
  | cons c s ih =>
    rcases ih with ⟨h1, h2⟩ | ⟨i, h1, ⟨h2, h3⟩, h4⟩
    · by_cases hc : c = 47
      · refine .inr ⟨0, by simp [Sp.lastSlash, h1, hc], ⟨by simp, by simpa using hc⟩, ?_⟩
        intro j hj hlt
        obtain ⟨j, rfl⟩ : ∃ k, j = k + 1 := ⟨j - 1, by omega⟩
        simpa using h2 j (by simpa using hj)
      · refine .inl ⟨by simp [Sp.lastSlash, h1, hc], ?_⟩
        intro j hj
        cases j with
        | zero => simpa using hc
        | succ j => simpa using h2 j (by simpa using hj)
    · refine .inr ⟨i + 1, by simp [Sp.lastSlash, h1], ⟨by simpa using h2, by simpa using h3⟩, ?_⟩
      intro j hj hlt
      obtain ⟨j, rfl⟩ : ∃ k, j = k + 1 := ⟨j - 1, by omega⟩
      simpa using h4 j (by simpa using hj) (by omega)
theorem lastIndex_eq (s : Sp.Bytes) : Lib.lastIndexByte (S s) 47 = Sp.lastSlash s := by
  have hb : ∀ j (h : j < s.length), ((S s).data[j]!).toNat = s[j].toNat := by intro j h; simp [S, h]
  have hn : ∀ j (h : j < s.length), s[j] = 47 ↔ (((S s).data[j]!).toNat : Int) = 47 := by
    intro j h
    rw [hb j h]
    constructor
    · intro e; rw [e]; rfl
    · intro e; apply UInt8.toNat_inj.1; simp; omega
  unfold Lib.lastIndexByte
  rw [S_size]
  rcases Lib.lastIdx_spec (S s) 47 s.length with ⟨h1, h2⟩ | ⟨i, hi, h1, h2, h3⟩
  · rcases lastSlash_spec s with ⟨g1, g2⟩ | ⟨k, g1, ⟨g2, g3⟩, g4⟩
    · rw [h1, g1]
    · exact absurd ((hn k g2).1 g3) (h2 k g2)
  · rcases lastSlash_spec s with ⟨g1, g2⟩ | ⟨k, g1, ⟨g2, g3⟩, g4⟩
    · exact absurd ((hn i hi).2 h2) (g2 i hi)
    · rw [h1, g1]
      rcases Nat.lt_trichotomy i k with h | h | h
      · exact absurd ((hn k g2).1 g3) (h3 k h g2)
      · rw [h]
      · exact absurd ((hn i hi).2 h2) (g4 i hi h)
theorem c_Last (s : Sp.Bytes) (hs : s.length ≤ 1000000000000) (w : World) : Calls P 121 #[.string (S s), .int .u8 47] w fun e w' => e = .returned (.int .i64 (Sp.lastSlash s)) ∧ w = w' :=
  (Tryz.strings_LastIndexByte (S s) 47 (by simp; omega) w).mono fun _ _ ⟨h1, h2⟩ => ⟨by rw [h1, lastIndex_eq], h2.symm⟩
theorem lastSlash_bd (s : Sp.Bytes) : -1 ≤ Sp.lastSlash s ∧ Sp.lastSlash s < s.length := by
  rcases lastSlash_spec s with ⟨g1, g2⟩ | ⟨k, g1, ⟨g2, g3⟩, g4⟩ <;> omega

theorem c_Parent (s : Sp.Bytes) (hs : s.length ≤ 1000000000000) (w : World) : Calls P 103 #[.string (S s)] w fun e w' => e = .returned (.string (S (Sp.parent s))) ∧ w = w' := by
  have hb := lastSlash_bd s
  refine enter (n := 8) Tryz.func103 rfl rfl rfl ?_
  refine W.seq ?_
  refine W.reg <| asg rfl rfl <| L.nil ?_
  refine N.th ?_
  refine W.seq ?_
  refine W.reg <| mv rfl rfl <| mv rfl rfl <| call (vs := [_, _]) rfl rfl ok_LastIndexByte (c_Last s hs _) ?_
  rintro e w' ⟨rfl, rfl⟩
  refine ⟨_, rfl, ?_⟩
  refine maxI rfl rfl rfl <| slSh rfl rfl u_str rfl (by omega) (by omega) <| asg rfl rfl <| L.nil ?_
  refine N.th ?_
  refine W.ret ?_
  exact N.ret1 rfl rfl ⟨rfl, rfl⟩

theorem within_eq (p d : Sp.Bytes) (h1 : d ≠ []) (h2 : p ≠ d) : Sp.within p d = (d ++ [47]).isPrefixOf p := by simp [Sp.within, h1, h2]
theorem c_Within (p d : Sp.Bytes) (hd : d.length ≤ 1000000000000) (w : World) : Calls P 101 #[.string (S p), .string (S d)] w fun e w' => e = .returned (.bool (Sp.within p d)) ∧ w = w' := by
  refine enter (n := 18) Tryz.func101 rfl rfl rfl ?_
  refine W.seq ?_
  refine W.reg <| asg rfl rfl <| L.nil ?_
  refine N.th ?_
  refine W.seq ?_
  by_cases h1 : d = []
  · refine W.reg <| mv rfl rfl <| eqlS (a := d) (b := []) rfl rfl rfl <| bt (by simp [h1]) <| mv rfl rfl <| L.off rfl rfl rfl rfl rfl <| L.off rfl rfl rfl rfl rfl <| L.off rfl rfl rfl rfl rfl <| pickT rfl rfl rfl <| mv rfl rfl <| L.off rfl rfl rfl rfl rfl <| L.off rfl rfl rfl rfl rfl <| L.off rfl rfl rfl rfl rfl <| L.off rfl rfl rfl rfl rfl <| pickT rfl rfl rfl <| asg rfl rfl <| L.nil ?_
    refine N.th ?_
    refine W.ret ?_
    exact N.ret1 rfl rfl ⟨by simp [Sp.within, h1], rfl⟩
  by_cases h2 : p = d
  · refine W.reg <| mv rfl rfl <| eqlS (a := d) (b := []) rfl rfl rfl <| bf (by simp [h1]) <| mv rfl rfl <| L.on rfl rfl rfl <| mv rfl rfl <| L.on rfl rfl rfl <| mv rfl rfl <| L.on rfl rfl rfl <| eqlS (a := p) (b := d) rfl rfl rfl <| bt (by simp [h2]) <| pickF rfl rfl rfl <| mv rfl rfl <| L.off rfl rfl rfl rfl rfl <| L.off rfl rfl rfl rfl rfl <| L.off rfl rfl rfl rfl rfl <| L.off rfl rfl rfl rfl rfl <| pickT rfl rfl rfl <| asg rfl rfl <| L.nil ?_
    refine N.th ?_
    refine W.ret ?_
    exact N.ret1 rfl rfl ⟨by simp [Sp.within, h2], rfl⟩
  refine W.reg <| mv rfl rfl <| eqlS (a := d) (b := []) rfl rfl rfl <| bf (by simp [h1]) <| mv rfl rfl <| L.on rfl rfl rfl <| mv rfl rfl <| L.on rfl rfl rfl <| mv rfl rfl <| L.on rfl rfl rfl <| eqlS (a := p) (b := d) rfl rfl rfl <| bf (by simp [h2]) <| pickF rfl rfl rfl <| mv rfl rfl <| L.on rfl rfl rfl <| mv rfl rfl <| L.on rfl rfl rfl <| mv rfl rfl <| L.on rfl rfl rfl <| addS (a := d) (b := [47]) rfl rfl rfl (by simp; omega) <| L.on rfl rfl rfl <| call (vs := [_, _]) rfl rfl ok_HasPrefix (c_HasPrefix p (d ++ [47]) _) ?_
  rintro e w' ⟨rfl, rfl⟩
  refine ⟨_, rfl, ?_⟩
  refine pickF rfl rfl rfl <| asg rfl rfl <| L.nil ?_
  refine N.th ?_
  refine W.ret ?_
  exact N.ret1 rfl rfl ⟨by rw [within_eq p d h1 h2], rfl⟩
end Go.Proofs.YtmdpmpdlkaogdaaGreatDoor
