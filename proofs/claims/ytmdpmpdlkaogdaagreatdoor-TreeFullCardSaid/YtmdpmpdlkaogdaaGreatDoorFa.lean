/- Plain laws: a tree that becomes full. No Go here. -/
import Derived.Test.YtmdpmpdlkaogdaaGreatDoorLo
namespace Go.Proofs.YtmdpmpdlkaogdaaGreatDoor
namespace Tr

theorem write_new {m : T} {p b : Bytes} (hc : Sp.clean p = (p, 0)) (hp : p ≠ []) (hpar : Sp.parent p = []) (hg : get m p = none) : write m p b = if 65536 < b.length ∨ room m 1 b.length = false then (m, 55) else (set m p (false, b), 0) := by
  have hat : at_ m p = none := by unfold at_; rw [if_neg hp, hg]
  have hah : ahead m p = some [] := by
    unfold ahead
    rw [hpar]
    cases p.length <;> rfl
  unfold write put
  rw [hc, if_neg (by simp)]
  dsimp only
  rw [hat]
  dsimp only
  rw [hah]
  rfl
def yk (j : Nat) : Bytes := [121, UInt8.ofNat (97 + j)]
theorem yk_ok : ∀ j, j < 18 → Sp.clean (yk j) = (yk j, 0) ∧ Sp.parent (yk j) = [] := by decide +kernel
theorem yk_inj : ∀ i, i < 18 → ∀ j, j < 18 → yk i = yk j → i = j := by decide +kernel

/-- After i writes. -/
structure Full (m : T) (s0 i : Nat) : Prop where
  ok : Ok m
  len : m.length ≤ i + 1
  new : ∀ j, i ≤ j → j < 18 → get m (yk j) = none
  sz : size m = s0 + 65536 * i ∨ 983040 < size m
theorem Full.first {b : Bytes} (hb : b.length ≤ 65537) : Full (write [] [120] b).1 (size (write [] [120] b).1) 0 ∧ (write [] [120] b).2 = if 65536 < b.length then 55 else 0 := by
  have hok : Ok (write [] [120] b).1 := Ok.nil.write _ _
  have hw := write_new (m := []) (p := [120]) (b := b) (by decide +kernel) (by simp) (by decide +kernel) rfl
  have hroom : room [] 1 b.length = true := by
    unfold room
    simp [size]
    omega
  rw [hroom] at hw
  by_cases h : 65536 < b.length
  · rw [if_pos (.inl h)] at hw
    rw [hw] at hok ⊢
    rw [if_pos h]
    exact ⟨⟨hok, by simp, fun j _ _ => rfl, .inl (by simp)⟩, rfl⟩
  · rw [if_neg (by simp [h])] at hw
    rw [hw] at hok ⊢
    rw [if_neg h]
    refine ⟨⟨hok, by simp [set], fun j _ _ => ?_, .inl (by simp)⟩, rfl⟩
    rw [get_set, if_neg (by simp [yk])]; rfl
theorem Full.step {m : T} {s0 i : Nat} {b : Bytes} (h : Full m s0 i) (hi : i < 18) (hb : b.length = 65536) : Full (write m (yk i) b).1 s0 (i + 1) ∧ ((write m (yk i) b).2 = 0 ∨ (write m (yk i) b).2 = 55) ∧ (i = 17 → (write m (yk i) b).2 = 55) := by
  have hok : Ok (write m (yk i) b).1 := h.ok.write _ _
  have hg := h.new i (Nat.le_refl _) hi
  have hw := write_new (b := b) (yk_ok i hi).1 (by simp [yk]) (yk_ok i hi).2 hg
  have hl := h.len
  have hmax := h.ok.bytes
  have hr : room m 1 b.length = decide (size m ≤ 983040) := by
    unfold room
    rw [hb, show decide ((1 : Int) ≤ 500 - (m.length : Int)) = true from decide_eq_true (by omega), Bool.true_and]
    exact decide_eq_decide.2 (by omega)
  rw [hr] at hw
  by_cases hs : size m ≤ 983040
  · have hsz : size m = s0 + 65536 * i := h.sz.resolve_right (by omega)
    rw [if_neg (by rw [decide_eq_true hs]; simp; omega)] at hw
    rw [hw] at hok ⊢
    refine ⟨⟨hok, ?_, fun j hj hj2 => ?_, .inl ?_⟩, .inl rfl, fun e => by omega⟩
    · have := len_set m (yk i) (false, b)
      rw [hg] at this
      simp at this
      dsimp only
      omega
    · rw [get_set, if_neg (fun e => by have := yk_inj j hj2 i hi e; omega)]
      exact h.new j (by omega) hj2
    · have := size_set h.ok.nodup (yk i) (false, b)
      have ho : old m (yk i) = 0 := by unfold old; rw [hg]; rfl
      dsimp only at this ⊢
      omega
  · rw [if_pos (.inr (decide_eq_false hs))] at hw
    rw [hw] at hok ⊢
    exact ⟨⟨hok, by dsimp only; omega, fun j hj hj2 => h.new j (by omega) hj2, .inr (by dsimp only; omega)⟩, .inr rfl, fun _ => rfl⟩
end Tr
end Go.Proofs.YtmdpmpdlkaogdaaGreatDoor
