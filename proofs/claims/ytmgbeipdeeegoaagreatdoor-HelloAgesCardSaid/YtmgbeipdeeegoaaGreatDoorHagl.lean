/- HelloAges: by its five ways. -/
import Derived.Test.YtmgbeipdeeegoaaGreatDoorHage
import Derived.IntWalk
import Derived.Laws.Bits64
namespace Go.Proofs.YtmgbeipdeeegoaaGreatDoor.S
open Go.AE

theorem bits_mask (x : Int) (n : Nat) (hn : n ≤ 62) : bitsI .and .i64 x (2 ^ n - 1 : Nat) = x % 2 ^ n := by
  have hp : (2 ^ n : Nat) ≤ 2 ^ 62 := Nat.pow_le_pow_right (by decide) hn
  have hp0 : 0 < (2 ^ n : Nat) := Nat.two_pow_pos n
  have key : ∀ m : Nat, Go.IntKind.i64.wrap ((m % 2 ^ n : Nat) : Int) = ((m % 2 ^ n : Nat) : Int) := by
    intro m
    have := Nat.mod_lt m hp0
    rw [Go.IntKind.wrap_i64]
    omega
  cases x with
  | ofNat m =>
    show Go.IntKind.i64.wrap (Int.ofNat (m &&& (2 ^ n - 1))) = _
    rw [Nat.and_two_pow_sub_one_eq_mod]
    show Go.IntKind.i64.wrap ((m % 2 ^ n : Nat) : Int) = ((m : Nat) : Int) % 2 ^ n
    rw [key]
    simp
  | negSucc m =>
    show Go.IntKind.i64.wrap (((BitVec.ofInt 64 (Int.negSucc m)) &&& (BitVec.ofInt 64 ((2 ^ n - 1 : Nat) : Int))).toNat : Int) = _
    have h1 : (BitVec.ofInt 64 ((2 ^ n - 1 : Nat) : Int)).toNat = 2 ^ n - 1 := by
      rw [BitVec.toNat_ofInt]
      have : (((2 ^ n - 1 : Nat) : Int) % ((2 ^ 64 : Nat) : Int)) = ((2 ^ n - 1 : Nat) : Int) := Int.emod_eq_of_lt (by omega) (by omega)
      rw [this]; rfl
    rw [BitVec.toNat_and, h1, Nat.and_two_pow_sub_one_eq_mod, key, BitVec.toNat_ofInt]
    have h2 : (((Int.negSucc m) % ((2 ^ 64 : Nat) : Int)).toNat : Int) = (Int.negSucc m) % ((2 ^ 64 : Nat) : Int) := Int.toNat_of_nonneg (Int.emod_nonneg _ (by decide))
    rw [Int.natCast_emod, h2]
    have hd : ((2 ^ n : Nat) : Int) ∣ ((2 ^ 64 : Nat) : Int) := by
      refine ⟨((2 ^ (64 - n) : Nat) : Int), ?_⟩
      rw [← Int.natCast_mul, ← Nat.pow_add]
      congr 2
      omega
    rw [Int.emod_emod_of_dvd _ hd]
    simp

theorem mask32 (x : Int) : bitsI .and .i64 x 4294967295 = x % 4294967296 := bits_mask x 32 (by decide)

theorem ages_run (got life clock add : Int) : wpT (callT hG19 d5 [.int .i64 got, .int .i64 life, .int .i64 clock, .int .i64 add] .e .h) fun l => ∃ hp nx, l = .val (.bool true) hp nx := by
  have hC : 0 ≤ aC clock ∧ aC clock ≤ 4294967295 := by unfold aC; rw [mask32]; omega
  have hA : 0 ≤ aA add ∧ aA add ≤ 4294967295 := by unfold aA; rw [mask32]; omega
  have hG0 : 0 ≤ aG0 got ∧ aG0 got ≤ 4294967295 := by unfold aG0; rw [mask32]; omega
  have hG1 : 0 ≤ aG1 got life clock ∧ aG1 got life clock ≤ 4294967295 := by unfold aG1; split <;> (try split at *) <;> (try split) <;> omega
  have hK : 0 ≤ aK life ∧ aK life ≤ 604800 := by
    unfold aK
    have h1 : 0 ≤ Go.IntKind.u64.wrap life := by rw [Go.IntKind.wrap_u64]; omega
    have h2 : Int.tmod (Go.IntKind.u64.wrap life) 604801 = (Go.IntKind.u64.wrap life) % 604801 := Int.tmod_eq_emod_of_nonneg h1
    rw [h2, Go.IntKind.wrap_i64]
    omega
  have fin : ∀ hp nx, ∃ hp' nx', L.val (V.bool true) hp nx = .val (.bool true) hp' nx' := fun hp nx => ⟨hp, nx, rfl⟩
  have eqAge : ∀ g, Option.map (fun b => V.bool (ngB false b)) (eqCells [.s, .i] [(.str [116]), (.int .i64 (bitsI .and .i64 (Go.IntKind.wrap .i64 ((Go.IntKind.wrap .i64 ((1000) * (Go.IntKind.wrap .i64 ((aC clock) - g)))) + (aA add))) (4294967295)))]
      [(.str [116]), (.int .i64 (bitsI .and .i64 (Go.IntKind.wrap .i64 ((Go.IntKind.wrap .i64 ((Go.IntKind.wrap .i64 ((aC clock) - g)) * (1000))) + (aA add))) (4294967295)))]) = some (.bool true) := by
    intro g
    rw [Int.mul_comm 1000]
    simp [eqCells, strEq, byteEq, kindEq, ngB]
  have bC : (!(decide (0 ≤ aC clock) && decide (aC clock ≤ 4294967295))) = false := by simp [hC]
  have bA : (decide (0 ≤ aA add) && decide (aA add ≤ 4294967295)) = true := by simp [hA]
  have bG0 : (decide (0 ≤ aG0 got) && decide (aG0 got ≤ 4294967295)) = true := by simp [hG0]
  have bG1 : (decide (0 ≤ aG1 got life clock) && decide (aG1 got life clock ≤ 4294967295)) = true := by simp [hG1]
  have bK : (!(decide (0 ≤ aK life) && decide (aK life ≤ 604800))) = false := by simp [hK]
  by_cases hl : bitsI .and .i64 life 1 = 1
  · have hl := decide_eq_true hl
    by_cases h1 : aC clock < aG1 got life clock
    · have h1 := decide_eq_true h1
      exact tell_sound (age3 got life clock add) ⟨h1, h1, bK, bG1, bA, bC, hl, trivial⟩ fin
    · have h1 := decide_eq_false h1
      by_cases h2 : aK life < Go.IntKind.wrap .i64 (aC clock - aG1 got life clock)
      · have h2 := decide_eq_true h2
        exact tell_sound (age1 got life clock add) ⟨h2, h1, h2, h1, bK, bG1, bA, bC, hl, trivial⟩ fin
      · have h2 := decide_eq_false h2
        exact tell_sound (age2 got life clock add) ⟨eqAge _, h2, h1, h2, h1, bK, bG1, bA, bC, hl, trivial⟩ fin
  · have hl := decide_eq_false hl
    by_cases h1 : aC clock < aG0 got
    · have h1 := decide_eq_true h1
      exact tell_sound (age4 got life clock add) ⟨h1, h1, bK, bG0, bA, bC, hl, trivial⟩ fin
    · have h1 := decide_eq_false h1
      by_cases h2 : aK life < Go.IntKind.wrap .i64 (aC clock - aG0 got)
      · have h2 := decide_eq_true h2
        exact tell_sound (age0 got life clock add) ⟨h2, h1, h2, h1, bK, bG0, bA, bC, hl, trivial⟩ fin
      · have h2 := decide_eq_false h2
        exact tell_sound (age5 got life clock add) ⟨eqAge _, h2, h1, h2, h1, bK, bG0, bA, bC, hl, trivial⟩ fin
end Go.Proofs.YtmgbeipdeeegoaaGreatDoor.S
