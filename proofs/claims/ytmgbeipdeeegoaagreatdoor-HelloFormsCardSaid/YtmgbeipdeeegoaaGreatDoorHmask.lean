/- Masks of low bits. -/
import Derived.Test.YtmgbeipdeeegoaaGreatDoorHb
import Derived.IntWalk
import Derived.Laws.Bits64
namespace Go.Proofs.YtmgbeipdeeegoaaGreatDoor.S
open Go.AE
theorem bits_mask (x : Int) (n : Nat) (hn : n ≤ 62) : bitsI .and .i64 x (2 ^ n - 1 : Nat) = x % 2 ^ n := by
  have hp : (2 ^ n : Nat) ≤ 2 ^ 62 := Nat.pow_le_pow_right (by decide) hn
  have hp0 : 0 < (2 ^ n : Nat) := Nat.two_pow_pos n
  have key : ∀ m : Nat, Go.IntKind.i64.wrap ((m % 2 ^ n : Nat) : Int) = ((m % 2 ^ n : Nat) : Int) := by
    intro m
    have := Nat.mod_lt m hp0
    rw [Go.IntKind.wrap_i64]
    omega
  cases x with
  | ofNat m =>
    show Go.IntKind.i64.wrap (Int.ofNat (m &&& (2 ^ n - 1))) = _
    rw [Nat.and_two_pow_sub_one_eq_mod]
    show Go.IntKind.i64.wrap ((m % 2 ^ n : Nat) : Int) = ((m : Nat) : Int) % 2 ^ n
    rw [key]
    simp
  | negSucc m =>
    show Go.IntKind.i64.wrap (((BitVec.ofInt 64 (Int.negSucc m)) &&& (BitVec.ofInt 64 ((2 ^ n - 1 : Nat) : Int))).toNat : Int) = _
    have h1 : (BitVec.ofInt 64 ((2 ^ n - 1 : Nat) : Int)).toNat = 2 ^ n - 1 := by
      rw [BitVec.toNat_ofInt]
      have : (((2 ^ n - 1 : Nat) : Int) % ((2 ^ 64 : Nat) : Int)) = ((2 ^ n - 1 : Nat) : Int) := Int.emod_eq_of_lt (by omega) (by omega)
      rw [this]; rfl
    rw [BitVec.toNat_and, h1, Nat.and_two_pow_sub_one_eq_mod, key, BitVec.toNat_ofInt]
    have h2 : (((Int.negSucc m) % ((2 ^ 64 : Nat) : Int)).toNat : Int) = (Int.negSucc m) % ((2 ^ 64 : Nat) : Int) := Int.toNat_of_nonneg (Int.emod_nonneg _ (by decide))
    rw [Int.natCast_emod, h2]
    have hd : ((2 ^ n : Nat) : Int) ∣ ((2 ^ 64 : Nat) : Int) := by
      refine ⟨((2 ^ (64 - n) : Nat) : Int), ?_⟩
      rw [← Int.natCast_mul, ← Nat.pow_add]
      congr 2
      omega
    rw [Int.emod_emod_of_dvd _ hd]
    simp

end Go.Proofs.YtmgbeipdeeegoaaGreatDoor.S
