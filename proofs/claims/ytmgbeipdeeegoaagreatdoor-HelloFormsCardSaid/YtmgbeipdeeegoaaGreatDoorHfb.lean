/- HelloForms: names of its numbers. -/
import Derived.Test.YtmgbeipdeeegoaaGreatDoorTg
import Derived.Test.YtmgbeipdeeegoaaGreatDoorHmask
namespace Go.Proofs.YtmgbeipdeeegoaaGreatDoor.S
open Go.AE
set_option maxRecDepth 1000000
noncomputable def fD (x : Int) : Int := (Go.IntKind.wrap .i64 ((1) + (bitsI .and .i64 x (63))))
noncomputable def fQ (which : Int) : Int := (Int.tmod (Go.IntKind.wrap .u64 which) (20))
theorem nt {a : Bool} (h : a = false) : (!a) = true := by rw [h]; rfl
theorem nf {a : Bool} (h : a = true) : (!a) = false := by rw [h]; rfl
theorem at2 {p q : Prop} [Decidable p] [Decidable q] (h : p ∧ q) : (decide p && decide q) = true := by simp [h]
theorem af2 {p q : Prop} [Decidable p] [Decidable q] (h : ¬(p ∧ q)) : (decide p && decide q) = false := by simpa using h
theorem mask31 (x : Int) : bitsI .and .i64 x 31 = x % 32 := bits_mask x 5 (by decide)
theorem mask63 (x : Int) : bitsI .and .i64 x 63 = x % 64 := bits_mask x 6 (by decide)
theorem fD_in (x : Int) : 1 ≤ fD x ∧ fD x ≤ 64 := by unfold fD; rw [mask63, Go.IntKind.wrap_i64]; omega
theorem fz_eq {k : Int} (h0 : 0 ≤ k) (h1 : k ≤ 140737488355328) : pureV (Fz [.int .i64 k] .e .h) = some (.str (List.replicate (Int.toNat k) (0 : UInt8))) := by
  have h : decide (0 ≤ k ∧ k ≤ 140737488355328) = true := decide_eq_true ⟨h0, h1⟩
  unfold Fz
  simp only [h]
  rfl
theorem strEq_rep {n : Nat} (h : 1 ≤ n) : strEq (List.replicate n (0 : UInt8)) [] = false := by
  cases n with
  | zero => exact absurd h (by decide)
  | succ n => rfl
end Go.Proofs.YtmgbeipdeeegoaaGreatDoor.S
