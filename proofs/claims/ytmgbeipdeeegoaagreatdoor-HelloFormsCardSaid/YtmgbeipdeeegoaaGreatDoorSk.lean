/- The scalar that a server of the laws has: worked out by the kernel. -/
import Derived.Test.YtmgbeipdeeegoaaGreatDoorSg
namespace Go.Proofs.YtmgbeipdeeegoaaGreatDoor.S
open Go.AE
set_option maxRecDepth 1000000
noncomputable def sKey : List UInt8 := [0, 0, 0, 0, 0, 0, 0, 0, 0, 0, 0, 0, 0, 0, 0, 0, 0, 0, 0, 0, 0, 0, 0, 0, 0, 0, 0, 0, 0, 0, 0, 107]
noncomputable def sVal : V := .tup [.agg [.int .u64 107, .int .u64 0, .int .u64 0, .int .u64 0], .bool true]
noncomputable def sNone : V := .tup [.agg [.int .u64 0, .int .u64 0, .int .u64 0, .int .u64 0], .bool false]
theorem scal1 : (callT sG58 d43 [.str sKey] .e .h).tell 100000 .e = some (sVal, []) := by kernel_rfl
theorem scal0 : (callT sG58 d43 [.str []] .e .h).tell 100000 .e = some (sNone, []) := by kernel_rfl
noncomputable def Fscal : Fc := fun args hp nx => match args with
  | [.str s] => (match strEq s sKey with
    | true => some (sVal, hp, nx)
    | false => (match strEq s [] with
      | true => some (sNone, hp, nx)
      | false => none))
  | _ => none
theorem scal_own : Sound Tryz.prog 43 (Ent.f Fscal 0).tc := by
  refine pure_sound ssnd43 fun args v hv => ?_
  unfold Fscal at hv
  split at hv
  · rename_i s
    cases h1 : strEq s sKey
    · cases h2 : strEq s []
      · rw [h1, h2] at hv; cases hv
      · rw [h1, h2] at hv
        have hv : some sNone = some v := hv
        cases hv
        rw [strEq_iff.1 h2]
        exact ⟨rfl, rfl, tell_sound scal0 trivial fun hp nx => ⟨hp, nx, rfl⟩⟩
    · rw [h1] at hv
      have hv : some sVal = some v := hv
      cases hv
      rw [strEq_iff.1 h1]
      exact ⟨rfl, rfl, tell_sound scal1 trivial fun hp nx => ⟨hp, nx, rfl⟩⟩
  · cases hv
end Go.Proofs.YtmgbeipdeeegoaaGreatDoor.S
