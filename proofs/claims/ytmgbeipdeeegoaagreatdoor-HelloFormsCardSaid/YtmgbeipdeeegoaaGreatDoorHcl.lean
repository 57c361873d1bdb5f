/- What closes a law of this seat: a world that meets the row's condition; a call out of a run. -/
import Derived.Test.YtmgbeipdeeegoaaGreatDoorHb
import Derived.Test.YtmgbeipdeeegoaaGreatDoorTie
import Derived.Test.YtmgbeipdeeegoaaGreatDoorCards
import Derived.ChangeSame
import Derived.Carry
import Derived.ChangeVars
import Derived.JoinedOf
import Derived.RowKit
import Derived.RowKitTokens
import Derived.LaidLaws
import Derived.LaidHandle
import Derived.Stop.Joined
import Derived.SevenTiedAt
namespace Go.Proofs.YtmgbeipdeeegoaaGreatDoor
open Go Go.ChangeShapes Go.WideShapes Go.RowKit

theorem own : ownKnob Tryz.prog.godebug = none := by kernel_rfl

/-- A world that meets the condition: the settled one, the variable's cell laid. -/
noncomputable def laidWorld (os : Os) : World :=
  let w0 := World.holding Tryz.prog os ⟨#[], #[], []⟩
  { w0 with heap := w0.heap.modify 0 fun
      | .cells _ t frozen => .cells #[.iface 191 (.agg #[.pointer (some ⟨1, 122, none⟩)])] t frozen
      | o => o }
set_option maxRecDepth 100000 in
theorem laidWorld_met (os : Os) (args : Array Value) : laidMetH Tryz.prog [("errors.errorType", Rows.laid_errors_errorType)] ((laidWorld os).forCall (fun _ _ => 0) ⟨#[], args, []⟩).memory :=
  laidMetH_of_parts (laidMet_nil _ _) (by kernel_rfl)

open Go.AE in
/-- What a call of a law comes to, behind a run of its code. -/
theorem law_calls {f : FuncId} {t : Tc} (h : Sound Tryz.prog f t) {args : List V} {xs : List Value} {W : World} (hr : VRels (fun _ => none) args xs) (hw : wpT (t args .e .h) fun l => ∃ hp nx, l = .val (.bool true) hp nx) :
    Calls Tryz.prog f ⟨xs⟩ W fun e W' => e = .returned (.bool true) ∧ Below W.heap.size W W' := by
  refine Calls.mono (h W.heap.size W (fun _ => none) .e W args xs .h _ (.none W) hr hw) ?_
  rintro e W' ⟨v, hp, nx, m, x, ⟨hp1, nx1, e1⟩, he, _, hx, hH⟩
  cases e1
  cases hx
  exact ⟨he, hH.below⟩
end Go.Proofs.YtmgbeipdeeegoaaGreatDoor
