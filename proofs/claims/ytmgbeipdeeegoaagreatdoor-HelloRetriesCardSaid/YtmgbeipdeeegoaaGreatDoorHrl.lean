/- HelloRetries: its ways, joined. -/
import Derived.Test.YtmgbeipdeeegoaaGreatDoorTg
namespace Go.Proofs.YtmgbeipdeeegoaaGreatDoor.S
open Go.AE
set_option maxRecDepth 1000000

theorem retF0 (second : Int) : (callT tG6 d7 [.bool false, .int .i64 second] .e .h).tell 100000 (.n 1504 .z (.n 0 .z (.n 2 .z (.n 1 .z (.n 0 .z (.n 0 .t .e)))))) = some ((.bool true), [((decide ((Int.tmod (Go.IntKind.wrap .u64 second) (4)) = (0))) = true)]) := by kernel_rfl
theorem retF1 (second : Int) : (callT tG6 d7 [.bool false, .int .i64 second] .e .h).tell 100000 (.n 1504 .z (.n 0 .z (.n 2 .z (.n 1 .z (.n 0 .z (.n 0 .f (.n 1 .z (.n 0 .z (.n 0 .t .e))))))))) = some ((.bool true), [((decide ((Int.tmod (Go.IntKind.wrap .u64 second) (4)) = (1))) = true), ((decide ((Int.tmod (Go.IntKind.wrap .u64 second) (4)) = (0))) = false)]) := by kernel_rfl
theorem retF2 (second : Int) : (callT tG6 d7 [.bool false, .int .i64 second] .e .h).tell 100000 (.n 1504 .z (.n 0 .z (.n 2 .z (.n 1 .z (.n 0 .z (.n 0 .f (.n 1 .z (.n 0 .z (.n 0 .f (.n 1 .z (.n 0 .z (.n 0 .t .e)))))))))))) = some ((.bool true), [((decide ((Int.tmod (Go.IntKind.wrap .u64 second) (4)) = (2))) = true), ((decide ((Int.tmod (Go.IntKind.wrap .u64 second) (4)) = (1))) = false), ((decide ((Int.tmod (Go.IntKind.wrap .u64 second) (4)) = (0))) = false)]) := by kernel_rfl
theorem retF3 (second : Int) : (callT tG6 d7 [.bool false, .int .i64 second] .e .h).tell 100000 (.n 1504 .z (.n 0 .z (.n 2 .z (.n 1 .z (.n 0 .z (.n 0 .f (.n 1 .z (.n 0 .z (.n 0 .f (.n 1 .z (.n 0 .z (.n 0 .f .e)))))))))))) = some ((.bool true), [((decide ((Int.tmod (Go.IntKind.wrap .u64 second) (4)) = (2))) = false), ((decide ((Int.tmod (Go.IntKind.wrap .u64 second) (4)) = (1))) = false), ((decide ((Int.tmod (Go.IntKind.wrap .u64 second) (4)) = (0))) = false)]) := by kernel_rfl
theorem retry_run_false (second : Int) : wpT (callT tG6 d7 [.bool false, .int .i64 second] .e .h) fun l => ∃ hp nx, l = .val (.bool true) hp nx := by
  have fin : ∀ hp nx, ∃ hp' nx', L.val (V.bool true) hp nx = .val (.bool true) hp' nx' := fun hp nx => ⟨hp, nx, rfl⟩
  rcases Bool.eq_false_or_eq_true (decide ((Int.tmod (Go.IntKind.wrap .u64 second) (4)) = (0))) with h1 | h1
  · exact tell_sound (retF0 second) ⟨h1, trivial⟩ fin
  · rcases Bool.eq_false_or_eq_true (decide ((Int.tmod (Go.IntKind.wrap .u64 second) (4)) = (1))) with h2 | h2
    · exact tell_sound (retF1 second) ⟨h2, h1, trivial⟩ fin
    · rcases Bool.eq_false_or_eq_true (decide ((Int.tmod (Go.IntKind.wrap .u64 second) (4)) = (2))) with h3 | h3
      · exact tell_sound (retF2 second) ⟨h3, h2, h1, trivial⟩ fin
      · exact tell_sound (retF3 second) ⟨h3, h2, h1, trivial⟩ fin
theorem retT0 (second : Int) : (callT tG6 d7 [.bool true, .int .i64 second] .e .h).tell 100000 (.n 1705 .z (.n 0 .z (.n 2 .z (.n 1 .z (.n 0 .z (.n 0 .t .e)))))) = some ((.bool true), [((decide ((Int.tmod (Go.IntKind.wrap .u64 second) (4)) = (0))) = true)]) := by kernel_rfl
theorem retT1 (second : Int) : (callT tG6 d7 [.bool true, .int .i64 second] .e .h).tell 100000 (.n 1705 .z (.n 0 .z (.n 2 .z (.n 1 .z (.n 0 .z (.n 0 .f (.n 1 .z (.n 0 .z (.n 0 .t .e))))))))) = some ((.bool true), [((decide ((Int.tmod (Go.IntKind.wrap .u64 second) (4)) = (1))) = true), ((decide ((Int.tmod (Go.IntKind.wrap .u64 second) (4)) = (0))) = false)]) := by kernel_rfl
theorem retT2 (second : Int) : (callT tG6 d7 [.bool true, .int .i64 second] .e .h).tell 100000 (.n 1705 .z (.n 0 .z (.n 2 .z (.n 1 .z (.n 0 .z (.n 0 .f (.n 1 .z (.n 0 .z (.n 0 .f (.n 1 .z (.n 0 .z (.n 0 .t .e)))))))))))) = some ((.bool true), [((decide ((Int.tmod (Go.IntKind.wrap .u64 second) (4)) = (2))) = true), ((decide ((Int.tmod (Go.IntKind.wrap .u64 second) (4)) = (1))) = false), ((decide ((Int.tmod (Go.IntKind.wrap .u64 second) (4)) = (0))) = false)]) := by kernel_rfl
theorem retT3 (second : Int) : (callT tG6 d7 [.bool true, .int .i64 second] .e .h).tell 100000 (.n 1705 .z (.n 0 .z (.n 2 .z (.n 1 .z (.n 0 .z (.n 0 .f (.n 1 .z (.n 0 .z (.n 0 .f (.n 1 .z (.n 0 .z (.n 0 .f .e)))))))))))) = some ((.bool true), [((decide ((Int.tmod (Go.IntKind.wrap .u64 second) (4)) = (2))) = false), ((decide ((Int.tmod (Go.IntKind.wrap .u64 second) (4)) = (1))) = false), ((decide ((Int.tmod (Go.IntKind.wrap .u64 second) (4)) = (0))) = false)]) := by kernel_rfl
theorem retry_run_true (second : Int) : wpT (callT tG6 d7 [.bool true, .int .i64 second] .e .h) fun l => ∃ hp nx, l = .val (.bool true) hp nx := by
  have fin : ∀ hp nx, ∃ hp' nx', L.val (V.bool true) hp nx = .val (.bool true) hp' nx' := fun hp nx => ⟨hp, nx, rfl⟩
  rcases Bool.eq_false_or_eq_true (decide ((Int.tmod (Go.IntKind.wrap .u64 second) (4)) = (0))) with h1 | h1
  · exact tell_sound (retT0 second) ⟨h1, trivial⟩ fin
  · rcases Bool.eq_false_or_eq_true (decide ((Int.tmod (Go.IntKind.wrap .u64 second) (4)) = (1))) with h2 | h2
    · exact tell_sound (retT1 second) ⟨h2, h1, trivial⟩ fin
    · rcases Bool.eq_false_or_eq_true (decide ((Int.tmod (Go.IntKind.wrap .u64 second) (4)) = (2))) with h3 | h3
      · exact tell_sound (retT2 second) ⟨h3, h2, h1, trivial⟩ fin
      · exact tell_sound (retT3 second) ⟨h3, h2, h1, trivial⟩ fin
theorem retry_run (first : Bool) (second : Int) : wpT (callT tG6 d7 [.bool first, .int .i64 second] .e .h) fun l => ∃ hp nx, l = .val (.bool true) hp nx := by
  cases first
  · exact retry_run_false second
  · exact retry_run_true second
end Go.Proofs.YtmgbeipdeeegoaaGreatDoor.S
