/- Contracts of this session's own: noughts. -/
import Derived.Test.YtmgbeipdeeegoaaGreatDoorNum1
namespace Go.Proofs.YtmgbeipdeeegoaaGreatDoor.S
open Go.AE
set_option maxRecDepth 1000000

noncomputable def Fz : Fc := fun args hp nx => match args with
  | [.int .i64 k] => (match decide (0 ≤ k ∧ k ≤ 140737488355328) with
    | true => some (.str (List.replicate k.toNat 0), hp, nx)
    | false => none)
  | _ => none

theorem flatten_one (v : V) : ∀ n, (List.replicate n [v]).flatten = List.replicate n v
  | 0 => rfl
  | n + 1 => by rw [List.replicate_succ, List.replicate_succ, List.flatten_cons, flatten_one v n]; rfl
theorem toBytes_rep : ∀ n, toBytes (List.replicate n (.int .u8 0)) = some (List.replicate n 0)
  | 0 => rfl
  | n + 1 => by
    rw [List.replicate_succ, List.replicate_succ]
    show (toBytes (List.replicate n (.int .u8 0))).map (UInt8.ofNat (Int.toNat 0) :: ·) = _
    rw [toBytes_rep n]; rfl

theorem z_run (Γ : Tr Ent) (k : Int) (h0 : 0 ≤ k) (h1 : k ≤ 140737488355328) : wpT (callT Γ d15 [.int .i64 k] .e .h) fun l => ∃ hp nx, l = .val (.str (List.replicate k.toNat 0)) hp nx := by
  have hb : decide (0 ≤ k ∧ k ≤ k ∧ ((1 : Nat) : Int) * k ≤ 281474976710656 ∧ k ≤ 281474976710656) = true := by
    simp only [decide_eq_true_eq]; omega
  refine ⟨rfl, hb, _, rfl, .str (List.replicate k.toNat 0), ?_, _, rfl, _, _, rfl⟩
  have e : readL ((Tr.e : Tr Reg).set .h (some ⟨(List.replicate k.toNat [V.int .u8 0]).flatten, .own⟩)) .h 0 k.toNat = some (List.replicate k.toNat (V.int .u8 0)) := by
    unfold readL
    rw [Tr.get_set, if_pos rfl, flatten_one]
    simp
  show ((readL ((Tr.e : Tr Reg).set .h (some ⟨(List.replicate k.toNat [V.int .u8 0]).flatten, .own⟩)) .h 0 k.toNat).bind toBytes).map V.str = _
  rw [e]
  show (toBytes (List.replicate k.toNat (V.int .u8 0))).map V.str = _
  rw [toBytes_rep]
  rfl

theorem z_own {Γ : Tr Ent} (h : Sound Tryz.prog 15 (callT Γ d15)) : Sound Tryz.prog 15 (Ent.f Fz 0).tc := by
  refine pure_sound h fun args v hv => ?_
  unfold Fz at hv
  split at hv
  · rename_i k
    split at hv
    · rename_i hd
      have hd := of_decide_eq_true hd
      have hv : some (V.str (List.replicate k.toNat 0)) = some v := hv
      cases hv
      exact ⟨rfl, rfl, z_run Γ k hd.1 hd.2⟩
    · cases hv
  · cases hv
end Go.Proofs.YtmgbeipdeeegoaaGreatDoor.S
