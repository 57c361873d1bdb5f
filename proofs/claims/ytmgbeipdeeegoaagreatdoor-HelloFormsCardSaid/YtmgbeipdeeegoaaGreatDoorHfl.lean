/- HelloForms: by its ways. -/
import Derived.Test.YtmgbeipdeeegoaaGreatDoorHf0
import Derived.Test.YtmgbeipdeeegoaaGreatDoorHf1
namespace Go.Proofs.YtmgbeipdeeegoaaGreatDoor.S
open Go.AE
set_option maxRecDepth 1000000

theorem forms_run_false (which x : Int) : wpT (callT tG14 d4 [.int .i64 which, .int .i64 x, .bool false] .e .h) fun l => ∃ hp nx, l = .val (.bool true) hp nx := by
  have fin : ∀ hp nx, ∃ hp' nx', L.val (V.bool true) hp nx = .val (.bool true) hp' nx' := fun hp nx => ⟨hp, nx, rfl⟩
  have hd := fD_in x
  rcases Bool.eq_false_or_eq_true (decide ((fQ which) = (0))) with h1 | h1
  · exact tell_sound (frmF0 which x) ⟨(decide_eq_false (by have e := of_decide_eq_true h1; omega)), h1, trivial⟩ fin
  · rcases Bool.eq_false_or_eq_true (decide ((fQ which) = (1))) with h2 | h2
    · exact tell_sound (frmF1 which x) ⟨(decide_eq_false (by have e := of_decide_eq_true h2; omega)), h2, h1, trivial⟩ fin
    · rcases Bool.eq_false_or_eq_true (decide ((fQ which) = (2))) with h3 | h3
      · exact tell_sound (frmF2 which x) ⟨(decide_eq_false (by simp only [Go.IntKind.wrap_i64]; omega)), (decide_eq_false (by simp only [Go.IntKind.wrap_i64]; omega)), (decide_eq_false (by simp only [Go.IntKind.wrap_i64]; omega)), (decide_eq_false (by have e := of_decide_eq_true h3; omega)), h3, h2, h1, trivial⟩ fin
      · rcases Bool.eq_false_or_eq_true (decide ((fQ which) = (3))) with h4 | h4
        · exact tell_sound (frmF3 which x) ⟨(decide_eq_false (by have e := of_decide_eq_true h4; omega)), h4, h3, h2, h1, trivial⟩ fin
        · rcases Bool.eq_false_or_eq_true (decide ((fQ which) = (4))) with h5 | h5
          · exact tell_sound (frmF4 which x) ⟨(decide_eq_false (by have e := of_decide_eq_true h5; omega)), h5, h4, h3, h2, h1, trivial⟩ fin
          · rcases Bool.eq_false_or_eq_true (decide ((fQ which) = (5))) with h6 | h6
            · exact tell_sound (frmF5 which x) ⟨(nt (decide_eq_false (by simp only [Go.IntKind.wrap_i64]; omega))), (decide_eq_false (by simp only [Go.IntKind.wrap_i64]; omega)), (decide_eq_false (by have e := of_decide_eq_true h6; omega)), h6, h5, h4, h3, h2, h1, trivial⟩ fin
            · rcases Bool.eq_false_or_eq_true (decide ((fQ which) = (6))) with h7 | h7
              · exact tell_sound (frmF6 which x) ⟨(nt (af2 (by simp only [Go.IntKind.wrap_i64]; omega))), (decide_eq_false (by have e := of_decide_eq_true h7; omega)), h7, h6, h5, h4, h3, h2, h1, trivial⟩ fin
              · rcases Bool.eq_false_or_eq_true (decide ((fQ which) = (7))) with h8 | h8
                · exact tell_sound (frmF7 which x) ⟨(nt (af2 (by simp only [Go.IntKind.wrap_i64]; omega))), (decide_eq_false (by have e := of_decide_eq_true h8; omega)), h8, h7, h6, h5, h4, h3, h2, h1, trivial⟩ fin
                · rcases Bool.eq_false_or_eq_true (decide ((fQ which) = (8))) with h9 | h9
                  · exact tell_sound (frmF8 which x) ⟨(nt (af2 (by simp only [Go.IntKind.wrap_i64]; omega))), (decide_eq_false (by have e := of_decide_eq_true h9; omega)), h9, h8, h7, h6, h5, h4, h3, h2, h1, trivial⟩ fin
                  · rcases Bool.eq_false_or_eq_true (decide ((fQ which) = (9))) with h10 | h10
                    · exact tell_sound (frmF9 which x) ⟨(nt (af2 (by simp only [Go.IntKind.wrap_i64]; omega))), (decide_eq_false (by have e := of_decide_eq_true h10; omega)), h10, h9, h8, h7, h6, h5, h4, h3, h2, h1, trivial⟩ fin
                    · rcases Bool.eq_false_or_eq_true (decide ((fQ which) = (10))) with h11 | h11
                      · exact tell_sound (frmF10 which x) ⟨(nt (af2 (by simp only [Go.IntKind.wrap_i64]; omega))), (decide_eq_false (by have e := of_decide_eq_true h11; omega)), h11, h10, h9, h8, h7, h6, h5, h4, h3, h2, h1, trivial⟩ fin
                      · rcases Bool.eq_false_or_eq_true (decide ((fQ which) = (11))) with h12 | h12
                        · exact tell_sound (frmF11 which x) ⟨(nt (af2 (by simp only [Go.IntKind.wrap_i64]; omega))), (decide_eq_false (by have e := of_decide_eq_true h12; omega)), h12, h11, h10, h9, h8, h7, h6, h5, h4, h3, h2, h1, trivial⟩ fin
                        · rcases Bool.eq_false_or_eq_true (decide ((fQ which) = (12))) with h13 | h13
                          · exact tell_sound (frmF12 which x) ⟨(nt (af2 (by simp only [Go.IntKind.wrap_i64]; omega))), (decide_eq_false (by have e := of_decide_eq_true h13; omega)), h13, h12, h11, h10, h9, h8, h7, h6, h5, h4, h3, h2, h1, trivial⟩ fin
                          · rcases Bool.eq_false_or_eq_true (decide ((fQ which) = (13))) with h14 | h14
                            · exact tell_sound (frmF13 which x) ⟨(nt (af2 (by simp only [Go.IntKind.wrap_i64]; omega))), (decide_eq_false (by have e := of_decide_eq_true h14; omega)), h14, h13, h12, h11, h10, h9, h8, h7, h6, h5, h4, h3, h2, h1, trivial⟩ fin
                            · rcases Bool.eq_false_or_eq_true (decide ((fQ which) = (14))) with h15 | h15
                              · exact tell_sound (frmF14 which x) ⟨(decide_eq_true (by simp only [Go.IntKind.wrap_i64, List.length_replicate]; omega)), (decide_eq_false (by have e := of_decide_eq_true h15; omega)), (fz_eq (by simp only [Go.IntKind.wrap_i64]; omega) (by simp only [Go.IntKind.wrap_i64]; omega)), h15, h14, h13, h12, h11, h10, h9, h8, h7, h6, h5, h4, h3, h2, h1, trivial⟩ fin
                              · rcases Bool.eq_false_or_eq_true (decide ((fQ which) = (15))) with h16 | h16
                                · exact tell_sound (frmF15 which x) ⟨(decide_eq_false (by have e := of_decide_eq_true h16; omega)), h16, h15, h14, h13, h12, h11, h10, h9, h8, h7, h6, h5, h4, h3, h2, h1, trivial⟩ fin
                                · rcases Bool.eq_false_or_eq_true (decide ((fQ which) = (16))) with h17 | h17
                                  · exact tell_sound (frmF16 which x) ⟨(nt (decide_eq_false (by omega))), (decide_eq_false (by have e := of_decide_eq_true h17; omega)), h17, h16, h15, h14, h13, h12, h11, h10, h9, h8, h7, h6, h5, h4, h3, h2, h1, trivial⟩ fin
                                  · rcases Bool.eq_false_or_eq_true (decide ((fQ which) = (17))) with h18 | h18
                                    · rcases Bool.eq_false_or_eq_true (decide ((bitsI .and .i64 (fD x) (31)) = (0))) with h19 | h19
                                      · exact tell_sound (frmF18 which x) ⟨(nt (strEq_rep (by have e31 := of_decide_eq_true h19; rw [mask31] at e31; simp only [Go.IntKind.wrap_i64, mask31]; omega))), h19, h18, (fz_eq (by simp only [Go.IntKind.wrap_i64, mask31]; omega) (by simp only [Go.IntKind.wrap_i64, mask31]; omega)), h18, h17, h16, h15, h14, h13, h12, h11, h10, h9, h8, h7, h6, h5, h4, h3, h2, h1, trivial⟩ fin
                                      · exact tell_sound (frmF17 which x) ⟨(nt (strEq_rep (by have e31 := of_decide_eq_false h19; rw [mask31] at e31; simp only [Go.IntKind.wrap_i64, mask31]; omega))), h19, h18, (fz_eq (by simp only [Go.IntKind.wrap_i64, mask31]; omega) (by simp only [Go.IntKind.wrap_i64, mask31]; omega)), h18, h17, h16, h15, h14, h13, h12, h11, h10, h9, h8, h7, h6, h5, h4, h3, h2, h1, trivial⟩ fin
                                    · rcases Bool.eq_false_or_eq_true (decide ((fQ which) = (18))) with h20 | h20
                                      · exact tell_sound (frmF19 which x) ⟨h18, h20, h18, h17, h16, h15, h14, h13, h12, h11, h10, h9, h8, h7, h6, h5, h4, h3, h2, h1, trivial⟩ fin
                                      · exact tell_sound (frmF20 which x) ⟨(nt (af2 (by simp only [Go.IntKind.wrap_i64, List.length_replicate]; omega))), h18, (fz_eq (by simp only [Go.IntKind.wrap_i64]; omega) (by simp only [Go.IntKind.wrap_i64]; omega)), h20, h18, h17, h16, h15, h14, h13, h12, h11, h10, h9, h8, h7, h6, h5, h4, h3, h2, h1, trivial⟩ fin
theorem forms_run_true (which x : Int) : wpT (callT tG14 d4 [.int .i64 which, .int .i64 x, .bool true] .e .h) fun l => ∃ hp nx, l = .val (.bool true) hp nx := by
  have fin : ∀ hp nx, ∃ hp' nx', L.val (V.bool true) hp nx = .val (.bool true) hp' nx' := fun hp nx => ⟨hp, nx, rfl⟩
  have hd := fD_in x
  rcases Bool.eq_false_or_eq_true (decide ((fQ which) = (0))) with h1 | h1
  · exact tell_sound (frmT0 which x) ⟨(decide_eq_false (by have e := of_decide_eq_true h1; omega)), h1, trivial⟩ fin
  · rcases Bool.eq_false_or_eq_true (decide ((fQ which) = (1))) with h2 | h2
    · exact tell_sound (frmT1 which x) ⟨(decide_eq_false (by have e := of_decide_eq_true h2; omega)), h2, h1, trivial⟩ fin
    · rcases Bool.eq_false_or_eq_true (decide ((fQ which) = (2))) with h3 | h3
      · exact tell_sound (frmT2 which x) ⟨(decide_eq_false (by simp only [Go.IntKind.wrap_i64]; omega)), (decide_eq_false (by simp only [Go.IntKind.wrap_i64]; omega)), (decide_eq_false (by simp only [Go.IntKind.wrap_i64]; omega)), (decide_eq_false (by have e := of_decide_eq_true h3; omega)), h3, h2, h1, trivial⟩ fin
      · rcases Bool.eq_false_or_eq_true (decide ((fQ which) = (3))) with h4 | h4
        · exact tell_sound (frmT3 which x) ⟨(decide_eq_false (by have e := of_decide_eq_true h4; omega)), h4, h3, h2, h1, trivial⟩ fin
        · rcases Bool.eq_false_or_eq_true (decide ((fQ which) = (4))) with h5 | h5
          · exact tell_sound (frmT4 which x) ⟨(decide_eq_false (by have e := of_decide_eq_true h5; omega)), h5, h4, h3, h2, h1, trivial⟩ fin
          · rcases Bool.eq_false_or_eq_true (decide ((fQ which) = (5))) with h6 | h6
            · exact tell_sound (frmT5 which x) ⟨(nt (decide_eq_false (by simp only [Go.IntKind.wrap_i64]; omega))), (decide_eq_false (by simp only [Go.IntKind.wrap_i64]; omega)), (decide_eq_false (by have e := of_decide_eq_true h6; omega)), h6, h5, h4, h3, h2, h1, trivial⟩ fin
            · rcases Bool.eq_false_or_eq_true (decide ((fQ which) = (6))) with h7 | h7
              · exact tell_sound (frmT6 which x) ⟨(nt (af2 (by simp only [Go.IntKind.wrap_i64]; omega))), (decide_eq_false (by have e := of_decide_eq_true h7; omega)), h7, h6, h5, h4, h3, h2, h1, trivial⟩ fin
              · rcases Bool.eq_false_or_eq_true (decide ((fQ which) = (7))) with h8 | h8
                · exact tell_sound (frmT7 which x) ⟨(nt (af2 (by simp only [Go.IntKind.wrap_i64]; omega))), (decide_eq_false (by have e := of_decide_eq_true h8; omega)), h8, h7, h6, h5, h4, h3, h2, h1, trivial⟩ fin
                · rcases Bool.eq_false_or_eq_true (decide ((fQ which) = (8))) with h9 | h9
                  · exact tell_sound (frmT8 which x) ⟨(nt (af2 (by simp only [Go.IntKind.wrap_i64]; omega))), (decide_eq_false (by have e := of_decide_eq_true h9; omega)), h9, h8, h7, h6, h5, h4, h3, h2, h1, trivial⟩ fin
                  · rcases Bool.eq_false_or_eq_true (decide ((fQ which) = (9))) with h10 | h10
                    · exact tell_sound (frmT9 which x) ⟨(nt (af2 (by simp only [Go.IntKind.wrap_i64]; omega))), (decide_eq_false (by have e := of_decide_eq_true h10; omega)), h10, h9, h8, h7, h6, h5, h4, h3, h2, h1, trivial⟩ fin
                    · rcases Bool.eq_false_or_eq_true (decide ((fQ which) = (10))) with h11 | h11
                      · exact tell_sound (frmT10 which x) ⟨(nt (af2 (by simp only [Go.IntKind.wrap_i64]; omega))), (decide_eq_false (by have e := of_decide_eq_true h11; omega)), h11, h10, h9, h8, h7, h6, h5, h4, h3, h2, h1, trivial⟩ fin
                      · rcases Bool.eq_false_or_eq_true (decide ((fQ which) = (11))) with h12 | h12
                        · exact tell_sound (frmT11 which x) ⟨(nt (af2 (by simp only [Go.IntKind.wrap_i64]; omega))), (decide_eq_false (by have e := of_decide_eq_true h12; omega)), h12, h11, h10, h9, h8, h7, h6, h5, h4, h3, h2, h1, trivial⟩ fin
                        · rcases Bool.eq_false_or_eq_true (decide ((fQ which) = (12))) with h13 | h13
                          · exact tell_sound (frmT12 which x) ⟨(nt (af2 (by simp only [Go.IntKind.wrap_i64]; omega))), (decide_eq_false (by have e := of_decide_eq_true h13; omega)), h13, h12, h11, h10, h9, h8, h7, h6, h5, h4, h3, h2, h1, trivial⟩ fin
                          · rcases Bool.eq_false_or_eq_true (decide ((fQ which) = (13))) with h14 | h14
                            · exact tell_sound (frmT13 which x) ⟨(nt (af2 (by simp only [Go.IntKind.wrap_i64]; omega))), (decide_eq_false (by have e := of_decide_eq_true h14; omega)), h14, h13, h12, h11, h10, h9, h8, h7, h6, h5, h4, h3, h2, h1, trivial⟩ fin
                            · rcases Bool.eq_false_or_eq_true (decide ((fQ which) = (14))) with h15 | h15
                              · exact tell_sound (frmT14 which x) ⟨(decide_eq_true (by simp only [Go.IntKind.wrap_i64, List.length_replicate]; omega)), (decide_eq_false (by have e := of_decide_eq_true h15; omega)), (fz_eq (by simp only [Go.IntKind.wrap_i64]; omega) (by simp only [Go.IntKind.wrap_i64]; omega)), h15, h14, h13, h12, h11, h10, h9, h8, h7, h6, h5, h4, h3, h2, h1, trivial⟩ fin
                              · rcases Bool.eq_false_or_eq_true (decide ((fQ which) = (15))) with h16 | h16
                                · exact tell_sound (frmT15 which x) ⟨(decide_eq_false (by have e := of_decide_eq_true h16; omega)), h16, h15, h14, h13, h12, h11, h10, h9, h8, h7, h6, h5, h4, h3, h2, h1, trivial⟩ fin
                                · rcases Bool.eq_false_or_eq_true (decide ((fQ which) = (16))) with h17 | h17
                                  · exact tell_sound (frmT16 which x) ⟨(decide_eq_false (by omega)), (decide_eq_false (by have e := of_decide_eq_true h17; omega)), h17, h16, h15, h14, h13, h12, h11, h10, h9, h8, h7, h6, h5, h4, h3, h2, h1, trivial⟩ fin
                                  · rcases Bool.eq_false_or_eq_true (decide ((fQ which) = (17))) with h18 | h18
                                    · rcases Bool.eq_false_or_eq_true (decide ((bitsI .and .i64 (fD x) (31)) = (0))) with h19 | h19
                                      · exact tell_sound (frmT18 which x) ⟨(decide_eq_true (by have e31 := of_decide_eq_true h19; rw [mask31] at e31; simp only [Go.IntKind.wrap_i64, mask31, List.length_replicate]; omega)), h19, h18, (fz_eq (by simp only [Go.IntKind.wrap_i64, mask31]; omega) (by simp only [Go.IntKind.wrap_i64, mask31]; omega)), h18, h17, h16, h15, h14, h13, h12, h11, h10, h9, h8, h7, h6, h5, h4, h3, h2, h1, trivial⟩ fin
                                      · exact tell_sound (frmT17 which x) ⟨(strEq_rep (by have e31 := of_decide_eq_false h19; rw [mask31] at e31; simp only [Go.IntKind.wrap_i64, mask31]; omega)), (decide_eq_false (by have e31 := of_decide_eq_false h19; rw [mask31] at e31; simp only [Go.IntKind.wrap_i64, mask31, List.length_replicate]; omega)), h19, h18, (fz_eq (by simp only [Go.IntKind.wrap_i64, mask31]; omega) (by simp only [Go.IntKind.wrap_i64, mask31]; omega)), h18, h17, h16, h15, h14, h13, h12, h11, h10, h9, h8, h7, h6, h5, h4, h3, h2, h1, trivial⟩ fin
                                    · rcases Bool.eq_false_or_eq_true (decide ((fQ which) = (18))) with h20 | h20
                                      · exact tell_sound (frmT19 which x) ⟨h18, h20, h18, h17, h16, h15, h14, h13, h12, h11, h10, h9, h8, h7, h6, h5, h4, h3, h2, h1, trivial⟩ fin
                                      · exact tell_sound (frmT20 which x) ⟨h18, (fz_eq (by simp only [Go.IntKind.wrap_i64]; omega) (by simp only [Go.IntKind.wrap_i64]; omega)), h20, h18, h17, h16, h15, h14, h13, h12, h11, h10, h9, h8, h7, h6, h5, h4, h3, h2, h1, trivial⟩ fin
theorem forms_run (which x : Int) (server : Bool) : wpT (callT tG14 d4 [.int .i64 which, .int .i64 x, .bool server] .e .h) fun l => ∃ hp nx, l = .val (.bool true) hp nx := by
  cases server
  · exact forms_run_false which x
  · exact forms_run_true which x
end Go.Proofs.YtmgbeipdeeegoaaGreatDoor.S
