/- HelloOrder: by its ways. -/
import Derived.Test.YtmgbeipdeeegoaaGreatDoorHo0
import Derived.Test.YtmgbeipdeeegoaaGreatDoorHo1
import Derived.Test.YtmgbeipdeeegoaaGreatDoorHo2
namespace Go.Proofs.YtmgbeipdeeegoaaGreatDoor.S
open Go.AE
set_option maxRecDepth 1000000

theorem order_run (wrong : Int) (again : Bool) : wpT (callT tG4 d6 [.int .i64 wrong, .bool again] .e .h) fun l => ∃ hp nx, l = .val (.bool true) hp nx := by
  have fin : ∀ hp nx, ∃ hp' nx', L.val (V.bool true) hp nx = .val (.bool true) hp' nx' := fun hp nx => ⟨hp, nx, rfl⟩
  rcases Bool.eq_false_or_eq_true (decide ((bitsI .and .i64 (Int.fdiv wrong (2 ^ (min ((6) : Int).toNat (Go.IntKind.bits .i64)))) (1)) = (1))) with h1 | h1
  · rcases Bool.eq_false_or_eq_true (decide ((bitsI .and .i64 (Int.fdiv wrong (2 ^ (min ((5) : Int).toNat (Go.IntKind.bits .i64)))) (1)) = (1))) with h2 | h2
    · rcases Bool.eq_false_or_eq_true (decide ((bitsI .and .i64 (Int.fdiv wrong (2 ^ (min ((4) : Int).toNat (Go.IntKind.bits .i64)))) (1)) = (1))) with h3 | h3
      · rcases Bool.eq_false_or_eq_true (decide ((bitsI .and .i64 (Int.fdiv wrong (2 ^ (min ((3) : Int).toNat (Go.IntKind.bits .i64)))) (1)) = (1))) with h4 | h4
        · rcases Bool.eq_false_or_eq_true (decide ((bitsI .and .i64 (Int.fdiv wrong (2 ^ (min ((2) : Int).toNat (Go.IntKind.bits .i64)))) (1)) = (1))) with h5 | h5
          · rcases Bool.eq_false_or_eq_true (decide ((bitsI .and .i64 (Int.fdiv wrong (2 ^ (min ((1) : Int).toNat (Go.IntKind.bits .i64)))) (1)) = (1))) with h6 | h6
            · rcases Bool.eq_false_or_eq_true (decide ((bitsI .and .i64 wrong (1)) = (1))) with h7 | h7
              · exact tell_sound (ord131 wrong again) ⟨h7, h6, h5, h4, h3, h2, h1, trivial⟩ fin
              · exact tell_sound (ord130 wrong again) ⟨h7, h6, h5, h4, h3, h2, h1, trivial⟩ fin
            · rcases Bool.eq_false_or_eq_true (decide ((bitsI .and .i64 wrong (1)) = (1))) with h8 | h8
              · exact tell_sound (ord129 wrong again) ⟨h8, h6, h5, h4, h3, h2, h1, trivial⟩ fin
              · exact tell_sound (ord128 wrong again) ⟨h8, h6, h5, h4, h3, h2, h1, trivial⟩ fin
          · rcases Bool.eq_false_or_eq_true (decide ((bitsI .and .i64 (Int.fdiv wrong (2 ^ (min ((1) : Int).toNat (Go.IntKind.bits .i64)))) (1)) = (1))) with h9 | h9
            · rcases Bool.eq_false_or_eq_true (decide ((bitsI .and .i64 wrong (1)) = (1))) with h10 | h10
              · exact tell_sound (ord127 wrong again) ⟨h10, h9, h5, h4, h3, h2, h1, trivial⟩ fin
              · exact tell_sound (ord126 wrong again) ⟨h10, h9, h5, h4, h3, h2, h1, trivial⟩ fin
            · rcases Bool.eq_false_or_eq_true (decide ((bitsI .and .i64 wrong (1)) = (1))) with h11 | h11
              · exact tell_sound (ord125 wrong again) ⟨h11, h9, h5, h4, h3, h2, h1, trivial⟩ fin
              · exact tell_sound (ord124 wrong again) ⟨h11, h9, h5, h4, h3, h2, h1, trivial⟩ fin
        · rcases Bool.eq_false_or_eq_true (decide ((bitsI .and .i64 (Int.fdiv wrong (2 ^ (min ((2) : Int).toNat (Go.IntKind.bits .i64)))) (1)) = (1))) with h12 | h12
          · rcases Bool.eq_false_or_eq_true (decide ((bitsI .and .i64 (Int.fdiv wrong (2 ^ (min ((1) : Int).toNat (Go.IntKind.bits .i64)))) (1)) = (1))) with h13 | h13
            · rcases Bool.eq_false_or_eq_true (decide ((bitsI .and .i64 wrong (1)) = (1))) with h14 | h14
              · exact tell_sound (ord123 wrong again) ⟨h14, h13, h12, h4, h3, h2, h1, trivial⟩ fin
              · exact tell_sound (ord122 wrong again) ⟨h14, h13, h12, h4, h3, h2, h1, trivial⟩ fin
            · rcases Bool.eq_false_or_eq_true (decide ((bitsI .and .i64 wrong (1)) = (1))) with h15 | h15
              · exact tell_sound (ord121 wrong again) ⟨h15, h13, h12, h4, h3, h2, h1, trivial⟩ fin
              · exact tell_sound (ord120 wrong again) ⟨h15, h13, h12, h4, h3, h2, h1, trivial⟩ fin
          · rcases Bool.eq_false_or_eq_true (decide ((bitsI .and .i64 (Int.fdiv wrong (2 ^ (min ((1) : Int).toNat (Go.IntKind.bits .i64)))) (1)) = (1))) with h16 | h16
            · rcases Bool.eq_false_or_eq_true (decide ((bitsI .and .i64 wrong (1)) = (1))) with h17 | h17
              · exact tell_sound (ord119 wrong again) ⟨h17, h16, h12, h4, h3, h2, h1, trivial⟩ fin
              · exact tell_sound (ord118 wrong again) ⟨h17, h16, h12, h4, h3, h2, h1, trivial⟩ fin
            · rcases Bool.eq_false_or_eq_true (decide ((bitsI .and .i64 wrong (1)) = (1))) with h18 | h18
              · exact tell_sound (ord117 wrong again) ⟨h18, h16, h12, h4, h3, h2, h1, trivial⟩ fin
              · exact tell_sound (ord116 wrong again) ⟨h18, h16, h12, h4, h3, h2, h1, trivial⟩ fin
      · rcases Bool.eq_false_or_eq_true (decide ((bitsI .and .i64 (Int.fdiv wrong (2 ^ (min ((3) : Int).toNat (Go.IntKind.bits .i64)))) (1)) = (1))) with h19 | h19
        · rcases Bool.eq_false_or_eq_true (decide ((bitsI .and .i64 (Int.fdiv wrong (2 ^ (min ((2) : Int).toNat (Go.IntKind.bits .i64)))) (1)) = (1))) with h20 | h20
          · rcases Bool.eq_false_or_eq_true (decide ((bitsI .and .i64 (Int.fdiv wrong (2 ^ (min ((1) : Int).toNat (Go.IntKind.bits .i64)))) (1)) = (1))) with h21 | h21
            · rcases Bool.eq_false_or_eq_true (decide ((bitsI .and .i64 wrong (1)) = (1))) with h22 | h22
              · exact tell_sound (ord115 wrong again) ⟨h22, h21, h20, h19, h3, h2, h1, trivial⟩ fin
              · exact tell_sound (ord114 wrong again) ⟨h22, h21, h20, h19, h3, h2, h1, trivial⟩ fin
            · rcases Bool.eq_false_or_eq_true (decide ((bitsI .and .i64 wrong (1)) = (1))) with h23 | h23
              · exact tell_sound (ord113 wrong again) ⟨h23, h21, h20, h19, h3, h2, h1, trivial⟩ fin
              · exact tell_sound (ord112 wrong again) ⟨h23, h21, h20, h19, h3, h2, h1, trivial⟩ fin
          · rcases Bool.eq_false_or_eq_true (decide ((bitsI .and .i64 (Int.fdiv wrong (2 ^ (min ((1) : Int).toNat (Go.IntKind.bits .i64)))) (1)) = (1))) with h24 | h24
            · rcases Bool.eq_false_or_eq_true (decide ((bitsI .and .i64 wrong (1)) = (1))) with h25 | h25
              · exact tell_sound (ord111 wrong again) ⟨h25, h24, h20, h19, h3, h2, h1, trivial⟩ fin
              · exact tell_sound (ord110 wrong again) ⟨h25, h24, h20, h19, h3, h2, h1, trivial⟩ fin
            · rcases Bool.eq_false_or_eq_true (decide ((bitsI .and .i64 wrong (1)) = (1))) with h26 | h26
              · exact tell_sound (ord109 wrong again) ⟨h26, h24, h20, h19, h3, h2, h1, trivial⟩ fin
              · exact tell_sound (ord108 wrong again) ⟨h26, h24, h20, h19, h3, h2, h1, trivial⟩ fin
        · rcases Bool.eq_false_or_eq_true (decide ((bitsI .and .i64 (Int.fdiv wrong (2 ^ (min ((2) : Int).toNat (Go.IntKind.bits .i64)))) (1)) = (1))) with h27 | h27
          · rcases Bool.eq_false_or_eq_true (decide ((bitsI .and .i64 (Int.fdiv wrong (2 ^ (min ((1) : Int).toNat (Go.IntKind.bits .i64)))) (1)) = (1))) with h28 | h28
            · rcases Bool.eq_false_or_eq_true (decide ((bitsI .and .i64 wrong (1)) = (1))) with h29 | h29
              · exact tell_sound (ord107 wrong again) ⟨h29, h28, h27, h19, h3, h2, h1, trivial⟩ fin
              · exact tell_sound (ord106 wrong again) ⟨h29, h28, h27, h19, h3, h2, h1, trivial⟩ fin
            · rcases Bool.eq_false_or_eq_true (decide ((bitsI .and .i64 wrong (1)) = (1))) with h30 | h30
              · exact tell_sound (ord105 wrong again) ⟨h30, h28, h27, h19, h3, h2, h1, trivial⟩ fin
              · exact tell_sound (ord104 wrong again) ⟨h30, h28, h27, h19, h3, h2, h1, trivial⟩ fin
          · rcases Bool.eq_false_or_eq_true (decide ((bitsI .and .i64 (Int.fdiv wrong (2 ^ (min ((1) : Int).toNat (Go.IntKind.bits .i64)))) (1)) = (1))) with h31 | h31
            · rcases Bool.eq_false_or_eq_true (decide ((bitsI .and .i64 wrong (1)) = (1))) with h32 | h32
              · exact tell_sound (ord103 wrong again) ⟨h32, h31, h27, h19, h3, h2, h1, trivial⟩ fin
              · exact tell_sound (ord102 wrong again) ⟨h32, h31, h27, h19, h3, h2, h1, trivial⟩ fin
            · rcases Bool.eq_false_or_eq_true (decide ((bitsI .and .i64 wrong (1)) = (1))) with h33 | h33
              · exact tell_sound (ord101 wrong again) ⟨h33, h31, h27, h19, h3, h2, h1, trivial⟩ fin
              · rcases Bool.eq_false_or_eq_true again with h34 | h34
                · exact tell_sound (ord100 wrong again) ⟨h34, h33, h31, h27, h19, h3, h2, h1, trivial⟩ fin
                · exact tell_sound (ord99 wrong again) ⟨h34, h33, h31, h27, h19, h3, h2, h1, trivial⟩ fin
    · rcases Bool.eq_false_or_eq_true (decide ((bitsI .and .i64 (Int.fdiv wrong (2 ^ (min ((4) : Int).toNat (Go.IntKind.bits .i64)))) (1)) = (1))) with h35 | h35
      · rcases Bool.eq_false_or_eq_true (decide ((bitsI .and .i64 (Int.fdiv wrong (2 ^ (min ((3) : Int).toNat (Go.IntKind.bits .i64)))) (1)) = (1))) with h36 | h36
        · rcases Bool.eq_false_or_eq_true (decide ((bitsI .and .i64 (Int.fdiv wrong (2 ^ (min ((2) : Int).toNat (Go.IntKind.bits .i64)))) (1)) = (1))) with h37 | h37
          · rcases Bool.eq_false_or_eq_true (decide ((bitsI .and .i64 (Int.fdiv wrong (2 ^ (min ((1) : Int).toNat (Go.IntKind.bits .i64)))) (1)) = (1))) with h38 | h38
            · rcases Bool.eq_false_or_eq_true (decide ((bitsI .and .i64 wrong (1)) = (1))) with h39 | h39
              · exact tell_sound (ord98 wrong again) ⟨h39, h38, h37, h36, h35, h2, h1, trivial⟩ fin
              · exact tell_sound (ord97 wrong again) ⟨h39, h38, h37, h36, h35, h2, h1, trivial⟩ fin
            · rcases Bool.eq_false_or_eq_true (decide ((bitsI .and .i64 wrong (1)) = (1))) with h40 | h40
              · exact tell_sound (ord96 wrong again) ⟨h40, h38, h37, h36, h35, h2, h1, trivial⟩ fin
              · exact tell_sound (ord95 wrong again) ⟨h40, h38, h37, h36, h35, h2, h1, trivial⟩ fin
          · rcases Bool.eq_false_or_eq_true (decide ((bitsI .and .i64 (Int.fdiv wrong (2 ^ (min ((1) : Int).toNat (Go.IntKind.bits .i64)))) (1)) = (1))) with h41 | h41
            · rcases Bool.eq_false_or_eq_true (decide ((bitsI .and .i64 wrong (1)) = (1))) with h42 | h42
              · exact tell_sound (ord94 wrong again) ⟨h42, h41, h37, h36, h35, h2, h1, trivial⟩ fin
              · exact tell_sound (ord93 wrong again) ⟨h42, h41, h37, h36, h35, h2, h1, trivial⟩ fin
            · rcases Bool.eq_false_or_eq_true (decide ((bitsI .and .i64 wrong (1)) = (1))) with h43 | h43
              · exact tell_sound (ord92 wrong again) ⟨h43, h41, h37, h36, h35, h2, h1, trivial⟩ fin
              · exact tell_sound (ord91 wrong again) ⟨h43, h41, h37, h36, h35, h2, h1, trivial⟩ fin
        · rcases Bool.eq_false_or_eq_true (decide ((bitsI .and .i64 (Int.fdiv wrong (2 ^ (min ((2) : Int).toNat (Go.IntKind.bits .i64)))) (1)) = (1))) with h44 | h44
          · rcases Bool.eq_false_or_eq_true (decide ((bitsI .and .i64 (Int.fdiv wrong (2 ^ (min ((1) : Int).toNat (Go.IntKind.bits .i64)))) (1)) = (1))) with h45 | h45
            · rcases Bool.eq_false_or_eq_true (decide ((bitsI .and .i64 wrong (1)) = (1))) with h46 | h46
              · exact tell_sound (ord90 wrong again) ⟨h46, h45, h44, h36, h35, h2, h1, trivial⟩ fin
              · exact tell_sound (ord89 wrong again) ⟨h46, h45, h44, h36, h35, h2, h1, trivial⟩ fin
            · rcases Bool.eq_false_or_eq_true (decide ((bitsI .and .i64 wrong (1)) = (1))) with h47 | h47
              · exact tell_sound (ord88 wrong again) ⟨h47, h45, h44, h36, h35, h2, h1, trivial⟩ fin
              · exact tell_sound (ord87 wrong again) ⟨h47, h45, h44, h36, h35, h2, h1, trivial⟩ fin
          · rcases Bool.eq_false_or_eq_true (decide ((bitsI .and .i64 (Int.fdiv wrong (2 ^ (min ((1) : Int).toNat (Go.IntKind.bits .i64)))) (1)) = (1))) with h48 | h48
            · rcases Bool.eq_false_or_eq_true (decide ((bitsI .and .i64 wrong (1)) = (1))) with h49 | h49
              · exact tell_sound (ord86 wrong again) ⟨h49, h48, h44, h36, h35, h2, h1, trivial⟩ fin
              · exact tell_sound (ord85 wrong again) ⟨h49, h48, h44, h36, h35, h2, h1, trivial⟩ fin
            · rcases Bool.eq_false_or_eq_true (decide ((bitsI .and .i64 wrong (1)) = (1))) with h50 | h50
              · exact tell_sound (ord84 wrong again) ⟨h50, h48, h44, h36, h35, h2, h1, trivial⟩ fin
              · exact tell_sound (ord83 wrong again) ⟨h50, h48, h44, h36, h35, h2, h1, trivial⟩ fin
      · rcases Bool.eq_false_or_eq_true (decide ((bitsI .and .i64 (Int.fdiv wrong (2 ^ (min ((3) : Int).toNat (Go.IntKind.bits .i64)))) (1)) = (1))) with h51 | h51
        · rcases Bool.eq_false_or_eq_true (decide ((bitsI .and .i64 (Int.fdiv wrong (2 ^ (min ((2) : Int).toNat (Go.IntKind.bits .i64)))) (1)) = (1))) with h52 | h52
          · rcases Bool.eq_false_or_eq_true (decide ((bitsI .and .i64 (Int.fdiv wrong (2 ^ (min ((1) : Int).toNat (Go.IntKind.bits .i64)))) (1)) = (1))) with h53 | h53
            · rcases Bool.eq_false_or_eq_true (decide ((bitsI .and .i64 wrong (1)) = (1))) with h54 | h54
              · exact tell_sound (ord82 wrong again) ⟨h54, h53, h52, h51, h35, h2, h1, trivial⟩ fin
              · exact tell_sound (ord81 wrong again) ⟨h54, h53, h52, h51, h35, h2, h1, trivial⟩ fin
            · rcases Bool.eq_false_or_eq_true (decide ((bitsI .and .i64 wrong (1)) = (1))) with h55 | h55
              · exact tell_sound (ord80 wrong again) ⟨h55, h53, h52, h51, h35, h2, h1, trivial⟩ fin
              · exact tell_sound (ord79 wrong again) ⟨h55, h53, h52, h51, h35, h2, h1, trivial⟩ fin
          · rcases Bool.eq_false_or_eq_true (decide ((bitsI .and .i64 (Int.fdiv wrong (2 ^ (min ((1) : Int).toNat (Go.IntKind.bits .i64)))) (1)) = (1))) with h56 | h56
            · rcases Bool.eq_false_or_eq_true (decide ((bitsI .and .i64 wrong (1)) = (1))) with h57 | h57
              · exact tell_sound (ord78 wrong again) ⟨h57, h56, h52, h51, h35, h2, h1, trivial⟩ fin
              · exact tell_sound (ord77 wrong again) ⟨h57, h56, h52, h51, h35, h2, h1, trivial⟩ fin
            · rcases Bool.eq_false_or_eq_true (decide ((bitsI .and .i64 wrong (1)) = (1))) with h58 | h58
              · exact tell_sound (ord76 wrong again) ⟨h58, h56, h52, h51, h35, h2, h1, trivial⟩ fin
              · exact tell_sound (ord75 wrong again) ⟨h58, h56, h52, h51, h35, h2, h1, trivial⟩ fin
        · rcases Bool.eq_false_or_eq_true (decide ((bitsI .and .i64 (Int.fdiv wrong (2 ^ (min ((2) : Int).toNat (Go.IntKind.bits .i64)))) (1)) = (1))) with h59 | h59
          · rcases Bool.eq_false_or_eq_true (decide ((bitsI .and .i64 (Int.fdiv wrong (2 ^ (min ((1) : Int).toNat (Go.IntKind.bits .i64)))) (1)) = (1))) with h60 | h60
            · rcases Bool.eq_false_or_eq_true (decide ((bitsI .and .i64 wrong (1)) = (1))) with h61 | h61
              · exact tell_sound (ord74 wrong again) ⟨h61, h60, h59, h51, h35, h2, h1, trivial⟩ fin
              · exact tell_sound (ord73 wrong again) ⟨h61, h60, h59, h51, h35, h2, h1, trivial⟩ fin
            · rcases Bool.eq_false_or_eq_true (decide ((bitsI .and .i64 wrong (1)) = (1))) with h62 | h62
              · exact tell_sound (ord72 wrong again) ⟨h62, h60, h59, h51, h35, h2, h1, trivial⟩ fin
              · exact tell_sound (ord71 wrong again) ⟨h62, h60, h59, h51, h35, h2, h1, trivial⟩ fin
          · rcases Bool.eq_false_or_eq_true (decide ((bitsI .and .i64 (Int.fdiv wrong (2 ^ (min ((1) : Int).toNat (Go.IntKind.bits .i64)))) (1)) = (1))) with h63 | h63
            · rcases Bool.eq_false_or_eq_true (decide ((bitsI .and .i64 wrong (1)) = (1))) with h64 | h64
              · exact tell_sound (ord70 wrong again) ⟨h64, h63, h59, h51, h35, h2, h1, trivial⟩ fin
              · exact tell_sound (ord69 wrong again) ⟨h64, h63, h59, h51, h35, h2, h1, trivial⟩ fin
            · rcases Bool.eq_false_or_eq_true (decide ((bitsI .and .i64 wrong (1)) = (1))) with h65 | h65
              · exact tell_sound (ord68 wrong again) ⟨h65, h63, h59, h51, h35, h2, h1, trivial⟩ fin
              · rcases Bool.eq_false_or_eq_true again with h66 | h66
                · exact tell_sound (ord67 wrong again) ⟨h66, h65, h63, h59, h51, h35, h2, h1, trivial⟩ fin
                · exact tell_sound (ord66 wrong again) ⟨h66, h65, h63, h59, h51, h35, h2, h1, trivial⟩ fin
  · rcases Bool.eq_false_or_eq_true (decide ((bitsI .and .i64 (Int.fdiv wrong (2 ^ (min ((5) : Int).toNat (Go.IntKind.bits .i64)))) (1)) = (1))) with h67 | h67
    · rcases Bool.eq_false_or_eq_true (decide ((bitsI .and .i64 (Int.fdiv wrong (2 ^ (min ((4) : Int).toNat (Go.IntKind.bits .i64)))) (1)) = (1))) with h68 | h68
      · rcases Bool.eq_false_or_eq_true (decide ((bitsI .and .i64 (Int.fdiv wrong (2 ^ (min ((3) : Int).toNat (Go.IntKind.bits .i64)))) (1)) = (1))) with h69 | h69
        · rcases Bool.eq_false_or_eq_true (decide ((bitsI .and .i64 (Int.fdiv wrong (2 ^ (min ((2) : Int).toNat (Go.IntKind.bits .i64)))) (1)) = (1))) with h70 | h70
          · rcases Bool.eq_false_or_eq_true (decide ((bitsI .and .i64 (Int.fdiv wrong (2 ^ (min ((1) : Int).toNat (Go.IntKind.bits .i64)))) (1)) = (1))) with h71 | h71
            · rcases Bool.eq_false_or_eq_true (decide ((bitsI .and .i64 wrong (1)) = (1))) with h72 | h72
              · exact tell_sound (ord65 wrong again) ⟨h72, h71, h70, h69, h68, h67, h1, trivial⟩ fin
              · exact tell_sound (ord64 wrong again) ⟨h72, h71, h70, h69, h68, h67, h1, trivial⟩ fin
            · rcases Bool.eq_false_or_eq_true (decide ((bitsI .and .i64 wrong (1)) = (1))) with h73 | h73
              · exact tell_sound (ord63 wrong again) ⟨h73, h71, h70, h69, h68, h67, h1, trivial⟩ fin
              · exact tell_sound (ord62 wrong again) ⟨h73, h71, h70, h69, h68, h67, h1, trivial⟩ fin
          · rcases Bool.eq_false_or_eq_true (decide ((bitsI .and .i64 (Int.fdiv wrong (2 ^ (min ((1) : Int).toNat (Go.IntKind.bits .i64)))) (1)) = (1))) with h74 | h74
            · rcases Bool.eq_false_or_eq_true (decide ((bitsI .and .i64 wrong (1)) = (1))) with h75 | h75
              · exact tell_sound (ord61 wrong again) ⟨h75, h74, h70, h69, h68, h67, h1, trivial⟩ fin
              · exact tell_sound (ord60 wrong again) ⟨h75, h74, h70, h69, h68, h67, h1, trivial⟩ fin
            · rcases Bool.eq_false_or_eq_true (decide ((bitsI .and .i64 wrong (1)) = (1))) with h76 | h76
              · exact tell_sound (ord59 wrong again) ⟨h76, h74, h70, h69, h68, h67, h1, trivial⟩ fin
              · exact tell_sound (ord58 wrong again) ⟨h76, h74, h70, h69, h68, h67, h1, trivial⟩ fin
        · rcases Bool.eq_false_or_eq_true (decide ((bitsI .and .i64 (Int.fdiv wrong (2 ^ (min ((2) : Int).toNat (Go.IntKind.bits .i64)))) (1)) = (1))) with h77 | h77
          · rcases Bool.eq_false_or_eq_true (decide ((bitsI .and .i64 (Int.fdiv wrong (2 ^ (min ((1) : Int).toNat (Go.IntKind.bits .i64)))) (1)) = (1))) with h78 | h78
            · rcases Bool.eq_false_or_eq_true (decide ((bitsI .and .i64 wrong (1)) = (1))) with h79 | h79
              · exact tell_sound (ord57 wrong again) ⟨h79, h78, h77, h69, h68, h67, h1, trivial⟩ fin
              · exact tell_sound (ord56 wrong again) ⟨h79, h78, h77, h69, h68, h67, h1, trivial⟩ fin
            · rcases Bool.eq_false_or_eq_true (decide ((bitsI .and .i64 wrong (1)) = (1))) with h80 | h80
              · exact tell_sound (ord55 wrong again) ⟨h80, h78, h77, h69, h68, h67, h1, trivial⟩ fin
              · exact tell_sound (ord54 wrong again) ⟨h80, h78, h77, h69, h68, h67, h1, trivial⟩ fin
          · rcases Bool.eq_false_or_eq_true (decide ((bitsI .and .i64 (Int.fdiv wrong (2 ^ (min ((1) : Int).toNat (Go.IntKind.bits .i64)))) (1)) = (1))) with h81 | h81
            · rcases Bool.eq_false_or_eq_true (decide ((bitsI .and .i64 wrong (1)) = (1))) with h82 | h82
              · exact tell_sound (ord53 wrong again) ⟨h82, h81, h77, h69, h68, h67, h1, trivial⟩ fin
              · exact tell_sound (ord52 wrong again) ⟨h82, h81, h77, h69, h68, h67, h1, trivial⟩ fin
            · rcases Bool.eq_false_or_eq_true (decide ((bitsI .and .i64 wrong (1)) = (1))) with h83 | h83
              · exact tell_sound (ord51 wrong again) ⟨h83, h81, h77, h69, h68, h67, h1, trivial⟩ fin
              · exact tell_sound (ord50 wrong again) ⟨h83, h81, h77, h69, h68, h67, h1, trivial⟩ fin
      · rcases Bool.eq_false_or_eq_true (decide ((bitsI .and .i64 (Int.fdiv wrong (2 ^ (min ((3) : Int).toNat (Go.IntKind.bits .i64)))) (1)) = (1))) with h84 | h84
        · rcases Bool.eq_false_or_eq_true (decide ((bitsI .and .i64 (Int.fdiv wrong (2 ^ (min ((2) : Int).toNat (Go.IntKind.bits .i64)))) (1)) = (1))) with h85 | h85
          · rcases Bool.eq_false_or_eq_true (decide ((bitsI .and .i64 (Int.fdiv wrong (2 ^ (min ((1) : Int).toNat (Go.IntKind.bits .i64)))) (1)) = (1))) with h86 | h86
            · rcases Bool.eq_false_or_eq_true (decide ((bitsI .and .i64 wrong (1)) = (1))) with h87 | h87
              · exact tell_sound (ord49 wrong again) ⟨h87, h86, h85, h84, h68, h67, h1, trivial⟩ fin
              · exact tell_sound (ord48 wrong again) ⟨h87, h86, h85, h84, h68, h67, h1, trivial⟩ fin
            · rcases Bool.eq_false_or_eq_true (decide ((bitsI .and .i64 wrong (1)) = (1))) with h88 | h88
              · exact tell_sound (ord47 wrong again) ⟨h88, h86, h85, h84, h68, h67, h1, trivial⟩ fin
              · exact tell_sound (ord46 wrong again) ⟨h88, h86, h85, h84, h68, h67, h1, trivial⟩ fin
          · rcases Bool.eq_false_or_eq_true (decide ((bitsI .and .i64 (Int.fdiv wrong (2 ^ (min ((1) : Int).toNat (Go.IntKind.bits .i64)))) (1)) = (1))) with h89 | h89
            · rcases Bool.eq_false_or_eq_true (decide ((bitsI .and .i64 wrong (1)) = (1))) with h90 | h90
              · exact tell_sound (ord45 wrong again) ⟨h90, h89, h85, h84, h68, h67, h1, trivial⟩ fin
              · exact tell_sound (ord44 wrong again) ⟨h90, h89, h85, h84, h68, h67, h1, trivial⟩ fin
            · rcases Bool.eq_false_or_eq_true (decide ((bitsI .and .i64 wrong (1)) = (1))) with h91 | h91
              · exact tell_sound (ord43 wrong again) ⟨h91, h89, h85, h84, h68, h67, h1, trivial⟩ fin
              · exact tell_sound (ord42 wrong again) ⟨h91, h89, h85, h84, h68, h67, h1, trivial⟩ fin
        · rcases Bool.eq_false_or_eq_true (decide ((bitsI .and .i64 (Int.fdiv wrong (2 ^ (min ((2) : Int).toNat (Go.IntKind.bits .i64)))) (1)) = (1))) with h92 | h92
          · rcases Bool.eq_false_or_eq_true (decide ((bitsI .and .i64 (Int.fdiv wrong (2 ^ (min ((1) : Int).toNat (Go.IntKind.bits .i64)))) (1)) = (1))) with h93 | h93
            · rcases Bool.eq_false_or_eq_true (decide ((bitsI .and .i64 wrong (1)) = (1))) with h94 | h94
              · exact tell_sound (ord41 wrong again) ⟨h94, h93, h92, h84, h68, h67, h1, trivial⟩ fin
              · exact tell_sound (ord40 wrong again) ⟨h94, h93, h92, h84, h68, h67, h1, trivial⟩ fin
            · rcases Bool.eq_false_or_eq_true (decide ((bitsI .and .i64 wrong (1)) = (1))) with h95 | h95
              · exact tell_sound (ord39 wrong again) ⟨h95, h93, h92, h84, h68, h67, h1, trivial⟩ fin
              · exact tell_sound (ord38 wrong again) ⟨h95, h93, h92, h84, h68, h67, h1, trivial⟩ fin
          · rcases Bool.eq_false_or_eq_true (decide ((bitsI .and .i64 (Int.fdiv wrong (2 ^ (min ((1) : Int).toNat (Go.IntKind.bits .i64)))) (1)) = (1))) with h96 | h96
            · rcases Bool.eq_false_or_eq_true (decide ((bitsI .and .i64 wrong (1)) = (1))) with h97 | h97
              · exact tell_sound (ord37 wrong again) ⟨h97, h96, h92, h84, h68, h67, h1, trivial⟩ fin
              · exact tell_sound (ord36 wrong again) ⟨h97, h96, h92, h84, h68, h67, h1, trivial⟩ fin
            · rcases Bool.eq_false_or_eq_true (decide ((bitsI .and .i64 wrong (1)) = (1))) with h98 | h98
              · exact tell_sound (ord35 wrong again) ⟨h98, h96, h92, h84, h68, h67, h1, trivial⟩ fin
              · rcases Bool.eq_false_or_eq_true again with h99 | h99
                · exact tell_sound (ord34 wrong again) ⟨h99, h98, h96, h92, h84, h68, h67, h1, trivial⟩ fin
                · exact tell_sound (ord33 wrong again) ⟨h99, h98, h96, h92, h84, h68, h67, h1, trivial⟩ fin
    · rcases Bool.eq_false_or_eq_true (decide ((bitsI .and .i64 (Int.fdiv wrong (2 ^ (min ((4) : Int).toNat (Go.IntKind.bits .i64)))) (1)) = (1))) with h100 | h100
      · rcases Bool.eq_false_or_eq_true (decide ((bitsI .and .i64 (Int.fdiv wrong (2 ^ (min ((3) : Int).toNat (Go.IntKind.bits .i64)))) (1)) = (1))) with h101 | h101
        · rcases Bool.eq_false_or_eq_true (decide ((bitsI .and .i64 (Int.fdiv wrong (2 ^ (min ((2) : Int).toNat (Go.IntKind.bits .i64)))) (1)) = (1))) with h102 | h102
          · rcases Bool.eq_false_or_eq_true (decide ((bitsI .and .i64 (Int.fdiv wrong (2 ^ (min ((1) : Int).toNat (Go.IntKind.bits .i64)))) (1)) = (1))) with h103 | h103
            · rcases Bool.eq_false_or_eq_true (decide ((bitsI .and .i64 wrong (1)) = (1))) with h104 | h104
              · exact tell_sound (ord32 wrong again) ⟨h104, h103, h102, h101, h100, h67, h1, trivial⟩ fin
              · exact tell_sound (ord31 wrong again) ⟨h104, h103, h102, h101, h100, h67, h1, trivial⟩ fin
            · rcases Bool.eq_false_or_eq_true (decide ((bitsI .and .i64 wrong (1)) = (1))) with h105 | h105
              · exact tell_sound (ord30 wrong again) ⟨h105, h103, h102, h101, h100, h67, h1, trivial⟩ fin
              · exact tell_sound (ord29 wrong again) ⟨h105, h103, h102, h101, h100, h67, h1, trivial⟩ fin
          · rcases Bool.eq_false_or_eq_true (decide ((bitsI .and .i64 (Int.fdiv wrong (2 ^ (min ((1) : Int).toNat (Go.IntKind.bits .i64)))) (1)) = (1))) with h106 | h106
            · rcases Bool.eq_false_or_eq_true (decide ((bitsI .and .i64 wrong (1)) = (1))) with h107 | h107
              · exact tell_sound (ord28 wrong again) ⟨h107, h106, h102, h101, h100, h67, h1, trivial⟩ fin
              · exact tell_sound (ord27 wrong again) ⟨h107, h106, h102, h101, h100, h67, h1, trivial⟩ fin
            · rcases Bool.eq_false_or_eq_true (decide ((bitsI .and .i64 wrong (1)) = (1))) with h108 | h108
              · exact tell_sound (ord26 wrong again) ⟨h108, h106, h102, h101, h100, h67, h1, trivial⟩ fin
              · exact tell_sound (ord25 wrong again) ⟨h108, h106, h102, h101, h100, h67, h1, trivial⟩ fin
        · rcases Bool.eq_false_or_eq_true (decide ((bitsI .and .i64 (Int.fdiv wrong (2 ^ (min ((2) : Int).toNat (Go.IntKind.bits .i64)))) (1)) = (1))) with h109 | h109
          · rcases Bool.eq_false_or_eq_true (decide ((bitsI .and .i64 (Int.fdiv wrong (2 ^ (min ((1) : Int).toNat (Go.IntKind.bits .i64)))) (1)) = (1))) with h110 | h110
            · rcases Bool.eq_false_or_eq_true (decide ((bitsI .and .i64 wrong (1)) = (1))) with h111 | h111
              · exact tell_sound (ord24 wrong again) ⟨h111, h110, h109, h101, h100, h67, h1, trivial⟩ fin
              · exact tell_sound (ord23 wrong again) ⟨h111, h110, h109, h101, h100, h67, h1, trivial⟩ fin
            · rcases Bool.eq_false_or_eq_true (decide ((bitsI .and .i64 wrong (1)) = (1))) with h112 | h112
              · exact tell_sound (ord22 wrong again) ⟨h112, h110, h109, h101, h100, h67, h1, trivial⟩ fin
              · exact tell_sound (ord21 wrong again) ⟨h112, h110, h109, h101, h100, h67, h1, trivial⟩ fin
          · rcases Bool.eq_false_or_eq_true (decide ((bitsI .and .i64 (Int.fdiv wrong (2 ^ (min ((1) : Int).toNat (Go.IntKind.bits .i64)))) (1)) = (1))) with h113 | h113
            · rcases Bool.eq_false_or_eq_true (decide ((bitsI .and .i64 wrong (1)) = (1))) with h114 | h114
              · exact tell_sound (ord20 wrong again) ⟨h114, h113, h109, h101, h100, h67, h1, trivial⟩ fin
              · exact tell_sound (ord19 wrong again) ⟨h114, h113, h109, h101, h100, h67, h1, trivial⟩ fin
            · rcases Bool.eq_false_or_eq_true (decide ((bitsI .and .i64 wrong (1)) = (1))) with h115 | h115
              · exact tell_sound (ord18 wrong again) ⟨h115, h113, h109, h101, h100, h67, h1, trivial⟩ fin
              · exact tell_sound (ord17 wrong again) ⟨h115, h113, h109, h101, h100, h67, h1, trivial⟩ fin
      · rcases Bool.eq_false_or_eq_true (decide ((bitsI .and .i64 (Int.fdiv wrong (2 ^ (min ((3) : Int).toNat (Go.IntKind.bits .i64)))) (1)) = (1))) with h116 | h116
        · rcases Bool.eq_false_or_eq_true (decide ((bitsI .and .i64 (Int.fdiv wrong (2 ^ (min ((2) : Int).toNat (Go.IntKind.bits .i64)))) (1)) = (1))) with h117 | h117
          · rcases Bool.eq_false_or_eq_true (decide ((bitsI .and .i64 (Int.fdiv wrong (2 ^ (min ((1) : Int).toNat (Go.IntKind.bits .i64)))) (1)) = (1))) with h118 | h118
            · rcases Bool.eq_false_or_eq_true (decide ((bitsI .and .i64 wrong (1)) = (1))) with h119 | h119
              · exact tell_sound (ord16 wrong again) ⟨h119, h118, h117, h116, h100, h67, h1, trivial⟩ fin
              · exact tell_sound (ord15 wrong again) ⟨h119, h118, h117, h116, h100, h67, h1, trivial⟩ fin
            · rcases Bool.eq_false_or_eq_true (decide ((bitsI .and .i64 wrong (1)) = (1))) with h120 | h120
              · exact tell_sound (ord14 wrong again) ⟨h120, h118, h117, h116, h100, h67, h1, trivial⟩ fin
              · exact tell_sound (ord13 wrong again) ⟨h120, h118, h117, h116, h100, h67, h1, trivial⟩ fin
          · rcases Bool.eq_false_or_eq_true (decide ((bitsI .and .i64 (Int.fdiv wrong (2 ^ (min ((1) : Int).toNat (Go.IntKind.bits .i64)))) (1)) = (1))) with h121 | h121
            · rcases Bool.eq_false_or_eq_true (decide ((bitsI .and .i64 wrong (1)) = (1))) with h122 | h122
              · exact tell_sound (ord12 wrong again) ⟨h122, h121, h117, h116, h100, h67, h1, trivial⟩ fin
              · exact tell_sound (ord11 wrong again) ⟨h122, h121, h117, h116, h100, h67, h1, trivial⟩ fin
            · rcases Bool.eq_false_or_eq_true (decide ((bitsI .and .i64 wrong (1)) = (1))) with h123 | h123
              · exact tell_sound (ord10 wrong again) ⟨h123, h121, h117, h116, h100, h67, h1, trivial⟩ fin
              · exact tell_sound (ord9 wrong again) ⟨h123, h121, h117, h116, h100, h67, h1, trivial⟩ fin
        · rcases Bool.eq_false_or_eq_true (decide ((bitsI .and .i64 (Int.fdiv wrong (2 ^ (min ((2) : Int).toNat (Go.IntKind.bits .i64)))) (1)) = (1))) with h124 | h124
          · rcases Bool.eq_false_or_eq_true (decide ((bitsI .and .i64 (Int.fdiv wrong (2 ^ (min ((1) : Int).toNat (Go.IntKind.bits .i64)))) (1)) = (1))) with h125 | h125
            · rcases Bool.eq_false_or_eq_true (decide ((bitsI .and .i64 wrong (1)) = (1))) with h126 | h126
              · exact tell_sound (ord8 wrong again) ⟨h126, h125, h124, h116, h100, h67, h1, trivial⟩ fin
              · exact tell_sound (ord7 wrong again) ⟨h126, h125, h124, h116, h100, h67, h1, trivial⟩ fin
            · rcases Bool.eq_false_or_eq_true (decide ((bitsI .and .i64 wrong (1)) = (1))) with h127 | h127
              · exact tell_sound (ord6 wrong again) ⟨h127, h125, h124, h116, h100, h67, h1, trivial⟩ fin
              · exact tell_sound (ord5 wrong again) ⟨h127, h125, h124, h116, h100, h67, h1, trivial⟩ fin
          · rcases Bool.eq_false_or_eq_true (decide ((bitsI .and .i64 (Int.fdiv wrong (2 ^ (min ((1) : Int).toNat (Go.IntKind.bits .i64)))) (1)) = (1))) with h128 | h128
            · rcases Bool.eq_false_or_eq_true (decide ((bitsI .and .i64 wrong (1)) = (1))) with h129 | h129
              · exact tell_sound (ord4 wrong again) ⟨h129, h128, h124, h116, h100, h67, h1, trivial⟩ fin
              · exact tell_sound (ord3 wrong again) ⟨h129, h128, h124, h116, h100, h67, h1, trivial⟩ fin
            · rcases Bool.eq_false_or_eq_true (decide ((bitsI .and .i64 wrong (1)) = (1))) with h130 | h130
              · exact tell_sound (ord2 wrong again) ⟨h130, h128, h124, h116, h100, h67, h1, trivial⟩ fin
              · rcases Bool.eq_false_or_eq_true again with h131 | h131
                · exact tell_sound (ord1 wrong again) ⟨h131, h130, h128, h124, h116, h100, h67, h1, trivial⟩ fin
                · exact tell_sound (ord0 wrong again) ⟨h131, h130, h128, h124, h116, h100, h67, h1, trivial⟩ fin
end Go.Proofs.YtmgbeipdeeegoaaGreatDoor.S
