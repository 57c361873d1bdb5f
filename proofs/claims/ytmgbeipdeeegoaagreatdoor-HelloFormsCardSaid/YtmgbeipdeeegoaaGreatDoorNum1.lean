/- Numbers of four limbs: sum, difference. -/
import Derived.Test.YtmgbeipdeeegoaaGreatDoorHb
import Derived.Test.YtmgbeipdeeegoaaGreatDoorCd3
namespace Go.Proofs.YtmgbeipdeeegoaaGreatDoor.S
open Go.AE
set_option maxRecDepth 1000000

/-- A number as four limbs. -/
noncomputable def limbs (T : Nat) : V := .agg [.int .u64 (Int.ofNat (T % 18446744073709551616)), .int .u64 (Int.ofNat (T / 18446744073709551616 % 18446744073709551616)),
  .int .u64 (Int.ofNat (T / 340282366920938463463374607431768211456 % 18446744073709551616)), .int .u64 (Int.ofNat (T / 6277101735386680763835789423207666416102355444464034512896 % 18446744073709551616))]
/-- Four limbs as a number. -/
noncomputable def toN : List V → Option Nat
  | [.int .u64 (.ofNat a), .int .u64 (.ofNat b), .int .u64 (.ofNat c), .int .u64 (.ofNat d)] =>
    match Nat.blt a 18446744073709551616 && Nat.blt b 18446744073709551616 && Nat.blt c 18446744073709551616 && Nat.blt d 18446744073709551616 with
    | true => some (a + 18446744073709551616 * b + 340282366920938463463374607431768211456 * c + 6277101735386680763835789423207666416102355444464034512896 * d)
    | false => none
  | _ => none

theorem toN_spec {x : List V} {X : Nat} (h : toN x = some X) : ∃ a b c d : Nat, x = [.int .u64 (Int.ofNat a), .int .u64 (Int.ofNat b), .int .u64 (Int.ofNat c), .int .u64 (Int.ofNat d)] ∧ a < 18446744073709551616 ∧ b < 18446744073709551616 ∧ c < 18446744073709551616 ∧ d < 18446744073709551616 ∧
    X = a + 18446744073709551616 * b + 340282366920938463463374607431768211456 * c + 6277101735386680763835789423207666416102355444464034512896 * d := by
  unfold toN at h
  split at h
  · rename_i a b c d
    split at h
    · rename_i hb
      simp only [Bool.and_eq_true] at hb
      obtain ⟨⟨⟨h1, h2⟩, h3⟩, h4⟩ := hb
      exact ⟨a, b, c, d, rfl, Nat.le_of_ble_eq_true h1, Nat.le_of_ble_eq_true h2, Nat.le_of_ble_eq_true h3, Nat.le_of_ble_eq_true h4, (Option.some.inj h).symm⟩
    · cases h
  · cases h

theorem limbs_of (T a b c d : Nat) (ha : a < 18446744073709551616) (hb : b < 18446744073709551616) (hc : c < 18446744073709551616) (hd : d < 18446744073709551616) (e : Nat)
    (h : T = a + 18446744073709551616 * b + 340282366920938463463374607431768211456 * c + 6277101735386680763835789423207666416102355444464034512896 * d + 115792089237316195423570985008687907853269984665640564039457584007913129639936 * e) :
    limbs T = .agg [.int .u64 (Int.ofNat a), .int .u64 (Int.ofNat b), .int .u64 (Int.ofNat c), .int .u64 (Int.ofNat d)] := by
  unfold limbs
  have h1 : T % 18446744073709551616 = a := by omega
  have h2 : T / 18446744073709551616 % 18446744073709551616 = b := by omega
  have h3 : T / 340282366920938463463374607431768211456 % 18446744073709551616 = c := by omega
  have h4 : T / 6277101735386680763835789423207666416102355444464034512896 % 18446744073709551616 = d := by omega
  rw [h1, h2, h3, h4]

noncomputable def Fadd : Fc := fun args hp nx => match args with
  | [.agg x, .agg y] => (match toN x, toN y with
    | some X, some Y => some (.tup [limbs (X + Y), .int .u64 (Int.ofNat ((X + Y) / 115792089237316195423570985008687907853269984665640564039457584007913129639936))], hp, nx)
    | _, _ => none)
  | _ => none
noncomputable def Fsub : Fc := fun args hp nx => match args with
  | [.agg x, .agg y] => (match toN x, toN y with
    | some X, some Y => some (.tup [limbs (X + 115792089237316195423570985008687907853269984665640564039457584007913129639936 - Y), .int .u64 (match Nat.blt X Y with | true => 1 | false => 0)], hp, nx)
    | _, _ => none)
  | _ => none

noncomputable def addC0 (x0 y0 : Int) : Int := (Int.ofNat ((Int.toNat x0 + Int.toNat y0 + Int.toNat (0)) / 18446744073709551616))
noncomputable def addC1 (x0 y0 x1 y1 : Int) : Int := (Int.ofNat ((Int.toNat x1 + Int.toNat y1 + Int.toNat (addC0 x0 y0)) / 18446744073709551616))
noncomputable def addC2 (x0 y0 x1 y1 x2 y2 : Int) : Int := (Int.ofNat ((Int.toNat x2 + Int.toNat y2 + Int.toNat (addC1 x0 y0 x1 y1)) / 18446744073709551616))
noncomputable def addC3 (x0 y0 x1 y1 x2 y2 x3 y3 : Int) : Int := (Int.ofNat ((Int.toNat x3 + Int.toNat y3 + Int.toNat (addC2 x0 y0 x1 y1 x2 y2)) / 18446744073709551616))
theorem add_run (Γ : Tr Ent) (x0 x1 x2 x3 y0 y1 y2 y3 : Int) : (callT Γ d81 [.agg [.int .u64 x0, .int .u64 x1, .int .u64 x2, .int .u64 x3], .agg [.int .u64 y0, .int .u64 y1, .int .u64 y2, .int .u64 y3]] .e .h).tell 100 (.n 19 .z (.n 0 .z (.n 3 .z (.n 0 .z (.n 2 .z (.n 0 .z (.n 0 .z (.n 0 .z (.n 0 .z (.n 0 .z (.n 4 .z (.n 1 .z (.n 12 .z (.n 0 .z (.n 3 .z (.n 0 .z (.n 0 .z (.n 0 .t (.n 0 .z (.n 0 .z (.n 0 .z (.n 0 .z (.n 0 .z (.n 0 .z (.n 4 .z (.n 1 .z (.n 12 .z (.n 0 .z (.n 3 .z (.n 0 .z (.n 0 .z (.n 0 .t (.n 0 .z (.n 0 .z (.n 0 .z (.n 0 .z (.n 0 .z (.n 0 .z (.n 4 .z (.n 1 .z (.n 12 .z (.n 0 .z (.n 3 .z (.n 0 .z (.n 0 .z (.n 0 .t (.n 0 .z (.n 0 .z (.n 0 .z (.n 0 .z (.n 0 .z (.n 0 .z (.n 4 .z (.n 1 .z (.n 6 .z (.n 0 .z (.n 0 .z (.n 2 .z (.n 1 .z (.n 0 .z .e)))))))))))))))))))))))))))))))))))))))))))))))))))))))))))) = some ((.tup [(.agg [(.int .u64 (Int.ofNat ((Int.toNat x0 + Int.toNat y0 + Int.toNat (0)) % 18446744073709551616))), (.int .u64 (Int.ofNat ((Int.toNat x1 + Int.toNat y1 + Int.toNat (addC0 x0 y0)) % 18446744073709551616))), (.int .u64 (Int.ofNat ((Int.toNat x2 + Int.toNat y2 + Int.toNat (addC1 x0 y0 x1 y1)) % 18446744073709551616))), (.int .u64 (Int.ofNat ((Int.toNat x3 + Int.toNat y3 + Int.toNat (addC2 x0 y0 x1 y1 x2 y2)) % 18446744073709551616)))]), (.int .u64 (addC3 x0 y0 x1 y1 x2 y2 x3 y3))]),
  [((Nat.ble (Int.toNat (addC2 x0 y0 x1 y1 x2 y2)) 1) = true), ((Nat.ble (Int.toNat (addC1 x0 y0 x1 y1)) 1) = true), ((Nat.ble (Int.toNat (addC0 x0 y0)) 1) = true)]) := by kernel_rfl
noncomputable def subC0 (x0 y0 : Int) : Int := (match Nat.blt (Int.toNat x0) (Int.toNat y0 + Int.toNat (0)) with | true => 1 | false => 0)
noncomputable def subC1 (x0 y0 x1 y1 : Int) : Int := (match Nat.blt (Int.toNat x1) (Int.toNat y1 + Int.toNat (subC0 x0 y0)) with | true => 1 | false => 0)
noncomputable def subC2 (x0 y0 x1 y1 x2 y2 : Int) : Int := (match Nat.blt (Int.toNat x2) (Int.toNat y2 + Int.toNat (subC1 x0 y0 x1 y1)) with | true => 1 | false => 0)
noncomputable def subC3 (x0 y0 x1 y1 x2 y2 x3 y3 : Int) : Int := (match Nat.blt (Int.toNat x3) (Int.toNat y3 + Int.toNat (subC2 x0 y0 x1 y1 x2 y2)) with | true => 1 | false => 0)
theorem sub_run (Γ : Tr Ent) (x0 x1 x2 x3 y0 y1 y2 y3 : Int) : (callT Γ d82 [.agg [.int .u64 x0, .int .u64 x1, .int .u64 x2, .int .u64 x3], .agg [.int .u64 y0, .int .u64 y1, .int .u64 y2, .int .u64 y3]] .e .h).tell 100 (.n 19 .z (.n 0 .z (.n 3 .z (.n 0 .z (.n 2 .z (.n 0 .z (.n 0 .z (.n 0 .z (.n 0 .z (.n 0 .z (.n 4 .z (.n 1 .z (.n 12 .z (.n 0 .z (.n 3 .z (.n 0 .z (.n 0 .z (.n 0 .t (.n 0 .z (.n 0 .z (.n 0 .z (.n 0 .z (.n 0 .z (.n 0 .z (.n 4 .z (.n 1 .z (.n 12 .z (.n 0 .z (.n 3 .z (.n 0 .z (.n 0 .z (.n 0 .t (.n 0 .z (.n 0 .z (.n 0 .z (.n 0 .z (.n 0 .z (.n 0 .z (.n 4 .z (.n 1 .z (.n 12 .z (.n 0 .z (.n 3 .z (.n 0 .z (.n 0 .z (.n 0 .t (.n 0 .z (.n 0 .z (.n 0 .z (.n 0 .z (.n 0 .z (.n 0 .z (.n 4 .z (.n 1 .z (.n 6 .z (.n 0 .z (.n 0 .z (.n 2 .z (.n 1 .z (.n 0 .z .e)))))))))))))))))))))))))))))))))))))))))))))))))))))))))))) = some ((.tup [(.agg [(.int .u64 (Int.ofNat ((Int.toNat x0 + 18446744073709551616 - Int.toNat y0 - Int.toNat (0)) % 18446744073709551616))), (.int .u64 (Int.ofNat ((Int.toNat x1 + 18446744073709551616 - Int.toNat y1 - Int.toNat (subC0 x0 y0)) % 18446744073709551616))), (.int .u64 (Int.ofNat ((Int.toNat x2 + 18446744073709551616 - Int.toNat y2 - Int.toNat (subC1 x0 y0 x1 y1)) % 18446744073709551616))), (.int .u64 (Int.ofNat ((Int.toNat x3 + 18446744073709551616 - Int.toNat y3 - Int.toNat (subC2 x0 y0 x1 y1 x2 y2)) % 18446744073709551616)))]), (.int .u64 (subC3 x0 y0 x1 y1 x2 y2 x3 y3))]),
  [((Nat.ble (Int.toNat (subC2 x0 y0 x1 y1 x2 y2)) 1) = true), ((Nat.ble (Int.toNat (subC1 x0 y0 x1 y1)) 1) = true), ((Nat.ble (Int.toNat (subC0 x0 y0)) 1) = true)]) := by kernel_rfl

theorem sub_step {a b c c' : Nat} (ha : a < 18446744073709551616) (hb : b < 18446744073709551616) (hc : c ≤ 1) (h : c' = 0 ∧ b + c ≤ a ∨ c' = 1 ∧ a < b + c) :
    ∃ r, (a + 18446744073709551616 - b - c) % 18446744073709551616 = r ∧ r < 18446744073709551616 ∧ a + 18446744073709551616 * c' = b + c + r ∧ c' ≤ 1 := ⟨_, rfl, Nat.mod_lt _ (by decide), by omega, by omega⟩
theorem add_step {a b c : Nat} (ha : a < 18446744073709551616) (hb : b < 18446744073709551616) (hc : c ≤ 1) :
    ∃ r, (a + b + c) % 18446744073709551616 = r ∧ r < 18446744073709551616 ∧ a + b + c = r + 18446744073709551616 * ((a + b + c) / 18446744073709551616) ∧ (a + b + c) / 18446744073709551616 ≤ 1 := ⟨_, rfl, Nat.mod_lt _ (by decide), by omega, by omega⟩
theorem add_all {a0 a1 a2 a3 b0 b1 b2 b3 c0 c1 c2 c3 : Nat} (ha0 : a0 < 18446744073709551616) (ha1 : a1 < 18446744073709551616) (ha2 : a2 < 18446744073709551616) (ha3 : a3 < 18446744073709551616) (hb0 : b0 < 18446744073709551616) (hb1 : b1 < 18446744073709551616) (hb2 : b2 < 18446744073709551616) (hb3 : b3 < 18446744073709551616) (e0 : c0 = (a0 + b0 + 0) / 18446744073709551616) (e1 : c1 = (a1 + b1 + c0) / 18446744073709551616) (e2 : c2 = (a2 + b2 + c1) / 18446744073709551616) (e3 : c3 = (a3 + b3 + c2) / 18446744073709551616) :
    c0 ≤ 1 ∧ c1 ≤ 1 ∧ c2 ≤ 1 ∧ ((a0 + 18446744073709551616 * a1 + 340282366920938463463374607431768211456 * a2 + 6277101735386680763835789423207666416102355444464034512896 * a3) + (b0 + 18446744073709551616 * b1 + 340282366920938463463374607431768211456 * b2 + 6277101735386680763835789423207666416102355444464034512896 * b3)) / 115792089237316195423570985008687907853269984665640564039457584007913129639936 = c3 ∧ limbs ((a0 + 18446744073709551616 * a1 + 340282366920938463463374607431768211456 * a2 + 6277101735386680763835789423207666416102355444464034512896 * a3) + (b0 + 18446744073709551616 * b1 + 340282366920938463463374607431768211456 * b2 + 6277101735386680763835789423207666416102355444464034512896 * b3)) = .agg [.int .u64 (Int.ofNat ((a0 + b0 + 0) % 18446744073709551616)), .int .u64 (Int.ofNat ((a1 + b1 + c0) % 18446744073709551616)), .int .u64 (Int.ofNat ((a2 + b2 + c1) % 18446744073709551616)), .int .u64 (Int.ofNat ((a3 + b3 + c2) % 18446744073709551616))] := by
  obtain ⟨r0, k0, l0, m0, n0⟩ := add_step ha0 hb0 (Nat.zero_le 1)
  rw [← e0] at m0 n0
  obtain ⟨r1, k1, l1, m1, n1⟩ := add_step ha1 hb1 n0
  rw [← e1] at m1 n1
  obtain ⟨r2, k2, l2, m2, n2⟩ := add_step ha2 hb2 n1
  rw [← e2] at m2 n2
  obtain ⟨r3, k3, l3, m3, n3⟩ := add_step ha3 hb3 n2
  rw [← e3] at m3 n3
  rw [k0, k1, k2, k3]
  clear e0 e1 e2 e3 k0 k1 k2 k3
  have key : (a0 + 18446744073709551616 * a1 + 340282366920938463463374607431768211456 * a2 + 6277101735386680763835789423207666416102355444464034512896 * a3) + (b0 + 18446744073709551616 * b1 + 340282366920938463463374607431768211456 * b2 + 6277101735386680763835789423207666416102355444464034512896 * b3) = r0 + 18446744073709551616 * r1 + 340282366920938463463374607431768211456 * r2 + 6277101735386680763835789423207666416102355444464034512896 * r3 + 115792089237316195423570985008687907853269984665640564039457584007913129639936 * c3 := by omega
  refine ⟨n0, n1, n2, ?_, limbs_of _ r0 r1 r2 r3 l0 l1 l2 l3 c3 key⟩
  rw [key]
  have lt : r0 + 18446744073709551616 * r1 + 340282366920938463463374607431768211456 * r2 + 6277101735386680763835789423207666416102355444464034512896 * r3 < 115792089237316195423570985008687907853269984665640564039457584007913129639936 := by omega
  rw [Nat.add_mul_div_left _ _ (by decide), Nat.div_eq_of_lt lt, Nat.zero_add]
theorem sub_all {a0 a1 a2 a3 b0 b1 b2 b3 c0 c1 c2 c3 : Nat} (ha0 : a0 < 18446744073709551616) (ha1 : a1 < 18446744073709551616) (ha2 : a2 < 18446744073709551616) (ha3 : a3 < 18446744073709551616) (hb0 : b0 < 18446744073709551616) (hb1 : b1 < 18446744073709551616) (hb2 : b2 < 18446744073709551616) (hb3 : b3 < 18446744073709551616) (e0 : c0 = 0 ∧ b0 + 0 ≤ a0 ∨ c0 = 1 ∧ a0 < b0 + 0) (e1 : c1 = 0 ∧ b1 + c0 ≤ a1 ∨ c1 = 1 ∧ a1 < b1 + c0) (e2 : c2 = 0 ∧ b2 + c1 ≤ a2 ∨ c2 = 1 ∧ a2 < b2 + c1) (e3 : c3 = 0 ∧ b3 + c2 ≤ a3 ∨ c3 = 1 ∧ a3 < b3 + c2) :
    c0 ≤ 1 ∧ c1 ≤ 1 ∧ c2 ≤ 1 ∧ (c3 = 0 ∧ (b0 + 18446744073709551616 * b1 + 340282366920938463463374607431768211456 * b2 + 6277101735386680763835789423207666416102355444464034512896 * b3) ≤ (a0 + 18446744073709551616 * a1 + 340282366920938463463374607431768211456 * a2 + 6277101735386680763835789423207666416102355444464034512896 * a3) ∨ c3 = 1 ∧ (a0 + 18446744073709551616 * a1 + 340282366920938463463374607431768211456 * a2 + 6277101735386680763835789423207666416102355444464034512896 * a3) < (b0 + 18446744073709551616 * b1 + 340282366920938463463374607431768211456 * b2 + 6277101735386680763835789423207666416102355444464034512896 * b3)) ∧ limbs ((a0 + 18446744073709551616 * a1 + 340282366920938463463374607431768211456 * a2 + 6277101735386680763835789423207666416102355444464034512896 * a3) + 115792089237316195423570985008687907853269984665640564039457584007913129639936 - (b0 + 18446744073709551616 * b1 + 340282366920938463463374607431768211456 * b2 + 6277101735386680763835789423207666416102355444464034512896 * b3)) = .agg [.int .u64 (Int.ofNat ((a0 + 18446744073709551616 - b0 - 0) % 18446744073709551616)), .int .u64 (Int.ofNat ((a1 + 18446744073709551616 - b1 - c0) % 18446744073709551616)), .int .u64 (Int.ofNat ((a2 + 18446744073709551616 - b2 - c1) % 18446744073709551616)), .int .u64 (Int.ofNat ((a3 + 18446744073709551616 - b3 - c2) % 18446744073709551616))] := by
  obtain ⟨r0, k0, l0, m0, n0⟩ := sub_step (c := 0) ha0 hb0 (Nat.zero_le 1) e0
  obtain ⟨r1, k1, l1, m1, n1⟩ := sub_step ha1 hb1 n0 e1
  obtain ⟨r2, k2, l2, m2, n2⟩ := sub_step ha2 hb2 n1 e2
  obtain ⟨r3, k3, l3, m3, n3⟩ := sub_step ha3 hb3 n2 e3
  rw [k0, k1, k2, k3]
  clear e0 e1 e2 e3 k0 k1 k2 k3
  have key : (a0 + 18446744073709551616 * a1 + 340282366920938463463374607431768211456 * a2 + 6277101735386680763835789423207666416102355444464034512896 * a3) + 115792089237316195423570985008687907853269984665640564039457584007913129639936 * c3 = (b0 + 18446744073709551616 * b1 + 340282366920938463463374607431768211456 * b2 + 6277101735386680763835789423207666416102355444464034512896 * b3) + (r0 + 18446744073709551616 * r1 + 340282366920938463463374607431768211456 * r2 + 6277101735386680763835789423207666416102355444464034512896 * r3) := by omega
  have lt : r0 + 18446744073709551616 * r1 + 340282366920938463463374607431768211456 * r2 + 6277101735386680763835789423207666416102355444464034512896 * r3 < 115792089237316195423570985008687907853269984665640564039457584007913129639936 := by omega
  have lx : (a0 + 18446744073709551616 * a1 + 340282366920938463463374607431768211456 * a2 + 6277101735386680763835789423207666416102355444464034512896 * a3) < 115792089237316195423570985008687907853269984665640564039457584007913129639936 := by omega
  have ly : (b0 + 18446744073709551616 * b1 + 340282366920938463463374607431768211456 * b2 + 6277101735386680763835789423207666416102355444464034512896 * b3) < 115792089237316195423570985008687907853269984665640564039457584007913129639936 := by omega
  generalize hX : (a0 + 18446744073709551616 * a1 + 340282366920938463463374607431768211456 * a2 + 6277101735386680763835789423207666416102355444464034512896 * a3) = X at *
  generalize hY : (b0 + 18446744073709551616 * b1 + 340282366920938463463374607431768211456 * b2 + 6277101735386680763835789423207666416102355444464034512896 * b3) = Y at *
  have g : limbs (X + 115792089237316195423570985008687907853269984665640564039457584007913129639936 - Y) = .agg [.int .u64 (Int.ofNat r0), .int .u64 (Int.ofNat r1), .int .u64 (Int.ofNat r2), .int .u64 (Int.ofNat r3)] := by
    refine limbs_of _ r0 r1 r2 r3 l0 l1 l2 l3 (1 - c3) ?_
    clear m0 m1 m2 m3 l0 l1 l2 l3 n0 n1 n2
    generalize r0 + 18446744073709551616 * r1 + 340282366920938463463374607431768211456 * r2 + 6277101735386680763835789423207666416102355444464034512896 * r3 = R at *
    rcases Nat.le_one_iff_eq_zero_or_eq_one.1 n3 with e | e
    · subst e; clear hX hY; omega
    · subst e; clear hX hY; omega
  refine ⟨n0, n1, n2, ?_, g⟩
  clear g m0 m1 m2 m3 l0 l1 l2 l3 n0 n1 n2
  generalize r0 + 18446744073709551616 * r1 + 340282366920938463463374607431768211456 * r2 + 6277101735386680763835789423207666416102355444464034512896 * r3 = R at *
  rcases Nat.le_one_iff_eq_zero_or_eq_one.1 n3 with e | e
  · subst e; clear hX hY; left; omega
  · subst e; clear hX hY; right; omega

theorem add_own {Γ : Tr Ent} (h : Sound Tryz.prog 81 (callT Γ d81)) : Sound Tryz.prog 81 (Ent.f Fadd 0).tc := by
  refine pure_sound h fun args v hv => ?_
  unfold Fadd at hv
  split at hv
  · rename_i x y
    split at hv
    · rename_i X Y hX hY
      have hv : some (V.tup [limbs (X + Y), .int .u64 (Int.ofNat ((X + Y) / 115792089237316195423570985008687907853269984665640564039457584007913129639936))]) = some v := hv
      cases hv
      obtain ⟨a0, a1, a2, a3, rfl, ha0, ha1, ha2, ha3, rfl⟩ := toN_spec hX
      obtain ⟨b0, b1, b2, b3, rfl, hb0, hb1, hb2, hb3, rfl⟩ := toN_spec hY
      refine ⟨rfl, rfl, ?_⟩
      obtain ⟨c0, e0⟩ : ∃ c, c = (a0 + b0 + 0) / 18446744073709551616 := ⟨_, rfl⟩
      obtain ⟨c1, e1⟩ : ∃ c, c = (a1 + b1 + c0) / 18446744073709551616 := ⟨_, rfl⟩
      obtain ⟨c2, e2⟩ : ∃ c, c = (a2 + b2 + c1) / 18446744073709551616 := ⟨_, rfl⟩
      obtain ⟨c3, e3⟩ : ∃ c, c = (a3 + b3 + c2) / 18446744073709551616 := ⟨_, rfl⟩
      have E0 : addC0 (Int.ofNat a0) (Int.ofNat b0) = Int.ofNat c0 := by unfold addC0; rw [e0]; rfl
      have E1 : addC1 (Int.ofNat a0) (Int.ofNat b0) (Int.ofNat a1) (Int.ofNat b1) = Int.ofNat c1 := by unfold addC1; rw [E0, e1]; rfl
      have E2 : addC2 (Int.ofNat a0) (Int.ofNat b0) (Int.ofNat a1) (Int.ofNat b1) (Int.ofNat a2) (Int.ofNat b2) = Int.ofNat c2 := by unfold addC2; rw [E1, e2]; rfl
      have E3 : addC3 (Int.ofNat a0) (Int.ofNat b0) (Int.ofNat a1) (Int.ofNat b1) (Int.ofNat a2) (Int.ofNat b2) (Int.ofNat a3) (Int.ofNat b3) = Int.ofNat c3 := by unfold addC3; rw [E2, e3]; rfl
      have hrun := add_run Γ (Int.ofNat a0) (Int.ofNat a1) (Int.ofNat a2) (Int.ofNat a3) (Int.ofNat b0) (Int.ofNat b1) (Int.ofNat b2) (Int.ofNat b3)
      rw [E0, E1, E2, E3] at hrun
      obtain ⟨n0, n1, n2, g2, g⟩ := add_all ha0 ha1 ha2 ha3 hb0 hb1 hb2 hb3 e0 e1 e2 e3
      rw [g, g2]
      exact tell_sound hrun ⟨Nat.ble_eq_true_of_le n2, Nat.ble_eq_true_of_le n1, Nat.ble_eq_true_of_le n0, trivial⟩ fun hp nx => ⟨hp, nx, rfl⟩
    · cases hv
  · cases hv

theorem bor (a b : Nat) : ∃ c : Nat, (c = 0 ∧ b ≤ a ∨ c = 1 ∧ a < b) ∧ (match Nat.blt a b with | true => (1 : Int) | false => 0) = Int.ofNat c := by
  cases hq : Nat.blt a b
  · refine ⟨0, .inl ⟨rfl, ?_⟩, rfl⟩
    rcases Nat.lt_or_ge a b with h | h
    · have : Nat.blt a b = true := Nat.ble_eq_true_of_le h
      rw [hq] at this; cases this
    · exact h
  · exact ⟨1, .inr ⟨rfl, Nat.le_of_ble_eq_true hq⟩, rfl⟩

theorem sub_own {Γ : Tr Ent} (h : Sound Tryz.prog 82 (callT Γ d82)) : Sound Tryz.prog 82 (Ent.f Fsub 0).tc := by
  refine pure_sound h fun args v hv => ?_
  unfold Fsub at hv
  split at hv
  · rename_i x y
    split at hv
    · rename_i X Y hX hY
      have hv : some (V.tup [limbs (X + 115792089237316195423570985008687907853269984665640564039457584007913129639936 - Y), .int .u64 (match Nat.blt X Y with | true => 1 | false => 0)]) = some v := hv
      cases hv
      obtain ⟨a0, a1, a2, a3, rfl, ha0, ha1, ha2, ha3, eX⟩ := toN_spec hX
      obtain ⟨b0, b1, b2, b3, rfl, hb0, hb1, hb2, hb3, eY⟩ := toN_spec hY
      refine ⟨rfl, rfl, ?_⟩
      obtain ⟨c0, e0, E0⟩ := bor a0 (b0 + 0)
      obtain ⟨c1, e1, E1⟩ := bor a1 (b1 + c0)
      obtain ⟨c2, e2, E2⟩ := bor a2 (b2 + c1)
      obtain ⟨c3, e3, E3⟩ := bor a3 (b3 + c2)
      obtain ⟨cc, ec, Ec⟩ := bor X Y
      have E0 : subC0 (Int.ofNat a0) (Int.ofNat b0) = Int.ofNat c0 := E0
      have E1 : subC1 (Int.ofNat a0) (Int.ofNat b0) (Int.ofNat a1) (Int.ofNat b1) = Int.ofNat c1 := by unfold subC1; rw [E0]; exact E1
      have E2 : subC2 (Int.ofNat a0) (Int.ofNat b0) (Int.ofNat a1) (Int.ofNat b1) (Int.ofNat a2) (Int.ofNat b2) = Int.ofNat c2 := by unfold subC2; rw [E1]; exact E2
      have E3 : subC3 (Int.ofNat a0) (Int.ofNat b0) (Int.ofNat a1) (Int.ofNat b1) (Int.ofNat a2) (Int.ofNat b2) (Int.ofNat a3) (Int.ofNat b3) = Int.ofNat c3 := by unfold subC3; rw [E2]; exact E3
      have hrun := sub_run Γ (Int.ofNat a0) (Int.ofNat a1) (Int.ofNat a2) (Int.ofNat a3) (Int.ofNat b0) (Int.ofNat b1) (Int.ofNat b2) (Int.ofNat b3)
      rw [E0, E1, E2, E3] at hrun
      obtain ⟨n0, n1, n2, g2, g⟩ := sub_all ha0 ha1 ha2 ha3 hb0 hb1 hb2 hb3 e0 e1 e2 e3
      rw [← eX, ← eY] at g2 g
      have hc : cc = c3 := by
        clear g hrun E0 E1 E2 E3 Ec e0 e1 e2 e3 eX eY
        rcases g2 with ⟨rfl, h⟩ | ⟨rfl, h⟩ <;> rcases ec with ⟨rfl, h'⟩ | ⟨rfl, h'⟩ <;> first | rfl | exact absurd h (Nat.not_le.2 h') | exact absurd h' (Nat.not_le.2 h)
      rw [g, Ec, hc]
      exact tell_sound hrun ⟨Nat.ble_eq_true_of_le n2, Nat.ble_eq_true_of_le n1, Nat.ble_eq_true_of_le n0, trivial⟩ fun hp nx => ⟨hp, nx, rfl⟩
    · cases hv
  · cases hv
end Go.Proofs.YtmgbeipdeeegoaaGreatDoor.S
