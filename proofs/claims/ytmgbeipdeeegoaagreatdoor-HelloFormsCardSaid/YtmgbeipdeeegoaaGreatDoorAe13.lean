/- An abstract evaluator of translated Go code, thirteenth part: guarded operations, rows of operations, code. -/
import Derived.Test.YtmgbeipdeeegoaaGreatDoorAe12
namespace Go.AE
open Go.RowKit

structure Rep (B : Nat) (w0 : World) (m0 m : Mp) (N : Nat) (S : St) (a : Act) (w : World) : Prop where
  defers : a.defers = []
  size : a.tmps.size = N
  fr : FRel m N S.tm a.eval
  hp : HRep B w0 m S.hp w
  le : m0.le m

variable {P : Program} {X : FuncId × FuncId} {Γ : Tr Ent} {B N : Nat} {w0 : World} {m0 m : Mp} {S : St} {o : Oper} {o' : O} {a : Act} {w : World}

def okDst (N : Nat) : Option Tmp → Option P2 → Bool
  | none, none => true
  | some d, some p => Nat.beq p.toNat d && Nat.blt d N
  | _, _ => false
def okGuard (ops : Array Oper) : Option (Nat × Bool) → Option (P2 × Bool) → Bool
  | none, none => true
  | some (j, want), some (p, want') => boolEq want want' && (match (ops[j]?).bind (·.dst) with | some d => Nat.beq p.toNat d | none => false)
  | _, _ => false
def okO (P : Program) (X : FuncId × FuncId) (N : Nat) (ops : Array Oper) (o : Oper) (o' : O) : Bool := okDst N o.dst o'.d && okGuard ops o.guard o'.g && okI P X o.op o'.i
def okOs (P : Program) (X : FuncId × FuncId) (N : Nat) (ops : Array Oper) : List Oper → List O → Bool
  | [], [] => true
  | o :: r, o' :: r' => okO P X N ops o o' && okOs P X N ops r r'
  | _, _ => false

theorem FRel.put {tm : Tr V} {d : Option Tmp} {d' : Option P2} {v : V} {x : Value} (h : FRel m N tm a.eval) (hs : a.tmps.size = N) (hd : okDst N d d' = true) (hv : VRel m v x) : FRel m N (put tm d' v) (a.put d x).eval := by
  unfold okDst at hd
  split at hd
  · exact h
  · rename_i d p
    simp only [Bool.and_eq_true] at hd
    obtain ⟨h1, h2⟩ := hd
    have h1 : p.toNat = (d : Nat) := Nat.eq_of_beq_eq_true h1
    have h2 : @LT.lt Nat _ d N := Nat.le_of_ble_eq_true h2
    have hs : @Eq Nat a.tmps.size N := hs
    intro q u hq
    simp only [AE.put, Tr.get_set] at hq
    by_cases e : q = p
    · rw [if_pos e] at hq
      cases hq
      subst e
      refine ⟨by omega, ?_⟩
      show VRel m v ((a.tmps.setIfInBounds d x).getD q.toNat undef)
      rw [h1, Array.getD_eq_getD_getElem?, Array.getElem?_setIfInBounds, if_pos rfl, if_pos (by omega)]
      exact hv
    · rw [if_neg e] at hq
      obtain ⟨h3, h4⟩ := h q u hq
      refine ⟨h3, ?_⟩
      have hne : @Ne Nat d q.toNat := fun e' => e (P2.toNat_inj (by omega))
      show VRel m u ((a.tmps.setIfInBounds d x).getD q.toNat undef)
      rw [Array.getD_eq_getD_getElem?, Array.getElem?_setIfInBounds, if_neg hne, ← Array.getD_eq_getD_getElem?]
      exact h4
  · simp at hd

theorem FRel.mono {m' : Mp} (hm : m.le m') {tm : Tr V} {ρ : Operand → Value} (h : FRel m N tm ρ) : FRel m' N tm ρ := fun p v hp => ⟨(h p v hp).1, (h p v hp).2.mono hm⟩

theorem put_size (d : Option Tmp) (x : Value) : (a.put d x).tmps.size = a.tmps.size := by cases d <;> simp [Act.put]
theorem put_defers (d : Option Tmp) (x : Value) : (a.put d x).defers = a.defers := by cases d <;> rfl

theorem Rep.put {d : Option Tmp} {d' : Option P2} {v : V} {x : Value} {m' : Mp} {hp' : Tr Reg} {nx' : P2} {w' : World} (h : Rep B w0 m0 m N S a w) (hd : okDst N d d' = true) (hm : m.le m') (hv : VRel m' v x) (hh : HRep B w0 m' hp' w') :
    Rep B w0 m0 m' N ⟨AE.put S.tm d' v, hp', nx'⟩ (a.put d x) w' :=
  ⟨by rw [put_defers]; exact h.defers, by rw [put_size]; exact h.size, (h.fr.mono hm).put h.size hd hv, hh, Mp.le_trans h.le hm⟩

/-- One operation, its guard asked first. -/
theorem op_sound (hX : ExtOk P X.1 add64Entry) (hY : ExtOk P X.2 sub64Entry) (hΓ : ΓOk P Γ) {ops : Array Oper} (hok : okO P X N ops o o' = true) (hr : Rep B w0 m0 m N S a w) {k : St → T} {Q : L → Prop} (h : wpT (opT Γ o' S k) Q)
    {K : Act → World → Prop} {Qx : Exit → Act → World → Prop} (hK : ∀ m' S' a' w', Rep B w0 m0 m' N S' a' w' → wpT (k S') Q → K a' w') :
    if Region.wanted o (yielded ops a.tmps) then o.wp P a w K Qx else K (a.put o.dst undef) w := by
  simp only [okO, Bool.and_eq_true] at hok
  obtain ⟨⟨hd, hg⟩, hi⟩ := hok
  have runIt : wpT ((evalI Γ o' S).toT S.tm S.hp S.nx o'.d o'.adv k) Q → o.wp P a w K Qx := by
    intro h
    refine Does.wp (okI_snd hX hY hΓ hr.hp hr.fr hi _ _ (toT_sat _ h) ?_)
    intro v hp nx m' x w' hw hm hv hh
    exact hK _ _ _ _ (hr.put hd hm hv hh) hw
  have skipIt : wpT (.step ⟨put S.tm o'.d (.tup []), S.hp, S.nx⟩ k) Q → K (a.put o.dst undef) w := fun h => hK _ _ _ _ (hr.put hd (Mp.le_refl m) (.tup .nil) hr.hp) h
  unfold opT at h
  unfold okGuard at hg
  split at hg
  · rename_i e1 e2
    rw [e2] at h
    have : Region.wanted o (yielded ops a.tmps) = true := by simp [Region.wanted, e1]
    rw [if_pos this]
    exact runIt h
  · rename_i j want p want' e1 e2
    rw [e2] at h
    simp only [Bool.and_eq_true] at hg
    obtain ⟨hw, hg⟩ := hg
    rw [boolEq_eq] at hw
    have hw := beq_iff_eq.1 hw
    subst hw
    split at hg
    · rename_i d hdj
      have hg := Nat.eq_of_beq_eq_true hg
      simp only at h
      split at h
      · rename_i b hb
        obtain ⟨hlt, hv⟩ := hr.fr p _ hb
        have hy : yielded ops a.tmps j = some b := by
          have h1 : a.tmps[d]? = some (Value.bool b) := by
            have : VRel m (.bool b) (a.tmps.getD p.toNat undef) := hv
            rw [hg, Array.getD_eq_getD_getElem?] at this
            have hsz := hr.size
            rw [Array.getElem?_eq_getElem (by omega)] at this ⊢
            simp only [Option.getD_some] at this
            generalize a.tmps[d]'(by omega) = x at this ⊢
            cases this
            rfl
          unfold yielded
          rw [hdj]
          simp [h1]
        have hwant : Region.wanted o (yielded ops a.tmps) = (b == want) := by
          simp only [Region.wanted, e1, hy]
          cases b <;> cases want <;> rfl
        rw [hwant]
        cases b
        · have h := h.2 rfl
          rw [Tr.set_get p S.tm hb] at h
          cases want
          · exact runIt h
          · exact skipIt h
        · have h := h.1 rfl
          rw [Tr.set_get p S.tm hb] at h
          cases want
          · exact skipIt h
          · exact runIt h
      · rename_i vs hb
        split at h
        · obtain ⟨hlt, hv⟩ := hr.fr p _ hb
          have hy : yielded ops a.tmps j = none := by
            have h1 : a.tmps[d]? = some (.tuple #[]) := by
              have : VRel m (.tup []) (a.tmps.getD p.toNat undef) := hv
              rw [hg, Array.getD_eq_getD_getElem?] at this
              have hsz := hr.size
              rw [Array.getElem?_eq_getElem (by omega)] at this ⊢
              simp only [Option.getD_some] at this
              generalize a.tmps[d]'(by omega) = x at this ⊢
              cases this
              rename_i r
              cases r
              rfl
            unfold yielded
            rw [hdj]
            simp [h1]
          have hwant : Region.wanted o (yielded ops a.tmps) = false := by
            simp only [Region.wanted, e1, hy]
            rfl
          rw [hwant]
          exact skipIt h
        · exact h.elim
      · exact h.elim
    · simp at hg
  · simp at hg

theorem opsT_cons (o' : O) (l : List O) (S : St) (k : St → T) : opsT Γ (o' :: l) S k = opT Γ o' S fun S => opsT Γ l S k := rfl
theorem opsT_nil (S : St) (k : St → T) : opsT Γ [] S k = k S := rfl

theorem ops_sound (hX : ExtOk P X.1 add64Entry) (hY : ExtOk P X.2 sub64Entry) (hΓ : ΓOk P Γ) {ops : Array Oper} {k : St → T} {Q : L → Prop} {Qx : Exit → Act → World → Prop}
    (hK : ∀ m' S' a' w', Rep B w0 m0 m' N S' a' w' → wpT (k S') Q → Qx .normal a' w') : ∀ (l : List Oper) (l' : List O) (m : Mp) (S : St) (a : Act) (w : World), okOs P X N ops l l' = true → Rep B w0 m0 m N S a w → wpT (opsT Γ l' S k) Q → wpList P ops Qx l a w
  | [], [], m, S, a, w, _, hr, h => hK m S a w hr h
  | [], _ :: _, _, _, _, _, h, _, _ => by simp [okOs] at h
  | _ :: _, [], _, _, _, _, h, _, _ => by simp [okOs] at h
  | o :: l, o' :: l', m, S, a, w, hok, hr, h => by
    simp only [okOs, Bool.and_eq_true] at hok
    have := op_sound hX hY hΓ hok.1 hr h (K := wpList P ops Qx l) (Qx := Qx) fun m' S' a' w' hr' h' => ops_sound hX hY hΓ hK l l' m' S' a' w' hok.2 hr' h'
    unfold wpList
    split
    · rename_i hw; rw [if_pos hw] at this; exact .inl this
    · rename_i hw; rw [if_neg hw] at this; exact this
end Go.AE
