/- An abstract evaluator of translated Go code, twentieth part: the region in any order. -/
import Derived.Test.YtmgbeipdeeegoaaGreatDoorAe26
namespace Go.AE
open Go.RowKit

variable {P : Program} {X : FuncId × FuncId} {Γ : Tr Ent} {B N : Nat} {w0 : World} {m0 m : Mp}

noncomputable def dIn : Option P2 → List P2 → Bool
  | none, _ => false
  | some d, l => l.any fun p => P2.beq d p
noncomputable def apartO (o1 o2 : O) : Bool := boolEq (dIn o1.d o2.reads) false && boolEq (dIn o2.d o1.reads) false && boolEq (dIn o1.d o2.d.toList) false
def noKeyO : Opd → Bool
  | .c (.ptr ..) => false
  | .c (.sl ..) => false
  | _ => true
def noKeys (o : O) : Bool := (opds o.i).all noKeyO
noncomputable def isRd (k : Nat) (adv : Bool) : Bool := match k with
  | 0 => true
  | 1 => true
  | 5 => boolEq adv false
  | _ => false
noncomputable def isRm (k : Nat) (adv : Bool) : Bool := match k with
  | 1 => true
  | 2 => boolEq adv false
  | 4 => boolEq adv false
  | _ => false
noncomputable def commK (o1 o2 : O) (k1 k2 : Nat) : Bool := Nat.beq k1 0 || Nat.beq k2 0 || (isRd k1 o1.adv && isRd k2 o2.adv) || (isRm k1 o1.adv && isRm k2 o2.adv) || (boolEq o1.adv false && boolEq o2.adv false && Nat.beq k2 2) || (Nat.beq k1 1 && Nat.beq k2 6) || (Nat.beq k1 6 && Nat.beq k2 1)
noncomputable def commO (Γ : Tr Ent) (o1 o2 : O) : Bool := apartO o1 o2 && noKeys o1 && noKeys o2 && commK o1 o2 (kindI Γ o1.i) (kindI Γ o2.i)

theorem boolEq_false {b : Bool} (h : boolEq b false = true) : b = false := by cases b <;> first | rfl | cases h

theorem dIn_spec {x : Option P2} {l : List P2} (h : boolEq (dIn x l) false = true) : ∀ d, x = some d → d ∉ l := by
  rintro d rfl hd
  have h := boolEq_false h
  simp only [dIn, List.any_eq_false] at h
  exact h d hd (P2.beq_eq.2 rfl)

theorem apartO_spec {o1 o2 : O} (h : apartO o1 o2 = true) : Apart o1 o2 := by
  simp only [apartO, Bool.and_eq_true] at h
  exact ⟨dIn_spec h.1.1, dIn_spec h.1.2, fun d hd e => dIn_spec h.2 d hd (by simp [e])⟩

theorem keysOk {S : St} {a : Act} {w : World} {o : O} (hr : Rep B w0 m0 m N S a w) (hn : noKeys o = true) : KeysOk S.tm S.hp o := by
  intro x hx j hj
  have hx' : noKeyO x = true := List.all_eq_true.1 hn x hx
  have key : (m j).isSome = true := by
    cases x with
    | c v =>
      rcases hj with ⟨p, e⟩ | ⟨p, n, c, z, e⟩ <;> (have e : v = _ := e; subst e; simp [noKeyO] at hx')
    | s p =>
      cases hg : S.tm.get p with
      | none =>
        have : ev S.tm (.s p) = .un := by rw [ev_s, hg]
        rw [this] at hj
        rcases hj with ⟨p, e⟩ | ⟨p, n, c, z, e⟩ <;> cases e
      | some v =>
        have : ev S.tm (.s p) = v := by rw [ev_s, hg]
        rw [this] at hj
        have hv := (hr.fr p v hg).2
        rcases hj with ⟨p, rfl⟩ | ⟨p, n, c, z, rfl⟩
        · generalize a.eval _ = y at hv; cases hv; rename_i h; simp [h]
        · generalize a.eval _ = y at hv; cases hv; rename_i h _ _ _; simp [h]
  rw [hr.hp.dom] at key
  exact key

theorem step_swap (hΓ : ΓFine Γ) {o1 o2 : O} {S S1 S2 : St} {a : Act} {w : World} (hr : Rep B w0 m0 m N S a w) (hc : commO Γ o1 o2 = true) (h1 : Step Γ o1 S S1) (h2 : Step Γ o2 S1 S2) : ∃ S1', Step Γ o2 S S1' ∧ Step Γ o1 S1' S2 := by
  simp only [commO, Bool.and_eq_true] at hc
  obtain ⟨⟨⟨ha, hn1⟩, hn2⟩, hk⟩ := hc
  have ha := apartO_spec ha
  have k1 := keysOk hr hn1
  have k2 := keysOk hr hn2
  have rd : ∀ o : O, isRd (kindI Γ o.i) o.adv = true → kindI Γ o.i = 0 ∨ kindI Γ o.i = 1 ∨ (kindI Γ o.i = 5 ∧ o.adv = false) := by
    intro o h
    unfold isRd at h
    split at h
    · rename_i e; exact .inl e
    · rename_i e; exact .inr (.inl e)
    · rename_i e; exact .inr (.inr ⟨e, boolEq_false h⟩)
    · cases h
  have rm : ∀ o : O, isRm (kindI Γ o.i) o.adv = true → Rm Γ o S.tm S.nx := by
    intro o h
    unfold isRm at h
    split at h
    · rename_i e; exact rm_calm hΓ.nr.loc (by omega)
    · rename_i e; exact rm_mk e (boolEq_false h)
    · rename_i e; exact rm_call hΓ.mkr e (boolEq_false h)
    · cases h
  simp only [commK, Bool.or_eq_true, Bool.and_eq_true] at hk
  rcases hk with (((((hk | hk) | ⟨x, y⟩) | ⟨x, y⟩) | ⟨⟨x, y⟩, z⟩) | ⟨x, y⟩) | ⟨x, y⟩
  · exact swap_pure_any ha (Nat.eq_of_beq_eq_true hk) h1 h2
  · exact swap_any_pure ha (Nat.eq_of_beq_eq_true hk) h1 h2
  · exact swap_rd_rd hΓ.rd ha (rd o1 x) (rd o2 y) h1 h2
  · exact swap_rm ha (rm o1 x) (rm o2 y) k1 k2 h1 h2
  · exact swap_any_mk hΓ.ext ha (Nat.eq_of_beq_eq_true z) (boolEq_false x) (boolEq_false y) h1 h2
  · exact swap_read_nw hΓ.nr hΓ.nw ha (Nat.le_of_eq (Nat.eq_of_beq_eq_true x)) (Nat.eq_of_beq_eq_true y) k1 h1 h2
  · exact swap_nw_read hΓ.nr hΓ.nw ha (Nat.eq_of_beq_eq_true x) (Nat.le_of_eq (Nat.eq_of_beq_eq_true y)) k2 h1 h2


/-- The state after an operation is one that stands for something. -/
theorem rep_step (hX : ExtOk P X.1 add64Entry) (hY : ExtOk P X.2 sub64Entry) (hΓ : ΓOk P Γ) {ops : Array Oper} {o : Oper} {o' : O} {S S1 : St} {a : Act} {w : World} (hok : okO P X N ops o o' = true) (hr : Rep B w0 m0 m N S a w) (h : Step Γ o' S S1) :
    ∃ m' a' w', Rep B w0 m0 m' N S1 a' w' := by
  have := op_sound hX hY hΓ hok hr (k := fun S => .leaf (.ret .norm S)) (Q := fun l => l = .ret .norm S1) (opT_step.2 ⟨S1, h, rfl⟩)
    (K := fun a' w' => ∃ m', Rep B w0 m0 m' N S1 a' w') (Qx := fun _ _ _ => False) (fun m' S' a' w' hr' hw => by
      have hw : L.ret .norm S' = L.ret .norm S1 := hw
      cases hw
      exact ⟨m', hr'⟩)
  split at this
  · obtain ⟨a', w', m', h⟩ := Oper.wp_some this; exact ⟨m', a', w', h⟩
  · obtain ⟨m', h⟩ := this; exact ⟨m', _, _, h⟩

theorem front (hX : ExtOk P X.1 add64Entry) (hY : ExtOk P X.2 sub64Entry) (hΓ : ΓOk P Γ) (hL : ΓFine Γ) {ops : Array Oper} {oi : O} {post : List O} {k : St → T} {Q : L → Prop} : ∀ (pre : List O) (m : Mp) (S : St) (a : Act) (w : World),
    (∀ o' ∈ pre, (∃ o, okO P X N ops o o' = true) ∧ commO Γ o' oi = true) → Rep B w0 m0 m N S a w → wpT (opsT Γ (pre ++ oi :: post) S k) Q → wpT (opsT Γ (oi :: (pre ++ post)) S k) Q
  | [], _, _, _, _, _, _, h => h
  | o' :: pre, m, S, a, w, hp, hr, h => by
    obtain ⟨S1, h1, h⟩ := opT_step.1 (show wpT (opT Γ o' S fun S => opsT Γ (pre ++ oi :: post) S k) Q from h)
    obtain ⟨⟨o, hok⟩, hc⟩ := hp o' (List.mem_cons_self ..)
    obtain ⟨m', a', w', hr'⟩ := rep_step hX hY hΓ hok hr h1
    have h := front hX hY hΓ hL pre m' S1 a' w' (fun o h => hp o (List.mem_cons_of_mem _ h)) hr' h
    obtain ⟨S2, h2, h⟩ := opT_step.1 (show wpT (opT Γ oi S1 fun S => opsT Γ (pre ++ post) S k) Q from h)
    obtain ⟨S1', h3, h4⟩ := step_swap hL hr hc h1 h2
    exact opT_step.2 ⟨S1', h3, opT_step.2 ⟨S2, h4, h⟩⟩
end Go.AE
