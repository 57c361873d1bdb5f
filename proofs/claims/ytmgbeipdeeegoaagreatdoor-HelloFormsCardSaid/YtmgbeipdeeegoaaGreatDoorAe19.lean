/- An abstract evaluator of translated Go code, nineteenth part: two operations change places (2). -/
import Derived.Test.YtmgbeipdeeegoaaGreatDoorAe18
namespace Go.AE
open Go.RowKit

variable {P : Program} {X : FuncId × FuncId} {Γ : Tr Ent} {B N : Nat} {w0 : World} {m0 m : Mp}

/-- Neither looks at what the other writes. -/
structure Apart (o1 o2 : O) : Prop where
  a : ∀ d, o1.d = some d → d ∉ o2.reads
  b : ∀ d, o2.d = some d → d ∉ o1.reads
  c : ∀ d, o1.d = some d → o2.d ≠ some d

theorem agree_put {tm : Tr V} {d : Option P2} {v : V} {rs : List P2} (h : ∀ p, d = some p → p ∉ rs) : Agree (put tm d v) tm rs := by
  intro q hq
  cases d with
  | none => rfl
  | some p =>
    have hne : q ≠ p := fun e => h p rfl (e ▸ hq)
    simp only [put, Tr.get_set, if_neg hne]

theorem put_comm {tm : Tr V} {d d' : Option P2} {v v' : V} (h : ∀ p, d = some p → d' ≠ some p) : put (put tm d v) d' v' = put (put tm d' v') d v := by
  cases d with
  | none => rfl
  | some p => cases d' with
    | none => rfl
    | some p' => exact Tr.set_comm _ _ _ _ _ (fun e => h p rfl (by rw [e]))

theorem evalG_put {tm : Tr V} {d : Option P2} {v : V} {hp : Tr Reg} {nx : P2} {o : O} (h : ∀ p, d = some p → p ∉ o.reads) : evalG Γ o ⟨put tm d v, hp, nx⟩ = evalG Γ o ⟨tm, hp, nx⟩ := evalG_congr (agree_put h)

theorem evalG_upd (hΓ : ΓLoc Γ) {tm : Tr V} {hp : Tr Reg} {nx : P2} {o : O} {j : P2} {c : Option (List V)} (hk : kindI Γ o.i ≤ 1) (hj : c.isSome = true → hp.get j = none) (hok : KeysOk tm hp o) :
    evalG Γ o ⟨tm, upd hp j c, nx⟩ = evalG Γ o ⟨tm, hp, nx⟩ := by
  cases c with
  | none => rfl
  | some cs => exact evalG_fresh hΓ hk (hj rfl) hok

theorem swap_pure_any {o1 o2 : O} {S S1 S2 : St} (ha : Apart o1 o2) (hk : kindI Γ o1.i = 0) (h1 : Step Γ o1 S S1) (h2 : Step Γ o2 S1 S2) : ∃ S1', Step Γ o2 S S1' ∧ Step Γ o1 S1' S2 := by
  obtain ⟨tm, hp, nx⟩ := S
  obtain ⟨v1, e1, rfl⟩ := (step_calm (by omega)).1 h1
  unfold Step at h2
  rw [evalG_put ha.a] at h2
  obtain ⟨v2, hp2, nx2, rfl, g2⟩ := sat_det _ h2
  refine ⟨⟨put tm o2.d v2, hp2, nx2⟩, g2 (fun v hp nx => _ = (⟨put tm o2.d v, hp, nx⟩ : St)) rfl, (step_calm (by omega)).2 ⟨v1, ?_, ?_⟩⟩
  · rw [evalG_put ha.b, evalG_pure hk (hp := hp) (nx := nx)]; exact e1
  · simp only [put_comm ha.c]

theorem swap_any_pure {o1 o2 : O} {S S1 S2 : St} (ha : Apart o1 o2) (hk : kindI Γ o2.i = 0) (h1 : Step Γ o1 S S1) (h2 : Step Γ o2 S1 S2) : ∃ S1', Step Γ o2 S S1' ∧ Step Γ o1 S1' S2 := by
  obtain ⟨tm, hp, nx⟩ := S
  unfold Step at h1
  obtain ⟨v1, hp1, nx1, rfl, g1⟩ := sat_det _ h1
  obtain ⟨v2, e2, rfl⟩ := (step_calm (by omega)).1 h2
  rw [evalG_put ha.a, evalG_pure hk (hp := hp) (nx := nx)] at e2
  refine ⟨⟨put tm o2.d v2, hp, nx⟩, (step_calm (by omega)).2 ⟨v2, e2, rfl⟩, ?_⟩
  unfold Step
  rw [evalG_put ha.b]
  exact g1 (fun v hp nx => _ = (⟨put (put tm o2.d v2) o1.d v, hp, nx⟩ : St)) (by simp only [put_comm ha.c])

theorem swap_read_read {o1 o2 : O} {S S1 S2 : St} (ha : Apart o1 o2) (hk1 : kindI Γ o1.i ≤ 1) (hk2 : kindI Γ o2.i ≤ 1) (h1 : Step Γ o1 S S1) (h2 : Step Γ o2 S1 S2) : ∃ S1', Step Γ o2 S S1' ∧ Step Γ o1 S1' S2 := by
  obtain ⟨tm, hp, nx⟩ := S
  obtain ⟨v1, e1, rfl⟩ := (step_calm hk1).1 h1
  obtain ⟨v2, e2, rfl⟩ := (step_calm hk2).1 h2
  rw [evalG_put ha.a] at e2
  refine ⟨⟨put tm o2.d v2, hp, nx⟩, (step_calm hk2).2 ⟨v2, e2, rfl⟩, (step_calm hk1).2 ⟨v1, ?_, ?_⟩⟩
  · rw [evalG_put ha.b]; exact e1
  · simp only [put_comm ha.c]

theorem swap_read_mk (hΓ : ΓLoc Γ) {o1 o2 : O} {S S1 S2 : St} (ha : Apart o1 o2) (hk1 : kindI Γ o1.i ≤ 1) (hk2 : kindI Γ o2.i = 2) (hv : o2.adv = false) (hok : KeysOk S.tm S.hp o1) (h1 : Step Γ o1 S S1) (h2 : Step Γ o2 S1 S2) :
    ∃ S1', Step Γ o2 S S1' ∧ Step Γ o1 S1' S2 := by
  obtain ⟨tm, hp, nx⟩ := S
  obtain ⟨v1, e1, rfl⟩ := (step_calm hk1).1 h1
  unfold Step at h2
  rw [evalG_put ha.a] at h2
  obtain ⟨out, hc⟩ := mk_charG (Γ := Γ) (tm := tm) (nx := nx) hk2 hv
  obtain ⟨v2, c, h3, h4, rfl⟩ := (hc _ _).1 h2
  refine ⟨⟨put tm o2.d v2, upd hp (nx.plus o2.off) c, nx⟩, ?_, (step_calm hk1).2 ⟨v1, ?_, ?_⟩⟩
  · unfold Step
    exact (hc _ _).2 ⟨v2, c, h3, h4, rfl⟩
  · rw [evalG_put ha.b, evalG_upd hΓ hk1 h4 hok]; exact e1
  · simp only [put_comm ha.c]

theorem swap_mk_read (hΓ : ΓLoc Γ) {o1 o2 : O} {S S1 S2 : St} (ha : Apart o1 o2) (hk1 : kindI Γ o1.i = 2) (hk2 : kindI Γ o2.i ≤ 1) (hv : o1.adv = false) (hok : KeysOk S.tm S.hp o2) (h1 : Step Γ o1 S S1) (h2 : Step Γ o2 S1 S2) :
    ∃ S1', Step Γ o2 S S1' ∧ Step Γ o1 S1' S2 := by
  obtain ⟨tm, hp, nx⟩ := S
  unfold Step at h1
  obtain ⟨out, hc⟩ := mk_charG (Γ := Γ) (tm := tm) (nx := nx) hk1 hv
  obtain ⟨v1, c, h3, h4, rfl⟩ := (hc _ _).1 h1
  obtain ⟨v2, e2, rfl⟩ := (step_calm hk2).1 h2
  rw [evalG_put ha.a, evalG_upd hΓ hk2 h4 hok] at e2
  refine ⟨⟨put tm o2.d v2, hp, nx⟩, (step_calm hk2).2 ⟨v2, e2, rfl⟩, ?_⟩
  unfold Step
  rw [evalG_put ha.b]
  exact (hc _ _).2 ⟨v1, c, h3, h4, by simp only [put_comm ha.c]⟩

theorem P2.plus_inj {p : P2} {a b : Nat} (h : p.plus a = p.plus b) : a = b := by
  have := congrArg P2.toNat h
  rw [toNat_plus, toNat_plus] at this
  omega

theorem upd_comm {hp : Tr Reg} {j j' : P2} {c c' : Option (List V)} (h : j ≠ j') : upd (upd hp j c) j' c' = upd (upd hp j' c') j c := by
  cases c <;> cases c' <;> first | rfl | exact Tr.set_comm _ _ _ _ _ (Ne.symm h)

theorem upd_get {hp : Tr Reg} {j j' : P2} {c : Option (List V)} (h : j' ≠ j) : (upd hp j c).get j' = hp.get j' := by
  cases c with
  | none => rfl
  | some cs => simp only [upd, Tr.get_set, if_neg h]

theorem swap_mk_mk {o1 o2 : O} {S S1 S2 : St} (ha : Apart o1 o2) (hk1 : kindI Γ o1.i = 2) (hk2 : kindI Γ o2.i = 2) (hv1 : o1.adv = false) (hv2 : o2.adv = false) (hne : o1.off ≠ o2.off) (h1 : Step Γ o1 S S1) (h2 : Step Γ o2 S1 S2) :
    ∃ S1', Step Γ o2 S S1' ∧ Step Γ o1 S1' S2 := by
  obtain ⟨tm, hp, nx⟩ := S
  unfold Step at h1
  obtain ⟨out, hc⟩ := mk_charG (Γ := Γ) (tm := tm) (nx := nx) hk1 hv1
  obtain ⟨v1, c, h3, h4, rfl⟩ := (hc _ _).1 h1
  unfold Step at h2
  rw [evalG_put ha.a] at h2
  obtain ⟨out', hc'⟩ := mk_charG (Γ := Γ) (tm := tm) (nx := nx) hk2 hv2
  obtain ⟨v2, c', h5, h6, rfl⟩ := (hc' _ _).1 h2
  have hj : nx.plus o1.off ≠ nx.plus o2.off := fun e => hne (P2.plus_inj e)
  refine ⟨⟨put tm o2.d v2, upd hp (nx.plus o2.off) c', nx⟩, ?_, ?_⟩
  · unfold Step
    exact (hc' _ _).2 ⟨v2, c', h5, fun e => by have := h6 e; rwa [upd_get (Ne.symm hj)] at this, rfl⟩
  · unfold Step
    rw [evalG_put ha.b]
    exact (hc _ _).2 ⟨v1, c, h3, fun e => by simp only [upd_get hj]; exact h4 e, by simp only [put_comm ha.c, upd_comm hj]⟩
end Go.AE
