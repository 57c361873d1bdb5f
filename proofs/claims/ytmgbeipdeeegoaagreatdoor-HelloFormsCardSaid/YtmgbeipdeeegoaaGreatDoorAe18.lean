/- An abstract evaluator of translated Go code, eighteenth part: two operations change places. -/
import Derived.Test.YtmgbeipdeeegoaaGreatDoorAe17
namespace Go.AE
open Go.RowKit

variable {P : Program} {X : FuncId × FuncId} {Γ : Tr Ent} {B N : Nat} {w0 : World} {m0 m : Mp}

/-- What an operation comes to. -/
def Step (Γ : Tr Ent) (o : O) (S S1 : St) : Prop := (evalG Γ o S).sat S.hp S.nx o.adv fun v hp nx => S1 = ⟨put S.tm o.d v, hp, nx⟩

theorem opT_step {o : O} {S : St} {k : St → T} {Q : L → Prop} : wpT (opT Γ o S k) Q ↔ ∃ S1, Step Γ o S S1 ∧ wpT (k S1) Q := by
  rw [opT_iff]
  constructor
  · intro h
    obtain ⟨v, hp, nx, h1, h2⟩ := sat_det _ h
    exact ⟨_, h2 (fun v hp nx => _ = (⟨put S.tm o.d v, hp, nx⟩ : St)) rfl, h1⟩
  · rintro ⟨S1, h, hk⟩
    exact sat_mono _ (fun v hp nx e => by rw [← e]; exact hk) h

theorem evalG_congr {tm tm' : Tr V} {hp : Tr Reg} {nx : P2} {o : O} (h : Agree tm tm' o.reads) : evalG Γ o ⟨tm, hp, nx⟩ = evalG Γ o ⟨tm', hp, nx⟩ := by
  unfold evalG
  have hi := evalI_congr (Γ := Γ) (hp := hp) (nx := nx) h
  cases hg : o.g with
  | none => exact hi
  | some pw =>
    obtain ⟨p, want⟩ := pw
    have hp' : tm.get p = tm'.get p := h p (List.mem_append_right _ (by simp [hg]))
    simp only [hp', hi]

theorem evalG_fresh (hΓ : ΓLoc Γ) {tm : Tr V} {hp : Tr Reg} {nx nx' : P2} {o : O} {j : P2} {r : Reg} (hk : kindI Γ o.i ≤ 1) (hj : hp.get j = none) (hok : KeysOk tm hp o) :
    evalG Γ o ⟨tm, hp.set j (some r), nx'⟩ = evalG Γ o ⟨tm, hp, nx⟩ := by
  unfold evalG
  rw [evalI_fresh hΓ hk hj hok (nx := nx)]

theorem evalI_pure {tm : Tr V} {hp hp' : Tr Reg} {nx nx' : P2} {o : O} (hk : kindI Γ o.i = 0) : evalI Γ o ⟨tm, hp', nx'⟩ = evalI Γ o ⟨tm, hp, nx⟩ := by
  unfold evalI
  generalize o.i = i at hk
  cases i <;> simp only [kindI] at hk <;> first
    | (exfalso; omega)
    | rfl
    | skip
  case call f args =>
    simp only [e_call, callE]
    split at hk
    · rename_i F kd hg
      simp only [hg]
      split at hk <;> first
        | rfl
        | omega
    · split at hk <;> omega
    · omega

theorem evalG_pure {tm : Tr V} {hp hp' : Tr Reg} {nx nx' : P2} {o : O} (hk : kindI Γ o.i = 0) : evalG Γ o ⟨tm, hp', nx'⟩ = evalG Γ o ⟨tm, hp, nx⟩ := by
  unfold evalG
  rw [evalI_pure hk (hp := hp) (nx := nx)]

theorem calm_evalG {o : O} {S : St} (hk : kindI Γ o.i ≤ 1) : Calm (evalG Γ o S) := by
  unfold evalG
  split
  · exact calm_evalI hk
  · split
    · split
      · exact calm_evalI hk
      · trivial
    · split <;> trivial
    · trivial

theorem step_calm {o : O} {S S1 : St} (hk : kindI Γ o.i ≤ 1) : Step Γ o S S1 ↔ ∃ v, Out (evalG Γ o S) v ∧ S1 = ⟨put S.tm o.d v, S.hp, S.nx⟩ := calm_iff _ (calm_evalG hk)

theorem mk_charG {tm : Tr V} {nx : P2} {o : O} (hk : kindI Γ o.i = 2) (ha : o.adv = false) : ∃ out : V → Option (List V) → Prop, ∀ (hp : Tr Reg) (R : V → Tr Reg → P2 → Prop),
    (evalG Γ o ⟨tm, hp, nx⟩).sat hp nx o.adv R ↔ ∃ v c, out v c ∧ (c.isSome = true → hp.get (nx.plus o.off) = none) ∧ R v (upd hp (nx.plus o.off) c) nx := by
  obtain ⟨out, h⟩ := mk_char (Γ := Γ) (tm := tm) (nx := nx) hk ha
  have h2 : ∃ out : V → Option (List V) → Prop, ∀ (hp : Tr Reg) (R : V → Tr Reg → P2 → Prop),
    (evalI Γ o ⟨tm, hp, nx⟩).sat hp nx o.adv R ↔ ∃ v c, out v c ∧ (c.isSome = true → hp.get (nx.plus o.off) = none) ∧ R v (upd hp (nx.plus o.off) c) nx := by
    refine ⟨fun v c => ∃ cs, c = some cs ∧ out v cs, fun hp R => ?_⟩
    rw [h]
    constructor
    · intro ⟨v, cs, h1, h2, h3⟩; exact ⟨v, some cs, ⟨cs, rfl, h1⟩, fun _ => h2, h3⟩
    · intro ⟨v, c, h1, h2, h3⟩; obtain ⟨cs, rfl, h1⟩ := h1; exact ⟨v, cs, h1, h2 rfl, h3⟩
  have no : ∃ out : V → Option (List V) → Prop, ∀ (hp : Tr Reg) (R : V → Tr Reg → P2 → Prop),
    (E.fail).sat hp nx o.adv R ↔ ∃ v c, out v c ∧ (c.isSome = true → hp.get (nx.plus o.off) = none) ∧ R v (upd hp (nx.plus o.off) c) nx :=
    ⟨fun _ _ => False, fun hp R => ⟨fun h => h.elim, fun ⟨_, _, h, _⟩ => h.elim⟩⟩
  have sk : ∃ out : V → Option (List V) → Prop, ∀ (hp : Tr Reg) (R : V → Tr Reg → P2 → Prop),
    (E.val (.tup [])).sat hp nx o.adv R ↔ ∃ v c, out v c ∧ (c.isSome = true → hp.get (nx.plus o.off) = none) ∧ R v (upd hp (nx.plus o.off) c) nx := by
    refine ⟨fun v c => v = .tup [] ∧ c = none, fun hp R => ?_⟩
    constructor
    · intro h; exact ⟨.tup [], none, ⟨rfl, rfl⟩, fun e => by simp at e, h⟩
    · intro ⟨v, c, h1, _, h3⟩; obtain ⟨rfl, rfl⟩ := h1; exact h3
  unfold evalG
  cases hg : o.g with
  | none => exact h2
  | some pw =>
    obtain ⟨p, want⟩ := pw
    cases hb : tm.get p with
    | none => simp only [hb]; exact no
    | some v =>
      cases v <;> simp only [hb] <;> first | exact no | skip
      case tup vs => cases vs <;> first | exact sk | exact no
      rename_i b
      cases hbe : boolEq b want
      · exact sk
      · exact h2

theorem Oper.wp_some {o : Oper} {a : Act} {w : World} {K : Act → World → Prop} (h : o.wp P a w K fun _ _ _ => False) : ∃ a' w', K a' w' := by
  unfold Oper.wp at h
  generalize (execOp a.eval o).run P w = r at h
  cases r with
  | ok n w' =>
    cases n
    case value v => exact ⟨_, _, h⟩
    case skip => exact ⟨_, _, h⟩
    case defer d => exact ⟨_, _, h⟩
    case enter f args =>
      obtain ⟨e, w'', fr, hr, _⟩ := (h : Calls P f args w' _) []
      cases e with
      | returned v => exact ⟨_, _, hr⟩
      | panicked c => exact hr.elim
      | outgrown => obtain ⟨_, _, h⟩ := hr; exact h.elim
    case row row args =>
      obtain ⟨v, w'', hr, _⟩ := (h : Rows P row args w' _) (Frame.ofRow P row args .normal) []
      exact ⟨_, _, hr⟩
    all_goals exact h.elim
  | halt x w' => cases x <;> exact h.elim
end Go.AE
