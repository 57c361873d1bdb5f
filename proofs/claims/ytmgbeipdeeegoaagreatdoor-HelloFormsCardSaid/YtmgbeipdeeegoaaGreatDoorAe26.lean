/- An abstract evaluator of translated Go code, twenty-sixth part: what is run in a memory runs alike in one that has a region more. -/
import Derived.Test.YtmgbeipdeeegoaaGreatDoorAe19
namespace Go.AE
open Go.RowKit

variable {Γ : Tr Ent}

/-- All regions of a memory are regions of another one. -/
def DomLe (hp hp' : Tr Reg) : Prop := ∀ i, (hp.get i).isSome = true → (hp'.get i).isSome = true
theorem DomLe.refl (hp : Tr Reg) : DomLe hp hp := fun _ h => h
theorem DomLe.trans {a b c : Tr Reg} (h : DomLe a b) (k : DomLe b c) : DomLe a c := fun i x => k i (h i x)
theorem DomLe.set (hp : Tr Reg) (j : P2) (r : Reg) : DomLe hp (hp.set j (some r)) := by
  intro i h
  rw [Tr.get_set]
  split
  · rfl
  · exact h
theorem DomLe.none {hp hp' : Tr Reg} (h : DomLe hp hp') {j : P2} (hj : hp'.get j = none) : hp.get j = none := by
  cases e : hp.get j with
  | none => rfl
  | some r => have := h j (by rw [e]; rfl); rw [hj] at this; cases this
theorem set_ne_none {hp : Tr Reg} {i j : P2} {r : Reg} (h : (hp.set i (some r)).get j = none) : j ≠ i ∧ hp.get j = none := by
  rw [Tr.get_set] at h
  split at h
  · cases h
  · rename_i e; exact ⟨e, h⟩

/-- What is asked of a contract: a region that it doesn't meet makes no odds to it, none goes. -/
structure ExtTc (t : Tc) : Prop where
  mono : ∀ args hp nx (Q : L → Prop), wpT (t args hp nx) Q → ∃ v hp' nx', Q (.val v hp' nx') ∧ DomLe hp hp'
  ext : ∀ j r args hp nx (Q : L → Prop), wpT (t args hp nx) Q → (∀ v hp' nx', Q (.val v hp' nx') → hp'.get j = none) →
    wpT (t args (hp.set j (some r)) nx) fun l => ∃ v hp' nx', Q (.val v hp' nx') ∧ l = .val v (hp'.set j (some r)) nx'
def ΓExt (Γ : Tr Ent) : Prop := ∀ p e, Γ.get p = some e → ExtTc e.tc

section
variable {j : P2} {r : Reg} {hp : Tr Reg}
theorem readL_ext {i : P2} {off n : Nat} {cs : List V} (hj : hp.get j = none) (h : readL hp i off n = some cs) : readL (hp.set j (some r)) i off n = some cs := by
  have : i ≠ j := by rintro rfl; unfold readL at h; rw [hj] at h; cases h
  rw [readL_fresh this]; exact h
theorem read1_ext {i : P2} {off : Nat} {v : V} (hj : hp.get j = none) (h : read1 hp i off = some v) : read1 (hp.set j (some r)) i off = some v := by
  have : i ≠ j := by rintro rfl; unfold read1 at h; rw [hj] at h; cases h
  rw [read1_fresh this]; exact h
theorem write_ext {i : P2} {off : Nat} {new cs : List V} (hj : hp.get j = none) (h : write hp i off new = some cs) : i ≠ j ∧ write (hp.set j (some r)) i off new = some cs := by
  have : i ≠ j := by rintro rfl; unfold write at h; rw [hj] at h; cases h
  refine ⟨this, ?_⟩
  unfold write at h ⊢
  rw [Tr.get_set, if_neg this]; exact h
theorem srcCells_ext {sz n : Nat} {v : V} {cs : List V} (hj : hp.get j = none) (h : srcCells hp sz n v = some cs) : srcCells (hp.set j (some r)) sz n v = some cs := by
  unfold srcCells at h ⊢
  split
  · exact h
  · exact h
  · exact readL_ext hj h
  · exact h
  · rename_i n1 n2 n3 n4
    split at h
    · exact absurd rfl n1
    · exact absurd rfl n2
    · exact absurd rfl (n3 _ _ _ _ _)
    · exact absurd rfl (n4 _)
    · cases h
end

def nxA (adv : Bool) (a b : P2) : P2 := match adv with | true => a | false => b

/-- Two ways on behind an operation: in a memory, and in the same with a region more. -/
def Ways (j : P2) (r : Reg) (hp : Tr Reg) (R R' : V → Tr Reg → P2 → Prop) : Prop := ∀ v hp' nx', R v hp' nx' → DomLe hp hp' → hp'.get j = none → R' v (hp'.set j (some r)) nx'

/-- What an operation makes of its memory: no region goes. -/
theorem sat_val_ext {j : P2} {r : Reg} {hp : Tr Reg} {R R' : V → Tr Reg → P2 → Prop} (hw : Ways j r hp R R') {v : V} {nx : P2} {adv : Bool} (hj : hp.get j = none) (h : (E.val v).sat hp nx adv R) : (E.val v).sat (hp.set j (some r)) nx adv R' := hw _ _ _ h (.refl _) hj

theorem calm_ext {j : P2} {r : Reg} {hp : Tr Reg} {R R' : V → Tr Reg → P2 → Prop} (hw : Ways j r hp R R') {nx : P2} {adv : Bool} (hj : hp.get j = none) {e : E} (hc : Calm e) (h : e.sat hp nx adv R) : e.sat (hp.set j (some r)) nx adv R' := by
  obtain ⟨v, h1, h2⟩ := (calm_iff e hc).1 h
  exact (calm_iff e hc).2 ⟨v, h1, hw _ _ _ h2 (.refl _) hj⟩

theorem freshExt {S : St} {off : Nat} {adv : Bool} {k : P2 → P2 → E} {hp : Tr Reg} {nx : P2} {adv' : Bool} {R : V → Tr Reg → P2 → Prop} (h : (fresh S off adv k).sat hp nx adv' R) :
    ∃ nx1, S.hp.get (S.nx.plus off) = none ∧ (k (S.nx.plus off) nx1).sat hp nx adv' R ∧ (∀ (S' : St), S'.nx = S.nx → S'.hp.get (S.nx.plus off) = none → ∀ k' : P2 → P2 → E, fresh S' off adv k' = k' (S.nx.plus off) nx1) ∧ (adv = false → nx1 = S.nx) := by
  unfold fresh at h
  split at h
  · rename_i h1
    exact ⟨_, h1, h, fun S' e1 e2 k' => by unfold fresh; rw [e1, e2], fun e => by rw [e]⟩
  · exact h.elim

theorem set_swap {hp : Tr Reg} {i j : P2} {a b : Option Reg} (h : i ≠ j) : (hp.set j a).set i b = (hp.set i b).set j a := Tr.set_comm b a i j hp h
theorem get_set_ne {hp : Tr Reg} {i j : P2} {a : Option Reg} (h : i ≠ j) : (hp.set j a).get i = hp.get i := by rw [Tr.get_set, if_neg h]

/-- THE OPERATION, in a memory that has a region more. -/
theorem evalI_ext (hΓ : ΓExt Γ) {j : P2} {r : Reg} {tm : Tr V} {hp : Tr Reg} {nx : P2} {o : O} {adv : Bool} {R R' : V → Tr Reg → P2 → Prop} (hj : hp.get j = none) (hw : Ways j r hp R R')
    (hn : ∀ v hp' nx', R v hp' nx' → hp'.get j = none)
    (h : (evalI Γ o ⟨tm, hp, nx⟩).sat hp nx adv R) : (evalI Γ o ⟨tm, hp.set j (some r), nx⟩).sat (hp.set j (some r)) nx adv R' := by
  have callCase : ∀ f args, (callE Γ ⟨tm, hp, nx⟩ o f args).sat hp nx adv R → (callE Γ ⟨tm, hp.set j (some r), nx⟩ o f args).sat (hp.set j (some r)) nx adv R' := by
    intro f args h
    unfold callE at h ⊢
    cases hg : Γ.get f with
    | none => rw [hg] at h; exact h.elim
    | some e =>
      have he := hΓ f e hg
      rw [hg] at h
      cases e with
      | t t kd =>
        have h : wpT (t args hp (nx.plus o.off)) _ := h
        obtain ⟨l0, hl0, hdet⟩ := wpT_det _ h
        obtain ⟨v0, hp0, nx0, e0, hd0⟩ := he.mono args hp (nx.plus o.off) (fun l => l = l0) (hdet _ rfl)
        subst e0
        have hl0 : R v0 hp0 (nxA adv nx0 nx) := hl0
        have hn0 : hp0.get j = none := hn _ _ _ hl0
        have := he.ext j r args hp (nx.plus o.off) (fun l => l = .val v0 hp0 nx0) (hdet _ rfl) (fun v hp' nx' e => by cases e; exact hn0)
        show wpT (t args (hp.set j (some r)) (nx.plus o.off)) _
        refine wpT_mono _ (fun l hl => ?_) this
        obtain ⟨v, hp', nx', e, rfl⟩ := hl
        cases e
        exact hw _ _ _ hl0 hd0 hn0
      | f F kd =>
        match kd, he, h with
        | 0, he, h => exact calm_ext hw hj (e := .ldV (pureV (F args .e .h)) .val) (fun _ => trivial) h
        | 1, he, h =>
          obtain ⟨v, e, h⟩ := (h : ∃ v, pureV (F args hp .h) = some v ∧ R v hp nx)
          have := he.ext j r args hp nx (fun l => l = .val v hp nx) ⟨v, e, rfl⟩ (fun v hp' nx' e => by cases e; exact hj)
          obtain ⟨v', e', h'⟩ := (this : ∃ v', pureV (F args (hp.set j (some r)) .h) = some v' ∧ _)
          obtain ⟨v2, hp2, nx2, e2, e3⟩ := h'
          cases e2; cases e3
          exact ⟨v, e', hw _ _ _ h (.refl _) hj⟩
        | n + 2, he, h =>
          obtain ⟨q, e, h⟩ := (h : ∃ q, F args hp (nx.plus o.off) = some q ∧ R q.1 q.2.1 (nxA adv q.2.2 nx))
          obtain ⟨v1, hp1, nx1, e1, hd⟩ := he.mono args hp (nx.plus o.off) (fun l => l = .val q.1 q.2.1 q.2.2) ⟨q, e, rfl⟩
          cases e1
          have := he.ext j r args hp (nx.plus o.off) (fun l => l = .val q.1 q.2.1 q.2.2) ⟨q, e, rfl⟩ (fun v hp' nx' e => by cases e; exact hn _ _ _ h)
          obtain ⟨q', e', h'⟩ := (this : ∃ q', F args (hp.set j (some r)) (nx.plus o.off) = some q' ∧ _)
          obtain ⟨v2, hp2, nx2, e2, e3⟩ := h'
          cases e2
          obtain ⟨a, b, c⟩ := q'
          cases e3
          exact ⟨_, e', hw _ _ _ h hd (hn _ _ _ h)⟩
  have fail : ∀ e : E, (E.fail).sat hp nx adv R → e.sat (hp.set j (some r)) nx adv R' := fun e h => h.elim
  by_cases hk : kindI Γ o.i = 0
  · rw [show evalI Γ o ⟨tm, hp.set j (some r), nx⟩ = evalI Γ o ⟨tm, hp, nx⟩ from evalI_pure hk]
    exact calm_ext hw hj (calm_evalI (by omega)) h
  unfold evalI at h ⊢
  generalize o.i = i at h hk ⊢
  cases i <;> simp only [kindI] at hk <;> first
    | (exfalso; exact hk trivial)
    | (exfalso; exact hk rfl)
    | skip
  case call f args => exact callCase _ _ h
  case callv x args =>
    dsimp only [e_callv] at h ⊢
    split at h
    · rename_i f c e; (try simp only [e]); exact callCase _ _ h
    · exact h.elim
  case b2s x =>
    dsimp only [e_b2s] at h ⊢
    split at h
    · rename_i e; (try simp only [e]); exact sat_val_ext hw hj h
    · rename_i e; (try simp only [e]); exact sat_val_ext hw hj h
    · rename_i i off n c e
      (try simp only [e])
      obtain ⟨v, e1, h⟩ := (h : ∃ v, _ = some v ∧ R v hp nx)
      refine ⟨v, ?_, hw _ _ _ h (.refl _) hj⟩
      cases hr : readL hp i off n with
      | none => rw [hr] at e1; cases e1
      | some cs => rw [readL_ext hj hr]; rw [hr] at e1; exact e1
    · exact h.elim
  case load ag sz x =>
    dsimp only [e_load] at h ⊢
    split at h
    · rename_i i p e
      (try simp only [e])
      cases ag
      · obtain ⟨v, e1, h⟩ := (h : ∃ v, _ = some v ∧ R v hp nx)
        exact ⟨v, read1_ext hj e1, hw _ _ _ h (.refl _) hj⟩
      · obtain ⟨v, e1, h⟩ := (h : ∃ v, _ = some v ∧ R (.agg v) hp nx)
        exact ⟨v, readL_ext hj e1, hw _ _ _ h (.refl _) hj⟩
    · exact h.elim
  case slArr n sz x lo hi =>
    dsimp only [e_slArr] at h ⊢
    split at h
    · rename_i i p e
      (try simp only [e])
      have hcalm : ∀ g : Option Reg, Calm (bounds tm n n lo hi fun l h => match g with
          | some ⟨cells, .own⟩ => .need (Nat.ble (p + n * sz) cells.length) (.br (Nat.beq n l) (.val (.sl i p (h - l) (some (n - l)) sz)) (.val (.sl i (p + l * sz) (h - l) (some (n - l)) sz)))
          | _ => .fail) := fun g => bounds_calm fun l h => by split <;> first | trivial | exact ⟨trivial, trivial⟩
      by_cases ei : i = j
      · subst ei
        have hh := (calm_iff _ (hcalm (hp.get i))).1 h
        rw [hj] at hh
        obtain ⟨v, h1, _⟩ := hh
        exfalso
        revert h1
        unfold bounds Out
        cases hi with
        | none => cases lo with
          | none => exact fun h => h
          | some y => simp only; split <;> first | exact fun h => h.2 | exact fun h => h
        | some z =>
          simp only
          split
          · cases lo with
            | none => exact fun h => h.2
            | some y => simp only; split <;> first | exact fun h => h.2.2 | exact fun h => h.2
          · exact fun h => h
      · rw [get_set_ne ei]
        exact calm_ext hw hj (hcalm _) h
    · exact h.elim
  case s2b x =>
    dsimp only [e_s2b] at h ⊢
    split at h
    · rename_i s e
      (try simp only [e])
      obtain ⟨nx1, h0, ⟨cs, e1, h1⟩, h2, _⟩ := freshExt h
      obtain ⟨hne, _⟩ := set_ne_none (hn _ _ _ h1)
      rw [h2 ⟨tm, hp.set j (some r), nx⟩ rfl (by rw [get_set_ne (Ne.symm hne)]; exact h0)]
      refine ⟨cs, e1, ?_⟩
      show R' _ _ _
      rw [set_swap (Ne.symm hne)]
      exact hw _ _ _ h1 (.set _ _ _) (hn _ _ _ h1)
    · exact h.elim
  case alloc z =>
    dsimp only [e_alloc] at h ⊢
    obtain ⟨nx1, h0, h1, h2, _⟩ := freshExt h
    obtain ⟨hne, _⟩ := set_ne_none (hn _ _ _ h1)
    rw [h2 ⟨tm, hp.set j (some r), nx⟩ rfl (by rw [get_set_ne (Ne.symm hne)]; exact h0)]
    show R' _ _ _
    rw [set_swap (Ne.symm hne)]
    exact hw _ _ _ h1 (.set _ _ _) (hn _ _ _ h1)
  case box x =>
    dsimp only [e_box] at h ⊢
    obtain ⟨hb, h⟩ := h
    refine ⟨hb, ?_⟩
    obtain ⟨nx1, h0, h1, h2, _⟩ := freshExt h
    obtain ⟨hne, _⟩ := set_ne_none (hn _ _ _ h1)
    rw [h2 ⟨tm, hp.set j (some r), nx⟩ rfl (by rw [get_set_ne (Ne.symm hne)]; exact h0)]
    show R' _ _ _
    rw [set_swap (Ne.symm hne)]
    exact hw _ _ _ h1 (.set _ _ _) (hn _ _ _ h1)
  case bsl sz n z ps =>
    dsimp only [e_bsl] at h ⊢
    obtain ⟨nx1, h0, ⟨cs, e1, h1⟩, h2, _⟩ := freshExt h
    obtain ⟨hne, _⟩ := set_ne_none (hn _ _ _ h1)
    rw [h2 ⟨tm, hp.set j (some r), nx⟩ rfl (by rw [get_set_ne (Ne.symm hne)]; exact h0)]
    refine ⟨cs, e1, ?_⟩
    show R' _ _ _
    rw [set_swap (Ne.symm hne)]
    exact hw _ _ _ h1 (.set _ _ _) (hn _ _ _ h1)
  case mks sz bytes z l c =>
    dsimp only [e_mks] at h ⊢
    split at h
    · rename_i e1 e2
      (try simp only [e1, e2])
      obtain ⟨hb, h⟩ := h
      refine ⟨hb, ?_⟩
      obtain ⟨nx1, h0, ⟨cs, e1, h1⟩, h2, _⟩ := freshExt h
      obtain ⟨hne, _⟩ := set_ne_none (hn _ _ _ h1)
      rw [h2 ⟨tm, hp.set j (some r), nx⟩ rfl (by rw [get_set_ne (Ne.symm hne)]; exact h0)]
      refine ⟨cs, e1, ?_⟩
      show R' _ _ _
      rw [set_swap (Ne.symm hne)]
      exact hw _ _ _ h1 (.set _ _ _) (hn _ _ _ h1)
    · exact h.elim
  case store sz x v =>
    dsimp only [e_store] at h ⊢
    split at h
    · rename_i i p e
      (try simp only [e])
      obtain ⟨h1, h2, cs, h3, h4⟩ := h
      obtain ⟨hne, h5⟩ := write_ext (r := r) hj h3
      refine ⟨h1, h2, cs, h5, ?_⟩
      show R' _ _ _
      rw [set_swap hne]
      exact hw _ _ _ h4 (.set _ _ _) (hn _ _ _ h4)
    · exact h.elim
  case app sz bytes x y =>
    dsimp only [e_app] at h ⊢
    split at h
    · exact h.elim
    · rename_i n en
      (try simp only [en])
      obtain ⟨new, e1, hok, h⟩ := h
      refine ⟨new, srcCells_ext hj e1, hok, ?_⟩
      split at h
      · rename_i e
        (try simp only [e])
        obtain ⟨hb, h⟩ := h
        refine ⟨hb, fun hz => hw _ _ _ (h.1 hz) (.refl _) hj, fun hz => ?_⟩
        have h := h.2 hz
        obtain ⟨nx1, h0, h1, h2, _⟩ := freshExt h
        obtain ⟨hne, _⟩ := set_ne_none (hn _ _ _ h1)
        rw [h2 ⟨tm, hp.set j (some r), nx⟩ rfl (by rw [get_set_ne (Ne.symm hne)]; exact h0)]
        show R' _ _ _
        rw [set_swap (Ne.symm hne)]
        exact hw _ _ _ h1 (.set _ _ _) (hn _ _ _ h1)
      · rename_i i p m cp sz' e
        (try simp only [e])
        obtain ⟨hb, h⟩ := h
        refine ⟨hb, ?_⟩
        obtain ⟨nx1, h0, h1, h2, _⟩ := freshExt h
        split at h1
        · rename_i cells eg
          have hij : i ≠ j := by rintro rfl; rw [hj] at eg; cases eg
          obtain ⟨hle, cs, ec, h1⟩ := h1
          obtain ⟨hne, _⟩ := set_ne_none (hn _ _ _ h1)
          rw [h2 ⟨tm, hp.set j (some r), nx⟩ rfl (by rw [get_set_ne (Ne.symm hne)]; exact h0)]
          simp only [get_set_ne hij, eg]
          refine ⟨hle, cs, ec, ?_⟩
          show R' _ _ _
          rw [set_swap hij, set_swap (Ne.symm hne)]
          exact hw _ _ _ h1 ((DomLe.set _ _ _).trans (.set _ _ _)) (hn _ _ _ h1)
        · exact h1.elim
      · exact h.elim
  case cpy sz x y =>
    dsimp only [e_cpy] at h ⊢
    split at h
    · rename_i n i p m cp sz' en e
      (try simp only [en, e])
      obtain ⟨h1, new, h2, h3, cs, h4, h5⟩ := h
      obtain ⟨hne, h6⟩ := write_ext (r := r) hj h4
      refine ⟨h1, new, srcCells_ext hj h2, h3, cs, h6, ?_⟩
      show R' _ _ _
      rw [set_swap hne]
      exact hw _ _ _ h5 (.set _ _ _) (hn _ _ _ h5)
    · rename_i en e; (try simp only [en, e]); exact sat_val_ext hw hj h
    · rename_i en e; (try simp only [en, e]); exact sat_val_ext hw hj h
    · exact h.elim
/-- THE OPERATION: no region goes. -/
theorem evalI_mono (hΓ : ΓExt Γ) {S : St} {o : O} {R : V → Tr Reg → P2 → Prop} (h : (evalI Γ o S).sat S.hp S.nx o.adv R) : ∃ v hp' nx', R v hp' nx' ∧ DomLe S.hp hp' ∧ (o.adv = false → nx' = S.nx) := by
  have callCase : ∀ f args, (callE Γ S o f args).sat S.hp S.nx o.adv R → ∃ v hp' nx', R v hp' nx' ∧ DomLe S.hp hp' ∧ (o.adv = false → nx' = S.nx) := by
    intro f args h
    unfold callE at h
    cases hg : Γ.get f with
    | none => rw [hg] at h; exact h.elim
    | some e =>
      have he := hΓ f e hg
      rw [hg] at h
      cases e with
      | t t kd =>
        obtain ⟨v, hp', nx', h1, h2⟩ := he.mono args S.hp (S.nx.plus o.off) _ h
        exact ⟨v, hp', _, h1, h2, fun e => by rw [e]⟩
      | f F kd =>
        match kd, he, h with
        | 0, he, h => obtain ⟨v, _, h⟩ := h; exact ⟨_, _, _, h, .refl _, fun _ => rfl⟩
        | 1, he, h => obtain ⟨v, _, h⟩ := h; exact ⟨_, _, _, h, .refl _, fun _ => rfl⟩
        | n + 2, he, h =>
          obtain ⟨q, e, h⟩ := (h : ∃ q, F args S.hp (S.nx.plus o.off) = some q ∧ R q.1 q.2.1 (nxA o.adv q.2.2 S.nx))
          obtain ⟨v1, hp1, nx1, e1, hd⟩ := he.mono args S.hp (S.nx.plus o.off) (fun l => l = .val q.1 q.2.1 q.2.2) ⟨q, e, rfl⟩
          cases e1
          exact ⟨_, _, _, h, hd, fun e => by rw [e]⟩
  by_cases hk : kindI Γ o.i ≤ 1
  · obtain ⟨v, _, h⟩ := (calm_iff _ (calm_evalI hk)).1 h
    exact ⟨_, _, _, h, .refl _, fun _ => rfl⟩
  unfold evalI at h
  generalize o.i = i at h hk
  cases i <;> simp only [kindI] at hk <;> first
    | (exfalso; omega)
    | skip
  case call f args => exact callCase _ _ h
  case callv x args => dsimp only [e_callv] at h; split at h; exact callCase _ _ h; exact h.elim
  case s2b x => dsimp only [e_s2b] at h; split at h; obtain ⟨_, _, ⟨_, _, h⟩, _, hx⟩ := freshExt h; exact ⟨_, _, _, h, .set _ _ _, hx⟩; exact h.elim
  case alloc z => dsimp only [e_alloc] at h; obtain ⟨_, _, h, _, hx⟩ := freshExt h; exact ⟨_, _, _, h, .set _ _ _, hx⟩
  case box x => dsimp only [e_box] at h; obtain ⟨_, _, h, _, hx⟩ := freshExt h.2; exact ⟨_, _, _, h, .set _ _ _, hx⟩
  case bsl sz n z ps => dsimp only [e_bsl] at h; obtain ⟨_, _, ⟨_, _, h⟩, _, hx⟩ := freshExt h; exact ⟨_, _, _, h, .set _ _ _, hx⟩
  case mks sz bytes z l c => dsimp only [e_mks] at h; split at h; obtain ⟨_, _, ⟨_, _, h⟩, _, hx⟩ := freshExt h.2; exact ⟨_, _, _, h, .set _ _ _, hx⟩; exact h.elim
  case store sz x v => dsimp only [e_store] at h; split at h; obtain ⟨_, _, _, _, h⟩ := h; exact ⟨_, _, _, h, .set _ _ _, fun _ => rfl⟩; exact h.elim
  case app sz bytes x y =>
    dsimp only [e_app] at h
    split at h
    · exact h.elim
    · rename_i n en
      obtain ⟨new, e1, hok, h⟩ := h
      split at h
      · obtain ⟨_, h⟩ := h
        cases hz : Nat.beq n 0
        · obtain ⟨_, _, h, _, hx⟩ := freshExt (h.2 hz); exact ⟨_, _, _, h, .set _ _ _, hx⟩
        · exact ⟨_, _, _, h.1 hz, .refl _, fun _ => rfl⟩
      · obtain ⟨_, h⟩ := h
        obtain ⟨_, _, h, _, hx⟩ := freshExt h
        split at h
        · obtain ⟨_, _, _, h⟩ := h; exact ⟨_, _, _, h, (DomLe.set _ _ _).trans (.set _ _ _), hx⟩
        · exact h.elim
      · exact h.elim
  case cpy sz x y =>
    dsimp only [e_cpy] at h
    split at h
    · obtain ⟨_, _, _, _, _, _, h⟩ := h; exact ⟨_, _, _, h, .set _ _ _, fun _ => rfl⟩
    · exact ⟨_, _, _, h, .refl _, fun _ => rfl⟩
    · exact ⟨_, _, _, h, .refl _, fun _ => rfl⟩
    · exact h.elim

/-- A state in whose memory there is a region more. -/
noncomputable def St.more (S : St) (j : P2) (r : Reg) : St := ⟨S.tm, S.hp.set j (some r), S.nx⟩

theorem step_mono' (hΓ : ΓExt Γ) {o : O} {S S1 : St} (h : Step Γ o S S1) : DomLe S.hp S1.hp ∧ (o.adv = false → S1.nx = S.nx) := by
  unfold Step evalG at h
  split at h
  · obtain ⟨_, _, _, e, hd⟩ := evalI_mono hΓ h; subst e; exact hd
  · split at h
    · split at h
      · obtain ⟨_, _, _, e, hd⟩ := evalI_mono hΓ h; subst e; exact hd
      · have h : S1 = _ := h; subst h; exact ⟨.refl _, fun _ => rfl⟩
    · split at h
      · have h : S1 = _ := h; subst h; exact ⟨.refl _, fun _ => rfl⟩
      · exact h.elim
    · exact h.elim
theorem step_mono (hΓ : ΓExt Γ) {o : O} {S S1 : St} (h : Step Γ o S S1) : DomLe S.hp S1.hp := (step_mono' hΓ h).1

theorem step_ext (hΓ : ΓExt Γ) {j : P2} {r : Reg} {o : O} {S S1 : St} (h : Step Γ o S S1) (hj : S1.hp.get j = none) : Step Γ o (S.more j r) (S1.more j r) := by
  have h0 := (step_mono hΓ h).none hj
  have hw : Ways j r S.hp (fun v hp nx => S1 = ⟨put S.tm o.d v, hp, nx⟩) (fun v hp nx => S1.more j r = ⟨put S.tm o.d v, hp, nx⟩) := by
    intro v hp' nx' e _ _
    subst e
    rfl
  have hn : ∀ v hp' nx', S1 = (⟨put S.tm o.d v, hp', nx'⟩ : St) → hp'.get j = none := by
    intro v hp' nx' e
    subst e
    exact hj
  unfold Step evalG at h ⊢
  split at h
  · exact evalI_ext hΓ h0 hw hn h
  · rename_i p want hg
    show ((match S.tm.get p with
      | some (.bool b) => (match boolEq b want with | true => evalI Γ o (S.more j r) | false => .val (.tup []))
      | some (.tup vs) => (match vs with
        | [] => .val (.tup [])
        | _ :: _ => .fail)
      | _ => .fail : E)).sat (S.hp.set j (some r)) S.nx o.adv _
    split at h
    · rename_i b hb
      rw [hb]
      show ((match boolEq b want with | true => evalI Γ o (S.more j r) | false => .val (.tup []) : E)).sat (S.hp.set j (some r)) S.nx o.adv _
      revert h
      cases boolEq b want
      · exact fun h => sat_val_ext hw h0 h
      · exact fun h => evalI_ext hΓ h0 hw hn h
    · rename_i vs hb
      rw [hb]
      cases vs
      · exact sat_val_ext hw h0 h
      · exact h.elim
    · exact h.elim

theorem opsT_mono (hΓ : ΓExt Γ) : ∀ (ops : List O) (S : St) (k : St → T) (Q : L → Prop), wpT (opsT Γ ops S k) Q → ∃ S', wpT (k S') Q ∧ DomLe S.hp S'.hp
  | [], S, _, _, h => ⟨S, h, .refl _⟩
  | o :: ops, S, k, Q, h => by
    obtain ⟨S1, h1, h2⟩ := opT_step.1 (h : wpT (opT Γ o S fun S => opsT Γ ops S k) Q)
    obtain ⟨S', h3, h4⟩ := opsT_mono hΓ ops S1 k Q h2
    exact ⟨S', h3, (step_mono hΓ h1).trans h4⟩

theorem opsT_ext (hΓ : ΓExt Γ) {j : P2} {r : Reg} : ∀ (ops : List O) (S : St) (k k' : St → T) (Q Q' : L → Prop), (∀ S', wpT (k S') Q → S'.hp.get j = none ∧ wpT (k' (S'.more j r)) Q') → wpT (opsT Γ ops S k) Q → wpT (opsT Γ ops (S.more j r) k') Q'
  | [], S, _, _, _, _, hk, h => (hk S h).2
  | o :: ops, S, k, k', Q, Q', hk, h => by
    obtain ⟨S1, h1, h2⟩ := opT_step.1 (h : wpT (opT Γ o S fun S => opsT Γ ops S k) Q)
    obtain ⟨S', h3, h4⟩ := opsT_mono hΓ ops S1 k Q h2
    have hj := h4.none (hk S' h3).1
    show wpT (opT Γ o (S.more j r) fun S => opsT Γ ops S k') Q'
    exact opT_step.2 ⟨S1.more j r, step_ext hΓ h1 hj, opsT_ext hΓ ops S1 k k' Q Q' hk h2⟩

theorem exec_mono (hΓ : ΓExt Γ) (c : C) : ∀ (S : St) (k : Ex → St → T) (Q : L → Prop), wpT (exec Γ c S k) Q → ∃ ex S', wpT (k ex S') Q ∧ DomLe S.hp S'.hp := by
  induction c with
  | skip => intro S k Q h; exact ⟨.norm, S, h, .refl _⟩
  | reg ops tot =>
    intro S k Q h
    obtain ⟨S', h1, h2⟩ := opsT_mono hΓ ops S _ Q (h : wpT (opsT Γ ops S (regK tot k)) Q)
    cases tot with
    | zero => exact ⟨.norm, S', h1, h2⟩
    | succ t => exact ⟨.norm, _, h1, h2⟩
  | seq a b iha ihb =>
    intro S k Q h
    obtain ⟨ex, S1, h1, h2⟩ := iha S _ Q (h : wpT (exec Γ a S fun ex S => match ex with | .norm => exec Γ b S k | .exit id => k (.exit id) S | .ret => k .ret S) Q)
    cases ex with
    | norm => obtain ⟨ex, S', h3, h4⟩ := ihb S1 k Q h1; exact ⟨ex, S', h3, h2.trans h4⟩
    | exit i => exact ⟨.exit i, S1, h1, h2⟩
    | ret => exact ⟨.ret, S1, h1, h2⟩
  | cond x a b iha ihb =>
    intro S k Q h
    rw [exec_cond] at h
    split at h
    · rename_i t _
      cases t
      · obtain ⟨ex, S', h1, h2⟩ := ihb _ k Q (h.2 rfl); exact ⟨ex, S', h1, h2⟩
      · obtain ⟨ex, S', h1, h2⟩ := iha _ k Q (h.1 rfl); exact ⟨ex, S', h1, h2⟩
    · exact h.elim
  | block i c ih =>
    intro S k Q h
    obtain ⟨ex, S1, h1, h2⟩ := ih S _ Q (h : wpT (exec Γ c S fun ex S => match ex with
      | .exit j => (match Nat.beq j i with | true => k .norm S | false => k (.exit j) S)
      | .norm => k .norm S
      | .ret => k .ret S) Q)
    cases ex with
    | norm => exact ⟨.norm, S1, h1, h2⟩
    | ret => exact ⟨.ret, S1, h1, h2⟩
    | exit j =>
      simp only at h1
      split at h1
      · exact ⟨.norm, S1, h1, h2⟩
      · exact ⟨.exit j, S1, h1, h2⟩
  | loop c ih =>
    rintro S k Q ⟨n, h⟩
    have key : ∀ n S, loopN (fun S Q => wpT (exec Γ c S fun ex S => .leaf (.ret ex S)) Q) Q (fun ex S => wpT (k ex S) Q) n S → ∃ ex S', wpT (k ex S') Q ∧ DomLe S.hp S'.hp := by
      intro n
      induction n with
      | zero => intro S h; exact h.elim
      | succ n ihn =>
        intro S h
        obtain ⟨ex, S1, h1, h2⟩ := ih S _ _ h
        cases ex with
        | norm => obtain ⟨ex, S', h3, h4⟩ := ihn S1 h1; exact ⟨ex, S', h3, h2.trans h4⟩
        | exit i => exact ⟨.exit i, S1, h1, h2⟩
        | ret => exact ⟨.ret, S1, h1, h2⟩
    exact key n S h
  | exit i => intro S k Q h; exact ⟨.exit i, S, h, .refl _⟩
  | ret => intro S k Q h; exact ⟨.ret, S, h, .refl _⟩
  | bad => intro S k Q h; exact h.elim

theorem exec_ext (hΓ : ΓExt Γ) {j : P2} {r : Reg} (c : C) : ∀ (S : St) (k k' : Ex → St → T) (Q Q' : L → Prop), (∀ ex S', wpT (k ex S') Q → S'.hp.get j = none ∧ wpT (k' ex (S'.more j r)) Q') → wpT (exec Γ c S k) Q → wpT (exec Γ c (S.more j r) k') Q' := by
  induction c with
  | skip => intro S k k' Q Q' hk h; exact (hk .norm S h).2
  | reg ops tot =>
    intro S k k' Q Q' hk h
    refine opsT_ext hΓ ops S (regK tot k) (regK tot k') Q Q' (fun S' h' => ?_) h
    cases tot with
    | zero => exact hk .norm S' h'
    | succ t => exact hk .norm _ h'
  | seq a b iha ihb =>
    intro S k k' Q Q' hk h
    refine iha S _ _ Q Q' (fun ex S1 h1 => ?_) (h : wpT (exec Γ a S fun ex S => match ex with | .norm => exec Γ b S k | .exit id => k (.exit id) S | .ret => k .ret S) Q)
    cases ex with
    | norm =>
      obtain ⟨ex, S', h2, h3⟩ := exec_mono hΓ b S1 k Q h1
      exact ⟨h3.none (hk ex S' h2).1, ihb S1 k k' Q Q' hk h1⟩
    | exit i => exact hk (.exit i) S1 h1
    | ret => exact hk .ret S1 h1
  | cond x a b iha ihb =>
    intro S k k' Q Q' hk h
    rw [exec_cond] at h ⊢
    show wpT (match ev S.tm x with
    | .bool t => .br t (exec Γ a ⟨setLit S.tm x true, S.hp.set j (some r), S.nx⟩ k') (exec Γ b ⟨setLit S.tm x false, S.hp.set j (some r), S.nx⟩ k')
    | _ => .fail) Q'
    split at h
    · rename_i t e
      rw [e]
      exact ⟨fun e => iha _ k k' Q Q' hk (h.1 e), fun e => ihb _ k k' Q Q' hk (h.2 e)⟩
    · exact h.elim
  | block i c ih =>
    intro S k k' Q Q' hk h
    refine ih S _ _ Q Q' (fun ex S1 h1 => ?_) (h : wpT (exec Γ c S fun ex S => match ex with
      | .exit j => (match Nat.beq j i with | true => k .norm S | false => k (.exit j) S)
      | .norm => k .norm S
      | .ret => k .ret S) Q)
    cases ex with
    | norm => exact hk .norm S1 h1
    | ret => exact hk .ret S1 h1
    | exit j' =>
      revert h1
      show wpT (match Nat.beq j' i with | true => k .norm S1 | false => k (.exit j') S1) Q → S1.hp.get j = none ∧ wpT (match Nat.beq j' i with | true => k' .norm (S1.more j r) | false => k' (.exit j') (S1.more j r)) Q'
      cases Nat.beq j' i
      · exact hk (.exit _) S1
      · exact hk .norm S1
  | loop c ih =>
    rintro S k k' Q Q' hk ⟨n, h⟩
    have mono : ∀ n S, loopN (fun S Q => wpT (exec Γ c S fun ex S => .leaf (.ret ex S)) Q) Q (fun ex S => wpT (k ex S) Q) n S → S.hp.get j = none := by
      intro n S h
      obtain ⟨ex, S', h1, h2⟩ := exec_mono hΓ (.loop c) S k Q ⟨n, h⟩
      exact h2.none (hk ex S' h1).1
    have key : ∀ n S, loopN (fun S Q => wpT (exec Γ c S fun ex S => .leaf (.ret ex S)) Q) Q (fun ex S => wpT (k ex S) Q) n S →
        loopN (fun S Q => wpT (exec Γ c S fun ex S => .leaf (.ret ex S)) Q) Q' (fun ex S => wpT (k' ex S) Q') n (S.more j r) := by
      intro n
      induction n with
      | zero => intro S h; exact h.elim
      | succ n ihn =>
        intro S h
        refine ih S _ _ _ _ (fun ex S1 h1 => ?_) h
        cases ex with
        | norm => exact ⟨mono n S1 h1, ihn S1 h1⟩
        | exit i => exact hk (.exit i) S1 h1
        | ret => exact hk .ret S1 h1
    exact ⟨n, key n S h⟩
  | exit i => intro S k k' Q Q' hk h; exact (hk (.exit i) S h).2
  | ret => intro S k k' Q Q' hk h; exact (hk .ret S h).2
  | bad => intro S k k' Q Q' hk h; exact h.elim

theorem resE_ext {S : St} {j : P2} {r : Reg} (hj : S.hp.get j = none) {x : Rv} {v : V} (h : resE S x = some v) : resE (S.more j r) x = some v := by
  cases x with
  | tmp p => exact h
  | cell p ag sz =>
    unfold resE at h ⊢
    dsimp only [St.more] at h ⊢
    split at h
    · rename_i i o _
      cases ag
      · exact read1_ext hj h
      · simp only at h ⊢
        cases hr : readL S.hp i o sz with
        | none => rw [hr] at h; cases h
        | some cs => simp only [readL_ext hj hr]; rw [hr] at h; exact h
    · cases h

theorem resL_cons (S : St) (x : Rv) (xs : List Rv) : resL S (x :: xs) = match resE S x with | some v => (match resL S xs with | some vs => some (v :: vs) | none => none) | none => none := rfl
theorem resL_ext {S : St} {j : P2} {r : Reg} (hj : S.hp.get j = none) : ∀ {xs : List Rv} {vs : List V}, resL S xs = some vs → resL (S.more j r) xs = some vs
  | [], _, h => h
  | x :: xs, vs, h => by
    rw [resL_cons] at h ⊢
    cases hx : resE S x with
    | none => rw [hx] at h; cases h
    | some v =>
      rw [hx] at h
      rw [resE_ext hj hx]
      simp only at h ⊢
      cases hxs : resL S xs with
      | none => rw [hxs] at h; cases h
      | some us => rw [resL_ext hj hxs]; rw [hxs] at h; exact h

/-- THE CALL, by its own code. -/
theorem callT_ext (hΓ : ΓExt Γ) (fd : Fd) : ExtTc (callT Γ fd) := by
  constructor
  · rintro args hp nx Q ⟨_, h⟩
    obtain ⟨ex, S', h1, h2⟩ := exec_mono hΓ fd.code ⟨argsAt args .h .e, hp, nx⟩ _ Q h
    cases ex with
    | exit => exact h1.elim
    | norm => obtain ⟨vs, _, h⟩ := h1; exact ⟨_, _, _, h, h2⟩
    | ret => obtain ⟨vs, _, h⟩ := h1; exact ⟨_, _, _, h, h2⟩
  · rintro j r args hp nx Q ⟨h0, h⟩ hn
    refine ⟨h0, exec_ext (j := j) (r := r) hΓ fd.code ⟨argsAt args .h .e, hp, nx⟩ _ _ Q _ (fun ex S' h' => ?_) h⟩
    cases ex with
    | exit => exact h'.elim
    | norm => obtain ⟨vs, e, h'⟩ := h'; have hj := hn _ _ _ h'; exact ⟨hj, vs, resL_ext hj e, _, _, _, h', rfl⟩
    | ret => obtain ⟨vs, e, h'⟩ := h'; have hj := hn _ _ _ h'; exact ⟨hj, vs, resL_ext hj e, _, _, _, h', rfl⟩

theorem pure_ext (F : Fc) : ExtTc (Ent.f F 0).tc := by
  constructor
  · rintro args hp nx Q ⟨v, _, h⟩; exact ⟨_, _, _, h, .refl _⟩
  · rintro j r args hp nx Q ⟨v, e, h⟩ _; exact ⟨v, e, _, _, _, h, rfl⟩

/-- What is asked of a contract that writes nothing and makes nothing. -/
def RdTc (t : Tc) : Prop := ∀ args hp nx (Q : L → Prop), wpT (t args hp nx) Q → ∃ v, Q (.val v hp nx)
def ΓRd (Γ : Tr Ent) : Prop := ∀ f t, Γ.get f = some (.t t 5) → RdTc t

/-- Whatever goes ahead of a maker may stand behind it. -/
theorem swap_any_mk (hE : ΓExt Γ) {o1 o2 : O} {S S1 S2 : St} (ha : Apart o1 o2) (hk2 : kindI Γ o2.i = 2) (hv1 : o1.adv = false) (hv2 : o2.adv = false) (h1 : Step Γ o1 S S1) (h2 : Step Γ o2 S1 S2) :
    ∃ S1', Step Γ o2 S S1' ∧ Step Γ o1 S1' S2 := by
  have hmono := step_mono hE h1
  have hx : ∀ j r, S1.hp.get j = none → Step Γ o1 (S.more j r) (S1.more j r) := fun j r hj => step_ext hE h1 hj
  obtain ⟨tm, hp, nx⟩ := S
  obtain ⟨v1, hp1, nx1, e1, hs1⟩ := sat_det _ h1
  subst e1
  have hnx : nx1 = nx := (step_mono' hE h1).2 hv1
  subst hnx
  unfold Step at h2
  rw [evalG_put ha.a] at h2
  obtain ⟨out, hc⟩ := mk_charG (Γ := Γ) (tm := tm) (nx := nx1) hk2 hv2
  obtain ⟨v2, c, h3, h4, rfl⟩ := (hc _ _).1 h2
  refine ⟨⟨put tm o2.d v2, upd hp (nx1.plus o2.off) c, nx1⟩, (hc _ _).2 ⟨v2, c, h3, fun e => hmono.none (h4 e), rfl⟩, ?_⟩
  have h5 : Step Γ o1 ⟨tm, upd hp (nx1.plus o2.off) c, nx1⟩ ⟨put tm o1.d v1, upd hp1 (nx1.plus o2.off) c, nx1⟩ := by
    cases c with
    | none => exact h1
    | some cs => exact hx _ _ (h4 rfl)
  unfold Step at h5 ⊢
  rw [evalG_put ha.b]
  refine sat_mono _ (fun v hp' nx' e => ?_) h5
  have e1 : upd hp1 (nx1.plus o2.off) c = hp' := congrArg St.hp e
  have e2 := congrArg St.nx e
  have e3 : put tm o1.d v1 = put tm o1.d v := congrArg St.tm e
  dsimp only at e2
  subst e1; subst e2
  dsimp only
  rw [← put_comm ha.c, e3, put_comm ha.c]
theorem put_inj {tm tm' : Tr V} {d : Option P2} {v v' : V} (h : put tm d v = put tm d v') : put tm' d v = put tm' d v' := by
  cases d with
  | none => rfl
  | some p =>
    have : (tm.set p (some v)).get p = (tm.set p (some v')).get p := congrArg (Tr.get p) h
    simp only [Tr.get_set, if_pos] at this
    rw [Option.some.inj this]

/-- An operation that computes, or reads: the memory stays. -/
theorem step_rd (hR : ΓRd Γ) {o : O} {S S1 : St} (hk : kindI Γ o.i = 0 ∨ kindI Γ o.i = 1 ∨ (kindI Γ o.i = 5 ∧ o.adv = false)) (h : Step Γ o S S1) : ∃ v, S1 = ⟨put S.tm o.d v, S.hp, S.nx⟩ := by
  rcases hk with hk | hk | ⟨hk, ha⟩
  · obtain ⟨v, _, e⟩ := (step_calm (by omega)).1 h; exact ⟨v, e⟩
  · obtain ⟨v, _, e⟩ := (step_calm (by omega)).1 h; exact ⟨v, e⟩
  · have key : ∀ R : V → Tr Reg → P2 → Prop, (evalI Γ o S).sat S.hp S.nx o.adv R → ∃ v, R v S.hp S.nx := by
      intro R h
      unfold evalI at h
      generalize o.i = i at hk h
      cases i <;> simp only [kindI] at hk <;> first
        | (exfalso; omega)
        | skip
      case call f args =>
        dsimp only [e_call, callE] at h
        split at hk
        · split at hk <;> omega
        · rename_i t kd hg
          split at hk <;> first
            | (exfalso; omega)
            | skip
          rw [hg] at h
          obtain ⟨v, h⟩ := hR f _ hg _ _ _ _ h
          rw [ha] at h
          exact ⟨v, h⟩
        · omega
    unfold Step evalG at h
    split at h
    · obtain ⟨v, e⟩ := key _ h; exact ⟨v, e⟩
    · split at h
      · split at h
        · obtain ⟨v, e⟩ := key _ h; exact ⟨v, e⟩
        · exact ⟨_, h⟩
      · split at h
        · exact ⟨_, h⟩
        · exact h.elim
      · exact h.elim

theorem swap_rd_rd (hR : ΓRd Γ) {o1 o2 : O} {S S1 S2 : St} (ha : Apart o1 o2) (hk1 : kindI Γ o1.i = 0 ∨ kindI Γ o1.i = 1 ∨ (kindI Γ o1.i = 5 ∧ o1.adv = false)) (hk2 : kindI Γ o2.i = 0 ∨ kindI Γ o2.i = 1 ∨ (kindI Γ o2.i = 5 ∧ o2.adv = false)) (h1 : Step Γ o1 S S1) (h2 : Step Γ o2 S1 S2) : ∃ S1', Step Γ o2 S S1' ∧ Step Γ o1 S1' S2 := by
  obtain ⟨tm, hp, nx⟩ := S
  obtain ⟨v1, e1⟩ := step_rd hR hk1 h1
  subst e1
  obtain ⟨v2, e2⟩ := step_rd hR hk2 h2
  subst e2
  unfold Step at h1 h2
  rw [evalG_put ha.a] at h2
  refine ⟨⟨put tm o2.d v2, hp, nx⟩, ?_, ?_⟩
  · refine sat_mono _ (fun v hp' nx' e => ?_) h2
    have e1 := congrArg St.hp e
    have e2 := congrArg St.nx e
    have e3 : put (put tm o1.d v1) o2.d v2 = put (put tm o1.d v1) o2.d v := congrArg St.tm e
    dsimp only at e1 e2
    subst e1; subst e2
    dsimp only
    rw [put_inj (tm' := tm) e3]
  · unfold Step
    rw [evalG_put ha.b]
    refine sat_mono _ (fun v hp' nx' e => ?_) h1
    have e1 := congrArg St.hp e
    have e2 := congrArg St.nx e
    have e3 : put tm o1.d v1 = put tm o1.d v := congrArg St.tm e
    dsimp only at e1 e2
    subst e1; subst e2
    dsimp only
    rw [← put_comm ha.c, e3, put_comm ha.c]
/-! ### Contracts that read memory and make one region at most -/
noncomputable def mkRun (x : Option ((P2 → V) × Option (List V))) (hp : Tr Reg) (nx : P2) : Option Rs := match x with
  | none => none
  | some (v, none) => some (v nx, hp, nx)
  | some (v, some cs) => (match hp.get nx with
    | none => some (v nx, hp.set nx (some ⟨cs, .own⟩), nx.succ)
    | some _ => none)
/-- The regions that arguments lead into are there. -/
def KeysIn (args : List V) (hp : Tr Reg) : Prop := ∀ v ∈ args, ∀ j, (∃ p, v = .ptr j p) ∨ (∃ p n c z, v = .sl j p n c z) → (hp.get j).isSome = true
def MkOk (F : Fc) : Prop := ∃ G : List V → Tr Reg → Option ((P2 → V) × Option (List V)), (∀ args hp nx, F args hp nx = mkRun (G args hp) hp nx) ∧
  ∀ args hp j r, hp.get j = none → KeysIn args hp → G args (hp.set j (some r)) = G args hp
def ΓMk (Γ : Tr Ent) : Prop := ∀ f F, Γ.get f = some (.f F 4) → MkOk F

/-- What an operation that computes, reads, makes one region comes to. -/
def Rm (Γ : Tr Ent) (o : O) (tm : Tr V) (nx : P2) : Prop := ∃ out : Tr Reg → V → Option (List V) → Prop,
  (∀ (hp : Tr Reg) (R : V → Tr Reg → P2 → Prop), (evalG Γ o ⟨tm, hp, nx⟩).sat hp nx o.adv R ↔ ∃ v c, out hp v c ∧ (c.isSome = true → hp.get (nx.plus o.off) = none) ∧ R v (upd hp (nx.plus o.off) c) nx) ∧
  ∀ hp j r, hp.get j = none → KeysOk tm hp o → ∀ v c, out (hp.set j (some r)) v c ↔ out hp v c

theorem rm_calm (hL : ΓLoc Γ) {o : O} {tm : Tr V} {nx : P2} (hk : kindI Γ o.i ≤ 1) : Rm Γ o tm nx := by
  refine ⟨fun hp v c => Out (evalG Γ o ⟨tm, hp, nx⟩) v ∧ c = none, fun hp R => ?_, fun hp j r hj hok v c => ?_⟩
  · rw [calm_iff _ (calm_evalG hk)]
    exact ⟨fun ⟨v, h1, h2⟩ => ⟨v, none, ⟨h1, rfl⟩, fun e => by simp at e, h2⟩, fun ⟨v, c, ⟨h1, e⟩, _, h2⟩ => by subst e; exact ⟨v, h1, h2⟩⟩
  · dsimp only
    rw [evalG_fresh hL hk hj hok (nx := nx)]

theorem rm_mk {o : O} {tm : Tr V} {nx : P2} (hk : kindI Γ o.i = 2) (ha : o.adv = false) : Rm Γ o tm nx := by
  obtain ⟨out, h⟩ := mk_charG (Γ := Γ) (tm := tm) (nx := nx) hk ha
  exact ⟨fun _ => out, h, fun _ _ _ _ _ _ _ => Iff.rfl⟩

theorem rm_call (hM : ΓMk Γ) {o : O} {tm : Tr V} {nx : P2} (hk : kindI Γ o.i = 4) (ha : o.adv = false) : Rm Γ o tm nx := by
  have h2 : ∃ out : Tr Reg → V → Option (List V) → Prop,
      (∀ (hp : Tr Reg) (R : V → Tr Reg → P2 → Prop), (evalI Γ o ⟨tm, hp, nx⟩).sat hp nx o.adv R ↔ ∃ v c, out hp v c ∧ (c.isSome = true → hp.get (nx.plus o.off) = none) ∧ R v (upd hp (nx.plus o.off) c) nx) ∧
      ∀ hp j r, hp.get j = none → KeysOk tm hp o → ∀ v c, out (hp.set j (some r)) v c ↔ out hp v c := by
    unfold evalI KeysOk
    generalize o.i = i at hk
    cases i <;> simp only [kindI] at hk <;> first
      | (exfalso; omega)
      | skip
    case call f args =>
      split at hk
      · rename_i F kd hg
        split at hk <;> first
          | (exfalso; omega)
          | skip
        obtain ⟨G, hG, hloc⟩ := hM f F hg
        refine ⟨fun hp v c => ∃ vf, G (args.map (ev tm)) hp = some (vf, c) ∧ v = vf (nx.plus o.off), fun hp R => ?_, fun hp j r hj hok v c => ?_⟩
        · simp only [e_call, callE, hg]
          show (∃ q, F (args.map (ev tm)) hp (nx.plus o.off) = some q ∧ R q.1 q.2.1 (match o.adv with | true => q.2.2 | false => nx)) ↔ _
          rw [ha, hG]
          unfold mkRun
          constructor
          · rintro ⟨q, e, h⟩
            split at e
            · cases e
            · rename_i vf hg'; cases e; exact ⟨_, none, ⟨vf, hg', rfl⟩, fun e => by simp at e, h⟩
            · rename_i vf cs hg'
              split at e
              · rename_i h0; cases e; exact ⟨_, some cs, ⟨vf, hg', rfl⟩, fun _ => h0, h⟩
              · cases e
          · rintro ⟨v, c, ⟨vf, hg', rfl⟩, h0, h⟩
            rw [hg']
            cases c with
            | none => exact ⟨_, rfl, h⟩
            | some cs => simp only [h0 rfl]; exact ⟨_, rfl, h⟩
        · have : KeysIn (args.map (ev tm)) hp := by
            intro v hv j' h'
            obtain ⟨x, hx, rfl⟩ := List.mem_map.1 hv
            exact hok x hx j' h'
          simp only [hloc _ _ _ _ hj this]
      · split at hk <;> omega
      · omega
  obtain ⟨out, h3, h4⟩ := h2
  unfold Rm evalG
  cases hg : o.g with
  | none => exact ⟨out, h3, h4⟩
  | some pw =>
    obtain ⟨p, want⟩ := pw
    have no : ∃ out : Tr Reg → V → Option (List V) → Prop,
      (∀ (hp : Tr Reg) (R : V → Tr Reg → P2 → Prop), (E.fail).sat hp nx o.adv R ↔ ∃ v c, out hp v c ∧ (c.isSome = true → hp.get (nx.plus o.off) = none) ∧ R v (upd hp (nx.plus o.off) c) nx) ∧
      ∀ hp j r, hp.get j = none → KeysOk tm hp o → ∀ v c, out (hp.set j (some r)) v c ↔ out hp v c :=
      ⟨fun _ _ _ => False, fun hp R => ⟨fun h => h.elim, fun ⟨_, _, h, _⟩ => h.elim⟩, fun _ _ _ _ _ _ _ => Iff.rfl⟩
    cases hb : tm.get p with
    | none => simp only [hb]; exact no
    | some v =>
      have sk : ∃ out : Tr Reg → V → Option (List V) → Prop,
        (∀ (hp : Tr Reg) (R : V → Tr Reg → P2 → Prop), (E.val (.tup [])).sat hp nx o.adv R ↔ ∃ v c, out hp v c ∧ (c.isSome = true → hp.get (nx.plus o.off) = none) ∧ R v (upd hp (nx.plus o.off) c) nx) ∧
        ∀ hp j r, hp.get j = none → KeysOk tm hp o → ∀ v c, out (hp.set j (some r)) v c ↔ out hp v c :=
        ⟨fun _ v c => v = .tup [] ∧ c = none, fun hp R => ⟨fun h => ⟨.tup [], none, ⟨rfl, rfl⟩, fun e => by simp at e, h⟩, fun ⟨v, c, ⟨e1, e2⟩, _, h⟩ => by subst e1; subst e2; exact h⟩, fun _ _ _ _ _ _ _ => Iff.rfl⟩
      cases v <;> simp only [hb] <;> first | exact no | skip
      case tup vs => cases vs <;> first | exact sk | exact no
      rename_i b
      cases boolEq b want
      · refine ⟨fun _ v c => v = .tup [] ∧ c = none, fun hp R => ⟨fun h => ⟨.tup [], none, ⟨rfl, rfl⟩, fun e => by simp at e, h⟩, fun ⟨v, c, ⟨e1, e2⟩, _, h⟩ => by subst e1; subst e2; exact h⟩, fun _ _ _ _ _ _ _ => Iff.rfl⟩
      · exact ⟨out, h3, h4⟩

theorem swap_rm {o1 o2 : O} {S S1 S2 : St} (ha : Apart o1 o2) (hr1 : Rm Γ o1 S.tm S.nx) (hr2 : Rm Γ o2 S.tm S.nx) (k1 : KeysOk S.tm S.hp o1) (k2 : KeysOk S.tm S.hp o2) (h1 : Step Γ o1 S S1) (h2 : Step Γ o2 S1 S2) : ∃ S1', Step Γ o2 S S1' ∧ Step Γ o1 S1' S2 := by
  obtain ⟨tm, hp, nx⟩ := S
  obtain ⟨out1, c1, l1⟩ := hr1
  obtain ⟨out2, c2, l2⟩ := hr2
  obtain ⟨v1, b1, p1, q1, e1⟩ := (c1 _ _).1 h1
  subst e1
  unfold Step at h2
  rw [evalG_put ha.a] at h2
  obtain ⟨v2, b2, p2, q2, e2⟩ := (c2 _ _).1 h2
  subst e2
  dsimp only at p1 q1 p2 q2 k1 k2
  have g2 : out2 hp v2 b2 := by
    cases b1 with
    | none => exact p2
    | some cs => exact (l2 hp _ _ (q1 rfl) k2 v2 b2).1 p2
  have f2 : b2.isSome = true → hp.get (nx.plus o2.off) = none := by
    intro h
    have := q2 h
    cases b1 with
    | none => exact this
    | some cs => exact (set_ne_none this).2
  refine ⟨⟨put tm o2.d v2, upd hp (nx.plus o2.off) b2, nx⟩, (c2 _ _).2 ⟨v2, b2, g2, f2, rfl⟩, ?_⟩
  unfold Step
  rw [evalG_put ha.b]
  refine (c1 _ _).2 ⟨v1, b1, ?_, ?_, ?_⟩
  · cases b2 with
    | none => exact p1
    | some cs => exact (l1 hp _ _ (f2 rfl) k1 v1 b1).2 p1
  · intro h
    have hq := q1 h
    cases b2 with
    | none => exact hq
    | some cs =>
      have := q2 rfl
      obtain ⟨cs1, rfl⟩ := Option.isSome_iff_exists.1 h
      have hne := (set_ne_none this).1
      show (hp.set _ _).get _ = none
      rw [get_set_ne (Ne.symm hne)]
      exact hq
  · dsimp only
    rw [put_comm ha.c]
    cases b1 with
    | none => rfl
    | some cs1 => cases b2 with
      | none => rfl
      | some cs2 =>
        have hne := (set_ne_none (q2 rfl)).1
        show (⟨_, (hp.set _ _).set _ _, _⟩ : St) = ⟨_, (hp.set _ _).set _ _, _⟩
        rw [set_swap hne]
/-! ### Calls that write nothing that was there -/
def NwTc (t : Tc) : Prop := ∀ args hp nx (Q : L → Prop), wpT (t args hp nx) Q → ∃ v hp' nx', Q (.val v hp' nx') ∧ ∀ i r, hp.get i = some r → hp'.get i = some r
def ΓNw (Γ : Tr Ent) : Prop := ∀ f t, Γ.get f = some (.t t 6) → NwTc t
/-- No contract reads the memory by itself. -/
def NoReads (Γ : Tr Ent) : Prop := ∀ f F, Γ.get f ≠ some (.f F 1)

theorem step_nw (hN : ΓNw Γ) {o : O} {S S1 : St} (hk : kindI Γ o.i = 6) (h : Step Γ o S S1) : ∀ i r, S.hp.get i = some r → S1.hp.get i = some r := by
  have key : ∀ R : V → Tr Reg → P2 → Prop, (evalI Γ o S).sat S.hp S.nx o.adv R → ∃ v hp' nx', R v hp' nx' ∧ ∀ i r, S.hp.get i = some r → hp'.get i = some r := by
    intro R h
    unfold evalI at h
    generalize o.i = i at hk h
    cases i <;> simp only [kindI] at hk <;> first
      | (exfalso; omega)
      | skip
    case call f args =>
      dsimp only [e_call, callE] at h
      split at hk
      · split at hk <;> omega
      · rename_i t kd hg
        split at hk <;> first
          | (exfalso; omega)
          | skip
        rw [hg] at h
        obtain ⟨v, hp', nx', h, h2⟩ := hN f _ hg _ _ _ _ h
        exact ⟨v, hp', _, h, h2⟩
      · omega
  unfold Step evalG at h
  split at h
  · obtain ⟨v, hp', nx', e, hd⟩ := key _ h; subst e; exact hd
  · split at h
    · split at h
      · obtain ⟨v, hp', nx', e, hd⟩ := key _ h; subst e; exact hd
      · have h : S1 = _ := h; subst h; exact fun _ _ h => h
    · split at h
      · have h : S1 = _ := h; subst h; exact fun _ _ h => h
      · exact h.elim
    · exact h.elim

/-- A reader finds the same in a memory that has grown. -/
theorem evalI_grow (hN : NoReads Γ) {tm : Tr V} {hp hp' : Tr Reg} {nx nx' : P2} {o : O} (hk : kindI Γ o.i ≤ 1) (hg : ∀ i r, hp.get i = some r → hp'.get i = some r) (hok : KeysOk tm hp o) :
    evalI Γ o ⟨tm, hp', nx'⟩ = evalI Γ o ⟨tm, hp, nx⟩ := by
  unfold evalI
  unfold KeysOk at hok
  generalize o.i = i at hk hok
  have he : ∀ j, (hp.get j).isSome = true → hp'.get j = hp.get j := by
    intro j h
    obtain ⟨r, e⟩ := Option.isSome_iff_exists.1 h
    rw [e, hg j r e]
  have hL : ∀ j off n, (hp.get j).isSome = true → readL hp' j off n = readL hp j off n := fun j off n h => by unfold readL; rw [he j h]
  have h1 : ∀ j off, (hp.get j).isSome = true → read1 hp' j off = read1 hp j off := fun j off h => by unfold read1; rw [he j h]
  cases i <;> simp only [kindI] at hk <;> first
    | (exfalso; omega)
    | rfl
    | skip
  case load ag sz x =>
    simp only [e_load]
    split
    · rename_i j' p e
      have := hok x (by simp [opds]) j' (.inl ⟨p, e⟩)
      simp only [hL _ _ _ this, h1 _ _ this]
    · rfl
  case b2s x =>
    simp only [e_b2s]
    split <;> first
      | rfl
      | (rename_i j' off n c e
         have := hok x (by simp [opds]) j' (.inr ⟨_, _, _, _, e⟩)
         simp only [hL _ _ _ this])
  case slArr n sz x lo hi =>
    simp only [e_slArr]
    split
    · rename_i j' p e
      have := hok x (by simp [opds]) j' (.inl ⟨p, e⟩)
      simp only [he _ this]
    · rfl
  case call f args =>
    simp only [e_call, callE]
    split at hk
    · rename_i F kd hg'
      simp only [hg']
      split at hk
      · rfl
      · exact absurd hg' (hN f F)
      · omega
      · omega
    · split at hk <;> omega
    · omega

theorem evalG_grow (hN : NoReads Γ) {tm : Tr V} {hp hp' : Tr Reg} {nx nx' : P2} {o : O} (hk : kindI Γ o.i ≤ 1) (hg : ∀ i r, hp.get i = some r → hp'.get i = some r) (hok : KeysOk tm hp o) :
    evalG Γ o ⟨tm, hp', nx'⟩ = evalG Γ o ⟨tm, hp, nx⟩ := by
  unfold evalG
  rw [evalI_grow hN hk hg hok (nx := nx)]

theorem swap_read_nw (hN : NoReads Γ) (hW : ΓNw Γ) {o1 o2 : O} {S S1 S2 : St} (ha : Apart o1 o2) (hk1 : kindI Γ o1.i ≤ 1) (hk2 : kindI Γ o2.i = 6) (k1 : KeysOk S.tm S.hp o1) (h1 : Step Γ o1 S S1) (h2 : Step Γ o2 S1 S2) : ∃ S1', Step Γ o2 S S1' ∧ Step Γ o1 S1' S2 := by
  obtain ⟨tm, hp, nx⟩ := S
  obtain ⟨v1, e1, rfl⟩ := (step_calm hk1).1 h1
  have hg := step_nw hW hk2 h2
  unfold Step at h2
  rw [evalG_put ha.a] at h2
  obtain ⟨v2, hp2, nx2, rfl, g2⟩ := sat_det _ h2
  refine ⟨⟨put tm o2.d v2, hp2, nx2⟩, g2 (fun v hp nx => _ = (⟨put tm o2.d v, hp, nx⟩ : St)) rfl, (step_calm hk1).2 ⟨v1, ?_, ?_⟩⟩
  · rw [evalG_put ha.b, evalG_grow hN hk1 hg k1 (nx := nx)]; exact e1
  · simp only [put_comm ha.c]

theorem swap_nw_read (hN : NoReads Γ) (hW : ΓNw Γ) {o1 o2 : O} {S S1 S2 : St} (ha : Apart o1 o2) (hk1 : kindI Γ o1.i = 6) (hk2 : kindI Γ o2.i ≤ 1) (k2 : KeysOk S.tm S.hp o2) (h1 : Step Γ o1 S S1) (h2 : Step Γ o2 S1 S2) : ∃ S1', Step Γ o2 S S1' ∧ Step Γ o1 S1' S2 := by
  have hg := step_nw hW hk1 h1
  obtain ⟨tm, hp, nx⟩ := S
  unfold Step at h1
  obtain ⟨v1, hp1, nx1, rfl, g1⟩ := sat_det _ h1
  obtain ⟨v2, e2, rfl⟩ := (step_calm hk2).1 h2
  rw [evalG_put ha.a, evalG_grow hN hk2 hg k2 (nx := nx)] at e2
  refine ⟨⟨put tm o2.d v2, hp, nx⟩, (step_calm hk2).2 ⟨v2, e2, rfl⟩, ?_⟩
  unfold Step
  rw [evalG_put ha.b]
  exact g1 (fun v hp nx => _ = (⟨put (put tm o2.d v2) o1.d v, hp, nx⟩ : St)) (by simp only [put_comm ha.c])

/-- What is asked of a row of contracts, beside that they stand. -/
structure ΓFine (Γ : Tr Ent) : Prop where
  nr : NoReads Γ
  mkr : ΓMk Γ
  rd : ΓRd Γ
  nw : ΓNw Γ
  ext : ΓExt Γ
theorem NoReads.loc (h : NoReads Γ) : ΓLoc Γ := fun f F hf => absurd hf (h f F)
end Go.AE
