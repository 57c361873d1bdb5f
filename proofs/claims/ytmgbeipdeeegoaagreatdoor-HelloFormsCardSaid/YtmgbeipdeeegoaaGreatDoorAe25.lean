/- An abstract evaluator of translated Go code, twenty-fifth part: a run by a guide, some numbers unknown. -/
import Derived.Test.YtmgbeipdeeegoaaGreatDoorAe24
namespace Go.AE
open Go.RowKit

/-- A hint: a branch is taken to be true, to be false; a value is left as it is; a value is taken to be there. -/
inductive Hint where
  | t
  | f
  | z
  | v (v : V)

/-- A guide: so many plain steps, then a hint. -/
inductive Gd where
  | e
  | n (k : Nat) (h : Hint) (g : Gd)

/-- What a run by a guide gives: the leaf, the rest of the guide, what was taken to be true. -/
abbrev Rp := L × Gd × List Prop

def AllP : List Prop → Prop
  | [] => True
  | p :: r => p ∧ AllP r

noncomputable def headK {β : Type} (v : V) (k : V → β) : β := match v with
  | .bool b => k (.bool b) | .int x n => k (.int x n) | .str s => k (.str s) | .ptr j o => keyK j fun j => natK o fun o => k (.ptr j o) | .sl j o n c z => keyK j fun j => natK o fun o => natK n fun n => optNK c fun c => k (.sl j o n c z)
  | .un => k .un | .nilp => k .nilp | .nils => k .nils | .sle => k .sle | .nilf => k .nilf | .nili => k .nili
  | .fn f c => k (.fn f c) | .iface t v => k (.iface t v) | .agg c => k (.agg c) | .tup c => k (.tup c)
theorem headK_eq {β : Type} (v : V) (k : V → β) : headK v k = k v := by cases v <;> simp [headK, keyK_eq, natK_eq, optNK_eq]
noncomputable def listH {β : Type} (s : List V) : (List V → β) → β :=
  List.rec (motive := fun _ => (List V → β) → β) (fun k => k []) (fun b _ ih k => headK b fun b => ih fun r => k (b :: r)) s
theorem listH_eq {β : Type} (s : List V) (k : List V → β) : listH s k = k s := by
  induction s generalizing k with
  | nil => rfl
  | cons b r ih => simp only [listH] at ih ⊢; rw [headK_eq, ih]

/-- The next step of a guide: plain, or by a hint. -/
noncomputable def Gd.next {β : Type} (g : Gd) (p : Gd → β) (h : Hint → Gd → β) : β := match g with
  | .e => p .e
  | .n k d g => Nat.rec (motive := fun _ => β) (h d g) (fun m _ => p (.n m d g)) k

noncomputable def pickP {α : Type} (b : Bool) (g : Gd) (acc : List Prop) (t f : Gd → List Prop → Option α) : Option α :=
  g.next (fun g => match b with | true => t g acc | false => f g acc)
    (fun h g => match h with | .t => t g ((b = true) :: acc) | .f => f g ((b = false) :: acc) | _ => none)

noncomputable def vP {α : Type} (v : V) (g : Gd) (k : V → Gd → Option α) : Option α := g.next (fun g => vK v fun v => k v g) (fun _ g => headK v fun v => k v g)
noncomputable def cP {α : Type} (v : List V) (g : Gd) (k : List V → Gd → Option α) : Option α := g.next (fun g => listK v fun v => k v g) (fun _ g => listH v fun v => k v g)

noncomputable def optF {α : Type} (o : Option V) (k : V → Option α) : Option α := match o with | some v => vK v k | none => none
noncomputable def optH {α : Type} (o : Option V) (k : V → Option α) : Option α := match o with | some v => headK v k | none => none
noncomputable def optD {α : Type} (h : Hint) (o : Option V) (g : Gd) (acc : List Prop) (k : V → Gd → List Prop → Option α) : Option α := match h with
  | .v v => k v g ((o = some v) :: acc)
  | _ => optH o fun v => k v g acc
noncomputable def optP {α : Type} (o : Option V) (g : Gd) (acc : List Prop) (k : V → Gd → List Prop → Option α) : Option α :=
  g.next (fun g => optF o fun v => k v g acc) (fun h g => optD h o g acc k)

noncomputable def loopP (B : St → Gd → List Prop → Option Rp) (k : Ex → St → Gd → List Prop → Option Rp) (n : Nat) : St → Gd → List Prop → Option Rp :=
  Nat.rec (motive := fun _ => St → Gd → List Prop → Option Rp) (fun _ _ _ => none) (fun _ ih S g acc => match B S g acc with
    | some (.ret .norm S', g, acc) => stK S' fun S' => ih S' g acc
    | some (.ret (.exit id) S', g, acc) => k (.exit id) S' g acc
    | some (.ret .ret S', g, acc) => k .ret S' g acc
    | some (.val .., _, _) => none
    | none => none) n

noncomputable def T.runP (fuel : Nat) (t : T) : Gd → List Prop → Option Rp :=
  T.rec (motive := fun _ => Gd → List Prop → Option Rp)
    (fun l g acc => some (l, g, acc))
    (fun b _ _ ht hf g acc => pickP b g acc ht hf)
    (fun b _ ht g acc => pickP b g acc ht (fun _ _ => none))
    (fun o _ hk g acc => optP o g acc hk)
    (fun o _ hk g acc => match o with | some v => cP v g fun v g => hk v g acc | none => none)
    (fun o _ hk g acc => match o with | some (v, hp, nx) => vP v g fun v g => Tr.strict hp fun hp => keyK nx fun nx => hk (v, hp, nx) g acc | none => none)
    (fun _ _ ht hk g acc => match ht g acc with | some (l, g, acc) => hk l g acc | none => none)
    (fun _ S _ hB hk g acc => loopP hB hk fuel S g acc)
    (fun v _ hk g acc => vP v g fun v g => hk v g acc)
    (fun S _ hk g acc => stK S fun S => hk S g acc)
    (fun _ _ => none) t

section
variable {α : Type}
theorem next_eq (g : Gd) (p : Gd → Option α) (h : Hint → Gd → Option α) : (∃ g', g.next p h = p g') ∨ ∃ d g', g.next p h = h d g' := by
  cases g with
  | e => exact .inl ⟨_, rfl⟩
  | n k d g => cases k with
    | zero => exact .inr ⟨_, _, rfl⟩
    | succ k => exact .inl ⟨_, rfl⟩
theorem vP_eq (v : V) (g : Gd) (k : V → Gd → Option α) : ∃ g', vP v g k = k v g' := by
  unfold vP
  rcases next_eq g (fun g => vK v fun v => k v g) (fun _ g => headK v fun v => k v g) with ⟨g', e⟩ | ⟨_, g', e⟩
  · exact ⟨g', by rw [e, vK_eq]⟩
  · exact ⟨g', by rw [e, headK_eq]⟩
theorem cP_eq (v : List V) (g : Gd) (k : List V → Gd → Option α) : ∃ g', cP v g k = k v g' := by
  unfold cP
  rcases next_eq g (fun g => listK v fun v => k v g) (fun _ g => listH v fun v => k v g) with ⟨g', e⟩ | ⟨_, g', e⟩
  · exact ⟨g', by rw [e, listK_eq]⟩
  · exact ⟨g', by rw [e, listH_eq]⟩
theorem pickP_eq (b : Bool) (g : Gd) (acc : List Prop) (t f : Gd → List Prop → Option α) {r : α} (h : pickP b g acc t f = some r) :
    ∃ g' acc', (b = true ∧ t g' acc' = some r ∨ b = false ∧ f g' acc' = some r ∨ t g' acc' = some r ∧ acc' = (b = true) :: acc ∨ f g' acc' = some r ∧ acc' = (b = false) :: acc) ∧ (acc' = acc ∨ acc' = (b = true) :: acc ∨ acc' = (b = false) :: acc) := by
  unfold pickP at h
  rcases next_eq g (fun g => match b with | true => t g acc | false => f g acc) (fun h g => match h with | .t => t g ((b = true) :: acc) | .f => f g ((b = false) :: acc) | _ => none) with ⟨g', e⟩ | ⟨d, g', e⟩
  · rw [e] at h
    cases b
    · exact ⟨g', acc, .inr (.inl ⟨rfl, h⟩), .inl rfl⟩
    · exact ⟨g', acc, .inl ⟨rfl, h⟩, .inl rfl⟩
  · rw [e] at h
    cases d with
    | t => exact ⟨g', _, .inr (.inr (.inl ⟨h, rfl⟩)), .inr (.inl rfl)⟩
    | f => exact ⟨g', _, .inr (.inr (.inr ⟨h, rfl⟩)), .inr (.inr rfl)⟩
    | z => cases h
    | v => cases h
theorem optP_eq (o : Option V) (g : Gd) (acc : List Prop) (k : V → Gd → List Prop → Option α) {r : α} (h : optP o g acc k = some r) :
    ∃ v g' acc', k v g' acc' = some r ∧ (acc' = acc ∧ o = some v ∨ acc' = (o = some v) :: acc) := by
  unfold optP at h
  rcases next_eq g (fun g => optF o fun v => k v g acc) (fun h g => optD h o g acc k) with ⟨g', e⟩ | ⟨d, g', e⟩
  · rw [e] at h
    cases o with
    | none => cases h
    | some v => simp only [optF, vK_eq] at h; exact ⟨v, g', acc, h, .inl ⟨rfl, rfl⟩⟩
  · rw [e] at h
    have plain : (optH o fun v => k v g' acc) = some r → ∃ v g' acc', k v g' acc' = some r ∧ (acc' = acc ∧ o = some v ∨ acc' = (o = some v) :: acc) := by
      intro h
      cases o with
      | none => cases h
      | some v => simp only [optH, headK_eq] at h; exact ⟨v, g', acc, h, .inl ⟨rfl, rfl⟩⟩
    cases d with
    | t => exact plain h
    | f => exact plain h
    | z => exact plain h
    | v v => exact ⟨v, g', _, h, .inr rfl⟩
end

theorem mono3 {acc acc1 : List Prop} {p q : Prop} (h : acc1 = acc ∨ acc1 = p :: acc ∨ acc1 = q :: acc) : AllP acc1 → AllP acc := by
  rcases h with rfl | rfl | rfl
  · exact id
  · exact fun x => x.2
  · exact fun x => x.2

/-- What a run by a guide says of a tree. -/
def SoundP (t : T) (l : L) (acc acc' : List Prop) : Prop := (AllP acc' → AllP acc) ∧ ∀ Q : L → Prop, AllP acc' → Q l → wpT t Q

theorem loopP_sound {B : St → T} {k : Ex → St → T} {fuel : Nat} {Q : L → Prop}
    (hB : ∀ S g acc l g' acc', (B S).runP fuel g acc = some (l, g', acc') → SoundP (B S) l acc acc')
    (hk : ∀ ex S g acc l g' acc', (k ex S).runP fuel g acc = some (l, g', acc') → SoundP (k ex S) l acc acc') : ∀ n S g acc l g' acc',
      loopP (fun S => (B S).runP fuel) (fun ex S => (k ex S).runP fuel) n S g acc = some (l, g', acc') →
      (AllP acc' → AllP acc) ∧ (AllP acc' → Q l → loopN (fun S Q => wpT (B S) Q) Q (fun ex S => wpT (k ex S) Q) n S)
  | 0, _, _, _, _, _, _, h => by cases h
  | n + 1, S, g, acc, l, g', acc', h => by
    have h : (match (B S).runP fuel g acc with
      | some (.ret .norm S', g, acc) => stK S' fun S' => loopP (fun S => (B S).runP fuel) (fun ex S => (k ex S).runP fuel) n S' g acc
      | some (.ret (.exit id) S', g, acc) => (k (.exit id) S').runP fuel g acc
      | some (.ret .ret S', g, acc) => (k .ret S').runP fuel g acc
      | some (.val .., _, _) => none
      | none => none) = some (l, g', acc') := h
    cases hb : (B S).runP fuel g acc with
    | none => rw [hb] at h; cases h
    | some r =>
      obtain ⟨l0, g0, acc0⟩ := r
      rw [hb] at h
      obtain ⟨a1, a2⟩ := hB _ _ _ _ _ _ hb
      cases l0 with
      | val => cases h
      | ret ex S' =>
        cases ex with
        | norm =>
          simp only [stK_eq] at h
          obtain ⟨b1, b2⟩ := loopP_sound (Q := Q) hB hk n S' g0 acc0 l g' acc' h
          exact ⟨fun x => a1 (b1 x), fun x q => a2 _ (b1 x) (b2 x q)⟩
        | exit id =>
          obtain ⟨b1, b2⟩ := hk _ _ _ _ _ _ _ h
          exact ⟨fun x => a1 (b1 x), fun x q => a2 _ (b1 x) (b2 _ x q)⟩
        | ret =>
          obtain ⟨b1, b2⟩ := hk _ _ _ _ _ _ _ h
          exact ⟨fun x => a1 (b1 x), fun x q => a2 _ (b1 x) (b2 _ x q)⟩

theorem runP_sound (fuel : Nat) : ∀ (t : T) (g : Gd) (acc : List Prop) (l : L) (g' : Gd) (acc' : List Prop), t.runP fuel g acc = some (l, g', acc') → SoundP t l acc acc'
  | .leaf _, _, _, _, _, _, h => by cases h; exact ⟨id, fun _ _ q => q⟩
  | .br b t f, g, acc, l, g', acc', h => by
    obtain ⟨g1, acc1, h1, h2⟩ := pickP_eq b g acc (t.runP fuel) (f.runP fuel) h
    have mono : AllP acc1 → AllP acc := mono3 h2
    rcases h1 with ⟨rfl, h1⟩ | ⟨rfl, h1⟩ | ⟨h1, e⟩ | ⟨h1, e⟩
    · obtain ⟨a1, a2⟩ := runP_sound fuel t _ _ _ _ _ h1
      exact ⟨fun x => mono (a1 x), fun Q x q => ⟨fun _ => a2 Q x q, fun e => by cases e⟩⟩
    · obtain ⟨a1, a2⟩ := runP_sound fuel f _ _ _ _ _ h1
      exact ⟨fun x => mono (a1 x), fun Q x q => ⟨fun e => (by cases e), fun _ => a2 Q x q⟩⟩
    · obtain ⟨a1, a2⟩ := runP_sound fuel t _ _ _ _ _ h1
      refine ⟨fun x => mono (a1 x), fun Q x q => ⟨fun _ => a2 Q x q, fun e' => ?_⟩⟩
      have := a1 x; rw [e] at this; have := this.1; rw [e'] at this; cases this
    · obtain ⟨a1, a2⟩ := runP_sound fuel f _ _ _ _ _ h1
      refine ⟨fun x => mono (a1 x), fun Q x q => ⟨fun e' => ?_, fun _ => a2 Q x q⟩⟩
      have := a1 x; rw [e] at this; have := this.1; rw [e'] at this; cases this
  | .need b t, g, acc, l, g', acc', h => by
    obtain ⟨g1, acc1, h1, h2⟩ := pickP_eq b g acc (t.runP fuel) (fun _ _ => none) h
    have mono : AllP acc1 → AllP acc := mono3 h2
    rcases h1 with ⟨rfl, h1⟩ | ⟨rfl, h1⟩ | ⟨h1, e⟩ | ⟨h1, e⟩
    · obtain ⟨a1, a2⟩ := runP_sound fuel t _ _ _ _ _ h1
      exact ⟨fun x => mono (a1 x), fun Q x q => ⟨rfl, a2 Q x q⟩⟩
    · cases h1
    · obtain ⟨a1, a2⟩ := runP_sound fuel t _ _ _ _ _ h1
      refine ⟨fun x => mono (a1 x), fun Q x q => ⟨?_, a2 Q x q⟩⟩
      have := a1 x; rw [e] at this; exact this.1
    · cases h1
  | .optV o k, g, acc, l, g', acc', h => by
    obtain ⟨v, g1, acc1, h1, h2⟩ := optP_eq o g acc (fun v g acc => (k v).runP fuel g acc) h
    obtain ⟨a1, a2⟩ := runP_sound fuel (k v) _ _ _ _ _ h1
    rcases h2 with ⟨rfl, e⟩ | rfl
    · exact ⟨a1, fun Q x q => ⟨v, e, a2 Q x q⟩⟩
    · exact ⟨fun x => (a1 x).2, fun Q x q => ⟨v, (a1 x).1, a2 Q x q⟩⟩
  | .optC o k, g, acc, l, g', acc', h => by
    cases o with
    | none => cases h
    | some v =>
      obtain ⟨g1, e⟩ := cP_eq v g fun v g => (k v).runP fuel g acc
      obtain ⟨a1, a2⟩ := runP_sound fuel (k v) _ _ _ _ _ (e.symm.trans h)
      exact ⟨a1, fun Q x q => ⟨v, rfl, a2 Q x q⟩⟩
  | .optR o k, g, acc, l, g', acc', h => by
    cases o with
    | none => cases h
    | some r =>
      obtain ⟨v, hp, nx⟩ := r
      obtain ⟨g1, e⟩ := vP_eq v g fun v g => Tr.strict hp fun hp => keyK nx fun nx => (k (v, hp, nx)).runP fuel g acc
      have e := e.trans ((Tr.strict_eq hp _).trans (keyK_eq nx _))
      obtain ⟨a1, a2⟩ := runP_sound fuel (k (v, hp, nx)) _ _ _ _ _ (e.symm.trans h)
      exact ⟨a1, fun Q x q => ⟨_, rfl, a2 Q x q⟩⟩
  | .bind t k, g, acc, l, g', acc', h => by
    have h : (match t.runP fuel g acc with | some (l, g, acc) => (k l).runP fuel g acc | none => none) = some (l, g', acc') := h
    cases ht : t.runP fuel g acc with
    | none => rw [ht] at h; cases h
    | some r =>
      obtain ⟨l0, g0, acc0⟩ := r
      rw [ht] at h
      obtain ⟨a1, a2⟩ := runP_sound fuel t _ _ _ _ _ ht
      obtain ⟨b1, b2⟩ := runP_sound fuel (k l0) _ _ _ _ _ h
      exact ⟨fun x => a1 (b1 x), fun Q x q => a2 _ (b1 x) (b2 Q x q)⟩
  | .loop B S k, g, acc, l, g', acc', h => by
    have key := fun Q => loopP_sound (Q := Q) (fun S g acc l g' acc' h => runP_sound fuel (B S) g acc l g' acc' h) (fun ex S g acc l g' acc' h => runP_sound fuel (k ex S) g acc l g' acc' h) fuel S g acc l g' acc' h
    exact ⟨(key fun _ => True).1, fun Q x q => ⟨fuel, (key Q).2 x q⟩⟩
  | .tick v k, g, acc, l, g', acc', h => by
    obtain ⟨g1, e⟩ := vP_eq v g fun v g => (k v).runP fuel g acc
    obtain ⟨a1, a2⟩ := runP_sound fuel (k v) _ _ _ _ _ (e.symm.trans h)
    exact ⟨a1, a2⟩
  | .step S k, g, acc, l, g', acc', h => by
    have e := stK_eq S fun S => (k S).runP fuel g acc
    obtain ⟨a1, a2⟩ := runP_sound fuel (k S) _ _ _ _ _ (e.symm.trans h)
    exact ⟨a1, a2⟩
  | .fail, _, _, _, _, _, h => by cases h

/-- A leaf's value. -/
def L.v : L → V
  | .val v _ _ => v
  | .ret .. => .un
/-- A run by a guide, its value and what was taken to be true told. -/
noncomputable def T.tell (fuel : Nat) (t : T) (g : Gd) : Option (V × List Prop) := match t.runP fuel g [] with
  | some (.val v _ _, _, acc) => some (v, acc)
  | _ => none
theorem tell_sound {fuel : Nat} {t : T} {g : Gd} {v : V} {acc : List Prop} (h : t.tell fuel g = some (v, acc)) (ha : AllP acc) {Q : L → Prop} (hq : ∀ hp nx, Q (.val v hp nx)) : wpT t Q := by
  unfold T.tell at h
  split at h
  · rename_i v' hp nx g' acc' hr
    cases h
    exact (runP_sound fuel t g [] _ _ _ hr).2 Q ha (hq _ _)
  · cases h
end Go.AE
