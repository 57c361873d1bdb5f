/- An abstract evaluator of translated Go code, seventeenth part: two operations side by side; the region in any order. -/
import Derived.Test.YtmgbeipdeeegoaaGreatDoorAe16
namespace Go.AE
open Go.RowKit

variable {P : Program} {X : FuncId × FuncId} {Γ : Tr Ent} {B N : Nat} {w0 : World} {m0 m : Mp}

theorem toNat_plus (p : P2) : ∀ k, (p.plus k).toNat = p.toNat + k
  | 0 => rfl
  | k + 1 => by show (p.plus k).succ.toNat = _; rw [toNat_succ, toNat_plus p k]; omega

theorem wpT_det : ∀ (t : T) {Q : L → Prop}, wpT t Q → ∃ l, Q l ∧ ∀ Q' : L → Prop, Q' l → wpT t Q'
  | .leaf l, _, h => ⟨l, h, fun _ h => h⟩
  | .br b t f, _, h => by
    cases b
    · obtain ⟨l, h1, h2⟩ := wpT_det f (h.2 rfl); exact ⟨l, h1, fun Q' hq => ⟨fun e => by simp at e, fun _ => h2 Q' hq⟩⟩
    · obtain ⟨l, h1, h2⟩ := wpT_det t (h.1 rfl); exact ⟨l, h1, fun Q' hq => ⟨fun _ => h2 Q' hq, fun e => by simp at e⟩⟩
  | .need _ t, _, h => by obtain ⟨l, h1, h2⟩ := wpT_det t h.2; exact ⟨l, h1, fun Q' hq => ⟨h.1, h2 Q' hq⟩⟩
  | .optV _ k, _, ⟨v, e, h⟩ => by obtain ⟨l, h1, h2⟩ := wpT_det (k v) h; exact ⟨l, h1, fun Q' hq => ⟨v, e, h2 Q' hq⟩⟩
  | .optC _ k, _, ⟨v, e, h⟩ => by obtain ⟨l, h1, h2⟩ := wpT_det (k v) h; exact ⟨l, h1, fun Q' hq => ⟨v, e, h2 Q' hq⟩⟩
  | .optR _ k, _, ⟨v, e, h⟩ => by obtain ⟨l, h1, h2⟩ := wpT_det (k v) h; exact ⟨l, h1, fun Q' hq => ⟨v, e, h2 Q' hq⟩⟩
  | .bind t k, _, h => by
    obtain ⟨l, h1, h2⟩ := wpT_det t h
    obtain ⟨l', h3, h4⟩ := wpT_det (k l) h1
    exact ⟨l', h3, fun Q' hq => h2 (fun l => wpT (k l) Q') (h4 Q' hq)⟩
  | .loop B S k, Q, ⟨n, h⟩ => by
    have key : ∀ n S, loopN (fun S Q => wpT (B S) Q) Q (fun ex S => wpT (k ex S) Q) n S → ∃ l, Q l ∧ ∀ Q' : L → Prop, Q' l → loopN (fun S Q => wpT (B S) Q) Q' (fun ex S => wpT (k ex S) Q') n S := by
      intro n
      induction n with
      | zero => intro S h; exact h.elim
      | succ n ih =>
        intro S h
        obtain ⟨l, h1, h2⟩ := wpT_det (B S) h
        cases l with
        | val => exact h1.elim
        | ret ex S' => cases ex with
          | norm => obtain ⟨l', h3, h4⟩ := ih S' h1; exact ⟨l', h3, fun Q' hq => h2 _ (h4 Q' hq)⟩
          | exit i => obtain ⟨l', h3, h4⟩ := wpT_det (k (.exit i) S') h1; exact ⟨l', h3, fun Q' hq => h2 _ (h4 Q' hq)⟩
          | ret => obtain ⟨l', h3, h4⟩ := wpT_det (k .ret S') h1; exact ⟨l', h3, fun Q' hq => h2 _ (h4 Q' hq)⟩
    obtain ⟨l, h1, h2⟩ := key n S h
    exact ⟨l, h1, fun Q' hq => ⟨n, h2 Q' hq⟩⟩
  | .tick v k, _, h => wpT_det (k v) h
  | .step S k, _, h => wpT_det (k S) h
  | .fail, _, h => h.elim

theorem sat_det {hp : Tr Reg} {nx : P2} {adv : Bool} {R : V → Tr Reg → P2 → Prop} : ∀ (e : E), e.sat hp nx adv R → ∃ v hp' nx', R v hp' nx' ∧ ∀ R' : V → Tr Reg → P2 → Prop, R' v hp' nx' → e.sat hp nx adv R'
  | .val _, h => ⟨_, _, _, h, fun _ h => h⟩
  | .mem _ _ _, h => ⟨_, _, _, h, fun _ h => h⟩
  | .need _ e, h => by obtain ⟨v, a, b, h1, h2⟩ := sat_det e h.2; exact ⟨v, a, b, h1, fun R' hr => ⟨h.1, h2 R' hr⟩⟩
  | .br b e f, h => by
    cases b
    · obtain ⟨v, a, b, h1, h2⟩ := sat_det f (h.2 rfl); exact ⟨v, a, b, h1, fun R' hr => ⟨fun e => by simp at e, fun _ => h2 R' hr⟩⟩
    · obtain ⟨v, a, b, h1, h2⟩ := sat_det e (h.1 rfl); exact ⟨v, a, b, h1, fun R' hr => ⟨fun _ => h2 R' hr, fun e => by simp at e⟩⟩
  | .ldV _ k, ⟨x, e, h⟩ => by obtain ⟨v, a, b, h1, h2⟩ := sat_det (k x) h; exact ⟨v, a, b, h1, fun R' hr => ⟨x, e, h2 R' hr⟩⟩
  | .ldC _ k, ⟨x, e, h⟩ => by obtain ⟨v, a, b, h1, h2⟩ := sat_det (k x) h; exact ⟨v, a, b, h1, fun R' hr => ⟨x, e, h2 R' hr⟩⟩
  | .call _, ⟨x, e, h⟩ => ⟨_, _, _, h, fun _ h => ⟨x, e, h⟩⟩
  | .tc t, h => by
    obtain ⟨l, h1, h2⟩ := wpT_det t h
    cases l with
    | ret => exact h1.elim
    | val v a b => exact ⟨v, a, _, h1, fun R' hr => h2 _ hr⟩
  | .fail, h => h.elim

theorem opT_det {o : O} {S : St} {k : St → T} {Q : L → Prop} (h : wpT (opT Γ o S k) Q) : ∃ S1, wpT (k S1) Q ∧ ∀ (k' : St → T) (Q' : L → Prop), wpT (k' S1) Q' → wpT (opT Γ o S k') Q' := by
  obtain ⟨v, hp, nx, h1, h2⟩ := sat_det _ (opT_iff.1 h)
  exact ⟨_, h1, fun k' Q' hk => opT_iff.2 (h2 _ hk)⟩

/-- Makers: what they make hangs on their operands alone. -/
noncomputable def upd (hp : Tr Reg) (j : P2) (c : Option (List V)) : Tr Reg := match c with | some cs => hp.set j (some ⟨cs, .own⟩) | none => hp

theorem fresh_iff {S : St} {off : Nat} {adv : Bool} {k : P2 → P2 → E} {hp : Tr Reg} {nx : P2} {R : V → Tr Reg → P2 → Prop} : (fresh S off false k).sat hp nx adv R ↔ S.hp.get (S.nx.plus off) = none ∧ (k (S.nx.plus off) S.nx).sat hp nx adv R := by
  unfold fresh
  split
  · rename_i h; exact ⟨fun k => ⟨h, k⟩, fun k => k.2⟩
  · rename_i h; exact ⟨fun k => k.elim, fun k => by rw [h] at k; simp at k⟩

theorem mk_char {tm : Tr V} {nx : P2} {o : O} (hk : kindI Γ o.i = 2) (ha : o.adv = false) : ∃ out : V → List V → Prop, ∀ (hp : Tr Reg) (R : V → Tr Reg → P2 → Prop),
    (evalI Γ o ⟨tm, hp, nx⟩).sat hp nx o.adv R ↔ ∃ v cs, out v cs ∧ hp.get (nx.plus o.off) = none ∧ R v (hp.set (nx.plus o.off) (some ⟨cs, .own⟩)) nx := by
  unfold evalI
  generalize o.i = i at hk
  cases i <;> simp only [kindI] at hk <;> first
    | (exfalso; omega)
    | skip
  case s2b x =>
    simp only [e_s2b]
    split
    · rename_i s _
      refine ⟨fun v cs => v = .sl (nx.plus o.off) 0 s.length none 1 ∧ some cs = some (ofBytes s), fun hp R => ?_⟩
      rw [ha, fresh_iff]
      constructor
      · rintro ⟨h1, cs, h2, h3⟩; exact ⟨.sl (nx.plus o.off) 0 s.length none 1, cs, ⟨rfl, h2.symm⟩, h1, h3⟩
      · intro ⟨v, cs, h2, h1, h3⟩; obtain ⟨rfl, h2⟩ := h2; exact ⟨h1, cs, h2.symm, h3⟩
    · exact ⟨fun _ _ => False, fun hp R => ⟨fun h => h.elim, fun ⟨_, _, h, _⟩ => h.elim⟩⟩
  case alloc z =>
    refine ⟨fun v cs => v = .ptr (nx.plus o.off) 0 ∧ cs = z, fun hp R => ?_⟩
    simp only [e_alloc]
    rw [ha, fresh_iff]
    constructor
    · rintro ⟨h1, h3⟩; exact ⟨.ptr (nx.plus o.off) 0, z, ⟨rfl, rfl⟩, h1, h3⟩
    · intro ⟨v, cs, h2, h1, h3⟩; obtain ⟨rfl, rfl⟩ := h2; exact ⟨h1, h3⟩
  case box x =>
    refine ⟨fun v cs => allOk (ev tm x).cells = true ∧ v = .ptr (nx.plus o.off) 0 ∧ cs = (ev tm x).cells, fun hp R => ?_⟩
    simp only [e_box, E.sat]
    rw [ha, fresh_iff]
    constructor
    · rintro ⟨h0, h1, h3⟩; exact ⟨.ptr (nx.plus o.off) 0, (ev tm x).cells, ⟨h0, rfl, rfl⟩, h1, h3⟩
    · intro ⟨v, cs, h2, h1, h3⟩; obtain ⟨h0, rfl, rfl⟩ := h2; exact ⟨h0, h1, h3⟩
  case bsl sz n z ps =>
    refine ⟨fun v cs => v = .sl (nx.plus o.off) 0 n (some n) sz ∧ fillV tm z ps = some cs, fun hp R => ?_⟩
    simp only [e_bsl]
    rw [ha, fresh_iff]
    constructor
    · rintro ⟨h1, cs, h2, h3⟩; exact ⟨.sl (nx.plus o.off) 0 n (some n) sz, cs, ⟨rfl, h2⟩, h1, h3⟩
    · intro ⟨v, cs, h2, h1, h3⟩; obtain ⟨rfl, h2⟩ := h2; exact ⟨h1, cs, h2, h3⟩
  case mks sz bytes z l c =>
    simp only [e_mks]
    split
    · rename_i k1 n1 k2 n2 _ _
      refine ⟨fun v cs => decide (0 ≤ n1 ∧ n1 ≤ n2 ∧ bytes * n2 ≤ 281474976710656 ∧ n2 ≤ 281474976710656) = true ∧ v = .sl (nx.plus o.off) 0 n1.toNat (some n2.toNat) sz ∧ some cs = some (List.replicate n2.toNat z).flatten, fun hp R => ?_⟩
      simp only [E.sat]
      rw [ha, fresh_iff]
      constructor
      · rintro ⟨h0, h1, cs, h2, h3⟩; exact ⟨.sl (nx.plus o.off) 0 n1.toNat (some n2.toNat) sz, cs, ⟨h0, rfl, h2.symm⟩, h1, h3⟩
      · intro ⟨v, cs, h2, h1, h3⟩; obtain ⟨h0, rfl, h2⟩ := h2; exact ⟨h0, h1, cs, h2.symm, h3⟩
    · exact ⟨fun _ _ => False, fun hp R => ⟨fun h => h.elim, fun ⟨_, _, h, _⟩ => h.elim⟩⟩
  all_goals (split at hk <;> first | omega | (split at hk <;> omega))
end Go.AE
