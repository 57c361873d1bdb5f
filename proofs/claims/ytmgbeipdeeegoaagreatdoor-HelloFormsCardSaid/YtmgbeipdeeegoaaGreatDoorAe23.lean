/- An abstract evaluator of translated Go code, twenty-third part: contracts by a run. -/
import Derived.Test.YtmgbeipdeeegoaaGreatDoorAe22
namespace Go.AE
open Go.RowKit

variable {P : Program} {X : FuncId × FuncId} {Γ : Tr Ent} {B N : Nat} {w0 : World} {m0 m : Mp}

theorem HRep.framed {hp : Tr Reg} {w w' : World} (h : HRep B w0 m hp w) (hb : Below w.heap.size w w') : HRep B w0 m hp w' := by
  have hB : B ≤ w.heap.size := Nat.le_trans h.base h.below.size
  refine ⟨h.below.trans (hb.mono hB), h.base, h.dom, fun j r b o n h1 h2 => ?_, h.sep⟩
  rcases h.reg j r b o n h1 h2 with hd | ⟨c, el, fr, xs, h3, h4⟩
  · exact .inl hd
  · refine .inr ⟨c, el, fr, xs, ?_, h4⟩
    rw [hb.block b (Array.getElem?_eq_some_iff.1 h3).1, h3]

def atom : V → Bool
  | .un | .bool _ | .int _ _ | .str _ | .nilp | .nils | .nilf | .nili => true
  | _ => false
/-- No address in it. -/
def flat : Nat → V → Bool
  | 0, v => atom v
  | n + 1, v => match v with
    | .agg c => c.all (flat n)
    | .tup c => c.all (flat n)
    | .fn _ c => c.all (flat n)
    | .iface _ v => flat n v
    | v => atom v

theorem atom_rel {m m' : Mp} {v : V} {x : Value} (h : atom v = true) (r : VRel m v x) : VRel m' v x := by
  cases r <;> first
    | (simp [atom] at h; done)
    | exact .un _
    | exact .bool _
    | exact .int _ _
    | exact .str _
    | exact .nilp
    | exact .nils
    | exact .nilf
    | exact .nili

theorem all_rel {m m' : Mp} {p : V → Bool} (hp : ∀ v x, p v = true → VRel m v x → VRel m' v x) : ∀ {vs : List V} {xs : List Value}, vs.all p = true → VRels m vs xs → VRels m' vs xs
  | [], _, _, r => by cases r; exact .nil
  | _ :: _, _, h, r => by
    cases r with
    | cons a r =>
      simp only [List.all_cons, Bool.and_eq_true] at h
      exact .cons (hp _ _ h.1 a) (all_rel hp h.2 r)

theorem flat_rel {m m' : Mp} : ∀ (n : Nat) (v : V) (x : Value), flat n v = true → VRel m v x → VRel m' v x
  | 0, v, x, h, r => atom_rel h r
  | n + 1, v, x, h, r => by
    cases r with
    | agg r => exact .agg (all_rel (flat_rel n) h r)
    | tup r => exact .tup (all_rel (flat_rel n) h r)
    | fn r => exact .fn (all_rel (flat_rel n) h r)
    | iface r => exact .iface (flat_rel n _ _ h r)
    | _ => first
      | exact .un _
      | exact .bool _
      | exact .int _ _
      | exact .str _
      | exact .nilp
      | exact .nils
      | exact .nilf
      | exact .nili
      | (simp [flat, atom] at h; done)

noncomputable def pureF (fuel : Nat) (t : Tc) : Fc := fun args hp nx => match args.all (flat 3) with
  | true => (match (t args .e .h).run fuel with
    | some (.val v _ _) => (match flat 4 v with | true => some (v, hp, nx) | false => none)
    | _ => none)
  | false => none

theorem HRep.none (w : World) : HRep w.heap.size w (fun _ => none) .e w :=
  ⟨.refl _ _, Nat.le_refl _, fun j => by simp [Tr.get_e], fun j r b o n h => by simp [Tr.get_e] at h, fun j j' r r' b o n b' o' n' h => by simp [Tr.get_e] at h⟩

theorem pureF_sound {f : FuncId} {t : Tc} {fuel : Nat} (h : Sound P f t) : Sound P f (Ent.f (pureF fuel t) 0).tc := by
  intro B w0 m hp w args xs nx Q hh hr hw
  obtain ⟨v, hv, hq⟩ := (hw : ∃ v, pureV (pureF fuel t args .e .h) = some v ∧ wpT (.leaf (.val v hp nx)) Q)
  have hq : Q (.val v hp nx) := hq
  unfold pureF at hv
  split at hv
  · rename_i ha
    split at hv
    · rename_i v' hp' nx' hrun
      split at hv
      · rename_i hf
        have hv : some v' = some v := hv
        cases hv
        have hr' : VRels (fun _ => none) args xs := all_rel (flat_rel 3) ha hr
        refine Calls.mono (h w.heap.size w (fun _ => none) .e w args xs .h (fun l => l = .val v hp' nx') (.none w) hr' (run_sound fuel _ _ hrun _ rfl)) ?_
        rintro e w' ⟨v1, hp1, nx1, m1, x, hl, he, _, hx, hH⟩
        cases hl
        exact ⟨_, hp, nx, m, x, hq, he, Mp.le_refl m, flat_rel 4 _ _ hf hx, hh.framed hH.below⟩
      · cases hv
    · cases hv
  · cases hv

theorem t_sound {f : FuncId} {t : Tc} {kd : Nat} (h : Sound P f t) : Sound P f (Ent.t t kd).tc := h
theorem ΓOk.e : ΓOk P .e := fun p e h => by simp [Tr.get_e] at h
theorem ΓOk.set {p : P2} {e : Ent} (h : ΓOk P Γ) (hf : FnOk P p.toNat) (hs : Sound P p.toNat e.tc) : ΓOk P (Γ.set p (some e)) := by
  intro q e' hq
  rw [Tr.get_set] at hq
  by_cases hp : q = p
  · subst hp; rw [if_pos rfl] at hq; cases hq; exact ⟨hf, hs⟩
  · rw [if_neg hp] at hq; exact h q e' hq
theorem ΓFine.e : ΓFine .e := ⟨fun f F h => by simp [Tr.get_e] at h, fun f F h => by simp [Tr.get_e] at h, fun f t h => by simp [Tr.get_e] at h, fun f t h => by simp [Tr.get_e] at h, fun p e h => by simp [Tr.get_e] at h⟩

/-- What is asked of one contract, by its kind. -/
def EntFine : Ent → Prop
  | .f F kd => match kd with
    | 0 => True
    | 4 => MkOk F ∧ ExtTc (Ent.f F 4).tc
    | _ => False
  | .t t kd => match kd with
    | 5 => RdTc t ∧ ExtTc t
    | 6 => NwTc t ∧ ExtTc t
    | _ => ExtTc t

theorem ΓFine.set {p : P2} {e : Ent} (h : ΓFine Γ) (he : EntFine e) : ΓFine (Γ.set p (some e)) := by
  have get : ∀ q x, (Γ.set p (some e)).get q = some x → x = e ∨ Γ.get q = some x := by
    intro q x hq
    rw [Tr.get_set] at hq
    split at hq
    · cases hq; exact .inl rfl
    · exact .inr hq
  refine ⟨fun f F hf => ?_, fun f F hf => ?_, fun f t hf => ?_, fun f t hf => ?_, fun q x hq => ?_⟩
  · rcases get _ _ hf with rfl | hf
    · exact he
    · exact h.nr f F hf
  · rcases get _ _ hf with rfl | hf
    · exact he.1
    · exact h.mkr f F hf
  · rcases get _ _ hf with rfl | hf
    · exact he.1
    · exact h.rd f t hf
  · rcases get _ _ hf with rfl | hf
    · exact he.1
    · exact h.nw f t hf
  · rcases get _ _ hq with rfl | hq
    · cases x with
      | f F kd =>
        unfold EntFine at he
        split at he
        · rename_i e; cases e
          split at he
          · exact pure_ext F
          · exact he.2
          · exact he.elim
        · rename_i e; cases e
      | t t kd =>
        unfold EntFine at he
        split at he
        · rename_i e; cases e
        · rename_i e; cases e
          split at he
          · exact he.2
          · exact he.2
          · exact he
    · exact h.ext q x hq

/-! ### A call that finds all that is there frozen -/
def frz (r : Reg) : Reg := ⟨r.cells, match r.kd with | .own => .ro | .ro => .ro | .dead => .dead⟩
def fix (r : Reg) : Reg := ⟨r.cells, match r.kd with | .own => .own | .ro => .dead | .dead => .dead⟩
noncomputable def freeze (t : Tr Reg) : Tr Reg := Tr.rec (motive := fun _ => Tr Reg) .e (fun _ v _ l r => .n l (match v with | none => none | some x => some (frz x)) r) t
noncomputable def fixT (t : Tr Reg) : Tr Reg := Tr.rec (motive := fun _ => Tr Reg) .e (fun _ v _ l r => .n l (match v with | none => none | some x => some (fix x)) r) t
noncomputable def restore (t : Tr Reg) : Tr Reg → Tr Reg :=
  Tr.rec (motive := fun _ => Tr Reg → Tr Reg) fixT (fun l v r ihl ihr t' => match t' with
    | .e => .n l v r
    | .n l' v' r' => .n (ihl l') (match v with | some x => some x | none => (match v' with | none => none | some x => some (fix x))) (ihr r')) t
noncomputable def fz (t : Tc) : Tc := fun args hp nx => .bind (t args (freeze hp) nx) fun l => match l with
  | .val v hp' nx' => .leaf (.val v (restore hp hp') nx')
  | .ret .. => .fail

theorem freeze_get : ∀ (p : P2) (t : Tr Reg), (freeze t).get p = (t.get p).map frz
  | p, .e => by show (Tr.e : Tr Reg).get p = _; simp [Tr.get_e]
  | .h, .n l v r => by cases v <;> rfl
  | .o p, .n l v r => freeze_get p l
  | .i p, .n l v r => freeze_get p r
theorem fixT_get : ∀ (p : P2) (t : Tr Reg), (fixT t).get p = (t.get p).map fix
  | p, .e => by show (Tr.e : Tr Reg).get p = _; simp [Tr.get_e]
  | .h, .n l v r => by cases v <;> rfl
  | .o p, .n l v r => fixT_get p l
  | .i p, .n l v r => fixT_get p r
theorem restore_e (t : Tr Reg) : restore t .e = t := by cases t <;> rfl
theorem restore_get : ∀ (p : P2) (t t' : Tr Reg), (restore t t').get p = match t.get p with | some x => some x | none => (t'.get p).map fix
  | p, .e, t' => by rw [Tr.get_e]; exact fixT_get p t'
  | p, .n l v r, .e => by rw [restore_e, Tr.get_e]; split <;> simp [*]
  | .h, .n l v r, .n l' v' r' => by cases v <;> cases v' <;> rfl
  | .o p, .n l v r, .n l' v' r' => restore_get p l l'
  | .i p, .n l v r, .n l' v' r' => restore_get p r r'
theorem freeze_set (x : Reg) : ∀ (p : P2) (t : Tr Reg), freeze (t.set p (some x)) = (freeze t).set p (some (frz x))
  | .h, .e => rfl
  | .h, .n .. => rfl
  | .o p, .e => by rw [Tr.set_oe]; show Tr.n (freeze (Tr.e.set p (some x))) none .e = Tr.e.set (.o p) _; rw [freeze_set x p, Tr.set_oe]; rfl
  | .o p, .n l v r => by rw [Tr.set_on]; show Tr.n (freeze (l.set p (some x))) _ _ = (Tr.n (freeze l) _ _).set (.o p) _; rw [freeze_set x p, Tr.set_on]
  | .i p, .e => by rw [Tr.set_ie]; show Tr.n .e none (freeze (Tr.e.set p (some x))) = Tr.e.set (.i p) _; rw [freeze_set x p, Tr.set_ie]; rfl
  | .i p, .n l v r => by rw [Tr.set_in]; show Tr.n _ _ (freeze (r.set p (some x))) = (Tr.n _ _ (freeze r)).set (.i p) _; rw [freeze_set x p, Tr.set_in]
theorem restore_set (x y : Reg) : ∀ (p : P2) (t t' : Tr Reg), restore (t.set p (some x)) (t'.set p (some y)) = (restore t t').set p (some x)
  | .h, .e, .e => rfl
  | .h, .e, .n .. => rfl
  | .h, .n .., .e => by simp only [Tr.set_hn, Tr.set_he, restore_e]; show Tr.n (restore _ .e) _ (restore _ .e) = _; simp only [restore_e]
  | .h, .n .., .n .. => rfl
  | .o p, .e, .e => by simp only [Tr.set_oe, restore_e]; show Tr.n (restore _ _) none (restore .e .e) = _; simp only [restore_set x y p, restore_e]
  | .o p, .e, .n l' v' r' => by simp only [Tr.set_oe, Tr.set_on]; show Tr.n (restore _ _) _ (restore .e r') = (Tr.n (restore .e l') _ (restore .e r')).set (.o p) _; rw [restore_set x y p, Tr.set_on]
  | .o p, .n l v r, .e => by
    simp only [Tr.set_oe, Tr.set_on, restore_e]
    show Tr.n (restore _ _) _ (restore r .e) = _
    simp only [restore_set x y p, restore_e]
    cases v <;> rfl
  | .o p, .n l v r, .n l' v' r' => by simp only [Tr.set_on]; show Tr.n (restore _ _) _ _ = (Tr.n (restore l l') _ _).set (.o p) _; rw [restore_set x y p, Tr.set_on]
  | .i p, .e, .e => by simp only [Tr.set_ie, restore_e]; show Tr.n (restore .e .e) none (restore _ _) = _; simp only [restore_set x y p, restore_e]
  | .i p, .e, .n l' v' r' => by simp only [Tr.set_ie, Tr.set_in]; show Tr.n (restore .e l') _ (restore _ _) = (Tr.n (restore .e l') _ (restore .e r')).set (.i p) _; rw [restore_set x y p, Tr.set_in]
  | .i p, .n l v r, .e => by
    simp only [Tr.set_ie, Tr.set_in, restore_e]
    show Tr.n (restore l .e) _ (restore _ _) = _
    simp only [restore_set x y p, restore_e]
    cases v <;> rfl
  | .i p, .n l v r, .n l' v' r' => by simp only [Tr.set_in]; show Tr.n _ _ (restore _ _) = (Tr.n _ _ (restore r r')).set (.i p) _; rw [restore_set x y p, Tr.set_in]

theorem fz_nw {t : Tc} (h : ExtTc t) : NwTc (fz t) := by
  intro args hp nx Q hw
  obtain ⟨v, hp', nx', hq, _⟩ := h.mono args (freeze hp) nx _ hw
  exact ⟨v, _, nx', hq, fun i r e => by rw [restore_get, e]⟩

theorem fz_ext {t : Tc} (h : ExtTc t) : ExtTc (fz t) := by
  constructor
  · intro args hp nx Q hw
    obtain ⟨v, hp', nx', hq, _⟩ := h.mono args (freeze hp) nx _ hw
    refine ⟨v, _, nx', hq, fun i hi => ?_⟩
    obtain ⟨r, e⟩ := Option.isSome_iff_exists.1 hi
    rw [restore_get, e]; rfl
  · intro j r args hp nx Q hw hn
    have hw : wpT (t args (freeze hp) nx) fun l => wpT (match l with | .val v hp' nx' => .leaf (.val v (restore hp hp') nx') | .ret .. => .fail) Q := hw
    show wpT (t args (freeze (hp.set j (some r))) nx) fun l => wpT (match l with | .val v hp' nx' => .leaf (.val v (restore (hp.set j (some r)) hp') nx') | .ret .. => .fail) _
    rw [freeze_set]
    refine wpT_mono _ (fun l hl => ?_) (h.ext j (frz r) args (freeze hp) nx _ hw (fun v hp' nx' hq => ?_))
    · obtain ⟨v, hp', nx', hq, rfl⟩ := hl
      show ∃ v0 hp0 nx0, Q (.val v0 hp0 nx0) ∧ L.val v (restore (hp.set j (some r)) (hp'.set j (some (frz r)))) nx' = _
      exact ⟨v, restore hp hp', nx', hq, by rw [restore_set]⟩
    · have hq : Q (.val v (restore hp hp') nx') := hq
      have := hn _ _ _ hq
      rw [restore_get] at this
      split at this
      · cases this
      · cases e : hp'.get j with
        | none => rfl
        | some x => rw [e] at this; cases this

theorem fz_sound {f : FuncId} {t : Tc} (h : Sound P f t) : Sound P f (fz t) := by
  intro B w0 m hp w args xs nx Q hh hr hw
  have hw : wpT (t args (freeze hp) nx) fun l => wpT (match l with | .val v hp' nx' => .leaf (.val v (restore hp hp') nx') | .ret .. => .fail) Q := hw
  have hB : B ≤ w.heap.size := Nat.le_trans hh.base hh.below.size
  have hf : HRep w.heap.size w m (freeze hp) w := by
    refine ⟨.refl _ _, Nat.le_refl _, fun j => ?_, fun j r b o n h1 h2 => ?_, fun j j' r r' b o n b' o' n' h1 h2 h3 => ?_⟩
    · rw [freeze_get, hh.dom j]; simp
    · rw [freeze_get] at h1
      cases e : hp.get j with
      | none => rw [e] at h1; cases h1
      | some r0 =>
        rw [e] at h1; cases h1
        rcases hh.reg j r0 b o n e h2 with hd | ⟨c, el, fr, xs, h3, h4, h5, _⟩
        · exact .inl (by simp [frz, hd])
        · refine .inr ⟨c, el, fr, xs, h3, h4, h5, fun hk => ?_⟩
          simp only [frz] at hk
          split at hk <;> cases hk
    · rw [freeze_get] at h1
      cases e : hp.get j with
      | none => rw [e] at h1; cases h1
      | some r0 =>
        rw [e] at h1; cases h1
        simp only [frz] at h3
        split at h3 <;> cases h3
  refine Calls.mono (h w.heap.size w m (freeze hp) w args xs nx _ hf hr hw) ?_
  rintro e w' ⟨v, hp', nx', m', x, hq, he, hle, hx, hH⟩
  have hq : Q (.val v (restore hp hp') nx') := hq
  refine ⟨v, restore hp hp', nx', m', x, hq, he, hle, hx, ?_⟩
  have old : ∀ j r, hp.get j = some r → ∃ b o n, m j = some (b, o, n) ∧ m' j = some (b, o, n) := by
    intro j r e
    have := hh.dom j
    rw [e] at this
    obtain ⟨⟨b, o, n⟩, hm⟩ := Option.isSome_iff_exists.1 this
    exact ⟨b, o, n, hm, hle _ _ hm⟩
  have oldlt : ∀ j r b o n, hp.get j = some r → r.kd ≠ .dead → m j = some (b, o, n) → b < w.heap.size := by
    intro j r b o n e hd hm
    rcases hh.reg j r b o n e hm with h1 | ⟨c, el, fr, xs, h3, _⟩
    · exact absurd h1 hd
    · exact (Array.getElem?_eq_some_iff.1 h3).1
  have oldrep : ∀ j r b o n, hp.get j = some r → m j = some (b, o, n) → RegRep B m' r b o n w' := by
    intro j r b o n e hm
    rcases hh.reg j r b o n e hm with h1 | ⟨c, el, fr, xs, h3, h4, h5, h6⟩
    · exact .inl h1
    · refine .inr ⟨c, el, fr, xs, ?_, h4.mono hle, h5, h6⟩
      rw [hH.below.block b (Array.getElem?_eq_some_iff.1 h3).1, h3]
  have newget : ∀ j r, hp.get j = none → (restore hp hp').get j = some r → ∃ r0, hp'.get j = some r0 ∧ r = fix r0 := by
    intro j r h1 h2
    rw [restore_get, h1] at h2
    cases e : hp'.get j with
    | none => rw [e] at h2; cases h2
    | some r0 => rw [e] at h2; exact ⟨r0, rfl, (Option.some.inj h2).symm⟩
  have newb : ∀ j r b o n, hp.get j = none → (restore hp hp').get j = some r → r.kd ≠ .dead → m' j = some (b, o, n) → w.heap.size ≤ b ∧ hp'.get j = some r ∧ r.kd = .own := by
    intro j r b o n h1 h2 h3 h4
    obtain ⟨r0, h5, rfl⟩ := newget j r h1 h2
    obtain ⟨c0, k0⟩ := r0
    cases k0 with
    | own =>
      rcases hH.reg j _ b o n h5 h4 with h6 | ⟨c, el, fr, xs, h6, h7, h8, h9⟩
      · cases h6
      · exact ⟨(h9 rfl).2.2.1, h5, rfl⟩
    | ro => exact absurd rfl h3
    | dead => exact absurd rfl h3
  refine ⟨hh.below.trans (hH.below.mono hB), hh.base, fun j => ?_, fun j r b o n h1 h2 => ?_, fun j j' r r' b o n b' o' n' h1 h2 h3 h4 h5 h6 h7 => ?_⟩
  · rw [restore_get]
    cases e : hp.get j with
    | none => simp only [Option.isSome_map]; exact hH.dom j
    | some r => obtain ⟨b, o, n, _, hm⟩ := old j r e; rw [hm]; rfl
  · cases e : hp.get j with
    | none =>
      obtain ⟨r0, h5, rfl⟩ := newget j r e h1
      rcases hH.reg j r0 b o n h5 h2 with h6 | ⟨c, el, fr, xs, h6, h7, h8, h9⟩
      · exact .inl (by simp [fix, h6])
      · refine .inr ⟨c, el, fr, xs, h6, h7, h8, fun hk => ?_⟩
        have hk0 : r0.kd = .own := by
          simp only [fix] at hk
          split at hk <;> first | assumption | cases hk
        obtain ⟨g1, g2, g3, g4⟩ := h9 hk0
        exact ⟨g1, g2, Nat.le_trans hB g3, g4⟩
    | some r0 =>
      rw [restore_get, e] at h1
      cases h1
      obtain ⟨b1, o1, n1, g1, g2⟩ := old j _ e
      rw [g2] at h2; cases h2
      exact oldrep j _ b o n e g1
  · have hd : r.kd ≠ .dead := by rw [h3]; intro h; cases h
    cases e : hp.get j with
    | none =>
      obtain ⟨g1, g2, g3⟩ := newb j r b o n e h1 hd h6
      cases e' : hp.get j' with
      | none =>
        obtain ⟨g4, g5, g6⟩ := newb j' r' b' o' n' e' h2 h4 h7
        exact hH.sep j j' r r' b o n b' o' n' g2 g5 h3 h4 h5 h6 h7
      | some r0' =>
        rw [restore_get, e'] at h2; cases h2
        obtain ⟨b1, o1, n1, k1, k2⟩ := old j' _ e'
        rw [k2] at h7; cases h7
        have := oldlt j' _ _ _ _ e' h4 k1
        omega
    | some r0 =>
      rw [restore_get, e] at h1; cases h1
      obtain ⟨b1, o1, n1, k1, k2⟩ := old j _ e
      rw [k2] at h6; cases h6
      have hlt := oldlt j _ _ _ _ e hd k1
      cases e' : hp.get j' with
      | none =>
        obtain ⟨g4, g5, g6⟩ := newb j' r' b' o' n' e' h2 h4 h7
        omega
      | some r0' =>
        rw [restore_get, e'] at h2; cases h2
        obtain ⟨b2, o2, n2, k3, k4⟩ := old j' _ e'
        rw [k4] at h7; cases h7
        exact hh.sep j j' _ _ _ _ _ _ _ _ e e' h3 h4 h5 k1 k3
end Go.AE
