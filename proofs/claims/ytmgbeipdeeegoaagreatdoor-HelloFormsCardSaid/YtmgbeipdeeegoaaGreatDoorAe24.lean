/- An abstract evaluator of translated Go code, twenty-fourth part: a function's checks as one. -/
import Derived.Test.YtmgbeipdeeegoaaGreatDoorAe23
import Derived.Eval
namespace Go.AE
open Go.RowKit

variable {P : Program} {X : FuncId × FuncId} {Γ : Tr Ent}

/-- What is asked of a function and its data. -/
noncomputable def fdOk (P : Program) (X : FuncId × FuncId) (Γ : Tr Ent) (fn : Func) (fd : Fd) : Bool :=
  match fn.body with
  | some c => okC P X (okDraw Γ) fn.ntmps c fd.code && Nat.ble fd.np fn.ntmps && okRes P fn.results.toList fd.res && boolEq (fn.name == "runtime.NumGoroutine") false
  | none => false

theorem fd_fnOk {f : FuncId} {fn : Func} {fd : Fd} (hf : P.funcs[f]? = some fn) (h : fdOk P X Γ fn fd = true) : FnOk P f := by
  unfold fdOk at h
  split at h
  · rename_i c hb
    simp only [Bool.and_eq_true] at h
    exact ⟨fn, hf, boolEq_false h.2, by rw [hb]; rfl⟩
  · cases h

theorem fd_sound (hm : P.follows .mixedOrders = true) (hX : ExtOk P X.1 add64Entry) (hY : ExtOk P X.2 sub64Entry) (hΓ : ΓOk P Γ) (hL : ΓFine Γ) {f : FuncId} {fn : Func} {fd : Fd} (hf : P.funcs[f]? = some fn) (h : fdOk P X Γ fn fd = true) : Sound P f (callT Γ fd) := by
  unfold fdOk at h
  split at h
  · rename_i c hb
    simp only [Bool.and_eq_true] at h
    exact fn_sound hX hY hΓ hf hb (fun ops ops' h1 h2 => draw_sound hm hX hY hΓ hL h1 h2) h.1.1.1 h.1.1.2 h.1.2
  · cases h

/-- A row of contracts that stands. -/
structure ΓFit (P : Program) (Γ : Tr Ent) : Prop where
  ok : ΓOk P Γ
  fine : ΓFine Γ

theorem ΓFit.e : ΓFit P .e := ⟨.e, .e⟩
theorem ΓFit.put (h : ΓFit P Γ) {p : P2} {e : Ent} (hf : FnOk P p.toNat) (hs : Sound P p.toNat e.tc) (he : EntFine e) : ΓFit P (Γ.set p (some e)) := ⟨h.ok.set hf hs, h.fine.set he⟩
theorem ΓFit.pure (h : ΓFit P Γ) {p : P2} {t : Tc} {fuel : Nat} (hf : FnOk P p.toNat) (hs : Sound P p.toNat t) : ΓFit P (Γ.set p (some (.f (pureF fuel t) 0))) := h.put hf (pureF_sound hs) trivial
/-- A function's own code as its contract. -/
theorem ΓFit.tree (h : ΓFit P Γ) {p : P2} {fd : Fd} (hf : FnOk P p.toNat) (hs : Sound P p.toNat (callT Γ fd)) : ΓFit P (Γ.set p (some (.t (callT Γ fd) 3))) := h.put hf hs (callT_ext h.fine.ext fd)

/-- A function's own code, run with all that is there frozen, as its contract. -/
theorem ΓFit.nw (h : ΓFit P Γ) {p : P2} {fd : Fd} (hf : FnOk P p.toNat) (hs : Sound P p.toNat (callT Γ fd)) : ΓFit P (Γ.set p (some (.t (fz (callT Γ fd)) 6))) := h.put hf (fz_sound hs) ⟨fz_nw (callT_ext h.fine.ext fd), fz_ext (callT_ext h.fine.ext fd)⟩

/-- Does code write nothing and make nothing? -/
noncomputable def rdC (Γ : Tr Ent) (c : C) : Bool :=
  C.rec (motive := fun _ => Bool) true (fun ops tot => Nat.beq tot 0 && ops.all fun o => isRd (kindI Γ o.i) false && (boolEq o.adv false || boolEq (Nat.beq (kindI Γ o.i) 5) false || Nat.beq o.off 0)) (fun _ _ a b => a && b) (fun _ _ _ a b => a && b) (fun _ _ a => a) (fun _ a => a) (fun _ => true) true true c

theorem step_rd' (hR : ΓRd Γ) {o : O} {S S1 : St} (hk : isRd (kindI Γ o.i) false = true) (ho : (boolEq o.adv false || boolEq (Nat.beq (kindI Γ o.i) 5) false || Nat.beq o.off 0) = true) (h : Step Γ o S S1) : ∃ v, S1 = ⟨put S.tm o.d v, S.hp, S.nx⟩ := by
  by_cases hk1 : kindI Γ o.i ≤ 1
  · obtain ⟨v, _, e⟩ := (step_calm hk1).1 h; exact ⟨v, e⟩
  have hk5 : kindI Γ o.i = 5 := by
    unfold isRd at hk
    split at hk <;> first | omega | cases hk
  by_cases ha : o.adv = false
  · exact step_rd hR (.inr (.inr ⟨hk5, ha⟩)) h
  have ha : o.adv = true := by simpa using ha
  have hoff : o.off = 0 := by
    rw [ha, hk5] at ho
    simp [boolEq] at ho
    exact ho
  have key : ∀ R : V → Tr Reg → P2 → Prop, (evalI Γ o S).sat S.hp S.nx o.adv R → ∃ v, R v S.hp S.nx := by
    intro R h
    unfold evalI at h
    generalize o.i = i at hk5 h
    cases i <;> simp only [kindI] at hk5 <;> first
      | (exfalso; omega)
      | skip
    case call f args =>
      dsimp only [e_call, callE] at h
      split at hk5
      · split at hk5 <;> omega
      · rename_i t kd hg
        split at hk5 <;> first
          | (exfalso; omega)
          | skip
        rw [hg] at h
        obtain ⟨v, h⟩ := hR f _ hg _ _ _ _ h
        rw [ha, hoff] at h
        exact ⟨v, h⟩
      · omega
  unfold Step evalG at h
  split at h
  · obtain ⟨v, e⟩ := key _ h; exact ⟨v, e⟩
  · split at h
    · split at h
      · obtain ⟨v, e⟩ := key _ h; exact ⟨v, e⟩
      · exact ⟨_, h⟩
    · split at h
      · exact ⟨_, h⟩
      · exact h.elim
    · exact h.elim

theorem opsT_rd (hR : ΓRd Γ) : ∀ (ops : List O) (S : St) (k : St → T) (Q : L → Prop), (ops.all fun o => isRd (kindI Γ o.i) false && (boolEq o.adv false || boolEq (Nat.beq (kindI Γ o.i) 5) false || Nat.beq o.off 0)) = true → wpT (opsT Γ ops S k) Q → ∃ tm, wpT (k ⟨tm, S.hp, S.nx⟩) Q
  | [], S, _, _, _, h => ⟨S.tm, h⟩
  | o :: ops, S, k, Q, hk, h => by
    simp only [List.all_cons, Bool.and_eq_true] at hk
    obtain ⟨S1, h1, h2⟩ := opT_step.1 (h : wpT (opT Γ o S fun S => opsT Γ ops S k) Q)
    obtain ⟨v, e⟩ := step_rd' hR hk.1.1 hk.1.2 h1
    subst e
    obtain ⟨tm, h3⟩ := opsT_rd hR ops ⟨put S.tm o.d v, S.hp, S.nx⟩ k Q hk.2 h2
    exact ⟨tm, h3⟩

theorem exec_rd (hR : ΓRd Γ) (c : C) : ∀ (S : St) (k : Ex → St → T) (Q : L → Prop), rdC Γ c = true → wpT (exec Γ c S k) Q → ∃ ex tm, wpT (k ex ⟨tm, S.hp, S.nx⟩) Q := by
  induction c with
  | skip => intro S k Q _ h; exact ⟨.norm, S.tm, h⟩
  | reg ops tot =>
    intro S k Q hk h
    have hk : (Nat.beq tot 0 && ops.all _) = true := hk
    simp only [Bool.and_eq_true] at hk
    obtain rfl := Nat.eq_of_beq_eq_true hk.1
    obtain ⟨tm, h1⟩ := opsT_rd hR ops S _ Q hk.2 (h : wpT (opsT Γ ops S (regK 0 k)) Q)
    exact ⟨.norm, tm, h1⟩
  | seq a b iha ihb =>
    intro S k Q hk h
    have hk : (rdC Γ a && rdC Γ b) = true := hk
    simp only [Bool.and_eq_true] at hk
    obtain ⟨ex, tm, h1⟩ := iha S _ Q hk.1 (h : wpT (exec Γ a S fun ex S => match ex with | .norm => exec Γ b S k | .exit id => k (.exit id) S | .ret => k .ret S) Q)
    cases ex with
    | norm => obtain ⟨ex, tm', h2⟩ := ihb ⟨tm, S.hp, S.nx⟩ k Q hk.2 h1; exact ⟨ex, tm', h2⟩
    | exit i => exact ⟨.exit i, tm, h1⟩
    | ret => exact ⟨.ret, tm, h1⟩
  | cond x a b iha ihb =>
    intro S k Q hk h
    have hk : (rdC Γ a && rdC Γ b) = true := hk
    simp only [Bool.and_eq_true] at hk
    rw [exec_cond] at h
    split at h
    · rename_i t _
      cases t
      · obtain ⟨ex, tm, h1⟩ := ihb ⟨setLit S.tm x false, S.hp, S.nx⟩ k Q hk.2 (h.2 rfl); exact ⟨ex, tm, h1⟩
      · obtain ⟨ex, tm, h1⟩ := iha ⟨setLit S.tm x true, S.hp, S.nx⟩ k Q hk.1 (h.1 rfl); exact ⟨ex, tm, h1⟩
    · exact h.elim
  | block i c ih =>
    intro S k Q hk h
    obtain ⟨ex, tm, h1⟩ := ih S _ Q hk (h : wpT (exec Γ c S fun ex S => match ex with
      | .exit j => (match Nat.beq j i with | true => k .norm S | false => k (.exit j) S)
      | .norm => k .norm S
      | .ret => k .ret S) Q)
    cases ex with
    | norm => exact ⟨.norm, tm, h1⟩
    | ret => exact ⟨.ret, tm, h1⟩
    | exit j =>
      simp only at h1
      split at h1
      · exact ⟨.norm, tm, h1⟩
      · exact ⟨.exit j, tm, h1⟩
  | loop c ih =>
    rintro S k Q hk ⟨n, h⟩
    have key : ∀ n S, loopN (fun S Q => wpT (exec Γ c S fun ex S => .leaf (.ret ex S)) Q) Q (fun ex S => wpT (k ex S) Q) n S → ∃ ex tm, wpT (k ex ⟨tm, S.hp, S.nx⟩) Q := by
      intro n
      induction n with
      | zero => intro S h; exact h.elim
      | succ n ihn =>
        intro S h
        obtain ⟨ex, tm, h1⟩ := ih S _ _ hk h
        cases ex with
        | norm => obtain ⟨ex, tm', h2⟩ := ihn ⟨tm, S.hp, S.nx⟩ h1; exact ⟨ex, tm', h2⟩
        | exit i => exact ⟨.exit i, tm, h1⟩
        | ret => exact ⟨.ret, tm, h1⟩
    exact key n S h
  | exit i => intro S k Q _ h; exact ⟨.exit i, S.tm, h⟩
  | ret => intro S k Q _ h; exact ⟨.ret, S.tm, h⟩
  | bad => intro S k Q _ h; exact h.elim

theorem callT_rd (hR : ΓRd Γ) {fd : Fd} (hk : rdC Γ fd.code = true) : RdTc (callT Γ fd) := by
  rintro args hp nx Q ⟨_, h⟩
  obtain ⟨ex, tm, h1⟩ := exec_rd hR fd.code ⟨argsAt args .h .e, hp, nx⟩ _ Q hk h
  cases ex with
  | exit => exact h1.elim
  | norm => obtain ⟨vs, _, h⟩ := h1; exact ⟨_, h⟩
  | ret => obtain ⟨vs, _, h⟩ := h1; exact ⟨_, h⟩

/-- A function's own code as its contract, where it writes nothing and makes nothing. -/
theorem ΓFit.rd (h : ΓFit P Γ) {p : P2} {fd : Fd} (hf : FnOk P p.toNat) (hs : Sound P p.toNat (callT Γ fd)) (hk : rdC Γ fd.code = true) : ΓFit P (Γ.set p (some (.t (callT Γ fd) 5))) := h.put hf hs ⟨callT_rd h.fine.rd hk, callT_ext h.fine.ext fd⟩

/-- A contract of arguments alone, held against the code. -/
theorem pure_sound {f : FuncId} {t : Tc} {F : Fc} (h : Sound P f t) (hF : ∀ args v, pureV (F args .e .h) = some v → args.all (flat 3) = true ∧ flat 4 v = true ∧ wpT (t args .e .h) fun l => ∃ hp nx, l = .val v hp nx) : Sound P f (Ent.f F 0).tc := by
  intro B w0 m hp w args xs nx Q hh hr hw
  obtain ⟨v, hv, hq⟩ := (hw : ∃ v, pureV (F args .e .h) = some v ∧ wpT (.leaf (.val v hp nx)) Q)
  have hq : Q (.val v hp nx) := hq
  obtain ⟨ha, hf, hrun⟩ := hF args v hv
  have hr' : VRels (fun _ => none) args xs := all_rel (flat_rel 3) ha hr
  refine Calls.mono (h w.heap.size w (fun _ => none) .e w args xs .h _ (.none w) hr' hrun) ?_
  rintro e w' ⟨v1, hp1, nx1, m1, x, hl, he, _, hx, hH⟩
  obtain ⟨hp2, nx2, hl⟩ := hl
  cases hl
  exact ⟨_, hp, nx, m, x, hq, he, Mp.le_refl m, flat_rel 4 _ _ hf hx, hh.framed hH.below⟩
/-- A contract that says nothing. -/
theorem void_sound {f : FuncId} : Sound P f (Ent.f (fun _ _ _ => none) 0).tc := by
  intro B w0 m hp w args xs nx Q hh hr hw
  obtain ⟨v, hv, _⟩ := (hw : ∃ v, pureV none = some v ∧ _)
  cases hv
end Go.AE
