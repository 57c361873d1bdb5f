/- An abstract evaluator of translated Go code, fifteenth part: a function's contract by its own code. -/
import Derived.Test.YtmgbeipdeeegoaaGreatDoorAe14
namespace Go.AE
open Go.RowKit

variable {P : Program} {X : FuncId × FuncId} {Γ : Tr Ent} {B N : Nat} {w0 : World} {m0 m : Mp} {S : St} {a : Act} {w : World}

theorem toNat_succ : ∀ p : P2, p.succ.toNat = p.toNat + 1
  | .h => rfl
  | .o p => by simp [P2.succ, P2.toNat]
  | .i p => by
    have ih := toNat_succ p
    have e : (P2.i p).succ = match p.succ with | .h => .o .h | .o q => .o (.o q) | .i q => .o (.i q) := rfl
    rw [e]
    cases hs : p.succ with
    | h => rw [hs] at ih; simp [P2.toNat] at ih
    | o q => rw [hs] at ih; simp only [P2.toNat] at ih ⊢; omega
    | i q => rw [hs] at ih; simp only [P2.toNat] at ih ⊢; omega

theorem argsAt_get : ∀ (args : List V) (p : P2) (t : Tr V) (q : P2) (v : V), (argsAt args p t).get q = some v → (p.toNat ≤ q.toNat ∧ args[q.toNat - p.toNat]? = some v) ∨ t.get q = some v
  | [], p, t, q, v, h => .inr h
  | x :: args, p, t, q, v, h => by
    have h : (argsAt args p.succ (t.set p (some x))).get q = some v := h
    rcases argsAt_get args p.succ _ q v h with ⟨h1, h2⟩ | h
    · rw [toNat_succ] at h1 h2
      refine .inl ⟨by omega, ?_⟩
      obtain ⟨d, hd⟩ : ∃ d, q.toNat - p.toNat = d + 1 := ⟨q.toNat - p.toNat - 1, by omega⟩
      rw [hd, List.getElem?_cons_succ]
      rw [show q.toNat - (p.toNat + 1) = d by omega] at h2
      exact h2
    · rw [Tr.get_set] at h
      by_cases e : q = p
      · subst e; rw [if_pos rfl] at h; cases h
        exact .inl ⟨Nat.le_refl _, by rw [Nat.sub_self]; rfl⟩
      · rw [if_neg e] at h; exact .inr h

def okRes (P : Program) : List ResultVar → List Rv → Bool
  | [], [] => true
  | .tmp t :: r, .tmp p :: r' => Nat.beq p.toNat t && okRes P r r'
  | .cell t ty :: r, .cell p ag sz :: r' => Nat.beq p.toNat t && decide (tAgg P ty = some ag) && decide (tSize P ty = some sz) && okRes P r r'
  | _, _ => false

theorem slot_rel (hr : Rep B w0 m0 m N S a w) {p : P2} {t : Tmp} (h : p.toNat = t) : VRel m (ev S.tm (.s p)) (a.tmps.getD t undef) := by
  subst h
  rw [ev_s]
  cases hg : S.tm.get p with
  | some v => exact (hr.fr p v hg).2
  | none => exact .un _

def resF (tmps : Array Value) : ResultVar → Sem Value
  | .tmp t => pure (tmps.getD t undef)
  | .cell a t => do loadVar t (← asAddr (tmps.getD a undef))

theorem res_run (hr : Rep B w0 m0 m N S a w) : ∀ (rs : List ResultVar) (rs' : List Rv) (vs : List V), okRes P rs rs' = true → resL S rs' = some vs →
    ∃ xs, (rs.mapM (resF a.tmps)).run P w = .ok xs w ∧ VRels m vs xs
  | [], [], vs, _, h => by simp [resL] at h; subst h; exact ⟨[], rfl, .nil⟩
  | [], _ :: _, _, h, _ => by simp [okRes] at h
  | r :: _, [], _, h, _ => by cases r <;> simp [okRes] at h
  | .tmp t :: rs, .cell _ _ _ :: rs', _, h, _ => by simp [okRes] at h
  | .cell _ _ :: rs, .tmp _ :: rs', _, h, _ => by simp [okRes] at h
  | .tmp t :: rs, .tmp p :: rs', vs, hok, h => by
    simp only [okRes, Bool.and_eq_true] at hok
    have hp := Nat.eq_of_beq_eq_true hok.1
    simp only [resL, resE] at h
    split at h
    · rename_i us hus
      cases h
      obtain ⟨xs, hx, hv⟩ := res_run hr rs rs' us hok.2 hus
      exact ⟨_, by simp only [List.mapM_cons, Sem.run_bind, resF, Sem.run_pure, Result.andThen, hx], .cons (slot_rel hr hp) hv⟩
    · simp at h
  | .cell t ty :: rs, .cell p ag sz :: rs', vs, hok, h => by
    simp only [okRes, Bool.and_eq_true, decide_eq_true_eq] at hok
    obtain ⟨⟨⟨h1, h2⟩, h3⟩, h4⟩ := hok
    have hp := Nat.eq_of_beq_eq_true h1
    have hsl := slot_rel hr hp
    simp only [resL] at h
    split at h
    · rename_i v hv
      split at h
      · rename_i us hus
        cases h
        obtain ⟨xs, hx, hvs⟩ := res_run hr rs rs' us h4 hus
        simp only [resE] at hv
        generalize ev S.tm (.s p) = q at hv hsl
        generalize hxe : a.tmps.getD t undef = xe at hsl
        have key : ∃ x, (do loadVar ty (← asAddr xe) : Sem Value).run P w = .ok x w ∧ VRel m v x := by
          split at hv
          · cases hsl
            rename_i j o b o1 n1 hm
            cases ag with
            | true =>
              simp only [Option.map_eq_some_iff] at hv
              obtain ⟨cs, hc, rfl⟩ := hv
              obtain ⟨ys, hv, hl, hcell⟩ := hr.hp.readL hm hc
              subst hl
              exact ⟨_, by simp [asAddr, loadVar, run_agg h2, run_size h3, run_loadCells_list' hcell], .agg hv⟩
            | false =>
              obtain ⟨x, hcell, hv⟩ := hr.hp.read1 hm hv
              exact ⟨x, by simp [asAddr, loadVar, run_agg h2, hcell], hv⟩
          · simp at hv
        obtain ⟨x, hx0, hvx⟩ := key
        refine ⟨x :: xs, ?_, .cons hvx hvs⟩
        simp only [List.mapM_cons, Sem.run_bind, resF, hxe] at hx0 ⊢
        rw [show (Sem.run P (asAddr xe) w).andThen (fun a w' => Sem.run P (loadVar ty a) w') = .ok x w from hx0]
        simp only [Result.andThen, hx, Sem.run_pure]
      · simp at h
    · simp at h

theorem resV_rel {vs : List V} {xs : List Value} (h : VRels m vs xs) : VRel m (resV vs) (if hs : (Array.mk xs).size = 1 then (Array.mk xs)[0] else .tuple ⟨xs⟩) := by
  cases h with
  | nil => exact .tup .nil
  | cons a r => cases r with
    | nil => exact a
    | cons b r => exact .tup (.cons a (.cons b r))

/-- A FUNCTION BY ITS CODE. -/
theorem fn_sound (hX : ExtOk P X.1 add64Entry) (hY : ExtOk P X.2 sub64Entry) (hΓ : ΓOk P Γ) {D : Array Oper → List O → Bool} {f : FuncId} {fn : Func} {c : Code} {fd : Fd} (hf : P.funcs[f]? = some fn) (hb : fn.body = some c)
    (hD : ∀ ops ops', okOs P X fn.ntmps ops ops.toList ops' = true → D ops ops' = true → DrawOk P Γ fn.ntmps ops ops')
    (hok : okC P X D fn.ntmps c fd.code = true) (hnp : Nat.ble fd.np fn.ntmps = true) (hres : okRes P fn.results.toList fd.res = true) : Sound P f (callT Γ fd) := by
  intro B w0 m hp w args xs nx Q hH hv h
  obtain ⟨hle, h⟩ := h
  have hle := Nat.le_of_ble_eq_true hle
  have hnp := Nat.le_of_ble_eq_true hnp
  have hlen := hv.length
  refine calls_of_wp hf hb ?_
  have hr : Rep B w0 m m fn.ntmps ⟨argsAt args .h .e, hp, nx⟩ { tmps := (Array.mk xs) ++ Array.replicate (fn.ntmps - (Array.mk xs).size) undef, defers := [] } w := by
    refine ⟨rfl, by simp; omega, fun p v hp => ?_, hH, Mp.le_refl m⟩
    rcases argsAt_get args .h .e p v hp with ⟨_, h2⟩ | h2
    · have h2 : args[p.toNat]? = some v := h2
      have hlt : p.toNat < args.length := by
        rcases Nat.lt_or_ge p.toNat args.length with h | h
        · exact h
        · rw [List.getElem?_eq_none h] at h2; simp at h2
      refine ⟨by omega, ?_⟩
      obtain ⟨x, hx, hvx⟩ := hv.at_ _ h2
      show VRel m v (((Array.mk xs) ++ Array.replicate (fn.ntmps - (Array.mk xs).size) undef).getD p.toNat undef)
      rw [Array.getD_eq_getD_getElem?, Array.getElem?_append_left (by simp; omega)]
      have : (Array.mk xs)[p.toNat]? = some x := by simpa using hx
      rw [this]
      exact hvx
    · rw [Tr.get_e] at h2; simp at h2
  refine code_sound hX hY hΓ hD c fd.code m _ _ w _ Q _ hok hr h fun ex m' S' a' w' hr' h' => ?_
  have fin : (∃ vs, resL S' fd.res = some vs ∧ Q (.val (resV vs) S'.hp S'.nx)) → a'.defers = [] ∧ ∃ v, (results fn a'.tmps).run P w' = .ok v w' ∧ ∃ v' hp' nx' m'' x, Q (.val v' hp' nx') ∧ Ending.returned v = .returned x ∧ m.le m'' ∧ VRel m'' v' x ∧ HRep B w0 m'' hp' w' := by
    rintro ⟨vs, hvs, hq⟩
    obtain ⟨ys, hys, hvy⟩ := res_run hr' fn.results.toList fd.res vs hres hvs
    refine ⟨hr'.defers, _, ?_, _, _, _, m', _, hq, rfl, hr'.le, resV_rel hvy, hr'.hp⟩
    show (do let vs ← fn.results.mapM (resF a'.tmps); pure (if h : vs.size = 1 then vs[0] else .tuple vs) : Sem Value).run P w' = _
    rw [Array.mapM_eq_mapM_toList]
    simp only [map_eq_pure_bind, Sem.run_bind, hys, Result.andThen, Sem.run_pure]
  cases ex with
  | norm => exact fin h'
  | exit i => exact h'.elim
  | ret => exact fin h'
end Go.AE
