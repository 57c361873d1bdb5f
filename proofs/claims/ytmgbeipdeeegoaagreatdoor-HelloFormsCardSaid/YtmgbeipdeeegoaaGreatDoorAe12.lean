/- An abstract evaluator of translated Go code, twelfth part: whatever the checker lets pass stands for the model's operation. -/
import Derived.Test.YtmgbeipdeeegoaaGreatDoorAe11
namespace Go.AE
open Go.RowKit

variable {P : Program} {X : FuncId × FuncId} {Γ : Tr Ent} {B N : Nat} {w0 : World} {m : Mp} {S : St} {o : Oper} {o' : O} {a : Act} {w : World}

theorem ext_lt {f : FuncId} {e : Array Value → Sem Value} (h : ExtOk P f e ∨ P.funcs.size ≤ f) (hx : ∃ fn, P.funcs[f]? = some fn) : ExtOk P f e := by
  rcases h with h | h
  · exact h
  · obtain ⟨fn, hf⟩ := hx; rw [Array.getElem?_eq_none h] at hf; simp at hf

set_option maxHeartbeats 1000000 in
theorem okI_snd (hX : ExtOk P X.1 add64Entry) (hY : ExtOk P X.2 sub64Entry) (hΓ : ΓOk P Γ) (hH : HRep B w0 m S.hp w) (hF : FRel m N S.tm a.eval) (h : okI P X o.op o'.i = true) : Snd P Γ B w0 m S o' w (execOp a.eval o) := by
  generalize hop : o.op = op at h
  generalize hi : o'.i = i at h
  cases op
  case move x => cases i <;> simp only [okI, Bool.false_eq_true] at h; exact snd_mov hH hF (.inl hop) hi h
  case assign x => cases i <;> simp only [okI, Bool.false_eq_true] at h; exact snd_mov hH hF (.inr hop) hi h
  case pick c x y => cases i <;> simp only [okI, Bool.false_eq_true, Bool.and_eq_true] at h; exact snd_pick hH hF hop hi h.1.1 h.1.2 h.2
  case binOp op t x y u =>
    cases i <;> simp only [okI, Bool.false_eq_true, Bool.and_eq_true, decide_eq_true_eq] at h
    case bin => obtain ⟨⟨rfl, h1⟩, h2⟩ := h; exact snd_bin hH hF hop hi h1 h2
    case eqb => obtain ⟨⟨⟨rfl, h1⟩, h2⟩, h3⟩ := h; exact snd_eqb hH hF hop hi h1 h2 (und_bool h3)
    case nilq k neg x' =>
      obtain ⟨⟨rfl, h1⟩, h2⟩ := h
      refine snd_nilq hH hF hop hi h1 ?_
      split at h2
      · exact .inl ⟨rfl, rfl, _, by assumption⟩
      · rename_i l c _ _
        simp only [Bool.and_eq_true] at h2
        obtain rfl := Nat.eq_of_beq_eq_true h2.1
        obtain rfl := Nat.eq_of_beq_eq_true h2.2
        exact .inr (.inl ⟨rfl, rfl, _, by assumption⟩)
      · exact .inr (.inr (.inl ⟨rfl, rfl, _, _, _, by assumption⟩))
      · exact .inr (.inr (.inr ⟨rfl, rfl, _, by assumption⟩))
      · simp at h2
    case eqs neg ks x' y' =>
      obtain ⟨⟨⟨⟨⟨rfl, h1⟩, h2⟩, h3⟩, h4⟩, h5⟩ := h
      refine snd_eqs hH hF hop hi h1 h2 (by simpa using h3) (by simpa using h4) ?_
      split at h5
      · exact .inl ⟨_, by assumption, h5⟩
      · rename_i len e ht
        simp only [Bool.and_eq_true, decide_eq_true_eq] at h5
        obtain ⟨⟨⟨h5, h6⟩, h7⟩, h8⟩ := h5
        obtain rfl := Nat.eq_of_beq_eq_true h5
        exact .inr ⟨_, ht, h6, h7, h8⟩
      · simp at h5
  case unOp op t x => cases i <;> simp only [okI, Bool.false_eq_true, Bool.and_eq_true, decide_eq_true_eq] at h; obtain ⟨rfl, h⟩ := h; exact snd_un hH hF hop hi h
  case convert s t x =>
    cases i <;> simp only [okI, Bool.false_eq_true, Bool.and_eq_true] at h
    case conv k y =>
      obtain ⟨h1, h2⟩ := h
      split at h2
      · rw [kindEq_iff] at h2; subst h2; exact snd_conv hH hF hop hi h1 (by assumption) (by assumption)
      · simp at h2
    case s2b y =>
      obtain ⟨h1, h2⟩ := h
      split at h2
      · split at h2
        · exact snd_s2b hH hF hop hi h1 (by assumption) (by assumption) (by assumption)
        · simp at h2
      · simp at h2
    case b2s y =>
      obtain ⟨h1, h2⟩ := h
      split at h2
      · split at h2
        · exact snd_b2s hH hF hop hi h1 (by assumption) (by assumption) (by assumption)
        · simp at h2
      · simp at h2
    case mov y =>
      obtain ⟨h1, h2⟩ := h
      split at h2
      · rename_i h3 h4 h5
        cases h5
        refine Snd.pure hH fun R hs => ?_
        simp only [evalI, e_mov, hi, E.sat] at hs
        have hr := ev_rel hF h1
        rename_i s0
        have hv : ∃ y, a.eval x = .string y := by
          generalize a.eval x = xe at hr
          simp only [ev] at hr
          cases hr; exact ⟨_, rfl⟩
        obtain ⟨y, hy⟩ := hv
        refine ⟨_, a.eval x, hs, ?_, hr⟩
        have : (convert s t (.string y)).run P w = .ok (.string y) w := by
          unfold convert
          simp only [Sem.run_bind, run_und h3, run_und h4, Result.andThen, Sem.run_pure]
        simp only [execOp, hop, hy, Sem.run_bind, this, Result.andThen, Sem.run_pure]
      · simp at h2
  case fieldAddr s x f =>
    cases i <;> simp only [okI, Bool.false_eq_true, Bool.and_eq_true] at h
    case lea off y =>
      obtain ⟨h1, h2⟩ := h
      split at h2
      · split at h2
        · rename_i fd hfd
          simp only [Bool.and_eq_true] at h2
          obtain ⟨h2, h3⟩ := h2
          split at h3
          · rename_i n hn
            exact snd_lea hH hF hop hi h1 (by assumption) hfd (Nat.eq_of_beq_eq_true h2) hn (fun e => by rw [e] at h3; simp at h3)
          · simp at h3
        · simp at h2
      · simp at h2
  case indexAddr t x ix =>
    cases i <;> simp only [okI, Bool.false_eq_true, Bool.and_eq_true] at h
    case ixA n sz y iy =>
      obtain ⟨⟨h1, h2⟩, h3⟩ := h
      split at h3
      · simp only [Bool.and_eq_true, decide_eq_true_eq] at h3
        obtain ⟨h3, h4⟩ := h3
        obtain rfl := Nat.eq_of_beq_eq_true h3
        exact snd_ixA hH hF hop hi h1 h2 (by assumption) h4
      · simp at h3
    case ixS sz y iy =>
      obtain ⟨⟨h1, h2⟩, h3⟩ := h
      split at h3
      · exact snd_ixS hH hF hop hi h1 h2 (by assumption) (of_decide_eq_true h3)
      · simp at h3
  case index t x ix =>
    cases i <;> simp only [okI, Bool.false_eq_true, Bool.and_eq_true] at h
    case ixV n sz ag y iy =>
      obtain ⟨⟨h1, h2⟩, h3⟩ := h
      split at h3
      · simp only [Bool.and_eq_true, decide_eq_true_eq] at h3
        obtain ⟨⟨h3, h4⟩, h5⟩ := h3
        obtain rfl := Nat.eq_of_beq_eq_true h3
        exact snd_ixV hH hF hop hi h1 h2 (by assumption) h4 h5
      · simp at h3
    case ixStr y iy => exact snd_ixStr hH hF hop hi h.1.1 h.1.2 (und_str h.2)
  case field t x f =>
    cases i <;> simp only [okI, Bool.false_eq_true, Bool.and_eq_true] at h
    case fld off sz ag y =>
      obtain ⟨h1, h2⟩ := h
      split at h2
      · split at h2
        · rename_i fd hfd
          simp only [Bool.and_eq_true, decide_eq_true_eq] at h2
          obtain ⟨⟨h2, h3⟩, h4⟩ := h2
          exact snd_fld hH hF hop hi h1 (by assumption) hfd (Nat.eq_of_beq_eq_true h2) h3 h4
        · simp at h2
      · simp at h2
  case nilCheck x => cases i <;> simp only [okI, Bool.false_eq_true] at h; exact snd_nilc hH hF hop hi h
  case extract x n => cases i <;> simp only [okI, Bool.false_eq_true, Bool.and_eq_true] at h; obtain ⟨h, h2⟩ := h; obtain rfl := Nat.eq_of_beq_eq_true h2; exact snd_ext hH hF hop hi h
  case load t x => cases i <;> simp only [okI, Bool.false_eq_true, Bool.and_eq_true, decide_eq_true_eq] at h; exact snd_load hH hF hop hi h.1.1 h.1.2 h.2
  case store t x v => cases i <;> simp only [okI, Bool.false_eq_true, Bool.and_eq_true, decide_eq_true_eq] at h; exact snd_store hH hF hop hi h.1.1 h.1.2 h.2
  case alloc e =>
    cases i <;> simp only [okI, Bool.false_eq_true, Bool.and_eq_true] at h
    obtain ⟨_, h⟩ := h
    split at h
    · exact snd_alloc hH hop hi (by assumption) h
    · simp at h
  case box e x => cases i <;> simp only [okI, Bool.false_eq_true] at h; exact snd_box hH hF hop hi h
  case build t parts =>
    cases i <;> simp only [okI, Bool.false_eq_true, Bool.and_eq_true] at h
    rename_i z parts'
    obtain ⟨⟨h1, h2⟩, h3⟩ := h
    split at h1
    case h_2 => simp at h1
    rename_i zv hz
    split at h3
    · rename_i fields ht
      simp only [Bool.and_eq_true] at h3
      obtain ⟨h3, h4⟩ := h3
      obtain ⟨place, hb, hp⟩ := built_struct hz ht h3
      obtain ⟨hl, hq⟩ := okPartsS_at _ _ h4
      refine snd_build hH hF hop hi h1 h2 hb hl fun q i x off size y e1 e2 => ?_
      obtain ⟨⟨f, hf, rfl, hs⟩, ho⟩ := hq q i x off size y e1 e2
      exact ⟨hp i f size hf hs, ho⟩
    · rename_i n e ht
      split at h3
      · rename_i sz hs
        obtain ⟨hl, hq⟩ := okPartsA_at _ _ h3
        refine snd_build hH hF hop hi h1 h2 (built_array hz ht hs) hl fun q i x off size y e1 e2 => ?_
        obtain ⟨⟨rfl, rfl⟩, ho⟩ := hq q i x off size y e1 e2
        exact ⟨rfl, ho⟩
      · simp at h3
    · simp at h3
  case buildSlice t len parts =>
    cases i <;> simp only [okI, Bool.false_eq_true, Bool.and_eq_true] at h
    rename_i sz len' z parts'
    obtain ⟨⟨h1, h2⟩, h3⟩ := h
    obtain rfl := Nat.eq_of_beq_eq_true h1
    split at h3
    · rename_i e ht
      simp only [Bool.and_eq_true, decide_eq_true_eq] at h3
      obtain ⟨⟨⟨h3, h4⟩, h5⟩, h6⟩ := h3
      split at h5
      · rename_i zv hz
        simp only [Bool.and_eq_true] at h5
        obtain ⟨⟨h5, h7⟩, h8⟩ := h5
        obtain ⟨hl, hq⟩ := okPartsA_at _ _ h6
        exact snd_bsl hH hF hop hi ht h3 (Nat.le_of_ble_eq_true h4) hz (Nat.eq_of_beq_eq_true h7) (fun e => by rw [e] at h8; simp at h8) h5 h2 hl hq
      · simp at h5
    · simp at h3
  case makeSlice t l c =>
    cases i <;> simp only [okI, Bool.false_eq_true, Bool.and_eq_true] at h
    rename_i sz bytes z l' c'
    obtain ⟨⟨⟨⟨h1, h2⟩, h3⟩, h4⟩, h5⟩ := h
    split at h5
    · rename_i e ht
      simp only [Bool.and_eq_true, decide_eq_true_eq] at h5
      obtain ⟨⟨h5, h6⟩, h7⟩ := h5
      split at h7
      · rename_i zv hz
        simp only [Bool.and_eq_true] at h7
        exact snd_mks hH hF hop hi h1 h2 ht h5 h6 hz (Nat.eq_of_beq_eq_true h7.2) (fun e => by rw [e] at h4; simp at h4) h7.1
      · simp at h7
    · simp at h5
  case slice t x lo hi0 mx =>
    simp only [okI, Bool.and_eq_true, Option.isNone_iff_eq_none] at h
    obtain ⟨rfl, h⟩ := h
    cases i <;> simp only [Bool.false_eq_true, Bool.and_eq_true] at h
    case slStr y lo' hi' => exact snd_slStr hH hF hop hi h.1.1.1 h.1.1.2 h.1.2 (und_str h.2)
    case slSl sz y lo' hi' =>
      obtain ⟨⟨⟨h1, h2⟩, h3⟩, h4⟩ := h
      split at h4
      · exact snd_slSl hH hF hop hi h1 h2 h3 (by assumption) (of_decide_eq_true h4)
      · simp at h4
    case slArr n sz y lo' hi' =>
      obtain ⟨⟨⟨h1, h2⟩, h3⟩, h4⟩ := h
      split at h4
      · simp only [Bool.and_eq_true, decide_eq_true_eq] at h4
        obtain ⟨h4, h5⟩ := h4
        obtain rfl := Nat.eq_of_beq_eq_true h4
        exact snd_slArr hH hF hop hi h1 h2 h3 (by assumption) h5
      · simp at h4
  case makeInterface t x =>
    cases i <;> simp only [okI, Bool.false_eq_true, Bool.and_eq_true] at h
    obtain ⟨⟨h1, h2⟩, h3⟩ := h
    obtain rfl := Nat.eq_of_beq_eq_true h2
    split at h3
    · simp at h3
    · rename_i d hd
      exact snd_mkif hH hF hop hi h1 hd (fun e he => by subst he; simp_all)
    · simp at h3
  case makeFunc fn first caught =>
    cases fn <;> simp only [okI, Bool.false_eq_true] at h
    cases i <;> simp only [Bool.false_eq_true, Bool.and_eq_true, Array.isEmpty_iff] at h
    exact snd_mkfn hH hF hop hi (Nat.eq_of_beq_eq_true h.1.1) h.1.2 h.2
  case call c =>
    obtain ⟨callee, args, tys⟩ := c
    have two : ∀ {x y : Operand}, args.toList = [x, y] → args = #[x, y] := fun e => Array.ext' (by simpa using e)
    have one : ∀ {x : Operand}, args.toList = [x] → args = #[x] := fun e => Array.ext' (by simpa using e)
    cases callee with
    | invoke r n => simp [okI] at h
    | builtin b =>
      cases b <;> simp only [okI, Bool.false_eq_true] at h
      case len =>
        cases i <;> try simp only [Bool.false_eq_true] at h
        case len y =>
          split at h
          · rename_i x t e1 e2
            obtain rfl := one e1
            obtain rfl : tys = #[t] := Array.ext' (by simpa using e2)
            simp only [Bool.and_eq_true] at h
            obtain ⟨h1, h2⟩ := h
            split at h2
            · exact snd_len hH hF hop hi h1 (by assumption)
            · simp at h2
          · simp at h
        case lenS y =>
          split at h
          · rename_i x t e1 e2
            obtain rfl := one e1
            obtain rfl : tys = #[t] := Array.ext' (by simpa using e2)
            simp only [Bool.and_eq_true] at h
            exact snd_lenS hH hF hop hi h.1 (und_str h.2)
          · simp at h
        case mov y =>
          split at h
          · rename_i e0; cases e0
          · rename_i e0; cases e0
          · rename_i n e0
            cases e0
            split at h
            · rename_i x t e1 e2
              obtain rfl := one e1
              obtain rfl : tys = #[t] := Array.ext' (by simpa using e2)
              split at h
              · exact snd_lenA hH hop hi (by assumption) (of_decide_eq_true h)
              · simp at h
            · simp at h
          · simp at h
      case append =>
        cases i <;> try simp only [Bool.false_eq_true] at h
        rename_i sz bytes y z
        split at h
        · rename_i x s t u e1 e2
          obtain rfl := two e1
          obtain rfl : tys = #[t, u] := Array.ext' (by simpa using e2)
          simp only [Bool.and_eq_true] at h
          obtain ⟨⟨h1, h2⟩, h3⟩ := h
          split at h3
          · rename_i e d ht hu
            simp only [Bool.and_eq_true, decide_eq_true_eq] at h3
            obtain ⟨⟨⟨⟨h3, h4⟩, h5⟩, h6⟩, h7⟩ := h3
            split at h7
            · rename_i zv hz
              exact snd_app hH hF hop hi h1 h2 ht hu (fun k e => by subst e; simp at h3) h4 h5 hz (fun e => by rw [e] at h6; simp at h6) (Nat.eq_of_beq_eq_true h7)
            · simp at h7
          · simp at h3
        · simp at h
      case copy =>
        cases i <;> try simp only [Bool.false_eq_true] at h
        split at h
        · rename_i x s t r e1 e2
          obtain rfl := two e1
          simp only [Bool.and_eq_true] at h
          obtain ⟨⟨h1, h2⟩, h3⟩ := h
          split at h3
          · exact snd_cpy hH hF hop (by rw [← Array.getElem?_toList, e2]; rfl) hi h1 h2 (by assumption) (of_decide_eq_true h3)
          · simp at h3
        · simp at h
      case min =>
        cases i <;> simp only [Bool.false_eq_true, Bool.and_eq_true, Bool.not_eq_true'] at h
        obtain ⟨rfl, h⟩ := h
        split at h
        · rename_i x s e1
          obtain rfl := two e1
          simp only [Bool.and_eq_true] at h
          exact snd_mm (mx := false) hH hF hop hi h.1 h.2
        · simp at h
      case max =>
        cases i <;> simp only [Bool.false_eq_true, Bool.and_eq_true] at h
        obtain ⟨rfl, h⟩ := h
        split at h
        · rename_i x s e1
          obtain rfl := two e1
          simp only [Bool.and_eq_true] at h
          exact snd_mm (mx := true) hH hF hop hi h.1 h.2
        · simp at h
    | value x =>
      cases x
      case func f =>
        cases i <;> simp only [okI, Bool.false_eq_true, Bool.and_eq_true] at h
        case call p ys => obtain ⟨h1, h2⟩ := h; obtain rfl := Nat.eq_of_beq_eq_true h1; exact snd_call hΓ hH hF hop hi h2
        case add64 x y c => obtain ⟨h1, h2⟩ := h; obtain rfl := Nat.eq_of_beq_eq_true h2; exact snd_carry (sub := false) hH hF hop hi h1 hX
        case sub64 x y c => obtain ⟨h1, h2⟩ := h; obtain rfl := Nat.eq_of_beq_eq_true h2; exact snd_carry (sub := true) hH hF hop hi h1 hY
      all_goals
        cases i <;> simp only [okI, Bool.false_eq_true, Bool.and_eq_true] at h
        exact snd_callv hΓ hH hF hop hi h.1 h.2
  all_goals (simp [okI] at h; done)
end Go.AE
