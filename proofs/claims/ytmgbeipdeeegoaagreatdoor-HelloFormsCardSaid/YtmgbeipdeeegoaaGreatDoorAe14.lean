/- An abstract evaluator of translated Go code, fourteenth part: code, functions. -/
import Derived.Test.YtmgbeipdeeegoaaGreatDoorAe13
namespace Go.AE
open Go.RowKit

variable {P : Program} {X : FuncId × FuncId} {Γ : Tr Ent} {B N : Nat} {w0 : World} {m0 m : Mp} {S : St} {a : Act} {w : World}

/-- A region whose order is open: whatever it is drawn to be. (Shown of those that the checker of the next part lets pass.) -/
def DrawOk (P : Program) (Γ : Tr Ent) (N : Nat) (ops : Array Oper) (ops' : List O) : Prop :=
  ∀ (B : Nat) (w0 : World) (m0 m : Mp) (S : St) (a : Act) (w : World) (k : St → T) (Q : L → Prop) (Qx : Exit → Act → World → Prop) (id : Nat), Rep B w0 m0 m N S a w → wpT (opsT Γ ops' S k) Q →
    (∀ m' S' a' w', Rep B w0 m0 m' N S' a' w' → wpT (k S') Q → Qx .normal a' w') → (Code.region id ops true).wp P Qx a w

/-- 'D': the checker for regions whose order is open. -/
def okC (P : Program) (X : FuncId × FuncId) (D : Array Oper → List O → Bool) (N : Nat) : Code → C → Bool
  | .skip, .skip => true
  | .region _ ops draw, .reg ops' _ => okOs P X N ops ops.toList ops' && (match draw with | true => D ops ops' | false => true)
  | .seq a b, .seq a' b' => okC P X D N a a' && okC P X D N b b'
  | .cond x a b, .cond x' a' b' => okOpd x x' && okC P X D N a a' && okC P X D N b b'
  | .block i c, .block i' c' => Nat.beq i i' && okC P X D N c c'
  | .loop c, .loop c' => okC P X D N c c'
  | .exit i, .exit i' => Nat.beq i i'
  | .ret, .ret => true
  | _, .bad => true
  | _, _ => false

def toExit : Ex → Exit
  | .norm => .normal
  | .exit i => .exit i
  | .ret => .ret

theorem exec_skip (S : St) (k : Ex → St → T) : exec Γ .skip S k = k .norm S := rfl
theorem exec_reg (ops : List O) (tot : Nat) (S : St) (k : Ex → St → T) : exec Γ (.reg ops tot) S k = opsT Γ ops S (regK tot k) := rfl
theorem exec_seq (a b : C) (S : St) (k : Ex → St → T) : exec Γ (.seq a b) S k = exec Γ a S fun ex S => match ex with | .norm => exec Γ b S k | .exit id => k (.exit id) S | .ret => k .ret S := rfl
theorem exec_cond (x : Opd) (a b : C) (S : St) (k : Ex → St → T) : exec Γ (.cond x a b) S k = match ev S.tm x with
    | .bool t => .br t (exec Γ a ⟨setLit S.tm x true, S.hp, S.nx⟩ k) (exec Γ b ⟨setLit S.tm x false, S.hp, S.nx⟩ k)
    | _ => .fail := rfl
theorem exec_block (i : Nat) (c : C) (S : St) (k : Ex → St → T) : exec Γ (.block i c) S k = exec Γ c S fun ex S => match ex with
    | .exit j => (match Nat.beq j i with | true => k .norm S | false => k (.exit j) S)
    | .norm => k .norm S
    | .ret => k .ret S := rfl
theorem exec_loop (c : C) (S : St) (k : Ex → St → T) : exec Γ (.loop c) S k = .loop (fun S => exec Γ c S fun ex S => .leaf (.ret ex S)) S k := rfl
theorem exec_exit (i : Nat) (S : St) (k : Ex → St → T) : exec Γ (.exit i) S k = k (.exit i) S := rfl
theorem exec_ret (S : St) (k : Ex → St → T) : exec Γ .ret S k = k .ret S := rfl

theorem Rep.keys {nx : P2} (h : Rep B w0 m0 m N S a w) : Rep B w0 m0 m N ⟨S.tm, S.hp, nx⟩ a w := ⟨h.defers, h.size, h.fr, h.hp, h.le⟩

theorem setLit_eq {x : Opd} {b : Bool} (h : ev S.tm x = .bool b) : setLit S.tm x b = S.tm := by
  cases x with
  | c v => rfl
  | s p =>
    rw [ev_s] at h
    cases hg : S.tm.get p with
    | none => rw [hg] at h; cases h
    | some v => rw [hg] at h; cases h; exact Tr.set_get p S.tm hg

theorem code_sound (hX : ExtOk P X.1 add64Entry) (hY : ExtOk P X.2 sub64Entry) (hΓ : ΓOk P Γ) {D : Array Oper → List O → Bool} (hD : ∀ ops ops', okOs P X N ops ops.toList ops' = true → D ops ops' = true → DrawOk P Γ N ops ops') :
    ∀ (c : Code) (c' : C) (m : Mp) (S : St) (a : Act) (w : World) (k : Ex → St → T) (Q : L → Prop) (Qx : Exit → Act → World → Prop), okC P X D N c c' = true → Rep B w0 m0 m N S a w → wpT (exec Γ c' S k) Q →
      (∀ ex m' S' a' w', Rep B w0 m0 m' N S' a' w' → wpT (k ex S') Q → Qx (toExit ex) a' w') → c.wp P Qx a w := by
  intro c
  induction c with
  | skip => intro c' m S a w k Q Qx hok hr h hK; cases c' <;> (try exact h.elim) <;> simp only [okC, Bool.false_eq_true] at hok; exact wp_skip (hK .norm m S a w hr h)
  | ret => intro c' m S a w k Q Qx hok hr h hK; cases c' <;> (try exact h.elim) <;> simp only [okC, Bool.false_eq_true] at hok; exact wp_ret (hK .ret m S a w hr h)
  | exit i =>
    intro c' m S a w k Q Qx hok hr h hK
    cases c' <;> (try exact h.elim) <;> simp only [okC, Bool.false_eq_true] at hok
    obtain rfl := Nat.eq_of_beq_eq_true hok
    exact wp_exit (hK (.exit i) m S a w hr h)
  | region id ops draw =>
    intro c' m S a w k Q Qx hok hr h hK
    cases c' <;> (try exact h.elim) <;> simp only [okC, Bool.false_eq_true, Bool.and_eq_true] at hok
    rename_i ops' tot
    obtain ⟨h1, h2⟩ := hok
    rw [exec_reg] at h
    have fin : ∀ m' S' a' w', Rep B w0 m0 m' N S' a' w' → wpT (regK tot k S') Q → Qx .normal a' w' := by
      intro m' S' a' w' hr' h'
      cases tot with
      | zero => exact hK .norm m' S' a' w' hr' h'
      | succ t => exact hK .norm m' _ a' w' (hr'.keys) h'
    cases draw with
    | false => exact wp_region_list (ops_sound hX hY hΓ fin ops.toList ops' m S a w h1 hr h)
    | true => exact hD ops ops' h1 h2 B w0 m0 m S a w _ Q Qx id hr h fin
  | seq x y ihx ihy =>
    intro c' m S a w k Q Qx hok hr h hK
    cases c' <;> (try exact h.elim) <;> simp only [okC, Bool.false_eq_true, Bool.and_eq_true] at hok
    rename_i x' y'
    rw [exec_seq] at h
    refine wp_seq (ihx x' m S a w _ Q _ hok.1 hr h fun ex m' S' a' w' hr' h' => ?_)
    cases ex with
    | norm => exact ihy y' m' S' a' w' k Q Qx hok.2 hr' h' hK
    | exit i => exact hK (.exit i) m' S' a' w' hr' h'
    | ret => exact hK .ret m' S' a' w' hr' h'
  | cond x c1 c2 ih1 ih2 =>
    intro c' m S a w k Q Qx hok hr h hK
    cases c' <;> (try exact h.elim) <;> simp only [okC, Bool.false_eq_true, Bool.and_eq_true] at hok
    rename_i x' c1' c2'
    obtain ⟨⟨hx, hok1⟩, hok2⟩ := hok
    rw [exec_cond] at h
    have hv := ev_rel hr.fr hx
    cases he : ev S.tm x' with
    | bool t =>
      rw [he] at h hv
      have hxe : a.eval x = .bool t := by
        generalize a.eval x = xe at hv
        cases hv; rfl
      refine wp_cond hxe ?_
      cases t with
      | true => have := h.1 rfl; rw [setLit_eq he] at this; exact ih1 c1' m S a w k Q Qx hok1 hr this hK
      | false => have := h.2 rfl; rw [setLit_eq he] at this; exact ih2 c2' m S a w k Q Qx hok2 hr this hK
    | _ => rw [he] at h; exact h.elim
  | block i c ih =>
    intro c' m S a w k Q Qx hok hr h hK
    cases c' <;> (try exact h.elim) <;> simp only [okC, Bool.false_eq_true, Bool.and_eq_true] at hok
    rename_i i' c1
    obtain ⟨h1, h2⟩ := hok
    obtain rfl := Nat.eq_of_beq_eq_true h1
    rw [exec_block] at h
    refine wp_block (ih c1 m S a w _ Q _ h2 hr h fun ex m' S' a' w' hr' h' => ?_)
    cases ex with
    | norm => exact hK .norm m' S' a' w' hr' h'
    | ret => exact hK .ret m' S' a' w' hr' h'
    | exit j =>
      show if j = i then _ else _
      by_cases e : j = i
      · subst e
        rw [if_pos rfl]
        simp only [Nat.beq_refl] at h'
        exact hK .norm m' S' a' w' hr' h'
      · rw [if_neg e]
        have hb : Nat.beq j i = false := by cases hq : Nat.beq j i; rfl; exact absurd (Nat.eq_of_beq_eq_true hq) e
        simp only [hb] at h'
        exact hK (.exit j) m' S' a' w' hr' h'
  | loop c ih =>
    intro c' m S a w k Q Qx hok hr h hK
    cases c' <;> (try exact h.elim) <;> simp only [okC, Bool.false_eq_true] at hok
    rename_i c1
    rw [exec_loop] at h
    obtain ⟨n, h⟩ := h
    have key : ∀ n m S a w, Rep B w0 m0 m N S a w → loopN (fun S Q => wpT (exec Γ c1 S fun ex S => .leaf (.ret ex S)) Q) Q (fun ex S => wpT (k ex S) Q) n S →
        ∀ (b : Frame) (kk : List Item) (cs : List Frame), ∃ e a' w', Qx e a' w' ∧ Arrives P (lone (b.at a (.code c :: .inLoop c :: kk)) cs w) b kk cs e a' w' := by
      intro n
      induction n with
      | zero => intro m S a w _ h; exact h.elim
      | succ n ihn =>
        intro m S a w hr h b kk cs
        obtain ⟨e, a1, w1, hq, harr⟩ := ih c1 m S a w _ _ (fun e a' w' => match e with
          | .normal => ∃ m' S', Rep B w0 m0 m' N S' a' w' ∧ loopN (fun S Q => wpT (exec Γ c1 S fun ex S => .leaf (.ret ex S)) Q) Q (fun ex S => wpT (k ex S) Q) n S'
          | e => Qx e a' w') hok hr h (fun ex m' S' a' w' hr' h' => by
            cases ex with
            | norm => exact ⟨m', S', hr', h'⟩
            | exit i => exact hK (.exit i) m' S' a' w' hr' h'
            | ret => exact hK .ret m' S' a' w' hr' h') b (.inLoop c :: kk) cs
        cases e with
        | normal =>
          obtain ⟨m', S', hr', h'⟩ := hq
          obtain ⟨e2, a2, w2, hq2, harr2⟩ := ihn m' S' a1 w1 hr' h' b kk cs
          exact ⟨e2, a2, w2, hq2, .of_steps (Steps.trans harr (.one step_inLoop)) harr2⟩
        | exit id => exact ⟨_, a1, w1, hq, .pass (x := .inLoop c) rfl (fun _ _ => .inl (by simp)) harr⟩
        | goto l => exact ⟨_, a1, w1, hq, .pass (x := .inLoop c) rfl (fun _ _ => .inl (by simp)) harr⟩
        | ret => exact ⟨_, a1, w1, hq, .pass (x := .inLoop c) rfl (fun _ _ => .inl (by simp)) harr⟩
        | panic ch => exact ⟨_, a1, w1, hq, .pass (x := .inLoop c) rfl (fun _ _ => .inl (by simp)) harr⟩
        | outgrown => exact ⟨_, a1, w1, hq, .pass (x := .inLoop c) rfl (fun _ _ => .inl (by simp)) harr⟩
    intro b kk cs
    obtain ⟨e, a', w', hq, harr⟩ := key n m S a w hr h b kk cs
    exact ⟨e, a', w', hq, .of_steps (.one step_loop) harr⟩
  | rangeFunc f ps as b _ _ => intro c' m S a w k Q Qx hok hr h hK; cases c' <;> (try exact h.elim) <;> simp [okC] at hok
  | scope c _ => intro c' m S a w k Q Qx hok hr h hK; cases c' <;> (try exact h.elim) <;> simp [okC] at hok
  | label l => intro c' m S a w k Q Qx hok hr h hK; cases c' <;> (try exact h.elim) <;> simp [okC] at hok
  | goto l => intro c' m S a w k Q Qx hok hr h hK; cases c' <;> (try exact h.elim) <;> simp [okC] at hok
  | refuse s => intro c' m S a w k Q Qx hok hr h hK; cases c' <;> (try exact h.elim) <;> simp [okC] at hok
end Go.AE
