/- An abstract evaluator of translated Go code, eleventh part: carries, calls; every operation. -/
import Derived.Test.YtmgbeipdeeegoaaGreatDoorAe10
namespace Go.AE
open Go.RowKit

variable {P : Program} {Γ : Tr Ent} {B N : Nat} {w0 : World} {m : Mp} {S : St} {o : Oper} {o' : O} {a : Act} {w : World}

def sub64Entry : Array Value → Sem Value := fun args => do
  let (x, y, b) ← Extern.MathBitsCarry.three "Sub64" args
  pure (Extern.MathBitsCarry.pair ((x + Extern.MathBitsCarry.m64 - y - b) % Extern.MathBitsCarry.m64) (if x < y + b then 1 else 0))

/-- A function without a body, of a row of the model's. -/
def ExtOk (P : Program) (f : FuncId) (e : Array Value → Sem Value) : Prop :=
  ∃ fn, P.funcs[f]? = some fn ∧ (fn.name == "runtime.NumGoroutine") = false ∧ fn.body.isNone = true ∧ Extern.findNext fn = none ∧ Extern.find fn = some e

def FnOk (P : Program) (f : FuncId) : Prop := ∃ fn, P.funcs[f]? = some fn ∧ (fn.name == "runtime.NumGoroutine") = false ∧ fn.body.isNone = false

/-- A contract: what a call comes to, whatever the memory that it finds. -/
def Sound (P : Program) (f : FuncId) (t : Tc) : Prop :=
  ∀ (B : Nat) (w0 : World) (m : Mp) (hp : Tr Reg) (w : World) (args : List V) (xs : List Value) (nx : P2) (Q : L → Prop), HRep B w0 m hp w → VRels m args xs → wpT (t args hp nx) Q →
    Calls P f ⟨xs⟩ w fun e w' => ∃ v hp' nx' m' x, Q (.val v hp' nx') ∧ e = .returned x ∧ m.le m' ∧ VRel m' v x ∧ HRep B w0 m' hp' w'

noncomputable def Ent.tc : Ent → Tc
  | .f F kd => fun args hp nx => match kd with
    | 0 => .optV (pureV (F args .e .h)) fun v => .leaf (.val v hp nx)
    | 1 => .optV (pureV (F args hp .h)) fun v => .leaf (.val v hp nx)
    | _ => .optR (F args hp nx) fun r => .leaf (.val r.1 r.2.1 r.2.2)
  | .t q _ => q

def ΓOk (P : Program) (Γ : Tr Ent) : Prop := ∀ p e, Γ.get p = some e → FnOk P p.toNat ∧ Sound P p.toNat e.tc

theorem run_callFunc {f : FuncId} (h : FnOk P f) (args : Array Value) (w : World) : (callFunc f args).run P w = .ok (.enter f args) w := by
  obtain ⟨fn, h1, h2, h3⟩ := h
  have h2' : fn.name ≠ "runtime.NumGoroutine" := by simpa using h2
  have h3' : fn.body ≠ none := fun e => by rw [e] at h3; simp at h3
  simp [callFunc, h1, h2', h3']

theorem callE_sound (hΓ : ΓOk P Γ) (hH : HRep B w0 m S.hp w) {p : P2} {args : List V} {xs : List Value} (hr : VRels m args xs) {s : Sem Next} (hs : s.run P w = (callFunc p.toNat ⟨xs⟩).run P w) (R : V → Tr Reg → P2 → Prop) (K : Value → World → Prop)
    (h : (callE Γ S o' p args).sat S.hp S.nx o'.adv R) (hK : ∀ v hp nx m' x w', R v hp nx → m.le m' → VRel m' v x → HRep B w0 m' hp w' → K x w') : Does P s w K := by
  unfold callE at h
  cases hg : Γ.get p with
  | none => rw [hg] at h; exact h.elim
  | some e =>
    rw [hg] at h
    obtain ⟨hf, hsound⟩ := hΓ p e hg
    unfold Does
    rw [hs, run_callFunc hf]
    cases e with
    | f F kd =>
      simp only at h
      have fin : ∀ (Q : L → Prop), wpT ((Ent.f F kd).tc args S.hp (S.nx.plus o'.off)) Q → (∀ v hp' nx', Q (.val v hp' nx') → ∃ nx'', R v hp' nx'') → Calls P p.toNat ⟨xs⟩ w fun e w'' => match e with | .returned v => K v w'' | _ => False := by
        intro Q hw hQ
        refine (hsound B w0 m S.hp w args xs (S.nx.plus o'.off) Q hH hr hw).mono fun e w' hq => ?_
        obtain ⟨v, hp', nx', m', x, hq, rfl, hle, hv, hH'⟩ := hq
        obtain ⟨nx'', hR⟩ := hQ _ _ _ hq
        exact hK _ _ _ _ _ _ hR hle hv hH'
      split at h
      · obtain ⟨v, hv, hR⟩ := h
        exact fin (fun l => l = .val v S.hp (S.nx.plus o'.off)) ⟨v, hv, rfl⟩ fun v' hp' nx' e => by cases e; exact ⟨_, hR⟩
      · obtain ⟨v, hv, hR⟩ := h
        exact fin (fun l => l = .val v S.hp (S.nx.plus o'.off)) ⟨v, hv, rfl⟩ fun v' hp' nx' e => by cases e; exact ⟨_, hR⟩
      · rename_i k0 k1
        obtain ⟨r, hr', hR⟩ := h
        refine fin (fun l => l = .val r.1 r.2.1 r.2.2) ?_ fun v' hp' nx' e => by cases e; exact ⟨_, hR⟩
        simp only [Ent.tc]
        exact ⟨r, hr', rfl⟩
    | t t kd =>
      have := hsound B w0 m S.hp w args xs (S.nx.plus o'.off) _ hH hr h
      refine this.mono fun e w' hq => ?_
      obtain ⟨v, hp', nx', m', x, hq, rfl, hle, hv, hH'⟩ := hq
      exact hK _ _ _ _ _ _ hq hle hv hH'

theorem snd_call (hΓ : ΓOk P Γ) (hH : HRep B w0 m S.hp w) (hF : FRel m N S.tm a.eval) {p : P2} {args : Array Operand} {tys : Array TypeId} {ys : List Opd} (hop : o.op = .call ⟨.value (.func p.toNat), args, tys⟩) (hi : o'.i = .call p ys)
    (hy : okOpds args.toList ys = true) : Snd P Γ B w0 m S o' w (execOp a.eval o) := by
  intro R K hs hK
  simp only [evalI, e_call, hi] at hs
  refine callE_sound hΓ hH (evs_rel hF hy) (s := execOp a.eval o) ?_ R K hs hK
  have : args.map a.eval = ⟨args.toList.map a.eval⟩ := by apply Array.ext'; simp
  simp [execOp, hop, resolve, invoke, Act.eval, Deferred.ofValue, this]

theorem snd_callv (hΓ : ΓOk P Γ) (hH : HRep B w0 m S.hp w) (hF : FRel m N S.tm a.eval) {x : Operand} {x' : Opd} {args : Array Operand} {tys : Array TypeId} {ys : List Opd} (hop : o.op = .call ⟨.value x, args, tys⟩) (hi : o'.i = .callv x' ys)
    (hx : okOpd x x' = true) (hy : okOpds args.toList ys = true) : Snd P Γ B w0 m S o' w (execOp a.eval o) := by
  intro R K hs hK
  simp only [evalI, e_callv, hi] at hs
  have hxr := ev_rel hF hx
  generalize ev S.tm x' = xv at hs hxr
  generalize hxe : a.eval x = xe at hxr
  split at hs
  · cases hxr
    rename_i vs hvs
    refine callE_sound hΓ hH ((evs_rel hF hy).append hvs) (s := execOp a.eval o) ?_ R K hs hK
    have : args.map a.eval = ⟨args.toList.map a.eval⟩ := by apply Array.ext'; simp
    simp [execOp, hop, resolve, invoke, hxe, Deferred.ofValue, this]
  · exact hs.elim

theorem snd_carry (hH : HRep B w0 m S.hp w) (hF : FRel m N S.tm a.eval) {f : FuncId} {sub : Bool} {args : Array Operand} {tys : Array TypeId} {x y c : Opd} (hop : o.op = .call ⟨.value (.func f), args, tys⟩)
    (hi : o'.i = (match sub with | true => .sub64 x y c | false => .add64 x y c)) (hy : okOpds args.toList [x, y, c] = true) (hf : ExtOk P f (match sub with | true => sub64Entry | false => add64Entry)) : Snd P Γ B w0 m S o' w (execOp a.eval o) :=
  .pure hH fun R hs => by
    have hr := evs_rel hF hy
    have hargs : args.map a.eval = ⟨args.toList.map a.eval⟩ := by apply Array.ext'; simp
    generalize args.toList.map a.eval = xs at hr hargs
    obtain ⟨fn, h1, h2, h3, h4, h5⟩ := hf
    have hrun : (execOp a.eval o).run P w = (callFunc f ⟨xs⟩).run P w := by
      simp [execOp, hop, resolve, invoke, Act.eval, Deferred.ofValue, hargs]
    rw [hrun, run_callFunc_extern h1 h2 h3 h4 h5]
    simp only [List.map_cons, List.map_nil] at hr
    cases hr with | cons r1 hr => cases hr with | cons r2 hr => cases hr with | cons r3 hr =>
    cases hr
    have three : ∀ (nm : String) k1 n1 k2 n2 k3 n3, n3.toNat ≤ 1 → (Extern.MathBitsCarry.three nm #[.int k1 n1, .int k2 n2, .int k3 n3]).run P w = .ok (n1.toNat, n2.toNat, n3.toNat) w := by
      intro nm k1 n1 k2 n2 k3 n3 h
      show Sem.run P (asInt (.int k3 n3) >>= fun c => if c.toNat > 1 then _ else asInt (.int k1 n1) >>= fun x => asInt (.int k2 n2) >>= fun y => pure (x.toNat, y.toNat, c.toNat)) w = _
      simp [asInt, asIntOf]
      omega
    cases sub
    · simp only [evalI, e_add64, hi] at hs
      split at hs
      · rename_i e1 e2 e3
        rw [e1] at r1; rw [e2] at r2; rw [e3] at r3
        cases r1; cases r2; cases r3
        obtain ⟨hle, hs⟩ := hs
        have hle := Nat.le_of_ble_eq_true hle
        refine ⟨_, _, hs, ?_, .tup (.cons (.int _ _) (.cons (.int _ _) .nil))⟩
        simp only [add64Entry, Sem.run_bind, three _ _ _ _ _ _ _ hle, Result.andThen, Sem.run_pure]
        rfl
      · exact hs.elim
    · simp only [evalI, e_sub64, hi] at hs
      split at hs
      · rename_i e1 e2 e3
        rw [e1] at r1; rw [e2] at r2; rw [e3] at r3
        cases r1; cases r2; cases r3
        obtain ⟨hle, hs⟩ := hs
        have hle := Nat.le_of_ble_eq_true hle
        refine ⟨_, _, hs, ?_, .tup (.cons (.int _ _) (.cons (.int _ _) .nil))⟩
        simp only [sub64Entry, Sem.run_bind, three _ _ _ _ _ _ _ hle, Result.andThen, Sem.run_pure]
        rename_i p1 p2 p3 p4 p5 p6
        by_cases hlt : p1.toNat < p3.toNat + p5.toNat
        · rw [if_pos hlt, show Nat.blt p1.toNat (p3.toNat + p5.toNat) = true from Nat.ble_eq_true_of_le hlt]
          rfl
        · rw [if_neg hlt, show Nat.blt p1.toNat (p3.toNat + p5.toNat) = false from by cases hq : Nat.blt p1.toNat (p3.toNat + p5.toNat); rfl; exact absurd (Nat.le_of_ble_eq_true hq) hlt]
          rfl
      · exact hs.elim

/-- What is asked of the two functions of carries. -/
structure XOk (P : Program) (X : FuncId × FuncId) : Prop where
  add : ∀ fn, P.funcs[X.1]? = some fn → ExtOk P X.1 add64Entry
  sub : ∀ fn, P.funcs[X.2]? = some fn → ExtOk P X.2 sub64Entry
  add' : ExtOk P X.1 add64Entry ∨ P.funcs.size ≤ X.1
  sub' : ExtOk P X.2 sub64Entry ∨ P.funcs.size ≤ X.2

theorem okPartsS_at {fields : Array Field} : ∀ (ps : List (Nat × Operand)) (qs : List (Nat × Nat × Opd)), okPartsS P fields ps qs = true → ps.length = qs.length ∧
    ∀ (q : Nat) i x off size y, ps[q]? = some (i, x) → qs[q]? = some (off, size, y) → (∃ f, fields[i]? = some f ∧ f.offset = off ∧ tSize P f.type = some size) ∧ okOpd x y = true
  | [], [], _ => ⟨rfl, fun q i x off size y h => by simp at h⟩
  | [], _ :: _, h => by simp [okPartsS] at h
  | _ :: _, [], h => by simp [okPartsS] at h
  | (i0, x0) :: ps, (off0, size0, y0) :: qs, h => by
    simp only [okPartsS, Bool.and_eq_true] at h
    obtain ⟨h0, h1⟩ := h
    obtain ⟨hl, hr⟩ := okPartsS_at ps qs h1
    refine ⟨by simp [hl], fun q i x off size y hp hq => ?_⟩
    cases q with
    | zero =>
      simp only [List.getElem?_cons_zero, Option.some.injEq, Prod.mk.injEq] at hp hq
      obtain ⟨rfl, rfl⟩ := hp
      obtain ⟨rfl, rfl, rfl⟩ := hq
      split at h0
      · rename_i f hf
        simp only [Bool.and_eq_true, decide_eq_true_eq] at h0
        exact ⟨⟨f, hf, Nat.eq_of_beq_eq_true h0.1.1, h0.1.2⟩, h0.2⟩
      · simp at h0
    | succ q => exact hr q i x off size y (by simpa using hp) (by simpa using hq)
theorem okPartsA_at {sz : Nat} : ∀ (ps : List (Nat × Operand)) (qs : List (Nat × Nat × Opd)), okPartsA sz ps qs = true → ps.length = qs.length ∧
    ∀ (q : Nat) i x off size y, ps[q]? = some (i, x) → qs[q]? = some (off, size, y) → (i * sz = off ∧ sz = size) ∧ okOpd x y = true
  | [], [], _ => ⟨rfl, fun q i x off size y h => by simp at h⟩
  | [], _ :: _, h => by simp [okPartsA] at h
  | _ :: _, [], h => by simp [okPartsA] at h
  | (i0, x0) :: ps, (off0, size0, y0) :: qs, h => by
    simp only [okPartsA, Bool.and_eq_true] at h
    obtain ⟨⟨⟨h0, h00⟩, h000⟩, h1⟩ := h
    obtain ⟨hl, hr⟩ := okPartsA_at ps qs h1
    refine ⟨by simp [hl], fun q i x off size y hp hq => ?_⟩
    cases q with
    | zero =>
      simp only [List.getElem?_cons_zero, Option.some.injEq, Prod.mk.injEq] at hp hq
      obtain ⟨rfl, rfl⟩ := hp
      obtain ⟨rfl, rfl, rfl⟩ := hq
      exact ⟨⟨Nat.eq_of_beq_eq_true h0, (Nat.eq_of_beq_eq_true h00).symm⟩, h000⟩
    | succ q => exact hr q i x off size y (by simpa using hp) (by simpa using hq)

theorem built_struct {t : TypeId} {fields : Array Field} {zv : Value} (hz : tZero P t = some zv) (ht : P.underlying t = some (.struct fields)) (hall : fields.toList.all (fun f => (tSize P f.type).isSome) = true) :
    ∃ place : Nat → Option (Nat × Nat), (∀ ps cells, Instr.fill place zv.cells ps = some cells → P.built t ps = some cells) ∧ ∀ i f size, fields[i]? = some f → tSize P f.type = some size → place i = some (f.offset, size) := by
  have hm : ∀ fs : List Field, fs.all (fun f => (tSize P f.type).isSome) = true → ∃ places, fs.mapM (fun f => (P.info? f.type).map fun i => (f.offset, i.size)) = some places ∧ ∀ (i : Nat) f size, fs[i]? = some f → tSize P f.type = some size → places[i]? = some (f.offset, size) := by
    intro fs
    induction fs with
    | nil => intro _; exact ⟨[], rfl, fun i f size h => by simp at h⟩
    | cons f fs ih =>
      intro h
      simp only [List.all_cons, Bool.and_eq_true] at h
      obtain ⟨places, hp, hq⟩ := ih h.2
      cases hi : P.info? f.type with
      | none => simp [tSize, hi] at h
      | some inf =>
        refine ⟨(f.offset, inf.size) :: places, by simp [List.mapM_cons, hi, hp], fun i f' size hf hs => ?_⟩
        cases i with
        | zero =>
          simp only [List.getElem?_cons_zero, Option.some.injEq] at hf
          subst hf
          simp only [tSize, hi, Option.map_some, Option.some.injEq] at hs
          subst hs
          rfl
        | succ i => exact hq i f' size (by simpa using hf) hs
  obtain ⟨places, hp, hq⟩ := hm _ hall
  cases hit : P.info? t with
  | none => simp [tZero, hit] at hz
  | some it =>
    have hz' : it.zero = some zv := by simpa [tZero, hit] using hz
    refine ⟨(places.toArray[·]?), fun ps cells h => ?_, fun i f size hf hs => by simpa using hq i f size (by simpa using hf) hs⟩
    unfold Program.built
    simp only [hit, ht, hz', hp]
    exact h
theorem built_array {t e : TypeId} {n sz : Nat} {zv : Value} (hz : tZero P t = some zv) (ht : P.underlying t = some (.array n e)) (hs : tSize P e = some sz) :
    ∀ ps cells, Instr.fill (fun i => some (i * sz, sz)) zv.cells ps = some cells → P.built t ps = some cells := by
  intro ps cells h
  cases hit : P.info? t with
  | none => simp [tZero, hit] at hz
  | some it =>
    have hz' : it.zero = some zv := by simpa [tZero, hit] using hz
    cases hie : P.info? e with
    | none => simp [tSize, hie] at hs
    | some ie =>
      have : ie.size = sz := by simpa [tSize, hie] using hs
      subst this
      unfold Program.built
      simp only [hit, ht, hz', hie]
      exact h
end Go.AE
