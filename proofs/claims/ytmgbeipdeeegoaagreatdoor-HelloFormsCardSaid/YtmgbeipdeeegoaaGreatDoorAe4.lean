/- An abstract evaluator of translated Go code, fourth part: which operation of the model's a resolved operation stands for. -/
import Derived.Test.YtmgbeipdeeegoaaGreatDoorAe3
import Derived.Laws.Entries
import Derived.Laws.Append
namespace Go.AE
open Go.RowKit

theorem kindEq_iff {a b : IntKind} : kindEq a b = true ↔ a = b := by cases a <;> cases b <;> simp [kindEq]
theorem byteEq_iff {a b : UInt8} : byteEq a b = true ↔ a = b := by
  unfold byteEq
  constructor
  · intro h; exact UInt8.toNat_inj.1 (Nat.eq_of_beq_eq_true h)
  · rintro rfl; exact Nat.beq_refl _
theorem strEq_iff : ∀ {a b : List UInt8}, strEq a b = true ↔ a = b
  | [], [] => by simp [strEq]
  | [], _ :: _ => by simp [strEq]
  | _ :: _, [] => by simp [strEq]
  | a :: x, b :: y => by
    simp only [strEq]
    cases h : byteEq a b with
    | true => rw [byteEq_iff] at h; subst h; simp [@strEq_iff x y]
    | false => have : a ≠ b := fun e => by rw [byteEq_iff.2 e] at h; simp at h
               simp [this]
theorem strEq_eq (a b : List UInt8) : strEq a b = (a == b) := by
  rw [Bool.eq_iff_iff, strEq_iff, beq_iff_eq]
theorem boolEq_eq (a b : Bool) : boolEq a b = (a == b) := by cases a <;> cases b <;> rfl

/-! ### What the checker asks of types -/
def tSize (P : Program) (t : TypeId) : Option Nat := (P.info? t).map (·.size)
def tBytes (P : Program) (t : TypeId) : Option Nat := (P.info? t).map (·.bytes)
def tAgg (P : Program) (t : TypeId) : Option Bool := match P.underlying t with
  | some (.struct _) => some true
  | some (.array _ _) => some true
  | some _ => some false
  | none => none
def tZero (P : Program) (t : TypeId) : Option Value := (P.info? t).bind (·.zero)
def isInt (P : Program) (t : TypeId) : Bool := match P.underlying t with | some (.int _) => true | _ => false
def isStr (P : Program) (t : TypeId) : Bool := match P.underlying t with | some .string => true | _ => false
def isBool (P : Program) (t : TypeId) : Bool := match P.underlying t with | some .bool => true | _ => false

theorem run_und {P : Program} {t : TypeId} {d : TypeDesc} (h : P.underlying t = some d) (w : World) : (underlying t).run P w = .ok d w := by
  simp [underlying, h]
theorem run_info {P : Program} {t : TypeId} {d : TypeInfo} (h : P.info? t = some d) (w : World) : (typeInfo t).run P w = .ok d w := by
  simp [typeInfo, h]
theorem run_size {P : Program} {t : TypeId} {n : Nat} (h : tSize P t = some n) (w : World) : (sizeOf t).run P w = .ok n w := by
  unfold tSize at h
  cases hi : P.info? t with
  | none => rw [hi] at h; simp at h
  | some i => rw [hi] at h; simp at h; simp [sizeOf, run_info hi, h]
theorem run_bytes {P : Program} {t : TypeId} {n : Nat} (h : tBytes P t = some n) (w : World) : ∃ i, (typeInfo t).run P w = .ok i w ∧ i.bytes = n := by
  unfold tBytes at h
  cases hi : P.info? t with
  | none => rw [hi] at h; simp at h
  | some i => rw [hi] at h; simp at h; exact ⟨i, run_info hi w, h⟩
theorem run_agg {P : Program} {t : TypeId} {b : Bool} (h : tAgg P t = some b) (w : World) : (isAgg t).run P w = .ok b w := by
  unfold tAgg at h
  cases hu : P.underlying t with
  | none => rw [hu] at h; simp at h
  | some d => rw [hu] at h; cases d <;> simp at h <;> subst h <;> simp [isAgg, run_und hu]
theorem run_zero {P : Program} {t : TypeId} {v : Value} (h : tZero P t = some v) (w : World) : (zeroValue t).run P w = .ok v w := by
  unfold tZero at h
  cases hi : P.info? t with
  | none => rw [hi] at h; simp at h
  | some i => rw [hi] at h; simp at h; simp [zeroValue, run_info hi, h]

/-! ### Constants and operands -/
def okScal : Value → V → Bool
  | .bool a, .bool b => boolEq a b
  | .int k a, .int k' b => kindEq k k' && decide (a = b)
  | .string s, .str l => strEq s.data.toList l
  | .pointer none, .nilp => true
  | .slice none l c, .nils => Nat.beq l 0 && Nat.beq c 0
  | .nilFunc, .nilf => true
  | .nilIface, .nili => true
  | .func (.func f) a b, .fn p vs => Nat.beq f p.toNat && a.isEmpty && b.isEmpty && vs.isEmpty
  | _, _ => false
def okScals : List Value → List V → Bool
  | [], [] => true
  | x :: xs, v :: vs => okScal x v && okScals xs vs
  | _, _ => false
def okConst : Value → V → Bool
  | .agg cs, .agg vs => okScals cs.toList vs
  | x, v => okScal x v
def okOpd : Operand → Opd → Bool
  | .tmp t, .s p => Nat.beq p.toNat t
  | .const x, .c v => okConst x v
  | .func f, .c (.fn p vs) => Nat.beq f p.toNat && vs.isEmpty
  | _, _ => false
def okOpds : List Operand → List Opd → Bool
  | [], [] => true
  | x :: xs, y :: ys => okOpd x y && okOpds xs ys
  | _, _ => false
def okOpdO : Option Operand → Option Opd → Bool
  | none, none => true
  | some x, some y => okOpd x y
  | _, _ => false

theorem okScal_rel {x : Value} {v : V} (h : okScal x v = true) (m : Mp) : VRel m v x := by
  unfold okScal at h
  split at h
  · rw [boolEq_eq] at h; rw [beq_iff_eq.1 h]; exact .bool _
  · simp only [Bool.and_eq_true, decide_eq_true_eq, kindEq_iff] at h; obtain ⟨rfl, rfl⟩ := h; exact .int _ _
  · rename_i s l; rw [strEq_iff] at h; subst h; exact .str _
  · exact .nilp
  · simp only [Bool.and_eq_true] at h
    rw [Nat.eq_of_beq_eq_true h.1, Nat.eq_of_beq_eq_true h.2]; exact .nils
  · exact .nilf
  · exact .nili
  · simp only [Bool.and_eq_true, Array.isEmpty_iff, List.isEmpty_iff] at h
    obtain ⟨⟨⟨h1, rfl⟩, rfl⟩, rfl⟩ := h
    rw [Nat.eq_of_beq_eq_true h1]
    exact .fn .nil
  · simp at h
theorem okScals_rel : ∀ {xs : List Value} {vs : List V}, okScals xs vs = true → ∀ m : Mp, VRels m vs xs
  | [], [], _, _ => .nil
  | [], _ :: _, h, _ => by simp [okScals] at h
  | _ :: _, [], h, _ => by simp [okScals] at h
  | _ :: _, _ :: _, h, m => by
    simp only [okScals, Bool.and_eq_true] at h
    exact .cons (okScal_rel h.1 m) (okScals_rel h.2 m)
theorem okConst_rel {x : Value} {v : V} (h : okConst x v = true) (m : Mp) : VRel m v x := by
  unfold okConst at h
  split at h
  · exact .agg (okScals_rel h m)
  · exact okScal_rel h m

def FRel (m : Mp) (N : Nat) (tm : Tr V) (ρ : Operand → Value) : Prop := ∀ p v, tm.get p = some v → p.toNat < N ∧ VRel m v (ρ (.tmp p.toNat))

section
variable {m : Mp} {N : Nat} {tm : Tr V} {a : Act}
theorem ev_rel (h : FRel m N tm a.eval) {x : Operand} {y : Opd} (ho : okOpd x y = true) : VRel m (ev tm y) (a.eval x) := by
  unfold okOpd at ho
  split at ho
  · rename_i t p
    have e := Nat.eq_of_beq_eq_true ho
    rw [ev_s]
    show VRel m (match tm.get p with | some v => v | none => V.un) _
    cases hg : tm.get p with
    | some v => rw [← e]; exact (h p v hg).2
    | none => exact .un _
  · exact okConst_rel ho m
  · simp only [Bool.and_eq_true, List.isEmpty_iff] at ho
    obtain ⟨h1, rfl⟩ := ho
    show VRel m _ (.func (.func _) #[] #[])
    rw [Nat.eq_of_beq_eq_true h1]
    exact .fn .nil
  · simp at ho
theorem evs_rel (h : FRel m N tm a.eval) : ∀ {xs : List Operand} {ys : List Opd}, okOpds xs ys = true → VRels m (ys.map (ev tm)) (xs.map a.eval)
  | [], [], _ => .nil
  | [], _ :: _, h => by simp [okOpds] at h
  | _ :: _, [], h => by simp [okOpds] at h
  | _ :: _, _ :: _, ho => by
    simp only [okOpds, Bool.and_eq_true] at ho
    exact .cons (ev_rel h ho.1) (evs_rel h ho.2)
end

/-! ### Parts of structs, arrays, slices -/
def okPartsS (P : Program) (fields : Array Field) : List (Nat × Operand) → List (Nat × Nat × Opd) → Bool
  | [], [] => true
  | (i, x) :: r, (off, size, y) :: r' => (match fields[i]? with
    | some f => Nat.beq f.offset off && decide (tSize P f.type = some size) && okOpd x y
    | none => false) && okPartsS P fields r r'
  | _, _ => false
def okPartsA (sz : Nat) : List (Nat × Operand) → List (Nat × Nat × Opd) → Bool
  | [], [] => true
  | (i, x) :: r, (off, size, y) :: r' => Nat.beq (i * sz) off && Nat.beq size sz && okOpd x y && okPartsA sz r r'
  | _, _ => false

/-- Fields, one cell each, one behind the other, of numbers, texts, truths. -/
def okCK (P : Program) (t : TypeId) : CK → Bool
  | .i => isInt P t
  | .s => isStr P t
  | .b => isBool P t
def okFlat (P : Program) : Nat → List Field → List CK → Bool
  | _, [], [] => true
  | i, f :: r, k :: ks => Nat.beq f.offset i && !(f.name == "_") && okCK P f.type k && okFlat P (i + 1) r ks
  | _, _, _ => false
def allI : List CK → Bool
  | [] => true
  | .i :: r => allI r
  | _ => false

/-- Does a resolved operation stand for one of the model's? -/
def okI (P : Program) (X : FuncId × FuncId) (op : Op) (i : I) : Bool :=
  match op with
  | .move x => (match i with | .mov y => okOpd x y | _ => false)
  | .assign x => (match i with | .mov y => okOpd x y | _ => false)
  | .pick c a b => (match i with | .pick c' a' b' => okOpd c c' && okOpd a a' && okOpd b b' | _ => false)
  | .binOp op t x y _ => (match i with
    | .bin op' x' y' => decide (op = op') && okOpd x x' && okOpd y y'
    | .eqb neg x' y' => decide (op = (ngOp neg)) && okOpd x x' && okOpd y y' && isBool P t
    | .nilq k neg x' => decide (op = (ngOp neg)) && okOpd x x' && (match k, y, P.underlying t with
      | .p, .const (.pointer none), some (.pointer _) => true
      | .s, .const (.slice none l c), some (.slice _) => Nat.beq l 0 && Nat.beq c 0
      | .f, .const .nilFunc, some (.func _ _ _) => true
      | .i, .const .nilIface, some (.interface _) => true
      | _, _, _ => false)
    | .eqs neg ks x' y' => decide (op = (ngOp neg)) && okOpd x x' && okOpd y y' && !P.eqGuardType P.depth t && !P.stoodInHeld t && (match P.underlying t with
      | some (.struct fs) => okFlat P 0 fs.toList ks
      | some (.array len e) => Nat.beq len ks.length && allI ks && isInt P e && decide (tSize P e = some 1)
      | _ => false)
    | _ => false)
  | .unOp op _ x => (match i with | .un op' y => decide (op = op') && okOpd x y | _ => false)
  | .convert src dst x => (match i with
    | .conv k y => okOpd x y && (match P.underlying src, P.underlying dst with | some _, some (.int k') => kindEq k k' | _, _ => false)
    | .s2b y => okOpd x y && (match P.underlying src, P.underlying dst with
      | some .string, some (.slice e) => (match P.underlying e with | some (.int .u8) => true | _ => false)
      | _, _ => false)
    | .b2s y => okOpd x y && (match P.underlying src, P.underlying dst with
      | some (.slice e), some .string => (match P.underlying e with | some (.int .u8) => true | _ => false)
      | _, _ => false)
    | .mov y => okOpd x y && (match P.underlying src, P.underlying dst, i with
      | some .string, some .string, .mov (.c (.str _)) => true
      | _, _, _ => false)
    | _ => false)
  | .fieldAddr s x f => (match i with
    | .lea off y => okOpd x y && (match P.underlying s with
      | some (.struct fields) => (match fields[f]? with
        | some fd => Nat.beq fd.offset off && (match tSize P fd.type with | some n => !(Nat.beq n 0) | none => false)
        | none => false)
      | _ => false)
    | _ => false)
  | .indexAddr t x ix => (match i with
    | .ixA n sz y iy => okOpd x y && okOpd ix iy && (match P.underlying t with | some (.array len e) => Nat.beq len n && decide (tSize P e = some sz) | _ => false)
    | .ixS sz y iy => okOpd x y && okOpd ix iy && (match P.underlying t with | some (.slice e) => decide (tSize P e = some sz) | _ => false)
    | _ => false)
  | .index t x ix => (match i with
    | .ixV n sz ag y iy => okOpd x y && okOpd ix iy && (match P.underlying t with | some (.array len e) => Nat.beq len n && decide (tSize P e = some sz) && decide (tAgg P e = some ag) | _ => false)
    | .ixStr y iy => okOpd x y && okOpd ix iy && isStr P t
    | _ => false)
  | .field t x f => (match i with
    | .fld off sz ag y => okOpd x y && (match P.underlying t with
      | some (.struct fields) => (match fields[f]? with
        | some fd => Nat.beq fd.offset off && decide (tSize P fd.type = some sz) && decide (tAgg P fd.type = some ag)
        | none => false)
      | _ => false)
    | _ => false)
  | .nilCheck x => (match i with | .nilc y => okOpd x y | _ => false)
  | .extract x n => (match i with | .ext n' y => okOpd x y && Nat.beq n n' | _ => false)
  | .load t x => (match i with | .load ag sz y => okOpd x y && decide (tAgg P t = some ag) && decide (tSize P t = some sz) | _ => false)
  | .store t x v => (match i with | .store sz y u => okOpd x y && okOpd v u && decide (tSize P t = some sz) | _ => false)
  | .alloc e => (match i with | .alloc z => allOk z && (match tZero P e with | some zv => okScals zv.cells.toList z | none => false) | _ => false)
  | .box _ x => (match i with | .box y => okOpd x y | _ => false)
  | .build t parts => (match i with
    | .build z parts' => (match tZero P t with | some zv => okScals zv.cells.toList z | none => false) && allOk z && (match P.underlying t with
      | some (.struct fields) => fields.toList.all (fun f => (tSize P f.type).isSome) && okPartsS P fields parts.toList parts'
      | some (.array _ e) => (match tSize P e with | some sz => okPartsA sz parts.toList parts' | none => false)
      | _ => false)
    | _ => false)
  | .buildSlice t len parts => (match i with
    | .bsl sz len' z parts' => Nat.beq len len' && allOk z && (match P.underlying t with
      | some (.slice e) => decide (tSize P e = some sz) && Nat.ble (len * sz) 16777216 && (match tZero P e with
        | some zv => okScals ((List.replicate len zv.cells.toList).flatten) z && Nat.beq zv.cells.size sz && !(Nat.beq sz 0)
        | none => false) && okPartsA sz parts.toList parts'
      | _ => false)
    | _ => false)
  | .makeSlice t l c => (match i with
    | .mks sz bytes z l' c' => okOpd l l' && okOpd c c' && allOk z && !(Nat.beq sz 0) && (match P.underlying t with
      | some (.slice e) => decide (tSize P e = some sz) && decide (tBytes P e = some bytes) && (match tZero P e with
        | some zv => okScals zv.cells.toList z && Nat.beq zv.cells.size sz
        | none => false)
      | _ => false)
    | _ => false)
  | .slice t x lo hi mx => mx.isNone && (match i with
    | .slStr y lo' hi' => okOpd x y && okOpdO lo lo' && okOpdO hi hi' && isStr P t
    | .slSl sz y lo' hi' => okOpd x y && okOpdO lo lo' && okOpdO hi hi' && (match P.underlying t with | some (.slice e) => decide (tSize P e = some sz) | _ => false)
    | .slArr n sz y lo' hi' => okOpd x y && okOpdO lo lo' && okOpdO hi hi' && (match P.underlying t with | some (.array len e) => Nat.beq len n && decide (tSize P e = some sz) | _ => false)
    | _ => false)
  | .makeInterface t x => (match i with
    | .mkif t' y => okOpd x y && Nat.beq t t' && (match P.underlying t with | some (.interface _) => false | some _ => true | none => false)
    | _ => false)
  | .makeFunc (.func f) first caught => (match i with | .mkfn p ys => Nat.beq f p.toNat && first.isEmpty && okOpds caught.toList ys | _ => false)
  | .call ⟨.builtin .len, args, tys⟩ => (match i with
    | .len y => (match args.toList, tys.toList with | [x], [t] => okOpd x y && (match P.underlying t with | some (.slice _) => true | _ => false) | _, _ => false)
    | .lenS y => (match args.toList, tys.toList with | [x], [t] => okOpd x y && isStr P t | _, _ => false)
    | .mov (.c (.int .i64 n)) => (match args.toList, tys.toList with | [_], [t] => (match P.underlying t with | some (.array k _) => decide (n = (k : Int)) | _ => false) | _, _ => false)
    | _ => false)
  | .call ⟨.builtin .append, args, tys⟩ => (match i with
    | .app sz bytes y z => (match args.toList, tys.toList with
      | [x, s], [t, u] => okOpd x y && okOpd s z && (match P.underlying t, P.underlying u with
        | some (.slice e), some d => (match d with | .int _ => false | _ => true) && decide (tSize P e = some sz) && decide (tBytes P e = some bytes) && !(Nat.beq bytes 0) && (match tZero P e with | some zv => Nat.beq zv.cells.size sz | none => false)
        | _, _ => false)
      | _, _ => false)
    | _ => false)
  | .call ⟨.builtin .copy, args, tys⟩ => (match i with
    | .cpy sz y z => (match args.toList, tys.toList with
      | [x, s], t :: _ => okOpd x y && okOpd s z && (match P.underlying t with | some (.slice e) => decide (tSize P e = some sz) | _ => false)
      | _, _ => false)
    | _ => false)
  | .call ⟨.builtin .min, args, _⟩ => (match i with
    | .mm mx y z => !mx && (match args.toList with | [x, s] => okOpd x y && okOpd s z | _ => false)
    | _ => false)
  | .call ⟨.builtin .max, args, _⟩ => (match i with
    | .mm mx y z => mx && (match args.toList with | [x, s] => okOpd x y && okOpd s z | _ => false)
    | _ => false)
  | .call ⟨.value (.func f), args, _⟩ => (match i with
    | .call p ys => Nat.beq f p.toNat && okOpds args.toList ys
    | .add64 x y c => okOpds args.toList [x, y, c] && Nat.beq f X.1
    | .sub64 x y c => okOpds args.toList [x, y, c] && Nat.beq f X.2
    | _ => false)
  | .call ⟨.value x, args, _⟩ => (match i with | .callv y ys => okOpd x y && okOpds args.toList ys | _ => false)
  | _ => false

/-! ### The meaning of what an operation comes to -/
def E.sat (hp : Tr Reg) (nx : P2) (adv : Bool) : E → (V → Tr Reg → P2 → Prop) → Prop
  | .val v, R => R v hp nx
  | .mem v hp' nx', R => R v hp' nx'
  | .need b e, R => b = true ∧ e.sat hp nx adv R
  | .br b e f, R => (b = true → e.sat hp nx adv R) ∧ (b = false → f.sat hp nx adv R)
  | .ldV o k, R => ∃ v, o = some v ∧ (k v).sat hp nx adv R
  | .ldC o k, R => ∃ v, o = some v ∧ (k v).sat hp nx adv R
  | .call o, R => ∃ r, o = some r ∧ R r.1 r.2.1 (match adv with | true => r.2.2 | false => nx)
  | .tc t, R => wpT t fun l => match l with | .val v hp' nx' => R v hp' (match adv with | true => nx' | false => nx) | .ret .. => False
  | .fail, _ => False

theorem toT_sat {tm : Tr V} {hp : Tr Reg} {nx : P2} {d : Option P2} {adv : Bool} {k : St → T} {Q : L → Prop} : ∀ (e : E), wpT (e.toT tm hp nx d adv k) Q →
    e.sat hp nx adv fun v hp nx => wpT (k ⟨put tm d v, hp, nx⟩) Q
  | .val _, h => h
  | .mem _ _ _, h => h
  | .need _ e, h => ⟨h.1, toT_sat e h.2⟩
  | .br _ e f, h => ⟨fun b => toT_sat e (h.1 b), fun b => toT_sat f (h.2 b)⟩
  | .ldV _ k', ⟨v, e, h⟩ => ⟨v, e, toT_sat (k' v) h⟩
  | .ldC _ k', ⟨v, e, h⟩ => ⟨v, e, toT_sat (k' v) h⟩
  | .call _, ⟨r, e, h⟩ => ⟨r, e, h⟩
  | .tc t, h => by
    refine wpT_mono t (fun l hl => ?_) h
    cases l with
    | val => exact hl
    | ret => exact hl
  | .fail, h => h

def Does (P : Program) (s : Sem Next) (w : World) (K : Value → World → Prop) : Prop :=
  match s.run P w with
  | .ok (.value v) w' => K v w'
  | .ok .skip w' => K undef w'
  | .ok (.enter f args) w' => Calls P f args w' fun e w'' => match e with | .returned v => K v w'' | _ => False
  | _ => False

theorem Does.wp {P : Program} {o : Oper} {a : Act} {w : World} {K : Act → World → Prop} {Q : Exit → Act → World → Prop}
    (h : Does P (execOp a.eval o) w fun v w' => K (a.put o.dst v) w') : o.wp P a w K Q := by
  unfold Does at h
  unfold Oper.wp
  generalize (execOp a.eval o).run P w = r at h ⊢
  cases r with
  | halt x w' => exact h.elim
  | ok n w' =>
    cases n <;> first
      | exact h
      | exact h.elim
      | exact Calls.mono h (fun e w'' he => by cases e <;> first | exact he | exact he.elim)

theorem Does.val {P : Program} {s : Sem Next} {w w' : World} {K : Value → World → Prop} {v : Value} (h : s.run P w = .ok (.value v) w') (k : K v w') : Does P s w K := by
  unfold Does; rw [h]; exact k
end Go.AE
