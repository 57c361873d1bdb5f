/- An abstract evaluator of translated Go code, first part: the values, the memory, the trees of decisions, the operations. -/
import Derived.Below
import Derived.Orders
namespace Go.AE

/-- Binary keys: of slots, of regions of memory, of functions. -/
inductive P2 where
  | h
  | o (p : P2)
  | i (p : P2)

namespace P2
def toNat : P2 → Nat
  | h => 0
  | o p => 2 * p.toNat + 1
  | i p => 2 * p.toNat + 2
theorem toNat_inj : ∀ {p q : P2}, p.toNat = q.toNat → p = q
  | h, h, _ => rfl
  | h, o _, e => by simp [toNat] at e
  | h, i _, e => by simp [toNat] at e
  | o _, h, e => by simp [toNat] at e
  | i _, h, e => by simp [toNat] at e
  | o p, o q, e => by have : p.toNat = q.toNat := by simp only [toNat] at e; omega
                      rw [toNat_inj this]
  | i p, i q, e => by have : p.toNat = q.toNat := by simp only [toNat] at e; omega
                      rw [toNat_inj this]
  | o p, i q, e => by simp only [toNat] at e; omega
  | i p, o q, e => by simp only [toNat] at e; omega
/-- The next key. -/
noncomputable def succ (p : P2) : P2 :=
  P2.rec (motive := fun _ => P2) (o h) (fun q _ => i q) (fun _ ih => match ih with | h => o h | o q => o (o q) | i q => o (i q)) p
noncomputable def beq (p : P2) : P2 → Bool :=
  P2.rec (motive := fun _ => P2 → Bool) (fun q => match q with | h => true | _ => false)
    (fun _ ih q => match q with | o q => ih q | _ => false) (fun _ ih q => match q with | i q => ih q | _ => false) p
theorem beq_eq : ∀ {p q : P2}, beq p q = true ↔ p = q
  | h, h => by simp [beq]
  | h, o _ => by simp [beq]
  | h, i _ => by simp [beq]
  | o _, h => by simp [beq]
  | i _, h => by simp [beq]
  | o p, o q => by have := @beq_eq p q; simp only [beq] at this ⊢; rw [this]; simp
  | i p, i q => by have := @beq_eq p q; simp only [beq] at this ⊢; rw [this]; simp
  | o p, i q => by simp [beq]
  | i p, o q => by simp [beq]
/-- k keys on. -/
noncomputable def plus (p : P2) (k : Nat) : P2 := Nat.rec p (fun _ q => q.succ) k
noncomputable instance : DecidableEq P2 := fun p q => if e : beq p q = true then isTrue (beq_eq.1 e) else isFalse (fun h => e (beq_eq.2 h))
end P2

/-- A trie over binary keys. -/
inductive Tr (α : Type) where
  | e
  | n (l : Tr α) (v : Option α) (r : Tr α)

namespace Tr
variable {α : Type}
noncomputable def l (t : Tr α) : Tr α := match t with | e => e | n a _ _ => a
noncomputable def r (t : Tr α) : Tr α := match t with | e => e | n _ _ a => a
noncomputable def v (t : Tr α) : Option α := match t with | e => none | n _ a _ => a
noncomputable def get (p : P2) : Tr α → Option α :=
  P2.rec (motive := fun _ => Tr α → Option α) (fun t => Tr.rec (motive := fun _ => Option α) none (fun _ a _ _ _ => a) t)
    (fun _ ih t => Tr.rec (motive := fun _ => Option α) none (fun a _ _ _ _ => ih a) t) (fun _ ih t => Tr.rec (motive := fun _ => Option α) none (fun _ _ a _ _ => ih a) t) p
noncomputable def strict {β : Type} (t : Tr α) (k : Tr α → β) : β := Tr.rec (motive := fun _ => β) (k e) (fun a b c _ _ => k (n a b c)) t
theorem strict_eq {β : Type} (t : Tr α) (k : Tr α → β) : strict t k = k t := by cases t <;> rfl
noncomputable def set (p : P2) (x : Option α) : Tr α → Tr α :=
  P2.rec (motive := fun _ => Tr α → Tr α) (fun t => Tr.rec (motive := fun _ => Tr α) (n e x e) (fun a _ c _ _ => n a x c) t)
    (fun _ ih t => Tr.rec (motive := fun _ => Tr α) (strict (ih e) fun a => n a none e) (fun a b c _ _ => strict (ih a) fun a => n a b c) t)
    (fun _ ih t => Tr.rec (motive := fun _ => Tr α) (strict (ih e) fun c => n e none c) (fun a b c _ _ => strict (ih c) fun c => n a b c) t) p
theorem get_e (p : P2) : get p (e : Tr α) = none := by cases p <;> rfl
section
variable (x : Option α) (p : P2) (a c : Tr α) (b : Option α)
theorem set_he : set .h x (e : Tr α) = n e x e := rfl
theorem set_hn : set .h x (n a b c) = n a x c := rfl
theorem set_oe : set (.o p) x (e : Tr α) = n (set p x e) none e := strict_eq (set p x e) fun a => n a none e
theorem set_on : set (.o p) x (n a b c) = n (set p x a) b c := strict_eq (set p x a) fun a => n a b c
theorem set_ie : set (.i p) x (e : Tr α) = n e none (set p x e) := strict_eq (set p x e) fun c => n e none c
theorem set_in : set (.i p) x (n a b c) = n a b (set p x c) := strict_eq (set p x c) fun c => n a b c
theorem get_hn : get .h (n a b c) = b := rfl
theorem get_on : get (.o p) (n a b c) = get p a := rfl
theorem get_in : get (.i p) (n a b c) = get p c := rfl
end
theorem get_set (x : Option α) : ∀ (p q : P2) (t : Tr α), get p (set q x t) = if p = q then x else get p t
  | .h, .h, .e => by simp [set_he, get_hn]
  | .h, .h, .n .. => by simp [set_hn, get_hn]
  | .h, .o q, .e => by simp [set_oe, get_hn, get_e]
  | .h, .o q, .n .. => by simp [set_on, get_hn]
  | .h, .i q, .e => by simp [set_ie, get_hn, get_e]
  | .h, .i q, .n .. => by simp [set_in, get_hn]
  | .o p, .h, .e => by simp [set_he, get_on, get_e]
  | .o p, .h, .n .. => by simp [set_hn, get_on]
  | .i p, .h, .e => by simp [set_he, get_in, get_e]
  | .i p, .h, .n .. => by simp [set_hn, get_in]
  | .o p, .o q, .e => by simp [set_oe, get_on, get_set x p q, get_e]
  | .o p, .o q, .n .. => by simp [set_on, get_on, get_set x p q]
  | .i p, .i q, .e => by simp [set_ie, get_in, get_set x p q, get_e]
  | .i p, .i q, .n .. => by simp [set_in, get_in, get_set x p q]
  | .o p, .i q, .e => by simp [set_ie, get_on, get_e]
  | .o p, .i q, .n .. => by simp [set_in, get_on]
  | .i p, .o q, .e => by simp [set_oe, get_in, get_e]
  | .i p, .o q, .n .. => by simp [set_on, get_in]
/-- Setting what is there already. -/
theorem set_get {x : α} : ∀ (p : P2) (t : Tr α), get p t = some x → set p (some x) t = t
  | p, .e, h => by simp [get_e] at h
  | .h, .n .., h => by rw [get_hn] at h; rw [set_hn, h]
  | .o p, .n .., h => by rw [get_on] at h; rw [set_on, set_get p _ h]
  | .i p, .n .., h => by rw [get_in] at h; rw [set_in, set_get p _ h]
/-- Setting at two places: the row doesn't matter. -/
theorem set_comm (x y : Option α) : ∀ (p q : P2) (t : Tr α), p ≠ q → set p x (set q y t) = set q y (set p x t)
  | .h, .h, _, h => absurd rfl h
  | .h, .o q, .e, _ => by simp [set_oe, set_he, set_hn, set_on]
  | .h, .o q, .n .., _ => by simp [set_hn, set_on]
  | .h, .i q, .e, _ => by simp [set_ie, set_he, set_hn, set_in]
  | .h, .i q, .n .., _ => by simp [set_hn, set_in]
  | .o p, .h, .e, _ => by simp [set_oe, set_he, set_hn, set_on]
  | .o p, .h, .n .., _ => by simp [set_hn, set_on]
  | .i p, .h, .e, _ => by simp [set_ie, set_he, set_hn, set_in]
  | .i p, .h, .n .., _ => by simp [set_hn, set_in]
  | .o p, .i q, .e, _ => by simp [set_oe, set_ie, set_on, set_in]
  | .o p, .i q, .n .., _ => by simp [set_on, set_in]
  | .i p, .o q, .e, _ => by simp [set_oe, set_ie, set_on, set_in]
  | .i p, .o q, .n .., _ => by simp [set_on, set_in]
  | .o p, .o q, .e, h => by simp only [set_oe, set_on]; rw [set_comm x y p q _ (fun e => h (by rw [e]))]
  | .o p, .o q, .n .., h => by simp only [set_on]; rw [set_comm x y p q _ (fun e => h (by rw [e]))]
  | .i p, .i q, .e, h => by simp only [set_ie, set_in]; rw [set_comm x y p q _ (fun e => h (by rw [e]))]
  | .i p, .i q, .n .., h => by simp only [set_in]; rw [set_comm x y p q _ (fun e => h (by rw [e]))]
/-- What was set last counts. -/
theorem set_set (x y : Option α) : ∀ (p : P2) (t : Tr α), set p x (set p y t) = set p x t
  | .h, .e => by simp [set_he, set_hn]
  | .h, .n .. => by simp [set_hn]
  | .o p, .e => by simp only [set_oe, set_on, set_set x y p]
  | .o p, .n .. => by simp only [set_on, set_set x y p]
  | .i p, .e => by simp only [set_ie, set_in, set_set x y p]
  | .i p, .n .. => by simp only [set_in, set_set x y p]
end Tr

/-- Values. A pointer, a slice: a region's key, the place in it. 'sl j off len cap sz': sz cells an element; 'none': a capacity that is not known. 'sle': an empty slice that is not nil. -/
inductive V where
  | un
  | bool (b : Bool)
  | int (k : IntKind) (n : Int)
  | str (s : List UInt8)
  | nilp
  | ptr (j : P2) (off : Nat)
  | nils
  | sl (j : P2) (off len : Nat) (cap : Option Nat) (sz : Nat)
  | sle
  | nilf
  | fn (f : P2) (caught : List V)
  | nili
  | iface (t : TypeId) (v : V)
  | agg (cs : List V)
  | tup (vs : List V)

inductive Kd where | own | ro | dead
  deriving DecidableEq

/-- A region of memory: what its cells hold. -/
structure Reg where
  cells : List V
  kd : Kd

structure St where
  tm : Tr V
  hp : Tr Reg
  nx : P2

inductive Ex where
  | norm
  | exit (id : Nat)
  | ret

/-- A leaf: a piece of code is left; a call has returned. -/
inductive L where
  | ret (ex : Ex) (S : St)
  | val (v : V) (hp : Tr Reg) (nx : P2)

abbrev Rs := V × Tr Reg × P2

/-- What a piece of code does: a tree of decisions. -/
inductive T where
  | leaf (l : L)
  | br (b : Bool) (t f : T)
  | need (b : Bool) (t : T)
  | optV (o : Option V) (k : V → T)
  | optC (o : Option (List V)) (k : List V → T)
  | optR (o : Option Rs) (k : Rs → T)
  | bind (t : T) (k : L → T)
  | loop (B : St → T) (S : St) (k : Ex → St → T)
  | tick (v : V) (k : V → T)
  | step (S : St) (k : St → T)
  | fail

/-! ### What is given to the evaluator by the kernel: values are made whole before they are handed on -/
noncomputable def natK {β : Type} (n : Nat) (k : Nat → β) : β := Nat.rec (k 0) (fun m _ => k (Nat.succ m)) n
theorem natK_eq {β : Type} (n : Nat) (k : Nat → β) : natK n k = k n := by cases n <;> rfl
noncomputable def intK {β : Type} (n : Int) (k : Int → β) : β := Int.rec (motive := fun _ => β) (fun m => natK m fun m => k (.ofNat m)) (fun m => natK m fun m => k (.negSucc m)) n
theorem intK_eq {β : Type} (n : Int) (k : Int → β) : intK n k = k n := by cases n <;> simp [intK, natK_eq]
noncomputable def byteK {β : Type} (b : UInt8) (k : UInt8 → β) : β := natK b.toNat fun n => k (UInt8.ofNat n)
theorem byteK_eq {β : Type} (n : UInt8) (k : UInt8 → β) : byteK n k = k n := by simp [byteK, natK_eq]
noncomputable def strK {β : Type} (s : List UInt8) : (List UInt8 → β) → β :=
  List.rec (motive := fun _ => (List UInt8 → β) → β) (fun k => k []) (fun b _ ih k => byteK b fun b => ih fun r => k (b :: r)) s
theorem strK_eq {β : Type} (s : List UInt8) (k : List UInt8 → β) : strK s k = k s := by
  induction s generalizing k with
  | nil => rfl
  | cons b r ih => simp only [strK] at ih ⊢; rw [byteK_eq, ih]
noncomputable def boolK {β : Type} (b : Bool) (k : Bool → β) : β := Bool.rec (motive := fun _ => β) (k false) (k true) b
theorem boolK_eq {β : Type} (b : Bool) (k : Bool → β) : boolK b k = k b := by cases b <;> rfl
noncomputable def optNK {β : Type} (o : Option Nat) (k : Option Nat → β) : β := match o with | none => k none | some n => natK n fun n => k (some n)
theorem optNK_eq {β : Type} (o : Option Nat) (k : Option Nat → β) : optNK o k = k o := by cases o <;> simp [optNK, natK_eq]
noncomputable def keyK {β : Type} (p : P2) : (P2 → β) → β :=
  P2.rec (motive := fun _ => (P2 → β) → β) (fun k => k .h) (fun _ ih k => ih fun q => k (.o q)) (fun _ ih k => ih fun q => k (.i q)) p
theorem keyK_eq {β : Type} (p : P2) (k : P2 → β) : keyK p k = k p := by
  induction p generalizing k with
  | h => rfl
  | o q ih => exact ih fun q => k (.o q)
  | i q ih => exact ih fun q => k (.i q)
/-- A scalar made whole. -/
noncomputable def scK {β : Type} (v : V) (k : V → β) : β := match v with
  | .bool b => boolK b fun b => k (.bool b)
  | .int x n => intK n fun n => k (.int x n)
  | .str s => strK s fun s => k (.str s)
  | .ptr j o => keyK j fun j => natK o fun o => k (.ptr j o)
  | .sl j o n c z => keyK j fun j => natK o fun o => natK n fun n => optNK c fun c => k (.sl j o n c z)
  | .un => k .un | .nilp => k .nilp | .nils => k .nils | .sle => k .sle | .nilf => k .nilf | .nili => k .nili
  | .fn f c => k (.fn f c) | .iface t v => k (.iface t v) | .agg c => k (.agg c) | .tup c => k (.tup c)
theorem scK_eq {β : Type} (v : V) (k : V → β) : scK v k = k v := by
  cases v <;> simp [scK, boolK_eq, intK_eq, strK_eq, natK_eq, optNK_eq, keyK_eq]
noncomputable def listK {β : Type} (s : List V) : (List V → β) → β :=
  List.rec (motive := fun _ => (List V → β) → β) (fun k => k []) (fun b _ ih k => scK b fun b => ih fun r => k (b :: r)) s
theorem listK_eq {β : Type} (s : List V) (k : List V → β) : listK s k = k s := by
  induction s generalizing k with
  | nil => rfl
  | cons b r ih => simp only [listK] at ih ⊢; rw [scK_eq, ih]
/-- A value made whole. -/
noncomputable def vK {β : Type} (v : V) (k : V → β) : β := match v with
  | .agg c => listK c fun c => k (.agg c)
  | .tup c => listK c fun c => k (.tup c)
  | .iface t v => scK v fun v => k (.iface t v)
  | .bool b => boolK b fun b => k (.bool b)
  | .int x n => intK n fun n => k (.int x n)
  | .str s => strK s fun s => k (.str s)
  | .ptr j o => keyK j fun j => natK o fun o => k (.ptr j o)
  | .sl j o n c z => keyK j fun j => natK o fun o => natK n fun n => optNK c fun c => k (.sl j o n c z)
  | .un => k .un | .nilp => k .nilp | .nils => k .nils | .sle => k .sle | .nilf => k .nilf | .nili => k .nili
  | .fn f c => k (.fn f c)
theorem vK_eq {β : Type} (v : V) (k : V → β) : vK v k = k v := by
  cases v <;> simp [vK, boolK_eq, intK_eq, strK_eq, natK_eq, optNK_eq, listK_eq, scK_eq, keyK_eq]
noncomputable def stK {β : Type} (S : St) (k : St → β) : β := St.rec (motive := fun _ => β) (fun tm hp nx => Tr.strict tm fun tm => Tr.strict hp fun hp => keyK nx fun nx => k ⟨tm, hp, nx⟩) S
theorem stK_eq {β : Type} (S : St) (k : St → β) : stK S k = k S := by cases S; simp [stK, Tr.strict_eq, keyK_eq]

/-! ### A tree's meaning -/
def loopN (Bw : St → (L → Prop) → Prop) (Q : L → Prop) (Kw : Ex → St → Prop) : Nat → St → Prop
  | 0, _ => False
  | n + 1, S => Bw S fun
    | .ret .norm S' => loopN Bw Q Kw n S'
    | .ret ex S' => Kw ex S'
    | .val .. => False

def wpT : T → (L → Prop) → Prop
  | .leaf l, Q => Q l
  | .br b t f, Q => (b = true → wpT t Q) ∧ (b = false → wpT f Q)
  | .need b t, Q => b = true ∧ wpT t Q
  | .optV o k, Q => ∃ v, o = some v ∧ wpT (k v) Q
  | .optC o k, Q => ∃ v, o = some v ∧ wpT (k v) Q
  | .optR o k, Q => ∃ v, o = some v ∧ wpT (k v) Q
  | .bind t k, Q => wpT t fun l => wpT (k l) Q
  | .loop B S k, Q => ∃ n, loopN (fun S Q => wpT (B S) Q) Q (fun ex S => wpT (k ex S) Q) n S
  | .tick v k, Q => wpT (k v) Q
  | .step S k, Q => wpT (k S) Q
  | .fail, _ => False

theorem loopN_mono {Bw Bw' : St → (L → Prop) → Prop} {Q Q' : L → Prop} {Kw Kw' : Ex → St → Prop} (hB : ∀ S R R', (∀ l, R l → R' l) → Bw S R → Bw' S R')
    (hK : ∀ ex S, Kw ex S → Kw' ex S) : ∀ n S, loopN Bw Q Kw n S → loopN Bw' Q' Kw' n S
  | 0, _, h => h
  | n + 1, S, h => by
    refine hB S _ _ (fun l hl => ?_) h
    cases l with
    | val => exact hl
    | ret ex S' => cases ex with
      | norm => exact loopN_mono hB hK n S' hl
      | exit id => exact hK _ _ hl
      | ret => exact hK _ _ hl

theorem wpT_mono : ∀ (t : T) {Q Q' : L → Prop}, (∀ l, Q l → Q' l) → wpT t Q → wpT t Q'
  | .leaf _, _, _, hq, h => hq _ h
  | .br _ t f, _, _, hq, h => ⟨fun e => wpT_mono t hq (h.1 e), fun e => wpT_mono f hq (h.2 e)⟩
  | .need _ t, _, _, hq, h => ⟨h.1, wpT_mono t hq h.2⟩
  | .optV _ k, _, _, hq, ⟨v, e, h⟩ => ⟨v, e, wpT_mono (k v) hq h⟩
  | .optC _ k, _, _, hq, ⟨v, e, h⟩ => ⟨v, e, wpT_mono (k v) hq h⟩
  | .optR _ k, _, _, hq, ⟨v, e, h⟩ => ⟨v, e, wpT_mono (k v) hq h⟩
  | .bind t k, _, _, hq, h => wpT_mono t (fun l hl => wpT_mono (k l) hq hl) h
  | .loop B S k, _, _, hq, ⟨n, h⟩ => ⟨n, loopN_mono (fun S _ _ hr hb => wpT_mono (B S) hr hb) (fun ex S hk => wpT_mono (k ex S) hq hk) n S h⟩
  | .tick v k, _, _, hq, h => wpT_mono (k v) hq h
  | .step S k, _, _, hq, h => wpT_mono (k S) hq h
  | .fail, _, _, _, h => h

/-! ### Running a tree -/
noncomputable def loopRun (B : St → Option L) (k : Ex → St → Option L) (n : Nat) : St → Option L :=
  Nat.rec (motive := fun _ => St → Option L) (fun _ => none) (fun _ ih S => match B S with
    | some (.ret .norm S') => stK S' ih
    | some (.ret (.exit id) S') => k (.exit id) S'
    | some (.ret .ret S') => k .ret S'
    | some (.val ..) => none
    | none => none) n

noncomputable def T.run (fuel : Nat) (t : T) : Option L :=
  T.rec (motive := fun _ => Option L)
    (fun l => some l)
    (fun b _ _ ht hf => match b with | true => ht | false => hf)
    (fun b _ ht => match b with | true => ht | false => none)
    (fun o _ hk => match o with | some v => vK v hk | none => none)
    (fun o _ hk => match o with | some v => listK v hk | none => none)
    (fun o _ hk => match o with | some (v, hp, nx) => vK v fun v => Tr.strict hp fun hp => keyK nx fun nx => hk (v, hp, nx) | none => none)
    (fun _ _ ht hk => match ht with | some l => hk l | none => none)
    (fun _ S _ hB hk => loopRun hB hk fuel S)
    (fun v _ hk => vK v hk)
    (fun S _ hk => stK S hk)
    none t

section
variable (fuel : Nat)
theorem run_br (b : Bool) (t f : T) : (T.br b t f).run fuel = match b with | true => t.run fuel | false => f.run fuel := rfl
theorem run_need (b : Bool) (t : T) : (T.need b t).run fuel = match b with | true => t.run fuel | false => none := rfl
theorem run_optV (o : Option V) (k : V → T) : (T.optV o k).run fuel = match o with | some v => (k v).run fuel | none => none := by
  cases o with
  | none => rfl
  | some v => exact vK_eq v fun v => (k v).run fuel
theorem run_optC (o : Option (List V)) (k : List V → T) : (T.optC o k).run fuel = match o with | some v => (k v).run fuel | none => none := by
  cases o with
  | none => rfl
  | some v => exact listK_eq v fun v => (k v).run fuel
theorem run_optR (o : Option Rs) (k : Rs → T) : (T.optR o k).run fuel = match o with | some v => (k v).run fuel | none => none := by
  cases o with
  | none => rfl
  | some v =>
    obtain ⟨v, hp, nx⟩ := v
    exact (vK_eq v fun v => Tr.strict hp fun hp => keyK nx fun nx => (k (v, hp, nx)).run fuel).trans ((Tr.strict_eq hp _).trans (keyK_eq nx _))
theorem run_bind (t : T) (k : L → T) : (T.bind t k).run fuel = match t.run fuel with | some l => (k l).run fuel | none => none := rfl
theorem run_loop (B : St → T) (S : St) (k : Ex → St → T) : (T.loop B S k).run fuel = loopRun (fun S => (B S).run fuel) (fun ex S => (k ex S).run fuel) fuel S := rfl
theorem run_tick (v : V) (k : V → T) : (T.tick v k).run fuel = (k v).run fuel := vK_eq v fun v => (k v).run fuel
theorem run_step (S : St) (k : St → T) : (T.step S k).run fuel = (k S).run fuel := stK_eq S fun S => (k S).run fuel
theorem run_fail : T.fail.run fuel = none := rfl
theorem run_leaf (l : L) : (T.leaf l).run fuel = some l := rfl
theorem loopRun_succ (B : St → Option L) (k : Ex → St → Option L) (n : Nat) (S : St) : loopRun B k (n + 1) S = match B S with
    | some (.ret .norm S') => loopRun B k n S'
    | some (.ret (.exit id) S') => k (.exit id) S'
    | some (.ret .ret S') => k .ret S'
    | some (.val ..) => none
    | none => none := by
  show (match B S with
    | some (.ret .norm S') => stK S' (loopRun B k n)
    | some (.ret (.exit id) S') => k (.exit id) S'
    | some (.ret .ret S') => k .ret S'
    | some (.val ..) => none
    | none => none) = _
  simp only [stK_eq]
end

theorem loopRun_sound {B : St → T} {k : Ex → St → T} {fuel : Nat} {Q : L → Prop} (hB : ∀ S l, (B S).run fuel = some l → ∀ Q : L → Prop, Q l → wpT (B S) Q)
    (hk : ∀ ex S l, (k ex S).run fuel = some l → Q l → wpT (k ex S) Q) : ∀ n S l, loopRun (fun S => (B S).run fuel) (fun ex S => (k ex S).run fuel) n S = some l → Q l →
      loopN (fun S Q => wpT (B S) Q) Q (fun ex S => wpT (k ex S) Q) n S
  | 0, _, _, h, _ => by simp [loopRun] at h
  | n + 1, S, l, h, hq => by
    rw [loopRun_succ] at h
    show wpT (B S) _
    cases hb : (B S).run fuel with
    | none => rw [hb] at h; simp at h
    | some l0 =>
      rw [hb] at h
      cases l0 with
      | val => simp at h
      | ret ex S' =>
        refine hB S _ hb _ ?_
        cases ex with
        | norm => exact loopRun_sound hB hk n S' l h hq
        | exit id => exact hk _ _ _ h hq
        | ret => exact hk _ _ _ h hq

theorem run_sound (fuel : Nat) : ∀ (t : T) (l : L), t.run fuel = some l → ∀ Q : L → Prop, Q l → wpT t Q
  | .leaf l', l, h, Q, hq => by rw [run_leaf] at h; cases h; exact hq
  | .br b t f, l, h, Q, hq => by
    rw [run_br] at h
    cases b
    · exact ⟨fun e => by simp at e, fun _ => run_sound fuel f l h Q hq⟩
    · exact ⟨fun _ => run_sound fuel t l h Q hq, fun e => by simp at e⟩
  | .need b t, l, h, Q, hq => by
    rw [run_need] at h
    cases b
    · simp at h
    · exact ⟨rfl, run_sound fuel t l h Q hq⟩
  | .optV o k, l, h, Q, hq => by
    rw [run_optV] at h
    cases o with
    | none => simp at h
    | some v => exact ⟨v, rfl, run_sound fuel (k v) l h Q hq⟩
  | .optC o k, l, h, Q, hq => by
    rw [run_optC] at h
    cases o with
    | none => simp at h
    | some v => exact ⟨v, rfl, run_sound fuel (k v) l h Q hq⟩
  | .optR o k, l, h, Q, hq => by
    rw [run_optR] at h
    cases o with
    | none => simp at h
    | some v => exact ⟨_, rfl, run_sound fuel (k _) l h Q hq⟩
  | .bind t k, l, h, Q, hq => by
    rw [run_bind] at h
    cases ht : t.run fuel with
    | none => rw [ht] at h; simp at h
    | some l0 => rw [ht] at h; exact run_sound fuel t l0 ht _ (run_sound fuel (k l0) l h Q hq)
  | .loop B S k, l, h, Q, hq => ⟨fuel, loopRun_sound (fun S l h Q hq => run_sound fuel (B S) l h Q hq) (fun ex S l h hq => run_sound fuel (k ex S) l h Q hq) fuel S l (by rw [run_loop] at h; exact h) hq⟩
  | .tick v k, l, h, Q, hq => by rw [run_tick] at h; exact run_sound fuel (k v) l h Q hq
  | .step S k, l, h, Q, hq => by rw [run_step] at h; exact run_sound fuel (k S) l h Q hq
  | .fail, l, h, _, _ => by rw [run_fail] at h; simp at h

/-- THE LOOP BY AN INVARIANT that counts down. -/
theorem wpT_loop {B : St → T} {S : St} {k : Ex → St → T} {Q : L → Prop} (I : Nat → St → Prop) (n : Nat) (h0 : I n S)
    (round : ∀ n S, I n S → wpT (B S) fun
      | .ret .norm S' => ∃ m, m < n ∧ I m S'
      | .ret ex S' => wpT (k ex S') Q
      | .val .. => False) : wpT (.loop B S k) Q := by
  have mono1 : ∀ n S, loopN (fun S Q => wpT (B S) Q) Q (fun ex S => wpT (k ex S) Q) n S → ∀ m, n ≤ m → loopN (fun S Q => wpT (B S) Q) Q (fun ex S => wpT (k ex S) Q) m S := by
    intro n
    induction n with
    | zero => intro S h; exact h.elim
    | succ n ih =>
      intro S h m hm
      obtain ⟨m, rfl⟩ : ∃ q, m = q + 1 := ⟨m - 1, by omega⟩
      refine wpT_mono (B S) (fun l hl => ?_) h
      cases l with
      | val => exact hl
      | ret ex S' => cases ex with
        | norm => exact ih S' hl m (by omega)
        | exit id => exact hl
        | ret => exact hl
  have key : ∀ n S, I n S → loopN (fun S Q => wpT (B S) Q) Q (fun ex S => wpT (k ex S) Q) (n + 1) S := by
    intro n
    induction n using Nat.strongRecOn with
    | _ n ih =>
      intro S h
      refine wpT_mono (B S) (fun l hl => ?_) (round n S h)
      cases l with
      | val => exact hl
      | ret ex S' => cases ex with
        | norm => obtain ⟨m, hm, hI⟩ := hl; exact mono1 (m + 1) S' (ih m hm S' hI) n (by omega)
        | exit id => exact hl
        | ret => exact hl
  exact ⟨n + 1, key n S h0⟩
end Go.AE
