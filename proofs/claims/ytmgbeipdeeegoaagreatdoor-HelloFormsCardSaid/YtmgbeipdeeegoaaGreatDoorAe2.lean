/- An abstract evaluator of translated Go code, second part: the operations and the code, evaluated. -/
import Derived.Test.YtmgbeipdeeegoaaGreatDoorAe1
namespace Go.AE

/-- An operand: a slot, a constant. -/
inductive Opd where
  | s (p : P2)
  | c (v : V)

def ngB (neg b : Bool) : Bool := match neg with | true => !b | false => b
def ngOp (neg : Bool) : BinOp := match neg with | true => .neq | false => .eql

/-- Kinds of what may be nil: pointers, slices, functions, interface values. -/
inductive NK where | p | s | f | i

/-- Kinds of cells that are held against each other: numbers, texts, truths. -/
inductive CK where | i | s | b

inductive I where
  | mov (x : Opd)
  | pick (c a b : Opd)
  | bin (op : BinOp) (x y : Opd)
  | eqb (neg : Bool) (x y : Opd)
  | nilq (k : NK) (neg : Bool) (x : Opd)
  | eqs (neg : Bool) (ks : List CK) (x y : Opd)
  | un (op : UnOp) (x : Opd)
  | conv (k : IntKind) (x : Opd)
  | s2b (x : Opd)
  | b2s (x : Opd)
  | lea (off : Nat) (x : Opd)
  | ixA (n sz : Nat) (x i : Opd)
  | ixS (sz : Nat) (x i : Opd)
  | ixV (n sz : Nat) (ag : Bool) (x i : Opd)
  | ixStr (x i : Opd)
  | fld (off sz : Nat) (ag : Bool) (x : Opd)
  | nilc (x : Opd)
  | ext (n : Nat) (x : Opd)
  | load (ag : Bool) (sz : Nat) (x : Opd)
  | store (sz : Nat) (x v : Opd)
  | alloc (z : List V)
  | box (x : Opd)
  | build (z : List V) (parts : List (Nat × Nat × Opd))
  | bsl (sz len : Nat) (z : List V) (parts : List (Nat × Nat × Opd))
  | mks (sz bytes : Nat) (z : List V) (l c : Opd)
  | slStr (x : Opd) (lo hi : Option Opd)
  | slSl (sz : Nat) (x : Opd) (lo hi : Option Opd)
  | slArr (n sz : Nat) (x : Opd) (lo hi : Option Opd)
  | mkif (t : TypeId) (x : Opd)
  | mkfn (f : P2) (caught : List Opd)
  | len (x : Opd)
  | lenS (x : Opd)
  | app (sz bytes : Nat) (x y : Opd)
  | cpy (sz : Nat) (x y : Opd)
  | mm (mx : Bool) (x y : Opd)
  | add64 (x y c : Opd)
  | sub64 (x y c : Opd)
  | call (f : P2) (args : List Opd)
  | callv (x : Opd) (args : List Opd)

/-- An operation: where its value goes; its guard; 'off': how many keys behind the next one its own new region lies; 'adv': does it move the next key? -/
structure O where
  d : Option P2
  g : Option (P2 × Bool)
  i : I
  off : Nat
  adv : Bool

inductive C where
  | skip
  | reg (ops : List O) (tot : Nat)
  | seq (a b : C)
  | cond (x : Opd) (a b : C)
  | block (id : Nat) (c : C)
  | loop (c : C)
  | exit (id : Nat)
  | ret
  | bad

/-- What an operation comes to. -/
inductive E where
  | val (v : V)
  | mem (v : V) (hp : Tr Reg) (nx : P2)
  | need (b : Bool) (e : E)
  | br (b : Bool) (e f : E)
  | ldV (o : Option V) (k : V → E)
  | ldC (o : Option (List V)) (k : List V → E)
  | call (o : Option Rs)
  | tc (t : T)
  | fail

abbrev Fc := List V → Tr Reg → P2 → Option Rs
abbrev Tc := List V → Tr Reg → P2 → T
/-- A contract: as a function ('kd' 0: of its arguments alone; 1: it reads memory, and makes none; 4: it reads memory, and makes one region at most; else: anything), or as a tree ('kd' 5: it writes nothing and makes nothing; 6: it writes nothing that was there; else: anything). -/
inductive Ent where
  | f (F : Fc) (kd : Nat)
  | t (t : Tc) (kd : Nat)

noncomputable def ev (tm : Tr V) (x : Opd) : V := Opd.rec (motive := fun _ => V) (fun p => Option.rec (motive := fun _ => V) .un (fun v => v) (tm.get p)) (fun v => v) x

theorem ev_s (tm : Tr V) (p : P2) : ev tm (.s p) = match tm.get p with | some v => v | none => .un := by
  show Option.rec (motive := fun _ => V) V.un (fun v => v) (tm.get p) = _
  cases tm.get p <;> rfl

noncomputable def put (tm : Tr V) (d : Option P2) (v : V) : Tr V := Option.rec (motive := fun _ => Tr V) tm (fun p => tm.set p (some v)) d

def V.cells : V → List V
  | .agg c => c
  | v => [v]

def scalarV : V → Bool
  | .agg _ | .tup _ => false
  | _ => true

noncomputable def readL (hp : Tr Reg) (j : P2) (off n : Nat) : Option (List V) := match hp.get j with
  | some ⟨cells, .own⟩ => if off + n ≤ cells.length then some ((cells.drop off).take n) else none
  | some ⟨cells, .ro⟩ => if off + n ≤ cells.length then some ((cells.drop off).take n) else none
  | _ => none

noncomputable def read1 (hp : Tr Reg) (j : P2) (off : Nat) : Option V := match hp.get j with
  | some ⟨cells, .own⟩ => cells[off]?
  | some ⟨cells, .ro⟩ => cells[off]?
  | _ => none

/-- Cells written over others from a place on. -/
def splice {α : Type} (cells : List α) (off : Nat) (new : List α) : List α := cells.take off ++ new ++ cells.drop (off + new.length)

noncomputable def write (hp : Tr Reg) (j : P2) (off : Nat) (new : List V) : Option (List V) := match hp.get j with
  | some ⟨cells, .own⟩ => if off + new.length ≤ cells.length then some (splice cells off new) else none
  | _ => none

def toBytes : List V → Option (List UInt8)
  | [] => some []
  | .int .u8 n :: r => (toBytes r).map (UInt8.ofNat n.toNat :: ·)
  | _ :: _ => none

def ofBytes (s : List UInt8) : List V := s.map fun b => .int .u8 (b.toNat : Int)

def bitsI (op : BinOp) (k : IntKind) (a b : Int) : Int :=
  match op, a, b with
  | .and, .ofNat x, .ofNat y => k.wrap (Int.ofNat (x &&& y))
  | .or, .ofNat x, .ofNat y => k.wrap (Int.ofNat (x ||| y))
  | .xor, .ofNat x, .ofNat y => k.wrap (Int.ofNat (x ^^^ y))
  | .and, a, b => k.wrap ((BitVec.ofInt k.bits a &&& BitVec.ofInt k.bits b).toNat)
  | .or, a, b => k.wrap ((BitVec.ofInt k.bits a ||| BitVec.ofInt k.bits b).toNat)
  | .xor, a, b => k.wrap ((BitVec.ofInt k.bits a ^^^ BitVec.ofInt k.bits b).toNat)
  | _, a, b => k.wrap ((BitVec.ofInt k.bits a &&& ~~~ BitVec.ofInt k.bits b).toNat)

def kindEq (a b : IntKind) : Bool := match a, b with
  | .i8, .i8 | .i16, .i16 | .i32, .i32 | .i64, .i64 | .u8, .u8 | .u16, .u16 | .u32, .u32 | .u64, .u64 => true
  | _, _ => false

def binI (op : BinOp) (k : IntKind) (a : Int) (k' : IntKind) (b : Int) : E :=
  match op with
  | .shl => .need (decide (0 ≤ b)) (.val (.int k (k.wrap (a * 2 ^ (min b.toNat k.bits)))))
  | .shr => .need (decide (0 ≤ b)) (.val (.int k (a.fdiv (2 ^ (min b.toNat k.bits)))))
  | .add => .need (kindEq k k') (.val (.int k (k.wrap (a + b))))
  | .sub => .need (kindEq k k') (.val (.int k (k.wrap (a - b))))
  | .mul => .need (kindEq k k') (.val (.int k (k.wrap (a * b))))
  | .quo => .need (kindEq k k') (.need (!decide (b = 0)) (.val (.int k (k.wrap (a.tdiv b)))))
  | .rem => .need (kindEq k k') (.need (!decide (b = 0)) (.val (.int k (a.tmod b))))
  | .and => .need (kindEq k k') (.val (.int k (bitsI .and k a b)))
  | .or => .need (kindEq k k') (.val (.int k (bitsI .or k a b)))
  | .xor => .need (kindEq k k') (.val (.int k (bitsI .xor k a b)))
  | .andNot => .need (kindEq k k') (.val (.int k (bitsI .andNot k a b)))
  | .eql => .need (kindEq k k') (.val (.bool (decide (a = b))))
  | .neq => .need (kindEq k k') (.val (.bool (!decide (a = b))))
  | .lss => .need (kindEq k k') (.val (.bool (decide (a < b))))
  | .leq => .need (kindEq k k') (.val (.bool (decide (a ≤ b))))
  | .gtr => .need (kindEq k k') (.val (.bool (decide (b < a))))
  | .geq => .need (kindEq k k') (.val (.bool (decide (b ≤ a))))

def byteEq (a b : UInt8) : Bool := Nat.beq a.toNat b.toNat
def strEq : List UInt8 → List UInt8 → Bool
  | [], [] => true
  | a :: x, b :: y => match byteEq a b with | true => strEq x y | false => false
  | _, _ => false

def binS (op : BinOp) (a b : List UInt8) : E :=
  match op with
  | .add => .need (decide (a.length + b.length ≤ 9223372036854775807)) (.val (.str (a ++ b)))
  | .eql => .val (.bool (strEq a b))
  | .neq => .val (.bool (!strEq a b))
  | _ => .fail

def boolEq (a b : Bool) : Bool := match a with | true => b | false => !b

def binE (op : BinOp) (x y : V) : E :=
  match x, y with
  | .int k a, .int k' b => binI op k a k' b
  | .str a, .str b => binS op a b
  | _, _ => .fail

def isNil : NK → V → Option Bool
  | .p, .nilp | .s, .nils | .f, .nilf | .i, .nili => some true
  | .p, .ptr .. | .s, .sl .. | .s, .sle | .f, .fn .. | .i, .iface .. => some false
  | _, _ => none

/-- Two rows of cells of numbers, texts, truths: are they alike? -/
def eqCells : List CK → List V → List V → Option Bool
  | [], [], [] => some true
  | .i :: ks, .int k a :: x, .int k' b :: y => match kindEq k k', decide (a = b) with
    | true, true => eqCells ks x y
    | true, false => (eqCells ks x y).map fun _ => false
    | _, _ => none
  | .s :: ks, .str a :: x, .str b :: y => match strEq a b with | true => eqCells ks x y | false => (eqCells ks x y).map fun _ => false
  | .b :: ks, .bool a :: x, .bool b :: y => match boolEq a b with | true => eqCells ks x y | false => (eqCells ks x y).map fun _ => false
  | _, _, _ => none

def unE (op : UnOp) (x : V) : E :=
  match op, x with
  | .not, .bool b => .val (.bool (!b))
  | .neg, .int k n => .val (.int k (k.wrap (0 - n)))
  | .xor, .int k n => .val (.int k (bitsI .xor k (if k.signed then -1 else k.max) n))
  | _, _ => .fail

/-- A cell's value: known, and of one cell. -/
def okCell : V → Bool
  | .un | .agg _ | .tup _ => false
  | _ => true
def allOk : List V → Bool
  | [] => true
  | v :: r => match okCell v with | true => allOk r | false => false

/-- Parts put into a row of cells. -/
noncomputable def fillV (tm : Tr V) : List V → List (Nat × Nat × Opd) → Option (List V)
  | z, [] => some z
  | z, (off, size, x) :: r => match decide ((ev tm x).cells.length = size ∧ off + size ≤ z.length) with
    | true => (match allOk (ev tm x).cells with
      | true => fillV tm (splice z off (ev tm x).cells) r
      | false => none)
    | false => none

noncomputable def fresh (S : St) (off : Nat) (adv : Bool) (k : P2 → P2 → E) : E :=
  match S.hp.get (S.nx.plus off) with
  | none => k (S.nx.plus off) (match adv with | true => (S.nx.plus off).succ | false => S.nx)
  | some _ => .fail

/-- Bounds of a slice expression: 0 ≤ lo ≤ hi ≤ most. -/
noncomputable def bounds (tm : Tr V) (len most : Nat) (lo hi : Option Opd) (k : Nat → Nat → E) : E :=
  let low (h : Nat) : E := match lo with
    | none => k 0 h
    | some x => match ev tm x with | .int _ l => .need (decide (0 ≤ l ∧ l ≤ (h : Int))) (k l.toNat h) | _ => .fail
  match hi with
  | none => low len
  | some x => match ev tm x with | .int _ h => .need (decide (0 ≤ h ∧ h ≤ (most : Int))) (low h.toNat) | _ => .fail

noncomputable def srcCells (hp : Tr Reg) (sz n : Nat) : V → Option (List V)
  | .nils | .sle => some []
  | .sl j off _ _ _ => readL hp j off (n * sz)
  | .str s => (match sz with | 1 => some (ofBytes (s.take n)) | _ => none)
  | _ => none

noncomputable def srcLen : V → Option Nat
  | .nils | .sle => some 0
  | .sl _ _ n _ _ => some n
  | .str s => some s.length
  | _ => none

def pureV (o : Option Rs) : Option V := match o with | some r => some r.1 | none => none

noncomputable def callE (Γ : Tr Ent) (S : St) (o : O) (f : P2) (args : List V) : E :=
  match Γ.get f with
  | some (.f F kd) => (match kd with
    | 0 => .ldV (pureV (F args .e .h)) .val
    | 1 => .ldV (pureV (F args S.hp .h)) .val
    | _ => .call (F args S.hp (S.nx.plus o.off)))
  | some (.t t _) => .tc (t args S.hp (S.nx.plus o.off))
  | none => .fail

set_option linter.unusedVariables false in
noncomputable def e_mov (x : Opd) (Γ : Tr Ent) (o : O) (S : St) : E := .val (ev S.tm x)
set_option linter.unusedVariables false in
noncomputable def e_pick (c : Opd) (a : Opd) (b : Opd) (Γ : Tr Ent) (o : O) (S : St) : E := match ev S.tm c with
    | .bool true => .val (ev S.tm a)
    | .bool false => .val (ev S.tm b)
    | _ => .fail
set_option linter.unusedVariables false in
noncomputable def e_bin (op : BinOp) (x : Opd) (y : Opd) (Γ : Tr Ent) (o : O) (S : St) : E := binE op (ev S.tm x) (ev S.tm y)
set_option linter.unusedVariables false in
noncomputable def e_eqb (neg : Bool) (x : Opd) (y : Opd) (Γ : Tr Ent) (o : O) (S : St) : E := match ev S.tm x, ev S.tm y with
    | .bool a, .bool b => .val (.bool (ngB neg (boolEq a b)))
    | _, _ => .fail
set_option linter.unusedVariables false in
noncomputable def e_nilq (k : NK) (neg : Bool) (x : Opd) (Γ : Tr Ent) (o : O) (S : St) : E := match isNil k (ev S.tm x) with
    | some b => .val (.bool (ngB neg b))
    | none => .fail
set_option linter.unusedVariables false in
noncomputable def e_eqs (neg : Bool) (ks : List CK) (x : Opd) (y : Opd) (Γ : Tr Ent) (o : O) (S : St) : E := match ev S.tm x, ev S.tm y with
    | .agg a, .agg b => .ldV ((eqCells ks a b).map fun b => .bool (ngB neg b)) .val
    | _, _ => .fail
set_option linter.unusedVariables false in
noncomputable def e_un (op : UnOp) (x : Opd) (Γ : Tr Ent) (o : O) (S : St) : E := unE op (ev S.tm x)
set_option linter.unusedVariables false in
noncomputable def e_conv (k : IntKind) (x : Opd) (Γ : Tr Ent) (o : O) (S : St) : E := match ev S.tm x with | .int _ n => .val (.int k (k.wrap n)) | _ => .fail
set_option linter.unusedVariables false in
noncomputable def e_s2b (x : Opd) (Γ : Tr Ent) (o : O) (S : St) : E := match ev S.tm x with
    | .str s => fresh S o.off o.adv fun j nx => .ldC (some (ofBytes s)) fun cs => .mem (.sl j 0 s.length none 1) (S.hp.set j (some ⟨cs, .own⟩)) nx
    | _ => .fail
set_option linter.unusedVariables false in
noncomputable def e_b2s (x : Opd) (Γ : Tr Ent) (o : O) (S : St) : E := match ev S.tm x with
    | .nils | .sle => .val (.str [])
    | .sl j off n _ 1 => .ldV (((readL S.hp j off n).bind toBytes).map .str) .val
    | _ => .fail
set_option linter.unusedVariables false in
noncomputable def e_lea (off : Nat) (x : Opd) (Γ : Tr Ent) (o : O) (S : St) : E := match ev S.tm x with | .ptr j p => .val (.ptr j (p + off)) | _ => .fail
set_option linter.unusedVariables false in
noncomputable def e_ixA (n : Nat) (sz : Nat) (x : Opd) (i : Opd) (Γ : Tr Ent) (o : O) (S : St) : E := match ev S.tm x, ev S.tm i with
    | .ptr j p, .int _ i => .need (decide (0 ≤ i ∧ i < (n : Int))) (.val (.ptr j (p + i.toNat * sz)))
    | _, _ => .fail
set_option linter.unusedVariables false in
noncomputable def e_ixS (sz : Nat) (x : Opd) (i : Opd) (Γ : Tr Ent) (o : O) (S : St) : E := match ev S.tm x, ev S.tm i with
    | .sl j p n _ sz', .int _ i => .need (Nat.beq sz sz') (.need (decide (0 ≤ i ∧ i < (n : Int))) (.val (.ptr j (p + i.toNat * sz))))
    | _, _ => .fail
set_option linter.unusedVariables false in
noncomputable def e_ixV (n : Nat) (sz : Nat) (ag : Bool) (x : Opd) (i : Opd) (Γ : Tr Ent) (o : O) (S : St) : E := match ev S.tm x, ev S.tm i with
    | .agg cs, .int _ i => .need (decide (0 ≤ i ∧ i < (n : Int))) (match ag with
      | true => .val (.agg ((cs.drop (i.toNat * sz)).take sz))
      | false => .ldV cs[i.toNat * sz]? .val)
    | _, _ => .fail
set_option linter.unusedVariables false in
noncomputable def e_ixStr (x : Opd) (i : Opd) (Γ : Tr Ent) (o : O) (S : St) : E := match ev S.tm x, ev S.tm i with
    | .str s, .int _ i => .need (decide (0 ≤ i)) (.ldV (s[i.toNat]?.map fun b => .int .u8 (b.toNat : Int)) .val)
    | _, _ => .fail
set_option linter.unusedVariables false in
noncomputable def e_fld (off : Nat) (sz : Nat) (ag : Bool) (x : Opd) (Γ : Tr Ent) (o : O) (S : St) : E := match ev S.tm x with
    | .agg cs => (match ag with
      | true => .val (.agg ((cs.drop off).take sz))
      | false => .ldV cs[off]? .val)
    | _ => .fail
set_option linter.unusedVariables false in
noncomputable def e_nilc (x : Opd) (Γ : Tr Ent) (o : O) (S : St) : E := match ev S.tm x with
    | .ptr j p => .val (.ptr j p)
    | .fn f c => .val (.fn f c)
    | .iface t v => .val (.iface t v)
    | _ => .fail
set_option linter.unusedVariables false in
noncomputable def e_ext (n : Nat) (x : Opd) (Γ : Tr Ent) (o : O) (S : St) : E := match ev S.tm x with | .tup vs => .ldV vs[n]? .val | _ => .fail
set_option linter.unusedVariables false in
noncomputable def e_load (ag : Bool) (sz : Nat) (x : Opd) (Γ : Tr Ent) (o : O) (S : St) : E := match ev S.tm x with
    | .ptr j p => (match ag with
      | true => .ldC (readL S.hp j p sz) fun cs => .val (.agg cs)
      | false => .ldV (read1 S.hp j p) .val)
    | _ => .fail
set_option linter.unusedVariables false in
noncomputable def e_store (sz : Nat) (x : Opd) (v : Opd) (Γ : Tr Ent) (o : O) (S : St) : E := match ev S.tm x with
    | .ptr j p => .need (Nat.beq (ev S.tm v).cells.length sz) (.need (allOk (ev S.tm v).cells) (.ldC (write S.hp j p (ev S.tm v).cells) fun cs => .mem .un (S.hp.set j (some ⟨cs, .own⟩)) S.nx))
    | _ => .fail
set_option linter.unusedVariables false in
noncomputable def e_alloc (z : List V) (Γ : Tr Ent) (o : O) (S : St) : E := fresh S o.off o.adv fun j nx => .mem (.ptr j 0) (S.hp.set j (some ⟨z, .own⟩)) nx
set_option linter.unusedVariables false in
noncomputable def e_box (x : Opd) (Γ : Tr Ent) (o : O) (S : St) : E := .need (allOk (ev S.tm x).cells) (fresh S o.off o.adv fun j nx => .mem (.ptr j 0) (S.hp.set j (some ⟨(ev S.tm x).cells, .own⟩)) nx)
set_option linter.unusedVariables false in
noncomputable def e_build (z : List V) (parts : List (Nat × Nat × Opd)) (Γ : Tr Ent) (o : O) (S : St) : E := .ldC (fillV S.tm z parts) fun cs => .val (.agg cs)
set_option linter.unusedVariables false in
noncomputable def e_bsl (sz : Nat) (len : Nat) (z : List V) (parts : List (Nat × Nat × Opd)) (Γ : Tr Ent) (o : O) (S : St) : E := fresh S o.off o.adv fun j nx => .ldC (fillV S.tm z parts) fun cs => .mem (.sl j 0 len (some len) sz) (S.hp.set j (some ⟨cs, .own⟩)) nx
set_option linter.unusedVariables false in
noncomputable def e_mks (sz : Nat) (bytes : Nat) (z : List V) (l : Opd) (c : Opd) (Γ : Tr Ent) (o : O) (S : St) : E := match ev S.tm l, ev S.tm c with
    | .int _ l, .int _ c => .need (decide (0 ≤ l ∧ l ≤ c ∧ bytes * c ≤ 281474976710656 ∧ c ≤ 281474976710656)) (fresh S o.off o.adv fun j nx =>
      .ldC (some (List.replicate c.toNat z).flatten) fun cs => .mem (.sl j 0 l.toNat (some c.toNat) sz) (S.hp.set j (some ⟨cs, .own⟩)) nx)
    | _, _ => .fail
set_option linter.unusedVariables false in
noncomputable def e_slStr (x : Opd) (lo : Option Opd) (hi : Option Opd) (Γ : Tr Ent) (o : O) (S : St) : E := match ev S.tm x with
    | .str s => bounds S.tm s.length s.length lo hi fun l h => .val (.str ((s.drop l).take (h - l)))
    | _ => .fail
set_option linter.unusedVariables false in
noncomputable def e_slSl (sz : Nat) (x : Opd) (lo : Option Opd) (hi : Option Opd) (Γ : Tr Ent) (o : O) (S : St) : E := match ev S.tm x with
    | .sl j p n cp sz' => .need (Nat.beq sz sz') (bounds S.tm n (match cp with | some c => c | none => n) lo hi fun l h => match lo, cp with
      | none, c => .val (.sl j p h c sz)
      | some _, some c => .br (Nat.beq c l) (.val (.sl j p (h - l) (some (c - l)) sz)) (.val (.sl j (p + l * sz) (h - l) (some (c - l)) sz))
      | some _, none => .br (Nat.blt l h) (.val (.sl j (p + l * sz) (h - l) none sz)) (.val .sle))
    | .nils => bounds S.tm 0 0 lo hi fun _ _ => .val .nils
    | .sle => bounds S.tm 0 0 lo hi fun _ _ => .val .sle
    | _ => .fail
set_option linter.unusedVariables false in
noncomputable def e_slArr (n : Nat) (sz : Nat) (x : Opd) (lo : Option Opd) (hi : Option Opd) (Γ : Tr Ent) (o : O) (S : St) : E := match ev S.tm x with
    | .ptr j p => bounds S.tm n n lo hi fun l h => match S.hp.get j with
      | some ⟨cells, .own⟩ => .need (Nat.ble (p + n * sz) cells.length) (.br (Nat.beq n l) (.val (.sl j p (h - l) (some (n - l)) sz)) (.val (.sl j (p + l * sz) (h - l) (some (n - l)) sz)))
      | _ => .fail
    | _ => .fail
set_option linter.unusedVariables false in
noncomputable def e_mkif (t : TypeId) (x : Opd) (Γ : Tr Ent) (o : O) (S : St) : E := .val (.iface t (ev S.tm x))
set_option linter.unusedVariables false in
noncomputable def e_mkfn (f : P2) (caught : List Opd) (Γ : Tr Ent) (o : O) (S : St) : E := .val (.fn f (caught.map (ev S.tm)))
set_option linter.unusedVariables false in
noncomputable def e_len (x : Opd) (Γ : Tr Ent) (o : O) (S : St) : E := match ev S.tm x with
    | .nils => .val (.int .i64 0)
    | .sle => .val (.int .i64 0)
    | .sl _ _ n _ _ => .val (.int .i64 n)
    | _ => .fail
set_option linter.unusedVariables false in
noncomputable def e_lenS (x : Opd) (Γ : Tr Ent) (o : O) (S : St) : E := match ev S.tm x with | .str s => .val (.int .i64 s.length) | _ => .fail
set_option linter.unusedVariables false in
noncomputable def e_app (sz : Nat) (bytes : Nat) (x : Opd) (y : Opd) (Γ : Tr Ent) (o : O) (S : St) : E := match srcLen (ev S.tm y) with
    | none => .fail
    | some n => .ldC (srcCells S.hp sz n (ev S.tm y)) fun new => .need (allOk new) (match ev S.tm x with
      | .nils => .need (decide (n * bytes ≤ 140737488355328)) (.br (Nat.beq n 0) (.val .nils) (fresh S o.off o.adv fun j nx => .mem (.sl j 0 n none sz) (S.hp.set j (some ⟨new, .own⟩)) nx))
      | .sl j p m _ sz' => .need (decide ((m + n) * bytes ≤ 140737488355328 ∧ sz = sz' ∧ p = 0)) (fresh S o.off o.adv fun j' nx => match S.hp.get j with
        | some ⟨cells, .own⟩ => .need (Nat.ble (m * sz) cells.length) (.ldC (some (cells.take (m * sz) ++ new)) fun cs =>
          .mem (.sl j' 0 (m + n) none sz) ((S.hp.set j (some ⟨[], .dead⟩)).set j' (some ⟨cs, .own⟩)) nx)
        | _ => .fail)
      | _ => .fail)
set_option linter.unusedVariables false in
noncomputable def e_cpy (sz : Nat) (x : Opd) (y : Opd) (Γ : Tr Ent) (o : O) (S : St) : E := match srcLen (ev S.tm y), ev S.tm x with
    | some n, .sl j p m _ sz' => .need (Nat.beq sz sz') (.ldC (srcCells S.hp sz (Nat.min n m) (ev S.tm y)) fun new => .need (allOk new) (.ldC (write S.hp j p new) fun cs =>
      .mem (.int .i64 (Nat.min n m : Nat)) (S.hp.set j (some ⟨cs, .own⟩)) S.nx))
    | some _, .nils => .val (.int .i64 0)
    | some _, .sle => .val (.int .i64 0)
    | _, _ => .fail
set_option linter.unusedVariables false in
noncomputable def e_mm (mx : Bool) (x : Opd) (y : Opd) (Γ : Tr Ent) (o : O) (S : St) : E := match ev S.tm x, ev S.tm y with
    | .int k a, .int _ b => .val (.int k (match mx with | true => if a < b then b else a | false => if b < a then b else a))
    | _, _ => .fail
set_option linter.unusedVariables false in
noncomputable def e_add64 (x : Opd) (y : Opd) (c : Opd) (Γ : Tr Ent) (o : O) (S : St) : E := match ev S.tm x, ev S.tm y, ev S.tm c with
    | .int _ a, .int _ b, .int _ c => .need (Nat.ble c.toNat 1) (.val (.tup [.int .u64 (Int.ofNat ((a.toNat + b.toNat + c.toNat) % 18446744073709551616)), .int .u64 (Int.ofNat ((a.toNat + b.toNat + c.toNat) / 18446744073709551616))]))
    | _, _, _ => .fail
set_option linter.unusedVariables false in
noncomputable def e_sub64 (x : Opd) (y : Opd) (c : Opd) (Γ : Tr Ent) (o : O) (S : St) : E := match ev S.tm x, ev S.tm y, ev S.tm c with
    | .int _ a, .int _ b, .int _ c => .need (Nat.ble c.toNat 1) (.val (.tup [.int .u64 (Int.ofNat ((a.toNat + 18446744073709551616 - b.toNat - c.toNat) % 18446744073709551616)), .int .u64 (match Nat.blt a.toNat (b.toNat + c.toNat) with | true => 1 | false => 0)]))
    | _, _, _ => .fail
set_option linter.unusedVariables false in
noncomputable def e_call (f : P2) (args : List Opd) (Γ : Tr Ent) (o : O) (S : St) : E := callE Γ S o f (args.map (ev S.tm))
set_option linter.unusedVariables false in
noncomputable def e_callv (x : Opd) (args : List Opd) (Γ : Tr Ent) (o : O) (S : St) : E := match ev S.tm x with
    | .fn f caught => callE Γ S o f (args.map (ev S.tm) ++ caught)
    | _ => .fail

noncomputable def evalI (Γ : Tr Ent) (o : O) (S : St) : E :=
  match o.i with
  | .mov x => e_mov x Γ o S
  | .pick c a b => e_pick c a b Γ o S
  | .bin op x y => e_bin op x y Γ o S
  | .eqb neg x y => e_eqb neg x y Γ o S
  | .nilq k neg x => e_nilq k neg x Γ o S
  | .eqs neg ks x y => e_eqs neg ks x y Γ o S
  | .un op x => e_un op x Γ o S
  | .conv k x => e_conv k x Γ o S
  | .s2b x => e_s2b x Γ o S
  | .b2s x => e_b2s x Γ o S
  | .lea off x => e_lea off x Γ o S
  | .ixA n sz x i => e_ixA n sz x i Γ o S
  | .ixS sz x i => e_ixS sz x i Γ o S
  | .ixV n sz ag x i => e_ixV n sz ag x i Γ o S
  | .ixStr x i => e_ixStr x i Γ o S
  | .fld off sz ag x => e_fld off sz ag x Γ o S
  | .nilc x => e_nilc x Γ o S
  | .ext n x => e_ext n x Γ o S
  | .load ag sz x => e_load ag sz x Γ o S
  | .store sz x v => e_store sz x v Γ o S
  | .alloc z => e_alloc z Γ o S
  | .box x => e_box x Γ o S
  | .build z parts => e_build z parts Γ o S
  | .bsl sz len z parts => e_bsl sz len z parts Γ o S
  | .mks sz bytes z l c => e_mks sz bytes z l c Γ o S
  | .slStr x lo hi => e_slStr x lo hi Γ o S
  | .slSl sz x lo hi => e_slSl sz x lo hi Γ o S
  | .slArr n sz x lo hi => e_slArr n sz x lo hi Γ o S
  | .mkif t x => e_mkif t x Γ o S
  | .mkfn f caught => e_mkfn f caught Γ o S
  | .len x => e_len x Γ o S
  | .lenS x => e_lenS x Γ o S
  | .app sz bytes x y => e_app sz bytes x y Γ o S
  | .cpy sz x y => e_cpy sz x y Γ o S
  | .mm mx x y => e_mm mx x y Γ o S
  | .add64 x y c => e_add64 x y c Γ o S
  | .sub64 x y c => e_sub64 x y c Γ o S
  | .call f args => e_call f args Γ o S
  | .callv x args => e_callv x args Γ o S

/-- The tree of an operation; then k. -/
noncomputable def E.toT (tm : Tr V) (hp : Tr Reg) (nx : P2) (d : Option P2) (adv : Bool) (k : St → T) (e : E) : T :=
  E.rec (motive := fun _ => T)
    (fun v => .tick v fun v => .step ⟨put tm d v, hp, nx⟩ k)
    (fun v hp nx => .tick v fun v => .step ⟨put tm d v, hp, nx⟩ k)
    (fun b _ t => .need b t)
    (fun b _ _ t f => .br b t f)
    (fun o _ t => .optV o t)
    (fun o _ t => .optC o t)
    (fun o => .optR o fun r => .step ⟨put tm d r.1, r.2.1, match adv with | true => r.2.2 | false => nx⟩ k)
    (fun t => .bind t fun l => match l with
      | .val v hp' nx' => .tick v fun v => .step ⟨put tm d v, hp', match adv with | true => nx' | false => nx⟩ k
      | .ret .. => .fail)
    .fail e

noncomputable def opT (Γ : Tr Ent) (o : O) (S : St) (k : St → T) : T :=
  match o.g with
  | none => (evalI Γ o S).toT S.tm S.hp S.nx o.d o.adv k
  | some (p, want) => match S.tm.get p with
    | some (.bool b) => .br b
      (match want with
        | true => (evalI Γ o ⟨S.tm.set p (some (.bool true)), S.hp, S.nx⟩).toT (S.tm.set p (some (.bool true))) S.hp S.nx o.d o.adv k
        | false => .step ⟨put (S.tm.set p (some (.bool true))) o.d (.tup []), S.hp, S.nx⟩ k)
      (match want with
        | false => (evalI Γ o ⟨S.tm.set p (some (.bool false)), S.hp, S.nx⟩).toT (S.tm.set p (some (.bool false))) S.hp S.nx o.d o.adv k
        | true => .step ⟨put (S.tm.set p (some (.bool false))) o.d (.tup []), S.hp, S.nx⟩ k)
    | some (.tup vs) => (match vs with
      | [] => .step ⟨put S.tm o.d (.tup []), S.hp, S.nx⟩ k
      | _ :: _ => .fail)
    | _ => .fail

noncomputable def opsT (Γ : Tr Ent) (ops : List O) : St → (St → T) → T :=
  List.rec (motive := fun _ => St → (St → T) → T) (fun S k => k S) (fun o _ ih S k => opT Γ o S fun S => ih S k) ops

noncomputable def setLit (tm : Tr V) (x : Opd) (b : Bool) : Tr V := match x with | .s p => tm.set p (some (.bool b)) | .c _ => tm

noncomputable def regK (tot : Nat) (k : Ex → St → T) (S : St) : T := match tot with
  | 0 => k .norm S
  | _ => k .norm ⟨S.tm, S.hp, S.nx.plus tot⟩

noncomputable def exec (Γ : Tr Ent) (c : C) : St → (Ex → St → T) → T :=
  C.rec (motive := fun _ => St → (Ex → St → T) → T)
    (fun S k => k .norm S)
    (fun ops tot S k => opsT Γ ops S (regK tot k))
    (fun _ _ ha hb S k => ha S fun ex S => match ex with | .norm => hb S k | .exit id => k (.exit id) S | .ret => k .ret S)
    (fun x _ _ ha hb S k => match ev S.tm x with
      | .bool b => .br b (ha ⟨setLit S.tm x true, S.hp, S.nx⟩ k) (hb ⟨setLit S.tm x false, S.hp, S.nx⟩ k)
      | _ => .fail)
    (fun id _ hc S k => hc S fun ex S => match ex with
      | .exit i => (match Nat.beq i id with | true => k .norm S | false => k (.exit i) S)
      | .norm => k .norm S
      | .ret => k .ret S)
    (fun _ hc S k => .loop (fun S => hc S fun ex S => .leaf (.ret ex S)) S k)
    (fun id S k => k (.exit id) S)
    (fun S k => k .ret S)
    (fun _ _ => .fail)
    c

/-- Results: a slot; a row of cells at an address. -/
inductive Rv where
  | tmp (p : P2)
  | cell (p : P2) (ag : Bool) (sz : Nat)

structure Fd where
  np : Nat
  code : C
  res : List Rv

noncomputable def resE (S : St) : Rv → Option V
  | .tmp p => some (ev S.tm (.s p))
  | .cell p ag sz => match ev S.tm (.s p) with
    | .ptr j o => (match ag with
      | true => (readL S.hp j o sz).map .agg
      | false => read1 S.hp j o)
    | _ => none

noncomputable def resL (S : St) : List Rv → Option (List V)
  | [] => some []
  | r :: rs => match resE S r with
    | some v => (match resL S rs with | some vs => some (v :: vs) | none => none)
    | none => none

def resV : List V → V
  | [v] => v
  | vs => .tup vs

/-- Arguments in the first slots. -/
noncomputable def argsAt (args : List V) : P2 → Tr V → Tr V := List.rec (motive := fun _ => P2 → Tr V → Tr V) (fun _ t => t) (fun v _ ih p t => ih p.succ (t.set p (some v))) args

noncomputable def callT (Γ : Tr Ent) (fd : Fd) : Tc := fun args hp nx =>
  .need (Nat.ble args.length fd.np) (.step ⟨argsAt args .h .e, hp, nx⟩ fun S => exec Γ fd.code S fun ex S => match ex with
    | .exit _ => .fail
    | _ => .optC (resL S fd.res) fun vs => .leaf (.val (resV vs) S.hp S.nx))

noncomputable def callF (fuel : Nat) (t : Tc) : Fc := fun args hp nx => match (t args hp nx).run fuel with
  | some (.val v hp nx) => some (v, hp, nx)
  | _ => none

end Go.AE
