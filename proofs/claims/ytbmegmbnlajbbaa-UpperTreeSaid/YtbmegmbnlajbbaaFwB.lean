/- The combinators, and what each operation becomes. -/
import Derived.Test.YtbmegmbnlajbbaaFwA
import Derived.Laws.World
import Derived.Laws.Sem
import Derived.RangeFuncSeq
import Derived.RangeFuncLeaves
import Derived.RangeFuncRecord
import Derived.RangeFuncIn
import Derived.RangeFuncCalls
import Derived.TacticsIn
namespace Go.Fw
open Go

def Sh.any? : Sh → Nat
  | .any => 1
  | _ => 0
def Sh.ev (s : Sh) (t : s.T) : EV := (s.any?, s.val t)

def shOf (P : Program) (t : TypeId) : Sh :=
  match P.underlying t with
  | some (.int k) => .int k
  | some .bool => .bool
  | some .string => .str
  | some (.pointer _) => .ptr
  | some (.slice _) => .slc
  | some (.map _ _) => .map
  | _ => .any
def aggOf (P : Program) (t : TypeId) : Option Nat :=
  match P.underlying t with
  | some (.struct _) => some (P.cellsOf t)
  | some (.array _ _) => some (P.cellsOf t)
  | _ => none
/-- The zero value's cells. -/
def zc (P : Program) (t : TypeId) : Array Value := (((P.info? t).bind (·.zero)).map Value.cells).getD #[]
def retShs (P : Program) (t : TypeId) : List Sh :=
  match P.underlying t with
  | some (.tuple ts) => ts.toList.map (shOf P)
  | _ => [shOf P t]
def isTup (P : Program) (t : TypeId) : Bool :=
  match P.underlying t with
  | some (.tuple _) => true
  | _ => false
def retEV (l : List Sh) (tup : Bool) (t : Tup l) : EV :=
  bif tup then (0, .tuple (Tup.vals l t).toArray)
  else match l, t with
    | [s], t => s.ev t
    | _, _ => (1, undef)

/-- 'map', over the list. -/
def mapL {α β : Type} (a : Array α) (f : α → β) : Array β := (a.toList.map f).toArray
theorem mapL_eq {α β : Type} (a : Array α) (f : α → β) : mapL a f = a.map f := by
  apply Array.ext'
  simp [mapL]

section comb
variable (P : Program)
def withAddr (x : Option Addr) (K : Addr → Prop) : Prop := match x with | some a => K a | none => False
def notNil : Value → Bool
  | .pointer none | .nilIface | .nilFunc | .func (.method _) _ _ => false
  | _ => true
def nnV (v : Value) (K : Prop) : Prop := notNil v = true ∧ K
def iteP (b : Bool) (A B : Prop) : Prop := (b = true → A) ∧ (b = false → B)
def pickV (b : Bool) (x y : Value) : Value := bif b then x else y
def addI (k : IntKind) (a b : Int) (K : Int → Prop) : Prop := ∃ n, n = k.wrap (a + b) ∧ K n
def subI (k : IntKind) (a b : Int) (K : Int → Prop) : Prop := ∃ n, n = k.wrap (a - b) ∧ K n
def mulI (k : IntKind) (a b : Int) (K : Int → Prop) : Prop := ∃ n, n = k.wrap (a * b) ∧ K n
def quoI (k : IntKind) (a b : Int) (K : Int → Prop) : Prop := b ≠ 0 ∧ ∃ n, n = k.wrap (a.tdiv b) ∧ K n
def remI (a b : Int) (K : Int → Prop) : Prop := b ≠ 0 ∧ ∃ n, n = a.tmod b ∧ K n
def andI (k : IntKind) (a b : Int) (K : Int → Prop) : Prop := ∃ n, n = k.wrap (BitVec.ofInt k.bits a &&& BitVec.ofInt k.bits b).toNat ∧ K n
def orI (k : IntKind) (a b : Int) (K : Int → Prop) : Prop := ∃ n, n = k.wrap (BitVec.ofInt k.bits a ||| BitVec.ofInt k.bits b).toNat ∧ K n
def xorI (k : IntKind) (a b : Int) (K : Int → Prop) : Prop := ∃ n, n = k.wrap (BitVec.ofInt k.bits a ^^^ BitVec.ofInt k.bits b).toNat ∧ K n
def anI (k : IntKind) (a b : Int) (K : Int → Prop) : Prop := ∃ n, n = k.wrap (BitVec.ofInt k.bits a &&& ~~~ BitVec.ofInt k.bits b).toNat ∧ K n
def shlI (k : IntKind) (a b : Int) (K : Int → Prop) : Prop := 0 ≤ b ∧ ∃ n, n = k.wrap (a * 2 ^ (min b.toNat k.bits)) ∧ K n
def shrI (k : IntKind) (a b : Int) (K : Int → Prop) : Prop := 0 ≤ b ∧ ∃ n, n = a.fdiv (2 ^ (min b.toNat k.bits)) ∧ K n
def cvI (k : IntKind) (a : Int) (K : Int → Prop) : Prop := ∃ n, n = k.wrap a ∧ K n
def catS (x y : ByteArray) (K : ByteArray → Prop) : Prop := x.size + y.size ≤ 9223372036854775807 ∧ K (x ++ y)
def ld (s : Sh) (a : Addr) (w : World) (K : s.T → Prop) : Prop := ∃ t, w.cell? a = some (s.val t) ∧ K t
def ldA (n : Nat) (a : Addr) (w : World) (K : Array Value → Prop) : Prop := ∃ cs, (loadCells a n).run P w = .ok cs w ∧ K cs
def ixS (a : Option Addr) (len size : Nat) (i : Int) (K : Addr → Prop) : Prop := ∃ p, a = some p ∧ 0 ≤ i ∧ i < (len : Int) ∧ K (p.add (i.toNat * size))
def ixR (a : Addr) (len size : Nat) (i : Int) (K : Addr → Prop) : Prop := 0 ≤ i ∧ i < (len : Int) ∧ K (a.add (i.toNat * size))
def ixStr (s : ByteArray) (i : Int) (K : Int → Prop) : Prop := 0 ≤ i ∧ ∃ b, s[i.toNat]? = some b ∧ K (b.toNat : Int)
def exV (v : Value) (i : Nat) (s : Sh) (K : s.T → Prop) : Prop := ∃ vs t, v = .tuple vs ∧ vs[i]? = some (s.val t) ∧ K t
def genQ (m : Sem Value) (s : Sh) (w : World) (K : s.T → Prop) : Prop := ∃ t, m.run P w = .ok (s.val t) w ∧ K t
def genT (m : Sem Value) (l : List Sh) (w : World) (K : Tup l → Prop) : Prop := ∃ t, m.run P w = .ok (.tuple (Tup.vals l t).toArray) w ∧ K t
/-- What no operation here touches: the system, what was printed, the tape. -/
def Calm (w w' : World) : Prop := w'.os = w.os ∧ w'.output = w.output ∧ w'.tape = w.tape ∧ w.drawn ≤ w'.drawn
def genL (m : Sem Value) (s : Sh) (w : World) (K : s.T → World → Prop) : Prop := ∃ t w', m.run P w = .ok (s.val t) w' ∧ Calm w w' ∧ K t w'
def genU (m : Sem Unit) (w : World) (K : World → Prop) : Prop := ∃ w', m.run P w = .ok () w' ∧ Calm w w' ∧ K w'
/-- A call of a function, as an operation does it. -/
def CallF (f : FuncId) (args : Array Value) (w : World) (R : Ending → World → Prop) : Prop :=
  (callFunc f args).run P w = .ok (.enter f args) w ∧ Calls P f args w fun e w' => R e w' ∧ Calm w w'
/-- A call that leaves the world alone. -/
def callQ (f : FuncId) (args : Array Value) (l : List Sh) (tup : Bool) (w : World) (K : Tup l → Prop) : Prop :=
  ∃ t, CallF P f args w (fun e w' => e = .returned (retEV l tup t).2 ∧ w' = w) ∧ K t
/-- A call of a function, of the program's or of the model's own. (Inductive: the kernel is not to unfold it.) -/
inductive CallX (f : FuncId) (args : Array Value) (w : World) (R : Ending → World → Prop) : Prop
  | go (h : CallF P f args w R)
  | own (v : Value) (w1 : World) (h : (callFunc f args).run P w = .ok (.value v) w1) (hc : Calm w w1) (hR : R (.returned v) w1)
def callF (f : FuncId) (args : Array Value) (l : List Sh) (tup : Bool) (w : World) (K : Tup l → World → Prop) : Prop :=
  CallX P f args w (fun e w' => ∃ t, e = .returned (retEV l tup t).2 ∧ K t w')
/-- A call of the yield of a loop: one round. -/
def YieldF (l : Nat) (args : Array Value) (w : World) (R : Ending → World → Prop) : Prop :=
  ∃ fn tmps assign body, (Instr.yield l args).run P w = .ok (.round l fn tmps assign body) w ∧ RoundIn Fence.wide 0 P l fn tmps assign body w fun e w' => R e w' ∧ Calm w w'
/-- A call of a function value. -/
inductive CallVX (v : Value) (args : Array Value) (w : World) (R : Ending → World → Prop) : Prop
  | func (f : FuncId) (first cap : Array Value) (hv : v = .func (.func f) first cap) (h : CallF P f (first ++ args ++ cap) w R)
  | yield (l : Nat) (hv : v = .func (.yield l) #[] #[]) (h : YieldF P l args w R)
def callV (v : Value) (args : Array Value) (l : List Sh) (tup : Bool) (w : World) (K : Tup l → World → Prop) : Prop :=
  CallVX P v args w (fun e w' => ∃ t, e = .returned (retEV l tup t).2 ∧ K t w')
def callG (m : Sem Next) (l : List Sh) (tup : Bool) (w : World) (K : Tup l → World → Prop) : Prop :=
  ∃ f args w1, m.run P w = .ok (.enter f args) w1 ∧ Calm w w1 ∧ Calls P f args w1 (fun e w' => (∃ t, e = .returned (retEV l tup t).2 ∧ K t w') ∧ Calm w1 w')
/-- A new block of cells. -/
def New (w : World) (o : Obj) (b : Nat) (w' : World) : Prop := b = w.heap.size ∧ w' = { w with heap := w.heap.push o }
def newB (cells : Array Value) (t : TypeId) (w : World) (K : Nat → World → Prop) : Prop := ∀ b w', New w (.cells cells t) b w' → K b w'
def Wrote (w : World) (a : Addr) (v : Value) (w' : World) : Prop := w' = w.setCell a v
def stC (a : Addr) (v : Value) (w : World) (K : World → Prop) : Prop := (∃ x, w.cell? a = some x) ∧ w.frozen? a = false ∧ ∀ w', Wrote w a v w' → K w'
end comb

def eqM (op : BinOp) (t : TypeId) (x y : Operand) (a b : Value) : Sem Value := do eqGuard op t x y a b; binOp op t a b
def isNilC : Operand → Bool
  | .const (.pointer none) => true
  | _ => false
def isNilS : Operand → Bool
  | .const (.slice none _ _) => true
  | _ => false

/-- An operation on two integers of one kind. -/
def intQ (op : BinOp) (k : IntKind) (a b : Int) (K : EV → Prop) : Prop :=
  match op with
  | .add => addI k a b fun n => K (0, .int k n)
  | .sub => subI k a b fun n => K (0, .int k n)
  | .mul => mulI k a b fun n => K (0, .int k n)
  | .quo => quoI k a b fun n => K (0, .int k n)
  | .rem => remI a b fun n => K (0, .int k n)
  | .and => andI k a b fun n => K (0, .int k n)
  | .or => orI k a b fun n => K (0, .int k n)
  | .xor => xorI k a b fun n => K (0, .int k n)
  | .andNot => anI k a b fun n => K (0, .int k n)
  | .shl => shlI k a b fun n => K (0, .int k n)
  | .shr => shrI k a b fun n => K (0, .int k n)
  | .eql => K (0, .bool (a == b))
  | .neq => K (0, .bool (a != b))
  | .lss => K (0, .bool (decide (a < b)))
  | .leq => K (0, .bool (decide (a ≤ b)))
  | .gtr => K (0, .bool (decide (a > b)))
  | .geq => K (0, .bool (decide (a ≥ b)))
def strQ (op : BinOp) (x y : ByteArray) (K : EV → Prop) : Prop :=
  match op with
  | .add => catS x y fun s => K (0, .string s)
  | .eql => K (0, .bool (x.toList == y.toList))
  | .neq => K (0, .bool (!(x.toList == y.toList)))
  | .lss => K (0, .bool (Op.bytesLess x.toList y.toList))
  | .leq => K (0, .bool (Op.bytesLess x.toList y.toList || x.toList == y.toList))
  | .gtr => K (0, .bool (!(Op.bytesLess x.toList y.toList || x.toList == y.toList)))
  | .geq => K (0, .bool (!(Op.bytesLess x.toList y.toList)))
  | _ => False
def binQ (P : Program) (op : BinOp) (t : TypeId) (x y : Operand) (ρ : Operand → EV) (w : World) (K : EV → Prop) : Prop :=
  match shOf P t with
  | .int k =>
    match (ρ x).2, (ρ y).2 with
    | .int k1 a, .int k2 b => if k1 = k ∧ (k2 = k ∨ op = .shl ∨ op = .shr) then intQ op k a b K else False
    | _, _ => False
  | .str =>
    match (ρ x).2, (ρ y).2 with
    | .string a, .string b => strQ op a b K
    | _, _ => False
  | .ptr =>
    bif isNilC y then
      match op, (ρ x).2 with
      | .eql, .pointer p => K (0, .bool p.isNone)
      | .neq, .pointer p => K (0, .bool (!p.isNone))
      | _, _ => False
    else genQ P (eqM op t x y (ρ x).2 (ρ y).2) .bool w fun b => K (0, .bool b)
  | .slc =>
    bif isNilS y then
      match op, (ρ x).2 with
      | .eql, .slice p _ _ => K (0, .bool p.isNone)
      | .neq, .slice p _ _ => K (0, .bool (!p.isNone))
      | _, _ => False
    else False
  | _ => genQ P (eqM op t x y (ρ x).2 (ρ y).2) .bool w fun b => K (0, .bool b)
def unQ (op : UnOp) (v : Value) (K : EV → Prop) : Prop :=
  match op, v with
  | .not, .bool b => K (0, .bool (!b))
  | .neg, .int k n => subI k 0 n fun m => K (0, .int k m)
  | .xor, .int k n => xorI k (if k.signed then -1 else k.max) n fun m => K (0, .int k m)
  | _, _ => False
def fieldOff (P : Program) (s : TypeId) (f : Nat) : Option Nat :=
  match P.underlying s with
  | some (.struct fs) => match fs[f]? with
    | some x => if P.cellsOf x.type = 0 then none else some x.offset
    | none => none
  | _ => none
/-- An index that is written out. -/
def litIx : Operand → Option Int
  | .const (.int _ n) => some n
  | _ => none
def ixQ (P : Program) (t : TypeId) (x i : Operand) (ρ : Operand → EV) (K : EV → Prop) : Prop :=
  match P.underlying t with
  | some (.slice e) =>
    (match (P.info? e).map (·.size), (ρ x).2, (ρ i).2 with
    | some s, .slice a l _, .int _ n => ixS a l s n fun p => K (0, .pointer (some p))
    | _, _, _ => False)
  | some (.array m e) =>
    (match (P.info? e).map (·.size), (ρ x).2, (ρ i).2 with
    | some s, .pointer p, .int _ n => withAddr p fun a =>
      (match litIx i with
      | some n => if 0 ≤ n ∧ n < (m : Int) then K (0, .pointer (some (a.add (n.toNat * s)))) else False
      | none => ixR a m s n fun p => K (0, .pointer (some p)))
    | _, _, _ => False)
  | _ => False
def ldQ (P : Program) (t : TypeId) (v : Value) (w : World) (K : EV → Prop) : Prop :=
  match P.underlying t, v with
  | some _, .pointer p => withAddr p fun a =>
    (match aggOf P t with
    | some n => ldA P n a w fun cs => K (1, .agg cs)
    | none => ld (shOf P t) a w fun x => K ((shOf P t).ev x))
  | _, _ => False
def tupQ (P : Program) (m : Sem Value) (t : TypeId) (w : World) (K : EV → Prop) : Prop :=
  bif isTup P t then genT P m (retShs P t) w fun x => K (0, .tuple (Tup.vals (retShs P t) x).toArray)
  else genQ P m (shOf P t) w fun x => K ((shOf P t).ev x)

def lenQ (P : Program) (c : Call) (ty : TypeId) (ρ : Operand → EV) (w : World) (K : EV → Prop) : Prop :=
  match (c.argTypes[0]?).map (shOf P) with
  | some .str => (match (c.args[0]?).map fun x => (ρ x).2 with
    | some (.string s) => K (0, .int .i64 s.size)
    | _ => False)
  | some .slc => (match (c.args[0]?).map fun x => (ρ x).2 with
    | some (.slice _ n _) => K (0, .int .i64 n)
    | _ => False)
  | _ => genQ P (Builtin.len_ c.argTypes ty (mapL c.args fun x => (ρ x).2)) (.int .i64) w fun n => K (0, .int .i64 n)
def memN (n : Nat) : List Nat → Bool
  | [] => false
  | m :: r => Nat.beq m n || memN n r
/-- Which operations leave the world alone (if they go well). -/
def isQ (P : Program) (qs : List FuncId) (o : Oper) : Bool :=
  match o.op with
  | .move _ | .assign _ | .pick .. | .load .. | .nilCheck _ | .binOp .. | .unOp .. | .makeInterface .. | .makeFunc .. | .slice .. | .fieldAddr .. | .indexAddr .. | .index ..
  | .field .. | .build .. | .lookup .. | .typeAssert .. | .entry _ | .extract .. => true
  | .convert s d _ => match shOf P s, shOf P d with
    | .int _, .int _ | .str, .str | .slc, .str => true
    | _, _ => false
  | .call c => match c.callee with
    | .builtin .len | .builtin .cap | .builtin .max | .builtin .min => true
    | .value (.func f) => memN f qs
    | _ => false
  | _ => false
/-- Those of them that do not even look at it. -/
def isPure (P : Program) (o : Oper) : Bool :=
  match o.op with
  | .move _ | .assign _ | .pick .. | .nilCheck _ | .unOp .. | .fieldAddr .. | .indexAddr .. | .extract .. => true
  | .binOp _ t _ y _ => match shOf P t with
    | .int _ | .str => true
    | .ptr => isNilC y
    | .slc => isNilS y
    | _ => false
  | .convert s d _ => match shOf P s, shOf P d with
    | .int _, .int _ => true
    | _, _ => false
  | .index t _ _ => match shOf P t with
    | .str => true
    | _ => false
  | .call c => match c.callee with
    | .builtin .len => match (c.argTypes[0]?).map (shOf P) with
      | some .str | some .slc => true
      | _ => false
    | _ => false
  | _ => false
/-- What an operation that leaves the world alone asks. -/
def opQ (P : Program) (o : Oper) (ρ : Operand → EV) (w : World) (K : EV → Prop) : Prop :=
  match o.op with
  | .move x => K (ρ x)
  | .assign x => K (ρ x)
  | .pick c a b => (match (ρ c).2 with
    | .bool c => K (cond c (ρ a) (ρ b))
    | _ => False)
  | .load t a => ldQ P t (ρ a).2 w K
  | .nilCheck x => bif Nat.beq (ρ x).1 1 then nnV (ρ x).2 (K (ρ x)) else
    (match (ρ x).2 with
    | .pointer p => withAddr p fun a => K (0, .pointer (some a))
    | v => nnV v (K (0, v)))
  | .binOp op t x y _ => binQ P op t x y ρ w K
  | .unOp op _ x => unQ op (ρ x).2 K
  | .convert s d x =>
    (match shOf P s, shOf P d with
    | .int _, .int k => (match (ρ x).2 with
      | .int _ n => cvI k n fun m => K (0, .int k m)
      | _ => False)
    | .str, .str => genQ P (convert s d (ρ x).2) .str w fun y => K (0, .string y)
    | .slc, .str => genQ P (convert s d (ρ x).2) .str w fun y => K (0, .string y)
    | _, _ => False)
  | .makeInterface t x => genQ P (Instr.makeInterface t (ρ x).2) .any w fun y => K (1, y)
  | .makeFunc fn first cap => genQ P (Instr.makeFunc fn (mapL first fun x => (ρ x).2) (mapL cap fun x => (ρ x).2)) .any w fun y => K (1, y)
  | .slice t x lo hi mx => genQ P (Instr.sliceAt t (ρ x).2 (lo.map fun x => (ρ x).2) (hi.map fun x => (ρ x).2) (mx.map fun x => (ρ x).2)) (shOf P o.type) w fun y => K ((shOf P o.type).ev y)
  | .fieldAddr s x f => (match (ρ x).2, fieldOff P s f with
    | .pointer p, some off => withAddr p fun a => K (0, .pointer (some (a.add off)))
    | _, _ => False)
  | .indexAddr t x i => ixQ P t x i ρ K
  | .index t x i => (match shOf P t with
    | .str => (match (ρ x).2, (ρ i).2 with
      | .string s, .int _ n => ixStr s n fun b => K (0, .int .u8 b)
      | _, _ => False)
    | _ => genQ P (Instr.index t (ρ x).2 (ρ i).2) (shOf P o.type) w fun y => K ((shOf P o.type).ev y))
  | .field t x f => genQ P (Instr.field t (ρ x).2 f) (shOf P o.type) w fun y => K ((shOf P o.type).ev y)
  | .build t parts => genQ P (Instr.build t (mapL parts fun p => (p.1, (ρ p.2).2))) .any w fun y => K (1, y)
  | .lookup t x i ok => tupQ P (Instr.lookup t (ρ x).2 (ρ i).2 ok) o.type w K
  | .typeAssert x t a ok => tupQ P (Instr.typeAssert (ρ x).2 t a ok) o.type w K
  | .entry x => genQ P (Instr.entry (ρ x).2) .any w fun y => K (1, y)
  | .extract t i => bif Nat.beq (ρ t).1 1 then exV (ρ t).2 i (shOf P o.type) (fun y => K ((shOf P o.type).ev y)) else
    (match (ρ t).2 with
    | .tuple vs => match vs[i]? with
      | some v => K ((shOf P o.type).any?, v)
      | none => False
    | _ => False)
  | .call c => (match c.callee with
    | .builtin .len => lenQ P c o.type ρ w K
    | .builtin .cap => genQ P (Builtin.cap_ c.argTypes o.type (mapL c.args fun x => (ρ x).2)) (.int .i64) w fun n => K (0, .int .i64 n)
    | .builtin .max => genQ P (Builtin.max_ c.argTypes o.type (mapL c.args fun x => (ρ x).2)) (shOf P o.type) w fun y => K ((shOf P o.type).ev y)
    | .builtin .min => genQ P (Builtin.min_ c.argTypes o.type (mapL c.args fun x => (ρ x).2)) (shOf P o.type) w fun y => K ((shOf P o.type).ev y)
    | .value (.func f) => callQ P f (mapL c.args fun x => (ρ x).2) (retShs P o.type) (isTup P o.type) w fun t => K (retEV (retShs P o.type) (isTup P o.type) t)
    | _ => False)
  | _ => False
/-- What any other operation asks. -/
def opL (P : Program) (o : Oper) (ρ : Operand → EV) (w : World) (K : EV → World → Prop) : Prop :=
  match o.op with
  | .alloc t => bif ((P.info? t).bind (·.zero)).isSome then newB (zc P t) t w fun b w' => K (0, .pointer (some ⟨b, 0, none⟩)) w' else False
  | .box t x => newB (Value.cells (ρ x).2) t w fun b w' => K (0, .pointer (some ⟨b, 0, none⟩)) w'
  | .store t a x => (match (ρ a).2 with
    | .pointer p => withAddr p fun a =>
      bif (aggOf P t).isNone && !(Nat.beq (ρ x).1 1) && Nat.beq (P.cellsOf t) 1 && (ρ x).2.oneCell' then stC a (ρ x).2 w fun w' => K (0, undef) w'
      else genU P (storeVar t a (ρ x).2) w fun w' => K (0, undef) w'
    | _ => False)
  | .mapUpdate t m k x | .insert t m k x => genU P (Instr.mapUpdate t (ρ m).2 (ρ k).2 (ρ x).2) w fun w' => K (0, undef) w'
  | .makeMap t r => genL P (Instr.makeMap t (r.map fun x => (ρ x).2)) .map w fun y w' => K (0, .map y) w'
  | .makeSlice t l c => genL P (Instr.makeSlice t (ρ l).2 (ρ c).2) .slc w fun y w' => K (Sh.slc.ev y) w'
  | .buildSlice t n parts => genL P (Instr.buildSlice t n (mapL parts fun p => (p.1, (ρ p.2).2))) .slc w fun y w' => K (Sh.slc.ev y) w'
  | .convert s d x => genL P (convert s d (ρ x).2) (shOf P d) w fun y w' => K ((shOf P d).ev y) w'
  | .range t x => genL P (Instr.range t (ρ x).2) .ptr w fun y w' => K (0, .pointer y) w'
  | .next it b => genL P (Instr.next (ρ it).2 b o.type) .any w fun y w' => K (1, y) w'
  | .call c => (match c.callee with
    | .builtin .append => genL P (Builtin.append_ c.argTypes o.type (mapL c.args fun x => (ρ x).2)) .slc w fun y w' => K (Sh.slc.ev y) w'
    | .builtin .copy => genL P (Builtin.copy_ c.argTypes o.type (mapL c.args fun x => (ρ x).2)) (.int .i64) w fun y w' => K (0, .int .i64 y) w'
    | .builtin .delete => genL P (Builtin.delete_ c.argTypes o.type (mapL c.args fun x => (ρ x).2)) .any w fun y w' => K (1, y) w'
    | .builtin .unsafeSliceData => genL P (Builtin.unsafeSliceData_ c.argTypes o.type (mapL c.args fun x => (ρ x).2)) .ptr w fun y w' => K (0, .pointer y) w'
    | .builtin .unsafeString => genL P (Builtin.unsafeString_ c.argTypes o.type (mapL c.args fun x => (ρ x).2)) .str w fun y w' => K (0, .string y) w'
    | .builtin _ => False
    | .value (.func f) => callF P f (mapL c.args fun x => (ρ x).2) (retShs P o.type) (isTup P o.type) w fun t w' => K (retEV (retShs P o.type) (isTup P o.type) t) w'
    | .value x => callV P (ρ x).2 (mapL c.args fun x => (ρ x).2) (retShs P o.type) (isTup P o.type) w fun t w' => K (retEV (retShs P o.type) (isTup P o.type) t) w'
    | .invoke r m => callG P (callMethod (ρ r).2 m (mapL c.args fun x => (ρ x).2)) (retShs P o.type) (isTup P o.type) w fun t w' => K (retEV (retShs P o.type) (isTup P o.type) t) w')
  | _ => False
end Go.Fw
