/- The vocabulary of the translation of code into readable propositions: shapes of values, environments, the combinators for the operations. -/
import Derived.Still
import Derived.KernelRfl
import Derived.Laws.World
import Derived.Laws.Sem
import Derived.RangeFuncSeq
import Derived.RangeFuncLeaves
import Derived.RangeFuncRecord
import Derived.RangeFuncIn
import Derived.RangeFuncCalls
import Derived.TacticsIn
namespace Go.Fw
open Go

/-- The shape of a value that stands in one slot. -/
inductive Sh where
  | int (k : IntKind) | bool | str | ptr | slc | map | any
@[reducible] def Sh.T : Sh → Type
  | .int _ => Int
  | .bool => Bool
  | .str => ByteArray
  | .ptr => Option Addr
  | .slc => Option Addr × Nat × Nat
  | .map => Option Nat
  | .any => Value
def Sh.val : (s : Sh) → s.T → Value
  | .int k, n => .int k n
  | .bool, b => .bool b
  | .str, s => .string s
  | .ptr, p => .pointer p
  | .slc, x => .slice x.1 x.2.1 x.2.2
  | .map, r => .map r
  | .any, v => v
/-- What of a value is of a shape. -/
def Sh.un : (s : Sh) → Value → Option s.T
  | .int k, .int k' n => if k = k' then some n else none
  | .bool, .bool b => some b
  | .str, .string s => some s
  | .ptr, .pointer p => some p
  | .slc, .slice a l c => some (a, l, c)
  | .map, .map r => some r
  | .any, v => some v
  | _, _ => none
theorem Sh.un_val {s : Sh} {v : Value} {t : s.T} (h : s.un v = some t) : v = s.val t := by
  cases s <;> cases v <;> simp [Sh.un, Sh.val] at h ⊢ <;> first | (obtain ⟨rfl, rfl⟩ := h; exact ⟨rfl, rfl⟩) | (subst h; rfl) | (obtain rfl := h; simp) | exact h

/-- Several of them. -/
@[reducible] def Tup : List Sh → Type
  | [] => Unit
  | [s] => s.T
  | s :: r => s.T × Tup r
def Tup.vals : (l : List Sh) → Tup l → List Value
  | [], _ => []
  | [s], t => [s.val t]
  | s :: u :: r, t => s.val t.1 :: Tup.vals (u :: r) t.2

/-- A value, and a mark: 1: its form is left open; 2, 3: it is written out as true, false. -/
abbrev EV := Nat × Value
/-- The slots' values, the latest first. -/
abbrev Env := List (Nat × EV)
def Env.find : Env → Nat → Option EV
  | [], _ => none
  | (s, v) :: e, t => bif Nat.beq s t then some v else Env.find e t
def Env.get (e : Env) (t : Nat) : EV := match e.find t with | some v => v | none => (1, undef)
def constTag : Value → Nat
  | .bool _ => 2
  | _ => 0
def Env.ev (e : Env) : Operand → EV
  | .tmp t => e.get t
  | .const v => (constTag v, v)
  | .global g => (0, .pointer (some ⟨g, 0, none⟩))
  | .func f => (0, .func (.func f) #[] #[])
def Env.put (e : Env) : Option Tmp → EV → Env
  | some d, v => (d, v) :: e
  | none, _ => e

/-- An environment tells the truth of a frame. -/
def Rep (ds : List Deferred) (n : Nat) (e : Env) (a : Act) : Prop := a.defers = ds ∧ a.tmps.size = n ∧ ∀ t v, e.find t = some v → a.tmps[t]? = some v.2

theorem Rep.get {ds : List Deferred} {n : Nat} {e : Env} {a : Act} (h : Rep ds n e a) {t : Nat} {v : EV} (hf : e.find t = some v) : a.tmps.getD t undef = v.2 := by
  have := h.2.2 t v hf
  simp [this]

/-- All operands are known slots, constants, .. -/
def Env.knows (e : Env) : Operand → Bool
  | .tmp t => (e.find t).isSome
  | _ => true
theorem Rep.ev {ds : List Deferred} {n : Nat} {e : Env} {a : Act} (h : Rep ds n e a) {x : Operand} (hk : e.knows x = true) : a.eval x = (e.ev x).2 := by
  cases x with
  | tmp t =>
    simp only [Env.knows, Option.isSome_iff_exists] at hk
    obtain ⟨v, hv⟩ := hk
    simp only [Act.eval, Env.ev, Env.get, hv]
    exact h.get hv
  | _ => rfl
theorem Rep.put {ds : List Deferred} {n : Nat} {e : Env} {a : Act} (h : Rep ds n e a) {d : Option Tmp} {v : EV} (hd : ∀ t, d = some t → t < n) : Rep ds n (e.put d v) (a.put d v.2) := by
  obtain ⟨h0, h1, h2⟩ := h
  cases d with
  | none => exact ⟨h0, h1, h2⟩
  | some t =>
    refine ⟨h0, by simpa [Act.put] using h1, fun u x hx => ?_⟩
    simp only [Env.put, Env.find] at hx
    by_cases e1 : t = u
    · subst e1
      have : Nat.beq t t = true := by simp
      simp only [this, cond_true, Option.some.injEq] at hx
      subst hx
      have := hd t rfl
      simp [Act.put, h1, this]
    · have : Nat.beq t u = false := by
        cases hb : Nat.beq t u with
        | true => exact absurd (Nat.eq_of_beq_eq_true hb) e1
        | false => rfl
      simp only [this, cond_false] at hx
      have := h2 u x hx
      simp only [Act.put]
      rw [Array.getElem?_setIfInBounds_ne e1]
      exact this

end Go.Fw

/- The combinators, and what each operation becomes. -/
namespace Go.Fw
open Go

def Sh.any? : Sh → Nat
  | .any => 1
  | _ => 0
def Sh.ev (s : Sh) (t : s.T) : EV := (s.any?, s.val t)

def shOf (P : Program) (t : TypeId) : Sh :=
  match P.underlying t with
  | some (.int k) => .int k
  | some .bool => .bool
  | some .string => .str
  | some (.pointer _) => .ptr
  | some (.slice _) => .slc
  | some (.map _ _) => .map
  | _ => .any
def aggOf (P : Program) (t : TypeId) : Option Nat :=
  match P.underlying t with
  | some (.struct _) => some (P.cellsOf t)
  | some (.array _ _) => some (P.cellsOf t)
  | _ => none
/-- The zero value's cells. -/
def zc (P : Program) (t : TypeId) : Array Value := (((P.info? t).bind (·.zero)).map Value.cells).getD #[]
def retShs (P : Program) (t : TypeId) : List Sh :=
  match P.underlying t with
  | some (.tuple ts) => ts.toList.map (shOf P)
  | _ => [shOf P t]
def isTup (P : Program) (t : TypeId) : Bool :=
  match P.underlying t with
  | some (.tuple _) => true
  | _ => false
def retEV (l : List Sh) (tup : Bool) (t : Tup l) : EV :=
  bif tup then (0, .tuple (Tup.vals l t).toArray)
  else match l, t with
    | [s], t => s.ev t
    | _, _ => (1, undef)

/-- 'map', over the list. -/
def mapL {α β : Type} (a : Array α) (f : α → β) : Array β := (a.toList.map f).toArray
theorem mapL_eq {α β : Type} (a : Array α) (f : α → β) : mapL a f = a.map f := by
  apply Array.ext'
  simp [mapL]

section comb
variable (P : Program)
def withAddr (x : Option Addr) (K : Addr → Prop) : Prop := match x with | some a => K a | none => False
def notNil : Value → Bool
  | .pointer none | .nilIface | .nilFunc | .func (.method _) _ _ => false
  | _ => true
def nnV (v : Value) (K : Prop) : Prop := notNil v = true ∧ K
def iteP (b : Bool) (A B : Prop) : Prop := (b = true → A) ∧ (b = false → B)
def pickV (b : Bool) (x y : Value) : Value := bif b then x else y
def addI (k : IntKind) (a b : Int) (K : Int → Prop) : Prop := ∃ n, n = k.wrap (a + b) ∧ K n
def subI (k : IntKind) (a b : Int) (K : Int → Prop) : Prop := ∃ n, n = k.wrap (a - b) ∧ K n
def mulI (k : IntKind) (a b : Int) (K : Int → Prop) : Prop := ∃ n, n = k.wrap (a * b) ∧ K n
def quoI (k : IntKind) (a b : Int) (K : Int → Prop) : Prop := b ≠ 0 ∧ ∃ n, n = k.wrap (a.tdiv b) ∧ K n
def remI (a b : Int) (K : Int → Prop) : Prop := b ≠ 0 ∧ ∃ n, n = a.tmod b ∧ K n
def andI (k : IntKind) (a b : Int) (K : Int → Prop) : Prop := ∃ n, n = k.wrap (BitVec.ofInt k.bits a &&& BitVec.ofInt k.bits b).toNat ∧ K n
def orI (k : IntKind) (a b : Int) (K : Int → Prop) : Prop := ∃ n, n = k.wrap (BitVec.ofInt k.bits a ||| BitVec.ofInt k.bits b).toNat ∧ K n
def xorI (k : IntKind) (a b : Int) (K : Int → Prop) : Prop := ∃ n, n = k.wrap (BitVec.ofInt k.bits a ^^^ BitVec.ofInt k.bits b).toNat ∧ K n
def anI (k : IntKind) (a b : Int) (K : Int → Prop) : Prop := ∃ n, n = k.wrap (BitVec.ofInt k.bits a &&& ~~~ BitVec.ofInt k.bits b).toNat ∧ K n
def shlI (k : IntKind) (a b : Int) (K : Int → Prop) : Prop := 0 ≤ b ∧ ∃ n, n = k.wrap (a * 2 ^ (min b.toNat k.bits)) ∧ K n
def shrI (k : IntKind) (a b : Int) (K : Int → Prop) : Prop := 0 ≤ b ∧ ∃ n, n = a.fdiv (2 ^ (min b.toNat k.bits)) ∧ K n
def cvI (k : IntKind) (a : Int) (K : Int → Prop) : Prop := ∃ n, n = k.wrap a ∧ K n
def catS (x y : ByteArray) (K : ByteArray → Prop) : Prop := x.size + y.size ≤ 9223372036854775807 ∧ K (x ++ y)
def ld (s : Sh) (a : Addr) (w : World) (K : s.T → Prop) : Prop := ∃ t, w.cell? a = some (s.val t) ∧ K t
def ldA (n : Nat) (a : Addr) (w : World) (K : Array Value → Prop) : Prop := ∃ cs, (loadCells a n).run P w = .ok cs w ∧ K cs
def ixS (a : Option Addr) (len size : Nat) (i : Int) (K : Addr → Prop) : Prop := ∃ p, a = some p ∧ 0 ≤ i ∧ i < (len : Int) ∧ K (p.add (i.toNat * size))
def ixR (a : Addr) (len size : Nat) (i : Int) (K : Addr → Prop) : Prop := 0 ≤ i ∧ i < (len : Int) ∧ K (a.add (i.toNat * size))
def ixStr (s : ByteArray) (i : Int) (K : Int → Prop) : Prop := 0 ≤ i ∧ ∃ b, s[i.toNat]? = some b ∧ K (b.toNat : Int)
def exV (v : Value) (i : Nat) (s : Sh) (K : s.T → Prop) : Prop := ∃ vs t, v = .tuple vs ∧ vs[i]? = some (s.val t) ∧ K t
def genQ (m : Sem Value) (s : Sh) (w : World) (K : s.T → Prop) : Prop := ∃ t, m.run P w = .ok (s.val t) w ∧ K t
def genT (m : Sem Value) (l : List Sh) (w : World) (K : Tup l → Prop) : Prop := ∃ t, m.run P w = .ok (.tuple (Tup.vals l t).toArray) w ∧ K t
/-- What no operation here touches: the system, what was printed, the tape. -/
def Calm (w w' : World) : Prop := w'.os = w.os ∧ w'.output = w.output ∧ w'.tape = w.tape ∧ w.drawn ≤ w'.drawn
def genL (m : Sem Value) (s : Sh) (w : World) (K : s.T → World → Prop) : Prop := ∃ t w', m.run P w = .ok (s.val t) w' ∧ Calm w w' ∧ K t w'
def genU (m : Sem Unit) (w : World) (K : World → Prop) : Prop := ∃ w', m.run P w = .ok () w' ∧ Calm w w' ∧ K w'
/-- A call of a function, as an operation does it. -/
def CallF (f : FuncId) (args : Array Value) (w : World) (R : Ending → World → Prop) : Prop :=
  (callFunc f args).run P w = .ok (.enter f args) w ∧ Calls P f args w fun e w' => R e w' ∧ Calm w w'
/-- A call that leaves the world alone. -/
def callQ (f : FuncId) (args : Array Value) (l : List Sh) (tup : Bool) (w : World) (K : Tup l → Prop) : Prop :=
  ∃ t, CallF P f args w (fun e w' => e = .returned (retEV l tup t).2 ∧ w' = w) ∧ K t
/-- A call of a function, of the program's or of the model's own. (Inductive: the kernel is not to unfold it.) -/
inductive CallX (f : FuncId) (args : Array Value) (w : World) (R : Ending → World → Prop) : Prop
  | go (h : CallF P f args w R)
  | own (v : Value) (w1 : World) (h : (callFunc f args).run P w = .ok (.value v) w1) (hc : Calm w w1) (hR : R (.returned v) w1)
def callF (f : FuncId) (args : Array Value) (l : List Sh) (tup : Bool) (w : World) (K : Tup l → World → Prop) : Prop :=
  CallX P f args w (fun e w' => ∃ t, e = .returned (retEV l tup t).2 ∧ K t w')
/-- A call of the yield of a loop: one round. -/
def YieldF (l : Nat) (args : Array Value) (w : World) (R : Ending → World → Prop) : Prop :=
  ∃ fn tmps assign body, (Instr.yield l args).run P w = .ok (.round l fn tmps assign body) w ∧ RoundIn Fence.wide 0 P l fn tmps assign body w fun e w' => R e w' ∧ Calm w w'
/-- A call of a function value. -/
inductive CallVX (v : Value) (args : Array Value) (w : World) (R : Ending → World → Prop) : Prop
  | func (f : FuncId) (first cap : Array Value) (hv : v = .func (.func f) first cap) (h : CallF P f (first ++ args ++ cap) w R)
  | yield (l : Nat) (hv : v = .func (.yield l) #[] #[]) (h : YieldF P l args w R)
def callV (v : Value) (args : Array Value) (l : List Sh) (tup : Bool) (w : World) (K : Tup l → World → Prop) : Prop :=
  CallVX P v args w (fun e w' => ∃ t, e = .returned (retEV l tup t).2 ∧ K t w')
def callG (m : Sem Next) (l : List Sh) (tup : Bool) (w : World) (K : Tup l → World → Prop) : Prop :=
  ∃ f args w1, m.run P w = .ok (.enter f args) w1 ∧ Calm w w1 ∧ Calls P f args w1 (fun e w' => (∃ t, e = .returned (retEV l tup t).2 ∧ K t w') ∧ Calm w1 w')
/-- A new block of cells. -/
def New (w : World) (o : Obj) (b : Nat) (w' : World) : Prop := b = w.heap.size ∧ w' = { w with heap := w.heap.push o }
def newB (cells : Array Value) (t : TypeId) (w : World) (K : Nat → World → Prop) : Prop := ∀ b w', New w (.cells cells t) b w' → K b w'
def Wrote (w : World) (a : Addr) (v : Value) (w' : World) : Prop := w' = w.setCell a v
def stC (a : Addr) (v : Value) (w : World) (K : World → Prop) : Prop := (∃ x, w.cell? a = some x) ∧ w.frozen? a = false ∧ ∀ w', Wrote w a v w' → K w'
end comb

def eqM (op : BinOp) (t : TypeId) (x y : Operand) (a b : Value) : Sem Value := do eqGuard op t x y a b; binOp op t a b
def isNilC : Operand → Bool
  | .const (.pointer none) => true
  | _ => false
def isNilS : Operand → Bool
  | .const (.slice none _ _) => true
  | _ => false

/-- An operation on two integers of one kind. -/
def intQ (op : BinOp) (k : IntKind) (a b : Int) (K : EV → Prop) : Prop :=
  match op with
  | .add => addI k a b fun n => K (0, .int k n)
  | .sub => subI k a b fun n => K (0, .int k n)
  | .mul => mulI k a b fun n => K (0, .int k n)
  | .quo => quoI k a b fun n => K (0, .int k n)
  | .rem => remI a b fun n => K (0, .int k n)
  | .and => andI k a b fun n => K (0, .int k n)
  | .or => orI k a b fun n => K (0, .int k n)
  | .xor => xorI k a b fun n => K (0, .int k n)
  | .andNot => anI k a b fun n => K (0, .int k n)
  | .shl => shlI k a b fun n => K (0, .int k n)
  | .shr => shrI k a b fun n => K (0, .int k n)
  | .eql => K (0, .bool (a == b))
  | .neq => K (0, .bool (a != b))
  | .lss => K (0, .bool (decide (a < b)))
  | .leq => K (0, .bool (decide (a ≤ b)))
  | .gtr => K (0, .bool (decide (a > b)))
  | .geq => K (0, .bool (decide (a ≥ b)))
def strQ (op : BinOp) (x y : ByteArray) (K : EV → Prop) : Prop :=
  match op with
  | .add => catS x y fun s => K (0, .string s)
  | .eql => K (0, .bool (x.toList == y.toList))
  | .neq => K (0, .bool (!(x.toList == y.toList)))
  | .lss => K (0, .bool (Op.bytesLess x.toList y.toList))
  | .leq => K (0, .bool (Op.bytesLess x.toList y.toList || x.toList == y.toList))
  | .gtr => K (0, .bool (!(Op.bytesLess x.toList y.toList || x.toList == y.toList)))
  | .geq => K (0, .bool (!(Op.bytesLess x.toList y.toList)))
  | _ => False
def binQ (P : Program) (op : BinOp) (t : TypeId) (x y : Operand) (ρ : Operand → EV) (w : World) (K : EV → Prop) : Prop :=
  match shOf P t with
  | .int k =>
    match (ρ x).2, (ρ y).2 with
    | .int k1 a, .int k2 b => if k1 = k ∧ (k2 = k ∨ op = .shl ∨ op = .shr) then intQ op k a b K else False
    | _, _ => False
  | .str =>
    match (ρ x).2, (ρ y).2 with
    | .string a, .string b => strQ op a b K
    | _, _ => False
  | .ptr =>
    bif isNilC y then
      match op, (ρ x).2 with
      | .eql, .pointer p => K (0, .bool p.isNone)
      | .neq, .pointer p => K (0, .bool (!p.isNone))
      | _, _ => False
    else genQ P (eqM op t x y (ρ x).2 (ρ y).2) .bool w fun b => K (0, .bool b)
  | .slc =>
    bif isNilS y then
      match op, (ρ x).2 with
      | .eql, .slice p _ _ => K (0, .bool p.isNone)
      | .neq, .slice p _ _ => K (0, .bool (!p.isNone))
      | _, _ => False
    else False
  | _ => genQ P (eqM op t x y (ρ x).2 (ρ y).2) .bool w fun b => K (0, .bool b)
def unQ (op : UnOp) (v : Value) (K : EV → Prop) : Prop :=
  match op, v with
  | .not, .bool b => K (0, .bool (!b))
  | .neg, .int k n => subI k 0 n fun m => K (0, .int k m)
  | .xor, .int k n => xorI k (if k.signed then -1 else k.max) n fun m => K (0, .int k m)
  | _, _ => False
def fieldOff (P : Program) (s : TypeId) (f : Nat) : Option Nat :=
  match P.underlying s with
  | some (.struct fs) => match fs[f]? with
    | some x => if P.cellsOf x.type = 0 then none else some x.offset
    | none => none
  | _ => none
/-- An index that is written out. -/
def litIx : Operand → Option Int
  | .const (.int _ n) => some n
  | _ => none
def ixQ (P : Program) (t : TypeId) (x i : Operand) (ρ : Operand → EV) (K : EV → Prop) : Prop :=
  match P.underlying t with
  | some (.slice e) =>
    (match (P.info? e).map (·.size), (ρ x).2, (ρ i).2 with
    | some s, .slice a l _, .int _ n => ixS a l s n fun p => K (0, .pointer (some p))
    | _, _, _ => False)
  | some (.array m e) =>
    (match (P.info? e).map (·.size), (ρ x).2, (ρ i).2 with
    | some s, .pointer p, .int _ n => withAddr p fun a =>
      (match litIx i with
      | some n => if 0 ≤ n ∧ n < (m : Int) then K (0, .pointer (some (a.add (n.toNat * s)))) else False
      | none => ixR a m s n fun p => K (0, .pointer (some p)))
    | _, _, _ => False)
  | _ => False
def ldQ (P : Program) (t : TypeId) (v : Value) (w : World) (K : EV → Prop) : Prop :=
  match P.underlying t, v with
  | some _, .pointer p => withAddr p fun a =>
    (match aggOf P t with
    | some n => ldA P n a w fun cs => K (1, .agg cs)
    | none => ld (shOf P t) a w fun x => K ((shOf P t).ev x))
  | _, _ => False
def tupQ (P : Program) (m : Sem Value) (t : TypeId) (w : World) (K : EV → Prop) : Prop :=
  bif isTup P t then genT P m (retShs P t) w fun x => K (0, .tuple (Tup.vals (retShs P t) x).toArray)
  else genQ P m (shOf P t) w fun x => K ((shOf P t).ev x)

def lenQ (P : Program) (c : Call) (ty : TypeId) (ρ : Operand → EV) (w : World) (K : EV → Prop) : Prop :=
  match (c.argTypes[0]?).map (shOf P) with
  | some .str => (match (c.args[0]?).map fun x => (ρ x).2 with
    | some (.string s) => K (0, .int .i64 s.size)
    | _ => False)
  | some .slc => (match (c.args[0]?).map fun x => (ρ x).2 with
    | some (.slice _ n _) => K (0, .int .i64 n)
    | _ => False)
  | _ => genQ P (Builtin.len_ c.argTypes ty (mapL c.args fun x => (ρ x).2)) (.int .i64) w fun n => K (0, .int .i64 n)
def memN (n : Nat) : List Nat → Bool
  | [] => false
  | m :: r => Nat.beq m n || memN n r
/-- Which operations leave the world alone (if they go well). -/
def isQ (P : Program) (qs : List FuncId) (o : Oper) : Bool :=
  match o.op with
  | .move _ | .assign _ | .pick .. | .load .. | .nilCheck _ | .binOp .. | .unOp .. | .makeInterface .. | .makeFunc .. | .slice .. | .fieldAddr .. | .indexAddr .. | .index ..
  | .field .. | .build .. | .lookup .. | .typeAssert .. | .entry _ | .extract .. => true
  | .convert s d _ => match shOf P s, shOf P d with
    | .int _, .int _ | .str, .str | .slc, .str => true
    | _, _ => false
  | .call c => match c.callee with
    | .builtin .len | .builtin .cap | .builtin .max | .builtin .min => true
    | .value (.func f) => memN f qs
    | _ => false
  | _ => false
/-- Those of them that do not even look at it. -/
def isPure (P : Program) (o : Oper) : Bool :=
  match o.op with
  | .move _ | .assign _ | .pick .. | .nilCheck _ | .unOp .. | .fieldAddr .. | .indexAddr .. | .extract .. => true
  | .binOp _ t _ y _ => match shOf P t with
    | .int _ | .str => true
    | .ptr => isNilC y
    | .slc => isNilS y
    | _ => false
  | .convert s d _ => match shOf P s, shOf P d with
    | .int _, .int _ => true
    | _, _ => false
  | .index t _ _ => match shOf P t with
    | .str => true
    | _ => false
  | .call c => match c.callee with
    | .builtin .len => match (c.argTypes[0]?).map (shOf P) with
      | some .str | some .slc => true
      | _ => false
    | _ => false
  | _ => false
/-- What an operation that leaves the world alone asks. -/
def opQ (P : Program) (o : Oper) (ρ : Operand → EV) (w : World) (K : EV → Prop) : Prop :=
  match o.op with
  | .move x => K (ρ x)
  | .assign x => K (ρ x)
  | .pick c a b => (match (ρ c).2 with
    | .bool c => K (cond c (ρ a) (ρ b))
    | _ => False)
  | .load t a => ldQ P t (ρ a).2 w K
  | .nilCheck x => bif Nat.beq (ρ x).1 1 then nnV (ρ x).2 (K (ρ x)) else
    (match (ρ x).2 with
    | .pointer p => withAddr p fun a => K (0, .pointer (some a))
    | v => nnV v (K (0, v)))
  | .binOp op t x y _ => binQ P op t x y ρ w K
  | .unOp op _ x => unQ op (ρ x).2 K
  | .convert s d x =>
    (match shOf P s, shOf P d with
    | .int _, .int k => (match (ρ x).2 with
      | .int _ n => cvI k n fun m => K (0, .int k m)
      | _ => False)
    | .str, .str => genQ P (convert s d (ρ x).2) .str w fun y => K (0, .string y)
    | .slc, .str => genQ P (convert s d (ρ x).2) .str w fun y => K (0, .string y)
    | _, _ => False)
  | .makeInterface t x => genQ P (Instr.makeInterface t (ρ x).2) .any w fun y => K (1, y)
  | .makeFunc fn first cap => genQ P (Instr.makeFunc fn (mapL first fun x => (ρ x).2) (mapL cap fun x => (ρ x).2)) .any w fun y => K (1, y)
  | .slice t x lo hi mx => genQ P (Instr.sliceAt t (ρ x).2 (lo.map fun x => (ρ x).2) (hi.map fun x => (ρ x).2) (mx.map fun x => (ρ x).2)) (shOf P o.type) w fun y => K ((shOf P o.type).ev y)
  | .fieldAddr s x f => (match (ρ x).2, fieldOff P s f with
    | .pointer p, some off => withAddr p fun a => K (0, .pointer (some (a.add off)))
    | _, _ => False)
  | .indexAddr t x i => ixQ P t x i ρ K
  | .index t x i => (match shOf P t with
    | .str => (match (ρ x).2, (ρ i).2 with
      | .string s, .int _ n => ixStr s n fun b => K (0, .int .u8 b)
      | _, _ => False)
    | _ => genQ P (Instr.index t (ρ x).2 (ρ i).2) (shOf P o.type) w fun y => K ((shOf P o.type).ev y))
  | .field t x f => genQ P (Instr.field t (ρ x).2 f) (shOf P o.type) w fun y => K ((shOf P o.type).ev y)
  | .build t parts => genQ P (Instr.build t (mapL parts fun p => (p.1, (ρ p.2).2))) .any w fun y => K (1, y)
  | .lookup t x i ok => tupQ P (Instr.lookup t (ρ x).2 (ρ i).2 ok) o.type w K
  | .typeAssert x t a ok => tupQ P (Instr.typeAssert (ρ x).2 t a ok) o.type w K
  | .entry x => genQ P (Instr.entry (ρ x).2) .any w fun y => K (1, y)
  | .extract t i => bif Nat.beq (ρ t).1 1 then exV (ρ t).2 i (shOf P o.type) (fun y => K ((shOf P o.type).ev y)) else
    (match (ρ t).2 with
    | .tuple vs => match vs[i]? with
      | some v => K ((shOf P o.type).any?, v)
      | none => False
    | _ => False)
  | .call c => (match c.callee with
    | .builtin .len => lenQ P c o.type ρ w K
    | .builtin .cap => genQ P (Builtin.cap_ c.argTypes o.type (mapL c.args fun x => (ρ x).2)) (.int .i64) w fun n => K (0, .int .i64 n)
    | .builtin .max => genQ P (Builtin.max_ c.argTypes o.type (mapL c.args fun x => (ρ x).2)) (shOf P o.type) w fun y => K ((shOf P o.type).ev y)
    | .builtin .min => genQ P (Builtin.min_ c.argTypes o.type (mapL c.args fun x => (ρ x).2)) (shOf P o.type) w fun y => K ((shOf P o.type).ev y)
    | .value (.func f) => callQ P f (mapL c.args fun x => (ρ x).2) (retShs P o.type) (isTup P o.type) w fun t => K (retEV (retShs P o.type) (isTup P o.type) t)
    | _ => False)
  | _ => False
/-- What any other operation asks. -/
def opL (P : Program) (o : Oper) (ρ : Operand → EV) (w : World) (K : EV → World → Prop) : Prop :=
  match o.op with
  | .alloc t => bif ((P.info? t).bind (·.zero)).isSome then newB (zc P t) t w fun b w' => K (0, .pointer (some ⟨b, 0, none⟩)) w' else False
  | .box t x => newB (Value.cells (ρ x).2) t w fun b w' => K (0, .pointer (some ⟨b, 0, none⟩)) w'
  | .store t a x => (match (ρ a).2 with
    | .pointer p => withAddr p fun a =>
      bif (aggOf P t).isNone && !(Nat.beq (ρ x).1 1) && Nat.beq (P.cellsOf t) 1 && (ρ x).2.oneCell' then stC a (ρ x).2 w fun w' => K (0, undef) w'
      else genU P (storeVar t a (ρ x).2) w fun w' => K (0, undef) w'
    | _ => False)
  | .mapUpdate t m k x | .insert t m k x => genU P (Instr.mapUpdate t (ρ m).2 (ρ k).2 (ρ x).2) w fun w' => K (0, undef) w'
  | .makeMap t r => genL P (Instr.makeMap t (r.map fun x => (ρ x).2)) .map w fun y w' => K (0, .map y) w'
  | .makeSlice t l c => genL P (Instr.makeSlice t (ρ l).2 (ρ c).2) .slc w fun y w' => K (Sh.slc.ev y) w'
  | .buildSlice t n parts => genL P (Instr.buildSlice t n (mapL parts fun p => (p.1, (ρ p.2).2))) .slc w fun y w' => K (Sh.slc.ev y) w'
  | .convert s d x => genL P (convert s d (ρ x).2) (shOf P d) w fun y w' => K ((shOf P d).ev y) w'
  | .range t x => genL P (Instr.range t (ρ x).2) .ptr w fun y w' => K (0, .pointer y) w'
  | .next it b => genL P (Instr.next (ρ it).2 b o.type) .any w fun y w' => K (1, y) w'
  | .call c => (match c.callee with
    | .builtin .append => genL P (Builtin.append_ c.argTypes o.type (mapL c.args fun x => (ρ x).2)) .slc w fun y w' => K (Sh.slc.ev y) w'
    | .builtin .copy => genL P (Builtin.copy_ c.argTypes o.type (mapL c.args fun x => (ρ x).2)) (.int .i64) w fun y w' => K (0, .int .i64 y) w'
    | .builtin .delete => genL P (Builtin.delete_ c.argTypes o.type (mapL c.args fun x => (ρ x).2)) .any w fun y w' => K (1, y) w'
    | .builtin .unsafeSliceData => genL P (Builtin.unsafeSliceData_ c.argTypes o.type (mapL c.args fun x => (ρ x).2)) .ptr w fun y w' => K (0, .pointer y) w'
    | .builtin .unsafeString => genL P (Builtin.unsafeString_ c.argTypes o.type (mapL c.args fun x => (ρ x).2)) .str w fun y w' => K (0, .string y) w'
    | .builtin _ => False
    | .value (.func f) => callF P f (mapL c.args fun x => (ρ x).2) (retShs P o.type) (isTup P o.type) w fun t w' => K (retEV (retShs P o.type) (isTup P o.type) t) w'
    | .value x => callV P (ρ x).2 (mapL c.args fun x => (ρ x).2) (retShs P o.type) (isTup P o.type) w fun t w' => K (retEV (retShs P o.type) (isTup P o.type) t) w'
    | .invoke r m => callG P (callMethod (ρ r).2 m (mapL c.args fun x => (ρ x).2)) (retShs P o.type) (isTup P o.type) w fun t w' => K (retEV (retShs P o.type) (isTup P o.type) t) w')
  | _ => False
end Go.Fw

/- Each operation does what the combinators ask. -/
namespace Go.Fw
open Go

/-- An operation yields v and leaves the world alone. -/
def Yq (P : Program) (o : Oper) (ρ : Operand → Value) (v : Value) (w : World) : Prop :=
  (execOp ρ o).run P w = .ok (.value v) w ∨ ((execOp ρ o).run P w = .ok .skip w ∧ v = undef) ∨
    ∃ f args, (execOp ρ o).run P w = .ok (.enter f args) w ∧ Calls P f args w (fun e w'' => e = .returned v ∧ w'' = w)
/-- An operation does something, and K holds of what it yields. -/
def Does (P : Program) (o : Oper) (ρ : Operand → Value) (w : World) (K : Value → World → Prop) : Prop :=
  (∃ v w', (execOp ρ o).run P w = .ok (.value v) w' ∧ K v w') ∨ (∃ w', (execOp ρ o).run P w = .ok .skip w' ∧ K undef w') ∨
    (∃ f args w1, (execOp ρ o).run P w = .ok (.enter f args) w1 ∧ Calls P f args w1 (fun e w' => ∃ v, e = .returned v ∧ K v w')) ∨
    ∃ l f tmps assign body w1, (execOp ρ o).run P w = .ok (.round l f tmps assign body) w1 ∧ RoundIn Fence.wide 0 P l f tmps assign body w1 (fun e w' => ∃ v, e = .returned v ∧ K v w')

theorem Yq.does {P : Program} {o : Oper} {ρ : Operand → Value} {v : Value} {w : World} {K : Value → World → Prop} (h : Yq P o ρ v w) (hk : K v w) : Does P o ρ w K := by
  rcases h with h | ⟨h, rfl⟩ | ⟨f, args, h, hc⟩
  · exact .inl ⟨v, w, h, hk⟩
  · exact .inr (.inl ⟨w, h, hk⟩)
  · exact .inr (.inr (.inl ⟨f, args, w, h, hc.mono fun e w' ⟨he, hw⟩ => ⟨v, he, hw ▸ hk⟩⟩))

section
variable {P : Program} {w : World}

theorem run_underlying' {t : TypeId} {d : TypeDesc} (h : P.underlying t = some d) : (underlying t).run P w = .ok d w := by
  simp [underlying, h]
theorem run_sizeOf' {t : TypeId} {d : TypeDesc} (h : P.underlying t = some d) : (sizeOf t).run P w = .ok (P.cellsOf t) w := by
  unfold Program.underlying at h
  unfold sizeOf typeInfo Program.cellsOf
  cases hi : P.info? t with
  | none => simp [hi] at h
  | some i => simp [hi]
theorem shOf_und {t : TypeId} {s : Sh} (h : shOf P t = s) (hs : s ≠ .any) : ∃ d, P.underlying t = some d ∧
    (match s with | .int k => d = .int k | .bool => d = .bool | .str => d = .string | .ptr => ∃ e, d = .pointer e | .slc => ∃ e, d = .slice e | .map => ∃ k e, d = .map k e | .any => False) := by
  unfold shOf at h
  split at h <;> (subst h) <;> first | exact absurd rfl hs | (refine ⟨_, ‹_›, ?_⟩; first | exact rfl | exact ⟨_, rfl⟩ | exact ⟨_, _, rfl⟩)

theorem run_addr {p : Option Addr} {K : Addr → Prop} (h : withAddr p K) : ∃ a, p = some a ∧ K a := by
  cases p with
  | none => exact h.elim
  | some a => exact ⟨a, rfl, h⟩

theorem load_ok {t : TypeId} {a : Addr} {v : Value} (hi : ∃ d, P.underlying t = some d) (hn : aggOf P t = none) (hc : w.cell? a = some v) : (Instr.loadAt t (.pointer (some a))).run P w = .ok v w := by
  obtain ⟨d, hd⟩ := hi
  unfold aggOf at hn
  rw [hd] at hn
  have : (isAgg t).run P w = .ok false w := by
    unfold isAgg
    simp only [Sem.run_bind, run_underlying' hd, Result.andThen_ok]
    cases d <;> first | rfl | simp at hn
  simp [Instr.loadAt, Instr.sureAddr, loadVar, this, hc]
theorem loadA_ok {t : TypeId} {a : Addr} {n : Nat} {cs : Array Value} (hn : aggOf P t = some n) (hc : (loadCells a n).run P w = .ok cs w) : (Instr.loadAt t (.pointer (some a))).run P w = .ok (.agg cs) w := by
  unfold aggOf at hn
  cases hd : P.underlying t with
  | none => rw [hd] at hn; simp at hn
  | some d =>
    rw [hd] at hn
    have h1 : (isAgg t).run P w = .ok true w := by
      unfold isAgg
      simp only [Sem.run_bind, run_underlying' hd, Result.andThen_ok]
      cases d <;> first | rfl | simp at hn
    have h2 : P.cellsOf t = n := by cases d <;> simp at hn <;> exact hn
    simp [Instr.loadAt, Instr.sureAddr, loadVar, h1, run_sizeOf' hd, h2, hc]

theorem shOf_some_of {t : TypeId} (h : shOf P t ≠ .any) : ∃ d, P.underlying t = some d := by
  unfold shOf at h
  cases hd : P.underlying t with
  | none => rw [hd] at h; simp at h
  | some d => exact ⟨d, rfl⟩
end

/-- Result of the value kind. -/
theorem yq_value {P : Program} {o : Oper} {ρ : Operand → Value} {v : Value} {w : World} (h : (execOp ρ o).run P w = .ok (.value v) w) : Yq P o ρ v w := .inl h

theorem intQ_sound {P : Program} {op : BinOp} {k k2 : IntKind} {a b : Int} {K : EV → Prop} {t : TypeId} (hk : k2 = k ∨ op = .shl ∨ op = .shr) (h : intQ op k a b K) :
    ∃ f v, (∀ w, (binOp op t (.int k a) (.int k2 b)).run P w = .ok v w) ∧ K (f, v) := by
  cases op
  case shl => obtain ⟨h0, n, rfl, h⟩ := h; exact ⟨_, _, fun w => by simp [binOp, Op.shift, Int.not_lt.2 h0], h⟩
  case shr => obtain ⟨h0, n, rfl, h⟩ := h; exact ⟨_, _, fun w => by simp [binOp, Op.shift, Int.not_lt.2 h0], h⟩
  all_goals
    have hk' : k2 = k := by rcases hk with h | h | h <;> first | exact h | cases h
    subst hk'
  case quo => obtain ⟨h0, n, rfl, h⟩ := h; exact ⟨_, _, fun w => by simp [binOp, Op.intDiv, h0], h⟩
  case rem => obtain ⟨h0, n, rfl, h⟩ := h; exact ⟨_, _, fun w => by simp [binOp, Op.intDiv, h0], h⟩
  all_goals first
    | (obtain ⟨n, rfl, h⟩ := h; exact ⟨_, _, fun w => by simp [binOp, Op.intArith, Op.intBits], h⟩)
    | exact ⟨_, _, fun w => by simp [binOp, Op.intCmp], h⟩
theorem strQ_sound {P : Program} {op : BinOp} {x y : ByteArray} {K : EV → Prop} {t : TypeId} (h : strQ op x y K) :
    ∃ f v, (∀ w, (binOp op t (.string x) (.string y)).run P w = .ok v w) ∧ K (f, v) := by
  cases op
  case add =>
    obtain ⟨h1, h⟩ := h
    refine ⟨_, _, ?_, h⟩
    have : ¬ (IntKind.i64.max < ((x.size + y.size : Nat) : Int)) := by
      have : IntKind.i64.max = 9223372036854775807 := by decide
      omega
    intro w
    simp only [binOp, Op.stringOp]
    rw [if_neg this]
    rfl
  all_goals first | exact h.elim | exact ⟨_, _, fun w => by simp [binOp, Op.stringOp], h⟩
theorem eqGuard_int {P : Program} {w : World} {op : BinOp} {t : TypeId} {x y : Operand} {k k2 : IntKind} {a b : Int} : (eqGuard op t x y (.int k a) (.int k2 b)).run P w = .ok () w := by
  unfold eqGuard; split <;> rfl
theorem eqGuard_str {P : Program} {w : World} {op : BinOp} {t : TypeId} {x y : Operand} {a b : ByteArray} : (eqGuard op t x y (.string a) (.string b)).run P w = .ok () w := by
  unfold eqGuard; split <;> rfl
theorem eqGuard_ptr {P : Program} {w : World} {op : BinOp} {t : TypeId} {x y : Operand} {a b : Option Addr} : (eqGuard op t x y (.pointer a) (.pointer b)).run P w = .ok () w := by
  unfold eqGuard; split <;> rfl
theorem eqGuard_slc {P : Program} {w : World} {op : BinOp} {t : TypeId} {x y : Operand} {a b : Option Addr} {n m c d : Nat} : (eqGuard op t x y (.slice a n c) (.slice b m d)).run P w = .ok () w := by
  unfold eqGuard; split <;> rfl
theorem eqIn_nil_ptr {P : Program} {w : World} {t : TypeId} {p : Option Addr} {e : TypeId} (d : Nat) (hd : P.underlying t = some (.pointer e)) : (Op.equalIn (d + 1) t (.pointer p) (.pointer none)).run P w = .ok p.isNone w := by
  cases p <;> simp [Op.equalIn, run_underlying' hd]
theorem eqIn_nil_slc {P : Program} {w : World} {t : TypeId} {p : Option Addr} {n m c d : Nat} {e : TypeId} (k : Nat) (hd : P.underlying t = some (.slice e)) : (Op.equalIn (k + 1) t (.slice p n c) (.slice none m d)).run P w = .ok p.isNone w := by
  cases p <;> simp [Op.equalIn, run_underlying' hd]
theorem eq_nil_ptr {P : Program} {w : World} {t : TypeId} {p : Option Addr} {e : TypeId} (hd : P.underlying t = some (.pointer e)) : (Op.equal t (.pointer p) (.pointer none)).run P w = .ok p.isNone w := by
  exact eqIn_nil_ptr 9999 hd
theorem eq_nil_slc {P : Program} {w : World} {t : TypeId} {p : Option Addr} {n m c d : Nat} {e : TypeId} (hd : P.underlying t = some (.slice e)) : (Op.equal t (.slice p n c) (.slice none m d)).run P w = .ok p.isNone w := by
  exact eqIn_nil_slc 9999 hd

theorem binQ_sound {P : Program} {w : World} {op : BinOp} {t yt : TypeId} {x y : Operand} {ρ : Operand → EV} {K : EV → Prop} {o : Oper} (ho : o.op = .binOp op t x y yt)
    (hc : ∀ v, (ρ (.const v)).2 = v) (h : binQ P op t x y ρ w K) : ∃ f v, Yq P o (fun x => (ρ x).2) v w ∧ (isPure P o = true → ∀ w', Yq P o (fun x => (ρ x).2) v w') ∧ K (f, v) := by
  have one : ∀ v w, (eqM op t x y (ρ x).2 (ρ y).2).run P w = .ok v w → Yq P o (fun x => (ρ x).2) v w := by
    intro v w h1
    refine yq_value ?_
    simp only [execOp, ho]
    simp only [eqM, Sem.run_bind] at h1
    simp only [Sem.run_bind, h1, Result.andThen_ok, Sem.run_pure]
  have key : ∀ f v, (∀ w, (eqM op t x y (ρ x).2 (ρ y).2).run P w = .ok v w) → K (f, v) → ∃ f v, Yq P o (fun x => (ρ x).2) v w ∧ (isPure P o = true → ∀ w', Yq P o (fun x => (ρ x).2) v w') ∧ K (f, v) :=
    fun f v h1 h2 => ⟨f, v, one v w (h1 w), fun _ w' => one v w' (h1 w'), h2⟩
  have key1 : ∀ f v, isPure P o = false → (eqM op t x y (ρ x).2 (ρ y).2).run P w = .ok v w → K (f, v) → ∃ f v, Yq P o (fun x => (ρ x).2) v w ∧ (isPure P o = true → ∀ w', Yq P o (fun x => (ρ x).2) v w') ∧ K (f, v) :=
    fun f v h0 h1 h2 => ⟨f, v, one v w h1, (by intro h; rw [h0] at h; cases h), h2⟩
  unfold binQ at h
  split at h
  · split at h
    · rename_i k k1 a k2 b hx hy
      split at h
      · rename_i hk
        obtain ⟨rfl, hk⟩ := hk
        obtain ⟨f, v, h1, h2⟩ := intQ_sound (P := P) (t := t) hk h
        refine key f v (fun w => ?_) h2
        rw [hx, hy]
        simp only [eqM, Sem.run_bind, eqGuard_int, Result.andThen_ok, h1]
      · exact h.elim
    · exact h.elim
  · split at h
    · rename_i a b hx hy
      obtain ⟨f, v, h1, h2⟩ := strQ_sound (P := P) (t := t) h
      refine key f v (fun w => ?_) h2
      rw [hx, hy]
      simp only [eqM, Sem.run_bind, eqGuard_str, Result.andThen_ok, h1]
    · exact h.elim
  · rename_i hs
    obtain ⟨d, hd, e, rfl⟩ := shOf_und hs (by simp)
    cases hy : isNilC y with
    | true =>
      rw [hy] at h
      simp only [cond_true] at h
      have hyv : (ρ y).2 = .pointer none := by
        unfold isNilC at hy
        split at hy
        · exact hc _
        · simp at hy
      split at h
      · rename_i p hx
        refine key _ _ (fun w => ?_) h
        rw [hx, hyv]
        simp only [eqM, Sem.run_bind, eqGuard_ptr, Result.andThen_ok, binOp, eq_nil_ptr hd, Sem.run_pure]
      · rename_i p hx
        refine key _ _ (fun w => ?_) h
        rw [hx, hyv]
        simp only [eqM, Sem.run_bind, eqGuard_ptr, Result.andThen_ok, binOp, eq_nil_ptr hd, Sem.run_pure]
      · exact h.elim
    | false =>
      rw [hy] at h
      simp only [cond_false] at h
      obtain ⟨b, h1, h2⟩ := h
      exact key1 _ _ (by simp only [isPure, ho, hs, hy]) h1 h2
  · rename_i hs
    obtain ⟨d, hd, e, rfl⟩ := shOf_und hs (by simp)
    cases hy : isNilS y with
    | true =>
      rw [hy] at h
      simp only [cond_true] at h
      obtain ⟨m, d, hyv⟩ : ∃ m d, (ρ y).2 = .slice none m d := by
        unfold isNilS at hy
        split at hy
        · exact ⟨_, _, hc _⟩
        · simp at hy
      split at h
      · rename_i p _ _ hx
        refine key _ _ (fun w => ?_) h
        rw [hx, hyv]
        simp only [eqM, Sem.run_bind, eqGuard_slc, Result.andThen_ok, binOp, eq_nil_slc hd, Sem.run_pure]
      · rename_i p _ _ hx
        refine key _ _ (fun w => ?_) h
        rw [hx, hyv]
        simp only [eqM, Sem.run_bind, eqGuard_slc, Result.andThen_ok, binOp, eq_nil_slc hd, Sem.run_pure]
      · exact h.elim
    | false =>
      rw [hy] at h
      exact h.elim
  · obtain ⟨b, h1, h2⟩ := h
    refine key1 _ _ ?_ h1 h2
    simp only [isPure, ho]
end Go.Fw

/- Each operation does what the combinators ask: the other kinds of operations. -/
namespace Go.Fw
open Go

theorem run_sizeOf_info {P : Program} {w : World} {e : TypeId} {s : Nat} (h : (P.info? e).map (·.size) = some s) : (sizeOf e).run P w = .ok s w := by
  cases hi : P.info? e with
  | none => rw [hi] at h; simp at h
  | some i => rw [hi] at h; simp at h; simp [sizeOf, typeInfo, hi, h]
theorem run_sizeOf_cells {P : Program} {w : World} {e : TypeId} (h : P.cellsOf e ≠ 0) : (sizeOf e).run P w = .ok (P.cellsOf e) w := by
  unfold Program.cellsOf at *
  cases hi : P.info? e with
  | none => rw [hi] at h; simp at h
  | some i => simp [sizeOf, typeInfo, hi]
theorem litIx_spec {i : Operand} {n : Int} (h : litIx i = some n) : ∃ k, i = .const (.int k n) := by
  unfold litIx at h
  split at h
  · simp at h; subst h; exact ⟨_, rfl⟩
  · simp at h

theorem ixQ_sound {P : Program} {w : World} {t : TypeId} {x i : Operand} {ρ : Operand → EV} {K : EV → Prop} {o : Oper} (ho : o.op = .indexAddr t x i)
    (hc : ∀ v, (ρ (.const v)).2 = v) (h : ixQ P t x i ρ K) : ∃ f v, Yq P o (fun x => (ρ x).2) v w ∧ (isPure P o = true → ∀ w', Yq P o (fun x => (ρ x).2) v w') ∧ K (f, v) := by
  have key : ∀ f v, (∀ w, (Instr.indexAt t (ρ x).2 (ρ i).2).run P w = .ok v w) → K (f, v) → ∃ f v, Yq P o (fun x => (ρ x).2) v w ∧ (isPure P o = true → ∀ w', Yq P o (fun x => (ρ x).2) v w') ∧ K (f, v) := by
    intro f v h1 h2
    have one : ∀ w, Yq P o (fun x => (ρ x).2) v w := by
      intro w
      refine yq_value ?_
      simp only [execOp, ho]
      simp only [Sem.run_bind, h1, Result.andThen_ok, Sem.run_pure]
    exact ⟨f, v, one w, fun _ w' => one w', h2⟩
  have key2 : ∀ (a : Addr) (m e s : Nat) (n : Int) (k : IntKind), P.underlying t = some (.array m e) → (P.info? e).map (·.size) = some s → (ρ x).2 = .pointer (some a) → (ρ i).2 = .int k n →
      0 ≤ n → n < (m : Int) → ∀ w, (Instr.indexAt t (ρ x).2 (ρ i).2).run P w = .ok (.pointer (some (a.add (n.toNat * s)))) w := by
    intro a m e s n k hd hs hx hi h0 h1 w
    rw [hx, hi]
    simp [Instr.indexAt, asIntOf, run_underlying' hd, h0, h1, run_sizeOf_info hs, Instr.sureAddr]
  unfold ixQ at h
  split at h
  · rename_i e hd
    split at h
    · rename_i s a l c k n hs hx hi
      obtain ⟨p, rfl, h0, h1, h2⟩ := h
      refine key _ _ (fun w => ?_) h2
      rw [hx, hi]
      simp [Instr.indexAt, asIntOf, run_underlying' hd, h0, h1, run_sizeOf_info hs]
    · exact h.elim
  · rename_i m e hd
    split at h
    · rename_i s p k n hs hx hi
      obtain ⟨a, rfl, h⟩ := run_addr h
      split at h
      · rename_i n' hl
        obtain ⟨k', rfl⟩ := litIx_spec hl
        rw [hc] at hi
        simp only [Value.int.injEq] at hi
        obtain ⟨rfl, rfl⟩ := hi
        simp only [hl] at h
        by_cases hb : 0 ≤ n' ∧ n' < (m : Int)
        · rw [if_pos hb] at h
          exact key _ _ (key2 a m e s n' k' hd hs hx (hc _) hb.1 hb.2) h
        · rw [if_neg hb] at h
          exact h.elim
      · obtain ⟨h0, h1, h2⟩ := h
        exact key _ _ (key2 a m e s n k hd hs hx hi h0 h1) h2
    · exact h.elim
  · exact h.elim

theorem tupQ_sound {P : Program} {w : World} {m : Sem Value} {t : TypeId} {K : EV → Prop} (h : tupQ P m t w K) : ∃ f v, m.run P w = .ok v w ∧ K (f, v) := by
  unfold tupQ at h
  cases hb : isTup P t with
  | true => rw [hb] at h; obtain ⟨x, h1, h2⟩ := h; exact ⟨_, _, h1, h2⟩
  | false => rw [hb] at h; obtain ⟨x, h1, h2⟩ := h; exact ⟨_, _, h1, h2⟩

theorem fieldAt_ok {P : Program} {w : World} {s : TypeId} {f off : Nat} {a : Addr} (h : fieldOff P s f = some off) : (Instr.fieldAt s (.pointer (some a)) f).run P w = .ok (.pointer (some (a.add off))) w := by
  unfold fieldOff at h
  split at h
  · rename_i fs hd
    split at h
    · rename_i x hx
      split at h
      · simp at h
      · rename_i hz
        simp at h
        subst h
        simp [Instr.fieldAt, run_underlying' hd, hx, Instr.sureAddr, fieldPlace, run_sizeOf_cells hz, hz]
    · simp at h
  · simp at h

theorem call_enter {P : Program} {w : World} {o : Oper} {ρ : Operand → EV} {c : Call} {f : FuncId} (ho : o.op = .call c) (hcal : c.callee = .value (.func f))
    (hf : ∀ f, (ρ (.func f)).2 = .func (.func f) #[] #[]) (h : (callFunc f (c.args.map fun x => (ρ x).2)).run P w = .ok (.enter f (c.args.map fun x => (ρ x).2)) w) :
    (execOp (fun x => (ρ x).2) o).run P w = .ok (.enter f (c.args.map fun x => (ρ x).2)) w := by
  simp only [execOp, ho, resolve, hcal, hf, Deferred.ofValue, Sem.run_bind, Sem.run_pure, Result.andThen_ok, invoke, Array.empty_append, Array.append_empty, h]

theorem call_value {P : Program} {w : World} {o : Oper} {ρ : Operand → EV} {c : Call} {f : FuncId} {v : Value} {w1 : World} (ho : o.op = .call c) (hcal : c.callee = .value (.func f))
    (hf : ∀ f, (ρ (.func f)).2 = .func (.func f) #[] #[]) (h : (callFunc f (c.args.map fun x => (ρ x).2)).run P w = .ok (.value v) w1) :
    (execOp (fun x => (ρ x).2) o).run P w = .ok (.value v) w1 := by
  simp only [execOp, ho, resolve, hcal, hf, Deferred.ofValue, Sem.run_bind, Sem.run_pure, Result.andThen_ok, invoke, Array.empty_append, Array.append_empty, h]

theorem mem_of_memN {n : Nat} {l : List Nat} : memN n l = true → n ∈ l := by
  induction l with
  | nil => intro h; simp [memN] at h
  | cons m r ih =>
    intro h
    simp only [memN, Bool.or_eq_true] at h
    rcases h with h | h
    · have := Nat.eq_of_beq_eq_true h; subst this; simp
    · simp [ih h]


theorem opQ_gen {P : Program} {w : World} {o : Oper} {ρ : Operand → Value} {K : EV → Prop} {m : Sem Value} {s : Sh} (g : s.T → EV) (hg : ∀ x, (g x).2 = s.val x) (he : execOp ρ o = do pure (.value (← m)))
    (hp : isPure P o = false) (h : genQ P m s w (fun x => K (g x))) : ∃ f v, Yq P o ρ v w ∧ (isPure P o = true → ∀ w', Yq P o ρ v w') ∧ K (f, v) := by
  obtain ⟨x, h1, h2⟩ := h
  refine ⟨(g x).1, (g x).2, yq_value ?_, (by intro h; rw [hp] at h; cases h), h2⟩
  rw [he, hg]
  simp [h1]
theorem opQ_val {P : Program} {w : World} {o : Oper} {ρ : Operand → Value} {K : EV → Prop} {m : Sem Value} {f : Nat} {v : Value} (he : execOp ρ o = do pure (.value (← m)))
    (h : ∀ w, m.run P w = .ok v w) (hk : K (f, v)) : ∃ f v, Yq P o ρ v w ∧ (isPure P o = true → ∀ w', Yq P o ρ v w') ∧ K (f, v) :=
  ⟨f, v, yq_value (by rw [he]; simp [h]), fun _ w' => yq_value (by rw [he]; simp [h]), hk⟩
theorem opQ_val1 {P : Program} {w : World} {o : Oper} {ρ : Operand → Value} {K : EV → Prop} {m : Sem Value} {f : Nat} {v : Value} (he : execOp ρ o = do pure (.value (← m)))
    (hp : isPure P o = false) (h : m.run P w = .ok v w) (hk : K (f, v)) : ∃ f v, Yq P o ρ v w ∧ (isPure P o = true → ∀ w', Yq P o ρ v w') ∧ K (f, v) :=
  ⟨f, v, yq_value (by rw [he]; simp [h]), (by intro h; rw [hp] at h; cases h), hk⟩
theorem sh_ev (s : Sh) (x : s.T) : (s.ev x).2 = s.val x := rfl

set_option maxHeartbeats 1000000 in
theorem opQ_sound {P : Program} {qs : List FuncId} {o : Oper} {ρ : Operand → EV} {w : World} {K : EV → Prop} (hc : ∀ v, (ρ (.const v)).2 = v)
    (hf : ∀ f, (ρ (.func f)).2 = .func (.func f) #[] #[]) (hq : isQ P qs o = true) (h : opQ P o ρ w K) : ∃ f v, Yq P o (fun x => (ρ x).2) v w ∧ (isPure P o = true → ∀ w', Yq P o (fun x => (ρ x).2) v w') ∧ K (f, v) := by
  obtain ⟨dst, op, type, pos, after, guard⟩ := o
  cases op <;> simp only [isQ, Bool.false_eq_true] at hq <;> simp only [opQ, mapL_eq] at h
  case move x => exact ⟨_, _, yq_value rfl, fun _ _ => yq_value rfl, h⟩
  case assign x => exact ⟨_, _, yq_value rfl, fun _ _ => yq_value rfl, h⟩
  case pick c a b =>
    split at h
    · rename_i b' hb
      have one : ∀ w, Yq P ⟨dst, .pick c a b, type, pos, after, guard⟩ (fun x => (ρ x).2) (cond b' (ρ a) (ρ b)).2 w := by
        intro w
        refine yq_value ?_
        simp only [execOp, hb, asBool, Sem.run_bind, Sem.run_pure, Result.andThen_ok]
        cases b' <;> rfl
      exact ⟨_, _, one w, fun _ w' => one w', h⟩
    · exact h.elim
  case load t a =>
    unfold ldQ at h
    split at h
    · rename_i d p hd hp
      obtain ⟨a', rfl, h⟩ := run_addr h
      split at h
      · rename_i n hn
        obtain ⟨cs, h1, h2⟩ := h
        exact ⟨_, _, yq_value (by simp only [execOp, hp, Sem.run_bind, loadA_ok hn h1, Result.andThen_ok, Sem.run_pure]), (by intro h; cases h), h2⟩
      · rename_i hn
        obtain ⟨x, h1, h2⟩ := h
        exact ⟨_, _, yq_value (by simp only [execOp, hp, Sem.run_bind, load_ok ⟨d, hd⟩ hn h1, Result.andThen_ok, Sem.run_pure]), (by intro h; cases h), h2⟩
    · exact h.elim
  case nilCheck x =>
    have nn : ∀ v, (ρ x).2 = v → notNil v = true → ∀ w, (execOp (fun x => (ρ x).2) ⟨dst, .nilCheck x, type, pos, after, guard⟩).run P w = .ok (.value v) w := by
      intro v hv hn w
      simp only [execOp, hv]
      unfold notNil at hn
      split at hn <;> first | (simp at hn; done) | skip
      split <;> first | rfl | (exfalso; simp_all; done)
    cases hb : Nat.beq (ρ x).1 1 with
    | true =>
      rw [hb] at h
      obtain ⟨h1, h2⟩ := h
      exact ⟨_, _, yq_value (nn _ rfl h1 w), fun _ w' => yq_value (nn _ rfl h1 w'), h2⟩
    | false =>
      rw [hb] at h
      simp only [cond_false] at h
      split at h
      · rename_i p hp
        obtain ⟨a', rfl, h⟩ := run_addr h
        exact ⟨_, _, yq_value (nn _ hp rfl w), fun _ w' => yq_value (nn _ hp rfl w'), h⟩
      · obtain ⟨h1, h2⟩ := h
        exact ⟨_, _, yq_value (nn _ rfl h1 w), fun _ w' => yq_value (nn _ rfl h1 w'), h2⟩
  case binOp op t x y yt => exact binQ_sound rfl hc h
  case unOp op t x =>
    unfold unQ at h
    split at h
    · rename_i b hx
      exact opQ_val (m := Op.unary .not (ρ x).2) rfl (fun w => by rw [hx]; rfl) h
    · rename_i k n hx
      obtain ⟨m, rfl, h⟩ := h
      exact opQ_val (m := Op.unary .neg (ρ x).2) rfl (fun w => by rw [hx]; rfl) h
    · rename_i k n hx
      obtain ⟨m, rfl, h⟩ := h
      exact opQ_val (m := Op.unary .xor (ρ x).2) rfl (fun w => by rw [hx]; rfl) h
    · exact h.elim
  case convert s d x =>
    split at h
    · rename_i k1 k hs hd
      split at h
      · rename_i k2 n hx
        obtain ⟨m, rfl, h⟩ := h
        refine opQ_val (m := convert s d (ρ x).2) rfl (fun w => ?_) h
        obtain ⟨d1, hd1, rfl⟩ := shOf_und hs (by simp)
        obtain ⟨d2, hd2, rfl⟩ := shOf_und hd (by simp)
        rw [hx]
        simp [convert, run_underlying' hd1, run_underlying' hd2, Conv.intToInt]
      · exact h.elim
    · rename_i hs hd; exact opQ_gen _ (fun _ => rfl) rfl (by simp only [isPure, hs, hd]) h
    · rename_i hs hd; exact opQ_gen _ (fun _ => rfl) rfl (by simp only [isPure, hs, hd]) h
    · exact h.elim
  case makeInterface t x => exact opQ_gen _ (fun _ => rfl) rfl rfl h
  case makeFunc fn a b => exact opQ_gen _ (fun _ => rfl) rfl rfl h
  case slice t x lo hi mx => exact opQ_gen _ (sh_ev _) rfl rfl h
  case fieldAddr s x f =>
    split at h
    · rename_i p off hp ho
      obtain ⟨a, rfl, h⟩ := run_addr h
      exact opQ_val (m := Instr.fieldAt s (ρ x).2 f) rfl (fun w => by rw [hp]; exact fieldAt_ok ho) h
    · exact h.elim
  case indexAddr t x i => exact ixQ_sound rfl hc h
  case index t x i =>
    split at h
    · rename_i hs
      obtain ⟨d1, hd1, rfl⟩ := shOf_und hs (by simp)
      split at h
      · rename_i s k n hx hi
        obtain ⟨h0, b, h1, h2⟩ := h
        exact opQ_val (m := Instr.index t (ρ x).2 (ρ i).2) rfl (fun w => by rw [hx, hi]; simp [Instr.index, asIntOf, run_underlying' hd1, h0, h1]) h2
      · exact h.elim
    · rename_i hns
      refine opQ_gen _ (sh_ev _) rfl ?_ h
      simp only [isPure]
  case field t x f => exact opQ_gen _ (sh_ev _) rfl rfl h
  case build t parts => exact opQ_gen _ (fun _ => rfl) rfl rfl h
  case lookup t x i ok =>
    obtain ⟨f, v, h1, h2⟩ := tupQ_sound h
    exact opQ_val1 (m := Instr.lookup t (ρ x).2 (ρ i).2 ok) rfl rfl h1 h2
  case typeAssert x t a ok =>
    obtain ⟨f, v, h1, h2⟩ := tupQ_sound h
    exact opQ_val1 (m := Instr.typeAssert (ρ x).2 t a ok) rfl rfl h1 h2
  case entry x => exact opQ_gen _ (fun _ => rfl) rfl rfl h
  case extract t i =>
    cases hb : Nat.beq (ρ t).1 1 with
    | true =>
      rw [hb] at h
      obtain ⟨vs, x, h0, h1, h2⟩ := h
      exact opQ_val (m := Instr.extract (ρ t).2 i) rfl (fun w => by rw [h0]; simp [Instr.extract, h1]) h2
    | false =>
      rw [hb] at h
      simp only [cond_false] at h
      split at h
      · rename_i vs hv
        split at h
        · rename_i v h1
          exact opQ_val (m := Instr.extract (ρ t).2 i) rfl (fun w => by rw [hv]; simp [Instr.extract, h1]) h
        · exact h.elim
      · exact h.elim
  case call c =>
    obtain ⟨cal, args, argTypes⟩ := c
    cases cal with
    | value f =>
      cases f <;> simp only [Bool.false_eq_true] at hq
      case func f =>
        obtain ⟨t, ⟨h0, h1⟩, h2⟩ := h
        exact ⟨_, _, .inr (.inr ⟨f, _, call_enter rfl rfl hf h0, h1.mono fun _ _ h => h.1⟩), (by intro h; cases h), h2⟩
    | invoke r m => simp at hq
    | builtin b =>
      cases b <;> simp only [Bool.false_eq_true] at hq
      case len =>
        simp only [lenQ, mapL_eq] at h
        have hm : execOp (fun x => (ρ x).2) ⟨dst, .call ⟨.builtin .len, args, argTypes⟩, type, pos, after, guard⟩ = (do pure (.value (← Builtin.len_ argTypes type (args.map fun x => (ρ x).2)))) := rfl
        split at h
        · rename_i h1
          split at h
          · rename_i s h2
            refine opQ_val hm (fun w => ?_) h
            simp only [Option.map_eq_some_iff] at h1 h2
            obtain ⟨t, ht, hs⟩ := h1
            obtain ⟨x, hx, hv⟩ := h2
            obtain ⟨d, hd, rfl⟩ := shOf_und hs (by simp)
            simp [Builtin.len_, ht, hx, hv, run_underlying' hd, goInt]
          · exact h.elim
        · rename_i h1
          split at h
          · rename_i a n c h2
            refine opQ_val hm (fun w => ?_) h
            simp only [Option.map_eq_some_iff] at h1 h2
            obtain ⟨t, ht, hs⟩ := h1
            obtain ⟨x, hx, hv⟩ := h2
            obtain ⟨d, hd, e, rfl⟩ := shOf_und hs (by simp)
            simp [Builtin.len_, ht, hx, hv, run_underlying' hd, goInt]
          · exact h.elim
        · refine opQ_gen _ (fun _ => rfl) hm ?_ h
          simp only [isPure]
      case cap => exact opQ_gen _ (fun _ => rfl) rfl rfl h
      case max => exact opQ_gen _ (sh_ev _) rfl rfl h
      case min => exact opQ_gen _ (sh_ev _) rfl rfl h
end Go.Fw

/- Operations that touch the world. -/
namespace Go.Fw
open Go

section
variable {P : Program} {w : World} {o : Oper} {ρ : Operand → Value} {K : EV → World → Prop}
theorem does_val {m : Sem Value} {f : Nat} {v : Value} {w' : World} (he : execOp ρ o = do pure (.value (← m)))
    (h : m.run P w = .ok v w') (hk : K (f, v) w') : Does P o ρ w fun v w' => ∃ f, K (f, v) w' :=
  .inl ⟨v, w', by rw [he]; simp [h], f, hk⟩
theorem does_gen {m : Sem Value} {s : Sh} (g : s.T → EV) (hg : ∀ x, (g x).2 = s.val x) (he : execOp ρ o = do pure (.value (← m)))
    (h : genL P m s w (fun x w' => K (g x) w')) : Does P o ρ w fun v w' => ∃ f, K (f, v) w' := by
  obtain ⟨x, w', h1, _, h2⟩ := h
  refine .inl ⟨(g x).2, w', ?_, (g x).1, h2⟩
  rw [he, hg]
  simp [h1]
theorem does_unit {m : Sem Unit} (he : execOp ρ o = do m; pure .skip) (h : genU P m w (fun w' => K (0, undef) w')) : Does P o ρ w fun v w' => ∃ f, K (f, v) w' := by
  obtain ⟨w', h1, _, h2⟩ := h
  refine .inr (.inl ⟨w', ?_, 0, h2⟩)
  rw [he]
  simp [h1]
theorem does_ret {l : List Sh} {tup : Bool} {f : FuncId} {args : Array Value} {w1 : World} (he : (execOp ρ o).run P w = .ok (.enter f args) w1)
    (h : Calls P f args w1 (fun e w' => ∃ t, e = .returned (retEV l tup t).2 ∧ K (retEV l tup t) w')) : Does P o ρ w fun v w' => ∃ f, K (f, v) w' :=
  .inr (.inr (.inl ⟨f, args, w1, he, h.mono fun _ _ ⟨_, h1, h2⟩ => ⟨_, h1, _, h2⟩⟩))
end

theorem run_store_cell {P : Program} {w : World} {t : TypeId} {a : Addr} {v : Value} (hs : P.cellsOf t = 1) (hv : v.oneCell' = true) (hc : ∃ x, w.cell? a = some x) (hf : w.frozen? a = false) :
    (storeVar t a v).run P w = .ok () (w.setCell a v) := by
  obtain ⟨x, hx⟩ := hc
  have h0 : (sizeOf t).run P w = .ok 1 w := by rw [run_sizeOf_cells (by rw [hs]; simp), hs]
  have hcells : v.cells = #[v] := by cases v <;> first | rfl | simp [Value.oneCell'] at hv
  have ha : a.add 0 = a := by simp [Addr.add]
  simp [storeVar, h0, hcells, storeCells, ha, run_store P w a v .plain hv, hx, hf]

theorem zero_of {P : Program} {t : TypeId} {w : World} (h : ((P.info? t).bind (·.zero)).isSome = true) : ∃ z, (zeroValue t).run P w = .ok z w ∧ z.cells = zc P t := by
  cases hi : P.info? t with
  | none => rw [hi] at h; simp at h
  | some i =>
    rw [hi] at h
    cases hz : i.zero with
    | none => simp [hz] at h
    | some z => exact ⟨z, by simp [zeroValue, typeInfo, hi, hz], by simp [zc, hi, hz]⟩

set_option maxHeartbeats 1000000 in
theorem opL_sound {P : Program} {o : Oper} {ρ : Operand → EV} {w : World} {K : EV → World → Prop}
    (hf : ∀ f, (ρ (.func f)).2 = .func (.func f) #[] #[]) (h : opL P o ρ w K) : Does P o (fun x => (ρ x).2) w fun v w' => ∃ f, K (f, v) w' := by
  obtain ⟨dst, op, type, pos, after, guard⟩ := o
  cases op <;> simp only [opL, mapL_eq] at h
  case alloc t =>
    cases hz : ((P.info? t).bind (·.zero)).isSome with
    | false => rw [hz] at h; exact h.elim
    | true =>
      rw [hz] at h
      simp only [cond_true] at h
      obtain ⟨z, h1, h2⟩ := zero_of (w := w) hz
      refine does_val (m := Instr.alloc t true (.tuple #[])) (w' := { w with heap := w.heap.push (.cells (zc P t) t) }) rfl ?_ (h w.heap.size _ ⟨rfl, rfl⟩)
      simp [Instr.alloc, h1, newVar, newRow, h2]
  case box t x =>
    refine does_val (m := Instr.box t (ρ x).2) (w' := { w with heap := w.heap.push (.cells (ρ x).2.cells t) }) rfl ?_ (h w.heap.size _ ⟨rfl, rfl⟩)
    simp [Instr.box, newVar, newRow]
  case store t a x =>
    split at h
    · rename_i p hp
      obtain ⟨a', rfl, h⟩ := run_addr h
      cases hb : ((aggOf P t).isNone && !(Nat.beq (ρ x).1 1) && Nat.beq (P.cellsOf t) 1 && (ρ x).2.oneCell') with
      | true =>
        rw [hb] at h
        simp only [cond_true] at h
        obtain ⟨h1, h2, h3⟩ := h
        simp only [Bool.and_eq_true] at hb
        refine does_unit (m := Instr.storeAt t (ρ a).2 (ρ x).2) rfl ⟨w.setCell a' (ρ x).2, ?_, ⟨rfl, rfl, rfl, Nat.le_refl _⟩, h3 _ rfl⟩
        rw [hp]
        simp only [Instr.storeAt, Instr.sureAddr, Sem.run_bind, Sem.run_pure, Result.andThen_ok]
        exact run_store_cell (Nat.eq_of_beq_eq_true hb.1.2) hb.2 h1 h2
      | false =>
        rw [hb] at h
        simp only [cond_false] at h
        obtain ⟨w', h1, h3, h2⟩ := h
        refine does_unit (m := Instr.storeAt t (ρ a).2 (ρ x).2) rfl ⟨w', ?_, h3, h2⟩
        rw [hp]
        simp only [Instr.storeAt, Instr.sureAddr, Sem.run_bind, Sem.run_pure, Result.andThen_ok, h1]
    · exact h.elim
  case mapUpdate t m k x => exact does_unit rfl h
  case insert t m k x => exact does_unit rfl h
  case makeMap t r => exact does_gen _ (fun _ => rfl) rfl h
  case makeSlice t l c => exact does_gen _ (sh_ev _) rfl h
  case buildSlice t n parts => exact does_gen _ (sh_ev _) rfl h
  case convert s d x => exact does_gen _ (sh_ev _) rfl h
  case range t x => exact does_gen _ (fun _ => rfl) rfl h
  case next it b => exact does_gen _ (fun _ => rfl) rfl h
  case call c =>
    obtain ⟨cal, args, argTypes⟩ := c
    cases cal with
    | builtin b =>
      cases b <;> first | exact h.elim | skip
      case append => exact does_gen _ (sh_ev _) rfl h
      case copy => exact does_gen _ (fun _ => rfl) rfl h
      case delete => exact does_gen _ (fun _ => rfl) rfl h
      case unsafeSliceData => exact does_gen _ (fun _ => rfl) rfl h
      case unsafeString => exact does_gen _ (fun _ => rfl) rfl h
    | invoke r m =>
      obtain ⟨f, args', w1, h1, _, h2⟩ := h
      refine does_ret (w1 := w1) ?_ (h2.mono fun _ _ h => h.1)
      simp only [execOp, resolve, Sem.run_bind, Sem.run_pure, Result.andThen_ok, invoke]
      have e1 : (#[(ρ r).2] ++ Array.map (fun x => (ρ x).2) args)[0]? = some (ρ r).2 := by
        rw [Array.getElem?_append_left (by simp)]; rfl
      have e2 : (#[(ρ r).2] ++ Array.map (fun x => (ρ x).2) args).extract 1 (#[(ρ r).2] ++ Array.map (fun x => (ρ x).2) args).size = Array.map (fun x => (ρ x).2) args := by
        apply Array.ext'
        simp
        rw [List.take_of_length_le (by simp)]
      simp only [e1, e2]
      exact h1
    | value x =>
      have hv : ∀ x, callV P (ρ x).2 (args.map fun x => (ρ x).2) (retShs P type) (isTup P type) w (fun t w' => K (retEV (retShs P type) (isTup P type) t) w') →
          Does P ⟨dst, .call ⟨.value x, args, argTypes⟩, type, pos, after, guard⟩ (fun x => (ρ x).2) w fun v w' => ∃ f, K (f, v) w' := by
        intro x h
        rcases h with ⟨f, first, cap, hx, ⟨h0, h1⟩⟩ | ⟨l0, hx, fn, tmps, assign, body, h0, h1⟩
        · refine does_ret (w1 := w) (f := f) (args := first ++ args.map (fun x => (ρ x).2) ++ cap) ?_ (h1.mono fun _ _ h => h.1)
          simp only [execOp, resolve, hx, Deferred.ofValue, Sem.run_bind, Sem.run_pure, Result.andThen_ok, invoke, h0]
        · refine .inr (.inr (.inr ⟨l0, fn, tmps, assign, body, w, ?_, h1.mono fun _ _ ⟨⟨_, h1, h2⟩, _⟩ => ⟨_, h1, _, h2⟩⟩))
          simp only [execOp, resolve, hx, Deferred.ofValue, Sem.run_bind, Sem.run_pure, Result.andThen_ok, invoke, Array.empty_append, Array.append_empty, h0]
      cases x
      case func f =>
        rcases h with ⟨h0, h1⟩ | ⟨v, w1, h0, hc, t, h1, h2⟩
        · exact does_ret (w1 := w) (call_enter rfl rfl hf h0) (h1.mono fun _ _ h => h.1)
        · cases h1
          exact .inl ⟨_, w1, call_value rfl rfl hf h0, _, h2⟩
      case tmp t => exact hv _ h
      case const v => exact hv _ h
      case global g => exact hv _ h
end Go.Fw
