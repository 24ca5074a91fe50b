/- The vocabulary of the translation of code into readable propositions: shapes of values, environments, the combinators for the operations. -/
import Derived.Still
import Derived.KernelRfl
namespace Go.Fw
open Go

/-- The shape of a value that stands in one slot. -/
inductive Sh where
  | int (k : IntKind) | bool | str | ptr | slc | map | any
@[reducible] def Sh.T : Sh → Type
  | .int _ => Int
  | .bool => Bool
  | .str => ByteArray
  | .ptr => Option Addr
  | .slc => Option Addr × Nat × Nat
  | .map => Option Nat
  | .any => Value
def Sh.val : (s : Sh) → s.T → Value
  | .int k, n => .int k n
  | .bool, b => .bool b
  | .str, s => .string s
  | .ptr, p => .pointer p
  | .slc, x => .slice x.1 x.2.1 x.2.2
  | .map, r => .map r
  | .any, v => v
/-- What of a value is of a shape. -/
def Sh.un : (s : Sh) → Value → Option s.T
  | .int k, .int k' n => if k = k' then some n else none
  | .bool, .bool b => some b
  | .str, .string s => some s
  | .ptr, .pointer p => some p
  | .slc, .slice a l c => some (a, l, c)
  | .map, .map r => some r
  | .any, v => some v
  | _, _ => none
theorem Sh.un_val {s : Sh} {v : Value} {t : s.T} (h : s.un v = some t) : v = s.val t := by
  cases s <;> cases v <;> simp [Sh.un, Sh.val] at h ⊢ <;> first | (obtain ⟨rfl, rfl⟩ := h; exact ⟨rfl, rfl⟩) | (subst h; rfl) | (obtain rfl := h; simp) | exact h

/-- Several of them. -/
@[reducible] def Tup : List Sh → Type
  | [] => Unit
  | [s] => s.T
  | s :: r => s.T × Tup r
def Tup.vals : (l : List Sh) → Tup l → List Value
  | [], _ => []
  | [s], t => [s.val t]
  | s :: u :: r, t => s.val t.1 :: Tup.vals (u :: r) t.2

/-- A value, and a mark: 1: its form is left open; 2, 3: it is written out as true, false. -/
abbrev EV := Nat × Value
/-- The slots' values, the latest first. -/
abbrev Env := List (Nat × EV)
def Env.find : Env → Nat → Option EV
  | [], _ => none
  | (s, v) :: e, t => bif Nat.beq s t then some v else Env.find e t
def Env.get (e : Env) (t : Nat) : EV := match e.find t with | some v => v | none => (1, undef)
def constTag : Value → Nat
  | .bool _ => 2
  | _ => 0
def Env.ev (e : Env) : Operand → EV
  | .tmp t => e.get t
  | .const v => (constTag v, v)
  | .global g => (0, .pointer (some ⟨g, 0, none⟩))
  | .func f => (0, .func (.func f) #[] #[])
def Env.put (e : Env) : Option Tmp → EV → Env
  | some d, v => (d, v) :: e
  | none, _ => e

/-- An environment tells the truth of a frame. -/
def Rep (ds : List Deferred) (n : Nat) (e : Env) (a : Act) : Prop := a.defers = ds ∧ a.tmps.size = n ∧ ∀ t v, e.find t = some v → a.tmps[t]? = some v.2

theorem Rep.get {ds : List Deferred} {n : Nat} {e : Env} {a : Act} (h : Rep ds n e a) {t : Nat} {v : EV} (hf : e.find t = some v) : a.tmps.getD t undef = v.2 := by
  have := h.2.2 t v hf
  simp [this]

/-- All operands are known slots, constants, .. -/
def Env.knows (e : Env) : Operand → Bool
  | .tmp t => (e.find t).isSome
  | _ => true
theorem Rep.ev {ds : List Deferred} {n : Nat} {e : Env} {a : Act} (h : Rep ds n e a) {x : Operand} (hk : e.knows x = true) : a.eval x = (e.ev x).2 := by
  cases x with
  | tmp t =>
    simp only [Env.knows, Option.isSome_iff_exists] at hk
    obtain ⟨v, hv⟩ := hk
    simp only [Act.eval, Env.ev, Env.get, hv]
    exact h.get hv
  | _ => rfl
theorem Rep.put {ds : List Deferred} {n : Nat} {e : Env} {a : Act} (h : Rep ds n e a) {d : Option Tmp} {v : EV} (hd : ∀ t, d = some t → t < n) : Rep ds n (e.put d v) (a.put d v.2) := by
  obtain ⟨h0, h1, h2⟩ := h
  cases d with
  | none => exact ⟨h0, h1, h2⟩
  | some t =>
    refine ⟨h0, by simpa [Act.put] using h1, fun u x hx => ?_⟩
    simp only [Env.put, Env.find] at hx
    by_cases e1 : t = u
    · subst e1
      have : Nat.beq t t = true := by simp
      simp only [this, cond_true, Option.some.injEq] at hx
      subst hx
      have := hd t rfl
      simp [Act.put, h1, this]
    · have : Nat.beq t u = false := by
        cases hb : Nat.beq t u with
        | true => exact absurd (Nat.eq_of_beq_eq_true hb) e1
        | false => rfl
      simp only [this, cond_false] at hx
      have := h2 u x hx
      simp only [Act.put]
      rw [Array.getElem?_setIfInBounds_ne e1]
      exact this

end Go.Fw
