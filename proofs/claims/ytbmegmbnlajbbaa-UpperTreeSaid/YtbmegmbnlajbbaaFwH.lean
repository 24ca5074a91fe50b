/- The translation of code into propositions. -/
import Derived.Test.YtbmegmbnlajbbaaFwG
namespace Go.Fw
open Go

/-- What stands behind a piece of code: at its end, at an exit, at a return. -/
structure Kont where
  nrm : Env → World → Prop
  ext : Nat → Env → World → Prop
  ret : Env → World → Prop

def knowsAll (e : Env) (o : Oper) : Bool :=
  match o.op with
  | .select .. => false
  | op => op.operands.toList.all e.knows
/-- One operation. -/
def run1 (P : Program) (qs : List FuncId) (o : Oper) (e : Env) (w : World) (K : EV → World → Prop) : Prop :=
  bif knowsAll e o then (bif isQ P qs o then opQ P o e.ev w (fun v => K v w) else opL P o e.ev w K) else False
/-- One operation, if its guard wants it. -/
def trOp (P : Program) (qs : List FuncId) (all : Array Oper) (o : Oper) (e : Env) (w : World) (K : Env → EV → World → Prop) : Prop :=
  match o.guard with
  | none => run1 P qs o e w fun v w' => K (e.put o.dst v) v w'
  | some (j, want) =>
    match (all[j]?).bind (·.dst) with
    | none => False
    | some d =>
      match e.find d with
      | some (tag, .bool b) =>
          bif Nat.beq tag 2 then
            (bif b == want then run1 P qs o e w fun v w' => K (e.put o.dst v) v w' else K (e.put o.dst (0, undef)) (0, undef) w)
          else iteP b
            (bif want then run1 P qs o ((d, (2, .bool true)) :: e) w fun v w' => K (Env.put ((d, (2, .bool true)) :: e) o.dst v) v w'
              else K (Env.put ((d, (2, .bool true)) :: e) o.dst (0, undef)) (0, undef) w)
            (bif want then K (Env.put ((d, (2, .bool false)) :: e) o.dst (0, undef)) (0, undef) w
              else run1 P qs o ((d, (2, .bool false)) :: e) w fun v w' => K (Env.put ((d, (2, .bool false)) :: e) o.dst v) v w')
      | some (_, .tuple _) => K (e.put o.dst (0, undef)) (0, undef) w
      | _ => False
def trOps (P : Program) (qs : List FuncId) (all : Array Oper) : List Oper → Env → World → (Env → World → Prop) → Prop
  | [], e, w, K => K e w
  | o :: r, e, w, K => trOp P qs all o e w fun e' _ w' => trOps P qs all r e' w' K

/-- Whether an operation is wanted, if that is known. -/
def wantedIn (ops : Array Oper) (e : Env) (o : Oper) : Option Bool :=
  match o.guard with
  | none => some true
  | some (j, want) =>
    match (ops[j]?).bind (·.dst) with
    | none => none
    | some d => match e.find d with
      | some (_, .bool b) => some (b == want)
      | some (_, .tuple _) => some false
      | _ => none
/-- The earlier reads, told anew. -/
def reOK (P : Program) (ops : Array Oper) (e : Env) (w : World) (re : List Nat) : List (Nat × EV) → Prop → Prop
  | [], K => K
  | (i, v) :: pend, K =>
    bif memN i re then
      (match ops[i]? with
      | some o => bif knowsAll e o then
          (match wantedIn ops e o with
          | some true => opQ P o e.ev w (fun u => u.2 = v.2) ∧ reOK P ops e w re pend K
          | some false => v.2 = undef ∧ reOK P ops e w re pend K
          | none => False)
        else False
      | none => False)
    else reOK P ops e w re pend K
def trT (P : Program) (qs : List FuncId) (ops : Array Oper) : OT → Env → List (Nat × EV) → World → (Env → World → Prop) → Prop
  | .done, e, _, w, K => K e w
  | .op i re t, e, pend, w, K =>
    match ops[i]? with
    | some o => trOp P qs ops o e w fun e' v w' =>
      bif isQ P qs o then trT P qs ops t e' ((i, v) :: pend) w' K else reOK P ops e' w' re pend (trT P qs ops t e' pend w' K)
    | none => False
  | .or a b, e, pend, w, K => trT P qs ops a e pend w K ∧ trT P qs ops b e pend w K

def Drew (w w' : World) : Prop := w' = { w with drawn := w.drawn + 1 }
def drewP (w : World) (K : World → Prop) : Prop := ∀ w', Drew w w' → K w'
/-- Ways that meet again. -/
def joinP (σ : Type) (m : (σ → World → Prop) → Prop) (k : σ → World → Prop) : Prop := ∃ J : σ → World → Prop, m J ∧ ∀ s w, J s w → k s w
/-- A loop: what holds at its head, and what each round lowers. -/
def loopP (σ : Type) (m : σ → World → (σ → World → Prop) → Prop) (s : σ) (w : World) : Prop :=
  ∃ (I : σ → World → Prop) (μ : σ → World → Nat), I s w ∧ ∀ s w, I s w → m s w fun s' w' => I s' w' ∧ μ s' w' < μ s w

abbrev Vars := List (Nat × Sh)
def Vars.shs (l : Vars) : List Sh := l.map (·.2)
def putT : (l : Vars) → Tup l.shs → Env → Env
  | [], _, e => e
  | [(t, s)], x, e => (t, s.ev x) :: e
  | (t, s) :: u :: r, x, e => (t, s.ev x.1) :: putT (u :: r) x.2 e
def getT : (l : Vars) → Env → Option (Tup l.shs)
  | [], _ => some ()
  | [(t, s)], e => s.un (e.get t).2
  | (t, s) :: u :: r, e => match s.un (e.get t).2, getT (u :: r) e with
    | some x, some y => some (x, y)
    | _, _ => none
def give (l : Vars) (e : Env) (w : World) (k : Tup l.shs → World → Prop) : Prop :=
  match getT l e with
  | some s => k s w
  | none => False
def knowsT (l : Vars) (e : Env) : Bool := l.all fun x => (e.find x.1).isSome
def Env.drop (ws : List Nat) : Env → Env
  | [] => []
  | (t, v) :: e => bif memN t ws then Env.drop ws e else (t, v) :: Env.drop ws e

def opsWrites : List Oper → List Nat
  | [] => []
  | o :: r => match o.dst with
    | some d => d :: opsWrites r
    | none => opsWrites r
def writes : Code → List Nat
  | .region _ ops _ => opsWrites ops.toList
  | .seq a b => writes a ++ writes b
  | .cond _ a b => writes a ++ writes b
  | .block _ a => writes a
  | .loop a => writes a
  | _ => []

inductive Ann where
  | leaf
  | tree (t : OT)
  | seq (a b : Ann)
  | join (vars : Vars) (a b : Ann)
  | cond (a b : Ann)
  | blk (a : Ann)
  | jblk (vars : Vars) (a : Ann)
  | loop (vars : Vars) (a : Ann)

def tr (P : Program) (qs : List FuncId) : Code → Ann → Env → Kont → World → Prop
  | .skip, _, e, K, w => K.nrm e w
  | .label _, _, e, K, w => K.nrm e w
  | .region _ ops draw, ann, e, K, w =>
    bif draw then
      (match ann with
      | .tree t => drewP w fun w' => trT P qs ops t e [] w' K.nrm
      | _ => False)
    else trOps P qs ops ops.toList e w K.nrm
  | .seq a b, ann, e, K, w =>
    (match ann with
    | .seq x y => tr P qs a x e { K with nrm := fun e' w' => tr P qs b y e' K w' } w
    | .join vars x y => joinP (Tup vars.shs) (fun k => tr P qs a x e { K with nrm := fun e' w' => bif knowsT vars e' then give vars e' w' k else False } w)
        (fun s w' => tr P qs b y (putT vars s (Env.drop (writes a) e)) K w')
    | _ => False)
  | .cond c a b, ann, e, K, w =>
    (match ann with
    | .cond x y =>
      bif e.knows c then
        (match e.ev c with
        | (tag, .bool t) => bif Nat.beq tag 2 then (bif t then tr P qs a x e K w else tr P qs b y e K w) else iteP t (tr P qs a x e K w) (tr P qs b y e K w)
        | _ => False)
      else False
    | _ => False)
  | .block id a, ann, e, K, w =>
    (match ann with
    | .blk x => tr P qs a x e { K with ext := fun i e' w' => bif Nat.beq i id then K.nrm e' w' else K.ext i e' w' } w
    | .jblk vars x => joinP (Tup vars.shs) (fun k => tr P qs a x e
          { K with nrm := fun e' w' => bif knowsT vars e' then give vars e' w' k else False,
                   ext := fun i e' w' => bif Nat.beq i id then (bif knowsT vars e' then give vars e' w' k else False) else K.ext i e' w' } w)
        (fun s w' => K.nrm (putT vars s (Env.drop (writes a) e)) w')
    | _ => False)
  | .loop a, ann, e, K, w =>
    (match ann with
    | .loop vars x =>
      bif knowsT vars e then
        (match getT vars e with
        | some s0 => loopP (Tup vars.shs) (fun s w' k => tr P qs a x (putT vars s (Env.drop (writes a) e)) { K with nrm := fun e' w' => bif knowsT vars e' then give vars e' w' k else False } w') s0 w
        | none => False)
      else False
    | _ => False)
  | .exit id, _, e, K, w => K.ext id e w
  | .ret, _, e, K, w => K.ret e w
  | _, _, _, _, _ => False

/-- The re-read operations of a tree are reads. -/
def OT.reQ (qt : Nat → Bool) : OT → Bool
  | .done => true
  | .op _ re t => re.all qt && t.reQ qt
  | .or a b => a.reQ qt && b.reQ qt

def dstsOk (n : Nat) : List Oper → Bool
  | [] => true
  | o :: r => (match o.dst with
    | some d => Nat.blt d n
    | none => true) && dstsOk n r
/-- What the kernel checks of the code and the annotations beside it. -/
def okC (P : Program) (qs : List FuncId) (n : Nat) : Code → Ann → Bool
  | .region _ ops draw, ann =>
    dstsOk n ops.toList &&
    (bif draw then (match ann with
      | .tree t => Region.noSelect ops && t.reQ (fun i => match ops[i]? with | some o => isQ P qs o | none => false) && okT ops (fun i => match ops[i]? with | some o => isQ P qs o | none => false) (fun i => match ops[i]? with | some o => isPure P o | none => false) true t (Array.replicate ops.size false) [] && Nat.ble t.depth ops.size
      | _ => false)
    else true)
  | .seq a b, ann => (match ann with
    | .seq x y => okC P qs n a x && okC P qs n b y
    | .join vars x y => vars.all (fun v => memN v.1 (writes a)) && okC P qs n a x && okC P qs n b y
    | _ => false)
  | .cond _ a b, ann => (match ann with
    | .cond x y => okC P qs n a x && okC P qs n b y
    | _ => false)
  | .block _ a, ann => (match ann with
    | .blk x => okC P qs n a x
    | .jblk vars x => vars.all (fun v => memN v.1 (writes a)) && okC P qs n a x
    | _ => false)
  | .loop a, ann => (match ann with
    | .loop vars x => vars.all (fun v => memN v.1 (writes a)) && okC P qs n a x
    | _ => false)
  | _, _ => true

def resQ (P : Program) (w : World) : List ResultVar → Env → (List EV → Prop) → Prop
  | [], _, K => K []
  | .tmp t :: r, e, K => bif (e.find t).isSome then resQ P w r e fun vs => K (e.get t :: vs) else False
  | .cell a t :: r, e, K => bif (e.find a).isSome then ldQ P t (e.get a).2 w fun v => resQ P w r e fun vs => K (v :: vs) else False
def resV : List EV → Value
  | [v] => v.2
  | vs => .tuple (vs.map (·.2)).toArray
def topK (P : Program) (rs : List ResultVar) (R : Ending → World → Prop) : Kont where
  nrm := fun e w => resQ P w rs e fun vs => R (.returned (resV vs)) w
  ext := fun _ _ _ => False
  ret := fun e w => resQ P w rs e fun vs => R (.returned (resV vs)) w
def env0 : Nat → List EV → Env
  | _, [] => []
  | i, v :: r => (i, v) :: env0 (i + 1) r
end Go.Fw
