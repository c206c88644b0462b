/- A part of the proof of FnExactNewWorld: an abstract machine over the program, sound by its theorems. There is no condition. -/
import Derived.Calls
import Derived.Orders
import Derived.Below
import Derived.Laws.Sem
import Derived.Laws.World
import Derived.Laws.Cells
import Derived.Laws.IdiomCopy
import Derived.ChangeKeysEq
import Derived.Laws.BytesString
namespace Km
open Go
set_option linter.unusedVariables false

variable {κ : Type} {Ty : κ → Type} {R : Type}

/-! ### values, objects, tables -/
inductive AV (κ : Type) (Ty : κ → Type) where
  | lit (v : Value)
  | nil (t : κ)
  | ref (id off : Nat)
  | eref (id i off : Nat)
  | cadr (b : Bool) (cells : List (AV κ Ty)) (off : Nat)
  | own (id : Nat)
  | mapv (id : Nat)
  | sub (id lo hi : Nat)
  | inl (b : Bool) (t : κ) (xs : List (Ty t))
  | agg (cells : List (AV κ Ty))
  | tup (vs : List (AV κ Ty))
  | void
  | undef

inductive AObj (κ : Type) (Ty : κ → Type) where
  | dead
  | box (cells : List (AV κ Ty))
  | sl (t : κ) (xs : List (Ty t))
  | mp (k v : κ) (es : List (Ty k × Ty v)) (hole : Option (Nat × Option Nat))

inductive Shp (κ : Type) where
  | int (k : IntKind) | bool | str
  | struct (fs : List (Nat × TypeId))
  | arr (n : Nat) (e : TypeId) (t : κ)
  | slice (e : TypeId) (t : κ)
  | map (kt et : TypeId) (k v : κ)
  | other

structure TI (κ : Type) (Ty : κ → Type) where
  size : Nat
  bytes : Nat
  shp : Shp κ
  zero : List (AV κ Ty)

def TI.agg (ti : TI κ Ty) : Bool := match ti.shp with | .struct _ => true | .arr .. => true | _ => false

/-- how an element of a slice lies in its cells -/
structure Cod (κ : Type) (Ty : κ → Type) where
  same : κ → κ → Bool
  cast : (s t : κ) → List (Ty s) → Option (List (Ty t))
  sz : κ → Nat
  by' : κ → Nat
  bor : κ → Bool
  enc : (t : κ) → Ty t → List (AV κ Ty)
  dec : (t : κ) → List (AV κ Ty) → Option (Ty t)
  bytes : (t : κ) → List (Ty t) → Option (List Int)
  ofb : (t : κ) → ByteArray → Option (List (Ty t))
  keq : (k : κ) → Ty k → Ty k → Bool
  mcast : (k v k' v' : κ) → List (Ty k × Ty v) → Option (List (Ty k' × Ty v'))

inductive Mode | mv | bo | pe

/-- what is known of a function: it is called with these arguments and objects (those that it is lent) and answers -/
structure Summ (κ : Type) (Ty : κ → Type) where
  R : Type
  modes : List Mode
  run : List (AV κ Ty) → List (AObj κ Ty) → Option R
  ret : R → AV κ Ty × List (AObj κ Ty)
  quiet : Bool

abbrev Env (κ : Type) (Ty : κ → Type) := List (Nat × AV κ Ty)
abbrev Objs (κ : Type) (Ty : κ → Type) := List (AObj κ Ty)

def look : Env κ Ty → Nat → AV κ Ty
  | [], _ => .undef
  | (j, v) :: l, i => match Nat.beq j i with | true => v | false => look l i

/-! ### the words of the printed functions -/
def idx {α : Type} (xs : List α) (i : Int) : Option α := if i < 0 then none else xs[i.toNat]?
def ifB (b : Bool) (K : Bool → Option R) : Option R := match b with | true => K true | false => K false
def optK {α : Type} (o : Option α) (K0 : Option R) (K1 : α → Option R) : Option R := match o with | none => K0 | some a => K1 a
/-- the first entry of a map whose key passes -/
def mfind {α β : Type} (q : α → Bool) : List (α × β) → Nat → Option (Nat × β)
  | [], _ => none
  | (a, b) :: l, i => match q a with | true => some (i, b) | false => mfind q l (i + 1)
def sadd (x y : ByteArray) : Option ByteArray := if x.size + y.size ≤ 140737488355328 then some (x ++ y) else none
def app {α : Type} (bytes : Nat) (xs ys : List α) : Option (List α) := if (xs.length + ys.length) * bytes ≤ 140737488355328 then some (xs ++ ys) else none
def wnd (n : Nat) (lo hi : Int) : Option (Nat × Nat) := if 0 ≤ lo ∧ lo ≤ hi ∧ hi ≤ n then some (lo.toNat, hi.toNat) else none
def unnil (b0 : Bool) : AV κ Ty → AV κ Ty
  | .nil t => .inl b0 t []
  | v => v
def room (bytes : Nat) (n : Int) : Option Nat := if 0 ≤ n ∧ n * bytes ≤ 140737488355328 then some n.toNat else none
def bidx (s : ByteArray) (i : Int) : Option UInt8 := if i < 0 then none else s[i.toNat]?
def dcut {α : Type} (xs : List α) (lo hi : Nat) : List α := (xs.take hi).drop lo
/-- a copy of 'ys' into the window -/
def cpy {α : Type} (xs : List α) (lo hi : Nat) (ys : List α) : List α := xs.take lo ++ (ys.take (hi - lo) ++ xs.drop (lo + min (hi - lo) ys.length))
/-- a text's bytes -/
def bytesOf (s : ByteArray) : List Int := s.data.toList.map fun c => (c.toNat : Int)
def qdiv (a b : Int) : Option Int := if b = 0 then none else some (a.tdiv b)
def qrem (a b : Int) : Option Int := if b = 0 then none else some (a.tmod b)

section
variable (C : Cod κ Ty) (T : TypeId → Option (TI κ Ty))

def opnd (env : Env κ Ty) (ty : TypeId) : Operand → AV κ Ty
  | .tmp t => look env t
  | .const v => match v with
    | .slice none 0 0 => (match T ty with
      | some ti => (match ti.shp with | .slice _ t => .nil t | _ => .undef)
      | none => .undef)
    | .agg _ => .undef
    | .tuple _ => .undef
    | v => .lit v
  | .func f => .lit (.func (.func f) #[] #[])
  | .global _ => .undef

def cellsOf : AV κ Ty → Option (List (AV κ Ty))
  | .agg cs => some cs
  | .tup _ => none
  | .undef => none
  | .void => none
  | v => some [v]

def splice {α : Type} : List α → Nat → List α → List α
  | cs, _, [] => cs
  | [], _, _ => []
  | c :: cs, 0, n :: ns => n :: splice cs 0 ns
  | c :: cs, o + 1, ns => c :: splice cs o ns

/-- what lies at these cells, read as a value of this type -/
def loadC (ti : TI κ Ty) (cs : List (AV κ Ty)) (off : Nat) : Option (AV κ Ty) :=
  match ti.agg with
  | true => match Nat.ble (off + ti.size) cs.length with | true => some (.agg ((cs.drop off).take ti.size)) | false => none
  | false => cs[off]?

def slOf (objs : Objs κ Ty) (id : Nat) : Option ((t : κ) × List (Ty t)) :=
  match objs[id]? with | some (.sl t xs) => some ⟨t, xs⟩ | _ => none
def isMp (objs : Objs κ Ty) (id : Nat) : Bool :=
  match objs[id]? with | some (.mp ..) => true | _ => false
def boxOf (objs : Objs κ Ty) (id : Nat) : Option (List (AV κ Ty)) :=
  match objs[id]? with | some (.box cs) => some cs | _ => none

/-- the contents that a slice value shows -/
def rowsOf (objs : Objs κ Ty) : AV κ Ty → Option ((t : κ) × List (Ty t))
  | .nil t => some ⟨t, []⟩
  | .inl _ t xs => some ⟨t, xs⟩
  | .own id => slOf objs id
  | .sub id lo hi => match slOf objs id with | some ⟨t, xs⟩ => some ⟨t, dcut xs lo hi⟩ | none => none
  | _ => none

/-- cells that go into a row: what was one's own goes with them, and may not be touched any more -/
def deepen (b0 : Bool) (objs : Objs κ Ty) : List (AV κ Ty) → (List (AV κ Ty) → Objs κ Ty → Option R) → Option R
  | [], K => K [] objs
  | c :: cs, K => match c with
    | .own id => (match slOf objs id with
      | some ⟨t, xs⟩ => (match b0 || !(C.bor t) with
        | true => deepen b0 (objs.set id .dead) cs fun cs' o => K (.inl b0 t xs :: cs') o
        | false => none)
      | none => none)
    | .nil t => (match b0 || !(C.bor t) with
      | true => deepen b0 objs cs fun cs' o => K (.inl b0 t [] :: cs') o
      | false => none)
    | .lit v => deepen b0 objs cs fun cs' o => K (.lit v :: cs') o
    | .inl b t xs => deepen b0 objs cs fun cs' o => K (.inl b t xs :: cs') o
    | _ => none

abbrev bitsXor (k : IntKind) (a b : Int) : Int := k.wrap (BitVec.ofInt k.bits a ^^^ BitVec.ofInt k.bits b).toNat
/-- bytes, as a string -/
def bstr (bs : List Int) : ByteArray := bs.foldl (fun r n => r.push (UInt8.ofNat n.toNat)) ByteArray.empty
def ibin (op : BinOp) (k : IntKind) (a b : Int) (K : Value → Option R) : Option R :=
  match op with
  | .add => K (.int k (k.wrap (a + b)))
  | .sub => K (.int k (k.wrap (a - b)))
  | .mul => K (.int k (k.wrap (a * b)))
  | .quo => (qdiv a b).bind fun q => K (.int k (k.wrap q))
  | .rem => (qrem a b).bind fun q => K (.int k q)
  | .and => K (.int k (k.wrap (BitVec.ofInt k.bits a &&& BitVec.ofInt k.bits b).toNat))
  | .or => K (.int k (k.wrap (BitVec.ofInt k.bits a ||| BitVec.ofInt k.bits b).toNat))
  | .xor => K (.int k (k.wrap (BitVec.ofInt k.bits a ^^^ BitVec.ofInt k.bits b).toNat))
  | .eql => K (.bool (a == b))
  | .neq => K (.bool (a != b))
  | .lss => K (.bool (decide (a < b)))
  | .leq => K (.bool (decide (a ≤ b)))
  | .gtr => K (.bool (decide (a > b)))
  | .geq => K (.bool (decide (a ≥ b)))
  | _ => none

def shift (op : BinOp) (k : IntKind) (a n : Int) : Option Int :=
  match op with
  | .shl => if n < 0 then none else some (k.wrap (a * 2 ^ (min n.toNat k.bits)))
  | .shr => if n < 0 then none else some (a.fdiv (2 ^ (min n.toNat k.bits)))
  | _ => none

def sbin (op : BinOp) (x y : ByteArray) (K : Value → Option R) : Option R :=
  match op with
  | .add => (sadd x y).bind fun z => K (.string z)
  | .eql => K (.bool (x.toList == y.toList))
  | .neq => K (.bool (!(x.toList == y.toList)))
  | _ => none

def vbin (ti : TI κ Ty) (op : BinOp) (x y : AV κ Ty) (K : AV κ Ty → Option R) : Option R :=
  match op with
  | .shl => (match x, y with | .lit (.int k a), .lit (.int _ n) => (shift .shl k a n).bind fun m => K (.lit (.int k m)) | _, _ => none)
  | .shr => (match x, y with | .lit (.int k a), .lit (.int _ n) => (shift .shr k a n).bind fun m => K (.lit (.int k m)) | _, _ => none)
  | op => match x, y with
    | .lit (.int k a), .lit (.int k' b) => (match decide (k = k') with | true => ibin op k a b fun v => K (.lit v) | false => none)
    | .lit (.string a), .lit (.string b) => sbin op a b fun v => K (.lit v)
    | .lit (.bool a), .lit (.bool b) => (match ti.shp with
      | .bool => (match op with
        | .eql => K (.lit (.bool (a == b)))
        | .neq => K (.lit (.bool (!(a == b))))
        | _ => none)
      | _ => none)
    | _, _ => none

/-- two values of a type, compared -/
def aeqFs (E : TypeId → AV κ Ty → AV κ Ty → Option Bool) : List (Nat × TypeId) → List (AV κ Ty) → List (AV κ Ty) → Option Bool
  | [], _, _ => some true
  | (o, t) :: fs, xs, ys => match T t with
    | some ti => match loadC ti xs o, loadC ti ys o with
      | some a, some b => match E t a b with
        | some r => (match aeqFs E fs xs ys with | some r' => some (r && r') | none => none)
        | none => none
      | _, _ => none
    | none => none
def aeq : Nat → TypeId → AV κ Ty → AV κ Ty → Option Bool
  | 0, _, _, _ => none
  | d + 1, t, x, y => match T t with
    | none => none
    | some ti => match ti.shp with
      | .int _ => (match x, y with | .lit (.int k a), .lit (.int k' b) => (match decide (k = k') with | true => some (a == b) | false => none) | _, _ => none)
      | .bool => (match x, y with | .lit (.bool a), .lit (.bool b) => some (a == b) | _, _ => none)
      | .str => (match x, y with | .lit (.string a), .lit (.string b) => some (a.toList == b.toList) | _, _ => none)
      | .struct fs => (match x, y with | .agg xs, .agg ys => aeqFs T (aeq d) fs xs ys | _, _ => none)
      | _ => none

def lenOf (objs : Objs κ Ty) (shp : Shp κ) (v : AV κ Ty) : Option Int :=
  match shp with
  | .str => (match v with | .lit (.string s) => some s.size | _ => none)
  | .slice _ _ => (match rowsOf objs v with | some ⟨_, xs⟩ => some xs.length | none => none)
  | _ => none

/-- an argument, as its callee's mode has it -/
def prep (objs : Objs κ Ty) (m : Mode) (v : AV κ Ty) : AV κ Ty :=
  match m with
  | .mv => v
  | .pe => v
  | .bo => match rowsOf objs v with
    | some ⟨t, xs⟩ => .inl true t xs
    | none => v
def prepA (objs : Objs κ Ty) (m : Mode) : AV κ Ty → AV κ Ty
  | .agg cs => .agg (cs.map (prep objs m))
  | v => prep objs m v

/-! ### which objects a value speaks of; new numbers -/
def ids1 : AV κ Ty → List Nat
  | .own id => [id]
  | .mapv id => [id]
  | .sub id _ _ => [id]
  | .ref id _ => [id]
  | .eref id _ _ => [id]
  | _ => []
def ids2 : AV κ Ty → List Nat
  | .agg cs => cs.flatMap ids1
  | v => ids1 v
def idsV : AV κ Ty → List Nat
  | .tup vs => vs.flatMap ids2
  | v => ids2 v
def elemN : Nat → List Nat → Bool
  | _, [] => false
  | i, j :: l => match Nat.beq i j with | true => true | false => elemN i l
/-- 'acc', and behind it what of 'l' is not there yet -/
def addN : List Nat → List Nat → List Nat
  | acc, [] => acc
  | acc, i :: l => match elemN i acc with | true => addN acc l | false => addN (acc ++ [i]) l
def idsO : AObj κ Ty → List Nat
  | .box cs => cs.flatMap ids1
  | .mp _ _ _ h => (match h with | some (_, some j) => [j] | _ => [])
  | _ => []
/-- what is reached: two rounds through the variables -/
def reach (objs : Objs κ Ty) (acc : List Nat) : List Nat :=
  let a := addN acc (acc.flatMap fun i => match objs[i]? with | some o => idsO o | none => [])
  addN a (a.flatMap fun i => match objs[i]? with | some o => idsO o | none => [])

def posN : List Nat → Nat → Nat → Option Nat
  | [], _, _ => none
  | j :: l, i, n => match Nat.beq j i with | true => some n | false => posN l i (n + 1)

def ren1 (g : Nat → Option Nat) : AV κ Ty → AV κ Ty
  | .own id => match g id with | some j => .own j | none => .undef
  | .mapv id => match g id with | some j => .mapv j | none => .undef
  | .sub id lo hi => match g id with | some j => .sub j lo hi | none => .undef
  | .ref id off => match g id with | some j => .ref j off | none => .undef
  | .eref id i off => match g id with | some j => .eref j i off | none => .undef
  | .lit v => .lit v
  | .nil t => .nil t
  | .inl b t xs => .inl b t xs
  | .void => .void
  | _ => .undef
def ren2 (g : Nat → Option Nat) : AV κ Ty → AV κ Ty
  | .agg cs => .agg (cs.map (ren1 g))
  | v => ren1 g v
def renV (g : Nat → Option Nat) : AV κ Ty → AV κ Ty
  | .tup vs => .tup (vs.map (ren2 g))
  | v => ren2 g v
def renO (g : Nat → Option Nat) : AObj κ Ty → AObj κ Ty
  | .box cs => .box (cs.map (ren1 g))
  | .mp k v es h => .mp k v es (match h with
    | some (i, some j) => some (i, g j)
    | h => h)
  | o => o

/-- nil slices become objects of one's own: one form for all ways -/
def solid1 (objs : Objs κ Ty) : AV κ Ty → AV κ Ty × Objs κ Ty
  | .nil t => (.own objs.length, objs ++ [.sl t []])
  | v => (v, objs)
def solidL (objs : Objs κ Ty) : List (AV κ Ty) → List (AV κ Ty) × Objs κ Ty
  | [] => ([], objs)
  | v :: l => match solid1 objs v with | (v', o) => match solidL o l with | (l', o') => (v' :: l', o')
def solid2 (objs : Objs κ Ty) : AV κ Ty → AV κ Ty × Objs κ Ty
  | .agg cs => match solidL objs cs with | (cs', o) => (.agg cs', o)
  | v => solid1 objs v
def solidM (objs : Objs κ Ty) : List (AV κ Ty) → List (AV κ Ty) × Objs κ Ty
  | [] => ([], objs)
  | v :: l => match solid2 objs v with | (v', o) => match solidM o l with | (l', o') => (v' :: l', o')
def solidB (n : Nat) (objs : Objs κ Ty) : Objs κ Ty :=
  match n with
  | 0 => objs
  | n + 1 => let o := solidB n objs
    match o[n]? with | some (.box cs) => (match solidL o cs with | (cs', o') => o'.set n (.box cs')) | _ => o

def cntN (i : Nat) : List Nat → Nat
  | [] => 0
  | j :: l => match Nat.beq i j with | true => cntN i l + 1 | false => cntN i l
/-- a window that is all that is left of its slice -/
def trim1 (m : Nat) (l : List Nat) (objs : Objs κ Ty) : AV κ Ty → AV κ Ty × Objs κ Ty
  | .sub id lo hi => (match Nat.ble m id && Nat.beq (cntN id l) 1 with
    | true => (match slOf objs id with | some ⟨t, xs⟩ => (.own objs.length, objs.set id .dead ++ [.sl t (dcut xs lo hi)]) | none => (.sub id lo hi, objs))
    | false => (.sub id lo hi, objs))
  | v => (v, objs)
def trimL (m : Nat) (l : List Nat) (objs : Objs κ Ty) : List (AV κ Ty) → List (AV κ Ty) × Objs κ Ty
  | [] => ([], objs)
  | v :: vs => match trim1 m l objs v with | (v', o) => match trimL m l o vs with | (vs', o') => (v' :: vs', o')
def trim2 (m : Nat) (l : List Nat) (objs : Objs κ Ty) : AV κ Ty → AV κ Ty × Objs κ Ty
  | .agg cs => match trimL m l objs cs with | (cs', o) => (.agg cs', o)
  | v => trim1 m l objs v
def trimM (m : Nat) (l : List Nat) (objs : Objs κ Ty) : List (AV κ Ty) → List (AV κ Ty) × Objs κ Ty
  | [] => ([], objs)
  | v :: vs => match trim2 m l objs v with | (v', o) => match trimM m l o vs with | (vs', o') => (v' :: vs', o')

/-- a slice that was taken out of a map goes back -/
def settle (C : Cod κ Ty) (id : Nat) (objs : Objs κ Ty) : Objs κ Ty :=
  match objs[id]? with
  | some (.mp k v es (some (i, some j))) => (match slOf objs j with
    | some ⟨s, xs⟩ => (match Nat.beq id j with
      | true => objs
      | false => (match C.dec v [.inl (C.bor v) s xs] with
        | some y => (objs.set j .dead).set id (.mp k v (es.modify i fun e => (e.1, y)) none)
        | none => objs))
    | none => objs)
  | _ => objs
def settleB (C : Cod κ Ty) : Nat → Objs κ Ty → Objs κ Ty
  | 0, o => o
  | n + 1, o => settleB C n (settle C n o)

/-- what is not reached is given up -/
def prune (l : List Nat) : Nat → Objs κ Ty → Objs κ Ty
  | 0, o => o
  | n + 1, o => match elemN n l with | true => prune l n o | false => prune l n (o.set n .dead)

/-- a state made small: these values, the first m objects, and what they reach, numbered anew -/
def compact (m : Nat) (vs : List (AV κ Ty)) (objs : Objs κ Ty) : List (AV κ Ty) × Objs κ Ty :=
  match settleB C objs.length objs with
  | objs => match prune (reach objs (addN (List.range m) (vs.flatMap idsV))) objs.length objs with
  | objs => match trimM m (vs.flatMap idsV ++ objs.flatMap idsO) objs vs with
  | (vs, objs) => match solidM objs vs with
  | (vs, objs) =>
    let objs := solidB objs.length objs
    let l := reach objs (addN (List.range m) (vs.flatMap idsV))
    (vs.map (renV (posN l · 0)), l.map fun i => match objs[i]? with | some o => renO (posN l · 0) o | none => .dead)

/-! ### one operation -/
def aload (objs : Objs κ Ty) (ti : TI κ Ty) (a : AV κ Ty) (K : AV κ Ty → Option R) : Option R :=
  match a with
  | .ref id off => (match boxOf objs id with | some cs => (match loadC ti cs off with | some v => K v | none => none) | none => none)
  | .eref id i off => (match slOf objs id with | some ⟨s, xs⟩ => (xs[i]?).bind fun x => (match loadC ti (C.enc s x) off with | some v => K v | none => none) | none => none)
  | .cadr _ cs off => (match loadC ti cs off with | some v => K v | none => none)
  | _ => none

def astore (objs : Objs κ Ty) (ti : TI κ Ty) (a x : AV κ Ty) (K : Objs κ Ty → Option R) : Option R :=
  match cellsOf x with
  | none => none
  | some ns => match Nat.beq ns.length ti.size with
    | false => none
    | true => match a with
      | .ref id off => (match boxOf objs id with
        | some cs => (match Nat.ble (off + ns.length) cs.length with | true => K (objs.set id (.box (splice cs off ns))) | false => none)
        | none => none)
      | .eref id i off => (match slOf objs id with
        | some ⟨s, xs⟩ => (xs[i]?).bind fun z => deepen C (C.bor s) objs ns fun ns objs' => match slOf objs' id with
          | some _ => (match Nat.ble (off + ns.length) (C.enc s z).length with
            | true => (match C.dec s (splice (C.enc s z) off ns) with | some y => K (objs'.set id (.sl s (xs.set i y))) | none => none)
            | false => none)
          | none => none
        | none => none)
      | _ => none

/-- an address that may be followed -/
def isAddr (objs : Objs κ Ty) : AV κ Ty → Bool
  | .ref id _ => (match boxOf objs id with | some _ => true | none => false)
  | .eref id _ _ => (match slOf objs id with | some _ => true | none => false)
  | .cadr .. => true
  | _ => false
def afield (fs : List (Nat × TypeId)) (f : Nat) (x : AV κ Ty) : Option (AV κ Ty) :=
  match fs[f]? with
  | none => none
  | some (d, _) => match x with
    | .ref id off => some (.ref id (off + d))
    | .eref id i off => some (.eref id i (off + d))
    | .cadr b cs off => some (.cadr b cs (off + d))
    | _ => none

def aindexAddr (objs : Objs κ Ty) (shp : Shp κ) (x i : AV κ Ty) (K : AV κ Ty → Option R) : Option R :=
  match i with
  | .lit (.int _ i) => (match shp with
    | .slice _ s => (match x with
      | .own id => (match slOf objs id with | some ⟨t, xs⟩ => (match C.same s t with | true => (idx xs i).bind fun _ => K (.eref id i.toNat 0) | false => none) | none => none)
      | .inl b t xs => (match C.same s t with | true => (idx xs i).bind fun x => K (.cadr b (C.enc t x) 0) | false => none)
      | .sub id lo hi => (match slOf objs id with | some ⟨t, xs⟩ => (match C.same s t with | true => (idx (dcut xs lo hi) i).bind fun _ => K (.eref id (lo + i.toNat) 0) | false => none) | none => none)
      | _ => none)
    | .arr n _ s => (match x with
      | .eref id 0 0 => (match slOf objs id with | some ⟨t, xs⟩ => (match C.same s t with | true => (if xs.length = n then idx xs i else none).bind fun _ => K (.eref id i.toNat 0) | false => none) | none => none)
      | _ => none)
    | _ => none)
  | _ => none

/-- the parts of a struct laid into its zero -/
def fillC (fs : List (Nat × TypeId)) : List (AV κ Ty) → List (Nat × AV κ Ty) → Option (List (AV κ Ty))
  | cs, [] => some cs
  | cs, (i, v) :: ps => match fs[i]? with
    | none => none
    | some (d, t) => match cellsOf v, T t with
      | some ns, some ti => (match Nat.beq ns.length ti.size with
        | true => (match Nat.ble (d + ns.length) cs.length with | true => fillC fs (splice cs d ns) ps | false => none)
        | false => none)
      | _, _ => none

/-! ### maps (their keys are structs of numbers and texts) -/
/-- what an entry of a map shows: a slice of its own is taken out -/
def mgot (objs : Objs κ Ty) (id : Nat) (k v : κ) (es : List (Ty k × Ty v)) (p : Nat × Ty v) (K : AV κ Ty → Objs κ Ty → Option R) : Option R :=
  match C.enc v p.2 with
  | [.lit u] => K (.lit u) objs
  | [.inl _ s xs] => K (.own objs.length) (objs.set id (.mp k v es (some (p.1, some objs.length))) ++ [.sl s xs])
  | _ => none
/-- a map without a hole, and a key -/
def amap (objs : Objs κ Ty) (shp : Shp κ) (m key : AV κ Ty) (K : Nat → (k v : κ) → List (Ty k × Ty v) → Ty k → Option R) : Option R :=
  match shp, m with
  | .map _ _ k v, .mapv id => (match objs[id]? with
    | some (.mp k' v' es none) => (match C.same k k' && C.same v v' with
      | true => (match key with
        | .agg ks => (match C.dec k' ks with
          | some x => K id k' v' es x
          | none => none)
        | _ => none)
      | false => none)
    | _ => none)
  | _, _ => none
def mapId : AV κ Ty → Nat | .mapv id => id | _ => 0
/-- m[k] of numbers and texts -/
def alookupL (objs : Objs κ Ty) (shp : Shp κ) (m key : AV κ Ty) (z : Value) (K : AV κ Ty → Option R) : Option R :=
  amap C objs shp m key fun _ k v es x => optK (mfind (C.keq k x) es 0) (K (.lit z)) fun p => match C.enc v p.2 with
    | [.lit u] => K (.lit u)
    | _ => none
/-- m[k] of slices -/
def alookupS (objs : Objs κ Ty) (shp : Shp κ) (m key : AV κ Ty) (s : κ) (K : AV κ Ty → Objs κ Ty → Option R) : Option R :=
  match settle C (mapId m) objs with
  | objs => amap C objs shp m key fun id k v es x => optK (mfind (C.keq k x) es 0) (K (.nil s) objs) fun p => mgot C objs id k v es p K
def amapEntry (objs : Objs κ Ty) (shp : Shp κ) (m key : AV κ Ty) (te : TI κ Ty) (K : AV κ Ty → Objs κ Ty → Option R) : Option R :=
  match settle C (mapId m) objs with
  | objs => amap C objs shp m key fun id k v es x => optK (mfind (C.keq k x) es 0)
    (match te.zero, C.dec v (te.zero.map (unnil (C.bor v))) with
      | [z], some y => K (.tup [z, .lit (.int .i64 es.length)]) (objs.set id (.mp k v (es ++ [(x, y)]) none))
      | _, _ => none)
    fun p => mgot C objs id k v es p fun r objs => K (.tup [r, .lit (.int .i64 (p.1 : Nat))]) objs
/-- what goes into a map: a slice goes whole -/
def mputs (objs : Objs κ Ty) (v : κ) (x : AV κ Ty) (K : Ty v → Objs κ Ty → Option R) : Option R :=
  match x with
  | .lit u => (match C.dec v [.lit u] with | some y => K y objs | none => none)
  | .own j => (match slOf objs j with
    | some ⟨s, xs⟩ => (match C.dec v [.inl (C.bor v) s xs] with | some y => K y (objs.set j .dead) | none => none)
    | none => none)
  | _ => none
def aentryStore (objs : Objs κ Ty) (shp : Shp κ) (m stamp x : AV κ Ty) (K : Objs κ Ty → Option R) : Option R :=
  match shp, m, stamp with
  | .map _ _ k v, .mapv id, .lit (.int _ n) => (match objs[id]? with
    | some (.mp k' v' es h) => (match C.same k k' && C.same v v' with
      | true => (match h with
        | none => (idx es n).bind fun e => mputs C objs v' x fun y objs => K (objs.set id (.mp k' v' (es.set n.toNat (e.1, y)) none))
        | some (i, _) => (match Nat.beq i n.toNat with
          | true => (idx es n).bind fun e => mputs C objs v' x fun y objs => K (objs.set id (.mp k' v' (es.set n.toNat (e.1, y)) none))
          | false => none))
      | false => none)
    | _ => none)
  | _, _, _ => none

/-- the elements of a slice literal (each index once, in order, none left out) -/
def rowsC (C : Cod κ Ty) (t : κ) (objs : Objs κ Ty) (n : Nat) : List (Nat × AV κ Ty) → (List (Ty t) → Objs κ Ty → Option R) → Option R
  | [], K => K [] objs
  | (i, v) :: ps, K => match Nat.beq i n with
    | false => none
    | true => match cellsOf v with
      | none => none
      | some ns => match Nat.beq ns.length (C.sz t) with
        | false => none
        | true => deepen C (C.bor t) objs ns fun ns objs => match C.dec t ns with
          | some y => rowsC C t objs (n + 1) ps fun ys o => K (y :: ys) o
          | none => none

/-- the elements of a slice literal of constants of one cell -/
def rowsK (C : Cod κ Ty) (t : κ) : Nat → List (Nat × AV κ Ty) → Option (List (Ty t))
  | _, [] => some []
  | n, (i, v) :: ps => match Nat.beq i n && Nat.beq 1 (C.sz t) with
    | false => none
    | true => match v with
      | .lit u => (match C.dec t [.lit u] with
        | some y => (match rowsK C t (n + 1) ps with | some ys => some (y :: ys) | none => none)
        | none => none)
      | _ => none
/-- constants all -/
def constV : Value → Bool
  | .int .. => true
  | .string .. => true
  | _ => false
def constPs : List (Nat × Operand) → Bool
  | [] => true
  | (_, x) :: ps => match x with
    | .const v => (match constV v with | true => constPs ps | false => false)
    | _ => false

def aslice (objs : Objs κ Ty) (shp : Shp κ) (x : AV κ Ty) (lo hi : Option Int) (K : AV κ Ty → Option R) : Option R :=
  match shp with
  | .str => (match x with
    | .lit (.string s) => (wnd s.size (lo.getD 0) (hi.getD s.size)).bind fun p => K (.lit (.string (s.extract p.1 p.2)))
    | _ => none)
  | .slice _ s => (match x with
    | .own id => (match slOf objs id with | some ⟨t, xs⟩ => (match C.same s t with | true => (wnd xs.length (lo.getD 0) (hi.getD xs.length)).bind fun p => K (.sub id p.1 p.2) | false => none) | none => none)
    | .inl b t xs => (match C.same s t with | true => (wnd xs.length (lo.getD 0) (hi.getD xs.length)).bind fun p => K (.inl b t (dcut xs p.1 p.2)) | false => none)
    | .nil t => (wnd 0 (lo.getD 0) (hi.getD 0)).bind fun _ => K (.nil t)
    | _ => none)
  | .arr n _ s => (match x with
    | .eref id 0 0 => (match slOf objs id with | some ⟨t, xs⟩ => (match C.same s t with | true => (if xs.length = n then wnd n (lo.getD 0) (hi.getD n) else none).bind fun p => K (.sub id p.1 p.2) | false => none) | none => none)
    | _ => none)
  | _ => none

/-- xs[:h:m], m no other than h -/
def aslice3 (objs : Objs κ Ty) (shp : Shp κ) (x : AV κ Ty) (h m : Int) (K : AV κ Ty → Option R) : Option R :=
  match shp with
  | .slice _ s => (match x with
    | .own id => (match slOf objs id with
      | some ⟨t, xs⟩ => (match C.same s t with | true => (if h = m then wnd xs.length 0 h else none).bind fun p => K (.sub id p.1 p.2) | false => none)
      | none => none)
    | _ => none)
  | _ => none

def acopy (objs : Objs κ Ty) (s1 : κ) (dst src : AV κ Ty) (K : AV κ Ty → Objs κ Ty → Option R) : Option R :=
  match rowsOf objs src with
  | none => none
  | some ⟨s, ys⟩ => match dst with
    | .own id => (match slOf objs id with
      | some ⟨t, xs⟩ => (match C.same s1 t with
        | true => (C.cast s t ys).bind fun ys => K (.lit (.int .i64 (min ys.length xs.length : Nat))) (objs.set id (.sl t (cpy xs 0 xs.length ys)))
        | false => none)
      | none => none)
    | .sub id lo hi => (match slOf objs id with
      | some ⟨t, xs⟩ => (match C.same s1 t with
        | true => (C.cast s t ys).bind fun ys => K (.lit (.int .i64 (min ys.length (hi - lo) : Nat))) (objs.set id (.sl t (cpy xs lo hi ys)))
        | false => none)
      | none => none)
    | _ => none

def aappend (objs : Objs κ Ty) (s1 : κ) (base src : AV κ Ty) (K : AV κ Ty → Objs κ Ty → Option R) : Option R :=
  match rowsOf objs src with
  | none => none
  | some ⟨s, ys⟩ => (C.cast s s1 ys).bind fun ys => match base with
    | .nil _ => (app (C.by' s1) [] ys).bind fun zs => K (.own objs.length) (objs ++ [.sl s1 zs])
    | .own id => (match slOf objs id with
      | some ⟨t, xs⟩ => (C.cast t s1 xs).bind fun xs => (app (C.by' s1) xs ys).bind fun zs => K (.own objs.length) ((objs.set id .dead) ++ [.sl s1 zs])
      | none => none)
    | .sub id lo hi => (match slOf objs id with
      | some ⟨t, xs⟩ => (C.cast t s1 xs).bind fun xs => (app (C.by' s1) (dcut xs lo hi) ys).bind fun zs => K (.own objs.length) ((objs.set id .dead) ++ [.sl s1 zs])
      | none => none)
    | _ => none

def disj : List Nat → List Nat → Bool
  | [], _ => true
  | i :: l, m => match elemN i m with | true => false | false => disj l m

/-- a callee's number, as the caller has it -/
def backN (n : Nat) (l : List Nat) (j : Nat) : Option Nat := match l[j]? with | some i => some i | none => some (n + (j - l.length))
def backO (g : Nat → Option Nat) (objs : Objs κ Ty) : List Nat → Objs κ Ty → Objs κ Ty
  | i :: l, o :: os => backO g (objs.set i (renO g o)) l os
  | _, _ => objs
/-- the lent objects' numbers, and the call; what comes back gets numbers of the caller's -/
def acall (objs : Objs κ Ty) (S : Summ κ Ty) (bs : List Nat) (args : List (AV κ Ty)) (K : AV κ Ty → Objs κ Ty → Option R) : Option R :=
  let l := reach objs (addN [] (args.flatMap idsV))
  match disj bs l with
  | false => none
  | true => (S.run (args.map (renV (posN l · 0))) (l.map fun i => match objs[i]? with | some o => renO (posN l · 0) o | none => .dead)).bind fun r =>
    match S.ret r with
    | (v, o') => K (renV (backN objs.length l) v) (backO (backN objs.length l) objs l o' ++ (o'.drop l.length).map (renO (backN objs.length l)))

def opnds (env : Env κ Ty) : List Operand → List TypeId → List (AV κ Ty)
  | x :: xs, t :: ts => opnd T env t x :: opnds env xs ts
  | _, _ => []
def prepL (objs : Objs κ Ty) : List (AV κ Ty) → List Mode → List (AV κ Ty)
  | x :: xs, m :: ms => prepA objs m x :: prepL objs xs ms
  | x :: xs, [] => prepA objs .bo x :: prepL objs xs []
  | [], _ => []
def bor1 : AV κ Ty → List Nat
  | .own id => [id]
  | .sub id _ _ => [id]
  | _ => []
def borA (m : Mode) (v : AV κ Ty) : List Nat :=
  match m with
  | .bo => (match v with | .agg cs => cs.flatMap bor1 | v => bor1 v)
  | _ => []
def borL : List (AV κ Ty) → List Mode → List Nat
  | x :: xs, m :: ms => borA m x ++ borL xs ms
  | x :: xs, [] => borA .bo x ++ borL xs []
  | [], _ => []
def partsOf (env : Env κ Ty) (ty : Nat → TypeId) : List (Nat × Operand) → List (Nat × AV κ Ty)
  | [] => []
  | (i, x) :: ps => (i, opnd T env (ty i) x) :: partsOf env ty ps

def aop (Γ : FuncId → Option (Summ κ Ty)) (o : Oper) (env : Env κ Ty) (objs : Objs κ Ty) (K : AV κ Ty → Objs κ Ty → Option R) : Option R :=
  match o.op with
  | .move x => K (opnd T env o.type x) objs
  | .assign x => K (opnd T env o.type x) objs
  | .pick c a b => (match opnd T env 0 c with
    | .lit (.bool t) => ifB t fun t => K (match t with | true => opnd T env o.type a | false => opnd T env o.type b) objs
    | _ => none)
  | .alloc t => (match T t with
    | some ti => (match ti.shp with
      | .arr n e s => (match T e, Nat.ble 1 n with
        | some te, true => (match C.dec s te.zero with
          | some z => K (.eref objs.length 0 0) (objs ++ [.sl s (List.replicate n z)])
          | none => none)
        | _, _ => none)
      | _ => K (.ref objs.length 0) (objs ++ [.box ti.zero]))
    | none => none)
  | .box t x => (match cellsOf (opnd T env t x) with
    | some cs => K (.ref objs.length 0) (objs ++ [.box cs])
    | none => none)
  | .build t ps => (match T t with
    | some ti => (match ti.shp with
      | .struct fs => (match fillC T fs ti.zero (partsOf T env (fun i => match fs[i]? with | some p => p.2 | none => 0) ps.toList) with
        | some cs => K (.agg cs) objs
        | none => none)
      | _ => none)
    | none => none)
  | .buildSlice t n ps => (match T t with
    | some ti => (match ti.shp with
      | .slice e s => (match Nat.beq ps.toList.length n && Nat.ble (n * C.sz s) 16777216 with
        | true => match ps.toList with
          | [] => K (.nil s) objs
          | _ => (match constPs ps.toList with
            | true => (match rowsK C s 0 (partsOf T env (fun _ => e) ps.toList) with | some ys => K (.inl (C.bor s) s ys) objs | none => none)
            | false => rowsC C s objs 0 (partsOf T env (fun _ => e) ps.toList) fun ys objs => K (.own objs.length) (objs ++ [.sl s ys]))
        | false => none)
      | _ => none)
    | none => none)
  | .load t a => (match T t with
    | some ti => aload C objs ti (opnd T env 0 a) fun v => K v objs
    | none => none)
  | .store t a x => (match T t with
    | some ti => astore C objs ti (opnd T env 0 a) (opnd T env t x) fun objs => K .undef objs
    | none => none)
  | .nilCheck x => (match isAddr objs (opnd T env o.type x) with | true => K (opnd T env o.type x) objs | false => none)
  | .binOp op t x y _ => (match T t with
    | some ti => (match ti.agg with
      | true => (match aeq T 8 t (opnd T env t x) (opnd T env t y) with
        | some b => (match op with
          | .eql => K (.lit (.bool b)) objs
          | .neq => K (.lit (.bool (!b))) objs
          | _ => none)
        | none => none)
      | false => vbin ti op (opnd T env t x) (opnd T env t y) fun v => K v objs)
    | none => none)
  | .unOp op _ x => (match op with
    | .not => (match opnd T env o.type x with | .lit (.bool b) => K (.lit (.bool (!b))) objs | _ => none)
    | _ => none)
  | .convert s d x => (match T s, T d with
    | some ti, some td => (match td.shp, opnd T env o.type x with
      | .int k, .lit (.int _ n) => (match ti.shp with | .int _ => K (.lit (.int k (k.wrap n))) objs | _ => none)
      | .str, v => (match ti.shp with
        | .slice e s => (match T e, rowsOf objs v with
          | some te, some ⟨t, xs⟩ => (match te.shp with
            | .int k => (match k with
              | .u8 => (match C.bytes t xs with | some bs => K (.lit (.string (bstr bs))) objs | none => none)
              | _ => none)
            | _ => none)
          | _, _ => none)
        | _ => none)
      | .slice e s', .lit (.string b) => (match ti.shp, T e with
        | .str, some te => (match te.shp with
          | .int k => (match k with
            | .u8 => (match C.ofb s' b with | some ys => K (.own objs.length) (objs ++ [.sl s' ys]) | none => none)
            | _ => none)
          | _ => none)
        | _, _ => none)
      | _, _ => none)
    | _, _ => none)
  | .makeSlice t n c => (match T t with
    | some ti => (match ti.shp with
      | .slice e s => (match T e with
        | some te => (match opnd T env 0 n, opnd T env 0 c with
          | .lit (.int _ a), .lit (.int _ b) => (if a = b then room (C.by' s) a else none).bind fun m => (match C.dec s (te.zero.map (unnil (C.bor s))) with
            | some z => (match te.zero.all (fun v => match v with | .nil t => C.bor s || !(C.bor t) | _ => true) with
              | true => K (.own objs.length) (objs ++ [.sl s (List.replicate m z)])
              | false => none)
            | none => none)
          | _, _ => none)
        | none => none)
      | _ => none)
    | none => none)
  | .makeMap t r => (match r with
    | none => (match T t with
      | some ti => (match ti.shp with
        | .map _ _ k v => K (.mapv objs.length) (objs ++ [.mp k v [] none])
        | _ => none)
      | none => none)
    | some _ => none)
  | .lookup t m x ok => (match ok with
    | true => none
    | false => (match T t with
      | some ti => (match ti.shp with
        | .map kt et _ _ => (match T et with
          | some te => (match te.zero with
            | [.lit z] => alookupL C objs ti.shp (opnd T env 0 m) (opnd T env kt x) z fun v => K v objs
            | [.nil s] => alookupS C objs ti.shp (opnd T env 0 m) (opnd T env kt x) s K
            | _ => none)
          | none => none)
        | _ => none)
      | none => none))
  | .mapEntry t m x => (match T t with
    | some ti => (match ti.shp with
      | .map kt et _ _ => (match T et with
        | some te => amapEntry C objs ti.shp (opnd T env 0 m) (opnd T env kt x) te K
        | none => none)
      | _ => none)
    | none => none)
  | .entryStore t m n x => (match T t with
    | some ti => aentryStore C objs ti.shp (opnd T env 0 m) (opnd T env 0 n) (opnd T env 0 x) fun objs => K .undef objs
    | none => none)
  | .slice t x lo hi mx => (match T t with
    | some ti => (match mx, lo, hi with
      | none, lo, hi => (match (match lo with | none => some none | some l => (match opnd T env 0 l with | .lit (.int _ n) => some (some n) | _ => none)),
            (match hi with | none => some none | some h => (match opnd T env 0 h with | .lit (.int _ n) => some (some n) | _ => none)) with
        | some lo, some hi => aslice C objs ti.shp (opnd T env t x) lo hi fun v => K v objs
        | _, _ => none)
      | some m, none, some h => (match opnd T env 0 m, opnd T env 0 h with
        | .lit (.int _ m), .lit (.int _ h) => aslice3 C objs ti.shp (opnd T env t x) h m fun v => K v objs
        | _, _ => none)
      | _, _, _ => none)
    | none => none)
  | .fieldAddr s x f => (match T s with
    | some ti => (match ti.shp with
      | .struct fs => (match isAddr objs (opnd T env 0 x), afield fs f (opnd T env 0 x) with | true, some v => K v objs | _, _ => none)
      | _ => none)
    | none => none)
  | .field s x f => (match T s, opnd T env s x with
    | some ti, .agg cs => (match ti.shp with
      | .struct fs => (match fs[f]? with
        | some (d, t) => (match T t with | some tf => (match loadC tf cs d with | some v => K v objs | none => none) | none => none)
        | none => none)
      | _ => none)
    | _, _ => none)
  | .indexAddr t x i => (match T t with
    | some ti => aindexAddr C objs ti.shp (opnd T env t x) (opnd T env 0 i) fun v => K v objs
    | none => none)
  | .index t x i => (match T t with
    | some ti => (match ti.shp with
      | .str => (match opnd T env t x, opnd T env 0 i with
        | .lit (.string s), .lit (.int _ i) => (bidx s i).bind fun c => K (.lit (.int .u8 c.toNat)) objs
        | _, _ => none)
      | _ => none)
    | none => none)
  | .extract t i => (match opnd T env 0 t with
    | .tup vs => (match vs[i]? with | some v => K v objs | none => none)
    | _ => none)
  | .call c => (match c.callee with
    | .builtin b => (match b with
      | .len => (match c.args.toList, c.argTypes.toList with
        | [x], [t] => (match T t with
          | some ti => (match lenOf objs ti.shp (opnd T env t x) with | some n => K (.lit (.int .i64 n)) objs | none => none)
          | none => none)
        | _, _ => none)
      | .append => (match c.args.toList, c.argTypes.toList with
        | [x, y], [t1, t2] => (match T t1, T t2 with
          | some i1, some i2 => (match i1.shp, i2.shp with
            | .slice _ s1, .slice _ _ => aappend C objs s1 (opnd T env t1 x) (opnd T env t2 y) K
            | _, _ => none)
          | _, _ => none)
        | _, _ => none)
      | .copy => (match c.args.toList, c.argTypes.toList with
        | [x, y], [t1, t2] => (match T t1 with
          | some i1 => (match i1.shp with
            | .slice _ s1 => acopy C objs s1 (opnd T env t1 x) (opnd T env t2 y) K
            | _ => none)
          | none => none)
        | _, _ => none)
      | _ => none)
    | .value (.func f) => (match Nat.beq c.args.toList.length c.argTypes.toList.length, Γ f with
      | true, some S => acall objs S (borL (opnds T env c.args.toList c.argTypes.toList) S.modes) (prepL objs (opnds T env c.args.toList c.argTypes.toList) S.modes) K
      | _, _ => none)
    | _ => none)
  | _ => none

inductive It where
  | code (c : Code)
  | inBlock (id : Nat)
  | inLoop (c : Code)

def eqB : Bool → Bool → Bool | true, true => true | false, false => true | _, _ => false

def put (o : Oper) (env : Env κ Ty) (v : AV κ Ty) : Env κ Ty := match o.dst with | some d => (d, v) :: env | none => env

/-- one operation with its guard -/
def astep (Γ : FuncId → Option (Summ κ Ty)) (all : Array Oper) (o : Oper) (env : Env κ Ty) (objs : Objs κ Ty) (K : Env κ Ty → Objs κ Ty → Option R) : Option R :=
  match o.guard with
  | none => aop C T Γ o env objs fun v objs => K (put o env v) objs
  | some (j, want) => match ((all[j]?).bind (·.dst)) with
    | none => none
    | some d => match look env d with
      | .lit (.bool b) => ifB b fun b' => (match eqB b' want with
        | true => aop C T Γ o ((d, .lit (.bool b')) :: env) objs fun v objs => K (put o ((d, .lit (.bool b')) :: env) v) objs
        | false => K (put o ((d, .lit (.bool b')) :: env) .void) objs)
      | .void => K (put o env .void) objs
      | _ => none

def aops (Γ : FuncId → Option (Summ κ Ty)) (all : Array Oper) : List Oper → Env κ Ty → Objs κ Ty → (Env κ Ty → Objs κ Ty → Option R) → Option R
  | [], env, objs, K => K env objs
  | o :: os, env, objs, K => astep C T Γ all o env objs fun env objs => aops Γ all os env objs K

def unwind (id : Nat) : List It → Option (List It)
  | [] => none
  | .inBlock j :: l => (match Nat.beq j id with | true => some l | false => unwind id l)
  | .code _ :: l => unwind id l
  | .inLoop _ :: l => unwind id l

def setB (env : Env κ Ty) (x : Operand) (b : Bool) : Env κ Ty := match x with | .tmp d => (d, .lit (.bool b)) :: env | _ => env

def cutAt : List (Nat × List Nat) → Nat → Option (List Nat)
  | [], _ => none
  | (j, l) :: cs, i => match Nat.beq j i with | true => some l | false => cutAt cs i

/-! ### a region that draws its order: what may stand in another order -/
structure Foot where
  loud : Bool
  reads : List Nat
  writes : List Nat
def opIds (env : Env κ Ty) (ty : TypeId) (x : Operand) : List Nat := idsV (opnd T env ty x)
/-- these, and what lies in them -/
def within (objs : Objs κ Ty) (l : List Nat) : List Nat := l ++ l.flatMap fun i => match objs[i]? with | some o => idsO o | none => []
def headIds : List (AV κ Ty) → List Nat
  | [] => []
  | v :: _ => idsV v
def isNil {α : Type} : List α → Bool | [] => true | _ => false
def footOf (Γ : FuncId → Option (Summ κ Ty)) (o : Oper) (env : Env κ Ty) (objs : Objs κ Ty) : Foot :=
  match o.op with
  | .move _ => ⟨false, [], []⟩
  | .assign _ => ⟨false, [], []⟩
  | .pick .. => ⟨false, [], []⟩
  | .nilCheck x => ⟨false, opIds T env o.type x, []⟩
  | .binOp .. => ⟨false, [], []⟩
  | .unOp .. => ⟨false, [], []⟩
  | .convert _ d x => (match T d with
    | some td => (match td.shp with | .slice .. => ⟨true, [], []⟩ | _ => ⟨false, opIds T env o.type x, []⟩)
    | none => ⟨true, [], []⟩)
  | .fieldAddr _ x _ => ⟨false, opIds T env 0 x, []⟩
  | .field .. => ⟨false, [], []⟩
  | .index .. => ⟨false, [], []⟩
  | .extract .. => ⟨false, [], []⟩
  | .build .. => ⟨false, [], []⟩
  | .load _ a => ⟨false, opIds T env 0 a, []⟩
  | .indexAddr t x _ => ⟨false, opIds T env t x, []⟩
  | .slice t x .. => ⟨false, opIds T env t x, []⟩
  | .alloc _ => ⟨true, [], []⟩
  | .box .. => ⟨true, [], []⟩
  | .makeSlice .. => ⟨true, [], []⟩
  | .buildSlice _ _ ps => match ps.toList with | [] => ⟨false, [], []⟩ | _ => match constPs ps.toList with | true => ⟨false, [], []⟩ | false => let l := (partsOf T env (fun _ => 0) ps.toList).flatMap fun p => idsV p.2; ⟨true, l, l⟩
  | .store t a x => let l := opIds T env 0 a ++ opIds T env t x; ⟨true, l, l⟩
  | .makeMap .. => ⟨true, [], []⟩
  | .lookup t m _ _ => (match T t with
    | some ti => (match ti.shp with
      | .map _ et _ _ => (match T et with
        | some te => (match te.zero with
          | [.lit _] => ⟨false, opIds T env 0 m, []⟩
          | _ => let l := within objs (opIds T env 0 m); ⟨true, l, l⟩)
        | none => ⟨true, [], []⟩)
      | _ => ⟨true, [], []⟩)
    | none => ⟨true, [], []⟩)
  | .mapEntry _ m _ => let l := within objs (opIds T env 0 m); ⟨true, l, l⟩
  | .entryStore _ m _ x => let l := opIds T env 0 m ++ opIds T env 0 x; ⟨true, l, l⟩
  | .call c => let as := opnds T env c.args.toList c.argTypes.toList
    match c.callee with
    | .builtin b => (match b with
      | .len => ⟨false, as.flatMap idsV, []⟩
      | .append => ⟨true, as.flatMap idsV, headIds as⟩
      | _ => ⟨true, as.flatMap idsV, as.flatMap idsV⟩)
    | .value x => (match x with
      | .func f => (match Γ f with
        | some S => (match S.quiet && isNil ((prepL objs as S.modes).flatMap idsV) with
          | true => ⟨false, as.flatMap idsV, []⟩
          | false => ⟨true, as.flatMap idsV ++ reach objs (addN [] ((prepL objs as S.modes).flatMap idsV)), reach objs (addN [] ((prepL objs as S.modes).flatMap idsV))⟩)
        | none => ⟨true, [], []⟩)
      | _ => ⟨true, [], []⟩)
    | _ => ⟨true, [], []⟩
  | _ => ⟨true, [], []⟩
def footOk (x y : Foot) : Bool :=
  match x.loud && y.loud with
  | true => false
  | false => disj x.reads y.writes && disj y.reads x.writes
/-- what an operation waits for, directly -/
def depsOf (o : Oper) : List Nat := (o.after.toList.filter fun e => Region.binds .any e).map (·.on)
/-- directly or not -/
def dedup : List Nat → List Nat
  | [] => []
  | i :: l => match elemN i l with | true => dedup l | false => i :: dedup l
def ancs (os : List Oper) : List (List Nat) := os.foldl (fun acc o => acc ++ [dedup ((depsOf o).flatMap fun d => d :: acc.getD d [])]) []
def lessN : List Nat → Nat → Bool
  | [], _ => true
  | i :: l, n => match Nat.blt i n with | true => lessN l n | false => false
/-- told by the order that we look at -/
def isEx : List (Nat × Nat) → Nat → Nat → Bool
  | [], _, _ => false
  | (a, b) :: l, j, i => match Nat.beq j a && Nat.beq i b with | true => true | false => isEx l j i
def checkL (ex : List (Nat × Nat)) (i : Nat) (anc : List Nat) (f : Foot) : List (Nat × Oper × Foot) → Bool
  | [] => true
  | (j, p, g) :: l => match isEx ex j i || (elemN j anc || footOk g f) with | true => checkL ex i anc f l | false => false
/-- it changes nothing, and makes nothing new -/
def tame (f : Foot) : Bool := match f.loud with | true => false | false => isNil f.writes
/-- neither looks at what the other one gives -/
def apartN (all : Array Oper) (x y : Oper) : Bool :=
  match x.dst with
  | some d => (match elemN d (y.looksAt all) with
    | true => false
    | false => (match y.dst with
      | some e => (match Nat.beq d e with | true => false | false => !(elemN e (x.looksAt all)))
      | none => true))
  | none => (match y.dst with
    | some e => !(elemN e (x.looksAt all))
    | none => true)
/-- what does not hang on the values: what stands unordered may be done in either order -/
def apart1 (ex : List (Nat × Nat)) (all : Array Oper) (anc : List (List Nat)) (i : Nat) (o : Oper) : List (Nat × Oper) → Bool
  | [] => true
  | (j, p) :: l => match isEx ex i j || (elemN i (anc.getD j []) || apartN all o p) with | true => apart1 ex all anc i o l | false => false
def apartL (ex : List (Nat × Nat)) (all : Array Oper) (anc : List (List Nat)) : List (Nat × Oper) → Bool
  | [] => true
  | (i, o) :: l => match lessN (depsOf o) i && apart1 ex all anc i o l with | true => apartL ex all anc l | false => false
def footG (Γ : FuncId → Option (Summ κ Ty)) (all : Array Oper) (o : Oper) (env : Env κ Ty) (objs : Objs κ Ty) : Foot :=
  match o.guard with
  | none => footOf T Γ o env objs
  | some (j, want) => match ((all[j]?).bind (·.dst)) with
    | none => ⟨true, [], []⟩
    | some d => match look env d with
      | .lit (.bool b) => (match eqB b want with | true => footOf T Γ o env objs | false => ⟨false, [], []⟩)
      | .void => ⟨false, [], []⟩
      | _ => ⟨true, [], []⟩
/-- the guard, told before all else -/
def resG (all : Array Oper) (o : Oper) (env : Env κ Ty) (K : Env κ Ty → Option R) : Option R :=
  match o.guard with
  | none => K env
  | some (j, _) => match ((all[j]?).bind (·.dst)) with
    | none => K env
    | some d => match look env d with
      | .lit (.bool b) => ifB b fun b' => K ((d, .lit (.bool b')) :: env)
      | _ => K env
def aopsD (ex : List (Nat × Nat)) (Γ : FuncId → Option (Summ κ Ty)) (all : Array Oper) (anc : List (List Nat)) : List (Nat × Oper) → List (Nat × Oper × Foot) → List (Nat × Oper × Foot) → Env κ Ty → Objs κ Ty → (Env κ Ty → Objs κ Ty → Option R) → Option R
  | [], _, _, env, objs, K => K env objs
  | (i, o) :: os, log, logN, env, objs, K => resG all o env fun env => match footG T Γ all o env objs with
    | ⟨l, r, w⟩ => match tame ⟨l, r, w⟩ with
      | true => (match lessN r objs.length && checkL ex i (anc.getD i []) ⟨l, r, w⟩ logN with
        | true => astep C T Γ all o env objs fun env' objs' => aopsD ex Γ all anc os ((i, o, ⟨l, r, w⟩) :: log) logN env' objs' K
        | false => none)
      | false => (match lessN r objs.length && checkL ex i (anc.getD i []) ⟨l, r, w⟩ log with
        | true => astep C T Γ all o env objs fun env' objs' => aopsD ex Γ all anc os ((i, o, ⟨l, r, w⟩) :: log) ((i, o, ⟨l, r, w⟩) :: logN) env' objs' K
        | false => none)
def num : Nat → List Oper → List (Nat × Oper)
  | _, [] => []
  | i, o :: os => (i, o) :: num (i + 1) os
/-- two answers that must be one -/
noncomputable def both (x y : Option R) : Option R := by classical exact if x = y then x else none
def isApp (o : Oper) : Bool := match o.op with | .call c => (match c.callee with | .builtin b => (match b with | .append => true | _ => false) | _ => false) | _ => false
/-- what makes something new, for sure or likely -/
def loudS (Γ : FuncId → Option (Summ κ Ty)) (o : Oper) : Bool := match o.op with
  | .alloc _ => true
  | .box .. => true
  | .makeSlice .. => true
  | .makeMap .. => true
  | .buildSlice _ _ ps => (match ps.toList with | [] => false | _ => !(constPs ps.toList))
  | .call c => (match c.callee with
    | .builtin b => (match b with | .append => true | _ => false)
    | .value x => (match x with | .func f => (match Γ f with | some S => !S.quiet | none => false) | _ => false)
    | _ => false)
  | _ => false
/-- the first of a kind that another one behind it does not wait for -/
def twinB (p : Oper → Bool) (anc : List (List Nat)) (a : Nat) : List (Nat × Oper) → Option Nat
  | [] => none
  | (i, o) :: os => match p o && !(elemN a (anc.getD i [])) with | true => some i | false => twinB p anc a os
def twinA (p : Oper → Bool) (anc : List (List Nat)) : List (Nat × Oper) → Option (Nat × Nat)
  | [] => none
  | (i, o) :: os => match p o with
    | true => (match twinB p anc i os with | some b => some (i, b) | none => twinA p anc os)
    | false => twinA p anc os
def behind (anc : List (List Nat)) (a : Nat) (x : Nat × Oper) : Bool := Nat.beq x.1 a || elemN a (anc.getD x.1 [])
/-- the same, but for what waits for this one -/
def perm (anc : List (List Nat)) (l : List (Nat × Oper)) (a : Nat) : List (Nat × Oper) := l.filter (fun x => !(behind anc a x)) ++ l.filter (behind anc a)
def ascN : List Nat → Bool
  | [] => true
  | a :: l => match l with | [] => true | b :: _ => (match Nat.blt a b with | true => ascN l | false => false)
/-- the operations, these of them in this order -/
def inOrder (anc : List (List Nat)) (l : List (Nat × Oper)) (τ : List Nat) : List (Nat × Oper) := match ascN τ with | true => l | false => τ.tail.foldl (perm anc) l
def pairsOf : List Nat → List (Nat × Nat)
  | [] => []
  | a :: t => t.map (fun b => (a, b)) ++ pairsOf t
def delN (i : Nat) : List Nat → List Nat
  | [] => []
  | j :: l => match Nat.beq j i with | true => l | false => j :: delN i l
def anyN (p : Nat → Bool) : List Nat → Bool
  | [] => false
  | i :: l => match p i with | true => true | false => anyN p l
/-- nothing here comes before it -/
def leastN (anc : List (List Nat)) (R : List Nat) (i : Nat) : Bool := !(anyN (fun j => elemN j (anc.getD i [])) R)
/-- the orders that these may come in -/
def exts (anc : List (List Nat)) : Nat → List Nat → List (List Nat)
  | 0, _ => [[]]
  | n + 1, R => R.flatMap fun i => match leastN anc R i with | true => (exts anc n (delN i R)).map (i :: ·) | false => []
/-- there is always one -/
def live (anc : List (List Nat)) : Nat → List Nat → Bool
  | 0, R => isNil R
  | n + 1, R => match anyN (leastN anc R) R with
    | true => (match anyN (fun i => match leastN anc R i with | true => !(live anc n (delN i R)) | false => false) R with | true => false | false => true)
    | false => false
def distN : List Nat → Bool
  | [] => true
  | i :: l => match elemN i l with | true => false | false => distN l
/-- those of them that make something new -/
def pickN (p : Oper → Bool) : List (Nat × Oper) → List Nat
  | [] => []
  | (i, o) :: l => match p o with | true => i :: pickN p l | false => pickN p l
def isEntry (o : Oper) : Bool := match o.op with | .mapEntry .. => true | _ => false
def isMapOp (o : Oper) : Bool := match o.op with | .mapEntry .. => true | .lookup .. => true | _ => false
/-- whose orders are looked at: two appends, or else all that make something new, where two of them stand unordered -/
def whose (Γ : FuncId → Option (Summ κ Ty)) (anc : List (List Nat)) (l : List (Nat × Oper)) : List Nat :=
  match twinA isApp anc l with
  | some (a, b) => [a, b]
  | none => (match twinA (loudS Γ) anc l with
    | some _ => pickN (loudS Γ) l
    | none => (match l.any (fun x => isEntry x.2) with
      | true => (match twinA isMapOp anc l with | some (a, b) => [a, b] | none => [])
      | false => []))
/-- one answer -/
noncomputable def allOne : List (Option R) → Option R
  | [] => none
  | x :: l => match l with | [] => x | _ :: _ => both x (allOne l)
def apartAll (all : Array Oper) (anc : List (List Nat)) (l : List (Nat × Oper)) : List (List Nat) → Bool
  | [] => true
  | τ :: ts => match apartL (pairsOf τ) all anc (inOrder anc l τ) with | true => apartAll all anc l ts | false => false
def inN (n : Nat) : List Nat → Bool
  | [] => true
  | i :: l => match Nat.blt i n with | true => inN n l | false => false
noncomputable def aopsT (Γ : FuncId → Option (Summ κ Ty)) (all : Array Oper) (env : Env κ Ty) (objs : Objs κ Ty) (K : Env κ Ty → Objs κ Ty → Option R) : Option R :=
  let anc := ancs all.toList
  let l := num 0 all.toList
  let W := whose Γ anc l
  let es := exts anc W.length W
  match live anc W.length W && (distN W && (inN l.length W && apartAll all anc l es)) with
  | true => allOne (es.map fun τ => aopsD C T (pairsOf τ) Γ all anc (inOrder anc l τ) [] [] env objs K)
  | false => none

/-- a function's body, from a stack of pieces of code on -/
noncomputable def run (Γ : FuncId → Option (Summ κ Ty)) (Λ : Nat → List (AV κ Ty) → Objs κ Ty → Option R) (cuts : List (Nat × List Nat)) (m : Nat) (fin : Env κ Ty → Objs κ Ty → Option R) :
    Nat → Bool → List It → Env κ Ty → Objs κ Ty → Option R
  | 0, _, _, _, _ => none
  | n + 1, fresh, todo, env, objs => match todo with
    | [] => fin env objs
    | .inBlock _ :: k => run Γ Λ cuts m fin n fresh k env objs
    | .inLoop c :: k => run Γ Λ cuts m fin n fresh (.code c :: .inLoop c :: k) env objs
    | .code c :: k => match c with
      | .skip => run Γ Λ cuts m fin n fresh k env objs
      | .seq a b => run Γ Λ cuts m fin n fresh (.code a :: .code b :: k) env objs
      | .block id b => run Γ Λ cuts m fin n fresh (.code b :: .inBlock id :: k) env objs
      | .loop b => run Γ Λ cuts m fin n fresh (.code b :: .inLoop b :: k) env objs
      | .exit id => (match unwind id k with | some k' => run Γ Λ cuts m fin n fresh k' env objs | none => none)
      | .ret => fin env objs
      | .cond q a b => (match opnd T env 0 q with
        | .lit (.bool t) => ifB t fun t => (match t with
          | true => run Γ Λ cuts m fin n fresh (.code a :: k) (setB env q true) objs
          | false => run Γ Λ cuts m fin n fresh (.code b :: k) (setB env q false) objs)
        | _ => none)
      | .region id ops draw => (match (match fresh with | true => none | false => cutAt cuts id) with
        | some slots => (match compact C m (slots.map (look env)) objs with | (vs, objs) => Λ id vs objs)
        | none => (match draw with
          | true => aopsT C T Γ ops env objs fun env objs => run Γ Λ cuts m fin n false k env objs
          | false => aops C T Γ ops ops.toList env objs fun env objs => run Γ Λ cuts m fin n false k env objs))
      | _ => none

/-- the stack at the region of this number -/
def inCode (id : Nat) : Code → List It → Option (List It)
  | .seq a b, k => (match inCode id a (.code b :: k) with | some t => some t | none => inCode id b k)
  | .block j c, k => inCode id c (.inBlock j :: k)
  | .loop c, k => inCode id c (.inLoop c :: k)
  | .cond _ a b, k => (match inCode id a k with | some t => some t | none => inCode id b k)
  | .region i ops d, k => (match Nat.beq i id with | true => some (.code (.region i ops d) :: k) | false => none)
  | _, _ => none

/-- results that don't stay one's own: what they show, for good -/
def frzL (objs : Objs κ Ty) : List (AV κ Ty) → (List (AV κ Ty) → Objs κ Ty → Option R) → Option R
  | [], K => K [] objs
  | v :: vs, K => match v with
    | .agg cs => deepen C false objs cs fun cs' o => frzL o vs fun vs' o' => K (.agg cs' :: vs') o'
    | v => deepen C false objs [v] fun cs' o => frzL o vs fun vs' o' => K (cs' ++ vs') o'
/-- nothing borrowed may go out -/
def safe1 : AV κ Ty → Bool | .inl b _ _ => !b | .cadr .. => false | _ => true
def safe2 : AV κ Ty → Bool | .agg cs => cs.all safe1 | .tup _ => false | v => safe1 v
def safeO (C : Cod κ Ty) : AObj κ Ty → Bool | .sl t _ => !(C.bor t) | .box cs => cs.all safe1 | .mp .. => false | .dead => true
def one : List (AV κ Ty) → AV κ Ty | [v] => v | vs => .tup vs
def finishV (m : Nat) (dec : AV κ Ty → Objs κ Ty → Option R) (vs : List (AV κ Ty)) (objs : Objs κ Ty) : Option R :=
  match compact C m vs objs with
  | (vs, objs) => match vs.all safe2 && objs.all (safeO C) with
    | true => dec (one vs) objs
    | false => none
def resA (env : Env κ Ty) (objs : Objs κ Ty) : List ResultVar → (List (AV κ Ty) → Option R) → Option R
  | [], K => K []
  | r :: rs, K => match r with
    | .tmp t => resA env objs rs fun vs => K (look env t :: vs)
    | .cell a t => match T t with
      | some ti => aload C objs ti (look env a) fun v => resA env objs rs fun vs => K (v :: vs)
      | none => none
def finish (frz : Bool) (m : Nat) (rs : List ResultVar) (dec : AV κ Ty → Objs κ Ty → Option R) (env : Env κ Ty) (objs : Objs κ Ty) : Option R :=
  resA C T env objs rs fun vs => match frz with
  | true => frzL C objs vs fun vs objs => finishV C m dec vs objs
  | false => finishV C m dec vs objs

def envOf : List Nat → List (AV κ Ty) → Env κ Ty
  | i :: is, v :: vs => (i, v) :: envOf is vs
  | _, _ => []
end
end Km
namespace Km
open Go
set_option linter.unusedVariables false

variable {κ : Type} {Ty : κ → Type} {R : Type}

structure Loc where
  block : Nat
  off : Nat
  cap : Nat
  sub : Nat → Nat × Nat × Nat
/-- nothing lies within -/
abbrev noSub : Nat → Nat × Nat × Nat := fun _ => (0, 0, 0)

def isCell : Value → Bool | .agg _ => false | .tuple _ => false | _ => true

abbrev at' (b o : Nat) : Addr := ⟨b, o, none⟩

/-- object id stands on this block -/
def FootAt (ρ : Nat → Loc) (objs : Objs κ Ty) (id b : Nat) : Prop :=
  match objs[id]? with
  | some (.box _) => (ρ id).block = b
  | some (.sl _ _) => (ρ id).cap ≠ 0 ∧ (ρ id).block = b
  | some (.mp _ _ es h) => (ρ id).block = b ∨ ∃ i, i < es.length ∧ (∀ o, h ≠ some (i, o)) ∧ ((ρ id).sub i).2.2 ≠ 0 ∧ ((ρ id).sub i).1 = b
  | _ => False
def FootB (ρ : Nat → Loc) (objs : Objs κ Ty) (b : Nat) : Prop := ∃ id, FootAt ρ objs id b

/-- where something may be written: what is borrowed may lie where the callers' own lies, what is not may not -/
def Xs (Mut : Nat → Prop) (ρ : Nat → Loc) (objs : Objs κ Ty) (b : Bool) (k : Nat) : Prop := FootB ρ objs k ∨ (b = false ∧ Mut k)

inductive VRel (C : Cod κ Ty) (w : World) (Mut : Nat → Prop) (ρ : Nat → Loc) (objs : Objs κ Ty) : AV κ Ty → Value → Prop
  | lit {v : Value} (h : isCell v = true) : VRel C w Mut ρ objs (.lit v) v
  | nil {t : κ} {A : Option Addr} : VRel C w Mut ρ objs (.nil t) (.slice A 0 0)
  | inl {b : Bool} {t : κ} {xs : List (Ty t)} {A : Option Addr} {c : Nat} {blk off : Nat} {vals : Nat → Nat → Value} (hb : b = false → C.bor t = false) (hc : xs.length ≤ c)
      (hA : xs ≠ [] → A = some (at' blk off) ∧ blk < w.heap.size ∧ ¬ Xs Mut ρ objs b blk)
      (hcell : ∀ i x j cl, xs[i]? = some x → (C.enc t x)[j]? = some cl → w.cell? (at' blk (off + i * C.sz t + j)) = some (vals i j))
      (hrel : ∀ i x j cl, xs[i]? = some x → (C.enc t x)[j]? = some cl → VRel C w Mut ρ objs cl (vals i j)) :
      VRel C w Mut ρ objs (.inl b t xs) (.slice A xs.length c)
  | cadr {b : Bool} {cs : List (AV κ Ty)} {off blk base : Nat} {vals : Nat → Value} (hX : ¬ Xs Mut ρ objs b blk) (hlt : blk < w.heap.size)
      (hcell : ∀ j cl, cs[j]? = some cl → w.cell? (at' blk (base + j)) = some (vals j)) (hisc : ∀ j cl, cs[j]? = some cl → isCell (vals j) = true)
      (hrel : ∀ j cl, cs[j]? = some cl → VRel C w Mut ρ objs cl (vals j)) :
      VRel C w Mut ρ objs (.cadr b cs off) (.pointer (some (at' blk (base + off))))
  | ref {id off : Nat} {cs : List (AV κ Ty)} (h : objs[id]? = some (.box cs)) : VRel C w Mut ρ objs (.ref id off) (.pointer (some (at' (ρ id).block ((ρ id).off + off))))
  | refd {id off : Nat} {u : Value} (hc : isCell u = true) (hin : id < objs.length) (h : boxOf objs id = none) : VRel C w Mut ρ objs (.ref id off) u
  | eref {id i off : Nat} {t : κ} {xs : List (Ty t)} (h : objs[id]? = some (.sl t xs)) (hi : i < xs.length) : VRel C w Mut ρ objs (.eref id i off) (.pointer (some (at' (ρ id).block ((ρ id).off + i * C.sz t + off))))
  | erefd {id i off : Nat} {u : Value} (hc : isCell u = true) (hin : id < objs.length) (h : slOf objs id = none) : VRel C w Mut ρ objs (.eref id i off) u
  | own {id : Nat} {t : κ} {xs : List (Ty t)} {A : Option Addr} (h : objs[id]? = some (.sl t xs)) (hA : (ρ id).cap ≠ 0 → A = some (at' (ρ id).block (ρ id).off)) :
      VRel C w Mut ρ objs (.own id) (.slice A xs.length (ρ id).cap)
  | ownd {id : Nat} {u : Value} (hc : isCell u = true) (hin : id < objs.length) (h : slOf objs id = none) : VRel C w Mut ρ objs (.own id) u
  | sub {id lo hi c : Nat} {t : κ} {xs : List (Ty t)} {A : Option Addr} (h : objs[id]? = some (.sl t xs)) (hlo : lo ≤ hi) (hhi : hi ≤ xs.length) (hc : hi - lo ≤ c) (hcap : lo + c ≤ (ρ id).cap)
      (hA : c ≠ 0 → A = some (at' (ρ id).block ((ρ id).off + lo * C.sz t))) :
      VRel C w Mut ρ objs (.sub id lo hi) (.slice A (hi - lo) c)
  | subd {id lo hi : Nat} {u : Value} (hc : isCell u = true) (hin : id < objs.length) (h : slOf objs id = none) : VRel C w Mut ρ objs (.sub id lo hi) u
  | mapv {id : Nat} {k v : κ} {es : List (Ty k × Ty v)} {h : Option (Nat × Option Nat)} (h : objs[id]? = some (.mp k v es h)) : VRel C w Mut ρ objs (.mapv id) (.map (some (ρ id).block))
  | mapd {id : Nat} {u : Value} (hc : isCell u = true) (hin : id < objs.length) (h : isMp objs id = false) : VRel C w Mut ρ objs (.mapv id) u
  | agg {cs : List (AV κ Ty)} {us : List Value} (hl : us.length = cs.length) (hcell : ∀ (j : Nat) (u : Value), us[j]? = some u → isCell u = true)
      (hrel : ∀ (j : Nat) (cl : AV κ Ty) (u : Value), cs[j]? = some cl → us[j]? = some u → VRel C w Mut ρ objs cl u) : VRel C w Mut ρ objs (.agg cs) (.agg us.toArray)
  | tup {cs : List (AV κ Ty)} {us : List Value} (hl : us.length = cs.length)
      (hrel : ∀ (j : Nat) (cl : AV κ Ty) (u : Value), cs[j]? = some cl → us[j]? = some u → VRel C w Mut ρ objs cl u) : VRel C w Mut ρ objs (.tup cs) (.tuple us.toArray)
  | void : VRel C w Mut ρ objs .void Go.undef
  | undef {u : Value} : VRel C w Mut ρ objs .undef u

structure CodOk (C : Cod κ Ty) : Prop where
  same : ∀ s t, C.same s t = true → s = t
  len : ∀ t x, (C.enc t x).length = C.sz t
  dec : ∀ t cs x, C.dec t cs = some x → C.enc t x = cs
  deep : ∀ t x c, c ∈ C.enc t x → (∃ v, c = .lit v) ∨ (∃ s xs, c = .inl (C.bor t) s xs ∧ (C.bor s = true → C.bor t = true))
  cast : ∀ s t xs ys, C.cast s t xs = some ys → ∃ h : s = t, h ▸ xs = ys
  ofb : ∀ t b xs, C.ofb t b = some xs → xs.length = b.size ∧ (∀ (i : Nat) x, xs[i]? = some x → ∃ c, b.data[i]? = some c ∧ C.enc t x = [.lit (.int .u8 c.toNat)]) ∧ C.sz t = 1
  keq : ∀ k x y, C.keq k x y = true → x = y
  mcast : ∀ k v k' v' xs ys, C.mcast k v k' v' xs = some ys → ∃ (h1 : k = k') (h2 : v = v'), (h1 ▸ h2 ▸ xs) = ys
  bytes : ∀ t xs bs, C.bytes t xs = some bs → bs.length = xs.length ∧ ∀ (i : Nat) x b, xs[i]? = some x → bs[i]? = some b → C.enc t x = [.lit (.int .u8 b)]

/-- a slice of one's own, and where it lies -/
def SlAt (C : Cod κ Ty) (w : World) (Mut : Nat → Prop) (ρ : Nat → Loc) (objs : Objs κ Ty) (blk off cap : Nat) (t : κ) (xs : List (Ty t)) : Prop :=
  xs.length ≤ cap ∧ (cap ≠ 0 → blk < w.heap.size) ∧
      (∀ i x j cl, xs[i]? = some x → (C.enc t x)[j]? = some cl → ∃ v, w.cell? (at' blk (off + i * C.sz t + j)) = some v ∧ VRel C w Mut ρ objs cl v) ∧
      (∀ q, q < cap * C.sz t → ∃ v, w.cell? (at' blk (off + q)) = some v ∧ isCell v = true ∧ w.frozen? (at' blk (off + q)) = false)
/-- an entry's value -/
def EntR (C : Cod κ Ty) (w : World) (Mut : Nat → Prop) (ρ : Nat → Loc) (objs : Objs κ Ty) (L : Nat × Nat × Nat) : List (AV κ Ty) → Value → Prop
  | [.lit v], u => u = v ∧ isCell v = true ∧ L.2.2 = 0
  | [.inl b s xs], u => ∃ A, u = .slice A xs.length L.2.2 ∧ (L.2.2 ≠ 0 → A = some (at' L.1 L.2.1)) ∧ SlAt C w Mut ρ objs L.1 L.2.1 L.2.2 s xs
  | _, _ => False
structure MpRel (C : Cod κ Ty) (w : World) (Mut : Nat → Prop) (ρ : Nat → Loc) (objs : Objs κ Ty) (L : Loc) (k v : κ) (es : List (Ty k × Ty v)) (h : Option (Nat × Option Nat)) (mes : Array MapEntry) : Prop where
  size : mes.size = es.length
  at_ : w.heap[L.block]? = some (.map mes mes.size)
  key : ∀ (i : Nat) (e : Ty k × Ty v), es[i]? = some e → (∀ c ∈ C.enc k e.1, ∃ v, c = .lit v) ∧ ∃ me : MapEntry, mes[i]? = some me ∧ me.born = i ∧ VRel C w Mut ρ objs (.agg (C.enc k e.1)) me.key
  val : ∀ (i : Nat) (e : Ty k × Ty v) (me : MapEntry), es[i]? = some e → mes[i]? = some me → (∀ o, h ≠ some (i, o)) → EntR C w Mut ρ objs (L.sub i) (C.enc v e.2) me.val
  hole : ∀ (i : Nat) (o : Option Nat) (me : MapEntry), h = some (i, o) → mes[i]? = some me → isCell me.val = true ∧ ∀ j, o = some j → VRel C w Mut ρ objs (.own j) me.val
  hlt : ∀ i o, h = some (i, o) → i < es.length
  own : ∀ i, i < es.length → (∀ o, h ≠ some (i, o)) → (L.sub i).2.2 ≠ 0 → (L.sub i).1 ≠ L.block
  disj : ∀ i j, i < es.length → j < es.length → (∀ o, h ≠ some (i, o)) → (∀ o, h ≠ some (j, o)) → (L.sub i).2.2 ≠ 0 → (L.sub j).2.2 ≠ 0 → (L.sub i).1 = (L.sub j).1 → i = j

/-- how object number id lies in memory -/
def ORel (C : Cod κ Ty) (w : World) (Mut : Nat → Prop) (ρ : Nat → Loc) (objs : Objs κ Ty) (id : Nat) : Prop :=
  match objs[id]? with
  | some (.box cs) => (ρ id).block < w.heap.size ∧ ∀ j cl, cs[j]? = some cl → ∃ v, w.cell? (at' (ρ id).block ((ρ id).off + j)) = some v ∧ isCell v = true ∧ VRel C w Mut ρ objs cl v ∧ w.frozen? (at' (ρ id).block ((ρ id).off + j)) = false
  | some (.sl t xs) => xs.length ≤ (ρ id).cap ∧ ((ρ id).cap ≠ 0 → (ρ id).block < w.heap.size) ∧
      (∀ i x j cl, xs[i]? = some x → (C.enc t x)[j]? = some cl → ∃ v, w.cell? (at' (ρ id).block ((ρ id).off + i * C.sz t + j)) = some v ∧ VRel C w Mut ρ objs cl v) ∧
      (∀ q, q < (ρ id).cap * C.sz t → ∃ v, w.cell? (at' (ρ id).block ((ρ id).off + q)) = some v ∧ isCell v = true ∧ w.frozen? (at' (ρ id).block ((ρ id).off + q)) = false)
  | some (.mp k v es h) => ∃ mes, MpRel C w Mut ρ objs (ρ id) k v es h mes
  | _ => True

/-- it is gone -/
def Gone (objs : Objs κ Ty) (id : Nat) : Prop := boxOf objs id = none ∧ slOf objs id = none ∧ isMp objs id = false

/-- ids keep what they are, or are gone -/
def Compat (ρ : Nat → Loc) (objs : Objs κ Ty) (ρ' : Nat → Loc) (objs' : Objs κ Ty) (id : Nat) : Prop :=
  match objs[id]? with
  | some (.box _) => (∃ cs, objs'[id]? = some (.box cs) ∧ ρ' id = ρ id) ∨ Gone objs' id
  | some (.sl t xs) => (∃ ys : List (Ty t), objs'[id]? = some (.sl t ys) ∧ ys.length = xs.length ∧ ρ' id = ρ id) ∨ Gone objs' id
  | some (.mp k v _ _) => (∃ (es : List (Ty k × Ty v)) (h : Option (Nat × Option Nat)), objs'[id]? = some (.mp k v es h) ∧ (ρ' id).block = (ρ id).block) ∨ Gone objs' id
  | some .dead => Gone objs' id
  | none => True

/-- what a frame was lent: where it lay, and what it was -/
structure Org (κ : Type) (Ty : κ → Type) where
  ρ : Nat → Loc
  objs : Objs κ Ty

/-- the state of a frame: its variables, its objects, and what has become of the world since it began -/
structure SRel (C : Cod κ Ty) (Mut : Nat → Prop) (Lent : Org κ Ty) (w0 : World) (ρ : Nat → Loc) (env : Env κ Ty) (objs : Objs κ Ty) (tm : Array Value) (w : World) : Prop where
  env : ∀ i, look env i = .undef ∨ ∃ u, tm[i]? = some u ∧ VRel C w Mut ρ objs (look env i) u
  ob : ∀ id, ORel C w Mut ρ objs id
  inj : ∀ i j b, FootAt ρ objs i b → FootAt ρ objs j b → i = j
  live : ∀ b, FootB ρ objs b → ¬ Mut b ∧ (FootB Lent.ρ Lent.objs b ∨ w0.heap.size ≤ b)
  comp : ∀ id, Compat Lent.ρ Lent.objs ρ objs id
  len : Lent.objs.length ≤ objs.length
  mlt : ∀ b, Mut b → b < w0.heap.size
  frame : ∀ b, b < w0.heap.size → ¬ FootB Lent.ρ Lent.objs b → w.heap[b]? = w0.heap[b]?
  size : w0.heap.size ≤ w.heap.size
  os : w.os = w0.os
  tape : w.tape = w0.tape
  output : w.output = w0.output

/-- the world has turned where this frame may write, and nowhere else -/
structure WStep (w w' : World) (F F' : Nat → Prop) : Prop where
  block : ∀ b, b < w.heap.size → ¬ F b → w'.heap[b]? = w.heap[b]?
  size : w.heap.size ≤ w'.heap.size
  foot : ∀ b, F' b → F b ∨ w.heap.size ≤ b

theorem cell_lt {w : World} {a : Addr} {v : Value} (h : w.cell? a = some v) : a.block < w.heap.size := World.block_lt_of_cell? w a h

theorem cell_of_block {w w' : World} {b : Nat} (h : w'.heap[b]? = w.heap[b]?) (o : Nat) : w'.cell? (at' b o) = w.cell? (at' b o) := by
  simp only [World.cell?, h]
theorem frozen_of_block {w w' : World} {b : Nat} (h : w'.heap[b]? = w.heap[b]?) (o : Nat) : w'.frozen? (at' b o) = w.frozen? (at' b o) := by
  simp only [World.frozen?, h]

theorem boxOf_none {objs : Objs κ Ty} {id : Nat} (h : boxOf objs id = none) : ∀ cs, objs[id]? ≠ some (.box cs) := by
  intro cs e; simp [boxOf, e] at h
theorem slOf_none {objs : Objs κ Ty} {id : Nat} (h : slOf objs id = none) : ∀ t xs, objs[id]? ≠ some (.sl t xs) := by
  intro t xs e; simp [slOf, e] at h
theorem boxOf_some {objs : Objs κ Ty} {id : Nat} {cs : List (AV κ Ty)} (h : boxOf objs id = some cs) : objs[id]? = some (.box cs) := by
  unfold boxOf at h; split at h
  · rename_i cs' e; cases h; exact e
  · cases h
theorem slOf_some {objs : Objs κ Ty} {id : Nat} {t : κ} {xs : List (Ty t)} (h : slOf objs id = some ⟨t, xs⟩) : objs[id]? = some (.sl t xs) := by
  unfold slOf at h; split at h
  · rename_i t' xs' e; cases h; exact e
  · cases h
theorem slOf_of {objs : Objs κ Ty} {id : Nat} {t : κ} {xs : List (Ty t)} (h : objs[id]? = some (.sl t xs)) : slOf objs id = some ⟨t, xs⟩ := by simp [slOf, h]
theorem boxOf_of {objs : Objs κ Ty} {id : Nat} {cs : List (AV κ Ty)} (h : objs[id]? = some (.box cs)) : boxOf objs id = some cs := by simp [boxOf, h]
theorem boxOf_dead {objs : Objs κ Ty} {id : Nat} (h : objs[id]? = some .dead) : boxOf objs id = none := by simp [boxOf, h]
theorem slOf_dead {objs : Objs κ Ty} {id : Nat} (h : objs[id]? = some .dead) : slOf objs id = none := by simp [slOf, h]
theorem isMp_dead {objs : Objs κ Ty} {id : Nat} (h : objs[id]? = some .dead) : isMp objs id = false := by simp [isMp, h]
theorem isMp_box {objs : Objs κ Ty} {id : Nat} {cs : List (AV κ Ty)} (h : objs[id]? = some (.box cs)) : isMp objs id = false := by simp [isMp, h]
theorem isMp_sl {objs : Objs κ Ty} {id : Nat} {t : κ} {xs : List (Ty t)} (h : objs[id]? = some (.sl t xs)) : isMp objs id = false := by simp [isMp, h]
theorem isMp_of {objs : Objs κ Ty} {id : Nat} {k v : κ} {es : List (Ty k × Ty v)} {ho : Option (Nat × Option Nat)} (h : objs[id]? = some (.mp k v es ho)) : isMp objs id = true := by simp [isMp, h]
theorem isMp_none {objs : Objs κ Ty} {id : Nat} (h : isMp objs id = false) : ∀ k v es ho, objs[id]? ≠ some (.mp k v es ho) := by
  intro k v es ho e; simp [isMp, e] at h
theorem slOf_mp {objs : Objs κ Ty} {id : Nat} {k v : κ} {es : List (Ty k × Ty v)} {ho : Option (Nat × Option Nat)} (h : objs[id]? = some (.mp k v es ho)) : slOf objs id = none := by simp [slOf, h]
theorem boxOf_mp {objs : Objs κ Ty} {id : Nat} {k v : κ} {es : List (Ty k × Ty v)} {ho : Option (Nat × Option Nat)} (h : objs[id]? = some (.mp k v es ho)) : boxOf objs id = none := by simp [boxOf, h]
theorem slOf_box {objs : Objs κ Ty} {id : Nat} {cs : List (AV κ Ty)} (h : objs[id]? = some (.box cs)) : slOf objs id = none := by simp [slOf, h]
theorem boxOf_sl {objs : Objs κ Ty} {id : Nat} {t : κ} {xs : List (Ty t)} (h : objs[id]? = some (.sl t xs)) : boxOf objs id = none := by simp [boxOf, h]

variable {C : Cod κ Ty} {w w' : World} {Mut : Nat → Prop} {ρ ρ' : Nat → Loc} {objs objs' : Objs κ Ty}

theorem gone_dead {id : Nat} (h : objs[id]? = some .dead) : Gone objs id := ⟨boxOf_dead h, slOf_dead h, isMp_dead h⟩
theorem Compat.gone {id : Nat} (h : Compat ρ objs ρ' objs' id) (hg : Gone objs id) (hin : id < objs.length) : Gone objs' id := by
  unfold Compat at h
  split at h
  · rename_i cs e; exact absurd e (boxOf_none hg.1 cs)
  · rename_i t xs e; exact absurd e (slOf_none hg.2.1 t xs)
  · rename_i k v es ho e; exact absurd e (isMp_none hg.2.2 k v es ho)
  · exact h
  · rename_i e; simp at e; omega
theorem Compat.box {id : Nat} (h : Compat ρ objs ρ' objs' id) (hb : boxOf objs id = none) (hin : id < objs.length) : boxOf objs' id = none := by
  unfold Compat at h
  split at h
  · rename_i cs e; exact absurd e (boxOf_none hb cs)
  · rename_i t xs e
    rcases h with ⟨ys, e', _⟩ | h
    · exact boxOf_sl e'
    · exact h.1
  · rcases h with ⟨es, ho, e', _⟩ | h
    · exact boxOf_mp e'
    · exact h.1
  · exact h.1
  · rename_i e; simp at e; omega
theorem Compat.sl {id : Nat} (h : Compat ρ objs ρ' objs' id) (hb : slOf objs id = none) (hin : id < objs.length) : slOf objs' id = none := by
  unfold Compat at h
  split at h
  · rename_i cs e
    rcases h with ⟨ys, e', _⟩ | h
    · exact slOf_box e'
    · exact h.2.1
  · rename_i t xs e; exact absurd e (slOf_none hb t xs)
  · rcases h with ⟨es, ho, e', _⟩ | h
    · exact slOf_mp e'
    · exact h.2.1
  · exact h.2.1
  · rename_i e; simp at e; omega
theorem Compat.mp {id : Nat} (h : Compat ρ objs ρ' objs' id) (hb : isMp objs id = false) (hin : id < objs.length) : isMp objs' id = false := by
  unfold Compat at h
  split at h
  · rcases h with ⟨ys, e', _⟩ | h
    · exact isMp_box e'
    · exact h.2.2
  · rcases h with ⟨ys, e', _⟩ | h
    · exact isMp_sl e'
    · exact h.2.2
  · rename_i k v es ho e; exact absurd e (isMp_none hb k v es ho)
  · exact h.2.2
  · rename_i e; simp at e; omega

theorem Xs.of_step {b : Bool} {k : Nat} (W : WStep w w' (FootB ρ objs) (FootB ρ' objs')) (hk : k < w.heap.size) (h : ¬ Xs Mut ρ objs b k) : ¬ Xs Mut ρ' objs' b k := by
  intro h'
  rcases h' with h' | h'
  · rcases W.foot k h' with h1 | h1
    · exact h (.inl h1)
    · omega
  · exact h (.inr h')
theorem Xs.foot {b : Bool} {k : Nat} (h : ¬ Xs Mut ρ objs b k) : ¬ FootB ρ objs k := fun h' => h (.inl h')

/-- a value speaks of the new state what it spoke of the old one -/
theorem VRel.step (W : WStep w w' (FootB ρ objs) (FootB ρ' objs')) (hl : objs.length ≤ objs'.length) (hc : ∀ id, Compat ρ objs ρ' objs' id) {v : AV κ Ty} {u : Value} (h : VRel C w Mut ρ objs v u) : VRel C w' Mut ρ' objs' v u := by
  induction h with
  | lit h => exact .lit h
  | nil => exact .nil
  | @inl b t xs A c blk off vals hb hc1 hA hcell hrel ih =>
    refine .inl (blk := blk) (off := off) hb hc1 (fun hne => ?_) (fun i x j cl hx hj => ?_) (fun i x j cl hx hj => ih i x j cl hx hj)
    · obtain ⟨a1, a2, a3⟩ := hA hne
      exact ⟨a1, Nat.lt_of_lt_of_le a2 W.size, Xs.of_step W a2 a3⟩
    · have hne : _ ≠ [] := List.ne_nil_of_mem (List.mem_of_getElem? hx)
      obtain ⟨a1, a2, a3⟩ := hA hne
      rw [cell_of_block (W.block _ a2 (Xs.foot a3))]
      exact hcell i x j cl hx hj
  | cadr hX hlt hcell hisc hrel ih =>
    refine .cadr (Xs.of_step W hlt hX) (Nat.lt_of_lt_of_le hlt W.size) (fun j cl hj => ?_) hisc (fun j cl hj => ih j cl hj)
    rw [cell_of_block (W.block _ hlt (Xs.foot hX))]
    exact hcell j cl hj
  | @ref id off cs h =>
    have := hc id
    simp only [Compat, h] at this
    rcases this with ⟨cs', e, er⟩ | ⟨e1, e2, _⟩
    · rw [← er]; exact .ref e
    · have := (List.getElem?_eq_some_iff.mp h).1
      exact .refd rfl (by omega) e1
  | refd hcl hin h => exact .refd hcl (by omega) ((hc _).box h hin)
  | @eref id i off t xs h hi =>
    have := hc id
    simp only [Compat, h] at this
    rcases this with ⟨ys, e, el, er⟩ | ⟨e1, e2, _⟩
    · rw [← er]; exact .eref e (by omega)
    · have := (List.getElem?_eq_some_iff.mp h).1
      exact .erefd rfl (by omega) e2
  | erefd hcl hin h => exact .erefd hcl (by omega) ((hc _).sl h hin)
  | @own id t xs A h hA =>
    have := hc id
    simp only [Compat, h] at this
    rcases this with ⟨ys, e, el, er⟩ | ⟨e1, e2, _⟩
    · rw [← er, ← el]; exact .own e (by rw [er]; exact hA)
    · have := (List.getElem?_eq_some_iff.mp h).1
      exact .ownd rfl (by omega) e2
  | ownd hcl hin h => exact .ownd hcl (by omega) ((hc _).sl h hin)
  | @sub id lo hi c t xs A h hlo hhi hc1 hcap hA =>
    have := hc id
    simp only [Compat, h] at this
    rcases this with ⟨ys, e, el, er⟩ | ⟨e1, e2, _⟩
    · exact .sub e hlo (by omega) hc1 (by rw [er]; exact hcap) (by rw [er]; exact hA)
    · have := (List.getElem?_eq_some_iff.mp h).1
      exact .subd rfl (by omega) e2
  | subd hcl hin h => exact .subd hcl (by omega) ((hc _).sl h hin)
  | @mapv id k v es ho h =>
    have := hc id
    simp only [Compat, h] at this
    rcases this with ⟨es', ho', e, er⟩ | ⟨_, _, e3⟩
    · rw [← er]; exact .mapv e
    · have := (List.getElem?_eq_some_iff.mp h).1
      exact .mapd rfl (by omega) e3
  | mapd hcl hin h => exact .mapd hcl (by omega) ((hc _).mp h hin)
  | agg hl hcell hrel ih => exact .agg hl hcell ih
  | tup hl hrel ih => exact .tup hl ih
  | void => exact .void
  | undef => exact .undef

theorem SlAt.step {blk off cap : Nat} {t : κ} {xs : List (Ty t)} (W : WStep w w' (FootB ρ objs) (FootB ρ' objs')) (hl : objs.length ≤ objs'.length) (hc : ∀ id, Compat ρ objs ρ' objs' id) (h : SlAt C w Mut ρ objs blk off cap t xs)
    (hb : cap ≠ 0 → w'.heap[blk]? = w.heap[blk]?) : SlAt C w' Mut ρ' objs' blk off cap t xs := by
  obtain ⟨h1, h2, h3, h4⟩ := h
  refine ⟨h1, fun hn => Nat.lt_of_lt_of_le (h2 hn) W.size, fun i x j cl hx hj => ?_, fun q hq => ?_⟩
  · have hcap : cap ≠ 0 := by
      have := (List.getElem?_eq_some_iff.mp hx).1
      omega
    obtain ⟨v, a1, a2⟩ := h3 i x j cl hx hj
    exact ⟨v, by rw [cell_of_block (hb hcap)]; exact a1, a2.step W hl hc⟩
  · have hcap : cap ≠ 0 := fun e0 => by rw [e0, Nat.zero_mul] at hq; omega
    obtain ⟨v, a1, a2, a3⟩ := h4 q hq
    exact ⟨v, by rw [cell_of_block (hb hcap)]; exact a1, a2, by rw [frozen_of_block (hb hcap)]; exact a3⟩
theorem EntR.step {L : Nat × Nat × Nat} {cs : List (AV κ Ty)} {u : Value} (W : WStep w w' (FootB ρ objs) (FootB ρ' objs')) (hl : objs.length ≤ objs'.length) (hc : ∀ id, Compat ρ objs ρ' objs' id) (h : EntR C w Mut ρ objs L cs u)
    (hb : ∀ b, L.2.2 ≠ 0 → L.1 = b → w'.heap[b]? = w.heap[b]?) : EntR C w' Mut ρ' objs' L cs u := by
  unfold EntR at h ⊢
  split at h
  · exact h
  · obtain ⟨A, h1, h2, h3⟩ := h
    exact ⟨A, h1, h2, h3.step W hl hc fun hn => hb _ hn rfl⟩
  · exact h.elim

/-- an object that nobody has touched -/
theorem ORel.step (W : WStep w w' (FootB ρ objs) (FootB ρ' objs')) (hl : objs.length ≤ objs'.length) (hc : ∀ id, Compat ρ objs ρ' objs' id) {id : Nat} (h : ORel C w Mut ρ objs id)
    (he : objs'[id]? = objs[id]?) (hr : ρ' id = ρ id) (hb : ∀ b, FootAt ρ objs id b → w'.heap[b]? = w.heap[b]?) : ORel C w' Mut ρ' objs' id := by
  unfold ORel at h ⊢
  rw [he, hr]
  split
  · rename_i cs e
    rw [e] at h
    obtain ⟨h1, h2⟩ := h
    have hblk := hb (ρ id).block (by simp [FootAt, e])
    refine ⟨Nat.lt_of_lt_of_le h1 W.size, fun j cl hj => ?_⟩
    obtain ⟨v, a1, a2, a3, a4⟩ := h2 j cl hj
    exact ⟨v, by rw [cell_of_block hblk]; exact a1, a2, a3.step W hl hc, by rw [frozen_of_block hblk]; exact a4⟩
  · rename_i t xs e
    rw [e] at h
    obtain ⟨h1, h2, h3, h4⟩ := h
    refine ⟨h1, fun hn => Nat.lt_of_lt_of_le (h2 hn) W.size, fun i x j cl hx hj => ?_, fun q hq => ?_⟩
    · have hcap : (ρ id).cap ≠ 0 := by
        have := (List.getElem?_eq_some_iff.mp hx).1
        omega
      have hblk := hb (ρ id).block (by simp [FootAt, e, hcap])
      obtain ⟨v, a1, a2⟩ := h3 i x j cl hx hj
      exact ⟨v, by rw [cell_of_block hblk]; exact a1, a2.step W hl hc⟩
    · have hcap : (ρ id).cap ≠ 0 := fun e0 => by rw [e0, Nat.zero_mul] at hq; omega
      have hblk := hb (ρ id).block (by simp [FootAt, e, hcap])
      obtain ⟨v, a1, a2, a3⟩ := h4 q hq
      exact ⟨v, by rw [cell_of_block hblk]; exact a1, a2, by rw [frozen_of_block hblk]; exact a3⟩
  · rename_i k v es ho e
    rw [e] at h
    obtain ⟨mes, h⟩ := h
    refine ⟨mes, h.size, ?_, fun i e' he => ?_, fun i e' me he hm hh => ?_, fun i o me hh hm => ?_, h.hlt, h.own, h.disj⟩
    · rw [hb (ρ id).block (by simp [FootAt, e])]; exact h.at_
    · obtain ⟨h1, me, h2, h3, h4⟩ := h.key i e' he
      exact ⟨h1, me, h2, h3, h4.step W hl hc⟩
    · exact (h.val i e' me he hm hh).step W hl hc fun b hb1 hb2 => hb b (by
        simp only [FootAt, e]
        exact .inr ⟨i, (List.getElem?_eq_some_iff.mp he).1, hh, hb1, hb2⟩)
    · obtain ⟨h1, h2⟩ := h.hole i o me hh hm
      exact ⟨h1, fun j hj => (h2 j hj).step W hl hc⟩
  · trivial

/-- what it stands on is there -/
theorem foot_lt {i b : Nat} (ho : ORel C w Mut ρ objs i) (h : FootAt ρ objs i b) : b < w.heap.size := by
  unfold FootAt at h; unfold ORel at ho
  split at h
  · rename_i cs e; rw [e] at ho; have := ho.1; omega
  · rename_i t xs e; rw [e] at ho; have := ho.2.1 h.1; omega
  · rename_i k v es hh e
    rw [e] at ho
    obtain ⟨mes, hm⟩ := ho
    rcases h with h | ⟨q, h1, h2, h3, h4⟩
    · rw [← h]; exact (Array.getElem?_eq_some_iff.mp hm.at_).1
    · obtain ⟨_, me, g1, _⟩ := hm.key q _ (List.getElem?_eq_getElem h1)
      have hv := hm.val q _ me (List.getElem?_eq_getElem h1) g1 h2
      unfold EntR at hv
      split at hv
      · exact absurd hv.2.2 h3
      · obtain ⟨A, _, _, g⟩ := hv
        rw [← h4]; exact g.2.1 h3
      · exact hv.elim
  · exact h.elim

/-- the state behind a step -/
theorem Compat.trans {ρ3 : Nat → Loc} {objs3 : Objs κ Ty} {id : Nat} (hl : objs.length ≤ objs'.length) (h : Compat ρ objs ρ' objs' id) (g : Compat ρ' objs' ρ3 objs3 id) : Compat ρ objs ρ3 objs3 id := by
  have dead : id < objs.length → Gone objs' id → Gone objs3 id := fun hi hg => g.gone hg (by omega)
  unfold Compat at h ⊢
  split
  · rename_i cs e
    rw [e] at h
    have hi := (List.getElem?_eq_some_iff.mp e).1
    rcases h with ⟨cs', e', er⟩ | h
    · unfold Compat at g; rw [e'] at g
      rcases g with ⟨cs3, e3, er3⟩ | g
      · exact .inl ⟨cs3, e3, er3.trans er⟩
      · exact .inr g
    · exact .inr (dead hi h)
  · rename_i t xs e
    rw [e] at h
    have hi := (List.getElem?_eq_some_iff.mp e).1
    rcases h with ⟨ys, e', el, er⟩ | h
    · unfold Compat at g; rw [e'] at g
      rcases g with ⟨zs, e3, el3, er3⟩ | g
      · exact .inl ⟨zs, e3, el3.trans el, er3.trans er⟩
      · exact .inr g
    · exact .inr (dead hi h)
  · rename_i k v es ho e
    rw [e] at h
    have hi := (List.getElem?_eq_some_iff.mp e).1
    rcases h with ⟨es', ho', e', er⟩ | h
    · unfold Compat at g; rw [e'] at g
      rcases g with ⟨es3, ho3, e3, er3⟩ | g
      · exact .inl ⟨es3, ho3, e3, er3.trans er⟩
      · exact .inr g
    · exact .inr (dead hi h)
  · rename_i e
    rw [e] at h
    have hi := (List.getElem?_eq_some_iff.mp e).1
    exact dead hi h
  · trivial

theorem SRel.step {Lent : Org κ Ty} {w0 : World} {env : Env κ Ty} {tm : Array Value} (S : SRel C Mut Lent w0 ρ env objs tm w)
    (W : WStep w w' (FootB ρ objs) (FootB ρ' objs')) (hl : objs.length ≤ objs'.length) (hc : ∀ id, Compat ρ objs ρ' objs' id)
    (hob : ∀ id, ORel C w' Mut ρ' objs' id) (hinj : ∀ i j b, FootAt ρ' objs' i b → FootAt ρ' objs' j b → i = j)
    (hos : w'.os = w.os) (htape : w'.tape = w.tape) (hout : w'.output = w.output) : SRel C Mut Lent w0 ρ' env objs' tm w' where
  env i := (S.env i).imp id fun ⟨u, h1, h2⟩ => ⟨u, h1, h2.step W hl hc⟩
  ob := hob
  inj := hinj
  live b hb := by
    rcases W.foot b hb with h | h
    · exact S.live b h
    · have := S.size
      exact ⟨fun hm => by have := S.mlt b hm; omega, .inr (by omega)⟩
  comp id := (S.comp id).trans S.len (hc id)
  len := Nat.le_trans S.len hl
  mlt := S.mlt
  frame b hb hn := by
    have := S.size
    rw [W.block b (by omega) (fun hf => ?_)]
    · exact S.frame b hb hn
    · rcases (S.live b hf).2 with h | h
      · exact hn h
      · omega
  size := Nat.le_trans S.size W.size
  os := hos.trans S.os
  tape := htape.trans S.tape
  output := hout.trans S.output

theorem Compat.refl (id : Nat) : Compat ρ objs ρ objs id := by
  unfold Compat
  split
  · rename_i cs e; exact .inl ⟨cs, e, rfl⟩
  · rename_i t xs e; exact .inl ⟨xs, e, rfl, rfl⟩
  · rename_i k v es ho e; exact .inl ⟨es, ho, e, rfl⟩
  · rename_i e; exact gone_dead e
  · trivial
theorem Compat.of_eq {id : Nat} (h : id < objs.length → objs'[id]? = objs[id]?) (hr : id < objs.length → ρ' id = ρ id) : Compat ρ objs ρ' objs' id := by
  unfold Compat
  split
  · rename_i cs e
    have := (List.getElem?_eq_some_iff.mp e).1
    exact .inl ⟨cs, by rw [h this, e], hr this⟩
  · rename_i t xs e
    have := (List.getElem?_eq_some_iff.mp e).1
    exact .inl ⟨xs, by rw [h this, e], rfl, hr this⟩
  · rename_i k v es ho e
    have := (List.getElem?_eq_some_iff.mp e).1
    exact .inl ⟨es, ho, by rw [h this, e], by rw [hr this]⟩
  · rename_i e
    have := (List.getElem?_eq_some_iff.mp e).1
    exact gone_dead (by rw [h this, e])
  · trivial

end Km
namespace Km
open Go
set_option linter.unusedVariables false
set_option linter.unusedSimpArgs false

variable {κ : Type} {Ty : κ → Type} {R : Type}

def zval : AV κ Ty → Option Value
  | .lit v => some v
  | .nil _ => some (.slice none 0 0)
  | _ => none

/-- the table tells the program's types -/
structure TOk (P : Program) (C : Cod κ Ty) (T : TypeId → Option (TI κ Ty)) : Prop where
  info : ∀ t ti, T t = some ti → ∃ i z, P.info? t = some i ∧ i.size = ti.size ∧ i.bytes = ti.bytes ∧ i.zero = some z ∧ z.cells.toList.map some = ti.zero.map zval ∧ (∀ v ∈ z.cells.toList, isCell v = true)
  agg : ∀ t ti, T t = some ti → ∃ d, P.underlying t = some d ∧ (match d with | .struct _ => true | .array .. => true | _ => false) = ti.agg
  int : ∀ t ti k, T t = some ti → ti.shp = .int k → P.underlying t = some (.int k)
  bool : ∀ t ti, T t = some ti → ti.shp = .bool → P.underlying t = some .bool
  str : ∀ t ti, T t = some ti → ti.shp = .str → P.underlying t = some .string
  struct : ∀ t ti fs, T t = some ti → ti.shp = .struct fs → ∃ fields, P.underlying t = some (.struct fields) ∧ fields.toList.map (fun f => (f.offset, f.type)) = fs ∧ (∀ f ∈ fields.toList, ∃ i, P.info? f.type = some i ∧ i.size ≠ 0)
  seq : ∀ t ti fs, T t = some ti → ti.shp = .struct fs → P.stoodInHeld t = false ∧ P.eqGuardType P.depth t = false ∧ ∀ fields, P.underlying t = some (.struct fields) → ∀ f ∈ fields.toList, f.name ≠ "_"
  arr : ∀ t ti n e s, T t = some ti → ti.shp = .arr n e s → P.underlying t = some (.array n e) ∧ (∃ i, P.info? e = some i ∧ i.size = C.sz s ∧ i.bytes = C.by' s) ∧ ∃ te, T e = some te ∧ te.zero.length = C.sz s ∧ ti.zero = (List.replicate n te.zero).flatten
  map : ∀ t ti kt et k v, T t = some ti → ti.shp = .map kt et k v → P.underlying t = some (.map kt et) ∧ (∀ x y, aeq T 8 kt (.agg (C.enc k x)) (.agg (C.enc k y)) = some (C.keq k x y)) ∧
    (∃ tk fs, T kt = some tk ∧ tk.shp = .struct fs ∧ ∀ f ∈ fs, ∃ tf, T f.2 = some tf ∧ ((∃ q, tf.shp = .int q) ∨ tf.shp = .str)) ∧ (∀ x c, c ∈ C.enc k x → (∃ q n, c = .lit (.int q n)) ∨ ∃ s, c = .lit (.string s)) ∧ ∃ i z, P.info? et = some i ∧ i.zero = some z ∧ isCell z = true
  slice : ∀ t ti e s, T t = some ti → ti.shp = .slice e s → P.underlying t = some (.slice e) ∧ ∃ i, P.info? e = some i ∧ i.size = C.sz s ∧ i.bytes = C.by' s

theorem add_at (b o j : Nat) : (at' b o).add j = at' b (o + j) := by unfold Addr.add; split <;> simp_all [at']

section
variable {P : Program} {C : Cod κ Ty} {T : TypeId → Option (TI κ Ty)}
variable {Mut : Nat → Prop} {Lent : Org κ Ty} {w0 w w' : World} {ρ ρ' : Nat → Loc} {env : Env κ Ty} {objs objs' : Objs κ Ty} {a : Act}
variable {x : AV κ Ty} {next : Act → World → Prop} {Q : Exit → Act → World → Prop} {o : Oper}

theorem wp_value {u : Value} (h : (execOp a.eval o).run P w = .ok (.value u) w') (hn : next (a.put o.dst u) w') : o.wp P a w next Q := by
  simp only [Oper.wp, h, Oper.upon]; exact hn
theorem wp_skip' (h : (execOp a.eval o).run P w = .ok .skip w') (hn : next (a.put o.dst undef) w') : o.wp P a w next Q := by
  simp only [Oper.wp, h, Oper.upon]; exact hn

theorem ifB_some {b : Bool} {K : Bool → Option R} {r : R} (h : ifB b K = some r) : K b = some r := by cases b <;> exact h
theorem bind_some {α : Type} {x : Option α} {K : α → Option R} {r : R} (h : x.bind K = some r) : ∃ y, x = some y ∧ K y = some r := by
  cases x with
  | none => cases h
  | some y => exact ⟨y, rfl, h⟩

theorem look_rel (S : SRel C Mut Lent w0 ρ env objs a.tmps w) (t : Nat) : VRel C w Mut ρ objs (look env t) (a.tmps.getD t undef) := by
  rcases S.env t with h | ⟨u, h1, h2⟩
  · rw [h]; exact .undef
  · have : a.tmps.getD t undef = u := by simp [h1]
    rw [this]; exact h2
theorem opnd_rel (HT : TOk P C T) (S : SRel C Mut Lent w0 ρ env objs a.tmps w) (ty : TypeId) (x : Operand) : VRel C w Mut ρ objs (opnd T env ty x) (a.eval x) := by
  cases x with
  | tmp t => exact look_rel S t
  | const v =>
    simp only [opnd, Act.eval]
    split
    · split
      · split
        · exact .nil
        · exact .undef
      · exact .undef
    · exact .undef
    · exact .undef
    · rename_i h1 h2 h3
      refine .lit ?_
      cases v <;> simp_all [isCell]
  | global g => exact .undef
  | func f => exact .lit rfl

/-- the same world: only the variable turns -/
theorem lit_inv {v u : Value} (h : VRel C w Mut ρ objs (.lit v) u) : u = v ∧ isCell v = true := by cases h with | lit h => exact ⟨rfl, h⟩

theorem run_isAgg (HT : TOk P C T) {t : TypeId} {ti : TI κ Ty} (h : T t = some ti) (w : World) : (isAgg t).run P w = .ok ti.agg w := by
  obtain ⟨d, h1, h2⟩ := HT.agg t ti h
  simp only [isAgg, Sem.run_bind, run_underlying h1, Result.andThen_ok]
  cases d <;> simp_all
theorem runTI {t : TypeId} {i : TypeInfo} (h : P.info? t = some i) (w : World) : (typeInfo t).run P w = .ok i w := by
  simp [typeInfo, h]
theorem runSz {t : TypeId} {i : TypeInfo} (h : P.info? t = some i) (w : World) : (Go.sizeOf t).run P w = .ok i.size w := by
  simp [Go.sizeOf, runTI h]
theorem run_sizeOf' (HT : TOk P C T) {t : TypeId} {ti : TI κ Ty} (h : T t = some ti) (w : World) : (Go.sizeOf t).run P w = .ok ti.size w := by
  obtain ⟨i, z, h1, h2, _⟩ := HT.info t ti h
  rw [← h2]; exact runSz h1 w
theorem run_zeroValue' (HT : TOk P C T) {t : TypeId} {ti : TI κ Ty} (h : T t = some ti) (w : World) : ∃ z, (zeroValue t).run P w = .ok z w ∧ z.cells.toList.map some = ti.zero.map zval ∧ (∀ v ∈ z.cells.toList, isCell v = true) := by
  obtain ⟨i, z, h1, h2, _, h3, h4, h5⟩ := HT.info t ti h
  exact ⟨z, by simp [zeroValue, runTI h1, h3], h4, h5⟩

/-- reading at cells that are there -/
theorem run_loadVar (HT : TOk P C T) {t : TypeId} {ti : TI κ Ty} (ht : T t = some ti) {cs : List (AV κ Ty)} {b base off : Nat} {v : AV κ Ty}
    (hcell : ∀ j cl, cs[j]? = some cl → ∃ u, w.cell? (at' b (base + j)) = some u ∧ isCell u = true ∧ VRel C w Mut ρ objs cl u)
    (h : loadC ti cs off = some v) : ∃ u, (loadVar t (at' b (base + off))).run P w = .ok u w ∧ VRel C w Mut ρ objs v u := by
  unfold loadC at h
  split at h
  · rename_i hag
    split at h
    · rename_i hle
      have hle : off + ti.size ≤ cs.length := Nat.le_of_ble_eq_true hle
      cases h
      have hall : ∀ j, j < ti.size → ∃ u, w.cell? (at' b (base + off + j)) = some u ∧ isCell u = true ∧ ∃ cl, cs[off + j]? = some cl ∧ VRel C w Mut ρ objs cl u := by
        intro j hj
        have hlt : off + j < cs.length := by omega
        obtain ⟨u, h1, h2, h3⟩ := hcell (off + j) cs[off + j] (List.getElem?_eq_getElem hlt)
        exact ⟨u, by rw [Nat.add_assoc]; exact h1, h2, _, List.getElem?_eq_getElem hlt, h3⟩
      let f : Nat → Value := fun j => (w.cell? (at' b (base + off + j))).getD Go.undef
      have hf : ∀ j, j < ti.size → w.cell? (at' b (base + off + j)) = some (f j) := fun j hj => by
        obtain ⟨u, h1, _⟩ := hall j hj
        simp [f, h1]
      refine ⟨.agg ((List.range ti.size).map f).toArray, ?_, ?_⟩
      · have hl := run_loadCells (P := P) w (at' b (base + off)) ti.size f (fun j hj => by rw [add_at]; exact hf j hj)
        simp [loadVar, run_isAgg HT ht, hag, run_sizeOf' HT ht, hl]
      · refine .agg (by simp; omega) (fun j u hj => ?_) (fun j cl u hj1 hj2 => ?_)
        · simp only [List.getElem?_map, Option.map_eq_some_iff] at hj
          obtain ⟨j', h1, rfl⟩ := hj
          have h2 : j' < ti.size := by
            have := List.mem_of_getElem? h1; simpa using this
          obtain ⟨u, g1, g2, _⟩ := hall j' h2
          have : f j' = u := by simp [f, g1]
          rw [this]; exact g2
        · have hjs : j < ti.size := by
            have := (List.getElem?_eq_some_iff.mp hj2).1; simpa using this
          rw [List.getElem?_take_of_lt hjs, List.getElem?_drop] at hj1
          obtain ⟨u', g1, g2, cl', g3, g4⟩ := hall j hjs
          rw [hj1] at g3; cases g3
          have : u = u' := by
            simp [List.getElem?_map, List.getElem?_range hjs, f, g1] at hj2
            exact hj2.symm
          rw [this]; exact g4
    · cases h
  · rename_i hag
    obtain ⟨u, h1, h2, h3⟩ := hcell off v h
    exact ⟨u, by simp [loadVar, run_isAgg HT ht, hag, run_load, h1], h3⟩


theorem deep_isCell (HC : CodOk C) {t : κ} {x : Ty t} {cl : AV κ Ty} {u : Value} (hm : cl ∈ C.enc t x) (h : VRel C w Mut ρ objs cl u) : isCell u = true := by
  rcases HC.deep t x cl hm with ⟨v, rfl⟩ | ⟨s, xs, rfl, _⟩
  · exact (lit_inv h).1 ▸ (lit_inv h).2
  · cases h with | inl => rfl

theorem addr_cases (h : isAddr objs x = true) {u : Value} (hr : VRel C w Mut ρ objs x u) :
    (∃ id off cs, x = .ref id off ∧ objs[id]? = some (.box cs) ∧ u = .pointer (some (at' (ρ id).block ((ρ id).off + off)))) ∨
    (∃ id i off t xs, x = .eref id i off ∧ objs[id]? = some (.sl t xs) ∧ i < xs.length ∧ u = .pointer (some (at' (ρ id).block ((ρ id).off + i * C.sz t + off)))) ∨
    (∃ b cs off blk base, x = .cadr b cs off ∧ u = .pointer (some (at' blk (base + off))) ∧ ¬ Xs Mut ρ objs b blk ∧ blk < w.heap.size ∧ ∀ j cl, cs[j]? = some cl → ∃ v, w.cell? (at' blk (base + j)) = some v ∧ VRel C w Mut ρ objs cl v) := by
  cases hr with
  | ref h1 => exact .inl ⟨_, _, _, rfl, h1, rfl⟩
  | refd hcl hin h1 => simp [isAddr, h1] at h
  | eref h1 hi => exact .inr (.inl ⟨_, _, _, _, _, rfl, h1, hi, rfl⟩)
  | erefd hcl hin h1 => simp [isAddr, h1] at h
  | cadr hX hlt hcell hisc hrel => exact .inr (.inr ⟨_, _, _, _, _, rfl, rfl, hX, hlt, fun j cl hj => ⟨_, hcell j cl hj, hrel j cl hj⟩⟩)
  | _ => simp [isAddr] at h

theorem addr_pointer (h : isAddr objs x = true) {u : Value} (hr : VRel C w Mut ρ objs x u) : ∃ b o, u = .pointer (some (at' b o)) := by
  rcases addr_cases h hr with ⟨_, _, _, _, _, rfl⟩ | ⟨_, _, _, _, _, _, _, _, rfl⟩ | ⟨_, _, _, _, _, _, rfl, _⟩ <;> exact ⟨_, _, rfl⟩

theorem afield_rel {fs : List (Nat × TypeId)} {f d : Nat} {t : TypeId} {x v : AV κ Ty} {b k : Nat} (hd : fs[f]? = some (d, t)) (ha : isAddr objs x = true) (h : afield fs f x = some v)
    (hr : VRel C w Mut ρ objs x (.pointer (some (at' b k)))) : VRel C w Mut ρ objs v (.pointer (some (at' b (k + d)))) := by
  simp only [afield, hd] at h
  cases hr with
  | ref h1 => cases h; rw [Nat.add_assoc]; exact .ref h1
  | refd hcl hin h1 => simp [isAddr, h1] at ha
  | eref h1 hi => cases h; rw [Nat.add_assoc]; exact .eref h1 hi
  | erefd hcl hin h1 => simp [isAddr, h1] at ha
  | cadr hX hlt hcell hisc hrel => cases h; rw [Nat.add_assoc]; exact .cadr hX hlt hcell hisc hrel
  | _ => simp [isAddr] at ha

/-- 'aload' -/
theorem aload_sound (HT : TOk P C T) (HC : CodOk C) (S : SRel C Mut Lent w0 ρ env objs a.tmps w) {t : TypeId} {ti : TI κ Ty} (ht : T t = some ti) {x : AV κ Ty} {u : Value} (hx : VRel C w Mut ρ objs x u)
    {K : AV κ Ty → Option R} {r : R} (h : aload C objs ti x K = some r) : ∃ v u', K v = some r ∧ (Instr.loadAt t u).run P w = .ok u' w ∧ VRel C w Mut ρ objs v u' := by
  unfold aload at h
  split at h
  · rename_i id off
    split at h
    · rename_i cs hb
      split at h
      · rename_i v hv
        have hb' := boxOf_some hb
        have ho := S.ob id
        simp only [ORel, hb'] at ho
        cases hx with
        | ref h1 =>
          obtain ⟨u', h2, h3⟩ := run_loadVar (P := P) HT ht (b := (ρ id).block) (base := (ρ id).off) (fun j cl hj => by
            obtain ⟨q, g1, g2, g3, _⟩ := ho.2 j cl hj
            exact ⟨q, g1, g2, g3⟩) hv
          exact ⟨v, u', h, by simp [Instr.loadAt, Instr.sureAddr, h2], h3⟩
        | refd hcl hin h1 => rw [h1] at hb; cases hb
      · cases h
    · cases h
  · rename_i id i off
    split at h
    · rename_i s xs hs
      obtain ⟨x1, hx1, h⟩ := bind_some h
      split at h
      · rename_i v hv
        have hs' := slOf_some hs
        have ho := S.ob id
        simp only [ORel, hs'] at ho
        cases hx with
        | eref h1 hi =>
          rw [hs'] at h1
          cases h1
          obtain ⟨u', h2, h3⟩ := run_loadVar (P := P) HT ht (b := (ρ id).block) (base := (ρ id).off + i * C.sz s) (fun j cl hj => by
            obtain ⟨q, g1, g2⟩ := ho.2.2.1 i x1 j cl hx1 hj
            exact ⟨q, g1, deep_isCell HC (List.mem_of_getElem? hj) g2, g2⟩) hv
          exact ⟨v, u', h, by simp [Instr.loadAt, Instr.sureAddr, h2], h3⟩
        | erefd hcl hin h1 => rw [h1] at hs; cases hs
      · cases h
    · cases h
  · rename_i b cs off
    split at h
    · rename_i v hv
      cases hx with
      | cadr hX hlt hcell hisc hrel =>
        rename_i blk base vals
        obtain ⟨u', h2, h3⟩ := run_loadVar (P := P) HT ht (b := blk) (base := base) (fun j cl hj => ⟨_, hcell j cl hj, hisc j cl hj, hrel j cl hj⟩) hv
        exact ⟨v, u', h, by simp [Instr.loadAt, Instr.sureAddr, h2], h3⟩
    · cases h
  · cases h


theorem ibin_sound {op : BinOp} {k : IntKind} {p q : Int} {K : Value → Option R} {r : R} (t : TypeId) (hs : op ≠ .shl ∧ op ≠ .shr) (h : ibin op k p q K = some r) :
    ∃ v, K v = some r ∧ isCell v = true ∧ (binOp op t (.int k p) (.int k q)).run P w = .ok v w := by
  cases op <;> simp only [ibin] at h <;> first
    | (exact ⟨_, h, rfl, by simp [binOp, Op.intArith, Op.intCmp, Op.intBits]⟩)
    | (obtain ⟨y, hy, h⟩ := bind_some h
       unfold qdiv at hy
       split at hy
       · cases hy
       · rename_i hne; cases hy
         exact ⟨_, h, rfl, by simp [binOp, Op.intDiv, hne]⟩)
    | (obtain ⟨y, hy, h⟩ := bind_some h
       unfold qrem at hy
       split at hy
       · cases hy
       · rename_i hne; cases hy
         exact ⟨_, h, rfl, by simp [binOp, Op.intDiv, hne]⟩)
    | (cases h; done)
    | (exact absurd rfl hs.1)
    | (exact absurd rfl hs.2)


theorem i64max : IntKind.i64.max = 9223372036854775807 := by decide
theorem sbin_sound {op : BinOp} {p q : ByteArray} {K : Value → Option R} {r : R} (t : TypeId) (h : sbin op p q K = some r) :
    ∃ v, K v = some r ∧ isCell v = true ∧ (binOp op t (.string p) (.string q)).run P w = .ok v w := by
  cases op <;> simp only [sbin] at h <;> first
    | (cases h; done)
    | (exact ⟨_, h, rfl, by simp [binOp, Op.stringOp]⟩)
    | (obtain ⟨y, hy, h⟩ := bind_some h
       unfold sadd at hy
       split at hy
       · cases hy
         refine ⟨_, h, rfl, ?_⟩
         have hle : ¬ (((p.size + q.size : Nat) : Int) > IntKind.i64.max) := by rw [i64max]; omega
         simp only [binOp, Op.stringOp, hle, if_false, Sem.run_pure]
       · cases hy)
theorem shift_sound {op : BinOp} {k k' : IntKind} {p q : Int} {v : Int} (t : TypeId) (h : shift op k p q = some v) : isCell (.int k v) = true ∧ (binOp op t (.int k p) (.int k' q)).run P w = .ok (.int k v) w := by
  cases op <;> simp only [shift] at h <;> first
    | (cases h; done)
    | (split at h
       · cases h
       · rename_i hn; cases h; exact ⟨rfl, by simp [binOp, Op.shift, hn]⟩)
theorem boolEq' {t : TypeId} (HB : P.underlying t = some .bool) (p q : Bool) (d : Nat) : (Op.equalIn (d + 1) t (.bool p) (.bool q)).run P w = .ok (p == q) w := by
  simp only [Op.equalIn, Sem.run_bind, run_underlying HB, Result.andThen_ok]
  rfl
theorem boolEq {t : TypeId} (HB : P.underlying t = some .bool) (p q : Bool) : (Op.equal t (.bool p) (.bool q)).run P w = .ok (p == q) w := boolEq' HB p q 9999
theorem guard_lit {op : BinOp} {t : TypeId} {x y : Operand} {u v : Value} (h : ∀ cs, u ≠ .agg cs) (h' : u ≠ .nilIface) : (eqGuard op t x y u v).run P w = .ok () w := by
  unfold eqGuard
  cases u <;> cases op <;> simp at h h' ⊢
theorem vbin_sound (HT : TOk P C T) {t : TypeId} {ti : TI κ Ty} (ht : T t = some ti) {op : BinOp} {p q : AV κ Ty} {up uq : Value} (x y : Operand) (hp : VRel C w Mut ρ objs p up) (hq : VRel C w Mut ρ objs q uq)
    {K : AV κ Ty → Option R} {r : R} (h : vbin ti op p q K = some r) : ∃ v u, K v = some r ∧ (do eqGuard op t x y up uq; binOp op t up uq : Sem Value).run P w = .ok u w ∧ VRel C w Mut ρ objs v u := by
  unfold vbin at h
  split at h
  · split at h
    · obtain ⟨v, hv, h⟩ := bind_some h
      obtain ⟨rfl, _⟩ := lit_inv hp
      obtain ⟨rfl, _⟩ := lit_inv hq
      obtain ⟨h1, h2⟩ := shift_sound (P := P) (w := w) t hv
      exact ⟨_, _, h, by rw [Sem.run_bind, guard_lit (by simp) (by simp)]; exact h2, .lit h1⟩
    · cases h
  · split at h
    · obtain ⟨v, hv, h⟩ := bind_some h
      obtain ⟨rfl, _⟩ := lit_inv hp
      obtain ⟨rfl, _⟩ := lit_inv hq
      obtain ⟨h1, h2⟩ := shift_sound (P := P) (w := w) t hv
      exact ⟨_, _, h, by rw [Sem.run_bind, guard_lit (by simp) (by simp)]; exact h2, .lit h1⟩
    · cases h
  · rename_i n1 n2
    split at h
    · split at h
      · rename_i hk
        have hk := of_decide_eq_true hk
        subst hk
        obtain ⟨rfl, _⟩ := lit_inv hp
        obtain ⟨rfl, _⟩ := lit_inv hq
        obtain ⟨v, h0, h1, h2⟩ := ibin_sound (P := P) (w := w) t ⟨n1, n2⟩ h
        exact ⟨_, _, h0, by rw [Sem.run_bind, guard_lit (by simp) (by simp)]; exact h2, .lit h1⟩
      · cases h
    · obtain ⟨rfl, _⟩ := lit_inv hp
      obtain ⟨rfl, _⟩ := lit_inv hq
      obtain ⟨v, h0, h1, h2⟩ := sbin_sound (P := P) (w := w) t h
      exact ⟨_, _, h0, by rw [Sem.run_bind, guard_lit (by simp) (by simp)]; exact h2, .lit h1⟩
    · obtain ⟨rfl, _⟩ := lit_inv hp
      obtain ⟨rfl, _⟩ := lit_inv hq
      split at h
      · rename_i hs
        have HB := HT.bool t ti ht hs
        split at h
        · exact ⟨_, _, h, by rw [Sem.run_bind, guard_lit (by simp) (by simp)]; simp [binOp, boolEq HB], .lit rfl⟩
        · exact ⟨_, _, h, by rw [Sem.run_bind, guard_lit (by simp) (by simp)]; simp [binOp, boolEq HB], .lit rfl⟩
        · cases h
      · cases h
    · cases h

end
end Km
namespace Km
open Go
set_option linter.unusedVariables false
set_option linter.unusedSimpArgs false

variable {κ : Type} {Ty : κ → Type} {R : Type}

theorem splice_nil {α : Type} (cs : List α) (o : Nat) : splice cs o [] = cs := by cases cs <;> rfl
theorem splice_length {α : Type} : ∀ (cs : List α) (o : Nat) (ns : List α), (splice cs o ns).length = cs.length
  | cs, o, [] => by rw [splice_nil]
  | [], _, _ :: _ => rfl
  | c :: cs, 0, n :: ns => by simp [splice, splice_length cs 0 ns]
  | c :: cs, o + 1, n :: ns => by simp [splice, splice_length cs o (n :: ns)]
theorem splice_get {α : Type} : ∀ (cs : List α) (o : Nat) (ns : List α) (j : Nat), o + ns.length ≤ cs.length →
    (splice cs o ns)[j]? = if o ≤ j ∧ j < o + ns.length then ns[j - o]? else cs[j]?
  | cs, o, [], j, _ => by rw [splice_nil, if_neg (by simp)]
  | [], _, _ :: _, j, h => by simp at h
  | c :: cs, 0, n :: ns, 0, h => by simp [splice]
  | c :: cs, 0, n :: ns, j + 1, h => by
    have := splice_get cs 0 ns j (by simp at h; omega)
    simp only [splice, List.getElem?_cons_succ, this]
    by_cases hj : j < ns.length
    · rw [if_pos ⟨by omega, by omega⟩, if_pos ⟨by omega, by simp; omega⟩]; simp
    · rw [if_neg (by omega), if_neg (by simp; omega)]
  | c :: cs, o + 1, n :: ns, 0, h => by simp [splice]
  | c :: cs, o + 1, n :: ns, j + 1, h => by
    have := splice_get cs o (n :: ns) j (by simp at h ⊢; omega)
    simp only [splice, List.getElem?_cons_succ, this]
    by_cases hj : o ≤ j ∧ j < o + (n :: ns).length
    · rw [if_pos hj, if_pos ⟨by omega, by omega⟩]; congr 1; omega
    · rw [if_neg hj, if_neg (by omega)]

theorem splice_succ {α : Type} : ∀ (cs : List α) (o : Nat) (n : α) (ns : List α), o + (n :: ns).length ≤ cs.length → splice (cs.set o n) (o + 1) ns = splice cs o (n :: ns) := by
  intro cs o n ns h
  apply List.ext_getElem?
  intro j
  rw [splice_get _ _ _ _ (by simp at h ⊢; omega), splice_get _ _ _ _ h]
  simp only [List.length_cons] at h ⊢
  by_cases h1 : o + 1 ≤ j ∧ j < o + 1 + ns.length
  · rw [if_pos h1, if_pos ⟨by omega, by omega⟩]
    obtain ⟨i, rfl⟩ : ∃ i, j = o + 1 + i := ⟨j - (o + 1), by omega⟩
    simp [show o + 1 + i - (o + 1) = i by omega, show o + 1 + i - o = i + 1 by omega]
  · rw [if_neg h1]
    by_cases h2 : o ≤ j ∧ j < o + (ns.length + 1)
    · have : j = o := by omega
      subst this
      rw [if_pos h2]
      simp [show j < cs.length by omega]
    · rw [if_neg h2, List.getElem?_set_ne (by omega)]

theorem fold_splice {α : Type} : ∀ (ns : List α) (k : Nat) (cs : Array α) (off : Nat), off + k + ns.length ≤ cs.size →
    ((ns.zipIdx k).foldl (fun cs (p : α × Nat) => cs.setIfInBounds (off + p.2) p.1) cs).toList = splice cs.toList (off + k) ns
  | [], k, cs, off, _ => by simp [splice_nil]
  | n :: ns, k, cs, off, h => by
    simp only [List.zipIdx_cons, List.foldl_cons]
    simp only [List.length_cons] at h
    rw [fold_splice ns (k + 1) _ off (by simp; omega)]
    rw [Array.toList_setIfInBounds, show off + (k + 1) = off + k + 1 by omega]
    exact splice_succ _ _ _ _ (by simp; omega)

section
variable {P : Program} {C : Cod κ Ty} {T : TypeId → Option (TI κ Ty)}
variable {Mut : Nat → Prop} {Lent : Org κ Ty} {w0 w w' : World} {ρ ρ' : Nat → Loc} {env : Env κ Ty} {objs objs' : Objs κ Ty} {a : Act}

theorem mapM_run {α β : Type} (f : α → Sem β) (g : α → β) : ∀ (l : List α), (∀ x ∈ l, (f x).run P w = .ok (g x) w) → (l.mapM f).run P w = .ok (l.map g) w
  | [], _ => by simp
  | x :: l, h => by
    have ih := mapM_run f g l (fun y hy => h y (by simp [hy]))
    simp [List.mapM_cons, h x (by simp), ih]
theorem amapM_run {α β : Type} (f : α → Sem β) (g : α → β) (l : Array α) (h : ∀ x ∈ l.toList, (f x).run P w = .ok (g x) w) : (l.mapM f).run P w = .ok (l.map g) w := by
  rw [Array.mapM_eq_mapM_toList]
  have := mapM_run (P := P) (w := w) f g l.toList h
  simp only [Sem.run_map, this, Result.andThen_ok]
  congr 1
  apply Array.ext'
  simp

/-- cells and what they tell, side by side -/
def Cells (C : Cod κ Ty) (w : World) (Mut : Nat → Prop) (ρ : Nat → Loc) (objs : Objs κ Ty) (cs : List (AV κ Ty)) (us : List Value) : Prop :=
  us.length = cs.length ∧ (∀ (j : Nat) (u : Value), us[j]? = some u → isCell u = true) ∧ ∀ (j : Nat) (cl : AV κ Ty) (u : Value), cs[j]? = some cl → us[j]? = some u → VRel C w Mut ρ objs cl u

theorem Cells.agg {cs : List (AV κ Ty)} {us : List Value} (h : Cells C w Mut ρ objs cs us) : VRel C w Mut ρ objs (.agg cs) (.agg us.toArray) := .agg h.1 h.2.1 h.2.2

theorem cells_splice {cs ns : List (AV κ Ty)} {us vs : List Value} {o : Nat} (h : Cells C w Mut ρ objs cs us) (h' : Cells C w Mut ρ objs ns vs) (hle : o + ns.length ≤ cs.length) : Cells C w Mut ρ objs (splice cs o ns) (splice us o vs) := by
  obtain ⟨h1, h2, h3⟩ := h
  obtain ⟨g1, g2, g3⟩ := h'
  refine ⟨by rw [splice_length, splice_length, h1], fun j u hj => ?_, fun j cl u hc hu => ?_⟩
  · rw [splice_get _ _ _ _ (by omega)] at hj
    split at hj
    · exact g2 _ _ hj
    · exact h2 _ _ hj
  · rw [splice_get _ _ _ _ (by omega)] at hc hu
    rw [g1] at hu
    split at hc
    · rename_i hh; rw [if_pos hh] at hu; exact g3 _ _ _ hc hu
    · rename_i hh; rw [if_neg hh] at hu; exact h3 _ _ _ hc hu

theorem rel_isCell {x : AV κ Ty} {u : Value} {cs : List (AV κ Ty)} (h : cellsOf x = some cs) (hr : VRel C w Mut ρ objs x u) (hx : ∀ l, x ≠ .agg l) : isCell u = true ∧ cs = [x] := by
  cases hr with
  | agg hl hcell hrel => exact absurd rfl (hx _)
  | lit hc => cases h; exact ⟨hc, rfl⟩
  | tup => cases h
  | void => cases h
  | undef => cases h
  | _ => cases h; exact ⟨by first | rfl | assumption, rfl⟩
/-- the cells of a value -/
theorem cellsOf_rel {x : AV κ Ty} {u : Value} {cs : List (AV κ Ty)} (h : cellsOf x = some cs) (hr : VRel C w Mut ρ objs x u) : Cells C w Mut ρ objs cs u.cells.toList := by
  by_cases hx : ∃ l, x = .agg l
  · obtain ⟨l, rfl⟩ := hx
    cases h
    cases hr with
    | agg hl hcell hrel => exact ⟨hl, hcell, hrel⟩
  · obtain ⟨hc, rfl⟩ := rel_isCell h hr (fun l e => hx ⟨l, e⟩)
    have he : u.cells = #[u] := by cases u <;> simp_all [isCell, Value.cells]
    rw [he]
    refine ⟨rfl, fun j u' hj => ?_, fun j cl u' hc' hu' => ?_⟩
    · cases j <;> simp at hj; subst hj; exact hc
    · cases j <;> simp at hc' hu'; subst hc'; subst hu'; exact hr
theorem isCell_one {u : Value} (h : isCell u = true) : u.oneCell' = true := by cases u <;> simp_all [isCell, Value.oneCell']

/-- a type's zero -/
theorem zero_cells {P : Program} (HT : TOk P C T) {t : TypeId} {ti : TI κ Ty} (ht : T t = some ti) (w : World) : ∃ z, (zeroValue t).run P w = .ok z w ∧ Cells C w Mut ρ objs ti.zero z.cells.toList := by
  obtain ⟨z, h1, h2, h3⟩ := run_zeroValue' HT ht w
  have hl : z.cells.toList.length = ti.zero.length := by have := congrArg List.length h2; simpa using this
  refine ⟨z, h1, hl, fun j u hj => h3 u (List.mem_of_getElem? hj), fun j cl u hc hu => ?_⟩
  have := congrArg (fun l => l[j]?) h2
  simp only [List.getElem?_map, hu, hc, Option.map_some] at this
  cases cl <;> simp [zval] at this
  · rw [← this]; exact .lit (h3 u (List.mem_of_getElem? hu))
  · rw [this]; exact .nil

end
end Km
namespace Km
open Go
set_option linter.unusedVariables false
set_option linter.unusedSimpArgs false

variable {κ : Type} {Ty : κ → Type} {R : Type}
section
variable {P : Program} {C : Cod κ Ty} {T : TypeId → Option (TI κ Ty)}
variable {Mut : Nat → Prop} {Lent : Org κ Ty} {w0 w w' : World} {ρ ρ' : Nat → Loc} {env : Env κ Ty} {objs objs' : Objs κ Ty} {a : Act}

/-- values that stand for the parts of a literal -/
def Parts (C : Cod κ Ty) (w : World) (Mut : Nat → Prop) (ρ : Nat → Loc) (objs : Objs κ Ty) : List (Nat × AV κ Ty) → List (Nat × Value) → Prop
  | [], [] => True
  | (i, x) :: ps, (j, u) :: qs => i = j ∧ VRel C w Mut ρ objs x u ∧ Parts C w Mut ρ objs ps qs
  | _, _ => False

theorem partsOf_rel (HT : TOk P C T) (S : SRel C Mut Lent w0 ρ env objs a.tmps w) (ty : Nat → TypeId) : ∀ (ps : List (Nat × Operand)), Parts C w Mut ρ objs (partsOf T env ty ps) (ps.map fun p => (p.1, a.eval p.2))
  | [] => trivial
  | (i, x) :: ps => ⟨rfl, opnd_rel HT S _ _, partsOf_rel HT S ty ps⟩

theorem fill_sound (HT : TOk P C T) {fs : List (Nat × TypeId)} {place : Nat → Option (Nat × Nat)} (hp : ∀ i d t ti, fs[i]? = some (d, t) → T t = some ti → place i = some (d, ti.size)) :
    ∀ (ps : List (Nat × AV κ Ty)) (qs : List (Nat × Value)) (cs cs' : List (AV κ Ty)) (us : Array Value), Parts C w Mut ρ objs ps qs → Cells C w Mut ρ objs cs us.toList → fillC T fs cs ps = some cs' →
      ∃ us', Instr.fill place us qs = some us' ∧ Cells C w Mut ρ objs cs' us'.toList
  | [], [], cs, cs', us, _, hc, h => by cases h; exact ⟨us, rfl, hc⟩
  | (i, x) :: ps, (j, u) :: qs, cs, cs', us, hpq, hc, h => by
    obtain ⟨rfl, hx, hrest⟩ := hpq
    simp only [fillC] at h
    split at h
    · cases h
    · rename_i d t hd
      split at h
      · rename_i ns ti hns hti
        split at h
        · rename_i heq
          split at h
          · rename_i hle
            have heq := Nat.eq_of_beq_eq_true heq
            have hle := Nat.le_of_ble_eq_true hle
            have hns' := cellsOf_rel hns hx
            have hsz : u.cells.size = ti.size := by have := hns'.1; simp at this; omega
            have hlen := hc.1
            have hsp := cells_splice hc hns' hle
            have hf := fold_splice u.cells.toList 0 us d (by simp at hlen ⊢; omega)
            simp only [Nat.add_zero] at hf
            obtain ⟨us', h1, h2⟩ := fill_sound HT hp ps qs _ cs' (u.cells.zipIdx.foldl (fun cs (c, j) => cs.setIfInBounds (d + j) c) us) hrest (by
              rw [← Array.foldl_toList, Array.toList_zipIdx]
              rw [hf]; exact hsp) h
            refine ⟨us', ?_, h2⟩
            simp only [Instr.fill, hp i d t ti hd hti]
            rw [if_neg (by simp at hlen ⊢; omega)]
            exact h1
          · cases h
        · cases h
      · cases h
  | [], _ :: _, _, _, _, h, _, _ => h.elim
  | _ :: _, [], _, _, _, h, _, _ => h.elim

theorem build_sound (HT : TOk P C T) {t : TypeId} {ti : TI κ Ty} (ht : T t = some ti) {fs : List (Nat × TypeId)} (hs : ti.shp = .struct fs) {ps : List (Nat × AV κ Ty)} {qs : List (Nat × Value)} {cs : List (AV κ Ty)}
    (hp : Parts C w Mut ρ objs ps qs) (h : fillC T fs ti.zero ps = some cs) : ∃ us : List Value, (Instr.build t qs.toArray).run P w = .ok (.agg us.toArray) w ∧ Cells C w Mut ρ objs cs us := by
  obtain ⟨z, hz, hzc⟩ := zero_cells (C := C) (Mut := Mut) (ρ := ρ) (objs := objs) HT ht w
  obtain ⟨fields, hu, hfs, hfi⟩ := HT.struct t ti fs ht hs
  have hm := amapM_run (P := P) (w := w) (fun f : Field => do pure (f.offset, ← Go.sizeOf f.type)) (fun f => (f.offset, P.cellsOf f.type)) fields (fun f hf => by
    obtain ⟨i, hi, _⟩ := hfi f hf
    simp [runSz hi, Program.cellsOf, hi])
  obtain ⟨us', h1, h2⟩ := fill_sound (P := P) HT (fs := fs) (place := ((fields.map fun f => (f.offset, P.cellsOf f.type))[·]?)) (fun i d t ti hd hti => by
    rw [← hfs] at hd
    simp only [List.getElem?_map, Option.map_eq_some_iff] at hd
    obtain ⟨f, hf, he⟩ := hd
    cases he
    obtain ⟨ii, z', hi1, hi2, _⟩ := HT.info _ _ hti
    have hf' : fields[i]? = some f := by rw [← Array.getElem?_toList]; exact hf
    simp [hf', Program.cellsOf, hi1, hi2]) ps qs _ cs z.cells hp hzc h
  refine ⟨us'.toList, ?_, h2⟩
  simp only [Instr.build, Sem.run_bind, hz, Result.andThen_ok, run_underlying hu, hm]
  simp only [List.toList_toArray, h1]
  rfl

/-- a struct's part, out of its cells -/
theorem part_sound (HT : TOk P C T) {t : TypeId} {ti : TI κ Ty} (ht : T t = some ti) {cs : List (AV κ Ty)} {us : List Value} {d : Nat} {v : AV κ Ty} (hc : Cells C w Mut ρ objs cs us) (h : loadC ti cs d = some v) :
    ∃ u, (part t us.toArray d).run P w = .ok u w ∧ VRel C w Mut ρ objs v u := by
  unfold loadC at h
  split at h
  · rename_i hag
    split at h
    · rename_i hle
      have hle := Nat.le_of_ble_eq_true hle
      cases h
      refine ⟨.agg ((us.drop d).take ti.size).toArray, ?_, ?_⟩
      · simp only [part, Sem.run_bind, run_isAgg HT ht, Result.andThen_ok, hag, if_true, run_sizeOf' HT ht, Sem.run_pure]
        congr 2
        apply Array.ext'
        simp [List.take_drop]
      · obtain ⟨h1, h2, h3⟩ := hc
        refine .agg (by simp; omega) (fun j u hj => ?_) (fun j cl u hj1 hj2 => ?_)
        · have hjs : j < ti.size := by have := (List.getElem?_eq_some_iff.mp hj).1; simp at this; omega
          rw [List.getElem?_take_of_lt hjs, List.getElem?_drop] at hj
          exact h2 _ _ hj
        · have hjs : j < ti.size := by have := (List.getElem?_eq_some_iff.mp hj2).1; simp at this; omega
          rw [List.getElem?_take_of_lt hjs, List.getElem?_drop] at hj1 hj2
          exact h3 _ _ _ hj1 hj2
    · cases h
  · rename_i hag
    obtain ⟨h1, h2, h3⟩ := hc
    have hlt := (List.getElem?_eq_some_iff.mp h).1
    have hu : us[d]? = some us[d] := List.getElem?_eq_getElem (by omega)
    refine ⟨us[d], ?_, h3 d v _ h hu⟩
    simp only [part, Sem.run_bind, run_isAgg HT ht, Result.andThen_ok, hag, Bool.false_eq_true, if_false]
    simp [hu]

/-- bounds of a slice expression -/
inductive BRel : Option Int → Option Value → Prop
  | none : BRel none none
  | some (k : IntKind) (n : Int) : BRel (some n) (some (.int k n))
theorem sliceBounds_sound {lo hi : Option Int} {lv hv : Option Value} {isS : Bool} {n cap l h : Nat} (hlo : BRel lo lv) (hhi : BRel hi hv) (hcap : n ≤ cap) (hw : wnd n (lo.getD 0) (hi.getD n) = some (l, h)) :
    (Instr.sliceBounds isS n cap lv hv none).run P w = .ok (l, h, cap) w ∧ l ≤ h ∧ h ≤ n := by
  unfold wnd at hw
  split at hw
  · rename_i hh
    obtain ⟨h1, h2, h3⟩ := hh
    cases hw
    refine ⟨?_, by omega, by omega⟩
    cases hlo <;> cases hhi <;> simp only [Option.getD_some, Option.getD_none] at h1 h2 h3 ⊢ <;>
      simp (disch := omega) [Instr.sliceBounds, Instr.sliceBound, asIntOf, if_pos] <;>
      (first | done | (rw [if_pos (by omega)]; simp (disch := omega) [if_pos]) | skip)
  · cases hw


theorem dcut_length {α : Type} (xs : List α) (lo hi : Nat) (h : hi ≤ xs.length) : (dcut xs lo hi).length = hi - lo := by simp [dcut]; omega
theorem dcut_get {α : Type} (xs : List α) (lo hi i : Nat) : (dcut xs lo hi)[i]? = if lo + i < hi then xs[lo + i]? else none := by
  simp only [dcut, List.getElem?_drop, List.getElem?_take]
theorem dcut_some {α : Type} {xs : List α} {lo hi i : Nat} {x : α} (h : (dcut xs lo hi)[i]? = some x) : xs[lo + i]? = some x ∧ lo + i < hi := by
  rw [dcut_get] at h; split at h
  · exact ⟨h, by assumption⟩
  · cases h
theorem idx_some {α : Type} {xs : List α} {i : Int} {x : α} (h : idx xs i = some x) : 0 ≤ i ∧ i < xs.length ∧ xs[i.toNat]? = some x := by
  unfold idx at h
  split at h
  · cases h
  · have := (List.getElem?_eq_some_iff.mp h).1
    exact ⟨by omega, by omega, h⟩

theorem inl_cut {b : Bool} {t : κ} {xs : List (Ty t)} {A : Option Addr} {n c l h : Nat} (hr : VRel C w Mut ρ objs (.inl b t xs) (.slice A n c)) (hlh : l ≤ h) (hh : h ≤ xs.length) :
    n = xs.length ∧ n ≤ c ∧ VRel C w Mut ρ objs (.inl b t (dcut xs l h)) (.slice (if c = l then A else A.map (·.add (l * C.sz t))) (h - l) (c - l)) := by
  cases hr with
  | inl hb hc hA hcell hrel =>
    rename_i blk off vals
    refine ⟨rfl, hc, ?_⟩
    have := VRel.inl (C := C) (w := w) (Mut := Mut) (ρ := ρ) (objs := objs) (b := b) (t := t) (xs := dcut xs l h) (A := if c = l then A else A.map (·.add (l * C.sz t))) (c := c - l) (blk := blk) (off := off + l * C.sz t) (vals := fun i j => vals (l + i) j) hb
      (by rw [dcut_length _ _ _ hh]; omega)
      (fun hne => by
        have hx : xs ≠ [] := by rintro rfl; simp [dcut] at hne
        have hlt : l < h := by
          have := List.length_pos_iff.mpr hne
          rw [dcut_length _ _ _ hh] at this; omega
        obtain ⟨a1, a2, a3⟩ := hA hx
        refine ⟨?_, a2, a3⟩
        rw [if_neg (by omega), a1]
        simp [add_at])
      (fun i x j cl hx hj => by
        obtain ⟨h1, h2⟩ := dcut_some hx
        have := hcell _ _ _ _ h1 hj
        rw [← this, Nat.add_mul]; congr 2; omega)
      (fun i x j cl hx hj => hrel _ _ _ _ (dcut_some hx).1 hj)
    rw [dcut_length _ _ _ hh] at this
    exact this

theorem aslice_sound (HT : TOk P C T) (HC : CodOk C) (S : SRel C Mut Lent w0 ρ env objs a.tmps w) {t : TypeId} {ti : TI κ Ty} (ht : T t = some ti) {x : AV κ Ty} {u : Value} (hx : VRel C w Mut ρ objs x u)
    {lo hi : Option Int} {lv hv : Option Value} (hlo : BRel lo lv) (hhi : BRel hi hv) {K : AV κ Ty → Option R} {r : R} (h : aslice C objs ti.shp x lo hi K = some r) :
    ∃ v u', K v = some r ∧ (Instr.sliceAt t u lv hv none).run P w = .ok u' w ∧ VRel C w Mut ρ objs v u' := by
  unfold aslice at h
  split at h
  · rename_i hs
    have hu := HT.str t ti ht hs
    split at h
    · rename_i s
      obtain ⟨⟨l, m⟩, hp, h⟩ := bind_some h
      obtain ⟨rfl, _⟩ := lit_inv hx
      obtain ⟨h1, _, _⟩ := sliceBounds_sound (P := P) (w := w) (isS := false) hlo hhi (Nat.le_refl _) hp
      refine ⟨_, _, h, ?_, .lit rfl⟩
      simp only [Instr.sliceAt, Sem.run_bind, run_underlying hu, Result.andThen_ok, Instr.slice, Option.isSome_none, Bool.false_eq_true, if_false, h1]
      simp
    · cases h
  · rename_i e s hs
    obtain ⟨hu, i, hi1, hi2, _⟩ := HT.slice t ti e s ht hs
    split at h
    · rename_i id
      split at h
      · rename_i t' xs hsl
        split at h
        · rename_i hsame
          obtain rfl := HC.same _ _ hsame
          obtain ⟨⟨l, m⟩, hp, h⟩ := bind_some h
          have hsl' := slOf_some hsl
          have ho := S.ob id
          simp only [ORel, hsl'] at ho
          cases hx with
          | own h1 hA =>
            rw [hsl'] at h1; cases h1
            obtain ⟨g1, g2, g3⟩ := sliceBounds_sound (P := P) (w := w) (isS := true) hlo hhi ho.1 hp
            refine ⟨_, _, h, ?_, .sub hsl' g2 g3 (c := (ρ id).cap - l) (by omega) (by omega) (A := ?_) (fun hc => ?_)⟩
            rotate_left
            · rename_i A; exact if (ρ id).cap = l then A else A.map (·.add (l * C.sz s))
            · rw [if_neg (by omega), hA (by omega)]; simp [add_at]
            · simp only [Instr.sliceAt, Sem.run_bind, run_underlying hu, Result.andThen_ok, Instr.slice, g1, runSz hi1, hi2, Sem.run_pure]
          | ownd hcl hin h1 => rw [h1] at hsl; cases hsl
        · cases h
      · cases h
    · rename_i b t' xs
      split at h
      · rename_i hsame
        obtain rfl := HC.same _ _ hsame
        obtain ⟨⟨l, m⟩, hp, h⟩ := bind_some h
        have hx' := hx
        cases hx' with
        | inl hb hc hA hcell hrel =>
          obtain ⟨g1, g2, g3⟩ := sliceBounds_sound (P := P) (w := w) (isS := true) hlo hhi hc hp
          refine ⟨_, _, h, ?_, (inl_cut hx g2 g3).2.2⟩
          simp only [Instr.sliceAt, Sem.run_bind, run_underlying hu, Result.andThen_ok, Instr.slice, g1, runSz hi1, hi2, Sem.run_pure]
      · cases h
    · rename_i t'
      obtain ⟨⟨l, m⟩, hp, h⟩ := bind_some h
      cases hx with
      | @nil _ A =>
      obtain ⟨g1, g2, g3⟩ := sliceBounds_sound (P := P) (w := w) (isS := true) hlo hhi (Nat.le_refl 0) hp
      obtain rfl : m = 0 := by omega
      obtain rfl : l = 0 := by omega
      refine ⟨_, .slice A 0 0, h, ?_, .nil⟩
      simp only [Instr.sliceAt, Sem.run_bind, run_underlying hu, Result.andThen_ok, Instr.slice, g1, runSz hi1, hi2, Sem.run_pure]
      simp
    · cases h
  · rename_i n e s hs
    obtain ⟨hu, ⟨i, hi1, hi2, _⟩, _⟩ := HT.arr t ti n e s ht hs
    split at h
    · rename_i id
      split at h
      · rename_i t' xs hsl
        split at h
        · rename_i hsame
          obtain rfl := HC.same _ _ hsame
          obtain ⟨⟨l, m⟩, hp, h⟩ := bind_some h
          split at hp
          · rename_i hn
            have hsl' := slOf_some hsl
            have ho := S.ob id
            simp only [ORel, hsl'] at ho
            cases hx with
            | eref h1 hi =>
              rw [hsl'] at h1; cases h1
              obtain ⟨g1, g2, g3⟩ := sliceBounds_sound (P := P) (w := w) (isS := false) hlo hhi (Nat.le_refl n) hp
              have hcap := ho.1
              refine ⟨_, _, h, ?_, .sub hsl' g2 (by omega) (c := n - l) (by omega) (by omega) (A := some (if n = l then at' (ρ id).block (ρ id).off else (at' (ρ id).block (ρ id).off).add (l * C.sz s))) (fun hc => ?_)⟩
              · simp only [Instr.sliceAt, Sem.run_bind, run_underlying hu, Result.andThen_ok, Instr.sureAddr, g1, runSz hi1, hi2, Sem.run_pure]
                simp [at']
              · rw [if_neg (by omega), add_at]
            | erefd hcl hin h1 => rw [h1] at hsl; cases hsl
          · cases hp
        · cases h
      · cases h
    · cases h
  · cases h

end
end Km
namespace Km
open Go
set_option linter.unusedVariables false
set_option linter.unusedSimpArgs false

variable {κ : Type} {Ty : κ → Type} {R : Type}
section
variable {P : Program} {C : Cod κ Ty} {T : TypeId → Option (TI κ Ty)}
variable {Mut : Nat → Prop} {Lent : Org κ Ty} {w0 w w' : World} {ρ ρ' : Nat → Loc} {env : Env κ Ty} {objs objs' : Objs κ Ty} {a : Act}

theorem enc_cell (HC : CodOk C) {t : κ} {x : Ty t} {j : Nat} {cl : AV κ Ty} (h : (C.enc t x)[j]? = some cl) : cl ∈ C.enc t x := List.mem_of_getElem? h

theorem aindexAddr_sound (HT : TOk P C T) (HC : CodOk C) (S : SRel C Mut Lent w0 ρ env objs a.tmps w) {t : TypeId} {ti : TI κ Ty} (ht : T t = some ti) {x iv : AV κ Ty} {u q : Value} (hx : VRel C w Mut ρ objs x u)
    (hi : VRel C w Mut ρ objs iv q) {K : AV κ Ty → Option R} {r : R} (h : aindexAddr C objs ti.shp x iv K = some r) :
    ∃ v u', K v = some r ∧ (Instr.indexAt t u q).run P w = .ok u' w ∧ VRel C w Mut ρ objs v u' := by
  unfold aindexAddr at h
  split at h
  · rename_i k i
    obtain ⟨rfl, _⟩ := lit_inv hi
    split at h
    · rename_i e s hs
      obtain ⟨hu, ii, hi1, hi2, _⟩ := HT.slice t ti e s ht hs
      split at h
      · rename_i id
        split at h
        · rename_i t' xs hsl
          split at h
          · rename_i hsame
            obtain rfl := HC.same _ _ hsame
            obtain ⟨y, hp, h⟩ := bind_some h
            obtain ⟨p1, p2, p3⟩ := idx_some hp
            have hsl' := slOf_some hsl
            have ho := S.ob id
            simp only [ORel, hsl'] at ho
            cases hx with
            | own h1 hA =>
              rw [hsl'] at h1; cases h1
              have hcap : (ρ id).cap ≠ 0 := by have := ho.1; omega
              refine ⟨_, _, h, ?_, .eref (off := 0) hsl' (by omega)⟩
              rw [hA hcap]
              simp only [Instr.indexAt, asIntOf, Sem.run_bind, Sem.run_pure, Result.andThen_ok, run_underlying hu]
              rw [if_pos ⟨p1, p2⟩]
              simp [runSz hi1, hi2, add_at]
            | ownd hcl hin h1 => rw [h1] at hsl; cases hsl
          · cases h
        · cases h
      · rename_i b t' xs
        split at h
        · rename_i hsame
          obtain rfl := HC.same _ _ hsame
          obtain ⟨y, hp, h⟩ := bind_some h
          obtain ⟨p1, p2, p3⟩ := idx_some hp
          cases hx with
          | inl hb hc hA hcell hrel =>
            rename_i A c blk off vals
            have hne : xs ≠ [] := List.ne_nil_of_mem (List.mem_of_getElem? p3)
            obtain ⟨a1, a2, a3⟩ := hA hne
            refine ⟨_, _, h, ?_, .cadr (base := off + i.toNat * C.sz s) (vals := fun j => vals i.toNat j) a3 a2 (fun j cl hj => hcell _ _ _ _ p3 hj) (fun j cl hj => deep_isCell HC (enc_cell HC hj) (hrel _ _ _ _ p3 hj)) (fun j cl hj => hrel _ _ _ _ p3 hj)⟩
            rw [a1]
            simp only [Instr.indexAt, asIntOf, Sem.run_bind, Sem.run_pure, Result.andThen_ok, run_underlying hu]
            rw [if_pos ⟨p1, p2⟩]
            simp [runSz hi1, hi2, add_at]
        · cases h
      · rename_i id lo hh
        split at h
        · rename_i t' xs hsl
          split at h
          · rename_i hsame
            obtain rfl := HC.same _ _ hsame
            obtain ⟨y, hp, h⟩ := bind_some h
            obtain ⟨p1, p2, p3⟩ := idx_some hp
            have hsl' := slOf_some hsl
            have ho := S.ob id
            simp only [ORel, hsl'] at ho
            cases hx with
            | sub h1 hlo hhi hc hcap hA =>
              rename_i c _ _ A
              rw [hsl'] at h1; cases h1
              rw [dcut_length _ _ _ hhi] at p2
              refine ⟨_, _, h, ?_, .eref (off := 0) hsl' (by omega)⟩
              rw [hA (by omega)]
              simp only [Instr.indexAt, asIntOf, Sem.run_bind, Sem.run_pure, Result.andThen_ok, run_underlying hu]
              rw [if_pos ⟨p1, p2⟩]
              simp [runSz hi1, hi2, add_at, Nat.add_mul, Nat.add_assoc]
            | subd hcl hin h1 => rw [h1] at hsl; cases hsl
          · cases h
        · cases h
      · cases h
    · rename_i n e s hs
      obtain ⟨hu, ⟨ii, hi1, hi2, _⟩, _⟩ := HT.arr t ti n e s ht hs
      split at h
      · rename_i id
        split at h
        · rename_i t' xs hsl
          split at h
          · rename_i hsame
            obtain rfl := HC.same _ _ hsame
            obtain ⟨y, hp, h⟩ := bind_some h
            split at hp
            · rename_i hn
              obtain ⟨p1, p2, p3⟩ := idx_some hp
              have hsl' := slOf_some hsl
              cases hx with
              | eref h1 hi' =>
                refine ⟨_, _, h, ?_, .eref (off := 0) hsl' (by omega)⟩
                simp only [Instr.indexAt, asIntOf, Sem.run_bind, Sem.run_pure, Result.andThen_ok, run_underlying hu, Instr.sureAddr]
                rw [if_pos ⟨p1, by omega⟩]
                simp [runSz hi1, hi2, add_at]
              | erefd hcl hin h1 => rw [h1] at hsl; cases hsl
            · cases hp
          · cases h
        · cases h
      · cases h
    · cases h
  · cases h

/-- what a slice shows, as it lies -/
theorem rowsOf_rel (HC : CodOk C) (S : SRel C Mut Lent w0 ρ env objs a.tmps w) {x : AV κ Ty} {u : Value} {t : κ} {xs : List (Ty t)} (hx : VRel C w Mut ρ objs x u) (h : rowsOf objs x = some ⟨t, xs⟩) :
    ∃ (A : Option Addr) (c blk off : Nat), u = .slice A xs.length c ∧ xs.length ≤ c ∧ (xs ≠ [] → A = some (at' blk off) ∧ blk < w.heap.size) ∧
      (∀ i y j cl, xs[i]? = some y → (C.enc t y)[j]? = some cl → ∃ v, w.cell? (at' blk (off + i * C.sz t + j)) = some v ∧ VRel C w Mut ρ objs cl v) := by
  cases x <;> simp only [rowsOf] at h
  case nil t' => cases h; cases hx; exact ⟨_, 0, 0, 0, rfl, Nat.le_refl _, fun h => absurd rfl h, fun i y j cl h => by simp at h⟩
  case inl b t' ys =>
    cases h
    cases hx with
    | inl hb hc hA hcell hrel => exact ⟨_, _, _, _, rfl, hc, fun hne => ⟨(hA hne).1, (hA hne).2.1⟩, fun i y j cl h1 h2 => ⟨_, hcell i y j cl h1 h2, hrel i y j cl h1 h2⟩⟩
  case own id =>
    have hsl' := slOf_some h
    have ho := S.ob id
    simp only [ORel, hsl'] at ho
    cases hx with
    | own h1 hA =>
      rw [hsl'] at h1; cases h1
      exact ⟨_, _, _, _, rfl, ho.1, fun hne => by
        have : (ρ id).cap ≠ 0 := by have := ho.1; have := List.length_pos_iff.mpr hne; omega
        exact ⟨hA this, ho.2.1 this⟩, ho.2.2.1⟩
    | ownd hcl hin h1 => rw [h1] at h; cases h
  case sub id lo hi =>
    split at h
    · rename_i t' ys hsl
      cases h
      have hsl' := slOf_some hsl
      have ho := S.ob id
      simp only [ORel, hsl'] at ho
      cases hx with
      | sub h1 hlo hhi hc hcap hA =>
        rename_i A
        rw [hsl'] at h1; cases h1
        have hlen := dcut_length ys lo hi hhi
        refine ⟨_, _, (ρ id).block, (ρ id).off + lo * C.sz t, by rw [hlen], by omega, fun hne => ?_, fun i y j cl h1 h2 => ?_⟩
        · have := List.length_pos_iff.mpr hne
          rw [hlen] at this
          exact ⟨hA (by omega), ho.2.1 (by omega)⟩
        · have := ho.2.2.1 _ _ _ _ (dcut_some h1).1 h2
          rwa [Nat.add_mul, ← Nat.add_assoc] at this
      | subd hcl hin h1 => rw [h1] at hsl; cases hsl
    · cases h
  all_goals cases h

end
end Km
namespace Km
open Go
set_option linter.unusedVariables false
set_option linter.unusedSimpArgs false

variable {κ : Type} {Ty : κ → Type} {R : Type}
section
variable {P : Program} {C : Cod κ Ty} {T : TypeId → Option (TI κ Ty)}
variable {Mut : Nat → Prop} {Lent : Org κ Ty} {w0 w w' : World} {ρ ρ' : Nat → Loc} {env : Env κ Ty} {objs objs' : Objs κ Ty} {tm : Array Value}

theorem WStep.same (h : ∀ b, FootB ρ' objs' b → FootB ρ objs b) : WStep w w (FootB ρ objs) (FootB ρ' objs') := ⟨fun _ _ _ => rfl, Nat.le_refl _, fun b hb => .inl (h b hb)⟩

theorem foot_kill {id i b : Nat} (h : FootAt ρ (objs.set id .dead) i b) : i ≠ id ∧ FootAt ρ objs i b := by
  unfold FootAt at h ⊢
  by_cases e : i = id
  · subst e
    by_cases hi : i < objs.length
    · simp [hi] at h
    · have hn : (objs.set i AObj.dead)[i]? = none := List.getElem?_eq_none (by simp; omega)
      simp [hn] at h
  · rw [List.getElem?_set_ne (Ne.symm e)] at h
    exact ⟨e, h⟩

theorem compat_kill (id i : Nat) : Compat ρ objs ρ (objs.set id .dead) i := by
  by_cases e : i = id
  · subst e
    unfold Compat
    by_cases hi : i < objs.length
    · have hd : (objs.set i .dead)[i]? = some .dead := by simp [hi]
      split
      · exact .inr (gone_dead hd)
      · exact .inr (gone_dead hd)
      · exact .inr (gone_dead hd)
      · exact (gone_dead hd)
      · trivial
    · rw [List.getElem?_eq_none (l := objs) (by omega)]; trivial
  · exact Compat.of_eq (fun _ => List.getElem?_set_ne (Ne.symm e)) (fun _ => rfl)

/-- an object is given up -/
theorem SRel.kill (S : SRel C Mut Lent w0 ρ env objs tm w) (id : Nat) : SRel C Mut Lent w0 ρ env (objs.set id .dead) tm w := by
  have W : WStep w w (FootB ρ objs) (FootB ρ (objs.set id .dead)) := WStep.same fun b ⟨i, hi⟩ => ⟨i, (foot_kill hi).2⟩
  refine S.step W (by simp) (compat_kill id) (fun i => ?_) (fun i j b hi hj => S.inj i j b (foot_kill hi).2 (foot_kill hj).2) rfl rfl rfl
  by_cases e : i = id
  · subst e
    unfold ORel
    by_cases hi : i < objs.length
    · simp [hi]
    · have hn : (objs.set i AObj.dead)[i]? = none := List.getElem?_eq_none (by simp; omega)
      simp [hn]
  · exact ORel.step W (by simp) (compat_kill id) (S.ob i) (List.getElem?_set_ne (Ne.symm e)) rfl (fun b _ => rfl)

theorem VRel.kill {v : AV κ Ty} {u : Value} (h : VRel C w Mut ρ objs v u) (id : Nat) : VRel C w Mut ρ (objs.set id .dead) v u :=
  h.step (WStep.same fun b ⟨i, hi⟩ => ⟨i, (foot_kill hi).2⟩) (by simp) (compat_kill id)

theorem Cells.step {cs : List (AV κ Ty)} {us : List Value} (W : WStep w w' (FootB ρ objs) (FootB ρ' objs')) (hl : objs.length ≤ objs'.length) (hc : ∀ id, Compat ρ objs ρ' objs' id) (h : Cells C w Mut ρ objs cs us) : Cells C w' Mut ρ' objs' cs us :=
  ⟨h.1, h.2.1, fun j cl u h1 h2 => (h.2.2 j cl u h1 h2).step W hl hc⟩

theorem foot_live {id : Nat} {t : κ} {xs : List (Ty t)} (h : objs[id]? = some (.sl t xs)) (hc : (ρ id).cap ≠ 0) : FootAt ρ objs id (ρ id).block := by simp [FootAt, h, hc]

/-- what was one's own is now for good -/
theorem own_inl (HC : CodOk C) (S : SRel C Mut Lent w0 ρ env objs tm w) {id : Nat} {t : κ} {xs : List (Ty t)} {u : Value} (h : objs[id]? = some (.sl t xs)) {b0 : Bool} (hb0 : b0 = false → C.bor t = false) (hr : VRel C w Mut ρ objs (.own id) u) :
    VRel C w Mut ρ (objs.set id .dead) (.inl b0 t xs) u := by
  have ho := S.ob id
  simp only [ORel, h] at ho
  cases hr with
  | own h1 hA =>
    rw [h] at h1; cases h1
    refine .inl (blk := (ρ id).block) (off := (ρ id).off) (vals := fun i j => (w.cell? (at' (ρ id).block ((ρ id).off + i * C.sz t + j))).getD Go.undef) hb0 (ho.1) (fun hne => ?_) (fun i x j cl hx hj => ?_) (fun i x j cl hx hj => ?_)
    · have hc : (ρ id).cap ≠ 0 := by have := ho.1; have := List.length_pos_iff.mpr hne; omega
      refine ⟨hA hc, ho.2.1 hc, fun hX => ?_⟩
      rcases hX with ⟨i, hi⟩ | ⟨_, hm⟩
      · obtain ⟨g1, g2⟩ := foot_kill hi
        exact g1 (S.inj _ _ _ g2 (foot_live h hc))
      · exact (S.live _ ⟨id, foot_live h hc⟩).1 hm
    · obtain ⟨v, h1, h2⟩ := ho.2.2.1 i x j cl hx hj
      rw [h1]; rfl
    · obtain ⟨v, h1, h2⟩ := ho.2.2.1 i x j cl hx hj
      rw [h1]; exact h2.kill id
  | ownd hcl hin h1 => simp [slOf, h] at h1

/-- some objects are given up -/
def Weaker (objs objs' : Objs κ Ty) : Prop := objs'.length = objs.length ∧ ∀ i : Nat, objs'[i]? = objs[i]? ∨ objs'[i]? = some AObj.dead
theorem Weaker.refl (objs : Objs κ Ty) : Weaker objs objs := ⟨rfl, fun _ => .inl rfl⟩
theorem Weaker.trans {o1 o2 o3 : Objs κ Ty} (h : Weaker o1 o2) (g : Weaker o2 o3) : Weaker o1 o3 :=
  ⟨g.1.trans h.1, fun i => (g.2 i).elim (fun e => (h.2 i).elim (fun e' => .inl (e.trans e')) (fun e' => .inr (e.trans e'))) .inr⟩
theorem Weaker.kill (objs : Objs κ Ty) (id : Nat) : Weaker objs (objs.set id AObj.dead) := by
  refine ⟨by simp, fun i => ?_⟩
  by_cases e : i = id
  · subst e
    by_cases hi : i < objs.length
    · exact .inr (by simp [hi])
    · have hn : (objs.set i AObj.dead)[i]? = none := List.getElem?_eq_none (by simp; omega)
      exact .inl (by rw [hn, List.getElem?_eq_none (by omega)])
  · exact .inl (List.getElem?_set_ne (Ne.symm e))
theorem Weaker.compat (h : Weaker objs objs') (i : Nat) : Compat ρ objs ρ objs' i := by
  unfold Compat
  split
  · rename_i cs e
    rcases h.2 i with e' | e'
    · exact .inl ⟨cs, by rw [e', e], rfl⟩
    · exact .inr (gone_dead e')
  · rename_i t xs e
    rcases h.2 i with e' | e'
    · exact .inl ⟨xs, by rw [e', e], rfl, rfl⟩
    · exact .inr (gone_dead e')
  · rename_i k v es ho e
    rcases h.2 i with e' | e'
    · exact .inl ⟨es, ho, by rw [e', e], rfl⟩
    · exact .inr (gone_dead e')
  · rename_i e
    rcases h.2 i with e' | e'
    · exact (gone_dead (by rw [e', e]))
    · exact (gone_dead e')
  · trivial
theorem Weaker.foot (h : Weaker objs objs') {i b : Nat} (hb : FootAt ρ objs' i b) : FootAt ρ objs i b := by
  unfold FootAt at hb ⊢
  rcases h.2 i with e | e
  · rw [e] at hb; exact hb
  · rw [e] at hb; exact hb.elim
theorem Weaker.wstep (h : Weaker objs objs') : WStep w w (FootB ρ objs) (FootB ρ objs') := WStep.same fun b ⟨i, hi⟩ => ⟨i, h.foot hi⟩
theorem Weaker.rel (h : Weaker objs objs') {v : AV κ Ty} {u : Value} (hr : VRel C w Mut ρ objs v u) : VRel C w Mut ρ objs' v u := hr.step h.wstep (by have := h.1; omega) h.compat
theorem Weaker.cells (h : Weaker objs objs') {cs : List (AV κ Ty)} {us : List Value} (hc : Cells C w Mut ρ objs cs us) : Cells C w Mut ρ objs' cs us := hc.step h.wstep (by have := h.1; omega) h.compat

/-- 'deepen' -/
theorem or_bor {b0 b : Bool} (h : (b0 || !b) = true) : b0 = false → b = false := by cases b0 <;> cases b <;> simp_all
theorem deepen_sound (HC : CodOk C) {b0 : Bool} : ∀ (ns : List (AV κ Ty)) (us : List Value) (objs : Objs κ Ty) (K : List (AV κ Ty) → Objs κ Ty → Option R) (r : R), SRel C Mut Lent w0 ρ env objs tm w → Cells C w Mut ρ objs ns us →
    deepen C b0 objs ns K = some r → ∃ ns' objs', K ns' objs' = some r ∧ SRel C Mut Lent w0 ρ env objs' tm w ∧ Cells C w Mut ρ objs' ns' us ∧ Weaker objs objs'
  | [], us, objs, K, r, S, hc, h => ⟨[], objs, h, S, hc, .refl _⟩
  | c :: ns, us, objs, K, r, S, hc, h => by
    obtain ⟨h1, h2, h3⟩ := hc
    obtain ⟨u, us, rfl⟩ : ∃ u us', us = u :: us' := by cases us with | nil => simp at h1 | cons u us => exact ⟨u, us, rfl⟩
    have hu : VRel C w Mut ρ objs c u := h3 0 c u rfl rfl
    have hcu : isCell u = true := h2 0 u rfl
    have hrest : Cells C w Mut ρ objs ns us := ⟨by simpa using h1, fun j u hj => h2 (j + 1) u (by simpa using hj), fun j cl u a b => h3 (j + 1) cl u (by simpa using a) (by simpa using b)⟩
    have fin : ∀ (c' : AV κ Ty) (objs1 : Objs κ Ty), SRel C Mut Lent w0 ρ env objs1 tm w → VRel C w Mut ρ objs1 c' u → Weaker objs objs1 →
        deepen C b0 objs1 ns (fun cs' o => K (c' :: cs') o) = some r → ∃ ns' objs', K ns' objs' = some r ∧ SRel C Mut Lent w0 ρ env objs' tm w ∧ Cells C w Mut ρ objs' ns' (u :: us) ∧ Weaker objs objs' := by
      intro c' objs1 S1 hc' hw h
      obtain ⟨ns', objs', g1, g2, g3, g4⟩ := deepen_sound HC ns us objs1 _ r S1 (hw.cells hrest) h
      refine ⟨c' :: ns', objs', g1, g2, ⟨by simp [g3.1], fun j u' hj => ?_, fun j cl u' a b => ?_⟩, hw.trans g4⟩
      · cases j with
        | zero => simp at hj; subst hj; exact hcu
        | succ j => exact g3.2.1 j u' (by simpa using hj)
      · cases j with
        | zero => simp at a b; subst a; subst b; exact g4.rel hc'
        | succ j => exact g3.2.2 j cl u' (by simpa using a) (by simpa using b)
    simp only [deepen] at h
    split at h
    · rename_i id
      split at h
      · rename_i t xs hsl
        have hsl' := slOf_some hsl
        split at h
        · rename_i hb
          exact fin _ _ (S.kill id) (own_inl HC S hsl' (or_bor hb) hu) (.kill objs id) h
        · cases h
      · cases h
    · rename_i t
      split at h
      · rename_i hb
        refine fin _ _ S ?_ (.refl _) h
        cases hu
        exact .inl (xs := []) (blk := 0) (off := 0) (vals := fun _ _ => Go.undef) (or_bor hb) (Nat.le_refl _) (fun h => absurd rfl h) (fun i x j cl hx => by simp at hx) (fun i x j cl hx => by simp at hx)
      · cases h
    · exact fin _ _ S hu (.refl _) h
    · exact fin _ _ S hu (.refl _) h
    · cases h

end
end Km
namespace Km
open Go
set_option linter.unusedVariables false
set_option linter.unusedSimpArgs false

variable {κ : Type} {Ty : κ → Type} {R : Type}
section
variable {P : Program} {C : Cod κ Ty} {T : TypeId → Option (TI κ Ty)}
variable {Mut : Nat → Prop} {Lent : Org κ Ty} {w0 w w' : World} {ρ ρ' : Nat → Loc} {env : Env κ Ty} {objs objs' : Objs κ Ty} {tm : Array Value}

/-- a place for a new object -/
def upd (ρ : Nat → Loc) (n : Nat) (l : Loc) : Nat → Loc := fun i => if i = n then l else ρ i
theorem upd_same (ρ : Nat → Loc) (n : Nat) (l : Loc) : upd ρ n l n = l := by simp [upd]
theorem upd_other (ρ : Nat → Loc) (n : Nat) (l : Loc) {i : Nat} (h : i ≠ n) : upd ρ n l i = ρ i := by simp [upd, h]

theorem push_old {o : AObj κ Ty} {i : Nat} (h : i < objs.length) : (objs ++ [o])[i]? = objs[i]? := List.getElem?_append_left h
theorem push_new (objs : Objs κ Ty) (o : AObj κ Ty) : (objs ++ [o])[objs.length]? = some o := by simp
theorem foot_push {o : AObj κ Ty} {l : Loc} {i b : Nat} (hs : ∀ q, (l.sub q).2.2 = 0 := by intro; rfl) (h : FootAt (upd ρ objs.length l) (objs ++ [o]) i b) : (i < objs.length ∧ FootAt ρ objs i b) ∨ (i = objs.length ∧ b = l.block) := by
  by_cases hi : i < objs.length
  · refine .inl ⟨hi, ?_⟩
    unfold FootAt at h ⊢
    rw [push_old hi, upd_other ρ _ l (by omega)] at h
    exact h
  · unfold FootAt at h
    by_cases hn : i = objs.length
    · subst hn
      rw [push_new, upd_same] at h
      refine .inr ⟨rfl, ?_⟩
      cases o with
      | dead => exact h.elim
      | box cs => exact h.symm
      | sl t xs => exact h.2.symm
      | mp k v es ho =>
        rcases h with h | ⟨q, _, _, h3, _⟩
        · exact h.symm
        · exact absurd (hs q) h3
    · have : (objs ++ [o])[i]? = none := List.getElem?_eq_none (by simp; omega)
      rw [this] at h; exact h.elim

theorem compat_push (o : AObj κ Ty) (l : Loc) (i : Nat) : Compat ρ objs (upd ρ objs.length l) (objs ++ [o]) i := Compat.of_eq (fun h => push_old h) (fun h => upd_other ρ _ l (by omega))

/-- a new object on a new block -/
theorem SRel.fresh (S : SRel C Mut Lent w0 ρ env objs tm w) {o : AObj κ Ty} {l : Loc}
    (hb : ∀ b, b < w.heap.size → w'.heap[b]? = w.heap[b]?) (hsz : w.heap.size ≤ w'.heap.size) (hl : w.heap.size ≤ l.block)
    (hnew : ∀ (_ : WStep w w' (FootB ρ objs) (FootB (upd ρ objs.length l) (objs ++ [o]))), ORel C w' Mut (upd ρ objs.length l) (objs ++ [o]) objs.length)
    (hos : w'.os = w.os) (htape : w'.tape = w.tape) (hout : w'.output = w.output) (hs : ∀ q, (l.sub q).2.2 = 0 := by intro; rfl) :
    WStep w w' (FootB ρ objs) (FootB (upd ρ objs.length l) (objs ++ [o])) ∧ SRel C Mut Lent w0 (upd ρ objs.length l) env (objs ++ [o]) tm w' := by
  have W : WStep w w' (FootB ρ objs) (FootB (upd ρ objs.length l) (objs ++ [o])) := ⟨fun b hlt _ => hb b hlt, hsz, fun b ⟨i, hi⟩ => by
    rcases foot_push hs hi with ⟨_, h⟩ | ⟨_, h⟩
    · exact .inl ⟨i, h⟩
    · exact .inr (by omega)⟩
  have flt : ∀ i b, FootAt ρ objs i b → b < w.heap.size := fun i b h => foot_lt (S.ob i) h
  refine ⟨W, S.step W (by simp) (compat_push o l) (fun i => ?_) (fun i j b hi hj => ?_) hos htape hout⟩
  · by_cases hi : i < objs.length
    · exact ORel.step W (by simp) (compat_push o l) (S.ob i) (push_old hi) (upd_other ρ _ l (by omega)) (fun b hb' => hb b (flt i b hb'))
    · by_cases hn : i = objs.length
      · subst hn; exact hnew W
      · unfold ORel
        have : (objs ++ [o])[i]? = none := List.getElem?_eq_none (by simp; omega)
        rw [this]; trivial
  · rcases foot_push hs hi with ⟨h1, h2⟩ | ⟨h1, h2⟩ <;> rcases foot_push hs hj with ⟨g1, g2⟩ | ⟨g1, g2⟩
    · exact S.inj i j b h2 g2
    · have := flt i b h2; omega
    · have := flt j b g2; omega
    · omega

theorem heap_alloc_old (w : World) (o : Obj) {b : Nat} (h : b < w.heap.size) : (w.alloc o).heap[b]? = w.heap[b]? := RowKit.Below.heap_alloc w o b h

/-- a variable in memory -/
theorem SRel.newBox (S : SRel C Mut Lent w0 ρ env objs tm w) {cs : List (AV κ Ty)} {us : Array Value} (e : TypeId) (hc : Cells C w Mut ρ objs cs us.toList) :
    SRel C Mut Lent w0 (upd ρ objs.length ⟨w.heap.size, 0, 0, noSub⟩) env (objs ++ [.box cs]) tm (w.alloc (.cells us e)) := by
  refine (S.fresh (o := .box cs) (l := ⟨w.heap.size, 0, 0, noSub⟩) (w' := w.alloc (.cells us e)) (fun b h => heap_alloc_old w _ h) (by simp) (Nat.le_refl _) (fun W => ?_) rfl rfl rfl).2
  unfold ORel
  rw [push_new, upd_same]
  refine ⟨by simp, fun j cl hj => ?_⟩
  have hlt := (List.getElem?_eq_some_iff.mp hj).1
  have hu : us.toList[j]? = some (us.toList[j]'(by rw [hc.1]; exact hlt)) := List.getElem?_eq_getElem _
  refine ⟨_, ?_, hc.2.1 j _ hu, (hc.2.2 j cl _ hj hu).step W (by simp) (compat_push _ _), ?_⟩
  · simp only [at', Nat.zero_add, World.cell?_alloc_new]
    rw [← Array.getElem?_toList]; exact hu
  · simp only [at', World.frozen?_alloc_new]

/-- rows of a new slice, as they lie from the block's begin on -/
structure RowsAt (C : Cod κ Ty) (w : World) (Mut : Nat → Prop) (ρ : Nat → Loc) (objs : Objs κ Ty) (t : κ) (xs : List (Ty t)) (cap : Nat) (us : Nat → Option Value) : Prop where
  le : xs.length ≤ cap
  row : ∀ i x j cl, xs[i]? = some x → (C.enc t x)[j]? = some cl → ∃ v, us (i * C.sz t + j) = some v ∧ VRel C w Mut ρ objs cl v
  room : ∀ q, q < cap * C.sz t → ∃ v, us q = some v ∧ isCell v = true

/-- a new slice -/
theorem SRel.newSl (S : SRel C Mut Lent w0 ρ env objs tm w) {t : κ} {xs : List (Ty t)} {cap : Nat} {us : Array Value} (e : TypeId) (hr : RowsAt C w Mut ρ objs t xs cap (fun q => us[q]?)) :
    SRel C Mut Lent w0 (upd ρ objs.length ⟨w.heap.size, 0, cap, noSub⟩) env (objs ++ [.sl t xs]) tm (w.alloc (.cells us e)) := by
  refine (S.fresh (o := .sl t xs) (l := ⟨w.heap.size, 0, cap, noSub⟩) (w' := w.alloc (.cells us e)) (fun b h => heap_alloc_old w _ h) (by simp) (Nat.le_refl _) (fun W => ?_) rfl rfl rfl).2
  unfold ORel
  rw [push_new, upd_same]
  refine ⟨hr.le, fun _ => by simp, fun i x j cl hx hj => ?_, fun q hq => ?_⟩
  · obtain ⟨v, h1, h2⟩ := hr.row i x j cl hx hj
    exact ⟨v, by simp only [at', Nat.zero_add, World.cell?_alloc_new]; exact h1, h2.step W (by simp) (compat_push _ _)⟩
  · obtain ⟨v, h1, h2⟩ := hr.room q hq
    exact ⟨v, by simp only [at', Nat.zero_add, World.cell?_alloc_new]; exact h1, h2, by simp only [at', World.frozen?_alloc_new]⟩

/-- what a draw of Go's own changes: nothing that is told -/
theorem SRel.drew (S : SRel C Mut Lent w0 ρ env objs tm w) : SRel C Mut Lent w0 ρ env objs tm w.drew := by
  have W : WStep w w.drew (FootB ρ objs) (FootB ρ objs) := ⟨fun _ _ _ => rfl, Nat.le_refl _, fun b h => .inl h⟩
  exact S.step W (Nat.le_refl _) (fun i => .refl i) (fun i => ORel.step W (Nat.le_refl _) (fun i => .refl i) (S.ob i) rfl rfl (fun _ _ => rfl)) S.inj rfl rfl rfl
theorem VRel.drew {v : AV κ Ty} {u : Value} (h : VRel C w Mut ρ objs v u) : VRel C w.drew Mut ρ objs v u :=
  VRel.step (w := w) (w' := w.drew) (ρ := ρ) (ρ' := ρ) (objs := objs) (objs' := objs) ⟨fun _ _ _ => rfl, Nat.le_refl _, fun b h => .inl h⟩ (Nat.le_refl _) (fun i => .refl i) h

end
end Km
namespace Km
open Go
set_option linter.unusedVariables false
set_option linter.unusedSimpArgs false

variable {κ : Type} {Ty : κ → Type} {R : Type}
section
variable {P : Program} {C : Cod κ Ty} {T : TypeId → Option (TI κ Ty)}
variable {Mut : Nat → Prop} {Lent : Org κ Ty} {w0 w w' : World} {ρ ρ' : Nat → Loc} {env : Env κ Ty} {objs objs' : Objs κ Ty} {tm : Array Value}

theorem setCells_block (b : Nat) : ∀ (vs : List Value) (o : Nat) (w : World) (k : Nat), k ≠ b → (w.setCells b o vs).heap[k]? = w.heap[k]?
  | [], _, _, _, _ => rfl
  | v :: r, o, w, k, h => by
    rw [World.setCells, setCells_block b r (o + 1) _ k h]
    exact RowKit.Below.heap_setCell w ⟨b, o, none⟩ v k h
theorem setCells_size (b : Nat) : ∀ (vs : List Value) (o : Nat) (w : World), (w.setCells b o vs).heap.size = w.heap.size
  | [], _, _ => rfl
  | v :: r, o, w => by rw [World.setCells, setCells_size b r (o + 1)]; simp
theorem setCells_os (b : Nat) : ∀ (vs : List Value) (o : Nat) (w : World), (w.setCells b o vs).os = w.os ∧ (w.setCells b o vs).tape = w.tape ∧ (w.setCells b o vs).output = w.output
  | [], _, _ => ⟨rfl, rfl, rfl⟩
  | v :: r, o, w => by rw [World.setCells]; exact setCells_os b r (o + 1) (w.setCell ⟨b, o, none⟩ v)

/-- a cell behind a store of several -/
theorem setCells_cell {b o : Nat} {vs : List Value} {q : Nat} (h : ∀ j, j < vs.length → ∃ u, w.cell? (at' b (o + j)) = some u) :
    (w.setCells b o vs).cell? (at' b q) = if o ≤ q ∧ q < o + vs.length then vs[q - o]? else w.cell? (at' b q) := by
  by_cases hq : o ≤ q ∧ q < o + vs.length
  · rw [if_pos hq]
    obtain ⟨j, rfl⟩ : ∃ j, q = o + j := ⟨q - o, by omega⟩
    have hj : j < vs.length := by omega
    have := World.cell?_setCells_in b vs o w (fun j hj => by obtain ⟨u, hu⟩ := h j hj; rw [show (⟨b, o + j, none⟩ : Addr) = at' b (o + j) from rfl, hu]; rfl) j hj
    rw [show at' b (o + j) = ⟨b, o + j, none⟩ from rfl, this, show o + j - o = j by omega, List.getElem?_eq_getElem hj]
  · rw [if_neg hq]
    exact World.cell?_setCells_out b vs o w (at' b q) (fun _ _ => by simp only [at']; omega)

theorem run_storeVar (HT : TOk P C T) {t : TypeId} {ti : TI κ Ty} (ht : T t = some ti) {u : Value} {b o : Nat} (hsz : u.cells.size = ti.size) (hc : ∀ j, j < u.cells.size → ∃ v, w.cell? (at' b (o + j)) = some v ∧ w.frozen? (at' b (o + j)) = false)
    (h1 : ∀ v ∈ u.cells.toList, isCell v = true) : (Instr.storeAt t (.pointer (some (at' b o))) u).run P w = .ok () (w.setCells b o u.cells.toList) := by
  have hst := run_storeCells_cells (P := P) b o u.cells.toList 0 w (fun j hj => by
    obtain ⟨v, g1, _⟩ := hc j (by simpa using hj)
    simp only [Nat.add_zero]; rw [show (⟨b, o + j, none⟩ : Addr) = at' b (o + j) from rfl, g1]; rfl) (fun j hj => by
    obtain ⟨v, _, g2⟩ := hc j (by simpa using hj)
    simp only [Nat.add_zero]; exact g2) (fun v hv => isCell_one (h1 v hv))
  simp only [Instr.storeAt, Instr.sureAddr, Sem.run_bind, Sem.run_pure, Result.andThen_ok, storeVar, run_sizeOf' HT ht]
  rw [if_neg (by simp [hsz])]
  simp only [Nat.add_zero] at hst
  exact hst

/-- a store into a variable in memory -/
theorem SRel.storeBox (S : SRel C Mut Lent w0 ρ env objs tm w) {id off : Nat} {cs ns : List (AV κ Ty)} {us : List Value} (hid : objs[id]? = some (.box cs)) (hn : Cells C w Mut ρ objs ns us) (hle : off + ns.length ≤ cs.length) :
    SRel C Mut Lent w0 ρ env (objs.set id (.box (splice cs off ns))) tm (w.setCells (ρ id).block ((ρ id).off + off) us) := by
  have hlt := (List.getElem?_eq_some_iff.mp hid).1
  have ho := S.ob id
  simp only [ORel, hid] at ho
  have hfoot : FootAt ρ objs id (ρ id).block := by simp [FootAt, hid]
  have hset : (objs.set id (AObj.box (splice cs off ns)))[id]? = some (.box (splice cs off ns)) := by simp [hlt]
  have hne : ∀ i, i ≠ id → (objs.set id (AObj.box (splice cs off ns)))[i]? = objs[i]? := fun i h => List.getElem?_set_ne (Ne.symm h)
  have hft : ∀ i b, FootAt ρ (objs.set id (AObj.box (splice cs off ns))) i b → FootAt ρ objs i b := fun i b h => by
    by_cases e : i = id
    · subst e; unfold FootAt at h ⊢; rw [hset] at h; rw [hid]; exact h
    · unfold FootAt at h ⊢; rw [hne i e] at h; exact h
  have W : WStep w (w.setCells (ρ id).block ((ρ id).off + off) us) (FootB ρ objs) (FootB ρ (objs.set id (AObj.box (splice cs off ns)))) :=
    ⟨fun b _ hb => setCells_block _ _ _ _ _ (fun e => hb ⟨id, e ▸ hfoot⟩), by rw [setCells_size]; exact Nat.le_refl _, fun b ⟨i, hi⟩ => .inl ⟨i, hft i b hi⟩⟩
  have hcm : ∀ i, Compat ρ objs ρ (objs.set id (AObj.box (splice cs off ns))) i := fun i => by
    by_cases e : i = id
    · subst e; unfold Compat; rw [hid]; exact .inl ⟨_, hset, rfl⟩
    · exact Compat.of_eq (fun _ => hne i e) (fun _ => rfl)
  obtain ⟨o1, o2, o3⟩ := setCells_os (ρ id).block us ((ρ id).off + off) w
  refine S.step W (by simp) hcm (fun i => ?_) (fun i j b hi hj => S.inj i j b (hft i b hi) (hft j b hj)) o1 o2 o3
  by_cases e : i = id
  · subst e
    unfold ORel
    rw [hset]
    refine ⟨by rw [setCells_size]; exact ho.1, fun j cl hj => ?_⟩
    have hjl : j < cs.length := by have := (List.getElem?_eq_some_iff.mp hj).1; rwa [splice_length] at this
    obtain ⟨v0, g1, g2, g3, g4⟩ := ho.2 j cs[j] (List.getElem?_eq_getElem hjl)
    have hcell := setCells_cell (w := w) (b := (ρ i).block) (o := (ρ i).off + off) (vs := us) (q := (ρ i).off + j) (fun k hk => by
      obtain ⟨v, a1, _⟩ := ho.2 (off + k) _ (List.getElem?_eq_getElem (by rw [hn.1] at hk; omega))
      exact ⟨v, by rw [Nat.add_assoc]; exact a1⟩)
    have hfr : (w.setCells (ρ i).block ((ρ i).off + off) us).frozen? (at' (ρ i).block ((ρ i).off + j)) = false := by
      rw [World.frozen?_setCells]; exact g4
    rw [splice_get _ _ _ _ hle] at hj
    by_cases hin : off ≤ j ∧ j < off + ns.length
    · rw [if_pos hin] at hj
      rw [if_pos (by rw [hn.1]; omega)] at hcell
      have hk : us[j - off]? = some (us[j - off]'(by rw [hn.1]; omega)) := List.getElem?_eq_getElem _
      rw [show (ρ i).off + j - ((ρ i).off + off) = j - off by omega, hk] at hcell
      exact ⟨_, hcell, hn.2.1 _ _ hk, (hn.2.2 _ _ _ hj hk).step W (by simp) hcm, hfr⟩
    · rw [if_neg hin] at hj
      rw [if_neg (by rw [hn.1]; omega), g1] at hcell
      rw [List.getElem?_eq_getElem hjl] at hj; cases hj
      exact ⟨_, hcell, g2, g3.step W (by simp) hcm, hfr⟩
  · exact ORel.step W (by simp) hcm (S.ob i) (hne i e) rfl (fun b hb => setCells_block _ _ _ _ _ (fun e' => e (S.inj i id b hb (e' ▸ hfoot))))

end
end Km
namespace Km
open Go
set_option linter.unusedVariables false
set_option linter.unusedSimpArgs false

variable {κ : Type} {Ty : κ → Type} {R : Type}
section
variable {P : Program} {C : Cod κ Ty} {T : TypeId → Option (TI κ Ty)}
variable {Mut : Nat → Prop} {Lent : Org κ Ty} {w0 w w' : World} {ρ ρ' : Nat → Loc} {env : Env κ Ty} {objs objs' : Objs κ Ty} {tm : Array Value}

theorem row_lt {i j n s : Nat} (hi : i < n) (hj : j < s) : i * s + j < n * s := by
  have : (i + 1) * s ≤ n * s := Nat.mul_le_mul_right s hi
  rw [Nat.add_mul] at this; omega
theorem row_ne {i i' j j' s : Nat} (hj : j < s) (hj' : j' < s) (h : i ≠ i') : i * s + j ≠ i' * s + j' := by
  intro e
  rcases Nat.lt_or_ge i i' with h1 | h1
  · have := row_lt (n := i') h1 hj; omega
  · have := row_lt (n := i) (i := i') (by omega) hj'; omega

/-- a store into an element of a slice -/
theorem SRel.storeRow (HC : CodOk C) (S : SRel C Mut Lent w0 ρ env objs tm w) {id i off : Nat} {t : κ} {xs : List (Ty t)} {z y : Ty t} {ns : List (AV κ Ty)} {us : List Value} (hid : objs[id]? = some (.sl t xs)) (hz : xs[i]? = some z)
    (hn : Cells C w Mut ρ objs ns us) (hle : off + ns.length ≤ (C.enc t z).length) (hy : C.enc t y = splice (C.enc t z) off ns) :
    SRel C Mut Lent w0 ρ env (objs.set id (.sl t (xs.set i y))) tm (w.setCells (ρ id).block ((ρ id).off + i * C.sz t + off) us) := by
  have hlt := (List.getElem?_eq_some_iff.mp hid).1
  have hilt := (List.getElem?_eq_some_iff.mp hz).1
  have ho := S.ob id
  simp only [ORel, hid] at ho
  obtain ⟨ho1, ho2, ho3, ho4⟩ := ho
  have hcap : (ρ id).cap ≠ 0 := by omega
  have hfoot : FootAt ρ objs id (ρ id).block := foot_live hid hcap
  rw [HC.len] at hle
  have hset : (objs.set id (AObj.sl t (xs.set i y)))[id]? = some (.sl t (xs.set i y)) := by simp [hlt]
  have hne : ∀ k, k ≠ id → (objs.set id (AObj.sl t (xs.set i y)))[k]? = objs[k]? := fun k h => List.getElem?_set_ne (Ne.symm h)
  have hft : ∀ k b, FootAt ρ (objs.set id (AObj.sl t (xs.set i y))) k b → FootAt ρ objs k b := fun k b h => by
    by_cases e : k = id
    · subst e; unfold FootAt at h ⊢; rw [hset] at h; rw [hid]; exact h
    · unfold FootAt at h ⊢; rw [hne k e] at h; exact h
  have hroom : ∀ k, k < us.length → ∃ u, w.cell? (at' (ρ id).block ((ρ id).off + i * C.sz t + off + k)) = some u := fun k hk => by
    obtain ⟨v, a1, _⟩ := ho4 (i * C.sz t + (off + k)) (row_lt (by omega) (by rw [hn.1] at hk; omega))
    exact ⟨v, by rw [← a1]; congr 2; omega⟩
  have hcell := fun q => setCells_cell (w := w) (b := (ρ id).block) (o := (ρ id).off + i * C.sz t + off) (vs := us) (q := q) hroom
  have W : WStep w (w.setCells (ρ id).block ((ρ id).off + i * C.sz t + off) us) (FootB ρ objs) (FootB ρ (objs.set id (AObj.sl t (xs.set i y)))) :=
    ⟨fun b _ hb => setCells_block _ _ _ _ _ (fun e => hb ⟨id, e ▸ hfoot⟩), by rw [setCells_size]; exact Nat.le_refl _, fun b ⟨k, hk⟩ => .inl ⟨k, hft k b hk⟩⟩
  have hcm : ∀ k, Compat ρ objs ρ (objs.set id (AObj.sl t (xs.set i y))) k := fun k => by
    by_cases e : k = id
    · subst e; unfold Compat; rw [hid]; exact .inl ⟨_, hset, by simp, rfl⟩
    · exact Compat.of_eq (fun _ => hne k e) (fun _ => rfl)
  obtain ⟨o1, o2, o3⟩ := setCells_os (ρ id).block us ((ρ id).off + i * C.sz t + off) w
  refine S.step W (by simp) hcm (fun k => ?_) (fun k j b hi hj => S.inj k j b (hft k b hi) (hft j b hj)) o1 o2 o3
  by_cases e : k = id
  · subst e
    unfold ORel
    rw [hset]
    refine ⟨by simpa using ho1, fun h => by rw [setCells_size]; exact ho2 h, fun i' x j cl hx hj => ?_, fun q hq => ?_⟩
    · have hjs : j < C.sz t := by have := (List.getElem?_eq_some_iff.mp hj).1; rwa [HC.len] at this
      by_cases hi' : i' = i
      · subst hi'
        simp only [List.getElem?_set_self hilt, Option.some.injEq] at hx
        subst hx
        rw [hy, splice_get _ _ _ _ (by rw [HC.len]; exact hle)] at hj
        by_cases hin : off ≤ j ∧ j < off + ns.length
        · rw [if_pos hin] at hj
          have hk : us[j - off]? = some (us[j - off]'(by rw [hn.1]; omega)) := List.getElem?_eq_getElem _
          refine ⟨_, ?_, (hn.2.2 _ _ _ hj hk).step W (by simp) hcm⟩
          rw [hcell, if_pos (by rw [hn.1]; omega), ← hk]; congr 1; omega
        · rw [if_neg hin] at hj
          obtain ⟨v, a1, a2⟩ := ho3 i' z j cl hz hj
          exact ⟨v, by rw [hcell, if_neg (by rw [hn.1]; omega)]; exact a1, a2.step W (by simp) hcm⟩
      · rw [List.getElem?_set_ne (Ne.symm hi')] at hx
        obtain ⟨v, a1, a2⟩ := ho3 i' x j cl hx hj
        refine ⟨v, ?_, a2.step W (by simp) hcm⟩
        rw [hcell, if_neg]
        · exact a1
        · rintro ⟨b1, b2⟩
          rw [hn.1] at b2
          exact row_ne (s := C.sz t) (i := i') (i' := i) (j := j) (j' := i' * C.sz t + j - i * C.sz t) hjs (by omega) hi' (by omega)
    · obtain ⟨v, a1, a2, a3⟩ := ho4 q hq
      by_cases hin : (ρ k).off + i * C.sz t + off ≤ (ρ k).off + q ∧ (ρ k).off + q < (ρ k).off + i * C.sz t + off + us.length
      · have hk : us[(ρ k).off + q - ((ρ k).off + i * C.sz t + off)]? = some (us[(ρ k).off + q - ((ρ k).off + i * C.sz t + off)]'(by omega)) := List.getElem?_eq_getElem _
        exact ⟨_, by rw [hcell, if_pos hin]; exact hk, hn.2.1 _ _ hk, by rw [World.frozen?_setCells]; exact a3⟩
      · exact ⟨v, by rw [hcell, if_neg hin]; exact a1, a2, by rw [World.frozen?_setCells]; exact a3⟩
  · exact ORel.step W (by simp) hcm (S.ob k) (hne k e) rfl (fun b hb => setCells_block _ _ _ _ _ (fun e' => e (S.inj k id b hb (e' ▸ hfoot))))

/-- 'astore' -/
theorem astore_sound (HT : TOk P C T) (HC : CodOk C) (S : SRel C Mut Lent w0 ρ env objs tm w) {t : TypeId} {ti : TI κ Ty} (ht : T t = some ti) {x y : AV κ Ty} {u q : Value} (hx : VRel C w Mut ρ objs x u) (hy : VRel C w Mut ρ objs y q)
    {K : Objs κ Ty → Option R} {r : R} (h : astore C objs ti x y K = some r) : ∃ objs' w', K objs' = some r ∧ (Instr.storeAt t u q).run P w = .ok () w' ∧ SRel C Mut Lent w0 ρ env objs' tm w' := by
  unfold astore at h
  split at h
  · cases h
  · rename_i ns hns
    have hc := cellsOf_rel hns hy
    split at h
    · cases h
    · rename_i hsz
      have hsz := Nat.eq_of_beq_eq_true hsz
      have hqs : q.cells.size = ti.size := by have := hc.1; simp at this; omega
      split at h
      · rename_i id off
        split at h
        · rename_i cs hb
          split at h
          · rename_i hle
            have hle := Nat.le_of_ble_eq_true hle
            have hb' := boxOf_some hb
            have ho := S.ob id
            simp only [ORel, hb'] at ho
            cases hx with
            | ref h1 =>
              refine ⟨_, _, h, run_storeVar HT ht hqs (fun j hj => ?_) (fun v hv => ?_), S.storeBox hb' hc hle⟩
              · obtain ⟨v, a1, _, _, a4⟩ := ho.2 (off + j) _ (List.getElem?_eq_getElem (by omega))
                exact ⟨v, by rw [Nat.add_assoc]; exact a1, by rw [Nat.add_assoc]; exact a4⟩
              · obtain ⟨j, hj⟩ := List.getElem?_of_mem hv
                exact hc.2.1 j v hj
            | refd hcl hin h1 => rw [h1] at hb; cases hb
          · cases h
        · cases h
      · rename_i id i off
        split at h
        · rename_i s xs hsl
          obtain ⟨z, hz, h⟩ := bind_some h
          obtain ⟨ns', objs', h, S', hc', hw⟩ := deepen_sound HC ns _ _ _ _ S hc h
          split at h
          · rename_i sl' hsl2
            split at h
            · rename_i hle
              have hle := Nat.le_of_ble_eq_true hle
              split at h
              · rename_i yy hdec
                have hsl' := slOf_some hsl
                have henc := HC.dec _ _ _ hdec
                have hid : objs'[id]? = some (.sl s xs) := by
                  rcases hw.2 id with e | e
                  · rw [e]; exact hsl'
                  · rw [slOf_dead e] at hsl2; cases hsl2
                have ho := S'.ob id
                simp only [ORel, hid] at ho
                have hilt := (List.getElem?_eq_some_iff.mp hz).1
                have hnl : ns'.length = ns.length := by have := hc.1; have := hc'.1; omega
                cases hx with
                | eref h1 hi =>
                  rw [hsl'] at h1; cases h1
                  refine ⟨_, _, h, run_storeVar HT ht hqs (fun j hj => ?_) (fun v hv => ?_), S'.storeRow HC hid hz hc' hle henc⟩
                  · rw [HC.len] at hle
                    obtain ⟨v, a1, _, a4⟩ := ho.2.2.2 (i * C.sz s + (off + j)) (row_lt (by omega) (by omega))
                    have e : (ρ id).off + i * C.sz s + off + j = (ρ id).off + (i * C.sz s + (off + j)) := by omega
                    exact ⟨v, by rw [e]; exact a1, by rw [e]; exact a4⟩
                  · obtain ⟨j, hj⟩ := List.getElem?_of_mem hv
                    exact hc.2.1 j v hj
                | erefd hcl hin h1 => rw [h1] at hsl; cases hsl
              · cases h
            · cases h
          · cases h
        · cases h
      · cases h

end
end Km
namespace Km
open Go
set_option linter.unusedVariables false
set_option linter.unusedSimpArgs false

variable {κ : Type} {Ty : κ → Type} {R : Type}
section
variable {P : Program} {C : Cod κ Ty} {T : TypeId → Option (TI κ Ty)}
variable {Mut : Nat → Prop} {Lent : Org κ Ty} {w0 w w' : World} {ρ ρ' : Nat → Loc} {env : Env κ Ty} {objs objs' objs1 : Objs κ Ty} {tm : Array Value}

theorem compat_weaker_push (hw : Weaker objs objs1) (o : AObj κ Ty) (l : Loc) (i : Nat) : Compat ρ objs (upd ρ objs1.length l) (objs1 ++ [o]) i := by
  unfold Compat
  split
  · rename_i cs e
    have hi := (List.getElem?_eq_some_iff.mp e).1
    have hi1 : i < objs1.length := by rw [hw.1]; exact hi
    rcases hw.2 i with e' | e'
    · exact .inl ⟨cs, by rw [push_old hi1, e', e], upd_other ρ _ l (by omega)⟩
    · exact .inr (gone_dead (by rw [push_old hi1, e']))
  · rename_i t xs e
    have hi := (List.getElem?_eq_some_iff.mp e).1
    have hi1 : i < objs1.length := by rw [hw.1]; exact hi
    rcases hw.2 i with e' | e'
    · exact .inl ⟨xs, by rw [push_old hi1, e', e], rfl, upd_other ρ _ l (by omega)⟩
    · exact .inr (gone_dead (by rw [push_old hi1, e']))
  · rename_i k v es ho e
    have hi := (List.getElem?_eq_some_iff.mp e).1
    have hi1 : i < objs1.length := by rw [hw.1]; exact hi
    rcases hw.2 i with e' | e'
    · exact .inl ⟨es, ho, by rw [push_old hi1, e', e], by rw [upd_other ρ _ l (by omega)]⟩
    · exact .inr (gone_dead (by rw [push_old hi1, e']))
  · rename_i e
    have hi := (List.getElem?_eq_some_iff.mp e).1
    have hi1 : i < objs1.length := by rw [hw.1]; exact hi
    rcases hw.2 i with e' | e'
    · exact (gone_dead (by rw [push_old hi1, e', e]))
    · exact (gone_dead (by rw [push_old hi1, e']))
  · trivial

theorem SRel.flt (S : SRel C Mut Lent w0 ρ env objs tm w) {i b : Nat} (h : FootAt ρ objs i b) : b < w.heap.size := by
  exact foot_lt (S.ob i) h

/-- a new object in the place of what was given up, or on a new block -/
theorem SRel.take (S : SRel C Mut Lent w0 ρ env objs tm w) (hw : Weaker objs objs1) {o : AObj κ Ty} {l : Loc}
    (hb : ∀ b, b < w.heap.size → b ≠ l.block ∨ ¬ FootB ρ objs b → w'.heap[b]? = w.heap[b]?) (hsz : w.heap.size ≤ w'.heap.size)
    (hl : (w.heap.size ≤ l.block ∨ (FootB ρ objs l.block ∧ ∀ i, ¬ FootAt ρ objs1 i l.block)) ∨ ∀ b, ¬ FootAt (upd ρ objs1.length l) (objs1 ++ [o]) objs1.length b)
    (hkeep : ∀ b, FootB ρ objs1 b → w'.heap[b]? = w.heap[b]?)
    (hnew : ∀ (_ : WStep w w' (FootB ρ objs) (FootB (upd ρ objs1.length l) (objs1 ++ [o]))), ORel C w' Mut (upd ρ objs1.length l) (objs1 ++ [o]) objs1.length)
    (hos : w'.os = w.os) (htape : w'.tape = w.tape) (hout : w'.output = w.output) (hs : ∀ q, (l.sub q).2.2 = 0 := by intro; rfl) :
    SRel C Mut Lent w0 (upd ρ objs1.length l) env (objs1 ++ [o]) tm w' := by
  have hlen := hw.1
  have fp : ∀ i b, FootAt (upd ρ objs1.length l) (objs1 ++ [o]) i b → (i < objs1.length ∧ FootAt ρ objs1 i b) ∨ (i = objs1.length ∧ b = l.block ∧ FootAt (upd ρ objs1.length l) (objs1 ++ [o]) objs1.length b) := fun i b h => by
    rcases foot_push hs h with h1 | ⟨h1, h2⟩
    · exact .inl h1
    · exact .inr ⟨h1, h2, h1 ▸ h⟩
  have W : WStep w w' (FootB ρ objs) (FootB (upd ρ objs1.length l) (objs1 ++ [o])) := ⟨fun b hlt hn => hb b hlt (.inr hn), hsz, fun b ⟨i, hi⟩ => by
    rcases fp i b hi with ⟨_, h⟩ | ⟨_, h, hh⟩
    · exact .inl ⟨i, hw.foot h⟩
    · subst h
      rcases hl with (h1 | ⟨h1, _⟩) | h1
      · exact .inr h1
      · exact .inl h1
      · exact absurd hh (h1 _)⟩
  refine S.step W (by simp; omega) (compat_weaker_push hw o l) (fun i => ?_) (fun i j b hi hj => ?_) hos htape hout
  · by_cases hi : i < objs1.length
    · rcases hw.2 i with e | e
      · refine ORel.step W (by simp; omega) (compat_weaker_push hw o l) (S.ob i) (by rw [push_old hi, e]) (upd_other ρ _ l (by omega)) (fun b hb' => hkeep b ⟨i, ?_⟩)
        unfold FootAt at hb' ⊢; rw [e]; exact hb'
      · unfold ORel; rw [push_old hi, e]; trivial
    · by_cases hn : i = objs1.length
      · subst hn; exact hnew W
      · unfold ORel
        have : (objs1 ++ [o])[i]? = none := List.getElem?_eq_none (by simp; omega)
        rw [this]; trivial
  · rcases fp i b hi with ⟨h1, h2⟩ | ⟨h1, h2, h3⟩ <;> rcases fp j b hj with ⟨g1, g2⟩ | ⟨g1, g2, g3⟩
    · exact S.inj i j b (hw.foot h2) (hw.foot g2)
    · subst g2
      rcases hl with (hh | ⟨_, hh⟩) | hh
      · have := S.flt (hw.foot h2); omega
      · exact absurd h2 (hh i)
      · exact absurd g3 (hh _)
    · subst h2
      rcases hl with (hh | ⟨_, hh⟩) | hh
      · have := S.flt (hw.foot g2); omega
      · exact absurd g2 (hh j)
      · exact absurd h3 (hh _)
    · omega

theorem growBy_le (need : Nat) : ∀ (r c : Nat), c < need → 256 ≤ c → Builtin.growBy need r c ≤ 2 * need
  | 0, c, h, _ => by simp only [Builtin.growBy]; omega
  | r + 1, c, h, h2 => by
    simp only [Builtin.growBy]
    rw [if_neg (by omega)]
    by_cases h3 : c + (c + 768) / 4 < need
    · exact growBy_le need r _ h3 (by omega)
    · cases r with
      | zero => simp only [Builtin.growBy]; omega
      | succ r => simp only [Builtin.growBy]; rw [if_pos (by omega)]; omega
theorem nextcap_le {need old : Nat} (h : old < need) : Builtin.nextslicecap need old ≤ 2 * need := by
  unfold Builtin.nextslicecap
  split
  · omega
  · split
    · omega
    · exact growBy_le need 4 old h (by omega)

/-- the cells of what a slice shows -/
theorem firstCells_sound (HC : CodOk C) {t : κ} {xs : List (Ty t)} {A : Option Addr} {c blk off : Nat} (hA : xs ≠ [] → A = some (at' blk off) ∧ blk < w.heap.size)
    (hrow : ∀ i y j cl, xs[i]? = some y → (C.enc t y)[j]? = some cl → ∃ v, w.cell? (at' blk (off + i * C.sz t + j)) = some v ∧ VRel C w Mut ρ objs cl v) :
    ∃ vs : List Value, vs.length = xs.length * C.sz t ∧ (∀ w2 : World, (∀ a, w2.cell? a = w.cell? a) → (Builtin.firstCells (C.sz t) xs.length (.slice A xs.length c)).run P w2 = .ok vs.toArray w2) ∧ (∀ (q : Nat) (v : Value), vs[q]? = some v → isCell v = true) ∧
      ∀ i y j cl, xs[i]? = some y → (C.enc t y)[j]? = some cl → ∃ v, vs[i * C.sz t + j]? = some v ∧ VRel C w Mut ρ objs cl v := by
  by_cases hx : xs = []
  · subst hx
    refine ⟨[], by simp, fun w2 _ => ?_, fun q v h => by simp at h, fun i y j cl h => by simp at h⟩
    cases A with
    | none => rfl
    | some a => simp [Builtin.firstCells, loadCells, loadCellsFrom]
  · obtain ⟨rfl, hblk⟩ := hA hx
    by_cases hs : C.sz t = 0
    · refine ⟨[], by simp [hs], fun w2 _ => by simp [Builtin.firstCells, hs, loadCells, loadCellsFrom], fun q v h => by simp at h, fun i y j cl h1 h2 => ?_⟩
      have := (List.getElem?_eq_some_iff.mp h2).1
      rw [HC.len, hs] at this; omega
    · have hcell : ∀ q, q < xs.length * C.sz t → ∃ v, w.cell? (at' blk (off + q)) = some v ∧ isCell v = true := fun q hq => by
        have h1 : q / C.sz t < xs.length := (Nat.div_lt_iff_lt_mul (by omega)).mpr hq
        have h2 : q % C.sz t < C.sz t := Nat.mod_lt _ (by omega)
        have h3 : (C.enc t xs[q / C.sz t])[q % C.sz t]? = some ((C.enc t xs[q / C.sz t])[q % C.sz t]'(by rw [HC.len]; exact h2)) := List.getElem?_eq_getElem _
        obtain ⟨v, a1, a2⟩ := hrow (q / C.sz t) _ (q % C.sz t) _ (List.getElem?_eq_getElem h1) h3
        refine ⟨v, ?_, deep_isCell HC (enc_cell HC h3) a2⟩
        rw [← a1, Nat.add_assoc, Nat.div_add_mod']
      let f : Nat → Value := fun q => (w.cell? (at' blk (off + q))).getD Go.undef
      have hf : ∀ q, q < xs.length * C.sz t → w.cell? (at' blk (off + q)) = some (f q) := fun q hq => by
        obtain ⟨v, a1, _⟩ := hcell q hq; simp [f, a1]
      refine ⟨(List.range (xs.length * C.sz t)).map f, by simp, fun w2 h2 => ?_, fun q v hq => ?_, fun i y j cl h1 h2 => ?_⟩
      · simp only [Builtin.firstCells]
        exact run_loadCells w2 (at' blk off) _ f (fun q hq => by rw [add_at, h2]; exact hf q hq)
      · simp only [List.getElem?_map, Option.map_eq_some_iff] at hq
        obtain ⟨q', e1, rfl⟩ := hq
        have hlt : q' < xs.length * C.sz t := by have := List.mem_of_getElem? e1; simpa using this
        obtain ⟨v, a1, a2⟩ := hcell q' hlt
        simp [f, a1, a2]
      · have hi := (List.getElem?_eq_some_iff.mp h1).1
        have hj : j < C.sz t := by have := (List.getElem?_eq_some_iff.mp h2).1; rwa [HC.len] at this
        obtain ⟨v, a1, a2⟩ := hrow i y j cl h1 h2
        refine ⟨v, ?_, a2⟩
        rw [List.getElem?_map, List.getElem?_range (row_lt hi hj)]
        simp only [Option.map_some, f]
        rw [← Nat.add_assoc, a1]; rfl


theorem zeroCells_get {zero : Array Value} {n q : Nat} (h : q < n * zero.size) : ∃ v ∈ zero.toList, (Builtin.zeroCells zero n)[q]? = some v := by
  have hz : 0 < zero.size := by
    rcases Nat.eq_zero_or_pos zero.size with e | e
    · rw [e] at h; omega
    · exact e
  have hm : q % zero.size < zero.size := Nat.mod_lt _ hz
  refine ⟨zero[q % zero.size], by simp, ?_⟩
  unfold Builtin.zeroCells
  rw [Array.getElem?_map, Array.getElem?_range, if_pos h]
  simp [hm]

/-- the machine's append, in either way -/
theorem run_append (HC : CodOk C) {t1 t2 e ty : TypeId} {t : κ} {ie : TypeInfo} {te : TypeId} {z : Value} (hu : P.underlying t1 = some (.slice e)) (hu2 : P.underlying t2 = some (.slice te)) (hi : P.info? e = some ie) (hs : ie.size = C.sz t) (hby : ie.bytes = C.by' t)
    (hz : ie.zero = some z) (hzs : z.cells.size = C.sz t)
    {xs ys : List (Ty t)} {A A' : Option Addr} {c c' : Nat} {old new : List Value}
    (hold : (Builtin.firstCells (C.sz t) xs.length (.slice A xs.length c)).run P w.drew = .ok old.toArray w.drew)
    (hnew0 : (Builtin.firstCells (C.sz t) ys.length (.slice A' ys.length c')).run P w = .ok new.toArray w)
    (hnew : (Builtin.firstCells (C.sz t) ys.length (.slice A' ys.length c')).run P w.drew = .ok new.toArray w.drew)
    (hb : (xs.length + ys.length) * C.by' t ≤ 140737488355328) (hb1 : 0 < C.by' t) :
    (xs.length + ys.length ≤ c → (Builtin.append_ #[t1, t2] ty #[.slice A xs.length c, .slice A' ys.length c']).run P w =
        ((match A with | some a => storeCells (a.add (xs.length * C.sz t)) new | none => pure ()).run P w).andThen fun _ w' => .ok (.slice A (xs.length + ys.length) c) w') ∧
    (¬ xs.length + ys.length ≤ c → ∃ nc, xs.length + ys.length ≤ nc ∧ (Builtin.append_ #[t1, t2] ty #[.slice A xs.length c, .slice A' ys.length c']).run P w =
        .ok (.slice (some (at' w.heap.size 0)) (xs.length + ys.length) nc) (w.drew.alloc (.cells (old.toArray ++ new.toArray ++ Builtin.zeroCells z.cells (nc - (xs.length + ys.length))) e))) := by
  have hneed : ((xs.length + ys.length : Nat) : Int) ≤ 140737488355328 := by
    have : xs.length + ys.length ≤ (xs.length + ys.length) * C.by' t := Nat.le_mul_of_pos_right _ hb1
    omega
  refine ⟨fun hle => ?_, fun hgt => ?_⟩
  · simp only [Builtin.append_, List.getElem?_toArray, List.getElem?_cons_zero, List.getElem?_cons_succ, Sem.run_bind, run_underlying hu, run_underlying hu2, Result.andThen_ok, runSz hi, hs, Sem.run_pure, Builtin.lenOf]
    simp only [Bool.false_eq_true, if_false, Builtin.lenOf, Sem.run_pure, Result.andThen_ok, hle, if_true, Bool.not_false, Sem.run_bind, hnew0]
    cases A with
    | none => simp
    | some a => simp
  · refine ⟨(Question.appendCap (xs.length + ys.length) c e).cut (w.tape w.drawn (Question.appendCap (xs.length + ys.length) c e)), ?_, ?_⟩
    · simp only [Question.cut]; omega
    · have hcap := nextcap_le (need := xs.length + ys.length) (old := c) (by omega)
      have h1 : ¬ (((xs.length + ys.length : Nat) : Int) > IntKind.i64.max ∧ (ie.bytes = 0)) := by rw [hby]; omega
      have h2 : ¬ (Builtin.nextslicecap (xs.length + ys.length) c * ie.bytes > 2 ^ 48) := by
        rw [hby]
        have := Nat.mul_le_mul_right (C.by' t) hcap
        rw [Nat.mul_assoc] at this
        have h48 : (2 : Nat) ^ 48 = 281474976710656 := by decide
        omega
      simp only [Builtin.append_, List.getElem?_toArray, List.getElem?_cons_zero, List.getElem?_cons_succ, Sem.run_bind, run_underlying hu, run_underlying hu2, Result.andThen_ok, runSz hi, hs, Sem.run_pure, Builtin.lenOf]
      simp only [Bool.false_eq_true, if_false, Builtin.lenOf, Sem.run_pure, Result.andThen_ok, hgt, Bool.not_false, if_true, Sem.run_bind, runTI hi, false_or, h1, h2, run_choose, Question.forced, World.drew_eq, run_askRoom, hold, hnew]
      simp [zeroValue, runTI hi, hz, newRow, World.alloc_eq, at']


/-- rows behind rows behind more -/
theorem rows_append (HC : CodOk C) {t : κ} {xs ys : List (Ty t)} {old new rest : List Value} (ho : old.length = xs.length * C.sz t) (hn : new.length = ys.length * C.sz t)
    (h1 : ∀ i y j cl, xs[i]? = some y → (C.enc t y)[j]? = some cl → ∃ v, old[i * C.sz t + j]? = some v ∧ VRel C w Mut ρ objs cl v)
    (h2 : ∀ i y j cl, ys[i]? = some y → (C.enc t y)[j]? = some cl → ∃ v, new[i * C.sz t + j]? = some v ∧ VRel C w Mut ρ objs cl v) :
    ∀ i y j cl, (xs ++ ys)[i]? = some y → (C.enc t y)[j]? = some cl → ∃ v, (old ++ new ++ rest)[i * C.sz t + j]? = some v ∧ VRel C w Mut ρ objs cl v := by
  intro i y j cl hi hj
  have hjs : j < C.sz t := by have := (List.getElem?_eq_some_iff.mp hj).1; rwa [HC.len] at this
  by_cases hx : i < xs.length
  · rw [List.getElem?_append_left hx] at hi
    obtain ⟨v, a1, a2⟩ := h1 i y j cl hi hj
    have := row_lt hx hjs
    exact ⟨v, by rw [List.append_assoc, List.getElem?_append_left (by omega)]; exact a1, a2⟩
  · rw [List.getElem?_append_right (by omega)] at hi
    obtain ⟨v, a1, a2⟩ := h2 (i - xs.length) y j cl hi hj
    have hlt := (List.getElem?_eq_some_iff.mp a1).1
    refine ⟨v, ?_, a2⟩
    have e : i * C.sz t + j - old.length = (i - xs.length) * C.sz t + j := by
      rw [ho, Nat.sub_mul]
      have := Nat.mul_le_mul_right (C.sz t) (show xs.length ≤ i by omega)
      omega
    have hge : old.length ≤ i * C.sz t + j := by
      rw [ho]
      have := Nat.mul_le_mul_right (C.sz t) (show xs.length ≤ i by omega)
      omega
    rw [List.append_assoc, List.getElem?_append_right hge, e, List.getElem?_append_left hlt]; exact a1

/-- what an append begins with: nothing, or what is given up for it -/
structure Base (C : Cod κ Ty) (w : World) (Mut : Nat → Prop) (ρ : Nat → Loc) (objs objs1 : Objs κ Ty) (t : κ) (xs : List (Ty t)) (A : Option Addr) (c blk off : Nat) : Prop where
  weak : Weaker objs objs1
  le : xs.length ≤ c
  at_ : c ≠ 0 → A = some (at' blk off) ∧ blk < w.heap.size ∧ FootB ρ objs blk ∧ ∀ i, ¬ FootAt ρ objs1 i blk
  row : ∀ i y j cl, xs[i]? = some y → (C.enc t y)[j]? = some cl → ∃ v, w.cell? (at' blk (off + i * C.sz t + j)) = some v ∧ VRel C w Mut ρ objs cl v
  room : ∀ q, q < c * C.sz t → ∃ v, w.cell? (at' blk (off + q)) = some v ∧ isCell v = true ∧ w.frozen? (at' blk (off + q)) = false

theorem append_sound (HC : CodOk C) (S : SRel C Mut Lent w0 ρ env objs tm w) {t1 t2 e ty : TypeId} {t : κ} {ie : TypeInfo} {te : TypeId} {z : Value} (hu : P.underlying t1 = some (.slice e)) (hu2 : P.underlying t2 = some (.slice te)) (hi : P.info? e = some ie) (hs : ie.size = C.sz t) (hby : ie.bytes = C.by' t)
    (hz : ie.zero = some z) (hzs : z.cells.size = C.sz t) (hzc : ∀ v ∈ z.cells.toList, isCell v = true) (hb1 : 0 < C.by' t)
    {xs ys : List (Ty t)} {A A' : Option Addr} {c c' blk off blk' off' : Nat} (B : Base C w Mut ρ objs objs1 t xs A c blk off)
    (hA' : ys ≠ [] → A' = some (at' blk' off') ∧ blk' < w.heap.size)
    (hrow' : ∀ i y j cl, ys[i]? = some y → (C.enc t y)[j]? = some cl → ∃ v, w.cell? (at' blk' (off' + i * C.sz t + j)) = some v ∧ VRel C w Mut ρ objs cl v)
    (hb : (xs.length + ys.length) * C.by' t ≤ 140737488355328) :
    ∃ u w' ρ', (Builtin.append_ #[t1, t2] ty #[.slice A xs.length c, .slice A' ys.length c']).run P w = .ok u w' ∧ SRel C Mut Lent w0 ρ' env (objs1 ++ [.sl t (xs ++ ys)]) tm w' ∧
      VRel C w' Mut ρ' (objs1 ++ [.sl t (xs ++ ys)]) (.own objs1.length) u := by
  have hAx : xs ≠ [] → A = some (at' blk off) ∧ blk < w.heap.size := fun hne => by
    have := List.length_pos_iff.mpr hne
    have := B.at_ (by have := B.le; omega)
    exact ⟨this.1, this.2.1⟩
  obtain ⟨old, o1, o2, o3, o4⟩ := firstCells_sound (P := P) HC (c := c) hAx B.row
  obtain ⟨new, n1, n2, n3, n4⟩ := firstCells_sound (P := P) HC (c := c') hA' hrow'
  obtain ⟨r1, r2⟩ := run_append (P := P) (w := w) HC (ty := ty) hu hu2 hi hs hby hz hzs (o2 w.drew (fun _ => rfl)) (n2 w (fun _ => rfl)) (n2 w.drew (fun _ => rfl)) hb hb1
  have hlen1 := B.weak.1
  by_cases hle : xs.length + ys.length ≤ c
  · have r1 := r1 hle
    by_cases hc0 : c = 0
    · subst hc0
      have hx : xs = [] := List.length_eq_zero_iff.mp (by omega)
      have hy : ys = [] := List.length_eq_zero_iff.mp (by omega)
      subst hx; subst hy
      have hn0 : new = [] := List.length_eq_zero_iff.mp (by simpa using n1)
      subst hn0
      refine ⟨_, w, upd ρ objs1.length ⟨0, 0, 0, noSub⟩, ?_, ?_, .own (push_new objs1 _) (A := A) ?_⟩
      · rw [r1, upd_same]
        cases A <;> simp [storeCells]
      · refine S.take (w' := w) B.weak (o := .sl t []) (l := ⟨0, 0, 0, noSub⟩) (fun b _ _ => rfl) (Nat.le_refl _) (.inr fun b hb => ?_) (fun b _ => rfl) (fun W => ?_) rfl rfl rfl
        · unfold FootAt at hb; rw [push_new, upd_same] at hb; exact hb.1 rfl
        · unfold ORel; rw [push_new, upd_same]
          exact ⟨Nat.le_refl _, fun h => absurd rfl h, fun i x j cl hx => by simp at hx, fun q hq => by simp at hq⟩
      · rw [upd_same]; intro h; exact absurd rfl h
    · obtain ⟨rfl, hblk, hfoot, hnone⟩ := B.at_ hc0
      have hst := run_storeCells_cells (P := P) blk (off + xs.length * C.sz t) new 0 w (fun j hj => by
        obtain ⟨v, a1, _⟩ := B.room (xs.length * C.sz t + j) (by
          have := Nat.mul_le_mul_right (C.sz t) hle
          rw [Nat.add_mul] at this; omega)
        rw [show (⟨blk, off + xs.length * C.sz t + 0 + j, none⟩ : Addr) = at' blk (off + (xs.length * C.sz t + j)) by simp [at', Nat.add_assoc], a1]; rfl) (fun j hj => by
        obtain ⟨v, _, _, a3⟩ := B.room (xs.length * C.sz t + j) (by
          have := Nat.mul_le_mul_right (C.sz t) hle
          rw [Nat.add_mul] at this; omega)
        rw [show (⟨blk, off + xs.length * C.sz t + 0 + j, none⟩ : Addr) = at' blk (off + (xs.length * C.sz t + j)) by simp [at', Nat.add_assoc]]; exact a3) (fun v hv => by
        obtain ⟨q, hq⟩ := List.getElem?_of_mem hv
        exact isCell_one (n3 q v hq))
      simp only [Nat.add_zero] at hst
      have hcell := fun q => setCells_cell (w := w) (b := blk) (o := off + xs.length * C.sz t) (vs := new) (q := q) (fun j hj => by
        obtain ⟨v, a1, _⟩ := B.room (xs.length * C.sz t + j) (by
          have := Nat.mul_le_mul_right (C.sz t) hle
          rw [Nat.add_mul] at this; omega)
        exact ⟨v, by rw [Nat.add_assoc]; exact a1⟩)
      obtain ⟨s1, s2, s3⟩ := setCells_os blk new (off + xs.length * C.sz t) w
      refine ⟨.slice (some (at' blk off)) (xs.length + ys.length) c, w.setCells blk (off + xs.length * C.sz t) new, upd ρ objs1.length ⟨blk, off, c, noSub⟩, ?_, ?_, ?_⟩
      rotate_left
      · refine S.take (w' := w.setCells blk (off + xs.length * C.sz t) new) B.weak (o := .sl t (xs ++ ys)) (l := ⟨blk, off, c, noSub⟩) (fun b _ h => setCells_block _ _ _ _ _ ?_) (by rw [setCells_size]; exact Nat.le_refl _) (.inl (.inr ⟨hfoot, hnone⟩)) (fun b hb => setCells_block _ _ _ _ _ ?_) (fun W => ?_) s1 s2 s3
        · rcases h with h | h
          · exact h
          · rintro rfl; exact h hfoot
        · rintro rfl; obtain ⟨i, hi⟩ := hb; exact hnone i hi
        · unfold ORel; rw [push_new, upd_same]
          dsimp only
          refine ⟨by simpa using hle, fun _ => by rw [setCells_size]; exact hblk, ?_, fun q hq => ?_⟩
          · intro i x j cl hx hj
            have hjs : j < C.sz t := by have := (List.getElem?_eq_some_iff.mp hj).1; rwa [HC.len] at this
            have hcm := compat_weaker_push (ρ := ρ) B.weak (.sl t (xs ++ ys)) ⟨blk, off, c, noSub⟩
            by_cases hix : i < xs.length
            · rw [List.getElem?_append_left hix] at hx
              obtain ⟨v, a1, a2⟩ := B.row i x j cl hx hj
              have := row_lt hix hjs
              exact ⟨v, by rw [hcell, if_neg (by omega)]; exact a1, a2.step W (by simp; omega) hcm⟩
            · rw [List.getElem?_append_right (by omega)] at hx
              obtain ⟨v, a1, a2⟩ := n4 (i - xs.length) x j cl hx hj
              have hlt := (List.getElem?_eq_some_iff.mp a1).1
              have hm := Nat.mul_le_mul_right (C.sz t) (show xs.length ≤ i by omega)
              rw [Nat.sub_mul] at a1 hlt
              refine ⟨v, ?_, a2.step W (by simp; omega) hcm⟩
              rw [hcell, if_pos (by omega), ← a1]; congr 1; omega
          · obtain ⟨v, a1, a2, a3⟩ := B.room q hq
            by_cases hin : off + xs.length * C.sz t ≤ off + q ∧ off + q < off + xs.length * C.sz t + new.length
            · have hk : new[off + q - (off + xs.length * C.sz t)]? = some (new[off + q - (off + xs.length * C.sz t)]'(by omega)) := List.getElem?_eq_getElem _
              exact ⟨_, by rw [hcell, if_pos hin]; exact hk, n3 _ _ hk, by rw [World.frozen?_setCells]; exact a3⟩
            · exact ⟨v, by rw [hcell, if_neg hin]; exact a1, a2, by rw [World.frozen?_setCells]; exact a3⟩
      · have := VRel.own (C := C) (w := w.setCells blk (off + xs.length * C.sz t) new) (Mut := Mut) (ρ := upd ρ objs1.length ⟨blk, off, c, noSub⟩) (push_new objs1 (.sl t (xs ++ ys))) (A := some (at' blk off)) (fun _ => by rw [upd_same])
        rw [upd_same, List.length_append] at this
        exact this
      · rw [r1]; dsimp only; rw [add_at]; rw [show at' blk (off + xs.length * C.sz t) = ⟨blk, off + xs.length * C.sz t, none⟩ from rfl, hst]; rfl
  · obtain ⟨nc, h1, r2⟩ := r2 hle
    refine ⟨_, _, upd ρ objs1.length ⟨w.heap.size, 0, nc, noSub⟩, r2, ?_, ?_⟩
    · refine S.take (w' := w.drew.alloc _) B.weak (o := .sl t (xs ++ ys)) (l := ⟨w.heap.size, 0, nc, noSub⟩) (fun b hb _ => heap_alloc_old w.drew _ hb) (by simp) (.inl (.inl (Nat.le_refl _))) (fun b ⟨i, hi⟩ => heap_alloc_old w.drew _ (S.flt (B.weak.foot hi))) (fun W => ?_) rfl rfl rfl
      unfold ORel; rw [push_new, upd_same]
      have hcm := compat_weaker_push (ρ := ρ) B.weak (.sl t (xs ++ ys)) ⟨w.heap.size, 0, nc, noSub⟩
      have hcells : ∀ (q : Nat), (w.drew.alloc (.cells (old.toArray ++ new.toArray ++ Builtin.zeroCells z.cells (nc - (xs.length + ys.length))) e)).cell? (at' w.heap.size (0 + q)) = (old ++ new ++ (Builtin.zeroCells z.cells (nc - (xs.length + ys.length))).toList)[q]? := fun q => by
        rw [Nat.zero_add]
        have := World.cell?_alloc_new w.drew (old.toArray ++ new.toArray ++ Builtin.zeroCells z.cells (nc - (xs.length + ys.length))) e q
        simp only [World.size_drew] at this
        rw [at', this, ← Array.getElem?_toList]
        simp
      refine ⟨by simpa using h1, fun _ => by simp, ?_, fun q hq => ?_⟩
      · intro i x j cl hx hj
        obtain ⟨v, a1, a2⟩ := rows_append (rest := (Builtin.zeroCells z.cells (nc - (xs.length + ys.length))).toList) HC o1 n1 o4 n4 i x j cl hx hj
        have e0 : 0 + i * C.sz t + j = 0 + (i * C.sz t + j) := Nat.add_assoc _ _ _
        refine ⟨v, ?_, a2.step W (by simp; omega) hcm⟩
        dsimp only
        rw [e0, hcells]
        exact a1
      · dsimp only; rw [hcells]
        by_cases q1 : q < old.length + new.length
        · have hq' : (old ++ new)[q]? = some ((old ++ new)[q]'(by simpa using q1)) := List.getElem?_eq_getElem _
          refine ⟨_, by rw [List.getElem?_append_left (by simpa using q1)]; exact hq', ?_, by simp only [at', Nat.zero_add]; exact World.frozen?_alloc_new w.drew _ _ _⟩
          by_cases q2 : q < old.length
          · rw [List.getElem?_append_left q2] at hq'; exact o3 _ _ hq'
          · rw [List.getElem?_append_right (by omega)] at hq'; exact n3 _ _ hq'
        · obtain ⟨v, b1, b2⟩ := zeroCells_get (zero := z.cells) (n := nc - (xs.length + ys.length)) (q := q - (old.length + new.length)) (by
            dsimp only at hq
            rw [hzs, Nat.sub_mul, Nat.add_mul]; omega)
          exact ⟨v, by rw [List.getElem?_append_right (by simp; omega)]; simpa using b2, hzc v b1, by simp only [at', Nat.zero_add]; exact World.frozen?_alloc_new w.drew _ _ _⟩
    · have := VRel.own (C := C) (w := w.drew.alloc (.cells (old.toArray ++ new.toArray ++ Builtin.zeroCells z.cells (nc - (xs.length + ys.length))) e)) (Mut := Mut) (ρ := upd ρ objs1.length ⟨w.heap.size, 0, nc, noSub⟩) (push_new objs1 (.sl t (xs ++ ys))) (A := some (at' w.heap.size 0)) (fun _ => by rw [upd_same])
      rw [upd_same, List.length_append] at this
      exact this

end
end Km
namespace Km
open Go
set_option linter.unusedVariables false
set_option linter.unusedSimpArgs false

variable {κ : Type} {Ty : κ → Type} {R : Type}
section
variable {P : Program} {C : Cod κ Ty} {T : TypeId → Option (TI κ Ty)}
variable {Mut : Nat → Prop} {Lent : Org κ Ty} {w0 w w' : World} {ρ ρ' : Nat → Loc} {env : Env κ Ty} {objs objs' objs1 : Objs κ Ty} {a : Act}

theorem app_some {α : Type} {b : Nat} {xs ys zs : List α} (h : app b xs ys = some zs) : zs = xs ++ ys ∧ (xs.length + ys.length) * b ≤ 140737488355328 := by
  unfold app at h; split at h
  · cases h; exact ⟨rfl, by assumption⟩
  · cases h
theorem cast_some (HC : CodOk C) {s t : κ} {xs : List (Ty s)} {ys : List (Ty t)} (h : C.cast s t xs = some ys) : ∃ e : s = t, e ▸ xs = ys := HC.cast s t xs ys h
theorem cast_case (HC : CodOk C) {s t : κ} {xs : List (Ty s)} {K : List (Ty t) → Option R} {r : R} (h : (C.cast s t xs).bind K = some r) : ∃ e : s = t, K (e ▸ xs) = some r := by
  obtain ⟨ys, h1, h2⟩ := bind_some h
  obtain ⟨e, he⟩ := cast_some HC h1
  exact ⟨e, he ▸ h2⟩

theorem elem_zero (HT : TOk P C T) {t : TypeId} {ti : TI κ Ty} {e : TypeId} {s : κ} (HE : ∀ t ti e s, T t = some ti → ti.shp = .slice e s → ∃ i z, P.info? e = some i ∧ i.zero = some z ∧ z.cells.size = C.sz s ∧ (∀ v ∈ z.cells.toList, isCell v = true) ∧ 0 < C.by' s) (ht : T t = some ti) (hs : ti.shp = .slice e s) :
    ∃ i z, P.underlying t = some (.slice e) ∧ P.info? e = some i ∧ i.size = C.sz s ∧ i.bytes = C.by' s ∧ i.zero = some z ∧ z.cells.size = C.sz s ∧ (∀ v ∈ z.cells.toList, isCell v = true) ∧ 0 < C.by' s := by
  obtain ⟨h1, i, h2, h3, h4⟩ := HT.slice t ti e s ht hs
  obtain ⟨i', z, g1, g2, g3, g4, g5⟩ := HE t ti e s ht hs
  rw [h2] at g1; cases g1
  exact ⟨i, z, h1, h2, h3, h4, g2, g3, g4, g5⟩

/-- elements' types, as slices of them need them -/
def EOk (P : Program) (C : Cod κ Ty) (T : TypeId → Option (TI κ Ty)) : Prop := ∀ t ti e s, T t = some ti → ti.shp = .slice e s → ∃ i z, P.info? e = some i ∧ i.zero = some z ∧ z.cells.size = C.sz s ∧ (∀ v ∈ z.cells.toList, isCell v = true) ∧ 0 < C.by' s

/-- 'aappend' -/
theorem aappend_sound (HT : TOk P C T) (HE : EOk P C T) (HC : CodOk C) (S : SRel C Mut Lent w0 ρ env objs a.tmps w) {t1 t2 e1 e2 ty : TypeId} {i1 i2 : TI κ Ty} {s1 s2 : κ} (h1 : T t1 = some i1) (h2 : T t2 = some i2) (hs1 : i1.shp = .slice e1 s1) (hs2 : i2.shp = .slice e2 s2)
    {x y : AV κ Ty} {u q : Value} (hx : VRel C w Mut ρ objs x u) (hy : VRel C w Mut ρ objs y q) {K : AV κ Ty → Objs κ Ty → Option R} {r : R} (h : aappend C objs s1 x y K = some r) :
    ∃ v objs' u' w' ρ', K v objs' = some r ∧ (Builtin.append_ #[t1, t2] ty #[u, q]).run P w = .ok u' w' ∧ SRel C Mut Lent w0 ρ' env objs' a.tmps w' ∧ VRel C w' Mut ρ' objs' v u' := by
  obtain ⟨ie, z, b1, b2, b3, b4, b5, b6, b7, b8⟩ := elem_zero HT HE h1 hs1
  obtain ⟨c1, _⟩ := HT.slice t2 i2 e2 s2 h2 hs2
  unfold aappend at h
  split at h
  · cases h
  · rename_i s ys hrow
    replace h := cast_case HC h
    obtain ⟨e, h⟩ := h
    subst e
    dsimp only at h
    obtain ⟨A', c', blk', off', rfl, hle', hA', hrow'⟩ := rowsOf_rel HC S hy hrow
    split at h
    · rename_i t
      replace h := bind_some h
      obtain ⟨zs, hz, h⟩ := h
      obtain ⟨rfl, hb⟩ := app_some hz
      cases hx with
      | @nil _ A0 =>
      obtain ⟨u', w', ρ', g1, g2, g3⟩ := append_sound (P := P) (ty := ty) HC S b1 c1 b2 b3 b4 b5 b6 b7 b8 (objs1 := objs) (xs := []) (A := A0) (c := 0) (blk := 0) (off := 0)
        ⟨.refl _, Nat.le_refl _, fun h => absurd rfl h, fun i y j cl h => by simp at h, fun q hq => by simp at hq⟩ hA' hrow' hb
      exact ⟨_, _, u', w', ρ', h, g1, g2, g3⟩
    · rename_i id
      split at h
      · rename_i t xs hsl
        replace h := cast_case HC h
        obtain ⟨e, h⟩ := h
        subst e
        dsimp only at h
        replace h := bind_some h
        obtain ⟨zs, hz, h⟩ := h
        obtain ⟨rfl, hb⟩ := app_some hz
        have hsl' := slOf_some hsl
        have ho := S.ob id
        simp only [ORel, hsl'] at ho
        cases hx with
        | own g hA =>
          rw [hsl'] at g; cases g
          obtain ⟨u', w', ρ', g1, g2, g3⟩ := append_sound (P := P) (ty := ty) HC S b1 c1 b2 b3 b4 b5 b6 b7 b8 (objs1 := objs.set id .dead) (xs := xs) (c := (ρ id).cap) (blk := (ρ id).block) (off := (ρ id).off)
            ⟨.kill objs id, ho.1, fun hc => ⟨hA hc, ho.2.1 hc, ⟨id, foot_live hsl' hc⟩, fun i hi => by
              obtain ⟨k1, k2⟩ := foot_kill hi
              exact k1 (S.inj _ _ _ k2 (foot_live hsl' hc))⟩, ho.2.2.1, ho.2.2.2⟩ hA' hrow' hb
          exact ⟨_, _, u', w', ρ', h, g1, g2, by simpa using g3⟩
        | ownd hcl hin g => rw [g] at hsl; cases hsl
      · cases h
    · rename_i id lo hi
      split at h
      · rename_i t xs hsl
        replace h := cast_case HC h
        obtain ⟨e, h⟩ := h
        subst e
        dsimp only at h
        replace h := bind_some h
        obtain ⟨zs, hz, h⟩ := h
        obtain ⟨rfl, hb⟩ := app_some hz
        have hsl' := slOf_some hsl
        have ho := S.ob id
        simp only [ORel, hsl'] at ho
        cases hx with
        | sub g hlo hhi hc hcap hA =>
          rename_i c _ _ A
          rw [hsl'] at g; cases g
          have hlen := dcut_length xs lo hi hhi
          obtain ⟨u', w', ρ', g1, g2, g3⟩ := append_sound (P := P) (ty := ty) HC S b1 c1 b2 b3 b4 b5 b6 b7 b8 (objs1 := objs.set id .dead) (xs := dcut xs lo hi) (A := A) (c := c) (blk := (ρ id).block) (off := (ρ id).off + lo * C.sz t)
            ⟨.kill objs id, by omega, fun hc0 => by
              have hcp : (ρ id).cap ≠ 0 := by omega
              exact ⟨hA hc0, ho.2.1 hcp, ⟨id, foot_live hsl' hcp⟩, fun i hi => by
                obtain ⟨k1, k2⟩ := foot_kill hi
                exact k1 (S.inj _ _ _ k2 (foot_live hsl' hcp))⟩, fun i y j cl k1 k2 => by
              have := ho.2.2.1 _ _ _ _ (dcut_some k1).1 k2
              rwa [Nat.add_mul, ← Nat.add_assoc] at this, fun q hq => by
              have hm := Nat.mul_le_mul_right (C.sz t) hcap
              rw [Nat.add_mul] at hm
              have := ho.2.2.2 (lo * C.sz t + q) (by omega)
              rwa [← Nat.add_assoc] at this⟩ hA' hrow' hb
          rw [hlen] at g1
          exact ⟨_, _, u', w', ρ', h, g1, g2, by simpa using g3⟩
        | subd hcl hin g => rw [g] at hsl; cases hsl
      · cases h
    · cases h

end
end Km
namespace Km
open Go
set_option linter.unusedVariables false
set_option linter.unusedSimpArgs false

variable {κ : Type} {Ty : κ → Type} {R : Type}
section
variable {P : Program} {C : Cod κ Ty} {T : TypeId → Option (TI κ Ty)}
variable {Mut : Nat → Prop} {Lent : Org κ Ty} {w0 w w' : World} {ρ ρ' : Nat → Loc} {env : Env κ Ty} {objs objs' objs1 : Objs κ Ty} {tm : Array Value}

theorem Parts.weaker (h : Weaker objs objs') : ∀ {ps : List (Nat × AV κ Ty)} {qs : List (Nat × Value)}, Parts C w Mut ρ objs ps qs → Parts C w Mut ρ objs' ps qs
  | [], [], _ => trivial
  | (i, x) :: ps, (j, u) :: qs, ⟨h1, h2, h3⟩ => ⟨h1, h.rel h2, h3.weaker h⟩

theorem rowsC_sound (HC : CodOk C) {t : κ} : ∀ (ps : List (Nat × AV κ Ty)) (qs : List (Nat × Value)) (us : Array Value) (objs : Objs κ Ty) (K : List (Ty t) → Objs κ Ty → Option R) (r : R) (n : Nat),
    SRel C Mut Lent w0 ρ env objs tm w → Parts C w Mut ρ objs ps qs → us.size = (n + ps.length) * C.sz t → rowsC C t objs n ps K = some r →
    ∃ ys objs' us', K ys objs' = some r ∧ SRel C Mut Lent w0 ρ env objs' tm w ∧ Weaker objs objs' ∧ Instr.fill (fun i => some (i * C.sz t, C.sz t)) us qs = some us' ∧ us'.size = us.size ∧ ys.length = ps.length ∧
      (∀ q, q < n * C.sz t → us'[q]? = us[q]?) ∧
      (∀ (i : Nat) (y : Ty t) (j : Nat) (cl : AV κ Ty), ys[i]? = some y → (C.enc t y)[j]? = some cl → ∃ v, us'[(n + i) * C.sz t + j]? = some v ∧ VRel C w Mut ρ objs' cl v) ∧
      (∀ q, n * C.sz t ≤ q → q < us.size → ∃ v, us'[q]? = some v ∧ isCell v = true)
  | [], [], us, objs, K, r, n, S, _, hsz, h => by
    refine ⟨[], objs, us, h, S, .refl _, rfl, rfl, rfl, fun q _ => rfl, fun i y j cl hx => by simp at hx, fun q h1 h2 => ?_⟩
    simp at hsz; omega
  | (i, x) :: ps, (i', u) :: qs, us, objs, K, r, n, S, hp, hsz, h => by
    obtain ⟨rfl, hx, hrest⟩ := hp
    simp only [rowsC] at h
    split at h
    · cases h
    · rename_i hin
      have hin := Nat.eq_of_beq_eq_true hin
      subst hin
      split at h
      · cases h
      · rename_i ns hns
        split at h
        · cases h
        · rename_i hl
          have hl := Nat.eq_of_beq_eq_true hl
          have hc := cellsOf_rel hns hx
          obtain ⟨ns', objs1, h, S1, hc1, hw1⟩ := deepen_sound HC ns _ objs _ _ S hc h
          split at h
          · rename_i y hdec
            have henc := HC.dec _ _ _ hdec
            have husz : u.cells.size = C.sz t := by have := hc.1; simp at this; omega
            simp only [List.length_cons] at hsz
            have hle : i * C.sz t + C.sz t ≤ us.size := by
              rw [hsz, show i + (ps.length + 1) = (i + 1) + ps.length by omega, Nat.add_mul (i + 1), Nat.add_mul i 1]; omega
            have hf := fold_splice u.cells.toList 0 us (i * C.sz t) (by simp; omega)
            simp only [Nat.add_zero] at hf
            generalize hus1 : u.cells.zipIdx.foldl (fun cs (c, j) => cs.setIfInBounds (i * C.sz t + j) c) us = us1
            have hus1' : us1.toList = splice us.toList (i * C.sz t) u.cells.toList := by
              rw [← hus1, ← Array.foldl_toList, Array.toList_zipIdx]; exact hf
            have hsz1 : us1.size = us.size := by
              have := congrArg List.length hus1'; rw [splice_length] at this; simpa using this
            have hget : ∀ q, us1[q]? = if i * C.sz t ≤ q ∧ q < i * C.sz t + C.sz t then u.cells[q - i * C.sz t]? else us[q]? := fun q => by
              rw [← Array.getElem?_toList, hus1', splice_get _ _ _ _ (by simp; omega)]
              simp [husz]
            obtain ⟨ys, objs', us', g1, g2, g3, g4, g5, g6, g7, g8, g9⟩ := rowsC_sound HC ps qs us1 objs1 _ r (i + 1) S1 (hrest.weaker hw1) (by rw [hsz1, hsz]; congr 1; omega) h
            refine ⟨y :: ys, objs', us', g1, g2, hw1.trans g3, ?_, by omega, by simp [g6], fun q hq => ?_, fun k z j cl hk hj => ?_, fun q hq1 hq2 => ?_⟩
            · simp only [Instr.fill]
              rw [if_neg (by simp [husz]; omega), hus1]; exact g4
            · rw [g7 q (by rw [Nat.add_mul]; omega), hget, if_neg (by omega)]
            · cases k with
              | zero =>
                simp only [List.getElem?_cons_zero, Option.some.injEq] at hk
                subst hk
                have hjs : j < C.sz t := by have := (List.getElem?_eq_some_iff.mp hj).1; rwa [HC.len] at this
                rw [henc] at hj
                have hu : u.cells.toList[j]? = some (u.cells.toList[j]'(by simp; omega)) := List.getElem?_eq_getElem _
                refine ⟨_, ?_, g3.rel (hc1.2.2 j cl _ hj hu)⟩
                rw [Nat.add_zero, g7 _ (by rw [Nat.add_mul]; omega), hget, if_pos (by omega)]
                rw [show i * C.sz t + j - i * C.sz t = j by omega, ← Array.getElem?_toList]; exact hu
              | succ k =>
                obtain ⟨v, a1, a2⟩ := g8 k z j cl (by simpa using hk) hj
                exact ⟨v, by rw [← a1]; congr 1; rw [show i + (k + 1) = i + 1 + k by omega], a2⟩
            · by_cases hq3 : (i + 1) * C.sz t ≤ q
              · exact g9 q hq3 (by omega)
              · rw [Nat.add_mul] at hq3
                have hu : u.cells.toList[q - i * C.sz t]? = some (u.cells.toList[q - i * C.sz t]'(by simp; omega)) := List.getElem?_eq_getElem _
                refine ⟨_, ?_, hc.2.1 _ _ hu⟩
                rw [g7 q (by rw [Nat.add_mul]; omega), hget, if_pos (by omega), ← Array.getElem?_toList]; exact hu
          · cases h
  | [], _ :: _, _, _, _, _, _, _, h, _, _ => h.elim
  | _ :: _, [], _, _, _, _, _, _, h, _, _ => h.elim

/-- a slice literal -/
theorem buildSlice_sound (HT : TOk P C T) (HE : EOk P C T) (HC : CodOk C) (S : SRel C Mut Lent w0 ρ env objs tm w) {t e : TypeId} {ti : TI κ Ty} {s : κ} (ht : T t = some ti) (hs : ti.shp = .slice e s) {n : Nat} {ps : List (Nat × AV κ Ty)} {qs : List (Nat × Value)}
    (hp : Parts C w Mut ρ objs ps qs) (hn : ps.length = n) (hlim : n * C.sz s ≤ 16777216) {K : List (Ty s) → Objs κ Ty → Option R} {r : R} (h : rowsC C s objs 0 ps K = some r) :
    ∃ ys objs1 u' w' ρ', K ys objs1 = some r ∧ (Instr.buildSlice t n qs.toArray).run P w = .ok u' w' ∧ SRel C Mut Lent w0 ρ' env (objs1 ++ [.sl s ys]) tm w' ∧ VRel C w' Mut ρ' (objs1 ++ [.sl s ys]) (.own objs1.length) u' := by
  obtain ⟨ie, z, b1, b2, b3, b4, b5, b6, b7, b8⟩ := elem_zero HT HE ht hs
  have hzv : (zeroValue e).run P w = .ok z w := by simp [zeroValue, runTI b2, b5]
  let us : Array Value := (Array.range (n * C.sz s)).map fun i => (if n * C.sz s = 0 then #[] else z.cells)[i % (if n * C.sz s = 0 then #[] else z.cells).size]!
  obtain ⟨ys, objs1, us', g1, g2, g3, g4, g5, g6, g7, g8, g9⟩ := rowsC_sound HC ps qs us objs K r 0 S hp (by simp [us, hn]) h
  have hus : us.size = n * C.sz s := by simp [us]
  refine ⟨ys, objs1, .slice (some (at' w.heap.size 0)) n n, w.alloc (.cells us' e), upd ρ objs1.length ⟨w.heap.size, 0, n, noSub⟩, g1, ?_, g2.newSl e ⟨by omega, fun i x j cl hx hj => ?_, fun q hq => ?_⟩, ?_⟩
  · have h24 : ¬ (n * C.sz s > 2 ^ 24) := by rw [show (2 : Nat) ^ 24 = 16777216 by decide]; omega
    simp only [Instr.buildSlice, Sem.run_bind, run_underlying b1, Result.andThen_ok, runSz b2, b3]
    rw [if_neg h24]
    simp only [Sem.run_bind, Sem.run_pure, Result.andThen_ok, Sem.run_ite, hzv]
    by_cases h0 : n * C.sz s = 0
    · simp only [h0, if_true, Result.andThen_ok, List.toList_toArray]
      have e1 : (Array.range 0).map (fun x => (#[] : Array Value)[x % (#[] : Array Value).size]!) = us := by simp [us, h0]
      rw [e1, g4]
      rfl
    · simp only [h0, if_false, Result.andThen_ok, List.toList_toArray]
      have e1 : (Array.range (n * C.sz s)).map (fun x => z.cells[x % z.cells.size]!) = us := by simp [us, h0]
      rw [e1, g4]
      rfl
  · obtain ⟨v, a1, a2⟩ := g8 i x j cl hx hj
    exact ⟨v, by simpa using a1, a2⟩
  · obtain ⟨v, a1, a2⟩ := g9 q (by omega) (by omega)
    exact ⟨v, a1, a2⟩
  · have := VRel.own (C := C) (w := w.alloc (.cells us' e)) (Mut := Mut) (ρ := upd ρ objs1.length ⟨w.heap.size, 0, n, noSub⟩) (push_new objs1 (.sl s ys)) (A := some (at' w.heap.size 0)) (fun _ => by rw [upd_same])
    rw [upd_same, g6, hn] at this
    exact this

theorem rowsK_rowsC {t : κ} : ∀ {ps : List (Nat × AV κ Ty)} {n : Nat} {ys : List (Ty t)} {objs : Objs κ Ty} {K : List (Ty t) → Objs κ Ty → Option R}, rowsK C t n ps = some ys → rowsC C t objs n ps K = K ys objs
  | [], n, ys, objs, K, h => by cases h; rfl
  | (i, v) :: ps, n, ys, objs, K, h => by
    simp only [rowsK] at h
    split at h
    · cases h
    · rename_i hb
      simp only [Bool.and_eq_true] at hb
      split at h
      · rename_i u
        split at h
        · rename_i y hy
          split at h
          · rename_i zs hzs
            cases h
            have := rowsK_rowsC (objs := objs) (K := fun ys o => K (y :: ys) o) hzs
            simp only [rowsC, hb.1, cellsOf, List.length_cons, List.length_nil, Nat.zero_add, hb.2, deepen, hy]
            exact this
          · cases h
        · cases h
      · cases h
/-- a slice literal of constants: nobody's, for good -/
theorem buildSliceK_sound (HT : TOk P C T) (HE : EOk P C T) (HC : CodOk C) (S : SRel C Mut Lent w0 ρ env objs tm w) {t e : TypeId} {ti : TI κ Ty} {s : κ} (ht : T t = some ti) (hs : ti.shp = .slice e s) {n : Nat} {ps : List (Nat × AV κ Ty)} {qs : List (Nat × Value)}
    (hp : Parts C w Mut ρ objs ps qs) (hn : ps.length = n) (hlim : n * C.sz s ≤ 16777216) {ys : List (Ty s)} (h : rowsK C s 0 ps = some ys) :
    ∃ u' w', (Instr.buildSlice t n qs.toArray).run P w = .ok u' w' ∧ SRel C Mut Lent w0 ρ env objs tm w' ∧ VRel C w' Mut ρ objs (.inl (C.bor s) s ys) u' := by
  obtain ⟨ie, z, b1, b2, b3, b4, b5, b6, b7, b8⟩ := elem_zero HT HE ht hs
  have hzv : (zeroValue e).run P w = .ok z w := by simp [zeroValue, runTI b2, b5]
  let us : Array Value := (Array.range (n * C.sz s)).map fun i => (if n * C.sz s = 0 then #[] else z.cells)[i % (if n * C.sz s = 0 then #[] else z.cells).size]!
  have h' := rowsK_rowsC (objs := objs) (K := fun ys o => some (ys, o)) h
  obtain ⟨ys1, objs1, us', g1, g2, g3, g4, g5, g6, g7, g8, g9⟩ := rowsC_sound HC ps qs us objs _ _ 0 S hp (by simp [us, hn]) h'
  cases g1
  have hus : us.size = n * C.sz s := by simp [us]
  have W : WStep w (w.alloc (.cells us' e)) (FootB ρ objs) (FootB ρ objs) := ⟨fun b hb _ => heap_alloc_old w _ hb, by simp, fun b h => .inl h⟩
  have hSR := S.step W (Nat.le_refl _) (fun id => .refl id) (fun id => ORel.step W (Nat.le_refl _) (fun id => .refl id) (S.ob id) rfl rfl (fun b hb => heap_alloc_old w _ (S.flt hb))) (fun i j b hi hj => S.inj i j b hi hj) rfl rfl rfl
  refine ⟨.slice (some (at' w.heap.size 0)) n n, w.alloc (.cells us' e), ?_, hSR, ?_⟩
  · have h24 : ¬ (n * C.sz s > 2 ^ 24) := by rw [show (2 : Nat) ^ 24 = 16777216 by decide]; omega
    simp only [Instr.buildSlice, Sem.run_bind, run_underlying b1, Result.andThen_ok, runSz b2, b3]
    rw [if_neg h24]
    simp only [Sem.run_bind, Sem.run_pure, Result.andThen_ok, Sem.run_ite, hzv]
    by_cases h0 : n * C.sz s = 0
    · simp only [h0, if_true, Result.andThen_ok, List.toList_toArray]
      have e1 : (Array.range 0).map (fun x => (#[] : Array Value)[x % (#[] : Array Value).size]!) = us := by simp [us, h0]
      rw [e1, g4]
      rfl
    · simp only [h0, if_false, Result.andThen_ok, List.toList_toArray]
      have e1 : (Array.range (n * C.sz s)).map (fun x => z.cells[x % z.cells.size]!) = us := by simp [us, h0]
      rw [e1, g4]
      rfl
  · have hcl : ∀ i x j cl, ys[i]? = some x → (C.enc s x)[j]? = some cl → ∃ v, (w.alloc (.cells us' e)).cell? (at' w.heap.size (0 + i * C.sz s + j)) = some v ∧ VRel C (w.alloc (.cells us' e)) Mut ρ objs cl v := fun i x j cl hx hj => by
      obtain ⟨v, a1, a2⟩ := g8 i x j cl hx hj
      refine ⟨v, ?_, a2.step W (Nat.le_refl _) (fun id => .refl id)⟩
      simp only [Nat.zero_add] at a1 ⊢
      simp only [World.cell?_alloc_new]; exact a1
    have hlen : ys.length = n := by rw [g6, hn]
    rw [← hlen]
    refine .inl (blk := w.heap.size) (off := 0) (vals := fun i j => ((w.alloc (.cells us' e)).cell? (at' w.heap.size (0 + i * C.sz s + j))).getD Go.undef) (fun hb => hb) (Nat.le_refl _) (fun _ => ⟨rfl, by simp, ?_⟩) (fun i x j cl hx hj => ?_) (fun i x j cl hx hj => ?_)
    · rintro (hf | ⟨_, hm⟩)
      · obtain ⟨i, hi⟩ := hf; have := S.flt hi; omega
      · have := S.mlt _ hm; have := S.size; omega
    · obtain ⟨v, a1, _⟩ := hcl i x j cl hx hj
      rw [a1]; rfl
    · obtain ⟨v, a1, a2⟩ := hcl i x j cl hx hj
      rw [a1]; exact a2

end
end Km
namespace Km
open Go
set_option linter.unusedVariables false
set_option linter.unusedSimpArgs false

variable {κ : Type} {Ty : κ → Type} {R : Type}
section
variable {P : Program} {C : Cod κ Ty} {T : TypeId → Option (TI κ Ty)}
variable {Mut : Nat → Prop} {Lent : Org κ Ty} {w0 w w' : World} {ρ ρ' : Nat → Loc} {env : Env κ Ty} {objs objs' objs1 : Objs κ Ty} {tm : Array Value}

theorem flat_get {α : Type} {l : List α} : ∀ (n q : Nat), q < n * l.length → (List.replicate n l).flatten[q]? = l[q % l.length]?
  | 0, q, h => by simp at h
  | n + 1, q, h => by
    rw [List.replicate_succ, List.flatten_cons]
    have hl : 0 < l.length := by
      rcases Nat.eq_zero_or_pos l.length with e | e
      · rw [e] at h; simp at h
      · exact e
    by_cases hq : q < l.length
    · rw [List.getElem?_append_left hq, Nat.mod_eq_of_lt hq]
    · rw [List.getElem?_append_right (by omega), flat_get n (q - l.length) (by rw [Nat.add_mul] at h; omega), ← Nat.mod_eq_sub_mod (by omega)]

/-- as many elements as one likes, each the zero -/
theorem rows_zero (HC : CodOk C) {s : κ} {z : Ty s} {n : Nat} {zc : List (AV κ Ty)} {us : Nat → Option Value} {vs : List Value} (hdec : C.enc s z = zc) (hc : Cells C w Mut ρ objs zc vs) (hu : ∀ q, q < n * C.sz s → us q = vs[q % C.sz s]?) :
    RowsAt C w Mut ρ objs s (List.replicate n z) n us := by
  have hlen : vs.length = C.sz s := by rw [hc.1, ← hdec, HC.len]
  refine ⟨by simp, fun i x j cl hx hj => ?_, fun q hq => ?_⟩
  · have hi := (List.getElem?_eq_some_iff.mp hx).1
    simp at hi
    have hxz : x = z := by rw [List.getElem?_replicate, if_pos hi] at hx; exact (Option.some.inj hx).symm
    subst hxz
    have hjs : j < C.sz s := by have := (List.getElem?_eq_some_iff.mp hj).1; rwa [HC.len] at this
    rw [hdec] at hj
    have hv : vs[j]? = some (vs[j]'(by omega)) := List.getElem?_eq_getElem _
    refine ⟨_, ?_, hc.2.2 j cl _ hj hv⟩
    rw [hu _ (row_lt hi hjs), Nat.mul_add_mod_of_lt hjs]
    exact hv
  · have hp : 0 < C.sz s := by
      rcases Nat.eq_zero_or_pos (C.sz s) with e | e
      · rw [e] at hq; simp at hq
      · exact e
    have hv : vs[q % C.sz s]? = some (vs[q % C.sz s]'(by rw [hlen]; exact Nat.mod_lt _ hp)) := List.getElem?_eq_getElem _
    exact ⟨_, by rw [hu q hq]; exact hv, hc.2.1 _ _ hv⟩

theorem room_some {b : Nat} {n : Int} {m : Nat} (h : room b n = some m) : 0 ≤ n ∧ n * b ≤ 140737488355328 ∧ m = n.toNat := by
  unfold room at h; split at h
  · cases h; exact ⟨by omega, by omega, rfl⟩
  · cases h

theorem wrap_small {n : Int} (h0 : 0 ≤ n) (h1 : n ≤ 140737488355328) : IntKind.i64.wrap n = n := by
  have e1 : (2 : Int) ^ IntKind.i64.bits = 18446744073709551616 := by decide
  have e2 : (2 : Int) ^ (IntKind.i64.bits - 1) = 9223372036854775808 := by decide
  have e3 : n % 18446744073709551616 = n := by omega
  unfold IntKind.wrap
  simp only [e1, e2, e3]
  rw [if_neg (by simp; omega)]

theorem unnil_cells {b0 : Bool} {cs : List (AV κ Ty)} {us : List Value} (h : Cells C w Mut ρ objs cs us) (hall : cs.all (fun v => match v with | .nil t => b0 || !(C.bor t) | _ => true) = true) : Cells C w Mut ρ objs (cs.map (unnil b0)) us := by
  obtain ⟨h1, h2, h3⟩ := h
  refine ⟨by simpa using h1, h2, fun j cl u hj hu => ?_⟩
  simp only [List.getElem?_map, Option.map_eq_some_iff] at hj
  obtain ⟨c, hc, rfl⟩ := hj
  have hr := h3 j c u hc hu
  have ha := (List.all_eq_true.mp hall) c (List.mem_of_getElem? hc)
  by_cases hn : ∃ t, c = .nil t
  · obtain ⟨t, rfl⟩ := hn
    cases hr
    exact .inl (xs := []) (blk := 0) (off := 0) (vals := fun _ _ => Go.undef) (or_bor ha) (Nat.le_refl _) (fun h => absurd rfl h) (fun i x j cl hx => by simp at hx) (fun i x j cl hx => by simp at hx)
  · have : unnil b0 c = c := by cases c <;> first | rfl | exact absurd ⟨_, rfl⟩ hn
    rw [this]; exact hr
theorem makeSlice_sound (HT : TOk P C T) (HE : EOk P C T) (HC : CodOk C) (S : SRel C Mut Lent w0 ρ env objs tm w) {t e : TypeId} {ti te : TI κ Ty} {s : κ} (ht : T t = some ti) (hs : ti.shp = .slice e s) (hte : T e = some te) {k k' : IntKind} {n : Int} {m : Nat} {z : Ty s}
    (hr : room (C.by' s) n = some m) (hdec : C.dec s (te.zero.map (unnil (C.bor s))) = some z) (hall : te.zero.all (fun v => match v with | .nil t => C.bor s || !(C.bor t) | _ => true) = true) :
    ∃ u' w' ρ', (Instr.makeSlice t (.int k n) (.int k' n)).run P w = .ok u' w' ∧ SRel C Mut Lent w0 ρ' env (objs ++ [.sl s (List.replicate m z)]) tm w' ∧ VRel C w' Mut ρ' (objs ++ [.sl s (List.replicate m z)]) (.own objs.length) u' := by
  obtain ⟨ie, zv, b1, b2, b3, b4, b5, b6, b7, b8⟩ := elem_zero HT HE ht hs
  obtain ⟨r1, r2, rfl⟩ := room_some hr
  have hn : n ≤ 140737488355328 := by
    have : n * 1 ≤ n * (C.by' s : Int) := Int.mul_le_mul_of_nonneg_left (by omega) r1
    omega
  have hw := wrap_small r1 hn
  obtain ⟨z', q1, q2⟩ := zero_cells (C := C) (Mut := Mut) (ρ := ρ) (objs := objs) HT hte w
  have hzz : z' = zv := by
    have : (zeroValue e).run P w = .ok zv w := by simp [zeroValue, runTI b2, b5]
    rw [this] at q1; cases q1; rfl
  subst hzz
  have hb48 : ¬ ((ie.bytes : Int) * n > 2 ^ 48) := by
    rw [b4, Int.mul_comm, show (2 : Int) ^ 48 = 281474976710656 by decide]; omega
  refine ⟨.slice (some (at' w.heap.size 0)) n.toNat n.toNat, w.alloc (.cells ((Array.range (n.toNat * C.sz s)).map fun i => z'.cells[i % z'.cells.size]!) e), upd ρ objs.length ⟨w.heap.size, 0, n.toNat, noSub⟩, ?_, S.newSl e (rows_zero HC (HC.dec _ _ _ hdec) (unnil_cells q2 hall) fun q hq => ?_), ?_⟩
  · simp only [Instr.makeSlice, Sem.run_bind, run_underlying b1, Result.andThen_ok, asInt, asIntOf, Sem.run_pure, runTI b2, hw]
    rw [if_neg (by simp; omega)]
    simp only [Sem.run_bind, run_askRoom, Result.andThen_ok, runSz b2, b3]
    by_cases h0 : n.toNat * C.sz s = 0
    · simp only [h0, if_true, Sem.run_pure, Result.andThen_ok, Sem.run_bind]
      have e0 : Array.range 0 = #[] := rfl
      simp [newRow, World.alloc_eq, at', e0]
    · simp only [h0, if_false, Sem.run_bind, q1, Sem.run_pure, Result.andThen_ok]
      simp [newRow, World.alloc_eq, at']
  · rw [Array.getElem?_map, Array.getElem?_range, if_pos hq]
    have hp : 0 < C.sz s := by
      rcases Nat.eq_zero_or_pos (C.sz s) with e | e
      · rw [e] at hq; simp at hq
      · exact e
    have hm := Nat.mod_lt q hp
    simp [b6, hm]
  · have := VRel.own (C := C) (w := w.alloc (.cells ((Array.range (n.toNat * C.sz s)).map fun i => z'.cells[i % z'.cells.size]!) e)) (Mut := Mut) (ρ := upd ρ objs.length ⟨w.heap.size, 0, n.toNat, noSub⟩) (push_new objs (.sl s (List.replicate n.toNat z))) (A := some (at' w.heap.size 0)) (fun _ => by rw [upd_same])
    rw [upd_same, List.length_replicate] at this
    exact this

theorem allocBox_sound (HT : TOk P C T) (S : SRel C Mut Lent w0 ρ env objs tm w) {t : TypeId} {ti : TI κ Ty} (ht : T t = some ti) :
    ∃ u' w' ρ', (Instr.alloc t true (.tuple #[])).run P w = .ok u' w' ∧ SRel C Mut Lent w0 ρ' env (objs ++ [.box ti.zero]) tm w' ∧ VRel C w' Mut ρ' (objs ++ [.box ti.zero]) (.ref objs.length 0) u' := by
  obtain ⟨z, q1, q2⟩ := zero_cells (C := C) (Mut := Mut) (ρ := ρ) (objs := objs) HT ht w
  refine ⟨.pointer (some (at' w.heap.size 0)), w.alloc (.cells z.cells t), _, ?_, S.newBox t q2, ?_⟩
  · simp [Instr.alloc, q1, newVar, newRow, World.alloc_eq, at']
  · have := VRel.ref (C := C) (w := w.alloc (.cells z.cells t)) (Mut := Mut) (ρ := upd ρ objs.length ⟨w.heap.size, 0, 0, noSub⟩) (off := 0) (push_new objs (.box ti.zero))
    rw [upd_same] at this
    exact this

theorem allocArr_sound (HT : TOk P C T) (HC : CodOk C) (S : SRel C Mut Lent w0 ρ env objs tm w) {t e : TypeId} {ti te : TI κ Ty} {s : κ} {n : Nat} {z : Ty s} (ht : T t = some ti) (hs : ti.shp = .arr n e s) (hte : T e = some te) (hn : 1 ≤ n) (hdec : C.dec s te.zero = some z) :
    ∃ u' w' ρ', (Instr.alloc t true (.tuple #[])).run P w = .ok u' w' ∧ SRel C Mut Lent w0 ρ' env (objs ++ [.sl s (List.replicate n z)]) tm w' ∧ VRel C w' Mut ρ' (objs ++ [.sl s (List.replicate n z)]) (.eref objs.length 0 0) u' := by
  obtain ⟨zv, q1, q2⟩ := zero_cells (C := C) (Mut := Mut) (ρ := ρ) (objs := objs) HT ht w
  obtain ⟨zo, p1, p2⟩ := zero_cells (C := C) (Mut := Mut) (ρ := ρ) (objs := objs) HT hte w
  obtain ⟨h1, _, te', h2, h3, h4⟩ := HT.arr t ti n e s ht hs
  rw [hte] at h2; cases h2
  have hl : zv.cells.toList.length = n * C.sz s := by rw [q2.1, h4]; simp [h3]
  have hz : ∀ q, q < n * C.sz s → ti.zero[q]? = te.zero[q % C.sz s]? := fun q hq => by rw [h4, flat_get n q (by rw [h3]; exact hq), h3]
  refine ⟨.pointer (some (at' w.heap.size 0)), w.alloc (.cells zv.cells t), _, ?_, S.newSl t (cap := n) ⟨by simp, fun i x j cl hx hj => ?_, fun q hq => ?_⟩, ?_⟩
  · simp [Instr.alloc, q1, newVar, newRow, World.alloc_eq, at']
  · have hi := (List.getElem?_eq_some_iff.mp hx).1
    simp at hi
    have hxz : x = z := by rw [List.getElem?_replicate, if_pos hi] at hx; exact (Option.some.inj hx).symm
    subst hxz
    have hjs : j < C.sz s := by have := (List.getElem?_eq_some_iff.mp hj).1; rwa [HC.len] at this
    rw [HC.dec _ _ _ hdec] at hj
    have hlt := row_lt (n := n) hi hjs
    have hzq := hz _ hlt
    rw [Nat.mul_add_mod_of_lt hjs, hj] at hzq
    have hv : zv.cells.toList[i * C.sz s + j]? = some (zv.cells.toList[i * C.sz s + j]'(by rw [hl]; exact hlt)) := List.getElem?_eq_getElem _
    exact ⟨_, by rw [← Array.getElem?_toList]; exact hv, q2.2.2 _ cl _ hzq hv⟩
  · have hv : zv.cells.toList[q]? = some (zv.cells.toList[q]'(by rw [hl]; exact hq)) := List.getElem?_eq_getElem _
    exact ⟨_, by rw [← Array.getElem?_toList]; exact hv, q2.2.1 _ _ hv⟩
  · have := VRel.eref (C := C) (w := w.alloc (.cells zv.cells t)) (Mut := Mut) (ρ := upd ρ objs.length ⟨w.heap.size, 0, n, noSub⟩) (i := 0) (off := 0) (push_new objs (.sl s (List.replicate n z))) (by simp; omega)
    rw [upd_same] at this
    simpa using this

end
end Km
namespace Km
open Go
set_option linter.unusedVariables false
set_option linter.unusedSimpArgs false

variable {κ : Type} {Ty : κ → Type} {R : Type}
section
variable {P : Program} {C : Cod κ Ty} {T : TypeId → Option (TI κ Ty)}
variable {Mut : Nat → Prop} {Lent : Org κ Ty} {w0 w w' : World} {ρ ρ' : Nat → Loc} {env : Env κ Ty} {objs objs' : Objs κ Ty} {a : Act}

theorem rows_bytes (HC : CodOk C) (S : SRel C Mut Lent w0 ρ env objs a.tmps w) {x : AV κ Ty} {u : Value} {t : κ} {xs : List (Ty t)} {bs : List Int} (hx : VRel C w Mut ρ objs x u) (h : rowsOf objs x = some ⟨t, xs⟩) (hb : C.bytes t xs = some bs) :
    ∃ A n c, u = .slice A n c ∧ (Conv.bytesToString u).run P w = .ok (.string (bstr bs)) w := by
  obtain ⟨A, c, blk, off, rfl, hc, hA, hcell⟩ := rowsOf_rel HC S hx h
  obtain ⟨hlen, hrow⟩ := HC.bytes t xs bs hb
  refine ⟨_, _, _, rfl, ?_⟩
  by_cases hne : xs = []
  · subst hne
    have : bs = [] := List.length_eq_zero_iff.mp (by simpa using hlen)
    subst this
    cases A with
    | none => simp [Conv.bytesToString, bstr]
    | some A =>
      exact run_bytesToString w A 0 c [] (by simpa using run_loadCells_list (P := P) (w := w) A [] (by simp))
  · obtain ⟨rfl, hlt⟩ := hA hne
    have hsz : C.sz t = 1 := by
      obtain ⟨y, ys, rfl⟩ := List.exists_cons_of_ne_nil hne
      obtain ⟨b, bs', rfl⟩ : ∃ b bs', bs = b :: bs' := by cases bs with | nil => simp at hlen | cons b bs' => exact ⟨b, bs', rfl⟩
      rw [← HC.len t y, hrow 0 y b rfl rfl]; rfl
    have := run_loadCells_list (P := P) (w := w) (at' blk off) (bs.map (Value.int .u8)) (fun j v hj => by
      simp only [List.getElem?_map, Option.map_eq_some_iff] at hj
      obtain ⟨b, hj, rfl⟩ := hj
      have hjl := (List.getElem?_eq_some_iff.mp hj).1
      have hy : xs[j]? = some (xs[j]'(by omega)) := List.getElem?_eq_getElem _
      have he := hrow j _ b hy hj
      obtain ⟨v, g1, g2⟩ := hcell j _ 0 (.lit (.int .u8 b)) hy (by rw [he]; rfl)
      obtain ⟨rfl, _⟩ := lit_inv g2
      rw [add_at, ← g1, hsz]; congr 2; omega)
    rw [List.length_map, hlen] at this
    exact run_bytesToString w _ _ c bs this

end
end Km
