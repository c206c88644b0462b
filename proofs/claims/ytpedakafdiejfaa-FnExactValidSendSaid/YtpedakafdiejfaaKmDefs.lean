/- A part of the proof: an abstract machine over the program (sound by its theorems), or definitions printed by it. There is no condition. -/
import Derived.Calls
import Derived.Orders
import Derived.Below
namespace Km
open Go
set_option linter.unusedVariables false

variable {κ : Type} {Ty : κ → Type} {R : Type}

/-! ### values, objects, tables -/
inductive AV (κ : Type) (Ty : κ → Type) where
  | lit (v : Value)
  | nil (t : κ)
  | ref (id off : Nat)
  | eref (id i off : Nat)
  | cadr (b : Bool) (cells : List (AV κ Ty)) (off : Nat)
  | own (id : Nat)
  | sub (id lo hi : Nat)
  | inl (b : Bool) (t : κ) (xs : List (Ty t))
  | agg (cells : List (AV κ Ty))
  | tup (vs : List (AV κ Ty))
  | void
  | undef

inductive AObj (κ : Type) (Ty : κ → Type) where
  | dead
  | box (cells : List (AV κ Ty))
  | sl (t : κ) (xs : List (Ty t))

inductive Shp (κ : Type) where
  | int (k : IntKind) | bool | str
  | struct (fs : List (Nat × TypeId))
  | arr (n : Nat) (e : TypeId) (t : κ)
  | slice (e : TypeId) (t : κ)
  | other

structure TI (κ : Type) (Ty : κ → Type) where
  size : Nat
  bytes : Nat
  shp : Shp κ
  zero : List (AV κ Ty)

def TI.agg (ti : TI κ Ty) : Bool := match ti.shp with | .struct _ => true | .arr .. => true | _ => false

/-- how an element of a slice lies in its cells -/
structure Cod (κ : Type) (Ty : κ → Type) where
  same : κ → κ → Bool
  cast : (s t : κ) → List (Ty s) → Option (List (Ty t))
  sz : κ → Nat
  by' : κ → Nat
  bor : κ → Bool
  enc : (t : κ) → Ty t → List (AV κ Ty)
  dec : (t : κ) → List (AV κ Ty) → Option (Ty t)
  bytes : (t : κ) → List (Ty t) → Option (List Int)

inductive Mode | mv | bo | pe

/-- what is known of a function: it is called with these arguments and objects (those that it is lent) and answers -/
structure Summ (κ : Type) (Ty : κ → Type) where
  R : Type
  modes : List Mode
  run : List (AV κ Ty) → List (AObj κ Ty) → Option R
  ret : R → AV κ Ty × List (AObj κ Ty)
  quiet : Bool

abbrev Env (κ : Type) (Ty : κ → Type) := List (Nat × AV κ Ty)
abbrev Objs (κ : Type) (Ty : κ → Type) := List (AObj κ Ty)

def look : Env κ Ty → Nat → AV κ Ty
  | [], _ => .undef
  | (j, v) :: l, i => match Nat.beq j i with | true => v | false => look l i

/-! ### the words of the printed functions -/
def idx {α : Type} (xs : List α) (i : Int) : Option α := if i < 0 then none else xs[i.toNat]?
def ifB (b : Bool) (K : Bool → Option R) : Option R := match b with | true => K true | false => K false
def sadd (x y : ByteArray) : Option ByteArray := if x.size + y.size ≤ 140737488355328 then some (x ++ y) else none
def app {α : Type} (bytes : Nat) (xs ys : List α) : Option (List α) := if (xs.length + ys.length) * bytes ≤ 140737488355328 then some (xs ++ ys) else none
def wnd (n : Nat) (lo hi : Int) : Option (Nat × Nat) := if 0 ≤ lo ∧ lo ≤ hi ∧ hi ≤ n then some (lo.toNat, hi.toNat) else none
def room (bytes : Nat) (n : Int) : Option Nat := if 0 ≤ n ∧ n * bytes ≤ 140737488355328 then some n.toNat else none
def bidx (s : ByteArray) (i : Int) : Option UInt8 := if i < 0 then none else s[i.toNat]?
def dcut {α : Type} (xs : List α) (lo hi : Nat) : List α := (xs.take hi).drop lo
def qdiv (a b : Int) : Option Int := if b = 0 then none else some (a.tdiv b)
def qrem (a b : Int) : Option Int := if b = 0 then none else some (a.tmod b)

section
variable (C : Cod κ Ty) (T : TypeId → Option (TI κ Ty))

def opnd (env : Env κ Ty) (ty : TypeId) : Operand → AV κ Ty
  | .tmp t => look env t
  | .const v => match v with
    | .slice none 0 0 => (match T ty with
      | some ti => (match ti.shp with | .slice _ t => .nil t | _ => .undef)
      | none => .undef)
    | .agg _ => .undef
    | .tuple _ => .undef
    | v => .lit v
  | .func f => .lit (.func (.func f) #[] #[])
  | .global _ => .undef

def cellsOf : AV κ Ty → Option (List (AV κ Ty))
  | .agg cs => some cs
  | .tup _ => none
  | .undef => none
  | .void => none
  | v => some [v]

def splice {α : Type} : List α → Nat → List α → List α
  | cs, _, [] => cs
  | [], _, _ => []
  | c :: cs, 0, n :: ns => n :: splice cs 0 ns
  | c :: cs, o + 1, ns => c :: splice cs o ns

/-- what lies at these cells, read as a value of this type -/
def loadC (ti : TI κ Ty) (cs : List (AV κ Ty)) (off : Nat) : Option (AV κ Ty) :=
  match ti.agg with
  | true => match Nat.ble (off + ti.size) cs.length with | true => some (.agg ((cs.drop off).take ti.size)) | false => none
  | false => cs[off]?

def slOf (objs : Objs κ Ty) (id : Nat) : Option ((t : κ) × List (Ty t)) :=
  match objs[id]? with | some (.sl t xs) => some ⟨t, xs⟩ | _ => none
def boxOf (objs : Objs κ Ty) (id : Nat) : Option (List (AV κ Ty)) :=
  match objs[id]? with | some (.box cs) => some cs | _ => none

/-- the contents that a slice value shows -/
def rowsOf (objs : Objs κ Ty) : AV κ Ty → Option ((t : κ) × List (Ty t))
  | .nil t => some ⟨t, []⟩
  | .inl _ t xs => some ⟨t, xs⟩
  | .own id => slOf objs id
  | .sub id lo hi => match slOf objs id with | some ⟨t, xs⟩ => some ⟨t, dcut xs lo hi⟩ | none => none
  | _ => none

/-- cells that go into a row: what was one's own goes with them, and may not be touched any more -/
def deepen (objs : Objs κ Ty) : List (AV κ Ty) → (List (AV κ Ty) → Objs κ Ty → Option R) → Option R
  | [], K => K [] objs
  | c :: cs, K => match c with
    | .own id => (match slOf objs id with
      | some ⟨t, xs⟩ => deepen (objs.set id .dead) cs fun cs' o => K (.inl (C.bor t) t xs :: cs') o
      | none => none)
    | .nil t => deepen objs cs fun cs' o => K (.inl (C.bor t) t [] :: cs') o
    | .lit v => deepen objs cs fun cs' o => K (.lit v :: cs') o
    | .inl b t xs => deepen objs cs fun cs' o => K (.inl b t xs :: cs') o
    | _ => none

abbrev bitsAnd (k : IntKind) (a b : Int) : Int := k.wrap (BitVec.ofInt k.bits a &&& BitVec.ofInt k.bits b).toNat
abbrev bitsOr (k : IntKind) (a b : Int) : Int := k.wrap (BitVec.ofInt k.bits a ||| BitVec.ofInt k.bits b).toNat
abbrev bitsXor (k : IntKind) (a b : Int) : Int := k.wrap (BitVec.ofInt k.bits a ^^^ BitVec.ofInt k.bits b).toNat
/-- bytes, as a string -/
def bstr (bs : List Int) : ByteArray := bs.foldl (fun r n => r.push (UInt8.ofNat n.toNat)) ByteArray.empty
def ibin (op : BinOp) (k : IntKind) (a b : Int) (K : Value → Option R) : Option R :=
  match op with
  | .add => K (.int k (k.wrap (a + b)))
  | .sub => K (.int k (k.wrap (a - b)))
  | .mul => K (.int k (k.wrap (a * b)))
  | .quo => (qdiv a b).bind fun q => K (.int k (k.wrap q))
  | .rem => (qrem a b).bind fun q => K (.int k q)
  | .and => K (.int k (k.wrap (BitVec.ofInt k.bits a &&& BitVec.ofInt k.bits b).toNat))
  | .or => K (.int k (k.wrap (BitVec.ofInt k.bits a ||| BitVec.ofInt k.bits b).toNat))
  | .xor => K (.int k (k.wrap (BitVec.ofInt k.bits a ^^^ BitVec.ofInt k.bits b).toNat))
  | .eql => K (.bool (a == b))
  | .neq => K (.bool (a != b))
  | .lss => K (.bool (decide (a < b)))
  | .leq => K (.bool (decide (a ≤ b)))
  | .gtr => K (.bool (decide (a > b)))
  | .geq => K (.bool (decide (a ≥ b)))
  | _ => none

def shift (op : BinOp) (k : IntKind) (a n : Int) : Option Int :=
  match op with
  | .shl => if n < 0 then none else some (k.wrap (a * 2 ^ (min n.toNat k.bits)))
  | .shr => if n < 0 then none else some (a.fdiv (2 ^ (min n.toNat k.bits)))
  | _ => none

def sbin (op : BinOp) (x y : ByteArray) (K : Value → Option R) : Option R :=
  match op with
  | .add => (sadd x y).bind fun z => K (.string z)
  | .eql => K (.bool (x.toList == y.toList))
  | .neq => K (.bool (!(x.toList == y.toList)))
  | _ => none

def vbin (ti : TI κ Ty) (op : BinOp) (x y : AV κ Ty) (K : AV κ Ty → Option R) : Option R :=
  match op with
  | .shl => (match x, y with | .lit (.int k a), .lit (.int _ n) => (shift .shl k a n).bind fun m => K (.lit (.int k m)) | _, _ => none)
  | .shr => (match x, y with | .lit (.int k a), .lit (.int _ n) => (shift .shr k a n).bind fun m => K (.lit (.int k m)) | _, _ => none)
  | op => match x, y with
    | .lit (.int k a), .lit (.int k' b) => (match decide (k = k') with | true => ibin op k a b fun v => K (.lit v) | false => none)
    | .lit (.string a), .lit (.string b) => sbin op a b fun v => K (.lit v)
    | .lit (.bool a), .lit (.bool b) => (match ti.shp with
      | .bool => (match op with
        | .eql => K (.lit (.bool (a == b)))
        | .neq => K (.lit (.bool (!(a == b))))
        | _ => none)
      | _ => none)
    | _, _ => none

def lenOf (objs : Objs κ Ty) (shp : Shp κ) (v : AV κ Ty) : Option Int :=
  match shp with
  | .str => (match v with | .lit (.string s) => some s.size | _ => none)
  | .slice _ _ => (match rowsOf objs v with | some ⟨_, xs⟩ => some xs.length | none => none)
  | _ => none

/-- an argument, as its callee's mode has it -/
def prep (objs : Objs κ Ty) (m : Mode) (v : AV κ Ty) : AV κ Ty :=
  match m with
  | .mv => v
  | .pe => v
  | .bo => match rowsOf objs v with
    | some ⟨t, xs⟩ => .inl true t xs
    | none => v
def prepA (objs : Objs κ Ty) (m : Mode) : AV κ Ty → AV κ Ty
  | .agg cs => .agg (cs.map (prep objs m))
  | v => prep objs m v

/-! ### which objects a value speaks of; new numbers -/
def ids1 : AV κ Ty → List Nat
  | .own id => [id]
  | .sub id _ _ => [id]
  | .ref id _ => [id]
  | .eref id _ _ => [id]
  | _ => []
def ids2 : AV κ Ty → List Nat
  | .agg cs => cs.flatMap ids1
  | v => ids1 v
def idsV : AV κ Ty → List Nat
  | .tup vs => vs.flatMap ids2
  | v => ids2 v
def elemN : Nat → List Nat → Bool
  | _, [] => false
  | i, j :: l => match Nat.beq i j with | true => true | false => elemN i l
/-- 'acc', and behind it what of 'l' is not there yet -/
def addN : List Nat → List Nat → List Nat
  | acc, [] => acc
  | acc, i :: l => match elemN i acc with | true => addN acc l | false => addN (acc ++ [i]) l
def idsO : AObj κ Ty → List Nat
  | .box cs => cs.flatMap ids1
  | _ => []
/-- what is reached: two rounds through the variables -/
def reach (objs : Objs κ Ty) (acc : List Nat) : List Nat :=
  let a := addN acc (acc.flatMap fun i => match objs[i]? with | some o => idsO o | none => [])
  addN a (a.flatMap fun i => match objs[i]? with | some o => idsO o | none => [])

def posN : List Nat → Nat → Nat → Option Nat
  | [], _, _ => none
  | j :: l, i, n => match Nat.beq j i with | true => some n | false => posN l i (n + 1)

def ren1 (g : Nat → Option Nat) : AV κ Ty → AV κ Ty
  | .own id => match g id with | some j => .own j | none => .undef
  | .sub id lo hi => match g id with | some j => .sub j lo hi | none => .undef
  | .ref id off => match g id with | some j => .ref j off | none => .undef
  | .eref id i off => match g id with | some j => .eref j i off | none => .undef
  | .lit v => .lit v
  | .nil t => .nil t
  | .inl b t xs => .inl b t xs
  | .void => .void
  | _ => .undef
def ren2 (g : Nat → Option Nat) : AV κ Ty → AV κ Ty
  | .agg cs => .agg (cs.map (ren1 g))
  | v => ren1 g v
def renV (g : Nat → Option Nat) : AV κ Ty → AV κ Ty
  | .tup vs => .tup (vs.map (ren2 g))
  | v => ren2 g v
def renO (g : Nat → Option Nat) : AObj κ Ty → AObj κ Ty
  | .box cs => .box (cs.map (ren1 g))
  | o => o

/-- nil slices become objects of one's own: one form for all ways -/
def solid1 (objs : Objs κ Ty) : AV κ Ty → AV κ Ty × Objs κ Ty
  | .nil t => (.own objs.length, objs ++ [.sl t []])
  | v => (v, objs)
def solidL (objs : Objs κ Ty) : List (AV κ Ty) → List (AV κ Ty) × Objs κ Ty
  | [] => ([], objs)
  | v :: l => match solid1 objs v with | (v', o) => match solidL o l with | (l', o') => (v' :: l', o')
def solid2 (objs : Objs κ Ty) : AV κ Ty → AV κ Ty × Objs κ Ty
  | .agg cs => match solidL objs cs with | (cs', o) => (.agg cs', o)
  | v => solid1 objs v
def solidM (objs : Objs κ Ty) : List (AV κ Ty) → List (AV κ Ty) × Objs κ Ty
  | [] => ([], objs)
  | v :: l => match solid2 objs v with | (v', o) => match solidM o l with | (l', o') => (v' :: l', o')
def solidB (n : Nat) (objs : Objs κ Ty) : Objs κ Ty :=
  match n with
  | 0 => objs
  | n + 1 => let o := solidB n objs
    match o[n]? with | some (.box cs) => (match solidL o cs with | (cs', o') => o'.set n (.box cs')) | _ => o

/-- a state made small: these values, the first m objects, and what they reach, numbered anew -/
def compact (m : Nat) (vs : List (AV κ Ty)) (objs : Objs κ Ty) : List (AV κ Ty) × Objs κ Ty :=
  match solidM objs vs with
  | (vs, objs) =>
    let objs := solidB objs.length objs
    let l := reach objs (addN (List.range m) (vs.flatMap idsV))
    (vs.map (renV (posN l · 0)), l.map fun i => match objs[i]? with | some o => renO (posN l · 0) o | none => .dead)

/-! ### one operation -/
def aload (objs : Objs κ Ty) (ti : TI κ Ty) (a : AV κ Ty) (K : AV κ Ty → Option R) : Option R :=
  match a with
  | .ref id off => (match boxOf objs id with | some cs => (match loadC ti cs off with | some v => K v | none => none) | none => none)
  | .eref id i off => (match slOf objs id with | some ⟨s, xs⟩ => (xs[i]?).bind fun x => (match loadC ti (C.enc s x) off with | some v => K v | none => none) | none => none)
  | .cadr _ cs off => (match loadC ti cs off with | some v => K v | none => none)
  | _ => none

def astore (objs : Objs κ Ty) (ti : TI κ Ty) (a x : AV κ Ty) (K : Objs κ Ty → Option R) : Option R :=
  match cellsOf x with
  | none => none
  | some ns => match Nat.beq ns.length ti.size with
    | false => none
    | true => match a with
      | .ref id off => (match boxOf objs id with
        | some cs => (match Nat.ble (off + ns.length) cs.length with | true => K (objs.set id (.box (splice cs off ns))) | false => none)
        | none => none)
      | .eref id i off => (match slOf objs id with
        | some ⟨s, xs⟩ => (xs[i]?).bind fun z => deepen C objs ns fun ns objs' => match slOf objs' id with
          | some _ => (match Nat.ble (off + ns.length) (C.enc s z).length with
            | true => (match C.dec s (splice (C.enc s z) off ns) with | some y => K (objs'.set id (.sl s (xs.set i y))) | none => none)
            | false => none)
          | none => none
        | none => none)
      | _ => none

/-- an address that may be followed -/
def isAddr (objs : Objs κ Ty) : AV κ Ty → Bool
  | .ref id _ => (match boxOf objs id with | some _ => true | none => false)
  | .eref id _ _ => (match slOf objs id with | some _ => true | none => false)
  | .cadr .. => true
  | _ => false
def afield (fs : List (Nat × TypeId)) (f : Nat) (x : AV κ Ty) : Option (AV κ Ty) :=
  match fs[f]? with
  | none => none
  | some (d, _) => match x with
    | .ref id off => some (.ref id (off + d))
    | .eref id i off => some (.eref id i (off + d))
    | .cadr b cs off => some (.cadr b cs (off + d))
    | _ => none

def aindexAddr (objs : Objs κ Ty) (shp : Shp κ) (x i : AV κ Ty) (K : AV κ Ty → Option R) : Option R :=
  match i with
  | .lit (.int _ i) => (match shp with
    | .slice _ s => (match x with
      | .own id => (match slOf objs id with | some ⟨t, xs⟩ => (match C.same s t with | true => (idx xs i).bind fun _ => K (.eref id i.toNat 0) | false => none) | none => none)
      | .inl b t xs => (match C.same s t with | true => (idx xs i).bind fun x => K (.cadr b (C.enc t x) 0) | false => none)
      | .sub id lo hi => (match slOf objs id with | some ⟨t, xs⟩ => (match C.same s t with | true => (idx (dcut xs lo hi) i).bind fun _ => K (.eref id (lo + i.toNat) 0) | false => none) | none => none)
      | _ => none)
    | .arr n _ s => (match x with
      | .eref id 0 0 => (match slOf objs id with | some ⟨t, xs⟩ => (match C.same s t with | true => (if xs.length = n then idx xs i else none).bind fun _ => K (.eref id i.toNat 0) | false => none) | none => none)
      | _ => none)
    | _ => none)
  | _ => none

/-- the parts of a struct laid into its zero -/
def fillC (fs : List (Nat × TypeId)) : List (AV κ Ty) → List (Nat × AV κ Ty) → Option (List (AV κ Ty))
  | cs, [] => some cs
  | cs, (i, v) :: ps => match fs[i]? with
    | none => none
    | some (d, t) => match cellsOf v, T t with
      | some ns, some ti => (match Nat.beq ns.length ti.size with
        | true => (match Nat.ble (d + ns.length) cs.length with | true => fillC fs (splice cs d ns) ps | false => none)
        | false => none)
      | _, _ => none

/-- the elements of a slice literal (each index once, in order, none left out) -/
def rowsC (C : Cod κ Ty) (t : κ) (objs : Objs κ Ty) (n : Nat) : List (Nat × AV κ Ty) → (List (Ty t) → Objs κ Ty → Option R) → Option R
  | [], K => K [] objs
  | (i, v) :: ps, K => match Nat.beq i n with
    | false => none
    | true => match cellsOf v with
      | none => none
      | some ns => match Nat.beq ns.length (C.sz t) with
        | false => none
        | true => deepen C objs ns fun ns objs => match C.dec t ns with
          | some y => rowsC C t objs (n + 1) ps fun ys o => K (y :: ys) o
          | none => none

def boundI (objs : Objs κ Ty) (env : Env κ Ty) (x : Option Operand) (d : Int) : Option Int :=
  match x with
  | none => some d
  | some o => match opnd T env 0 o with | .lit (.int _ n) => some n | _ => none

def aslice (objs : Objs κ Ty) (shp : Shp κ) (x : AV κ Ty) (lo hi : Option Int) (K : AV κ Ty → Option R) : Option R :=
  match shp with
  | .str => (match x with
    | .lit (.string s) => (wnd s.size (lo.getD 0) (hi.getD s.size)).bind fun p => K (.lit (.string (s.extract p.1 p.2)))
    | _ => none)
  | .slice _ s => (match x with
    | .own id => (match slOf objs id with | some ⟨t, xs⟩ => (match C.same s t with | true => (wnd xs.length (lo.getD 0) (hi.getD xs.length)).bind fun p => K (.sub id p.1 p.2) | false => none) | none => none)
    | .inl b t xs => (match C.same s t with | true => (wnd xs.length (lo.getD 0) (hi.getD xs.length)).bind fun p => K (.inl b t (dcut xs p.1 p.2)) | false => none)
    | .nil t => (wnd 0 (lo.getD 0) (hi.getD 0)).bind fun _ => K (.nil t)
    | _ => none)
  | .arr n _ s => (match x with
    | .eref id 0 0 => (match slOf objs id with | some ⟨t, xs⟩ => (match C.same s t with | true => (if xs.length = n then wnd n (lo.getD 0) (hi.getD n) else none).bind fun p => K (.sub id p.1 p.2) | false => none) | none => none)
    | _ => none)
  | _ => none

def aappend (objs : Objs κ Ty) (s1 : κ) (base src : AV κ Ty) (K : AV κ Ty → Objs κ Ty → Option R) : Option R :=
  match rowsOf objs src with
  | none => none
  | some ⟨s, ys⟩ => (C.cast s s1 ys).bind fun ys => match base with
    | .nil _ => (app (C.by' s1) [] ys).bind fun zs => K (.own objs.length) (objs ++ [.sl s1 zs])
    | .own id => (match slOf objs id with
      | some ⟨t, xs⟩ => (C.cast t s1 xs).bind fun xs => (app (C.by' s1) xs ys).bind fun zs => K (.own objs.length) ((objs.set id .dead) ++ [.sl s1 zs])
      | none => none)
    | .sub id lo hi => (match slOf objs id with
      | some ⟨t, xs⟩ => (C.cast t s1 xs).bind fun xs => (app (C.by' s1) (dcut xs lo hi) ys).bind fun zs => K (.own objs.length) ((objs.set id .dead) ++ [.sl s1 zs])
      | none => none)
    | _ => none

def disj : List Nat → List Nat → Bool
  | [], _ => true
  | i :: l, m => match elemN i m with | true => false | false => disj l m

/-- a callee's number, as the caller has it -/
def backN (n : Nat) (l : List Nat) (j : Nat) : Option Nat := match l[j]? with | some i => some i | none => some (n + (j - l.length))
def backO (g : Nat → Option Nat) (objs : Objs κ Ty) : List Nat → Objs κ Ty → Objs κ Ty
  | i :: l, o :: os => backO g (objs.set i (renO g o)) l os
  | _, _ => objs
/-- the lent objects' numbers, and the call; what comes back gets numbers of the caller's -/
def acall (objs : Objs κ Ty) (S : Summ κ Ty) (bs : List Nat) (args : List (AV κ Ty)) (K : AV κ Ty → Objs κ Ty → Option R) : Option R :=
  let l := reach objs (addN [] (args.flatMap idsV))
  match disj bs l with
  | false => none
  | true => (S.run (args.map (renV (posN l · 0))) (l.map fun i => match objs[i]? with | some o => renO (posN l · 0) o | none => .dead)).bind fun r =>
    match S.ret r with
    | (v, o') => K (renV (backN objs.length l) v) (backO (backN objs.length l) objs l o' ++ (o'.drop l.length).map (renO (backN objs.length l)))

def opnds (env : Env κ Ty) : List Operand → List TypeId → List (AV κ Ty)
  | x :: xs, t :: ts => opnd T env t x :: opnds env xs ts
  | _, _ => []
def prepL (objs : Objs κ Ty) : List (AV κ Ty) → List Mode → List (AV κ Ty)
  | x :: xs, m :: ms => prepA objs m x :: prepL objs xs ms
  | x :: xs, [] => prepA objs .bo x :: prepL objs xs []
  | [], _ => []
def bor1 : AV κ Ty → List Nat
  | .own id => [id]
  | .sub id _ _ => [id]
  | _ => []
def borA (m : Mode) (v : AV κ Ty) : List Nat :=
  match m with
  | .bo => (match v with | .agg cs => cs.flatMap bor1 | v => bor1 v)
  | _ => []
def borL : List (AV κ Ty) → List Mode → List Nat
  | x :: xs, m :: ms => borA m x ++ borL xs ms
  | x :: xs, [] => borA .bo x ++ borL xs []
  | [], _ => []
def partsOf (env : Env κ Ty) (ty : Nat → TypeId) : List (Nat × Operand) → List (Nat × AV κ Ty)
  | [] => []
  | (i, x) :: ps => (i, opnd T env (ty i) x) :: partsOf env ty ps

def aop (Γ : FuncId → Option (Summ κ Ty)) (o : Oper) (env : Env κ Ty) (objs : Objs κ Ty) (K : AV κ Ty → Objs κ Ty → Option R) : Option R :=
  match o.op with
  | .move x => K (opnd T env o.type x) objs
  | .assign x => K (opnd T env o.type x) objs
  | .pick c a b => (match opnd T env 0 c with
    | .lit (.bool t) => ifB t fun t => K (match t with | true => opnd T env o.type a | false => opnd T env o.type b) objs
    | _ => none)
  | .alloc t => (match T t with
    | some ti => (match ti.shp with
      | .arr n e s => (match T e, Nat.ble 1 n with
        | some te, true => (match C.dec s te.zero with
          | some z => K (.eref objs.length 0 0) (objs ++ [.sl s (List.replicate n z)])
          | none => none)
        | _, _ => none)
      | _ => K (.ref objs.length 0) (objs ++ [.box ti.zero]))
    | none => none)
  | .box t x => (match cellsOf (opnd T env t x) with
    | some cs => K (.ref objs.length 0) (objs ++ [.box cs])
    | none => none)
  | .build t ps => (match T t with
    | some ti => (match ti.shp with
      | .struct fs => (match fillC T fs ti.zero (partsOf T env (fun i => match fs[i]? with | some p => p.2 | none => 0) ps.toList) with
        | some cs => K (.agg cs) objs
        | none => none)
      | _ => none)
    | none => none)
  | .buildSlice t n ps => (match T t with
    | some ti => (match ti.shp with
      | .slice e s => (match Nat.beq ps.toList.length n && Nat.ble (n * C.sz s) 16777216 with
        | true => rowsC C s objs 0 (partsOf T env (fun _ => e) ps.toList) fun ys objs => K (.own objs.length) (objs ++ [.sl s ys])
        | false => none)
      | _ => none)
    | none => none)
  | .load t a => (match T t with
    | some ti => aload C objs ti (opnd T env 0 a) fun v => K v objs
    | none => none)
  | .store t a x => (match T t with
    | some ti => astore C objs ti (opnd T env 0 a) (opnd T env t x) fun objs => K .undef objs
    | none => none)
  | .nilCheck x => (match isAddr objs (opnd T env o.type x) with | true => K (opnd T env o.type x) objs | false => none)
  | .binOp op t x y _ => (match T t with | some ti => vbin ti op (opnd T env t x) (opnd T env t y) fun v => K v objs | none => none)
  | .unOp op _ x => (match op with
    | .not => (match opnd T env o.type x with | .lit (.bool b) => K (.lit (.bool (!b))) objs | _ => none)
    | _ => none)
  | .convert s d x => (match T s, T d with
    | some ti, some td => (match td.shp, opnd T env o.type x with
      | .int k, .lit (.int _ n) => (match ti.shp with | .int _ => K (.lit (.int k (k.wrap n))) objs | _ => none)
      | .str, v => (match ti.shp with
        | .slice e s => (match T e, rowsOf objs v with
          | some te, some ⟨t, xs⟩ => (match te.shp with
            | .int k => (match k with
              | .u8 => (match C.bytes t xs with | some bs => K (.lit (.string (bstr bs))) objs | none => none)
              | _ => none)
            | _ => none)
          | _, _ => none)
        | _ => none)
      | _, _ => none)
    | _, _ => none)
  | .makeSlice t n c => (match T t with
    | some ti => (match ti.shp with
      | .slice e s => (match T e with
        | some te => (match opnd T env 0 n, opnd T env 0 c with
          | .lit (.int _ a), .lit (.int _ b) => (if a = b then room (C.by' s) a else none).bind fun m => (match C.dec s te.zero with
            | some z => K (.own objs.length) (objs ++ [.sl s (List.replicate m z)])
            | none => none)
          | _, _ => none)
        | none => none)
      | _ => none)
    | none => none)
  | .slice t x lo hi mx => (match T t with
    | some ti => (match mx, lo, hi with
      | none, lo, hi => (match (match lo with | none => some none | some l => (match opnd T env 0 l with | .lit (.int _ n) => some (some n) | _ => none)),
            (match hi with | none => some none | some h => (match opnd T env 0 h with | .lit (.int _ n) => some (some n) | _ => none)) with
        | some lo, some hi => aslice C objs ti.shp (opnd T env t x) lo hi fun v => K v objs
        | _, _ => none)
      | _, _, _ => none)
    | none => none)
  | .fieldAddr s x f => (match T s with
    | some ti => (match ti.shp with
      | .struct fs => (match isAddr objs (opnd T env 0 x), afield fs f (opnd T env 0 x) with | true, some v => K v objs | _, _ => none)
      | _ => none)
    | none => none)
  | .field s x f => (match T s, opnd T env s x with
    | some ti, .agg cs => (match ti.shp with
      | .struct fs => (match fs[f]? with
        | some (d, t) => (match T t with | some tf => (match loadC tf cs d with | some v => K v objs | none => none) | none => none)
        | none => none)
      | _ => none)
    | _, _ => none)
  | .indexAddr t x i => (match T t with
    | some ti => aindexAddr C objs ti.shp (opnd T env t x) (opnd T env 0 i) fun v => K v objs
    | none => none)
  | .index t x i => (match T t with
    | some ti => (match ti.shp with
      | .str => (match opnd T env t x, opnd T env 0 i with
        | .lit (.string s), .lit (.int _ i) => (bidx s i).bind fun c => K (.lit (.int .u8 c.toNat)) objs
        | _, _ => none)
      | _ => none)
    | none => none)
  | .extract t i => (match opnd T env 0 t with
    | .tup vs => (match vs[i]? with | some v => K v objs | none => none)
    | _ => none)
  | .call c => (match c.callee with
    | .builtin b => (match b with
      | .len => (match c.args.toList, c.argTypes.toList with
        | [x], [t] => (match T t with
          | some ti => (match lenOf objs ti.shp (opnd T env t x) with | some n => K (.lit (.int .i64 n)) objs | none => none)
          | none => none)
        | _, _ => none)
      | .append => (match c.args.toList, c.argTypes.toList with
        | [x, y], [t1, t2] => (match T t1, T t2 with
          | some i1, some i2 => (match i1.shp, i2.shp with
            | .slice _ s1, .slice _ _ => aappend C objs s1 (opnd T env t1 x) (opnd T env t2 y) K
            | _, _ => none)
          | _, _ => none)
        | _, _ => none)
      | _ => none)
    | .value (.func f) => (match Nat.beq c.args.toList.length c.argTypes.toList.length, Γ f with
      | true, some S => acall objs S (borL (opnds T env c.args.toList c.argTypes.toList) S.modes) (prepL objs (opnds T env c.args.toList c.argTypes.toList) S.modes) K
      | _, _ => none)
    | _ => none)
  | _ => none

inductive It where
  | code (c : Code)
  | inBlock (id : Nat)
  | inLoop (c : Code)

def eqB : Bool → Bool → Bool | true, true => true | false, false => true | _, _ => false

def put (o : Oper) (env : Env κ Ty) (v : AV κ Ty) : Env κ Ty := match o.dst with | some d => (d, v) :: env | none => env

/-- one operation with its guard -/
def astep (Γ : FuncId → Option (Summ κ Ty)) (all : Array Oper) (o : Oper) (env : Env κ Ty) (objs : Objs κ Ty) (K : Env κ Ty → Objs κ Ty → Option R) : Option R :=
  match o.guard with
  | none => aop C T Γ o env objs fun v objs => K (put o env v) objs
  | some (j, want) => match ((all[j]?).bind (·.dst)) with
    | none => none
    | some d => match look env d with
      | .lit (.bool b) => ifB b fun b' => (match eqB b' want with
        | true => aop C T Γ o ((d, .lit (.bool b')) :: env) objs fun v objs => K (put o ((d, .lit (.bool b')) :: env) v) objs
        | false => K (put o ((d, .lit (.bool b')) :: env) .void) objs)
      | .void => K (put o env .void) objs
      | _ => none

def aops (Γ : FuncId → Option (Summ κ Ty)) (all : Array Oper) : List Oper → Env κ Ty → Objs κ Ty → (Env κ Ty → Objs κ Ty → Option R) → Option R
  | [], env, objs, K => K env objs
  | o :: os, env, objs, K => astep C T Γ all o env objs fun env objs => aops Γ all os env objs K

def unwind (id : Nat) : List It → Option (List It)
  | [] => none
  | .inBlock j :: l => (match Nat.beq j id with | true => some l | false => unwind id l)
  | .code _ :: l => unwind id l
  | .inLoop _ :: l => unwind id l

def setB (env : Env κ Ty) (x : Operand) (b : Bool) : Env κ Ty := match x with | .tmp d => (d, .lit (.bool b)) :: env | _ => env

def cutAt : List (Nat × List Nat) → Nat → Option (List Nat)
  | [], _ => none
  | (j, l) :: cs, i => match Nat.beq j i with | true => some l | false => cutAt cs i

/-! ### a region that draws its order: what may stand in another order -/
structure Foot where
  loud : Bool
  reads : List Nat
  writes : List Nat
def opIds (env : Env κ Ty) (ty : TypeId) (x : Operand) : List Nat := idsV (opnd T env ty x)
def isNil {α : Type} : List α → Bool | [] => true | _ => false
def footOf (Γ : FuncId → Option (Summ κ Ty)) (o : Oper) (env : Env κ Ty) (objs : Objs κ Ty) : Foot :=
  match o.op with
  | .move _ => ⟨false, [], []⟩
  | .assign _ => ⟨false, [], []⟩
  | .pick .. => ⟨false, [], []⟩
  | .nilCheck x => ⟨false, opIds T env o.type x, []⟩
  | .binOp .. => ⟨false, [], []⟩
  | .unOp .. => ⟨false, [], []⟩
  | .convert _ _ x => ⟨false, opIds T env o.type x, []⟩
  | .fieldAddr _ x _ => ⟨false, opIds T env 0 x, []⟩
  | .field .. => ⟨false, [], []⟩
  | .index .. => ⟨false, [], []⟩
  | .extract .. => ⟨false, [], []⟩
  | .build .. => ⟨false, [], []⟩
  | .load _ a => ⟨false, opIds T env 0 a, []⟩
  | .indexAddr t x _ => ⟨false, opIds T env t x, []⟩
  | .slice t x .. => ⟨false, opIds T env t x, []⟩
  | .alloc _ => ⟨true, [], []⟩
  | .box .. => ⟨true, [], []⟩
  | .makeSlice .. => ⟨true, [], []⟩
  | .buildSlice _ _ ps => let l := (partsOf T env (fun _ => 0) ps.toList).flatMap fun p => idsV p.2; ⟨true, l, l⟩
  | .store t a x => let l := opIds T env 0 a ++ opIds T env t x; ⟨true, l, l⟩
  | .call c => let as := opnds T env c.args.toList c.argTypes.toList
    match c.callee with
    | .builtin b => (match b with
      | .len => ⟨false, as.flatMap idsV, []⟩
      | _ => ⟨true, as.flatMap idsV, as.flatMap idsV⟩)
    | .value x => (match x with
      | .func f => (match Γ f with
        | some S => (match S.quiet && isNil ((prepL objs as S.modes).flatMap idsV) with
          | true => ⟨false, as.flatMap idsV, []⟩
          | false => ⟨true, as.flatMap idsV ++ reach objs (addN [] ((prepL objs as S.modes).flatMap idsV)), reach objs (addN [] ((prepL objs as S.modes).flatMap idsV))⟩)
        | none => ⟨true, [], []⟩)
      | _ => ⟨true, [], []⟩)
    | _ => ⟨true, [], []⟩
  | _ => ⟨true, [], []⟩
def footOk (x y : Foot) : Bool :=
  match x.loud && y.loud with
  | true => false
  | false => disj x.reads y.writes && disj y.reads x.writes
/-- what an operation waits for, directly -/
def depsOf (o : Oper) : List Nat := (o.after.toList.filter fun e => Region.binds .any e).map (·.on)
/-- directly or not -/
def ancs (os : List Oper) : List (List Nat) := os.foldl (fun acc o => acc ++ [(depsOf o).flatMap fun d => d :: acc.getD d []]) []
def checkL (all : Array Oper) (o : Oper) (anc : List Nat) (f : Foot) : List (Nat × Oper × Foot) → Bool
  | [] => true
  | (j, p, g) :: l => match elemN j anc || (Oper.apart all p o && footOk g f) with | true => checkL all o anc f l | false => false
def footG (Γ : FuncId → Option (Summ κ Ty)) (all : Array Oper) (o : Oper) (env : Env κ Ty) (objs : Objs κ Ty) : Foot :=
  match o.guard with
  | none => footOf T Γ o env objs
  | some (j, want) => match ((all[j]?).bind (·.dst)) with
    | none => ⟨true, [], []⟩
    | some d => match look env d with
      | .lit (.bool b) => (match eqB b want with | true => footOf T Γ o env objs | false => ⟨false, [], []⟩)
      | .void => ⟨false, [], []⟩
      | _ => ⟨true, [], []⟩
def lessN : List Nat → Nat → Bool
  | [], _ => true
  | i :: l, n => match Nat.blt i n with | true => lessN l n | false => false
def aopsD (Γ : FuncId → Option (Summ κ Ty)) (all : Array Oper) (anc : List (List Nat)) : Nat → List Oper → List (Nat × Oper × Foot) → Env κ Ty → Objs κ Ty → (Env κ Ty → Objs κ Ty → Option R) → Option R
  | _, [], _, env, objs, K => K env objs
  | i, o :: os, log, env, objs, K => match lessN (depsOf o) i && lessN (footG T Γ all o env objs).reads objs.length && checkL all o (anc.getD i []) (footG T Γ all o env objs) log with
    | true => astep C T Γ all o env objs fun env' objs' => aopsD Γ all anc (i + 1) os ((i, o, footG T Γ all o env objs) :: log) env' objs' K
    | false => none

/-- a function's body, from a stack of pieces of code on -/
def run (Γ : FuncId → Option (Summ κ Ty)) (Λ : Nat → List (AV κ Ty) → Objs κ Ty → Option R) (cuts : List (Nat × List Nat)) (m : Nat) (fin : Env κ Ty → Objs κ Ty → Option R) :
    Nat → Bool → List It → Env κ Ty → Objs κ Ty → Option R
  | 0, _, _, _, _ => none
  | n + 1, fresh, todo, env, objs => match todo with
    | [] => fin env objs
    | .inBlock _ :: k => run Γ Λ cuts m fin n fresh k env objs
    | .inLoop c :: k => run Γ Λ cuts m fin n fresh (.code c :: .inLoop c :: k) env objs
    | .code c :: k => match c with
      | .skip => run Γ Λ cuts m fin n fresh k env objs
      | .seq a b => run Γ Λ cuts m fin n fresh (.code a :: .code b :: k) env objs
      | .block id b => run Γ Λ cuts m fin n fresh (.code b :: .inBlock id :: k) env objs
      | .loop b => run Γ Λ cuts m fin n fresh (.code b :: .inLoop b :: k) env objs
      | .exit id => (match unwind id k with | some k' => run Γ Λ cuts m fin n fresh k' env objs | none => none)
      | .ret => fin env objs
      | .cond q a b => (match opnd T env 0 q with
        | .lit (.bool t) => ifB t fun t => (match t with
          | true => run Γ Λ cuts m fin n fresh (.code a :: k) (setB env q true) objs
          | false => run Γ Λ cuts m fin n fresh (.code b :: k) (setB env q false) objs)
        | _ => none)
      | .region id ops draw => (match (match fresh with | true => none | false => cutAt cuts id) with
        | some slots => (match compact m (slots.map (look env)) objs with | (vs, objs) => Λ id vs objs)
        | none => (match draw with
          | true => aopsD C T Γ ops (ancs ops.toList) 0 ops.toList [] env objs fun env objs => run Γ Λ cuts m fin n false k env objs
          | false => aops C T Γ ops ops.toList env objs fun env objs => run Γ Λ cuts m fin n false k env objs))
      | _ => none

/-- the stack at the region of this number -/
def inCode (id : Nat) : Code → List It → Option (List It)
  | .seq a b, k => (match inCode id a (.code b :: k) with | some t => some t | none => inCode id b k)
  | .block j c, k => inCode id c (.inBlock j :: k)
  | .loop c, k => inCode id c (.inLoop c :: k)
  | .cond _ a b, k => (match inCode id a k with | some t => some t | none => inCode id b k)
  | .region i ops d, k => (match Nat.beq i id with | true => some (.code (.region i ops d) :: k) | false => none)
  | _, _ => none

/-- results that don't stay one's own: what they show, for good -/
def frzL (objs : Objs κ Ty) : List (AV κ Ty) → (List (AV κ Ty) → Objs κ Ty → Option R) → Option R
  | [], K => K [] objs
  | v :: vs, K => match v with
    | .agg cs => deepen C objs cs fun cs' o => frzL o vs fun vs' o' => K (.agg cs' :: vs') o'
    | v => deepen C objs [v] fun cs' o => frzL o vs fun vs' o' => K (cs' ++ vs') o'
/-- nothing borrowed may go out -/
def safe1 : AV κ Ty → Bool | .inl b _ _ => !b | .cadr .. => false | _ => true
def safe2 : AV κ Ty → Bool | .agg cs => cs.all safe1 | .tup _ => false | v => safe1 v
def safeO (C : Cod κ Ty) : AObj κ Ty → Bool | .sl t _ => !(C.bor t) | .box cs => cs.all safe1 | .dead => true
def one : List (AV κ Ty) → AV κ Ty | [v] => v | vs => .tup vs
def finishV (m : Nat) (dec : AV κ Ty → Objs κ Ty → Option R) (vs : List (AV κ Ty)) (objs : Objs κ Ty) : Option R :=
  match compact m vs objs with
  | (vs, objs) => match vs.all safe2 && objs.all (safeO C) with
    | true => dec (one vs) objs
    | false => none
def resA (env : Env κ Ty) (objs : Objs κ Ty) : List ResultVar → (List (AV κ Ty) → Option R) → Option R
  | [], K => K []
  | r :: rs, K => match r with
    | .tmp t => resA env objs rs fun vs => K (look env t :: vs)
    | .cell a t => match T t with
      | some ti => aload C objs ti (look env a) fun v => resA env objs rs fun vs => K (v :: vs)
      | none => none
def finish (frz : Bool) (m : Nat) (rs : List ResultVar) (dec : AV κ Ty → Objs κ Ty → Option R) (env : Env κ Ty) (objs : Objs κ Ty) : Option R :=
  resA C T env objs rs fun vs => match frz with
  | true => frzL C objs vs fun vs objs => finishV C m dec vs objs
  | false => finishV C m dec vs objs

def envOf : List Nat → List (AV κ Ty) → Env κ Ty
  | i :: is, v :: vs => (i, v) :: envOf is vs
  | _, _ => []
end
end Km
