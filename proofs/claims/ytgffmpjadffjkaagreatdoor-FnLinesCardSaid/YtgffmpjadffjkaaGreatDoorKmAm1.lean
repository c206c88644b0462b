/- A part of the proof of FnLines: an abstract machine over the program, sound by its theorems. There is no condition. -/
import Derived.Calls
import Derived.Orders
import Derived.Below
import Derived.Laws.Sem
import Derived.Laws.World
import Derived.Laws.Cells
import Derived.Laws.IdiomCopy
import Derived.ChangeKeysEq
set_option linter.unusedVariables false
set_option linter.unusedSimpArgs false
namespace Km
open Go
variable {κ:Type} {Ty:κ→Type} {R:Type}
inductive AV (κ:Type) (Ty:κ→Type) where
  | lit (v:Value)
  | nil (t:κ)
  | ref (id off:Nat)
  | eref (id i off:Nat)
  | cadr (b:Bool) (cells:List (AV κ Ty)) (off:Nat)
  | own (id:Nat)
  | mapv (id:Nat)
  | sub (id lo hi:Nat)
  | inl (b:Bool) (t:κ) (xs:List (Ty t))
  | rwv (id:Nat)
  | rwp (id i off:Nat)
  | xr (id g i j:Nat) (t:κ) (xs:List (Ty t))
  | agg (cells:List (AV κ Ty))
  | tup (vs:List (AV κ Ty))
  | void
  | gl (g:Nat)
  | undef
inductive AObj (κ:Type) (Ty:κ→Type) where
  | dead
  | box (cells:List (AV κ Ty))
  | sl (t:κ) (xs:List (Ty t))
  | mp (k v:κ) (es:List (Ty k×Ty v)) (hole:Option (Nat×Option Nat))
  | rw (t:κ) (xs:List (Ty t)) (g:Nat) (h:Option (Nat×Nat×Nat))
  | rp (t:κ) (xs:List (Ty t)) (n:Nat)
inductive Shp (κ:Type) where
  | int (k:IntKind) | bool | str
  | struct (fs:List (Nat×TypeId))
  | arr (n:Nat) (e:TypeId) (t:κ)
  | slice (e:TypeId) (t:κ)
  | map (kt et:TypeId) (k v:κ)
  | other
structure TI (κ:Type) (Ty:κ→Type) where
  size:Nat
  bytes:Nat
  shp:Shp κ
  zero:List (AV κ Ty)
def TI.agg (ti:TI κ Ty):Bool:=match ti.shp with | .struct _=>true | .arr .. =>true | _=>false
structure Cod (κ:Type) (Ty:κ→Type) where
  same:κ→κ→Bool
  cast:(s t:κ)→List (Ty s)→Option (List (Ty t))
  sz:κ→Nat
  by':κ→Nat
  bor:κ→Bool
  xcl:κ→Bool
  up:(s:κ)→List (Ty s)→Option ((t:κ)×List (Ty t))
  dn:(s:κ)→List (Ty s)→Option ((t:κ)×List (Ty t))
  enc:(t:κ)→Ty t→List (AV κ Ty)
  dec:(t:κ)→List (AV κ Ty)→Option (Ty t)
  bytes:(t:κ)→List (Ty t)→Option (List Int)
  ofb:(t:κ)→ByteArray→Option (List (Ty t))
  keq:(k:κ)→Ty k→Ty k→Bool
  mcast:(k v k' v':κ)→List (Ty k×Ty v)→Option (List (Ty k'×Ty v'))
  gb:Nat→Prop:=fun _=>False
  bt:TypeId:=0
  shk:κ→Bool:=fun _=>false
  sht:TypeId:=0
  gp:Go.World→Prop:=fun _=>True
  gl:Nat→Value:=fun _=> .bool false
  gv:TypeId→Nat→Option Nat:=fun _ _=>none
  gm:TypeId→Nat→Option (List (ByteArray×Int×Int)):=fun _ _=>none
inductive G7 | mv | bo | pe | gv | bu
structure bU (κ:Type) (Ty:κ→Type) where
  R:Type
  modes:List G7
  run:List (AV κ Ty)→List (AObj κ Ty)→Option R
  ret:R→AV κ Ty×List (AObj κ Ty)
  quiet:Bool
abbrev Env (κ:Type) (Ty:κ→Type):=List (Nat×AV κ Ty)
abbrev aH (κ:Type) (Ty:κ→Type):=List (AObj κ Ty)
def bsh:List (AV κ Ty)→Bool
  | []=>false
  | c::cs=>match cs with
    | []=>false
    | _::r=>match r with
      | _::_=>false
      | []=>match c with
        | .ref _ _=>true
        | .lit v=>(match v with | .pointer _=>true | _=>false)
        | _=>false
def frs:List (AV κ Ty)→Bool
  | []=>false
  | c::cs=>match cs with
    | []=>false
    | _::r=>match r with
      | _::_=>false
      | []=>match c with
        | .lit v=>(match v with | .pointer q=>(match q with | none=>true | some _=>false) | _=>false)
        | _=>false
def gI_:List (AV κ Ty)→Bool
  | []=>false
  | _::cs=>match cs with
    | []=>false
    | d::_=>match d with | .nil _=>true | _=>false
def look:Env κ Ty→Nat→AV κ Ty
  | [],_=> .undef
  | (j,v)::l,i=>match Nat.beq j i with | true=>v | false=>look l i
def idx {α:Type} (xs:List α) (i:Int):Option α:=if i<0 then none else xs[i.toNat]?
def ifB (b:Bool) (K:Bool→Option R):Option R:=match b with | true=>K true | false=>K false
def optK {α:Type} (o:Option α) (K0:Option R) (K1:α→Option R):Option R:=match o with | none=>K0 | some a=>K1 a
def cC {α β:Type} (q:α→Bool):List (α×β)→Nat→Option (Nat×β)
  | [],_=>none
  | (a,b)::l,i=>match q a with | true=>some (i,b) | false=>cC q l (i+1)
def dK (x y:ByteArray):Option ByteArray:=if x.size+y.size≤140737488355328 then some (x++y) else none
def app {α:Type} (bytes:Nat) (xs ys:List α):Option (List α):=if (xs.length+ys.length)*bytes≤140737488355328 then some (xs++ys) else none
def wnd (n:Nat) (lo hi:Int):Option (Nat×Nat):=if 0≤lo∧lo≤hi∧hi≤n then some (lo.toNat,hi.toNat) else none
def Q8 (b0:Bool):AV κ Ty→AV κ Ty
  | .nil t=> .inl b0 t []
  | v=>v
def room (bytes:Nat) (n:Int):Option Nat:=if 0≤n∧n*bytes≤140737488355328 then some n.toNat else none
def zN (s:ByteArray) (i:Int):Option UInt8:=if i<0 then none else s[i.toNat]?
def iA {α:Type} (xs:List α) (lo hi:Nat):List α:=(xs.take hi).drop lo
def cpy {α:Type} (xs:List α) (lo hi:Nat) (ys:List α):List α:=xs.take lo++(ys.take (hi-lo)++xs.drop (lo+min (hi-lo) ys.length))
def bC (s:ByteArray):List Int:=s.data.toList.map fun c=>(c.toNat:Int)
def UH (a b:Int):Option Int:=if b=0 then none else some (a.tdiv b)
def J0 (a b:Int):Option Int:=if b=0 then none else some (a.tmod b)
section
variable (C:Cod κ Ty) (T:TypeId→Option (TI κ Ty))
def iV (env:Env κ Ty) (ty:TypeId):Operand→AV κ Ty
  | .tmp t=>look env t
  | .const v=>match v with
    | .slice none 0 0=>(match T ty with
      | some ti=>(match ti.shp with | .slice _ t=> .nil t | _=> .undef)
      | none=> .undef)
    | .agg _=> .undef
    | .tuple _=> .undef
    | v=> .lit v
  | .func f=> .lit (.func (.func f) #[] #[])
  | .global g=> .lit (.pointer (some ⟨g,0,none⟩))
def cellsOf:AV κ Ty→Option (List (AV κ Ty))
  | .agg cs=>some cs
  | .tup _=>none
  | .undef=>none
  | .void=>none
  | v=>some [v]
def dD {α:Type}:List α→Nat→List α→List α
  | cs,_,[]=>cs
  | [],_,_=>[]
  | c::cs,0,n::ns=>n::dD cs 0 ns
  | c::cs,o+1,ns=>c::dD cs o ns
def GH (ti:TI κ Ty) (cs:List (AV κ Ty)) (off:Nat):Option (AV κ Ty):=
  match ti.agg with
  | true=>match Nat.ble (off+ti.size) cs.length with | true=>some (.agg ((cs.drop off).take ti.size)) | false=>none
  | false=>cs[off]?
def mX (objs:aH κ Ty) (id:Nat):Option ((t:κ)×List (Ty t)):=
  match objs[id]? with | some (.sl t xs)=>some ⟨t,xs⟩ | _=>none
def NQ (objs:aH κ Ty) (id:Nat):Bool:=
  match objs[id]? with | some (.mp ..)=>true | _=>false
def yK (objs:aH κ Ty) (id:Nat):Bool:=
  match objs[id]? with | some (.rw ..)=>true | some (.rp ..)=>true | _=>false
def kY (objs:aH κ Ty) (id:Nat):Option ((t:κ)×List (Ty t)):=
  match objs[id]? with | some (.rw t xs _ _)=>some ⟨t,xs⟩ | some (.rp t xs _)=>some ⟨t,xs⟩ | _=>none
def m9 (objs:aH κ Ty) (id:Nat):Option (List (AV κ Ty)):=
  match objs[id]? with | some (.box cs)=>some cs | _=>none
def tO (objs:aH κ Ty):AV κ Ty→Option ((t:κ)×List (Ty t))
  | .nil t=>some ⟨t,[]⟩
  | .inl _ t xs=>some ⟨t,xs⟩
  | .own id=>mX objs id
  | .sub id lo hi=>match mX objs id with | some ⟨t,xs⟩=>some ⟨t,iA xs lo hi⟩ | none=>none
  | _=>none
def JQ (objs:aH κ Ty):AV κ Ty→Option ((t:κ)×List (Ty t))
  | .rwv id=>(match objs[id]? with | some (.rw t xs _ none)=>some ⟨t,xs⟩ | _=>none)
  | .xr id g _ _ t xs=>(match objs[id]? with | some (.rw _ _ g' none)=>(match Nat.beq g g' with | true=>some ⟨t,xs⟩ | false=>none) | _=>none)
  | v=>tO objs v
def jK (b0:Bool) (objs:aH κ Ty):List (AV κ Ty)→(List (AV κ Ty)→aH κ Ty→Option R)→Option R
  | [],K=>K [] objs
  | c::cs,K=>match c with
    | .own id=>(match mX objs id with
      | some ⟨t,xs⟩=>(match b0 || !(C.bor t) with
        | true=>jK b0 (objs.set id .dead) cs fun cs' o=>K (.inl b0 t xs::cs') o
        | false=>none)
      | none=>none)
    | .nil t=>(match b0 || !(C.bor t) with
      | true=>jK b0 objs cs fun cs' o=>K (.inl b0 t []::cs') o
      | false=>none)
    | .lit v=>jK b0 objs cs fun cs' o=>K (.lit v::cs') o
    | .inl b t xs=>jK b0 objs cs fun cs' o=>K (.inl b t xs::cs') o
    | _=>none
def L9:List (AV κ Ty)→Bool
  | []=>true
  | c::cs=>match c with | .inl .. =>false | _=>L9 cs
def N3 (id g i:Nat):Nat→List (AV κ Ty)→List (AV κ Ty)
  | _,[]=>[]
  | j,c::cs=>(match c with | .inl _ t xs=> .xr id g i j t xs | c=>c)::N3 id g i (j+1) cs
abbrev aX_ (k:IntKind) (a b:Int):Int:=k.wrap (BitVec.ofInt k.bits a&&&BitVec.ofInt k.bits b).toNat
abbrev X7 (k:IntKind) (a b:Int):Int:=k.wrap (BitVec.ofInt k.bits a ||| BitVec.ofInt k.bits b).toNat
abbrev vG (k:IntKind) (a b:Int):Int:=k.wrap (BitVec.ofInt k.bits a^^^BitVec.ofInt k.bits b).toNat
def mD (bs:List Int):ByteArray:=bs.foldl (fun r n=>r.push (UInt8.ofNat n.toNat)) ByteArray.empty
def fe_ (op:BinOp) (k:IntKind) (a b:Int) (K:Value→Option R):Option R:=
  match op with
  | .add=>K (.int k (k.wrap (a+b)))
  | .sub=>K (.int k (k.wrap (a-b)))
  | .mul=>K (.int k (k.wrap (a*b)))
  | .quo=>(UH a b).bind fun q=>K (.int k (k.wrap q))
  | .rem=>(J0 a b).bind fun q=>K (.int k q)
  | .and=>K (.int k (k.wrap (BitVec.ofInt k.bits a&&&BitVec.ofInt k.bits b).toNat))
  | .or=>K (.int k (k.wrap (BitVec.ofInt k.bits a ||| BitVec.ofInt k.bits b).toNat))
  | .xor=>K (.int k (k.wrap (BitVec.ofInt k.bits a^^^BitVec.ofInt k.bits b).toNat))
  | .eql=>K (.bool (a==b))
  | .neq=>K (.bool (a !=b))
  | .lss=>K (.bool (decide (a<b)))
  | .leq=>K (.bool (decide (a≤b)))
  | .gtr=>K (.bool (decide (a>b)))
  | .geq=>K (.bool (decide (a≥b)))
  | _=>none
def shift (op:BinOp) (k:IntKind) (a n:Int):Option Int:=
  match op with
  | .shl=>if n<0 then none else some (k.wrap (a*2^(min n.toNat k.bits)))
  | .shr=>if n<0 then none else some (a.fdiv (2^(min n.toNat k.bits)))
  | _=>none
def fg_ (op:BinOp) (x y:ByteArray) (K:Value→Option R):Option R:=
  match op with
  | .add=>(dK x y).bind fun z=>K (.string z)
  | .eql=>K (.bool (x.toList==y.toList))
  | .neq=>K (.bool (!(x.toList==y.toList)))
  | _=>none
def fc_ (ti:TI κ Ty) (op:BinOp) (x y:AV κ Ty) (K:AV κ Ty→Option R):Option R:=
  match op with
  | .shl=>(match x,y with | .lit (.int k a), .lit (.int _ n)=>(shift .shl k a n).bind fun m=>K (.lit (.int k m)) | _,_=>none)
  | .shr=>(match x,y with | .lit (.int k a), .lit (.int _ n)=>(shift .shr k a n).bind fun m=>K (.lit (.int k m)) | _,_=>none)
  | op=>match x,y with
    | .lit (.int k a), .lit (.int k' b)=>(match decide (k=k') with | true=>fe_ op k a b fun v=>K (.lit v) | false=>none)
    | .lit (.string a), .lit (.string b)=>fg_ op a b fun v=>K (.lit v)
    | .lit (.bool a), .lit (.bool b)=>(match ti.shp with
      | .bool=>(match op with
        | .eql=>K (.lit (.bool (a==b)))
        | .neq=>K (.lit (.bool (!(a==b))))
        | _=>none)
      | _=>none)
    | _,_=>none
def cd_ (E:TypeId→AV κ Ty→AV κ Ty→Option Bool):List (Nat×TypeId)→List (AV κ Ty)→List (AV κ Ty)→Option Bool
  | [],_,_=>some true
  | (o,t)::fs,xs,ys=>match T t with
    | some ti=>match GH ti xs o,GH ti ys o with
      | some a,some b=>match E t a b with
        | some r=>(match cd_ E fs xs ys with | some r'=>some (r&&r') | none=>none)
        | none=>none
      | _,_=>none
    | none=>none
def aeq:Nat→TypeId→AV κ Ty→AV κ Ty→Option Bool
  | 0,_,_,_=>none
  | d+1,t,x,y=>match T t with
    | none=>none
    | some ti=>match ti.shp with
      | .int _=>(match x,y with | .lit (.int k a), .lit (.int k' b)=>(match decide (k=k') with | true=>some (a==b) | false=>none) | _,_=>none)
      | .bool=>(match x,y with | .lit (.bool a), .lit (.bool b)=>some (a==b) | _,_=>none)
      | .str=>(match x,y with | .lit (.string a), .lit (.string b)=>some (a.toList==b.toList) | _,_=>none)
      | .struct fs=>(match x,y with | .agg xs, .agg ys=>cd_ T (aeq d) fs xs ys | _,_=>none)
      | _=>none
def lenOf (objs:aH κ Ty) (shp:Shp κ) (v:AV κ Ty):Option Int:=
  match shp with
  | .str=>(match v with | .lit (.string s)=>some s.size | _=>none)
  | .slice _ _=>(match v with
    | .rwv id=>(match kY objs id with | some ⟨_,xs⟩=>some xs.length | none=>none)
    | v=>(match JQ objs v with | some ⟨_,xs⟩=>some xs.length | none=>none))
  | _=>none
def upV (t:κ) (xs:List (Ty t)):AV κ Ty:=match C.up t xs with | some ⟨t',ys⟩=> .inl true t' ys | none=> .inl true t xs
def MD (objs:aH κ Ty) (m:G7) (v:AV κ Ty):AV κ Ty:=
  match m with
  | .mv=>v
  | .pe=>v
  | .gv=>v
  | .bo=>match JQ objs v with
    | some ⟨t,xs⟩=> .inl true t xs
    | none=>v
  | .bu=>match JQ objs v with
    | some ⟨t,xs⟩=>upV C t xs
    | none=>v
def A6 (objs:aH κ Ty) (m:G7):AV κ Ty→AV κ Ty
  | .agg cs=> .agg (cs.map (MD C objs m))
  | v=>MD C objs m v
def kV:AV κ Ty→List Nat
  | .own id=>[id]
  | .mapv id=>[id]
  | .rwv id=>[id]
  | .rwp id _ _=>[id]
  | .xr id _ _ _ _ _=>[id]
  | .sub id _ _=>[id]
  | .ref id _=>[id]
  | .eref id _ _=>[id]
  | _=>[]
def rO:AV κ Ty→List Nat
  | .agg cs=>cs.flatMap kV
  | v=>kV v
def cU:AV κ Ty→List Nat
  | .tup vs=>vs.flatMap rO
  | v=>rO v
def rR:Nat→List Nat→Bool
  | _,[]=>false
  | i,j::l=>match Nat.beq i j with | true=>true | false=>rR i l
def E3:List Nat→List Nat→List Nat
  | acc,[]=>acc
  | acc,i::l=>match rR i acc with | true=>E3 acc l | false=>E3 (acc++[i]) l
def VG:AObj κ Ty→List Nat
  | .box cs=>cs.flatMap kV
  | .mp _ _ _ h=>(match h with | some (_,some j)=>[j] | _=>[])
  | _=>[]
def yQ (objs:aH κ Ty) (acc:List Nat):List Nat:=
  let a:=E3 acc (acc.flatMap fun i=>match objs[i]? with | some o=>VG o | none=>[])
  E3 a (a.flatMap fun i=>match objs[i]? with | some o=>VG o | none=>[])
def zH:List Nat→Nat→Nat→Option Nat
  | [],_,_=>none
  | j::l,i,n=>match Nat.beq j i with | true=>some n | false=>zH l i (n+1)
def yC (g:Nat→Option Nat):AV κ Ty→AV κ Ty
  | .own id=>match g id with | some j=> .own j | none=> .undef
  | .mapv id=>match g id with | some j=> .mapv j | none=> .undef
  | .rwv id=>match g id with | some j=> .rwv j | none=> .undef
  | .rwp id i off=>match g id with | some j=> .rwp j i off | none=> .undef
  | .sub id lo hi=>match g id with | some j=> .sub j lo hi | none=> .undef
  | .ref id off=>match g id with | some j=> .ref j off | none=> .undef
  | .eref id i off=>match g id with | some j=> .eref j i off | none=> .undef
  | .lit v=> .lit v
  | .gl g=> .gl g
  | .nil t=> .nil t
  | .inl b t xs=> .inl b t xs
  | .void=> .void
  | _=> .undef
def cx_ (g:Nat→Option Nat):AV κ Ty→AV κ Ty
  | .agg cs=> .agg (cs.map (yC g))
  | v=>yC g v
def HW (g:Nat→Option Nat):AV κ Ty→AV κ Ty
  | .tup vs=> .tup (vs.map (cx_ g))
  | v=>cx_ g v
def yV (g:Nat→Option Nat):AObj κ Ty→AObj κ Ty
  | .box cs=> .box (cs.map (yC g))
  | .mp k v es h=> .mp k v es (match h with
    | some (i,some j)=>some (i,g j)
    | h=>h)
  | .rw t xs _ h=>(match h with | none=> .rw t xs 0 none | some _=> .dead)
  | o=>o
def z7 (objs:aH κ Ty):AV κ Ty→AV κ Ty×aH κ Ty
  | .nil t=>(match C.xcl t with | true=>(.rwv objs.length,objs++[.rw t [] 0 none]) | false=>(.own objs.length,objs++[.sl t []]))
  | v=>(v,objs)
def nT (objs:aH κ Ty):List (AV κ Ty)→List (AV κ Ty)×aH κ Ty
  | []=>([],objs)
  | v::l=>match z7 C objs v with | (v',o)=>match nT o l with | (l',o')=>(v'::l',o')
def NG (objs:aH κ Ty):AV κ Ty→AV κ Ty×aH κ Ty
  | .agg cs=>match nT C objs cs with | (cs',o)=>(.agg cs',o)
  | v=>z7 C objs v
def pN (objs:aH κ Ty):List (AV κ Ty)→List (AV κ Ty)×aH κ Ty
  | []=>([],objs)
  | v::l=>match NG C objs v with | (v',o)=>match pN o l with | (l',o')=>(v'::l',o')
def sQ (n:Nat) (objs:aH κ Ty):aH κ Ty:=
  match n with
  | 0=>objs
  | n+1=>let o:=sQ n objs
    match o[n]? with | some (.box cs)=>(match nT C o cs with | (cs',o')=>o'.set n (.box cs')) | _=>o
def gB_ (i:Nat):List Nat→Nat
  | []=>0
  | j::l=>match Nat.beq i j with | true=>gB_ i l+1 | false=>gB_ i l
def R2 (m:Nat) (l:List Nat) (objs:aH κ Ty):AV κ Ty→AV κ Ty×aH κ Ty
  | .sub id lo hi=>(match Nat.ble m id&&Nat.beq (gB_ id l) 1 with
    | true=>(match mX objs id with | some ⟨t,xs⟩=>(.own objs.length,objs.set id .dead++[.sl t (iA xs lo hi)]) | none=>(.sub id lo hi,objs))
    | false=>(.sub id lo hi,objs))
  | v=>(v,objs)
def ZJ (m:Nat) (l:List Nat) (objs:aH κ Ty):List (AV κ Ty)→List (AV κ Ty)×aH κ Ty
  | []=>([],objs)
  | v::vs=>match R2 m l objs v with | (v',o)=>match ZJ m l o vs with | (vs',o')=>(v'::vs',o')
def Y0 (m:Nat) (l:List Nat) (objs:aH κ Ty):AV κ Ty→AV κ Ty×aH κ Ty
  | .agg cs=>match ZJ m l objs cs with | (cs',o)=>(.agg cs',o)
  | v=>R2 m l objs v
def UZ (m:Nat) (l:List Nat) (objs:aH κ Ty):List (AV κ Ty)→List (AV κ Ty)×aH κ Ty
  | []=>([],objs)
  | v::vs=>match Y0 m l objs v with | (v',o)=>match UZ m l o vs with | (vs',o')=>(v'::vs',o')
def zU (C:Cod κ Ty) (id:Nat) (objs:aH κ Ty):aH κ Ty:=
  match objs[id]? with
  | some (.mp k v es (some (i,some j)))=>(match mX objs j with
    | some ⟨s,xs⟩=>(match Nat.beq id j with
      | true=>objs
      | false=>(match C.dec v [.inl (C.bor v) s xs] with
        | some y=>(objs.set j .dead).set id (.mp k v (es.modify i fun e=>(e.1,y)) none)
        | none=>objs))
    | none=>objs)
  | _=>objs
def K3 (C:Cod κ Ty):Nat→aH κ Ty→aH κ Ty
  | 0,o=>o
  | n+1,o=>K3 C n (zU C n o)
def W4 (l:List Nat):Nat→aH κ Ty→aH κ Ty
  | 0,o=>o
  | n+1,o=>match rR n l with | true=>W4 l n o | false=>W4 l n (o.set n .dead)
def AT (m:Nat) (vs:List (AV κ Ty)) (objs:aH κ Ty):List (AV κ Ty)×aH κ Ty:=
  match K3 C objs.length objs with
  | objs=>match W4 (yQ objs (E3 (List.range m) (vs.flatMap cU))) objs.length objs with
  | objs=>match UZ m (vs.flatMap cU++objs.flatMap VG) objs vs with
  | (vs,objs)=>match pN C objs vs with
  | (vs,objs)=>
    let objs:=sQ C objs.length objs
    let l:=yQ objs (E3 (List.range m) (vs.flatMap cU))
    (vs.map (HW (zH l · 0)),l.map fun i=>match objs[i]? with | some o=>yV (zH l · 0) o | none=> .dead)
def GC (objs:aH κ Ty) (ti:TI κ Ty) (a:AV κ Ty) (K:AV κ Ty→Option R):Option R:=
  match a with
  | .ref id off=>(match m9 objs id with | some cs=>(match GH ti cs off with | some v=>K v | none=>none) | none=>none)
  | .eref id i off=>(match mX objs id with | some ⟨s,xs⟩=>(xs[i]?).bind fun x=>(match GH ti (C.enc s x) off with | some v=>K v | none=>none) | none=>none)
  | .cadr _ cs off=>(match GH ti cs off with | some v=>K v | none=>none)
  | .rwp id i off=>(match objs[id]? with
    | some (.rw s xs g none)=>(xs[i]?).bind fun x=>(match GH ti (N3 id g i 0 (C.enc s x)) off with | some v=>K v | none=>none)
    | some (.rp s xs n)=>(if n≤i then xs[i]? else none).bind fun x=>(match GH ti (C.enc s x) off with | some v=>K v | none=>none)
    | _=>none)
  | _=>none
def hr_:Value→Option Nat
  | .pointer p=>(match p with | some q=>(match q with | ⟨g,0,none⟩=>some g | _=>none) | none=>none)
  | _=>none
def BQ (objs:aH κ Ty) (t:TypeId) (a:AV κ Ty) (K:AV κ Ty→Option R):Option R:=
  match a with
  | .lit u=>(match hr_ u with
    | some g=>(match C.gv t g with | some x=>K (.gl x) | none=>none)
    | none=>none)
  | a=>(match T t with
    | some ti=>GC C objs ti a K
    | none=>none)
def FR (objs:aH κ Ty) (ti:TI κ Ty) (a x:AV κ Ty) (K:aH κ Ty→Option R):Option R:=
  match cellsOf x with
  | none=>none
  | some ns=>match Nat.beq ns.length ti.size with
    | false=>none
    | true=>match a with
      | .ref id off=>(match m9 objs id with
        | some cs=>(match Nat.ble (off+ns.length) cs.length&&(!(bsh (dD cs off ns)) || (bsh cs&& !(frs (dD cs off ns)))) with | true=>K (objs.set id (.box (dD cs off ns))) | false=>none)
        | none=>none)
      | .eref id i off=>(match mX objs id with
        | some ⟨s,xs⟩=>(xs[i]?).bind fun z=>jK C (C.bor s) objs ns fun ns objs'=>match mX objs' id with
          | some _=>(match Nat.ble (off+ns.length) (C.enc s z).length with
            | true=>(match C.dec s (dD (C.enc s z) off ns) with | some y=>K (objs'.set id (.sl s (xs.set i y))) | none=>none)
            | false=>none)
          | none=>none
        | none=>none)
      | .rwp id i off=>(match L9 ns with
        | true=>(match objs[id]? with
          | some (.rw s xs g none)=>(xs[i]?).bind fun z=>jK C true objs ns fun ns objs'=>(match Nat.ble (off+ns.length) (C.enc s z).length&&yK objs' id with
            | true=>(match C.dec s (dD (C.enc s z) off ns) with | some y=>K (objs'.set id (.rw s (xs.set i y) (g+1) none)) | none=>none)
            | false=>none)
          | some (.rp s xs n)=>(if n=i then xs[i]? else none).bind fun z=>jK C true objs ns fun ns objs'=>(match Nat.beq off 0&&Nat.beq ns.length (C.sz s)&&yK objs' id with
            | true=>(match C.dec s ns with | some y=>K (objs'.set id (.rp s (xs.set i y) (n+1))) | none=>none)
            | false=>none)
          | _=>none)
        | false=>none)
      | _=>none
def nY (objs:aH κ Ty):AV κ Ty→Bool
  | .ref id _=>(match m9 objs id with | some _=>true | none=>false)
  | .eref id _ _=>(match mX objs id with | some _=>true | none=>false)
  | .rwp id _ _=>yK objs id
  | .cadr .. =>true
  | _=>false
def XL (fs:List (Nat×TypeId)) (f:Nat) (x:AV κ Ty):Option (AV κ Ty):=
  match fs[f]? with
  | none=>none
  | some (d,_)=>match x with
    | .ref id off=>some (.ref id (off+d))
    | .eref id i off=>some (.eref id i (off+d))
    | .rwp id i off=>some (.rwp id i (off+d))
    | .cadr b cs off=>some (.cadr b cs (off+d))
    | _=>none
def kF (objs:aH κ Ty) (shp:Shp κ) (x i:AV κ Ty) (K:AV κ Ty→Option R):Option R:=
  match i with
  | .lit (.int _ i)=>(match shp with
    | .slice _ s=>(match x with
      | .own id=>(match mX objs id with | some ⟨t,xs⟩=>(match C.same s t with | true=>(idx xs i).bind fun _=>K (.eref id i.toNat 0) | false=>none) | none=>none)
      | .inl b t xs=>(match C.same s t with | true=>(idx xs i).bind fun x=>K (.cadr b (C.enc t x) 0) | false=>none)
      | .rwv id=>(match kY objs id with | some ⟨t,xs⟩=>(match C.same s t with | true=>(idx xs i).bind fun _=>K (.rwp id i.toNat 0) | false=>none) | none=>none)
      | .sub id lo hi=>(match mX objs id with | some ⟨t,xs⟩=>(match C.same s t with | true=>(idx (iA xs lo hi) i).bind fun _=>K (.eref id (lo+i.toNat) 0) | false=>none) | none=>none)
      | _=>none)
    | .arr n _ s=>(match x with
      | .eref id 0 0=>(match mX objs id with | some ⟨t,xs⟩=>(match C.same s t with | true=>(if xs.length=n then idx xs i else none).bind fun _=>K (.eref id i.toNat 0) | false=>none) | none=>none)
      | .ref id off=>(match m9 objs id with | some _=>(if 0≤i∧i<n then some () else none).bind fun _=>K (.ref id (off+i.toNat*C.sz s)) | none=>none)
      | _=>none)
    | _=>none)
  | _=>none
def bi_ (fs:List (Nat×TypeId)):List (AV κ Ty)→List (Nat×AV κ Ty)→Option (List (AV κ Ty))
  | cs,[]=>some cs
  | cs,(i,v)::ps=>match fs[i]? with
    | none=>none
    | some (d,t)=>match cellsOf v,T t with
      | some ns,some ti=>(match Nat.beq ns.length ti.size with
        | true=>(match Nat.ble (d+ns.length) cs.length with | true=>bi_ fs (dD cs d ns) ps | false=>none)
        | false=>none)
      | _,_=>none
def dm_ (objs:aH κ Ty) (id:Nat) (k v:κ) (es:List (Ty k×Ty v)) (p:Nat×Ty v) (K:AV κ Ty→aH κ Ty→Option R):Option R:=
  match C.enc v p.2 with
  | [.lit u]=>K (.lit u) objs
  | [.inl _ s xs]=>K (.own objs.length) (objs.set id (.mp k v es (some (p.1,some objs.length)))++[.sl s xs])
  | _=>none
def aU_ (objs:aH κ Ty) (shp:Shp κ) (m key:AV κ Ty) (K:Nat→(k v:κ)→List (Ty k×Ty v)→Ty k→Option R):Option R:=
  match shp,m with
  | .map _ _ k v, .mapv id=>(match objs[id]? with
    | some (.mp k' v' es none)=>(match C.same k k'&&C.same v v' with
      | true=>(match key with
        | .agg ks=>(match C.dec k' ks with
          | some x=>K id k' v' es x
          | none=>none)
        | _=>none)
      | false=>none)
    | _=>none)
  | _,_=>none
def UX:AV κ Ty→Nat | .mapv id=>id | _=>0
def qG (objs:aH κ Ty) (shp:Shp κ) (m key:AV κ Ty) (z:Value) (K:AV κ Ty→Option R):Option R:=
  aU_ C objs shp m key fun _ k v es x=>optK (cC (C.keq k x) es 0) (K (.lit z)) fun p=>match C.enc v p.2 with
    | [.lit u]=>K (.lit u)
    | _=>none
def jP (s:ByteArray):List (ByteArray×Int×Int)→Option (Int×Int)
  | []=>none
  | (t,p)::l=>match t.toList==s.toList with | true=>some p | false=>jP s l
def M8 (t:TypeId) (m key:AV κ Ty) (K:AV κ Ty→Option R):Option R:=
  match m with
  | .gl g=>(match C.gm t g with
    | some es=>(match key with
      | .lit v=>(match v with
        | .string s=>optK (jP s es) (K (.tup [.agg [.lit (.int .i64 0), .lit (.int .i64 0)], .lit (.bool false)])) fun p=>K (.tup [.agg [.lit (.int .i64 p.1), .lit (.int .i64 p.2)], .lit (.bool true)])
        | _=>none)
      | _=>none)
    | none=>none)
  | _=>none
def rV (objs:aH κ Ty) (shp:Shp κ) (m key:AV κ Ty) (s:κ) (K:AV κ Ty→aH κ Ty→Option R):Option R:=
  match zU C (UX m) objs with
  | objs=>aU_ C objs shp m key fun id k v es x=>optK (cC (C.keq k x) es 0) (K (.nil s) objs) fun p=>dm_ C objs id k v es p K
def oY (objs:aH κ Ty) (shp:Shp κ) (m key:AV κ Ty) (te:TI κ Ty) (K:AV κ Ty→aH κ Ty→Option R):Option R:=
  match zU C (UX m) objs with
  | objs=>aU_ C objs shp m key fun id k v es x=>optK (cC (C.keq k x) es 0)
    (match te.zero,C.dec v (te.zero.map (Q8 (C.bor v))) with
      | [z],some y=>K (.tup [z, .lit (.int .i64 es.length)]) (objs.set id (.mp k v (es++[(x,y)]) none))
      | _,_=>none)
    fun p=>dm_ C objs id k v es p fun r objs=>K (.tup [r, .lit (.int .i64 (p.1:Nat))]) objs
def LZ (objs:aH κ Ty) (v:κ) (x:AV κ Ty) (K:Ty v→aH κ Ty→Option R):Option R:=
  match x with
  | .lit u=>(match C.dec v [.lit u] with | some y=>K y objs | none=>none)
  | .own j=>(match mX objs j with
    | some ⟨s,xs⟩=>(match C.dec v [.inl (C.bor v) s xs] with | some y=>K y (objs.set j .dead) | none=>none)
    | none=>none)
  | _=>none
def iI (objs:aH κ Ty) (shp:Shp κ) (m stamp x:AV κ Ty) (K:aH κ Ty→Option R):Option R:=
  match shp,m,stamp with
  | .map _ _ k v, .mapv id, .lit (.int _ n)=>(match objs[id]? with
    | some (.mp k' v' es h)=>(match C.same k k'&&C.same v v' with
      | true=>(match h with
        | none=>(idx es n).bind fun e=>LZ C objs v' x fun y objs=>K (objs.set id (.mp k' v' (es.set n.toNat (e.1,y)) none))
        | some (i,_)=>(match Nat.beq i n.toNat with
          | true=>(idx es n).bind fun e=>LZ C objs v' x fun y objs=>K (objs.set id (.mp k' v' (es.set n.toNat (e.1,y)) none))
          | false=>none))
      | false=>none)
    | _=>none)
  | _,_,_=>none
def G0 (C:Cod κ Ty) (t:κ) (objs:aH κ Ty) (n:Nat):List (Nat×AV κ Ty)→(List (Ty t)→aH κ Ty→Option R)→Option R
  | [],K=>K [] objs
  | (i,v)::ps,K=>match Nat.beq i n with
    | false=>none
    | true=>match cellsOf v with
      | none=>none
      | some ns=>match Nat.beq ns.length (C.sz t) with
        | false=>none
        | true=>jK C (C.bor t) objs ns fun ns objs=>match C.dec t ns with
          | some y=>G0 C t objs (n+1) ps fun ys o=>K (y::ys) o
          | none=>none
def ay_ (C:Cod κ Ty) (t:κ):Nat→List (Nat×AV κ Ty)→Option (List (Ty t))
  | _,[]=>some []
  | n,(i,v)::ps=>match Nat.beq i n&&Nat.beq 1 (C.sz t) with
    | false=>none
    | true=>match v with
      | .lit u=>(match C.dec t [.lit u] with
        | some y=>(match ay_ C t (n+1) ps with | some ys=>some (y::ys) | none=>none)
        | none=>none)
      | _=>none
def fI_:Value→Bool
  | .int .. =>true
  | .string .. =>true
  | _=>false
def D7:List (Nat×Operand)→Bool
  | []=>true
  | (_,x)::ps=>match x with
    | .const v=>(match fI_ v with | true=>D7 ps | false=>false)
    | _=>false
def C4 (objs:aH κ Ty) (shp:Shp κ) (x:AV κ Ty) (lo hi:Option Int) (K:AV κ Ty→Option R):Option R:=
  match shp with
  | .str=>(match x with
    | .lit (.string s)=>(wnd s.size (lo.getD 0) (hi.getD s.size)).bind fun p=>K (.lit (.string (s.extract p.1 p.2)))
    | _=>none)
  | .slice _ s=>(match x with
    | .own id=>(match mX objs id with | some ⟨t,xs⟩=>(match C.same s t with | true=>(wnd xs.length (lo.getD 0) (hi.getD xs.length)).bind fun p=>K (.sub id p.1 p.2) | false=>none) | none=>none)
    | .inl b t xs=>(match C.same s t with | true=>(wnd xs.length (lo.getD 0) (hi.getD xs.length)).bind fun p=>K (.inl b t (iA xs p.1 p.2)) | false=>none)
    | .nil t=>(wnd 0 (lo.getD 0) (hi.getD 0)).bind fun _=>K (.nil t)
    | _=>none)
  | .arr n _ s=>(match x with
    | .eref id 0 0=>(match mX objs id with | some ⟨t,xs⟩=>(match C.same s t with | true=>(if xs.length=n then wnd n (lo.getD 0) (hi.getD n) else none).bind fun p=>K (.sub id p.1 p.2) | false=>none) | none=>none)
    | _=>none)
  | _=>none
def uI (objs:aH κ Ty) (shp:Shp κ) (x:AV κ Ty) (h m:Int) (K:AV κ Ty→Option R):Option R:=
  match shp with
  | .slice _ s=>(match x with
    | .own id=>(match mX objs id with
      | some ⟨t,xs⟩=>(match C.same s t with | true=>(if h=m then wnd xs.length 0 h else none).bind fun p=>K (.sub id p.1 p.2) | false=>none)
      | none=>none)
    | _=>none)
  | _=>none
def TH (objs:aH κ Ty) (s1:κ) (dst src:AV κ Ty) (K:AV κ Ty→aH κ Ty→Option R):Option R:=
  match tO objs src with
  | none=>none
  | some ⟨s,ys⟩=>match dst with
    | .own id=>(match mX objs id with
      | some ⟨t,xs⟩=>(match C.same s1 t with
        | true=>(C.cast s t ys).bind fun ys=>K (.lit (.int .i64 (min ys.length xs.length:Nat))) (objs.set id (.sl t (cpy xs 0 xs.length ys)))
        | false=>none)
      | none=>none)
    | .sub id lo hi=>(match mX objs id with
      | some ⟨t,xs⟩=>(match C.same s1 t with
        | true=>(C.cast s t ys).bind fun ys=>K (.lit (.int .i64 (min ys.length (hi-lo):Nat))) (objs.set id (.sl t (cpy xs lo hi ys)))
        | false=>none)
      | none=>none)
    | _=>none
def wP (objs:aH κ Ty) (s1:κ) (base src:AV κ Ty) (K:AV κ Ty→aH κ Ty→Option R):Option R:=
  match tO objs src with
  | none=>none
  | some ⟨s,ys⟩=>(C.cast s s1 ys).bind fun ys=>match base with
    | .nil _=>(app (C.by' s1) [] ys).bind fun zs=>(match C.xcl s1&&(match src with | .inl .. =>true | _=>false) with
      | true=>K (.rwv objs.length) (objs++[.rp s1 zs 0])
      | false=>K (.own objs.length) (objs++[.sl s1 zs]))
    | .own id=>(match mX objs id with
      | some ⟨t,xs⟩=>(C.cast t s1 xs).bind fun xs=>(app (C.by' s1) xs ys).bind fun zs=>K (.own objs.length) ((objs.set id .dead)++[.sl s1 zs])
      | none=>none)
    | .sub id lo hi=>(match mX objs id with
      | some ⟨t,xs⟩=>(C.cast t s1 xs).bind fun xs=>(app (C.by' s1) (iA xs lo hi) ys).bind fun zs=>K (.own objs.length) ((objs.set id .dead)++[.sl s1 zs])
      | none=>none)
    | _=>none
def sT (objs:aH κ Ty) (s1:κ) (base src:AV κ Ty) (K:AV κ Ty→aH κ Ty→Option R):Option R:=
  match src with
  | .lit v=>(match v with
    | .string s=>(C.ofb s1 s).bind fun ys=>(match base with
      | .own id=>(match mX objs id with
        | some ⟨t,xs⟩=>(C.cast t s1 xs).bind fun xs=>(app (C.by' s1) xs ys).bind fun zs=>K (.own objs.length) ((objs.set id .dead)++[.sl s1 zs])
        | none=>none)
      | _=>none)
    | _=>none)
  | _=>none
def disj:List Nat→List Nat→Bool
  | [],_=>true
  | i::l,m=>match rR i m with | true=>false | false=>disj l m
def mV:aH κ Ty→List (AV κ Ty)→List (AV κ Ty)×aH κ Ty
  | objs,[]=>([],objs)
  | objs,c::cs=>match c with
    | .own id=>(match mX objs id with
      | some ⟨t,xs⟩=>(match mV (objs.set id .dead) cs with | (vs,o)=>(.inl true t xs::vs,o))
      | none=>(match mV objs cs with | (vs,o)=>(c::vs,o)))
    | .rwv id=>(match objs[id]? with
      | some (.rw t xs _ none)=>(match C.dn t xs with
        | some ⟨t',ys⟩=>(match mV (objs.set id .dead) cs with | (vs,o)=>(.inl true t' ys::vs,o))
        | none=>(match mV objs cs with | (vs,o)=>(c::vs,o)))
      | _=>(match mV objs cs with | (vs,o)=>(c::vs,o)))
    | _=>(match mV objs cs with | (vs,o)=>(c::vs,o))
def LR (objs:aH κ Ty):AV κ Ty→AV κ Ty×aH κ Ty
  | .agg cs=>(match mV C objs cs with | (vs,o)=>(.agg vs,o))
  | v=>(match mV C objs [v] with | ([v],o)=>(v,o) | _=>(v,objs))
def pU:aH κ Ty→List (AV κ Ty)→List G7→List (AV κ Ty)×aH κ Ty
  | objs,x::xs,m::ms=>match m,x with
    | .mv, .xr id g i j t ys=>(match objs[id]? with
      | some (.rw s rows g' none)=>(match Nat.beq g g' with
        | true=>(match pU (objs.set id (.rw s rows g' (some (i,j,objs.length)))++[.sl t ys]) xs ms with | (vs,o)=>(.own objs.length::vs,o))
        | false=>(match pU objs xs ms with | (vs,o)=>(x::vs,o)))
      | _=>(match pU objs xs ms with | (vs,o)=>(x::vs,o)))
    | .gv,x=>(match LR C objs x with | (x,objs)=>(match pU objs xs ms with | (vs,o)=>(x::vs,o)))
    | _,_=>(match pU objs xs ms with | (vs,o)=>(x::vs,o))
  | objs,xs,_=>(xs,objs)
def R6 (m id:Nat) (objs:aH κ Ty) (K:aH κ Ty→Option R):Option R:=
  match objs[id]? with
  | some (.rw s rows g (some (i,j,n)))=>(match mX objs n with
    | some ⟨t,zs⟩=>(match Nat.beq id n || !(Nat.blt j (C.sz s)&&Nat.ble m n) with
      | true=>none
      | false=>(rows[i]?).bind fun x=>(match C.dec s (dD (C.enc s x) j [.inl true t zs]) with
        | some y=>K ((objs.set n .dead).set id (.rw s (rows.set i y) (g+1) none))
        | none=>none))
    | none=>none)
  | _=>K objs
def xQ (m:Nat):List Nat→aH κ Ty→(aH κ Ty→Option R)→Option R
  | [],o,K=>K o
  | n::l,o,K=>R6 C m n o fun o=>xQ m l o K
def z6:List (AV κ Ty)→List G7→List Nat
  | x::xs,m::ms=>(match m,x with | .mv, .xr id _ _ _ _ _=>id::z6 xs ms | .gv,x=>cU x++z6 xs ms | _,_=>z6 xs ms)
  | _,_=>[]
def xJ (n:Nat) (l:List Nat) (j:Nat):Option Nat:=match l[j]? with | some i=>some i | none=>some (n+(j-l.length))
def reG (old:Option (AObj κ Ty)) (o:AObj κ Ty):AObj κ Ty:=
  match o with
  | .rw t xs g h=>(match old with | some (.rw _ _ g' _)=> .rw t xs (g'+1) h | _=> .rw t xs g h)
  | o=>o
def yO (g:Nat→Option Nat) (objs:aH κ Ty):List Nat→aH κ Ty→aH κ Ty
  | i::l,o::os=>yO g (objs.set i (reG objs[i]? (yV g o))) l os
  | _,_=>objs
def JB (objs:aH κ Ty) (S:bU κ Ty) (bs:List Nat) (args:List (AV κ Ty)) (K:AV κ Ty→aH κ Ty→Option R):Option R:=
  let l:=yQ objs (E3 [] (args.flatMap cU))
  match disj bs l with
  | false=>none
  | true=>(S.run (args.map (HW (zH l · 0))) (l.map fun i=>match objs[i]? with | some o=>yV (zH l · 0) o | none=> .dead)).bind fun r=>
    match S.ret r with
    | (v,o')=>K (HW (xJ objs.length l) v) (yO (xJ objs.length l) objs l o'++(o'.drop l.length).map (yV (xJ objs.length l)))
def jQ (env:Env κ Ty):List Operand→List TypeId→List (AV κ Ty)
  | x::xs,t::ts=>iV T env t x::jQ env xs ts
  | _,_=>[]
def mW (objs:aH κ Ty):List (AV κ Ty)→List G7→List (AV κ Ty)
  | x::xs,m::ms=>A6 C objs m x::mW objs xs ms
  | x::xs,[]=>A6 C objs .bo x::mW objs xs []
  | [],_=>[]
def au_:AV κ Ty→List Nat
  | .own id=>[id]
  | .sub id _ _=>[id]
  | .rwv id=>[id]
  | .xr id _ _ _ _ _=>[id]
  | _=>[]
def f4_ (m:G7) (v:AV κ Ty):List Nat:=
  match m with
  | .bo=>(match v with | .agg cs=>cs.flatMap au_ | v=>au_ v)
  | .bu=>(match v with | .agg cs=>cs.flatMap au_ | v=>au_ v)
  | _=>[]
def cM_:List (AV κ Ty)→List G7→List Nat
  | x::xs,m::ms=>f4_ m x++cM_ xs ms
  | x::xs,[]=>f4_ .bo x++cM_ xs []
  | [],_=>[]
def kX (env:Env κ Ty) (ty:Nat→TypeId):List (Nat×Operand)→List (Nat×AV κ Ty)
  | []=>[]
  | (i,x)::ps=>(i,iV T env (ty i) x)::kX env ty ps
def aop (Γ:FuncId→Option (bU κ Ty)) (o:Oper) (env:Env κ Ty) (objs:aH κ Ty) (K:AV κ Ty→aH κ Ty→Option R):Option R:=
  match o.op with
  | .move x=>K (iV T env o.type x) objs
  | .assign x=>K (iV T env o.type x) objs
  | .pick c a b=>(match iV T env 0 c with
    | .lit (.bool t)=>ifB t fun t=>K (match t with | true=>iV T env o.type a | false=>iV T env o.type b) objs
    | _=>none)
  | .alloc t=>(match T t with
    | some ti=>(match ti.shp with
      | .arr n e s=>(match Nat.ble n 2 with
        | true=>(match bsh ti.zero with | true=>none | false=>K (.ref objs.length 0) (objs++[.box ti.zero]))
        | false=>(match T e,Nat.ble 1 n with
        | some te,true=>(match C.dec s te.zero with
          | some z=>K (.eref objs.length 0 0) (objs++[.sl s (List.replicate n z)])
          | none=>none)
        | _,_=>none))
      | _=>(match bsh ti.zero with
        | true=>(match Nat.beq t C.bt&&gI_ ti.zero with | true=>K (.ref objs.length 0) (objs++[.box ti.zero]) | false=>none)
        | false=>K (.ref objs.length 0) (objs++[.box ti.zero])))
    | none=>none)
  | .box t x=>(match cellsOf (iV T env t x) with
    | some cs=>(match bsh cs with | true=>none | false=>K (.ref objs.length 0) (objs++[.box cs]))
    | none=>none)
  | .build t ps=>(match T t with
    | some ti=>(match ti.shp with
      | .struct fs=>(match bi_ T fs ti.zero (kX T env (fun i=>match fs[i]? with | some p=>p.2 | none=>0) ps.toList) with
        | some cs=>K (.agg cs) objs
        | none=>none)
      | _=>none)
    | none=>none)
  | .buildSlice t n ps=>(match T t with
    | some ti=>(match ti.shp with
      | .slice e s=>(match Nat.beq ps.toList.length n&&Nat.ble (n*C.sz s) 16777216 with
        | true=>match ps.toList with
          | []=>K (.nil s) objs
          | _=>(match D7 ps.toList with
            | true=>(match ay_ C s 0 (kX T env (fun _=>e) ps.toList) with | some ys=>K (.inl (C.bor s) s ys) objs | none=>none)
            | false=>G0 C s objs 0 (kX T env (fun _=>e) ps.toList) fun ys objs=>K (.own objs.length) (objs++[.sl s ys]))
        | false=>none)
      | _=>none)
    | none=>none)
  | .load t a=>BQ C T objs t (iV T env 0 a) fun v=>K v objs
  | .store t a x=>(match T t with
    | some ti=>FR C objs ti (iV T env 0 a) (iV T env t x) fun objs=>K .undef objs
    | none=>none)
  | .nilCheck x=>(match nY objs (iV T env o.type x) with | true=>K (iV T env o.type x) objs | false=>none)
  | .binOp op t x y _=>(match T t with
    | some ti=>(match ti.agg with
      | true=>(match aeq T 8 t (iV T env t x) (iV T env t y) with
        | some b=>(match op with
          | .eql=>K (.lit (.bool b)) objs
          | .neq=>K (.lit (.bool (!b))) objs
          | _=>none)
        | none=>none)
      | false=>fc_ ti op (iV T env t x) (iV T env t y) fun v=>K v objs)
    | none=>none)
  | .unOp op _ x=>(match op with
    | .not=>(match iV T env o.type x with | .lit (.bool b)=>K (.lit (.bool (!b))) objs | _=>none)
    | _=>none)
  | .convert s d x=>(match T s,T d with
    | some ti,some td=>(match td.shp,iV T env o.type x with
      | .int k, .lit (.int _ n)=>(match ti.shp with | .int _=>K (.lit (.int k (k.wrap n))) objs | _=>none)
      | .str,v=>(match ti.shp with
        | .slice e s=>(match T e,tO objs v with
          | some te,some ⟨t,xs⟩=>(match te.shp with
            | .int k=>(match k with
              | .u8=>(match C.bytes t xs with | some bs=>K (.lit (.string (mD bs))) objs | none=>none)
              | _=>none)
            | _=>none)
          | _,_=>none)
        | _=>none)
      | .slice e s', .lit (.string b)=>(match ti.shp,T e with
        | .str,some te=>(match te.shp with
          | .int k=>(match k with
            | .u8=>(match C.ofb s' b with | some ys=>K (.own objs.length) (objs++[.sl s' ys]) | none=>none)
            | _=>none)
          | _=>none)
        | _,_=>none)
      | _,_=>none)
    | _,_=>none)
  | .makeSlice t n c=>(match T t with
    | some ti=>(match ti.shp with
      | .slice e s=>(match T e with
        | some te=>(match iV T env 0 n,iV T env 0 c with
          | .lit (.int _ a), .lit (.int _ b)=>(if a=b then room (C.by' s) a else none).bind fun m=>(match C.dec s (te.zero.map (Q8 (C.bor s))) with
            | some z=>(match te.zero.all (fun v=>match v with | .nil t=>C.bor s || !(C.bor t) | _=>true) with
              | true=>(match C.xcl s&&L9 te.zero with
                | true=>K (.rwv objs.length) (objs++[.rw s (List.replicate m z) 0 none])
                | false=>K (.own objs.length) (objs++[.sl s (List.replicate m z)]))
              | false=>none)
            | none=>none)
          | _,_=>none)
        | none=>none)
      | _=>none)
    | none=>none)
  | .makeMap t r=>(match r with
    | none=>(match T t with
      | some ti=>(match ti.shp with
        | .map _ _ k v=>K (.mapv objs.length) (objs++[.mp k v [] none])
        | _=>none)
      | none=>none)
    | some _=>none)
  | .lookup t m x ok=>(match ok with
    | true=>M8 C t (iV T env 0 m) (iV T env 0 x) fun v=>K v objs
    | false=>(match T t with
      | some ti=>(match ti.shp with
        | .map kt et _ _=>(match T et with
          | some te=>(match te.zero with
            | [.lit z]=>qG C objs ti.shp (iV T env 0 m) (iV T env kt x) z fun v=>K v objs
            | [.nil s]=>rV C objs ti.shp (iV T env 0 m) (iV T env kt x) s K
            | _=>none)
          | none=>none)
        | _=>none)
      | none=>none))
  | .mapEntry t m x=>(match T t with
    | some ti=>(match ti.shp with
      | .map kt et _ _=>(match T et with
        | some te=>oY C objs ti.shp (iV T env 0 m) (iV T env kt x) te K
        | none=>none)
      | _=>none)
    | none=>none)
  | .entryStore t m n x=>(match T t with
    | some ti=>iI C objs ti.shp (iV T env 0 m) (iV T env 0 n) (iV T env 0 x) fun objs=>K .undef objs
    | none=>none)
  | .slice t x lo hi mx=>(match T t with
    | some ti=>(match mx,lo,hi with
      | none,lo,hi=>(match (match lo with | none=>some none | some l=>(match iV T env 0 l with | .lit (.int _ n)=>some (some n) | _=>none)),
            (match hi with | none=>some none | some h=>(match iV T env 0 h with | .lit (.int _ n)=>some (some n) | _=>none)) with
        | some lo,some hi=>C4 C objs ti.shp (iV T env t x) lo hi fun v=>K v objs
        | _,_=>none)
      | some m,none,some h=>(match iV T env 0 m,iV T env 0 h with
        | .lit (.int _ m), .lit (.int _ h)=>uI C objs ti.shp (iV T env t x) h m fun v=>K v objs
        | _,_=>none)
      | _,_,_=>none)
    | none=>none)
  | .fieldAddr s x f=>(match T s with
    | some ti=>(match ti.shp with
      | .struct fs=>(match nY objs (iV T env 0 x),XL fs f (iV T env 0 x) with | true,some v=>K v objs | _,_=>none)
      | _=>none)
    | none=>none)
  | .field s x f=>(match T s,iV T env s x with
    | some ti, .agg cs=>(match ti.shp with
      | .struct fs=>(match fs[f]? with
        | some (d,t)=>(match T t with | some tf=>(match GH tf cs d with | some v=>K v objs | none=>none) | none=>none)
        | none=>none)
      | _=>none)
    | _,_=>none)
  | .indexAddr t x i=>(match T t with
    | some ti=>kF C objs ti.shp (iV T env t x) (iV T env 0 i) fun v=>K v objs
    | none=>none)
  | .index t x i=>(match T t with
    | some ti=>(match ti.shp with
      | .str=>(match iV T env t x,iV T env 0 i with
        | .lit (.string s), .lit (.int _ i)=>(zN s i).bind fun c=>K (.lit (.int .u8 c.toNat)) objs
        | _,_=>none)
      | _=>none)
    | none=>none)
  | .extract t i=>(match iV T env 0 t with
    | .tup vs=>(match vs[i]? with | some v=>K v objs | none=>none)
    | _=>none)
  | .call c=>(match c.callee with
    | .builtin b=>(match b with
      | .len=>(match c.args.toList,c.argTypes.toList with
        | [x],[t]=>(match T t with
          | some ti=>(match lenOf objs ti.shp (iV T env t x) with | some n=>K (.lit (.int .i64 n)) objs | none=>none)
          | none=>none)
        | _,_=>none)
      | .append=>(match c.args.toList,c.argTypes.toList with
        | [x,y],[t1,t2]=>(match T t1,T t2 with
          | some i1,some i2=>(match i1.shp,i2.shp with
            | .slice _ s1, .slice _ _=>wP C objs s1 (iV T env t1 x) (iV T env t2 y) K
            | .slice _ s1, .str=>sT C objs s1 (iV T env t1 x) (iV T env t2 y) K
            | _,_=>none)
          | _,_=>none)
        | _,_=>none)
      | .copy=>(match c.args.toList,c.argTypes.toList with
        | [x,y],[t1,t2]=>(match T t1 with
          | some i1=>(match i1.shp with
            | .slice _ s1=>TH C objs s1 (iV T env t1 x) (iV T env t2 y) K
            | _=>none)
          | none=>none)
        | _,_=>none)
      | _=>none)
    | .value (.func f)=>(match Nat.beq c.args.toList.length c.argTypes.toList.length,Γ f with
      | true,some S=>let n0:=objs.length;(match pU C objs (jQ T env c.args.toList c.argTypes.toList) S.modes with
        | (as,objs)=>JB objs S (cM_ as S.modes) (mW C objs as S.modes) fun v objs=>xQ C n0 (z6 (jQ T env c.args.toList c.argTypes.toList) S.modes) objs fun objs=>K v objs)
      | _,_=>none)
    | _=>none)
  | _=>none
inductive It where
  | code (c:Code)
  | inBlock (id:Nat)
  | inLoop (c:Code)
def eqB:Bool→Bool→Bool | true,true=>true | false,false=>true | _,_=>false
def put (o:Oper) (env:Env κ Ty) (v:AV κ Ty):Env κ Ty:=match o.dst with | some d=>(d,v)::env | none=>env
def yN (Γ:FuncId→Option (bU κ Ty)) (all:Array Oper) (o:Oper) (env:Env κ Ty) (objs:aH κ Ty) (K:Env κ Ty→aH κ Ty→Option R):Option R:=
  match o.guard with
  | none=>aop C T Γ o env objs fun v objs=>K (put o env v) objs
  | some (j,want)=>match ((all[j]?).bind (·.dst)) with
    | none=>none
    | some d=>match look env d with
      | .lit (.bool b)=>ifB b fun b'=>(match eqB b' want with
        | true=>aop C T Γ o ((d, .lit (.bool b'))::env) objs fun v objs=>K (put o ((d, .lit (.bool b'))::env) v) objs
        | false=>K (put o ((d, .lit (.bool b'))::env) .void) objs)
      | .void=>K (put o env .void) objs
      | _=>none
def gq_ (Γ:FuncId→Option (bU κ Ty)) (all:Array Oper):List Oper→Env κ Ty→aH κ Ty→(Env κ Ty→aH κ Ty→Option R)→Option R
  | [],env,objs,K=>K env objs
  | o::os,env,objs,K=>yN C T Γ all o env objs fun env objs=>gq_ Γ all os env objs K
def sA (id:Nat):List It→Option (List It)
  | []=>none
  | .inBlock j::l=>(match Nat.beq j id with | true=>some l | false=>sA id l)
  | .code _::l=>sA id l
  | .inLoop _::l=>sA id l
def gF_ (env:Env κ Ty) (x:Operand) (b:Bool):Env κ Ty:=match x with | .tmp d=>(d, .lit (.bool b))::env | _=>env
def V2:List (Nat×List Nat)→Nat→Option (List Nat)
  | [],_=>none
  | (j,l)::cs,i=>match Nat.beq j i with | true=>some l | false=>V2 cs i
structure BI where
  loud:Bool
  reads:List Nat
  writes:List Nat
def fG (env:Env κ Ty) (ty:TypeId) (x:Operand):List Nat:=cU (iV T env ty x)
def vN (objs:aH κ Ty) (l:List Nat):List Nat:=l++l.flatMap fun i=>match objs[i]? with | some o=>VG o | none=>[]
def PN:List (AV κ Ty)→List Nat
  | []=>[]
  | v::_=>cU v
def WB {α:Type}:List α→Bool | []=>true | _=>false
def bB (Γ:FuncId→Option (bU κ Ty)) (o:Oper) (env:Env κ Ty) (objs:aH κ Ty):BI:=
  match o.op with
  | .move _=>⟨false,[],[]⟩
  | .assign _=>⟨false,[],[]⟩
  | .pick .. =>⟨false,[],[]⟩
  | .nilCheck x=>⟨false,fG T env o.type x,[]⟩
  | .binOp .. =>⟨false,[],[]⟩
  | .unOp .. =>⟨false,[],[]⟩
  | .convert _ d x=>(match T d with
    | some td=>(match td.shp with | .slice .. =>⟨true,[],[]⟩ | _=>⟨false,fG T env o.type x,[]⟩)
    | none=>⟨true,[],[]⟩)
  | .fieldAddr _ x _=>⟨false,fG T env 0 x,[]⟩
  | .field .. =>⟨false,[],[]⟩
  | .index .. =>⟨false,[],[]⟩
  | .extract .. =>⟨false,[],[]⟩
  | .build .. =>⟨false,[],[]⟩
  | .load _ a=>⟨false,fG T env 0 a,[]⟩
  | .indexAddr t x _=>⟨false,fG T env t x,[]⟩
  | .slice t x .. =>⟨false,fG T env t x,[]⟩
  | .alloc _=>⟨true,[],[]⟩
  | .box .. =>⟨true,[],[]⟩
  | .makeSlice .. =>⟨true,[],[]⟩
  | .buildSlice _ _ ps=>match ps.toList with | []=>⟨false,[],[]⟩ | _=>match D7 ps.toList with | true=>⟨false,[],[]⟩ | false=>let l:=(kX T env (fun _=>0) ps.toList).flatMap fun p=>cU p.2;⟨true,l,l⟩
  | .store t a x=>let l:=fG T env 0 a++fG T env t x;⟨true,l,l⟩
  | .makeMap .. =>⟨true,[],[]⟩
  | .lookup t m _ ok=>(match ok with
    | true=>⟨false,[],[]⟩
    | false=>(match T t with
    | some ti=>(match ti.shp with
      | .map _ et _ _=>(match T et with
        | some te=>(match te.zero with
          | [.lit _]=>⟨false,fG T env 0 m,[]⟩
          | _=>let l:=vN objs (fG T env 0 m);⟨true,l,l⟩)
        | none=>⟨true,[],[]⟩)
      | _=>⟨true,[],[]⟩)
    | none=>⟨true,[],[]⟩))
  | .mapEntry _ m _=>let l:=vN objs (fG T env 0 m);⟨true,l,l⟩
  | .entryStore _ m _ x=>let l:=fG T env 0 m++fG T env 0 x;⟨true,l,l⟩
  | .call c=>let as:=jQ T env c.args.toList c.argTypes.toList
    match c.callee with
    | .builtin b=>(match b with
      | .len=>⟨false,as.flatMap cU,[]⟩
      | .append=>⟨true,as.flatMap cU,PN as⟩
      | _=>⟨true,as.flatMap cU,as.flatMap cU⟩)
    | .value x=>(match x with
      | .func f=>(match Γ f with
        | some S=>(match S.quiet&&WB ((mW C objs as S.modes).flatMap cU) with
          | true=>⟨false,as.flatMap cU,[]⟩
          | false=>(match pU C objs as S.modes with
            | (as1,objs1)=>let l:=yQ objs1 (E3 [] ((mW C objs1 as1 S.modes).flatMap cU));⟨true,as.flatMap cU++l.filter (fun i=>Nat.blt i objs.length),z6 as S.modes++l⟩))
        | none=>⟨true,[],[]⟩)
      | _=>⟨true,[],[]⟩)
    | _=>⟨true,[],[]⟩
  | _=>⟨true,[],[]⟩
def B4 (x y:BI):Bool:=
  match x.loud&&y.loud with
  | true=>false
  | false=>disj x.reads y.writes&&disj y.reads x.writes
def iC (o:Oper):List Nat:=(o.after.toList.filter fun e=>Region.binds .any e).map (·.on)
def QI:List Nat→List Nat
  | []=>[]
  | i::l=>match rR i l with | true=>QI l | false=>i::QI l
def QM (os:List Oper):List (List Nat):=os.foldl (fun acc o=>acc++[QI ((iC o).flatMap fun d=>d::acc.getD d [])]) []
def PP:List Nat→Nat→Bool
  | [],_=>true
  | i::l,n=>match Nat.blt i n with | true=>PP l n | false=>false
def dz_:List (Nat×Nat)→Nat→Nat→Bool
  | [],_,_=>false
  | (a,b)::l,j,i=>match Nat.beq j a&&Nat.beq i b with | true=>true | false=>dz_ l j i
def KQ (ex:List (Nat×Nat)) (i:Nat) (anc:List Nat) (f:BI):List (Nat×Oper×BI)→Bool
  | []=>true
  | (j,p,g)::l=>match dz_ ex j i || (rR j anc || B4 g f) with | true=>KQ ex i anc f l | false=>false
def dM_ (f:BI):Bool:=match f.loud with | true=>false | false=>WB f.writes
def FM (all:Array Oper) (x y:Oper):Bool:=
  match x.dst with
  | some d=>(match rR d (y.looksAt all) with
    | true=>false
    | false=>(match y.dst with
      | some e=>(match Nat.beq d e with | true=>false | false=> !(rR e (x.looksAt all)))
      | none=>true))
  | none=>(match y.dst with
    | some e=> !(rR e (x.looksAt all))
    | none=>true)
def XD (ex:List (Nat×Nat)) (all:Array Oper) (anc:List (List Nat)) (i:Nat) (o:Oper):List (Nat×Oper)→Bool
  | []=>true
  | (j,p)::l=>match dz_ ex i j || (rR i (anc.getD j []) || FM all o p) with | true=>XD ex all anc i o l | false=>false
def TU (ex:List (Nat×Nat)) (all:Array Oper) (anc:List (List Nat)):List (Nat×Oper)→Bool
  | []=>true
  | (i,o)::l=>match PP (iC o) i&&XD ex all anc i o l with | true=>TU ex all anc l | false=>false
def fH (Γ:FuncId→Option (bU κ Ty)) (all:Array Oper) (o:Oper) (env:Env κ Ty) (objs:aH κ Ty):BI:=
  match o.guard with
  | none=>bB C T Γ o env objs
  | some (j,want)=>match ((all[j]?).bind (·.dst)) with
    | none=>⟨true,[],[]⟩
    | some d=>match look env d with
      | .lit (.bool b)=>(match eqB b want with | true=>bB C T Γ o env objs | false=>⟨false,[],[]⟩)
      | .void=>⟨false,[],[]⟩
      | _=>⟨true,[],[]⟩
def gA_ (all:Array Oper) (o:Oper) (env:Env κ Ty) (K:Env κ Ty→Option R):Option R:=
  match o.guard with
  | none=>K env
  | some (j,_)=>match ((all[j]?).bind (·.dst)) with
    | none=>K env
    | some d=>match look env d with
      | .lit (.bool b)=>ifB b fun b'=>K ((d, .lit (.bool b'))::env)
      | _=>K env
def QD (ex:List (Nat×Nat)) (Γ:FuncId→Option (bU κ Ty)) (all:Array Oper) (anc:List (List Nat)):List (Nat×Oper)→List (Nat×Oper×BI)→List (Nat×Oper×BI)→Env κ Ty→aH κ Ty→(Env κ Ty→aH κ Ty→Option R)→Option R
  | [],_,_,env,objs,K=>K env objs
  | (i,o)::os,log,logN,env,objs,K=>gA_ all o env fun env=>match fH C T Γ all o env objs with
    | ⟨l,r,w⟩=>match dM_ ⟨l,r,w⟩ with
      | true=>(match PP r objs.length&&KQ ex i (anc.getD i []) ⟨l,r,w⟩ logN with
        | true=>yN C T Γ all o env objs fun env' objs'=>QD ex Γ all anc os ((i,o,⟨l,r,w⟩)::log) logN env' objs' K
        | false=>none)
      | false=>(match PP r objs.length&&KQ ex i (anc.getD i []) ⟨l,r,w⟩ log with
        | true=>yN C T Γ all o env objs fun env' objs'=>QD ex Γ all anc os ((i,o,⟨l,r,w⟩)::log) ((i,o,⟨l,r,w⟩)::logN) env' objs' K
        | false=>none)
def num:Nat→List Oper→List (Nat×Oper)
  | _,[]=>[]
  | i,o::os=>(i,o)::num (i+1) os
noncomputable def both (x y:Option R):Option R:=by classical exact if x=y then x else none
def gv_ (o:Oper):Bool:=match o.op with | .call c=>(match c.callee with | .builtin b=>(match b with | .append=>true | _=>false) | _=>false) | _=>false
def fZ_ (Γ:FuncId→Option (bU κ Ty)) (o:Oper):Bool:=match o.op with
  | .alloc _=>true
  | .box .. =>true
  | .makeSlice .. =>true
  | .makeMap .. =>true
  | .buildSlice _ _ ps=>(match ps.toList with | []=>false | _=> !(D7 ps.toList))
  | .call c=>(match c.callee with
    | .builtin b=>(match b with | .append=>true | _=>false)
    | .value x=>(match x with | .func f=>(match Γ f with | some S=> !S.quiet | none=>false) | _=>false)
    | _=>false)
  | _=>false
def fF_ (p:Oper→Bool) (anc:List (List Nat)) (a:Nat):List (Nat×Oper)→Option Nat
  | []=>none
  | (i,o)::os=>match p o&& !(rR a (anc.getD i [])) with | true=>some i | false=>fF_ p anc a os
def ck_ (p:Oper→Bool) (anc:List (List Nat)):List (Nat×Oper)→Option (Nat×Nat)
  | []=>none
  | (i,o)::os=>match p o with
    | true=>(match fF_ p anc i os with | some b=>some (i,b) | none=>ck_ p anc os)
    | false=>ck_ p anc os
def behind (anc:List (List Nat)) (a:Nat) (x:Nat×Oper):Bool:=Nat.beq x.1 a || rR a (anc.getD x.1 [])
def fY_ (anc:List (List Nat)) (l:List (Nat×Oper)) (a:Nat):List (Nat×Oper):=l.filter (fun x=> !(behind anc a x))++l.filter (behind anc a)
def hD_:List Nat→Bool
  | []=>true
  | a::l=>match l with | []=>true | b::_=>(match Nat.blt a b with | true=>hD_ l | false=>false)
def AR (anc:List (List Nat)) (l:List (Nat×Oper)) (τ:List Nat):List (Nat×Oper):=match hD_ τ with | true=>l | false=>τ.tail.foldl (fY_ anc) l
def oC:List Nat→List (Nat×Nat)
  | []=>[]
  | a::t=>t.map (fun b=>(a,b))++oC t
def aw_ (i:Nat):List Nat→List Nat
  | []=>[]
  | j::l=>match Nat.beq j i with | true=>l | false=>j::aw_ i l
def e3_ (p:Nat→Bool):List Nat→Bool
  | []=>false
  | i::l=>match p i with | true=>true | false=>e3_ p l
def FG (anc:List (List Nat)) (R:List Nat) (i:Nat):Bool:= !(e3_ (fun j=>rR j (anc.getD i [])) R)
def U6 (anc:List (List Nat)):Nat→List Nat→List (List Nat)
  | 0,_=>[[]]
  | n+1,R=>R.flatMap fun i=>match FG anc R i with | true=>(U6 anc n (aw_ i R)).map (i:: ·) | false=>[]
def live (anc:List (List Nat)):Nat→List Nat→Bool
  | 0,R=>WB R
  | n+1,R=>match e3_ (FG anc R) R with
    | true=>(match e3_ (fun i=>match FG anc R i with | true=> !(live anc n (aw_ i R)) | false=>false) R with | true=>false | false=>true)
    | false=>false
def c7_:List Nat→Bool
  | []=>true
  | i::l=>match rR i l with | true=>false | false=>c7_ l
def eM_ (p:Oper→Bool):List (Nat×Oper)→List Nat
  | []=>[]
  | (i,o)::l=>match p o with | true=>i::eM_ p l | false=>eM_ p l
def et_ (o:Oper):Bool:=match o.op with | .mapEntry .. =>true | _=>false
def ej_ (o:Oper):Bool:=match o.op with | .mapEntry .. =>true | .lookup .. =>true | _=>false
def fK_ (Γ:FuncId→Option (bU κ Ty)) (anc:List (List Nat)) (l:List (Nat×Oper)):List Nat:=
  match ck_ gv_ anc l with
  | some (a,b)=>[a,b]
  | none=>(match ck_ (fZ_ Γ) anc l with
    | some _=>eM_ (fZ_ Γ) l
    | none=>(match l.any (fun x=>et_ x.2) with
      | true=>(match ck_ ej_ anc l with | some (a,b)=>[a,b] | none=>[])
      | false=>[]))
noncomputable def XU:List (Option R)→Option R
  | []=>none
  | x::l=>match l with | []=>x | _::_=>both x (XU l)
def G6 (all:Array Oper) (anc:List (List Nat)) (l:List (Nat×Oper)):List (List Nat)→Bool
  | []=>true
  | τ::ts=>match TU (oC τ) all anc (AR anc l τ) with | true=>G6 all anc l ts | false=>false
def inN (n:Nat):List Nat→Bool
  | []=>true
  | i::l=>match Nat.blt i n with | true=>inN n l | false=>false
noncomputable def eu_ (Γ:FuncId→Option (bU κ Ty)) (all:Array Oper) (env:Env κ Ty) (objs:aH κ Ty) (K:Env κ Ty→aH κ Ty→Option R):Option R:=
  let anc:=QM all.toList
  let l:=num 0 all.toList
  let W:=fK_ Γ anc l
  let es:=U6 anc W.length W
  match live anc W.length W&&(c7_ W&&(inN l.length W&&G6 all anc l es)) with
  | true=>XU (es.map fun τ=>QD C T (oC τ) Γ all anc (AR anc l τ) [] [] env objs K)
  | false=>none
noncomputable def run (Γ:FuncId→Option (bU κ Ty)) (Λ:Nat→List (AV κ Ty)→aH κ Ty→Option R) (cuts:List (Nat×List Nat)) (m:Nat) (fin:Env κ Ty→aH κ Ty→Option R):
    Nat→Bool→List It→Env κ Ty→aH κ Ty→Option R
  | 0,_,_,_,_=>none
  | n+1,fresh,todo,env,objs=>match todo with
    | []=>fin env objs
    | .inBlock _::k=>run Γ Λ cuts m fin n fresh k env objs
    | .inLoop c::k=>run Γ Λ cuts m fin n fresh (.code c:: .inLoop c::k) env objs
    | .code c::k=>match c with
      | .skip=>run Γ Λ cuts m fin n fresh k env objs
      | .seq a b=>run Γ Λ cuts m fin n fresh (.code a:: .code b::k) env objs
      | .block id b=>run Γ Λ cuts m fin n fresh (.code b:: .inBlock id::k) env objs
      | .loop b=>run Γ Λ cuts m fin n fresh (.code b:: .inLoop b::k) env objs
      | .exit id=>(match sA id k with | some k'=>run Γ Λ cuts m fin n fresh k' env objs | none=>none)
      | .ret=>fin env objs
      | .cond q a b=>(match iV T env 0 q with
        | .lit (.bool t)=>ifB t fun t=>(match t with
          | true=>run Γ Λ cuts m fin n fresh (.code a::k) (gF_ env q true) objs
          | false=>run Γ Λ cuts m fin n fresh (.code b::k) (gF_ env q false) objs)
        | _=>none)
      | .region id ops draw=>(match (match fresh with | true=>none | false=>V2 cuts id) with
        | some slots=>(match AT C m (slots.map (look env)) objs with | (vs,objs)=>Λ id vs objs)
        | none=>(match draw with
          | true=>eu_ C T Γ ops env objs fun env objs=>run Γ Λ cuts m fin n false k env objs
          | false=>gq_ C T Γ ops ops.toList env objs fun env objs=>run Γ Λ cuts m fin n false k env objs))
      | _=>none
def dX (id:Nat):Code→List It→Option (List It)
  | .seq a b,k=>(match dX id a (.code b::k) with | some t=>some t | none=>dX id b k)
  | .block j c,k=>dX id c (.inBlock j::k)
  | .loop c,k=>dX id c (.inLoop c::k)
  | .cond _ a b,k=>(match dX id a k with | some t=>some t | none=>dX id b k)
  | .region i ops d,k=>(match Nat.beq i id with | true=>some (.code (.region i ops d)::k) | false=>none)
  | _,_=>none
def ec_ (objs:aH κ Ty):List (AV κ Ty)→(List (AV κ Ty)→aH κ Ty→Option R)→Option R
  | [],K=>K [] objs
  | v::vs,K=>match v with
    | .agg cs=>jK C false objs cs fun cs' o=>ec_ o vs fun vs' o'=>K (.agg cs'::vs') o'
    | v=>jK C false objs [v] fun cs' o=>ec_ o vs fun vs' o'=>K (cs'++vs') o'
def b2_:AV κ Ty→Bool | .inl b _ _=> !b | .cadr .. =>false | .rwp .. =>false | .xr .. =>false | _=>true
def vZ:AV κ Ty→Bool | .agg cs=>cs.all b2_ | .tup _=>false | v=>b2_ v
def IE (C:Cod κ Ty):AObj κ Ty→Bool | .sl t _=> !(C.bor t) | .box cs=>cs.all b2_ | .mp .. =>false | .rw _ _ _ h=>(match h with | none=>true | some _=>false) | .rp .. =>false | .dead=>true
def d5_ (id:Nat) (objs:aH κ Ty) (K:aH κ Ty→Option R):Option R:=
  match objs[id]? with
  | some (.rp t xs n)=>(if n=xs.length then some () else none).bind fun _=>K (objs.set id (.rw t xs 0 none))
  | _=>K objs
def eo_:Nat→aH κ Ty→(aH κ Ty→Option R)→Option R
  | 0,o,K=>K o
  | n+1,o,K=>d5_ n o fun o=>eo_ n o K
def one:List (AV κ Ty)→AV κ Ty | [v]=>v | vs=> .tup vs
def PE (m:Nat) (dec:AV κ Ty→aH κ Ty→Option R) (vs:List (AV κ Ty)) (objs:aH κ Ty):Option R:=
  match AT C m vs objs with
  | (vs,objs)=>eo_ objs.length objs fun objs=>match vs.all vZ&&objs.all (IE C) with
    | true=>dec (one vs) objs
    | false=>none
def fi_ (env:Env κ Ty) (objs:aH κ Ty):List ResultVar→(List (AV κ Ty)→Option R)→Option R
  | [],K=>K []
  | r::rs,K=>match r with
    | .tmp t=>fi_ env objs rs fun vs=>K (look env t::vs)
    | .cell a t=>match T t with
      | some ti=>GC C objs ti (look env a) fun v=>fi_ env objs rs fun vs=>K (v::vs)
      | none=>none
def EY (frz:Bool) (m:Nat) (rs:List ResultVar) (dec:AV κ Ty→aH κ Ty→Option R) (env:Env κ Ty) (objs:aH κ Ty):Option R:=
  fi_ C T env objs rs fun vs=>match frz with
  | true=>ec_ C objs vs fun vs objs=>PE C m dec vs objs
  | false=>PE C m dec vs objs
def xP:List Nat→List (AV κ Ty)→Env κ Ty
  | i::is,v::vs=>(i,v)::xP is vs
  | _,_=>[]
end
end Km
namespace Km
open Go
variable {κ:Type} {Ty:κ→Type} {R:Type}
structure Loc where
  block:Nat
  off:Nat
  cap:Nat
  sub:Nat→Nat×Nat×Nat
abbrev noSub:Nat→Nat×Nat×Nat:=fun _=>(0,0,0)
def bD:Value→Bool | .agg _=>false | .tuple _=>false | _=>true
abbrev at' (b o:Nat):Addr:=⟨b,o,none⟩
def xI (L:Loc) (b:Nat):Prop:=(L.cap≠0∧L.block=b)∨∃q,(L.sub q).2.2≠0∧(L.sub q).1=b
def aG (ρ:Nat→Loc) (objs:aH κ Ty) (id b:Nat):Prop:=
  match objs[id]? with
  | some (.box _)=>(ρ id).block=b
  | some (.sl _ _)=>(ρ id).cap≠0∧(ρ id).block=b
  | some (.mp _ _ es h)=>(ρ id).block=b∨∃i,i<es.length∧(∀o,h≠some (i,o))∧((ρ id).sub i).2.2≠0∧((ρ id).sub i).1=b
  | some (.rw ..)=>xI (ρ id) b
  | some (.rp ..)=>xI (ρ id) b
  | _=>False
def bJ (ρ:Nat→Loc) (objs:aH κ Ty) (b:Nat):Prop:=∃id,aG ρ objs id b
def Xs (Mut:Nat→Prop) (ρ:Nat→Loc) (objs:aH κ Ty) (b:Bool) (k:Nat):Prop:=bJ ρ objs k∨(b=false∧Mut k)
inductive VRel (C:Cod κ Ty) (w:World) (Mut:Nat→Prop) (ρ:Nat→Loc) (objs:aH κ Ty):AV κ Ty→Value→Prop
  | lit {v:Value} (h:bD v=true):VRel C w Mut ρ objs (.lit v) v
  | nil {t:κ} {A:Option Addr}:VRel C w Mut ρ objs (.nil t) (.slice A 0 0)
  | inl {b:Bool} {t:κ} {xs:List (Ty t)} {A:Option Addr} {c:Nat} {blk off:Nat} {vals:Nat→Nat→Value} (hb:b=false→C.bor t=false) (hc:xs.length≤c)
      (hA:xs≠[]→A=some (at' blk off)∧blk<w.heap.size∧¬Xs Mut ρ objs b blk)
      (hcell:∀i x j cl,xs[i]? =some x→(C.enc t x)[j]? =some cl→w.cell? (at' blk (off+i*C.sz t+j))=some (vals i j))
      (hrel:∀i x j cl,xs[i]? =some x→(C.enc t x)[j]? =some cl→VRel C w Mut ρ objs cl (vals i j)):
      VRel C w Mut ρ objs (.inl b t xs) (.slice A xs.length c)
  | cadr {b:Bool} {cs:List (AV κ Ty)} {off blk base:Nat} {vals:Nat→Value} (hX:¬Xs Mut ρ objs b blk) (hlt:blk<w.heap.size)
      (hcell:∀j cl,cs[j]? =some cl→w.cell? (at' blk (base+j))=some (vals j)) (hisc:∀j cl,cs[j]? =some cl→bD (vals j)=true)
      (hrel:∀j cl,cs[j]? =some cl→VRel C w Mut ρ objs cl (vals j)):
      VRel C w Mut ρ objs (.cadr b cs off) (.pointer (some (at' blk (base+off))))
  | ref {id off:Nat} {cs:List (AV κ Ty)} (h:objs[id]? =some (.box cs)):VRel C w Mut ρ objs (.ref id off) (.pointer (some (at' (ρ id).block ((ρ id).off+off))))
  | refd {id off:Nat} {u:Value} (hc:bD u=true) (hin:id<objs.length) (h:m9 objs id=none):VRel C w Mut ρ objs (.ref id off) u
  | eref {id i off:Nat} {t:κ} {xs:List (Ty t)} (h:objs[id]? =some (.sl t xs)) (hi:i<xs.length):VRel C w Mut ρ objs (.eref id i off) (.pointer (some (at' (ρ id).block ((ρ id).off+i*C.sz t+off))))
  | erefd {id i off:Nat} {u:Value} (hc:bD u=true) (hin:id<objs.length) (h:mX objs id=none):VRel C w Mut ρ objs (.eref id i off) u
  | own {id:Nat} {t:κ} {xs:List (Ty t)} {A:Option Addr} (h:objs[id]? =some (.sl t xs)) (hA:(ρ id).cap≠0→A=some (at' (ρ id).block (ρ id).off)):
      VRel C w Mut ρ objs (.own id) (.slice A xs.length (ρ id).cap)
  | ownd {id:Nat} {u:Value} (hc:bD u=true) (hin:id<objs.length) (h:mX objs id=none):VRel C w Mut ρ objs (.own id) u
  | sub {id lo hi c:Nat} {t:κ} {xs:List (Ty t)} {A:Option Addr} (h:objs[id]? =some (.sl t xs)) (hlo:lo≤hi) (hhi:hi≤xs.length) (hc:hi-lo≤c) (hcap:lo+c≤(ρ id).cap)
      (hA:c≠0→A=some (at' (ρ id).block ((ρ id).off+lo*C.sz t))):
      VRel C w Mut ρ objs (.sub id lo hi) (.slice A (hi-lo) c)
  | subd {id lo hi:Nat} {u:Value} (hc:bD u=true) (hin:id<objs.length) (h:mX objs id=none):VRel C w Mut ρ objs (.sub id lo hi) u
  | mapv {id:Nat} {k v:κ} {es:List (Ty k×Ty v)} {h:Option (Nat×Option Nat)} (h:objs[id]? =some (.mp k v es h)):VRel C w Mut ρ objs (.mapv id) (.map (some (ρ id).block))
  | mapd {id:Nat} {u:Value} (hc:bD u=true) (hin:id<objs.length) (h:NQ objs id=false):VRel C w Mut ρ objs (.mapv id) u
  | rwv {id:Nat} {t:κ} {xs:List (Ty t)} {A:Option Addr} (h:kY objs id=some ⟨t,xs⟩) (hA:(ρ id).cap≠0→A=some (at' (ρ id).block (ρ id).off)):
      VRel C w Mut ρ objs (.rwv id) (.slice A xs.length (ρ id).cap)
  | rwvd {id:Nat} {u:Value} (hc:bD u=true) (hin:id<objs.length) (h:yK objs id=false):VRel C w Mut ρ objs (.rwv id) u
  | rwp {id i off:Nat} {t:κ} {xs:List (Ty t)} (h:kY objs id=some ⟨t,xs⟩) (hi:i<xs.length):VRel C w Mut ρ objs (.rwp id i off) (.pointer (some (at' (ρ id).block ((ρ id).off+i*C.sz t+off))))
  | rwpd {id i off:Nat} {u:Value} (hc:bD u=true) (hin:id<objs.length) (h:yK objs id=false):VRel C w Mut ρ objs (.rwp id i off) u
  | xr {id g i j:Nat} {t:κ} {xs:List (Ty t)} {u:Value} {s:κ} {rows:List (Ty s)} {g':Nat} {h:Option (Nat×Nat×Nat)} (hc:bD u=true) (e:objs[id]? =some (.rw s rows g' h)) (hg:g≤g')
     (hv:g=g'→h=none→∃b x A,rows[i]? =some x∧(C.enc s x)[j]? =some (.inl b t xs)∧u= .slice A xs.length ((ρ id).sub (i*C.sz s+j)).2.2∧(((ρ id).sub (i*C.sz s+j)).2.2≠0→A=some (at' ((ρ id).sub (i*C.sz s+j)).1 ((ρ id).sub (i*C.sz s+j)).2.1))):
     VRel C w Mut ρ objs (.xr id g i j t xs) u
  | xrd {id g i j:Nat} {t:κ} {xs:List (Ty t)} {u:Value} (hc:bD u=true) (hin:id<objs.length) (h:yK objs id=false):VRel C w Mut ρ objs (.xr id g i j t xs) u
  | agg {cs:List (AV κ Ty)} {us:List Value} (hl:us.length=cs.length) (hcell:∀(j:Nat) (u:Value),us[j]? =some u→bD u=true)
      (hrel:∀(j:Nat) (cl:AV κ Ty) (u:Value),cs[j]? =some cl→us[j]? =some u→VRel C w Mut ρ objs cl u):VRel C w Mut ρ objs (.agg cs) (.agg us.toArray)
  | tup {cs:List (AV κ Ty)} {us:List Value} (hl:us.length=cs.length)
      (hrel:∀(j:Nat) (cl:AV κ Ty) (u:Value),cs[j]? =some cl→us[j]? =some u→VRel C w Mut ρ objs cl u):VRel C w Mut ρ objs (.tup cs) (.tuple us.toArray)
  | void:VRel C w Mut ρ objs .void Go.undef
  | gl {g:Nat} {u:Value} (h:bD u=true) (e:u=C.gl g):VRel C w Mut ρ objs (.gl g) u
  | undef {u:Value}:VRel C w Mut ρ objs .undef u
def gU_ (C:Cod κ Ty) (b:Bool) (s:κ) (xs:List (Ty s)) (t:κ) (ys:List (Ty t)):Prop:=
  C.sz t=C.sz s∧ys.length=xs.length∧∀(i:Nat) (x:Ty s) (y:Ty t),xs[i]? =some x→ys[i]? =some y→∀(j:Nat) c',(C.enc t y)[j]? =some c'→∃c,(C.enc s x)[j]? =some c∧((∃v,c= .lit v∧c'= .lit v)∨∃b0 s' zs,c= .inl b0 s' zs∧c'= .inl b s' zs)
structure bH (C:Cod κ Ty):Prop where
  up:∀s xs t ys,C.up s xs=some ⟨t,ys⟩→gU_ C true s xs t ys
  dn:∀s xs t ys,C.dn s xs=some ⟨t,ys⟩→gU_ C false s xs t ys
  same:∀s t,C.same s t=true→s=t
  len:∀t x,(C.enc t x).length=C.sz t
  dec:∀t cs x,C.dec t cs=some x→C.enc t x=cs
  deep:∀t x c,c∈C.enc t x→(∃v,c= .lit v)∨(∃s xs,c= .inl (C.bor t) s xs∧(C.bor s=true→C.bor t=true))
  xbor:∀t,C.xcl t=true→C.bor t=true
  xin:∀t x b s xs,C.xcl t=true→ .inl b s xs∈C.enc t x→C.bor s=false
  cast:∀s t xs ys,C.cast s t xs=some ys→∃h:s=t,h▸xs=ys
  ofb:∀t b xs,C.ofb t b=some xs→xs.length=b.size∧(∀(i:Nat) x,xs[i]? =some x→∃c,b.data[i]? =some c∧C.enc t x=[.lit (.int .u8 c.toNat)])∧C.sz t=1
  keq:∀k x y,C.keq k x y=true→x=y
  mcast:∀k v k' v' xs ys,C.mcast k v k' v' xs=some ys→∃(h1:k=k') (h2:v=v'),(h1▸h2▸xs)=ys
  bytes:∀t xs bs,C.bytes t xs=some bs→bs.length=xs.length∧∀(i:Nat) x b,xs[i]? =some x→bs[i]? =some b→C.enc t x=[.lit (.int .u8 b)]
  gst:∀w w':World,C.gp w→w.heap.size≤w'.heap.size→(∀b,C.gb b→w'.heap[b]? =w.heap[b]?)→C.gp w':=by intros;trivial
def ShK (C:Cod κ Ty) (w:World) (t:κ) (blk cap:Nat):Prop:=C.shk t=true→cap≠0→∃n,w.shape? blk=some (C.sht,n)
def SlAt (C:Cod κ Ty) (w:World) (Mut:Nat→Prop) (ρ:Nat→Loc) (objs:aH κ Ty) (blk off cap:Nat) (t:κ) (xs:List (Ty t)):Prop:=
  xs.length≤cap∧(cap≠0→blk<w.heap.size)∧
      (∀i x j cl,xs[i]? =some x→(C.enc t x)[j]? =some cl→∃v,w.cell? (at' blk (off+i*C.sz t+j))=some v∧VRel C w Mut ρ objs cl v)∧
      (∀q,q<cap*C.sz t→∃v,w.cell? (at' blk (off+q))=some v∧bD v=true∧w.frozen? (at' blk (off+q))=false)∧
      ShK C w t blk cap
def EntR (C:Cod κ Ty) (w:World) (Mut:Nat→Prop) (ρ:Nat→Loc) (objs:aH κ Ty) (L:Nat×Nat×Nat):List (AV κ Ty)→Value→Prop
  | [.lit v],u=>u=v∧bD v=true∧L.2.2=0
  | [.inl b s xs],u=>∃A,u= .slice A xs.length L.2.2∧(L.2.2≠0→A=some (at' L.1 L.2.1))∧SlAt C w Mut ρ objs L.1 L.2.1 L.2.2 s xs
  | _,_=>False
structure MpRel (C:Cod κ Ty) (w:World) (Mut:Nat→Prop) (ρ:Nat→Loc) (objs:aH κ Ty) (L:Loc) (k v:κ) (es:List (Ty k×Ty v)) (h:Option (Nat×Option Nat)) (mes:Array MapEntry):Prop where
  size:mes.size=es.length
  at_:w.heap[L.block]? =some (.map mes mes.size)
  key:∀(i:Nat) (e:Ty k×Ty v),es[i]? =some e→(∀c∈C.enc k e.1,∃v,c= .lit v)∧∃me:MapEntry,mes[i]? =some me∧me.born=i∧VRel C w Mut ρ objs (.agg (C.enc k e.1)) me.key
  val:∀(i:Nat) (e:Ty k×Ty v) (me:MapEntry),es[i]? =some e→mes[i]? =some me→(∀o,h≠some (i,o))→EntR C w Mut ρ objs (L.sub i) (C.enc v e.2) me.val
  hole:∀(i:Nat) (o:Option Nat) (me:MapEntry),h=some (i,o)→mes[i]? =some me→bD me.val=true∧∀j,o=some j→VRel C w Mut ρ objs (.own j) me.val
  hlt:∀i o,h=some (i,o)→i<es.length
  own:∀i,i<es.length→(∀o,h≠some (i,o))→(L.sub i).2.2≠0→(L.sub i).1≠L.block
  disj:∀i j,i<es.length→j<es.length→(∀o,h≠some (i,o))→(∀o,h≠some (j,o))→(L.sub i).2.2≠0→(L.sub j).2.2≠0→(L.sub i).1=(L.sub j).1→i=j
inductive RK | own | hole (n:Nat) | bor
def bn_ (h:Option (Nat×Nat×Nat)) (i j:Nat):RK:=match h with | some (i',j',n)=>if i=i'∧j=j' then .hole n else .own | none=> .own
def dr_ (n i _j:Nat):RK:=if i<n then .own else .bor
def RCell (C:Cod κ Ty) (w:World) (Mut:Nat→Prop) (ρ:Nat→Loc) (objs:aH κ Ty) (S:Nat×Nat×Nat):RK→AV κ Ty→Value→Prop
  | .own,c,v=>EntR C w Mut ρ objs S [c] v
  | .hole n,_,v=>S.2.2=0∧VRel C w Mut ρ objs (.own n) v
  | .bor,c,v=>S.2.2=0∧VRel C w Mut ρ objs c v
structure RwRel (C:Cod κ Ty) (w:World) (Mut:Nat→Prop) (ρ:Nat→Loc) (objs:aH κ Ty) (L:Loc) (t:κ) (xs:List (Ty t)) (K:Nat→Nat→RK):Prop where
  xcl:C.xcl t=true
  len:xs.length≤L.cap
  blk:L.cap≠0→L.block<w.heap.size
  cell:∀i x j cl,xs[i]? =some x→(C.enc t x)[j]? =some cl→∃v,w.cell? (at' L.block (L.off+i*C.sz t+j))=some v∧RCell C w Mut ρ objs (L.sub (i*C.sz t+j)) (K i j) cl v
  room:∀q,q<L.cap*C.sz t→∃v,w.cell? (at' L.block (L.off+q))=some v∧bD v=true∧w.frozen? (at' L.block (L.off+q))=false
  zero:∀q,(L.sub q).2.2≠0→q<xs.length*C.sz t
  disj:∀p q,(L.sub p).2.2≠0→(L.sub q).2.2≠0→(L.sub p).1=(L.sub q).1→p=q
  own:∀q,(L.sub q).2.2≠0→(L.sub q).1≠L.block
  lt:∀q,(L.sub q).2.2≠0→(L.sub q).1<w.heap.size
def ORel (C:Cod κ Ty) (w:World) (Mut:Nat→Prop) (ρ:Nat→Loc) (objs:aH κ Ty) (id:Nat):Prop:=
  match objs[id]? with
  | some (.box cs)=>(ρ id).block<w.heap.size∧(∀j cl,cs[j]? =some cl→∃v,w.cell? (at' (ρ id).block ((ρ id).off+j))=some v∧bD v=true∧VRel C w Mut ρ objs cl v∧w.frozen? (at' (ρ id).block ((ρ id).off+j))=false)∧
      (bsh cs=true→(ρ id).off=0∧w.shape? (ρ id).block=some (C.bt,2))∧(frs cs=true→w.cell? (at' (ρ id).block ((ρ id).off+1))=some (.slice none 0 0))
  | some (.sl t xs)=>xs.length≤(ρ id).cap∧((ρ id).cap≠0→(ρ id).block<w.heap.size)∧
      (∀i x j cl,xs[i]? =some x→(C.enc t x)[j]? =some cl→∃v,w.cell? (at' (ρ id).block ((ρ id).off+i*C.sz t+j))=some v∧VRel C w Mut ρ objs cl v)∧
      (∀q,q<(ρ id).cap*C.sz t→∃v,w.cell? (at' (ρ id).block ((ρ id).off+q))=some v∧bD v=true∧w.frozen? (at' (ρ id).block ((ρ id).off+q))=false)∧
      ShK C w t (ρ id).block (ρ id).cap
  | some (.mp k v es h)=>∃mes,MpRel C w Mut ρ objs (ρ id) k v es h mes
  | some (.rw t xs _ h)=>RwRel C w Mut ρ objs (ρ id) t xs (bn_ h)
  | some (.rp t xs n)=>RwRel C w Mut ρ objs (ρ id) t xs (dr_ n)
  | _=>True
def NB (objs:aH κ Ty) (id:Nat):Prop:=m9 objs id=none∧mX objs id=none∧NQ objs id=false∧yK objs id=false
def SameL (L L':Loc):Prop:=L'.block=L.block∧L'.off=L.off∧L'.cap=L.cap
def Compat (ρ:Nat→Loc) (objs:aH κ Ty) (ρ':Nat→Loc) (objs':aH κ Ty) (id:Nat):Prop:=
  match objs[id]? with
  | some (.box _)=>(∃cs,objs'[id]? =some (.box cs)∧ρ' id=ρ id)∨NB objs' id
  | some (.sl t xs)=>(∃ys:List (Ty t),objs'[id]? =some (.sl t ys)∧ys.length=xs.length∧ρ' id=ρ id)∨NB objs' id
  | some (.mp k v _ _)=>(∃(es:List (Ty k×Ty v)) (h:Option (Nat×Option Nat)),objs'[id]? =some (.mp k v es h)∧(ρ' id).block=(ρ id).block)∨NB objs' id
  | some (.rw t xs g h)=>(∃(ys:List (Ty t)) (g':Nat) (h':Option (Nat×Nat×Nat)),objs'[id]? =some (.rw t ys g' h')∧ys.length=xs.length∧SameL (ρ id) (ρ' id)∧g≤g'∧(g'=g→h'=none→h=none∧ys=xs∧ρ' id=ρ id))∨NB objs' id
  | some (.rp t xs _)=>(∃ys:List (Ty t),kY objs' id=some ⟨t,ys⟩∧ys.length=xs.length∧SameL (ρ id) (ρ' id))∨NB objs' id
  | some .dead=>NB objs' id
  | none=>True
def CompW (ρ:Nat→Loc) (objs:aH κ Ty) (ρ':Nat→Loc) (objs':aH κ Ty) (id:Nat):Prop:=
  match objs[id]? with
  | some (.rw t xs _ _)=>(∃(ys:List (Ty t)) (g':Nat) (h':Option (Nat×Nat×Nat)),objs'[id]? =some (.rw t ys g' h')∧ys.length=xs.length∧SameL (ρ id) (ρ' id))∨NB objs' id
  | _=>Compat ρ objs ρ' objs' id
structure Org (κ:Type) (Ty:κ→Type) where
  ρ:Nat→Loc
  objs:aH κ Ty
structure SRel (C:Cod κ Ty) (Mut:Nat→Prop) (Lent:Org κ Ty) (w0:World) (ρ:Nat→Loc) (env:Env κ Ty) (objs:aH κ Ty) (tm:Array Value) (w:World):Prop where
  env:∀i,look env i= .undef∨∃u,tm[i]? =some u∧VRel C w Mut ρ objs (look env i) u
  ob:∀id,ORel C w Mut ρ objs id
  inj:∀i j b,aG ρ objs i b→aG ρ objs j b→i=j
  live:∀b,bJ ρ objs b→¬Mut b∧(bJ Lent.ρ Lent.objs b∨w0.heap.size≤b)
  comp:∀id,CompW Lent.ρ Lent.objs ρ objs id
  len:Lent.objs.length≤objs.length
  mlt:∀b,Mut b→b<w0.heap.size
  frame:∀b,b<w0.heap.size→¬bJ Lent.ρ Lent.objs b→w.heap[b]? =w0.heap[b]?
  size:w0.heap.size≤w.heap.size
  os:w.os=w0.os
  tape:w.tape=w0.tape
  output:w.output=w0.output
structure WStep (w w':World) (F F':Nat→Prop):Prop where
  block:∀b,b<w.heap.size→¬F b→w'.heap[b]? =w.heap[b]?
  size:w.heap.size≤w'.heap.size
  foot:∀b,F' b→F b∨w.heap.size≤b
theorem U4 {w:World} {a:Addr} {v:Value} (h:w.cell? a=some v):a.block<w.heap.size:=World.block_lt_of_cell? w a h
theorem dF {w w':World} {b:Nat} (h:w'.heap[b]? =w.heap[b]?) (o:Nat):w'.cell? (at' b o)=w.cell? (at' b o):=by
  simp only [World.cell?,h]
theorem nI {w w':World} {b:Nat} (h:w'.heap[b]? =w.heap[b]?) (o:Nat):w'.frozen? (at' b o)=w.frozen? (at' b o):=by
  simp only [World.frozen?,h]
theorem tF {w w':World} {b:Nat} (h:w'.heap[b]? =w.heap[b]?):w'.shape? b=w.shape? b:=by
  simp only [World.shape?,h]
theorem D6 {objs:aH κ Ty} {id:Nat} (h:m9 objs id=none):∀cs,objs[id]? ≠some (.box cs):=by
  intro cs e;simp [m9,e] at h
theorem JP {objs:aH κ Ty} {id:Nat} (h:mX objs id=none):∀t xs,objs[id]? ≠some (.sl t xs):=by
  intro t xs e;simp [mX,e] at h
theorem N8 {objs:aH κ Ty} {id:Nat} {cs:List (AV κ Ty)} (h:m9 objs id=some cs):objs[id]? =some (.box cs):=by
  unfold m9 at h;split at h
  ·rename_i cs' e;cases h;exact e
  ·cases h
theorem cB {objs:aH κ Ty} {id:Nat} {t:κ} {xs:List (Ty t)} (h:mX objs id=some ⟨t,xs⟩):objs[id]? =some (.sl t xs):=by
  unfold mX at h;split at h
  ·rename_i t' xs' e;cases h;exact e
  ·cases h
theorem eP_ {objs:aH κ Ty} {id:Nat} {t:κ} {xs:List (Ty t)} (h:objs[id]? =some (.sl t xs)):mX objs id=some ⟨t,xs⟩:=by simp [mX,h]
theorem ds_ {objs:aH κ Ty} {id:Nat} {cs:List (AV κ Ty)} (h:objs[id]? =some (.box cs)):m9 objs id=some cs:=by simp [m9,h]
theorem ZA {objs:aH κ Ty} {id:Nat} (h:objs[id]? =some .dead):m9 objs id=none:=by simp [m9,h]
theorem xC {objs:aH κ Ty} {id:Nat} (h:objs[id]? =some .dead):mX objs id=none:=by simp [mX,h]
theorem aZ_ {objs:aH κ Ty} {id:Nat} (h:objs[id]? =some .dead):NQ objs id=false:=by simp [NQ,h]
theorem c9_ {objs:aH κ Ty} {id:Nat} {cs:List (AV κ Ty)} (h:objs[id]? =some (.box cs)):NQ objs id=false:=by simp [NQ,h]
theorem eU_ {objs:aH κ Ty} {id:Nat} {t:κ} {xs:List (Ty t)} (h:objs[id]? =some (.sl t xs)):NQ objs id=false:=by simp [NQ,h]
theorem es_ {objs:aH κ Ty} {id:Nat} {k v:κ} {es:List (Ty k×Ty v)} {ho:Option (Nat×Option Nat)} (h:objs[id]? =some (.mp k v es ho)):NQ objs id=true:=by simp [NQ,h]
theorem J2 {objs:aH κ Ty} {id:Nat} (h:NQ objs id=false):∀k v es ho,objs[id]? ≠some (.mp k v es ho):=by
  intro k v es ho e;simp [NQ,e] at h
theorem eK_ {objs:aH κ Ty} {id:Nat} {k v:κ} {es:List (Ty k×Ty v)} {ho:Option (Nat×Option Nat)} (h:objs[id]? =some (.mp k v es ho)):mX objs id=none:=by simp [mX,h]
theorem cJ_ {objs:aH κ Ty} {id:Nat} {k v:κ} {es:List (Ty k×Ty v)} {ho:Option (Nat×Option Nat)} (h:objs[id]? =some (.mp k v es ho)):m9 objs id=none:=by simp [m9,h]
theorem dp_ {objs:aH κ Ty} {id:Nat} {cs:List (AV κ Ty)} (h:objs[id]? =some (.box cs)):mX objs id=none:=by simp [mX,h]
theorem dd_ {objs:aH κ Ty} {id:Nat} {t:κ} {xs:List (Ty t)} (h:objs[id]? =some (.sl t xs)):m9 objs id=none:=by simp [m9,h]
theorem TD {objs:aH κ Ty} {id:Nat} (h:objs[id]? =some .dead):yK objs id=false:=by simp [yK,h]
theorem cP_ {objs:aH κ Ty} {id:Nat} {cs:List (AV κ Ty)} (h:objs[id]? =some (.box cs)):yK objs id=false:=by simp [yK,h]
theorem ep_ {objs:aH κ Ty} {id:Nat} {t:κ} {xs:List (Ty t)} (h:objs[id]? =some (.sl t xs)):yK objs id=false:=by simp [yK,h]
theorem eg_ {objs:aH κ Ty} {id:Nat} {k v:κ} {es:List (Ty k×Ty v)} {ho:Option (Nat×Option Nat)} (h:objs[id]? =some (.mp k v es ho)):yK objs id=false:=by simp [yK,h]
theorem JO {objs:aH κ Ty} {id:Nat} (h:yK objs id=false):∀t xs g ho,objs[id]? ≠some (.rw t xs g ho):=by
  intro t xs g ho e;simp [yK,e] at h
theorem ZV {objs:aH κ Ty} {id:Nat} (h:yK objs id=false):∀t xs n,objs[id]? ≠some (.rp t xs n):=by
  intro t xs n e;simp [yK,e] at h
theorem cO {objs:aH κ Ty} {id:Nat} {t:κ} {xs:List (Ty t)} {g:Nat} {ho:Option (Nat×Nat×Nat)} (h:objs[id]? =some (.rw t xs g ho)):kY objs id=some ⟨t,xs⟩:=by simp [kY,h]
theorem gO {objs:aH κ Ty} {id:Nat} {t:κ} {xs:List (Ty t)} {n:Nat} (h:objs[id]? =some (.rp t xs n)):kY objs id=some ⟨t,xs⟩:=by simp [kY,h]
theorem jI {objs:aH κ Ty} {id:Nat} {t:κ} {xs:List (Ty t)} (h:kY objs id=some ⟨t,xs⟩):(∃g ho,objs[id]? =some (.rw t xs g ho))∨∃n,objs[id]? =some (.rp t xs n):=by
  unfold kY at h
  split at h
  ·rename_i e;cases h;exact .inl ⟨_,_,e⟩
  ·rename_i e;cases h;exact .inr ⟨_,e⟩
  ·cases h
theorem isRw_iff {objs:aH κ Ty} {id:Nat}:yK objs id=true↔∃t xs,kY objs id=some ⟨t,xs⟩:=by
  unfold yK kY
  split
  ·simp
  ·simp
  ·rename_i h1 h2
   constructor
   ·intro h;cases h
   ·rintro ⟨t,xs,h⟩
    cases h
theorem X2 {objs:aH κ Ty} {id:Nat} {t:κ} {xs:List (Ty t)} (h:kY objs id=some ⟨t,xs⟩):mX objs id=none:=by
  rcases jI h with ⟨g,ho,e⟩ | ⟨n,e⟩<;>simp [mX,e]
theorem bq_ {objs:aH κ Ty} {id:Nat} {t:κ} {xs:List (Ty t)} (h:kY objs id=some ⟨t,xs⟩):m9 objs id=none:=by
  rcases jI h with ⟨g,ho,e⟩ | ⟨n,e⟩<;>simp [m9,e]
theorem dq_ {objs:aH κ Ty} {id:Nat} {t:κ} {xs:List (Ty t)} (h:kY objs id=some ⟨t,xs⟩):NQ objs id=false:=by
  rcases jI h with ⟨g,ho,e⟩ | ⟨n,e⟩<;>simp [NQ,e]
theorem jM {objs:aH κ Ty} {id:Nat} {t:κ} {xs:List (Ty t)} (h:kY objs id=some ⟨t,xs⟩):yK objs id=true:=isRw_iff.mpr ⟨t,xs,h⟩
theorem R8 {objs:aH κ Ty} {id:Nat} {t:κ} {xs:List (Ty t)} (h:kY objs id=some ⟨t,xs⟩):id<objs.length:=by
  rcases jI h with ⟨g,ho,e⟩ | ⟨n,e⟩<;>exact (List.getElem?_eq_some_iff.mp e).1
theorem SameL.refl (L:Loc):SameL L L:=⟨rfl,rfl,rfl⟩
theorem SameL.trans {L L' L2:Loc} (h:SameL L L') (g:SameL L' L2):SameL L L2:=⟨g.1.trans h.1,g.2.1.trans h.2.1,g.2.2.trans h.2.2⟩
variable {C:Cod κ Ty} {w w':World} {Mut:Nat→Prop} {ρ ρ':Nat→Loc} {objs objs':aH κ Ty}
theorem aZ {id:Nat} (h:objs[id]? =some .dead):NB objs id:=⟨ZA h,xC h,aZ_ h,TD h⟩
theorem Compat.cases {id:Nat} (h:Compat ρ objs ρ' objs' id):(∃cs,objs[id]? =some (.box cs)∧(∃cs',objs'[id]? =some (.box cs')∧ρ' id=ρ id))∨(∃t xs,objs[id]? =some (.sl t xs)∧(∃ys:List (Ty t),objs'[id]? =some (.sl t ys)∧ys.length=xs.length∧ρ' id=ρ id))∨
    (∃k v es ho,objs[id]? =some (.mp k v es ho)∧(∃(es':List (Ty k×Ty v)) (h:Option (Nat×Option Nat)),objs'[id]? =some (.mp k v es' h)∧(ρ' id).block=(ρ id).block))∨
    (∃t xs,kY objs id=some ⟨t,xs⟩∧∃ys:List (Ty t),kY objs' id=some ⟨t,ys⟩∧ys.length=xs.length∧SameL (ρ id) (ρ' id))∨NB objs' id∨objs[id]? =none:=by
  unfold Compat at h
  split at h
  ·rename_i cs e;exact h.elim (fun h=> .inl ⟨cs,e,h⟩) fun h=> .inr (.inr (.inr (.inr (.inl h))))
  ·rename_i t xs e;exact h.elim (fun h=> .inr (.inl ⟨t,xs,e,h⟩)) fun h=> .inr (.inr (.inr (.inr (.inl h))))
  ·rename_i k v es ho e;exact h.elim (fun h=> .inr (.inr (.inl ⟨k,v,es,ho,e,h⟩))) fun h=> .inr (.inr (.inr (.inr (.inl h))))
  ·rename_i t xs g ho e
   rcases h with ⟨ys,g',h',e',el,es,_⟩ | h
   ·exact .inr (.inr (.inr (.inl ⟨t,xs,cO e,ys,cO e',el,es⟩)))
   ·exact .inr (.inr (.inr (.inr (.inl h))))
  ·rename_i t xs n e
   rcases h with ⟨ys,e',el,es⟩ | h
   ·exact .inr (.inr (.inr (.inl ⟨t,xs,gO e,ys,e',el,es⟩)))
   ·exact .inr (.inr (.inr (.inr (.inl h))))
  ·exact .inr (.inr (.inr (.inr (.inl h))))
  ·rename_i e;exact .inr (.inr (.inr (.inr (.inr e))))
theorem CompW.cases {id:Nat} (h:CompW ρ objs ρ' objs' id):(∃cs,objs[id]? =some (.box cs)∧(∃cs',objs'[id]? =some (.box cs')∧ρ' id=ρ id))∨(∃t xs,objs[id]? =some (.sl t xs)∧(∃ys:List (Ty t),objs'[id]? =some (.sl t ys)∧ys.length=xs.length∧ρ' id=ρ id))∨
    (∃k v es ho,objs[id]? =some (.mp k v es ho)∧(∃(es':List (Ty k×Ty v)) (h:Option (Nat×Option Nat)),objs'[id]? =some (.mp k v es' h)∧(ρ' id).block=(ρ id).block))∨
    (∃t xs,kY objs id=some ⟨t,xs⟩∧∃ys:List (Ty t),kY objs' id=some ⟨t,ys⟩∧ys.length=xs.length∧SameL (ρ id) (ρ' id))∨NB objs' id∨objs[id]? =none:=by
  unfold CompW at h
  split at h
  ·rename_i t xs g ho e
   rcases h with ⟨ys,g',h',e',el,es⟩ | h
   ·exact .inr (.inr (.inr (.inl ⟨t,xs,cO e,ys,cO e',el,es⟩)))
   ·exact .inr (.inr (.inr (.inr (.inl h))))
  ·exact h.cases
theorem Compat.weak {id:Nat} (h:Compat ρ objs ρ' objs' id):CompW ρ objs ρ' objs' id:=by
  unfold CompW
  split
  ·rename_i t xs g ho e
   unfold Compat at h
   rw [e] at h
   exact h.imp (fun ⟨ys,g',h',a,b,c,_⟩=>⟨ys,g',h',a,b,c⟩) (fun h=>h)
  ·exact h
theorem Compat.gone {id:Nat} (h:Compat ρ objs ρ' objs' id) (hg:NB objs id) (hin:id<objs.length):NB objs' id:=by
  rcases h.cases with ⟨cs,e,_⟩ | ⟨t,xs,e,_⟩ | ⟨k,v,es,ho,e,_⟩ | ⟨t,xs,e,_⟩ | h | e
  ·exact absurd e (D6 hg.1 cs)
  ·exact absurd e (JP hg.2.1 t xs)
  ·exact absurd e (J2 hg.2.2.1 k v es ho)
  ·have:=hg.2.2.2;rw [jM e] at this;cases this
  ·exact h
  ·simp at e;omega
theorem Compat.box {id:Nat} (h:Compat ρ objs ρ' objs' id) (hb:m9 objs id=none) (hin:id<objs.length):m9 objs' id=none:=by
  rcases h.cases with ⟨cs,e,_⟩ | ⟨t,xs,e,_,e',_⟩ | ⟨k,v,es,ho,e,_,_,e',_⟩ | ⟨t,xs,e,_,e',_⟩ | h | e
  ·exact absurd e (D6 hb cs)
  ·exact dd_ e'
  ·exact cJ_ e'
  ·exact bq_ e'
  ·exact h.1
  ·simp at e;omega
theorem Compat.sl {id:Nat} (h:Compat ρ objs ρ' objs' id) (hb:mX objs id=none) (hin:id<objs.length):mX objs' id=none:=by
  rcases h.cases with ⟨cs,e,_,e',_⟩ | ⟨t,xs,e,_⟩ | ⟨k,v,es,ho,e,_,_,e',_⟩ | ⟨t,xs,e,_,e',_⟩ | h | e
  ·exact dp_ e'
  ·exact absurd e (JP hb t xs)
  ·exact eK_ e'
  ·exact X2 e'
  ·exact h.2.1
  ·simp at e;omega
theorem Compat.mp {id:Nat} (h:Compat ρ objs ρ' objs' id) (hb:NQ objs id=false) (hin:id<objs.length):NQ objs' id=false:=by
  rcases h.cases with ⟨cs,e,_,e',_⟩ | ⟨t,xs,e,_,e',_⟩ | ⟨k,v,es,ho,e,_⟩ | ⟨t,xs,e,_,e',_⟩ | h | e
  ·exact c9_ e'
  ·exact eU_ e'
  ·exact absurd e (J2 hb k v es ho)
  ·exact dq_ e'
  ·exact h.2.2.1
  ·simp at e;omega
theorem Compat.rw {id:Nat} (h:Compat ρ objs ρ' objs' id) (hb:yK objs id=false) (hin:id<objs.length):yK objs' id=false:=by
  rcases h.cases with ⟨cs,e,_,e',_⟩ | ⟨t,xs,e,_,e',_⟩ | ⟨k,v,es,ho,e,_,_,e',_⟩ | ⟨t,xs,e,_,e',_⟩ | h | e
  ·exact cP_ e'
  ·exact ep_ e'
  ·exact eg_ e'
  ·rw [jM e] at hb;cases hb
  ·exact h.2.2.2
  ·simp at e;omega
theorem Compat.rws {id:Nat} (h:Compat ρ objs ρ' objs' id) {t:κ} {xs:List (Ty t)} (e:kY objs id=some ⟨t,xs⟩):(∃ys:List (Ty t),kY objs' id=some ⟨t,ys⟩∧ys.length=xs.length∧SameL (ρ id) (ρ' id))∨yK objs' id=false:=by
  rcases jI e with ⟨g,ho,e1⟩ | ⟨n,e1⟩
  ·unfold Compat at h;rw [e1] at h
   exact h.elim (fun ⟨ys,g',h',a,b,c,_⟩=> .inl ⟨ys,cO a,b,c⟩) fun h=> .inr h.2.2.2
  ·unfold Compat at h;rw [e1] at h
   exact h.elim .inl fun h=> .inr h.2.2.2
theorem Xs.of_step {b:Bool} {k:Nat} (W:WStep w w' (bJ ρ objs) (bJ ρ' objs')) (hk:k<w.heap.size) (h:¬Xs Mut ρ objs b k):¬Xs Mut ρ' objs' b k:=by
  intro h'
  rcases h' with h' | h'
  ·rcases W.foot k h' with h1 | h1
   ·exact h (.inl h1)
   ·omega
  ·exact h (.inr h')
theorem Xs.foot {b:Bool} {k:Nat} (h:¬Xs Mut ρ objs b k):¬bJ ρ objs k:=fun h'=>h (.inl h')
theorem VRel.step (W:WStep w w' (bJ ρ objs) (bJ ρ' objs')) (hl:objs.length≤objs'.length) (hc:∀id,Compat ρ objs ρ' objs' id) {v:AV κ Ty} {u:Value} (h:VRel C w Mut ρ objs v u):VRel C w' Mut ρ' objs' v u:=by
  induction h with
  | lit h=>exact .lit h
  | nil=>exact .nil
  | @inl b t xs A c blk off vals hb hc1 hA hcell hrel ih=>
    refine .inl (blk:=blk) (off:=off) hb hc1 (fun hne=> ?_) (fun i x j cl hx hj=> ?_) (fun i x j cl hx hj=>ih i x j cl hx hj)
    ·obtain ⟨a1,a2,a3⟩:=hA hne
     exact ⟨a1,Nat.lt_of_lt_of_le a2 W.size,Xs.of_step W a2 a3⟩
    ·have hne:_≠[]:=List.ne_nil_of_mem (List.mem_of_getElem? hx)
     obtain ⟨a1,a2,a3⟩:=hA hne
     rw [dF (W.block _ a2 (Xs.foot a3))]
     exact hcell i x j cl hx hj
  | cadr hX hlt hcell hisc hrel ih=>
    refine .cadr (Xs.of_step W hlt hX) (Nat.lt_of_lt_of_le hlt W.size) (fun j cl hj=> ?_) hisc (fun j cl hj=>ih j cl hj)
    rw [dF (W.block _ hlt (Xs.foot hX))]
    exact hcell j cl hj
  | @ref id off cs h=>
    have:=hc id
    simp only [Compat,h] at this
    rcases this with ⟨cs',e,er⟩ | ⟨e1,e2,_⟩
    ·rw [←er];exact .ref e
    ·have:=(List.getElem?_eq_some_iff.mp h).1
     exact .refd rfl (by omega) e1
  | refd hcl hin h=>exact .refd hcl (by omega) ((hc _).box h hin)
  | @eref id i off t xs h hi=>
    have:=hc id
    simp only [Compat,h] at this
    rcases this with ⟨ys,e,el,er⟩ | ⟨e1,e2,_⟩
    ·rw [←er];exact .eref e (by omega)
    ·have:=(List.getElem?_eq_some_iff.mp h).1
     exact .erefd rfl (by omega) e2
  | erefd hcl hin h=>exact .erefd hcl (by omega) ((hc _).sl h hin)
  | @own id t xs A h hA=>
    have:=hc id
    simp only [Compat,h] at this
    rcases this with ⟨ys,e,el,er⟩ | ⟨e1,e2,_⟩
    ·rw [←er,←el];exact .own e (by rw [er];exact hA)
    ·have:=(List.getElem?_eq_some_iff.mp h).1
     exact .ownd rfl (by omega) e2
  | ownd hcl hin h=>exact .ownd hcl (by omega) ((hc _).sl h hin)
  | @sub id lo hi c t xs A h hlo hhi hc1 hcap hA=>
    have:=hc id
    simp only [Compat,h] at this
    rcases this with ⟨ys,e,el,er⟩ | ⟨e1,e2,_⟩
    ·exact .sub e hlo (by omega) hc1 (by rw [er];exact hcap) (by rw [er];exact hA)
    ·have:=(List.getElem?_eq_some_iff.mp h).1
     exact .subd rfl (by omega) e2
  | subd hcl hin h=>exact .subd hcl (by omega) ((hc _).sl h hin)
  | @mapv id k v es ho h=>
    have:=hc id
    simp only [Compat,h] at this
    rcases this with ⟨es',ho',e,er⟩ | ⟨_,_,e3,_⟩
    ·rw [←er];exact .mapv e
    ·have:=(List.getElem?_eq_some_iff.mp h).1
     exact .mapd rfl (by omega) e3
  | mapd hcl hin h=>exact .mapd hcl (by omega) ((hc _).mp h hin)
  | @rwv id t xs A h hA=>
    rcases (hc id).rws h with ⟨ys,e,el,er⟩ | e
    ·rw [←er.2.2,←el];exact .rwv e (by rw [er.1,er.2.1,er.2.2];exact hA)
    ·have:=R8 h
     exact .rwvd rfl (by omega) e
  | rwvd hcl hin h=>exact .rwvd hcl (by omega) ((hc _).rw h hin)
  | @rwp id i off t xs h hi=>
    rcases (hc id).rws h with ⟨ys,e,el,er⟩ | e
    ·rw [←er.1,←er.2.1];exact .rwp e (by omega)
    ·have:=R8 h
     exact .rwpd rfl (by omega) e
  | rwpd hcl hin h=>exact .rwpd hcl (by omega) ((hc _).rw h hin)
  | @xr id g i j t xs u s rows g' ho hcl e hg hv=>
    have:=hc id
    simp only [Compat,e] at this
    rcases this with ⟨ys,g2,h2,e2,el,er,hle,hk⟩ | h
    ·refine .xr hcl e2 (by omega) fun hg2 hh2=> ?_
     obtain ⟨k1,k2,k3⟩:=hk (by omega) hh2
     rw [k2,k3];exact hv (by omega) k1
    ·have:=(List.getElem?_eq_some_iff.mp e).1
     exact .xrd hcl (by omega) h.2.2.2
  | xrd hcl hin h=>exact .xrd hcl (by omega) ((hc _).rw h hin)
  | agg hl hcell hrel ih=>exact .agg hl hcell ih
  | tup hl hrel ih=>exact .tup hl ih
  | void=>exact .void
  | gl h e=>exact .gl h e
  | undef=>exact .undef
theorem ShK.mono {t:κ} {blk cap blk' cap':Nat} (h:ShK C w t blk cap) (hb:cap'≠0→cap≠0∧w'.shape? blk'=w.shape? blk):ShK C w' t blk' cap':=fun hs hc=>by
  obtain ⟨h1,h2⟩:=hb hc
  obtain ⟨n,h⟩:=h hs h1
  exact ⟨n,h2.trans h⟩
theorem ShK.zero {t:κ} {blk:Nat}:ShK C w t blk 0:=fun _ h=>absurd rfl h
theorem SlAt.step {blk off cap:Nat} {t:κ} {xs:List (Ty t)} (W:WStep w w' (bJ ρ objs) (bJ ρ' objs')) (hl:objs.length≤objs'.length) (hc:∀id,Compat ρ objs ρ' objs' id) (h:SlAt C w Mut ρ objs blk off cap t xs)
    (hb:cap≠0→w'.heap[blk]? =w.heap[blk]?):SlAt C w' Mut ρ' objs' blk off cap t xs:=by
  obtain ⟨h1,h2,h3,h4,h5⟩:=h
  refine ⟨h1,fun hn=>Nat.lt_of_lt_of_le (h2 hn) W.size,fun i x j cl hx hj=> ?_,fun q hq=> ?_,h5.mono fun hn=>⟨hn,tF (hb hn)⟩⟩
  ·have hcap:cap≠0:=by
     have:=(List.getElem?_eq_some_iff.mp hx).1
     omega
   obtain ⟨v,a1,a2⟩:=h3 i x j cl hx hj
   exact ⟨v,by rw [dF (hb hcap)];exact a1,a2.step W hl hc⟩
  ·have hcap:cap≠0:=fun e0=>by rw [e0,Nat.zero_mul] at hq;omega
   obtain ⟨v,a1,a2,a3⟩:=h4 q hq
   exact ⟨v,by rw [dF (hb hcap)];exact a1,a2,by rw [nI (hb hcap)];exact a3⟩
theorem EntR.step {L:Nat×Nat×Nat} {cs:List (AV κ Ty)} {u:Value} (W:WStep w w' (bJ ρ objs) (bJ ρ' objs')) (hl:objs.length≤objs'.length) (hc:∀id,Compat ρ objs ρ' objs' id) (h:EntR C w Mut ρ objs L cs u)
    (hb:∀b,L.2.2≠0→L.1=b→w'.heap[b]? =w.heap[b]?):EntR C w' Mut ρ' objs' L cs u:=by
  unfold EntR at h⊢
  split at h
  ·exact h
  ·obtain ⟨A,h1,h2,h3⟩:=h
   exact ⟨A,h1,h2,h3.step W hl hc fun hn=>hb _ hn rfl⟩
  ·exact h.elim
theorem RCell.step {L:Nat×Nat×Nat} {k:RK} {c:AV κ Ty} {u:Value} (W:WStep w w' (bJ ρ objs) (bJ ρ' objs')) (hl:objs.length≤objs'.length) (hc:∀id,Compat ρ objs ρ' objs' id) (h:RCell C w Mut ρ objs L k c u)
    (hb:∀b,L.2.2≠0→L.1=b→w'.heap[b]? =w.heap[b]?):RCell C w' Mut ρ' objs' L k c u:=by
  cases k with
  | own=>exact EntR.step W hl hc h hb
  | hole n=>exact ⟨h.1,h.2.step W hl hc⟩
  | bor=>exact ⟨h.1,h.2.step W hl hc⟩
theorem RwRel.step {L:Loc} {t:κ} {xs:List (Ty t)} {K:Nat→Nat→RK} (W:WStep w w' (bJ ρ objs) (bJ ρ' objs')) (hl:objs.length≤objs'.length) (hc:∀id,Compat ρ objs ρ' objs' id) (h:RwRel C w Mut ρ objs L t xs K)
    (hb:∀b,xI L b→w'.heap[b]? =w.heap[b]?):RwRel C w' Mut ρ' objs' L t xs K where
  xcl:=h.xcl
  len:=h.len
  blk hn:=Nat.lt_of_lt_of_le (h.blk hn) W.size
  cell i x j cl hx hj:=by
    have hcap:L.cap≠0:=by
      have:=(List.getElem?_eq_some_iff.mp hx).1
      have:=h.len
      omega
    obtain ⟨v,a1,a2⟩:=h.cell i x j cl hx hj
    exact ⟨v,by rw [dF (hb L.block (.inl ⟨hcap,rfl⟩))];exact a1,a2.step W hl hc fun b h1 h2=>hb b (.inr ⟨_,h1,h2⟩)⟩
  room q hq:=by
    have hcap:L.cap≠0:=fun e0=>by rw [e0,Nat.zero_mul] at hq;omega
    obtain ⟨v,a1,a2,a3⟩:=h.room q hq
    exact ⟨v,by rw [dF (hb L.block (.inl ⟨hcap,rfl⟩))];exact a1,a2,by rw [nI (hb L.block (.inl ⟨hcap,rfl⟩))];exact a3⟩
  zero:=h.zero
  disj:=h.disj
  own:=h.own
  lt q hq:=Nat.lt_of_lt_of_le (h.lt q hq) W.size
theorem EntR.lt {L:Nat×Nat×Nat} {cs:List (AV κ Ty)} {u:Value} (h:EntR C w Mut ρ objs L cs u) (hn:L.2.2≠0):L.1<w.heap.size:=by
  unfold EntR at h
  split at h
  ·exact absurd h.2.2 hn
  ·obtain ⟨A,_,_,g⟩:=h;exact g.2.1 hn
  ·exact h.elim
theorem EntR.cell {L:Nat×Nat×Nat} {cs:List (AV κ Ty)} {u:Value} (h:EntR C w Mut ρ objs L cs u):bD u=true:=by
  unfold EntR at h
  split at h
  ·rw [h.1];exact h.2.1
  ·obtain ⟨A,e,_⟩:=h;rw [e];rfl
  ·exact h.elim
theorem RwRel.foot_lt {L:Loc} {t:κ} {xs:List (Ty t)} {K:Nat→Nat→RK} (h:RwRel C w Mut ρ objs L t xs K) {b:Nat} (hb:xI L b):b<w.heap.size:=by
  rcases hb with ⟨h1,h2⟩ | ⟨q,h1,h2⟩
  ·rw [←h2];exact h.blk h1
  ·rw [←h2];exact h.lt q h1
theorem ORel.step (W:WStep w w' (bJ ρ objs) (bJ ρ' objs')) (hl:objs.length≤objs'.length) (hc:∀id,Compat ρ objs ρ' objs' id) {id:Nat} (h:ORel C w Mut ρ objs id)
    (he:objs'[id]? =objs[id]?) (hr:ρ' id=ρ id) (hb:∀b,aG ρ objs id b→w'.heap[b]? =w.heap[b]?):ORel C w' Mut ρ' objs' id:=by
  unfold ORel at h⊢
  rw [he,hr]
  split
  ·rename_i cs e
   rw [e] at h
   obtain ⟨h1,h2,h3,h5⟩:=h
   have hblk:=hb (ρ id).block (by simp [aG,e])
   refine ⟨Nat.lt_of_lt_of_le h1 W.size,fun j cl hj=> ?_,fun hs=>⟨(h3 hs).1,(tF hblk).trans (h3 hs).2⟩,fun hs=>(dF hblk _).trans (h5 hs)⟩
   obtain ⟨v,a1,a2,a3,a4⟩:=h2 j cl hj
   exact ⟨v,by rw [dF hblk];exact a1,a2,a3.step W hl hc,by rw [nI hblk];exact a4⟩
  ·rename_i t xs e
   rw [e] at h
   obtain ⟨h1,h2,h3,h4,h5⟩:=h
   refine ⟨h1,fun hn=>Nat.lt_of_lt_of_le (h2 hn) W.size,fun i x j cl hx hj=> ?_,fun q hq=> ?_,h5.mono fun hn=>⟨hn,tF (hb _ (by simp [aG,e,hn]))⟩⟩
   ·have hcap:(ρ id).cap≠0:=by
      have:=(List.getElem?_eq_some_iff.mp hx).1
      omega
    have hblk:=hb (ρ id).block (by simp [aG,e,hcap])
    obtain ⟨v,a1,a2⟩:=h3 i x j cl hx hj
    exact ⟨v,by rw [dF hblk];exact a1,a2.step W hl hc⟩
   ·have hcap:(ρ id).cap≠0:=fun e0=>by rw [e0,Nat.zero_mul] at hq;omega
    have hblk:=hb (ρ id).block (by simp [aG,e,hcap])
    obtain ⟨v,a1,a2,a3⟩:=h4 q hq
    exact ⟨v,by rw [dF hblk];exact a1,a2,by rw [nI hblk];exact a3⟩
  ·rename_i k v es ho e
   rw [e] at h
   obtain ⟨mes,h⟩:=h
   refine ⟨mes,h.size, ?_,fun i e' he=> ?_,fun i e' me he hm hh=> ?_,fun i o me hh hm=> ?_,h.hlt,h.own,h.disj⟩
   ·rw [hb (ρ id).block (by simp [aG,e])];exact h.at_
   ·obtain ⟨h1,me,h2,h3,h4⟩:=h.key i e' he
    exact ⟨h1,me,h2,h3,h4.step W hl hc⟩
   ·exact (h.val i e' me he hm hh).step W hl hc fun b hb1 hb2=>hb b (by
      simp only [aG,e]
      exact .inr ⟨i,(List.getElem?_eq_some_iff.mp he).1,hh,hb1,hb2⟩)
   ·obtain ⟨h1,h2⟩:=h.hole i o me hh hm
    exact ⟨h1,fun j hj=>(h2 j hj).step W hl hc⟩
  ·rename_i t xs g ho e
   rw [e] at h
   exact h.step W hl hc fun b hb'=>hb b (by simp only [aG,e];exact hb')
  ·rename_i t xs n e
   rw [e] at h
   exact h.step W hl hc fun b hb'=>hb b (by simp only [aG,e];exact hb')
  ·trivial
theorem foot_lt {i b:Nat} (ho:ORel C w Mut ρ objs i) (h:aG ρ objs i b):b<w.heap.size:=by
  unfold aG at h;unfold ORel at ho
  split at h
  ·rename_i cs e;rw [e] at ho;have:=ho.1;omega
  ·rename_i t xs e;rw [e] at ho;have:=ho.2.1 h.1;omega
  ·rename_i k v es hh e
   rw [e] at ho
   obtain ⟨mes,hm⟩:=ho
   rcases h with h | ⟨q,h1,h2,h3,h4⟩
   ·rw [←h];exact (Array.getElem?_eq_some_iff.mp hm.at_).1
   ·obtain ⟨_,me,g1,_⟩:=hm.key q _ (List.getElem?_eq_getElem h1)
    have hv:=hm.val q _ me (List.getElem?_eq_getElem h1) g1 h2
    unfold EntR at hv
    split at hv
    ·exact absurd hv.2.2 h3
    ·obtain ⟨A,_,_,g⟩:=hv
     rw [←h4];exact g.2.1 h3
    ·exact hv.elim
  ·rename_i t xs g hh e;rw [e] at ho;exact ho.foot_lt h
  ·rename_i t xs n e;rw [e] at ho;exact ho.foot_lt h
  ·exact h.elim
theorem CompW.trans {ρ3:Nat→Loc} {objs3:aH κ Ty} {id:Nat} (hl:objs.length≤objs'.length) (h:CompW ρ objs ρ' objs' id) (g:Compat ρ' objs' ρ3 objs3 id):CompW ρ objs ρ3 objs3 id:=by
  have dead:id<objs.length→NB objs' id→NB objs3 id:=fun hi hg=>g.gone hg (by omega)
  unfold CompW at h⊢
  split
  ·rename_i t xs gn ho e
   rw [e] at h
   have hi:=(List.getElem?_eq_some_iff.mp e).1
   rcases h with ⟨ys,g',h',e',el,es⟩ | h
   ·unfold Compat at g;rw [e'] at g
    rcases g with ⟨zs,g3,h3,e3,el3,es3,_⟩ | g
    ·exact .inl ⟨zs,g3,h3,e3,el3.trans el,es.trans es3⟩
    ·exact .inr g
   ·exact .inr (dead hi h)
  ·rename_i hrw
   have h:Compat ρ objs ρ' objs' id:=by
     split at h
     ·rename_i e;exact absurd e (hrw _ _ _ _)
     ·exact h
   unfold Compat at h⊢
   split
   ·rename_i cs e
    rw [e] at h
    have hi:=(List.getElem?_eq_some_iff.mp e).1
    rcases h with ⟨cs',e',er⟩ | h
    ·unfold Compat at g;rw [e'] at g
     rcases g with ⟨cs3,e3,er3⟩ | g
     ·exact .inl ⟨cs3,e3,er3.trans er⟩
     ·exact .inr g
    ·exact .inr (dead hi h)
   ·rename_i t xs e
    rw [e] at h
    have hi:=(List.getElem?_eq_some_iff.mp e).1
    rcases h with ⟨ys,e',el,er⟩ | h
    ·unfold Compat at g;rw [e'] at g
     rcases g with ⟨zs,e3,el3,er3⟩ | g
     ·exact .inl ⟨zs,e3,el3.trans el,er3.trans er⟩
     ·exact .inr g
    ·exact .inr (dead hi h)
   ·rename_i k v es ho e
    rw [e] at h
    have hi:=(List.getElem?_eq_some_iff.mp e).1
    rcases h with ⟨es',ho',e',er⟩ | h
    ·unfold Compat at g;rw [e'] at g
     rcases g with ⟨es3,ho3,e3,er3⟩ | g
     ·exact .inl ⟨es3,ho3,e3,er3.trans er⟩
     ·exact .inr g
    ·exact .inr (dead hi h)
   ·rename_i e;exact absurd e (hrw _ _ _ _)
   ·rename_i t xs n e
    rw [e] at h
    have hi:=(List.getElem?_eq_some_iff.mp e).1
    rcases h with ⟨ys,e',el,es⟩ | h
    ·have:(∃zs:List (Ty t),kY objs3 id=some ⟨t,zs⟩∧zs.length=ys.length∧SameL (ρ' id) (ρ3 id))∨NB objs3 id:=by
       rcases jI e' with ⟨g',h',e1⟩ | ⟨n',e1⟩
       ·unfold Compat at g;rw [e1] at g
        exact g.imp (fun ⟨zs,g3,h3,a,b,c,_⟩=>⟨zs,cO a,b,c⟩) (fun h=>h)
       ·unfold Compat at g;rw [e1] at g
        exact g
     rcases this with ⟨zs,e3,el3,es3⟩ | g
     ·exact .inl ⟨zs,e3,el3.trans el,es.trans es3⟩
     ·exact .inr g
    ·exact .inr (dead hi h)
   ·rename_i e
    rw [e] at h
    have hi:=(List.getElem?_eq_some_iff.mp e).1
    exact dead hi h
   ·trivial
theorem SRel.step {Lent:Org κ Ty} {w0:World} {env:Env κ Ty} {tm:Array Value} (S:SRel C Mut Lent w0 ρ env objs tm w)
    (W:WStep w w' (bJ ρ objs) (bJ ρ' objs')) (hl:objs.length≤objs'.length) (hc:∀id,Compat ρ objs ρ' objs' id)
    (hob:∀id,ORel C w' Mut ρ' objs' id) (hinj:∀i j b,aG ρ' objs' i b→aG ρ' objs' j b→i=j)
    (hos:w'.os=w.os) (htape:w'.tape=w.tape) (hout:w'.output=w.output):SRel C Mut Lent w0 ρ' env objs' tm w' where
  env i:=(S.env i).imp id fun ⟨u,h1,h2⟩=>⟨u,h1,h2.step W hl hc⟩
  ob:=hob
  inj:=hinj
  live b hb:=by
    rcases W.foot b hb with h | h
    ·exact S.live b h
    ·have:=S.size
     exact ⟨fun hm=>by have:=S.mlt b hm;omega, .inr (by omega)⟩
  comp id:=(S.comp id).trans S.len (hc id)
  len:=Nat.le_trans S.len hl
  mlt:=S.mlt
  frame b hb hn:=by
    have:=S.size
    rw [W.block b (by omega) (fun hf=> ?_)]
    ·exact S.frame b hb hn
    ·rcases (S.live b hf).2 with h | h
     ·exact hn h
     ·omega
  size:=Nat.le_trans S.size W.size
  os:=hos.trans S.os
  tape:=htape.trans S.tape
  output:=hout.trans S.output
theorem Compat.refl (id:Nat):Compat ρ objs ρ objs id:=by
  unfold Compat
  split
  ·rename_i cs e;exact .inl ⟨cs,e,rfl⟩
  ·rename_i t xs e;exact .inl ⟨xs,e,rfl,rfl⟩
  ·rename_i k v es ho e;exact .inl ⟨es,ho,e,rfl⟩
  ·rename_i t xs g ho e;exact .inl ⟨xs,g,ho,e,rfl, .refl _,Nat.le_refl _,fun _ h=>⟨h,rfl,rfl⟩⟩
  ·rename_i t xs n e;exact .inl ⟨xs,gO e,rfl, .refl _⟩
  ·rename_i e;exact aZ e
  ·trivial
theorem CompW.refl (id:Nat):CompW ρ objs ρ objs id:=(Compat.refl id).weak
theorem Compat.of_eq {id:Nat} (h:id<objs.length→objs'[id]? =objs[id]?) (hr:id<objs.length→ρ' id=ρ id):Compat ρ objs ρ' objs' id:=by
  unfold Compat
  split
  ·rename_i cs e
   have:=(List.getElem?_eq_some_iff.mp e).1
   exact .inl ⟨cs,by rw [h this,e],hr this⟩
  ·rename_i t xs e
   have:=(List.getElem?_eq_some_iff.mp e).1
   exact .inl ⟨xs,by rw [h this,e],rfl,hr this⟩
  ·rename_i k v es ho e
   have:=(List.getElem?_eq_some_iff.mp e).1
   exact .inl ⟨es,ho,by rw [h this,e],by rw [hr this]⟩
  ·rename_i t xs g ho e
   have:=(List.getElem?_eq_some_iff.mp e).1
   exact .inl ⟨xs,g,ho,by rw [h this,e],rfl,by rw [hr this];exact .refl _,Nat.le_refl _,fun _ hh=>⟨hh,rfl,hr this⟩⟩
  ·rename_i t xs n e
   have:=(List.getElem?_eq_some_iff.mp e).1
   exact .inl ⟨xs,gO (by rw [h this,e]),rfl,by rw [hr this];exact .refl _⟩
  ·rename_i e
   have:=(List.getElem?_eq_some_iff.mp e).1
   exact aZ (by rw [h this,e])
  ·trivial
end Km
namespace Km
open Go
variable {κ:Type} {Ty:κ→Type} {R:Type}
def d2_:AV κ Ty→Option Value
  | .lit v=>some v
  | .nil _=>some (.slice none 0 0)
  | _=>none
def c8_ (C:Cod κ Ty):Shp κ→Bool
  | .slice e s=>(match C.shk s with | true=>Nat.beq e C.sht | false=>true)
  | .arr _ _ s=> !(C.shk s)
  | _=>true
structure TOk (P:Program) (C:Cod κ Ty) (T:TypeId→Option (TI κ Ty)):Prop where
  info:∀t ti,T t=some ti→∃i z,P.info? t=some i∧i.size=ti.size∧i.bytes=ti.bytes∧i.zero=some z∧z.cells.toList.map some=ti.zero.map d2_∧(∀v∈z.cells.toList,bD v=true)
  agg:∀t ti,T t=some ti→∃d,P.underlying t=some d∧(match d with | .struct _=>true | .array .. =>true | _=>false)=ti.agg
  int:∀t ti k,T t=some ti→ti.shp= .int k→P.underlying t=some (.int k)
  bool:∀t ti,T t=some ti→ti.shp= .bool→P.underlying t=some .bool
  str:∀t ti,T t=some ti→ti.shp= .str→P.underlying t=some .string
  struct:∀t ti fs,T t=some ti→ti.shp= .struct fs→∃fields,P.underlying t=some (.struct fields)∧fields.toList.map (fun f=>(f.offset,f.type))=fs∧(∀f∈fields.toList,∃i,P.info? f.type=some i∧i.size≠0)
  seq : ∀ t ti fs, T t = some ti → ti.shp = .struct fs → P.stoodInHeld t = false ∧ P.eqGuardType P.depth t = false ∧ ∀ fields, P.underlying t = some (.struct fields) → ∀ f ∈ fields.toList, f.name ≠ "_"
  arr:∀t ti n e s,T t=some ti→ti.shp= .arr n e s→P.underlying t=some (.array n e)∧(∃i,P.info? e=some i∧i.size=C.sz s∧i.bytes=C.by' s)∧∃te,T e=some te∧te.zero.length=C.sz s∧ti.zero=(List.replicate n te.zero).flatten
  map:∀t ti kt et k v,T t=some ti→ti.shp= .map kt et k v→P.underlying t=some (.map kt et)∧(∀x y,aeq T 8 kt (.agg (C.enc k x)) (.agg (C.enc k y))=some (C.keq k x y))∧
    (∃tk fs,T kt=some tk∧tk.shp= .struct fs∧∀f∈fs,∃tf,T f.2=some tf∧((∃q,tf.shp= .int q)∨tf.shp= .str))∧(∀x c,c∈C.enc k x→(∃q n,c= .lit (.int q n))∨∃s,c= .lit (.string s))∧∃i z,P.info? et=some i∧i.zero=some z∧bD z=true
  slice:∀t ti e s,T t=some ti→ti.shp= .slice e s→P.underlying t=some (.slice e)∧∃i,P.info? e=some i∧i.size=C.sz s∧i.bytes=C.by' s
  shk:∀t ti,T t=some ti→c8_ C ti.shp=true
theorem TOk.own {P:Program} {C:Cod κ Ty} {T:TypeId→Option (TI κ Ty)} (HT:TOk P C T) {t:TypeId} {ti:TI κ Ty} {e:TypeId} {s:κ} (ht:T t=some ti) (hs:ti.shp= .slice e s) (h:C.shk s=true):e=C.sht:=by
  have:=HT.shk t ti ht
  rw [hs] at this
  simp only [c8_,h] at this
  exact Nat.eq_of_beq_eq_true this
theorem TOk.noArr {P:Program} {C:Cod κ Ty} {T:TypeId→Option (TI κ Ty)} (HT:TOk P C T) {t:TypeId} {ti:TI κ Ty} {n:Nat} {e:TypeId} {s:κ} (ht:T t=some ti) (hs:ti.shp= .arr n e s) (h:C.shk s=true) {q:Prop}:q:=by
  have:=HT.shk t ti ht
  rw [hs] at this
  simp only [c8_,h] at this
  cases this
theorem nZ (b o j:Nat):(at' b o).add j=at' b (o+j):=by unfold Addr.add;split<;>simp_all [at']
section
variable {P:Program} {C:Cod κ Ty} {T:TypeId→Option (TI κ Ty)}
variable {Mut:Nat→Prop} {Lent:Org κ Ty} {w0 w w':World} {ρ ρ':Nat→Loc} {env:Env κ Ty} {objs objs':aH κ Ty} {a:Act}
variable {x:AV κ Ty} {next:Act→World→Prop} {Q:Exit→Act→World→Prop} {o:Oper}
theorem bG {u:Value} (h:(execOp a.eval o).run P w= .ok (.value u) w') (hn:next (a.put o.dst u) w'):o.wp P a w next Q:=by
  simp only [Oper.wp,h,Oper.upon];exact hn
theorem YS (h:(execOp a.eval o).run P w= .ok .skip w') (hn:next (a.put o.dst undef) w'):o.wp P a w next Q:=by
  simp only [Oper.wp,h,Oper.upon];exact hn
theorem BJ {b:Bool} {K:Bool→Option R} {r:R} (h:ifB b K=some r):K b=some r:=by cases b<;>exact h
theorem bind_some {α:Type} {x:Option α} {K:α→Option R} {r:R} (h:x.bind K=some r):∃y,x=some y∧K y=some r:=by
  cases x with
  | none=>cases h
  | some y=>exact ⟨y,rfl,h⟩
theorem P0 (S:SRel C Mut Lent w0 ρ env objs a.tmps w) (t:Nat):VRel C w Mut ρ objs (look env t) (a.tmps.getD t undef):=by
  rcases S.env t with h | ⟨u,h1,h2⟩
  ·rw [h];exact .undef
  ·have:a.tmps.getD t undef=u:=by simp [h1]
   rw [this];exact h2
theorem aX (HT:TOk P C T) (S:SRel C Mut Lent w0 ρ env objs a.tmps w) (ty:TypeId) (x:Operand):VRel C w Mut ρ objs (iV T env ty x) (a.eval x):=by
  cases x with
  | tmp t=>exact P0 S t
  | const v=>
    simp only [iV,Act.eval]
    split
    ·split
     ·split
      ·exact .nil
      ·exact .undef
     ·exact .undef
    ·exact .undef
    ·exact .undef
    ·rename_i h1 h2 h3
     refine .lit ?_
     cases v<;>simp_all [bD]
  | global g=>exact .lit rfl
  | func f=>exact .lit rfl
theorem a7 {v u:Value} (h:VRel C w Mut ρ objs (.lit v) u):u=v∧bD v=true:=by cases h with | lit h=>exact ⟨rfl,h⟩
theorem DL (HT:TOk P C T) {t:TypeId} {ti:TI κ Ty} (h:T t=some ti) (w:World):(isAgg t).run P w= .ok ti.agg w:=by
  obtain ⟨d,h1,h2⟩:=HT.agg t ti h
  simp only [isAgg,Sem.run_bind,run_underlying h1,Result.andThen_ok]
  cases d<;>simp_all
theorem OW {t:TypeId} {i:TypeInfo} (h:P.info? t=some i) (w:World):(typeInfo t).run P w= .ok i w:=by
  simp [typeInfo,h]
theorem rP {t:TypeId} {i:TypeInfo} (h:P.info? t=some i) (w:World):(Go.sizeOf t).run P w= .ok i.size w:=by
  simp [Go.sizeOf,OW h]
theorem AH (HT:TOk P C T) {t:TypeId} {ti:TI κ Ty} (h:T t=some ti) (w:World):(Go.sizeOf t).run P w= .ok ti.size w:=by
  obtain ⟨i,z,h1,h2,_⟩:=HT.info t ti h
  rw [←h2];exact rP h1 w
theorem zK (HT:TOk P C T) {t:TypeId} {ti:TI κ Ty} (h:T t=some ti) (w:World):∃z,(zeroValue t).run P w= .ok z w∧z.cells.toList.map some=ti.zero.map d2_∧(∀v∈z.cells.toList,bD v=true):=by
  obtain ⟨i,z,h1,h2,_,h3,h4,h5⟩:=HT.info t ti h
  exact ⟨z,by simp [zeroValue,OW h1,h3],h4,h5⟩
theorem rC (HT:TOk P C T) {t:TypeId} {ti:TI κ Ty} (ht:T t=some ti) {cs:List (AV κ Ty)} {b base off:Nat} {v:AV κ Ty}
    (hcell:∀j cl,cs[j]? =some cl→∃u,w.cell? (at' b (base+j))=some u∧bD u=true∧VRel C w Mut ρ objs cl u)
    (h:GH ti cs off=some v):∃u,(loadVar t (at' b (base+off))).run P w= .ok u w∧VRel C w Mut ρ objs v u:=by
  unfold GH at h
  split at h
  ·rename_i hag
   split at h
   ·rename_i hle
    have hle:off+ti.size≤cs.length:=Nat.le_of_ble_eq_true hle
    cases h
    have hall:∀j,j<ti.size→∃u,w.cell? (at' b (base+off+j))=some u∧bD u=true∧∃cl,cs[off+j]? =some cl∧VRel C w Mut ρ objs cl u:=by
      intro j hj
      have hlt:off+j<cs.length:=by omega
      obtain ⟨u,h1,h2,h3⟩:=hcell (off+j) cs[off+j] (List.getElem?_eq_getElem hlt)
      exact ⟨u,by rw [Nat.add_assoc];exact h1,h2,_,List.getElem?_eq_getElem hlt,h3⟩
    let f:Nat→Value:=fun j=>(w.cell? (at' b (base+off+j))).getD Go.undef
    have hf:∀j,j<ti.size→w.cell? (at' b (base+off+j))=some (f j):=fun j hj=>by
      obtain ⟨u,h1,_⟩:=hall j hj
      simp [f,h1]
    refine ⟨.agg ((List.range ti.size).map f).toArray, ?_, ?_⟩
    ·have hl:=run_loadCells (P:=P) w (at' b (base+off)) ti.size f (fun j hj=>by rw [nZ];exact hf j hj)
     simp [loadVar,DL HT ht,hag,AH HT ht,hl]
    ·refine .agg (by simp;omega) (fun j u hj=> ?_) (fun j cl u hj1 hj2=> ?_)
     ·simp only [List.getElem?_map,Option.map_eq_some_iff] at hj
      obtain ⟨j',h1,rfl⟩:=hj
      have h2:j'<ti.size:=by
        have:=List.mem_of_getElem? h1;simpa using this
      obtain ⟨u,g1,g2,_⟩:=hall j' h2
      have:f j'=u:=by simp [f,g1]
      rw [this];exact g2
     ·have hjs:j<ti.size:=by
        have:=(List.getElem?_eq_some_iff.mp hj2).1;simpa using this
      rw [List.getElem?_take_of_lt hjs,List.getElem?_drop] at hj1
      obtain ⟨u',g1,g2,cl',g3,g4⟩:=hall j hjs
      rw [hj1] at g3;cases g3
      have:u=u':=by
        simp [List.getElem?_map,List.getElem?_range hjs,f,g1] at hj2
        exact hj2.symm
      rw [this];exact g4
   ·cases h
  ·rename_i hag
   obtain ⟨u,h1,h2,h3⟩:=hcell off v h
   exact ⟨u,by simp [loadVar,DL HT ht,hag,run_load,h1],h3⟩
theorem u7 (HC:bH C) {t:κ} {x:Ty t} {cl:AV κ Ty} {u:Value} (hm:cl∈C.enc t x) (h:VRel C w Mut ρ objs cl u):bD u=true:=by
  rcases HC.deep t x cl hm with ⟨v,rfl⟩ | ⟨s,xs,rfl,_⟩
  ·exact (a7 h).1▸(a7 h).2
  ·cases h with | inl=>rfl
theorem ZH (h:nY objs x=true) {u:Value} (hr:VRel C w Mut ρ objs x u):
    (∃id off cs,x= .ref id off∧objs[id]? =some (.box cs)∧u= .pointer (some (at' (ρ id).block ((ρ id).off+off))))∨
    (∃id i off t xs,x= .eref id i off∧objs[id]? =some (.sl t xs)∧i<xs.length∧u= .pointer (some (at' (ρ id).block ((ρ id).off+i*C.sz t+off))))∨
    (∃b cs off blk base,x= .cadr b cs off∧u= .pointer (some (at' blk (base+off)))∧¬Xs Mut ρ objs b blk∧blk<w.heap.size∧∀j cl,cs[j]? =some cl→∃v,w.cell? (at' blk (base+j))=some v∧VRel C w Mut ρ objs cl v)∨
    (∃id i off t xs,x= .rwp id i off∧kY objs id=some ⟨t,xs⟩∧i<xs.length∧u= .pointer (some (at' (ρ id).block ((ρ id).off+i*C.sz t+off)))):=by
  cases hr with
  | ref h1=>exact .inl ⟨_,_,_,rfl,h1,rfl⟩
  | refd hcl hin h1=>simp [nY,h1] at h
  | eref h1 hi=>exact .inr (.inl ⟨_,_,_,_,_,rfl,h1,hi,rfl⟩)
  | erefd hcl hin h1=>simp [nY,h1] at h
  | cadr hX hlt hcell hisc hrel=>exact .inr (.inr (.inl ⟨_,_,_,_,_,rfl,rfl,hX,hlt,fun j cl hj=>⟨_,hcell j cl hj,hrel j cl hj⟩⟩))
  | rwp h1 hi=>exact .inr (.inr (.inr ⟨_,_,_,_,_,rfl,h1,hi,rfl⟩))
  | rwpd hcl hin h1=>simp [nY,h1] at h
  | _=>simp [nY] at h
theorem FP (h:nY objs x=true) {u:Value} (hr:VRel C w Mut ρ objs x u):∃b o,u= .pointer (some (at' b o)):=by
  rcases ZH h hr with ⟨_,_,_,_,_,rfl⟩ | ⟨_,_,_,_,_,_,_,_,rfl⟩ | ⟨_,_,_,_,_,_,rfl,_⟩ | ⟨_,_,_,_,_,_,_,_,rfl⟩<;>exact ⟨_,_,rfl⟩
theorem ab_ {fs:List (Nat×TypeId)} {f d:Nat} {t:TypeId} {x v:AV κ Ty} {b k:Nat} (hd:fs[f]? =some (d,t)) (ha:nY objs x=true) (h:XL fs f x=some v)
    (hr:VRel C w Mut ρ objs x (.pointer (some (at' b k)))):VRel C w Mut ρ objs v (.pointer (some (at' b (k+d)))):=by
  simp only [XL,hd] at h
  cases hr with
  | ref h1=>cases h;rw [Nat.add_assoc];exact .ref h1
  | refd hcl hin h1=>simp [nY,h1] at ha
  | eref h1 hi=>cases h;rw [Nat.add_assoc];exact .eref h1 hi
  | erefd hcl hin h1=>simp [nY,h1] at ha
  | cadr hX hlt hcell hisc hrel=>cases h;rw [Nat.add_assoc];exact .cadr hX hlt hcell hisc hrel
  | rwp h1 hi=>cases h;rw [Nat.add_assoc];exact .rwp h1 hi
  | rwpd hcl hin h1=>simp [nY,h1] at ha
  | _=>simp [nY] at ha
theorem Q5 {id g i:Nat}:∀{cs:List (AV κ Ty)} {k j:Nat} {cl:AV κ Ty},(N3 id g i k cs)[j]? =some cl→∃c,cs[j]? =some c∧((∃b t xs,c= .inl b t xs∧cl= .xr id g i (k+j) t xs)∨((∀b t xs,c≠ .inl b t xs)∧cl=c))
  | [],k,j,cl,h=>by simp [N3] at h
  | c::cs,k,0,cl,h=>by
    simp only [N3,List.getElem?_cons_zero,Option.some.injEq] at h
    refine ⟨c,by simp, ?_⟩
    split at h
    ·exact .inl ⟨_,_,_,rfl,h.symm⟩
    ·rename_i hn;exact .inr ⟨hn,h.symm⟩
  | c::cs,k,j+1,cl,h=>by
    simp only [N3,List.getElem?_cons_succ] at h
    obtain ⟨c',h1,h2⟩:=Q5 h
    exact ⟨c',by simpa using h1,by rw [show k+(j+1)=k+1+j by omega];exact h2⟩
theorem CW {L:Nat×Nat×Nat} {b:Bool} {s:κ} {xs:List (Ty s)} {u:Value} (h:EntR C w Mut ρ objs L [.inl b s xs] u):∃A,u= .slice A xs.length L.2.2∧(L.2.2≠0→A=some (at' L.1 L.2.1))∧SlAt C w Mut ρ objs L.1 L.2.1 L.2.2 s xs:=h
theorem P3 {L:Nat×Nat×Nat} {v u:Value} (h:EntR C w Mut ρ objs L [.lit v] u):u=v∧bD v=true∧L.2.2=0:=h
theorem LH (HT:TOk P C T) (HC:bH C) (S:SRel C Mut Lent w0 ρ env objs a.tmps w) {t:TypeId} {ti:TI κ Ty} (ht:T t=some ti) {x:AV κ Ty} {u:Value} (hx:VRel C w Mut ρ objs x u)
    {K:AV κ Ty→Option R} {r:R} (h:GC C objs ti x K=some r):∃v u',K v=some r∧(Instr.loadAt t u).run P w= .ok u' w∧VRel C w Mut ρ objs v u':=by
  unfold GC at h
  split at h
  ·rename_i id off
   split at h
   ·rename_i cs hb
    split at h
    ·rename_i v hv
     have hb':=N8 hb
     have ho:=S.ob id
     simp only [ORel,hb'] at ho
     cases hx with
     | ref h1=>
       obtain ⟨u',h2,h3⟩:=rC (P:=P) HT ht (b:=(ρ id).block) (base:=(ρ id).off) (fun j cl hj=>by
         obtain ⟨q,g1,g2,g3,_⟩:=ho.2.1 j cl hj
         exact ⟨q,g1,g2,g3⟩) hv
       exact ⟨v,u',h,by simp [Instr.loadAt,Instr.sureAddr,h2],h3⟩
     | refd hcl hin h1=>rw [h1] at hb;cases hb
    ·cases h
   ·cases h
  ·rename_i id i off
   split at h
   ·rename_i s xs hs
    obtain ⟨x1,hx1,h⟩:=bind_some h
    split at h
    ·rename_i v hv
     have hs':=cB hs
     have ho:=S.ob id
     simp only [ORel,hs'] at ho
     cases hx with
     | eref h1 hi=>
       rw [hs'] at h1
       cases h1
       obtain ⟨u',h2,h3⟩:=rC (P:=P) HT ht (b:=(ρ id).block) (base:=(ρ id).off+i*C.sz s) (fun j cl hj=>by
         obtain ⟨q,g1,g2⟩:=ho.2.2.1 i x1 j cl hx1 hj
         exact ⟨q,g1,u7 HC (List.mem_of_getElem? hj) g2,g2⟩) hv
       exact ⟨v,u',h,by simp [Instr.loadAt,Instr.sureAddr,h2],h3⟩
     | erefd hcl hin h1=>rw [h1] at hs;cases hs
    ·cases h
   ·cases h
  ·rename_i b cs off
   split at h
   ·rename_i v hv
    cases hx with
    | cadr hX hlt hcell hisc hrel=>
      rename_i blk base vals
      obtain ⟨u',h2,h3⟩:=rC (P:=P) HT ht (b:=blk) (base:=base) (fun j cl hj=>⟨_,hcell j cl hj,hisc j cl hj,hrel j cl hj⟩) hv
      exact ⟨v,u',h,by simp [Instr.loadAt,Instr.sureAddr,h2],h3⟩
   ·cases h
  ·rename_i id i off
   split at h
   ·rename_i s xs g e
    obtain ⟨x1,hx1,h⟩:=bind_some h
    split at h
    ·rename_i v hv
     have ho:=S.ob id
     simp only [ORel,e] at ho
     cases hx with
     | rwp h1 hi=>
       rw [cO e] at h1
       cases h1
       obtain ⟨u',h2,h3⟩:=rC (P:=P) (Mut:=Mut) (ρ:=ρ) (objs:=objs) HT ht (b:=(ρ id).block) (base:=(ρ id).off+i*C.sz s) (fun j cl hj=>by
         obtain ⟨c,g1,g2⟩:=Q5 hj
         obtain ⟨q,k1,k2⟩:=ho.cell i x1 j c hx1 g1
         have k2:EntR C w Mut ρ objs ((ρ id).sub (i*C.sz s+j)) [c] q:=k2
         refine ⟨q,k1,k2.cell, ?_⟩
         rw [Nat.zero_add] at g2
         rcases g2 with ⟨b,t',ys,rfl,rfl⟩ | ⟨hn,rfl⟩
         ·obtain ⟨A,e1,e2,_⟩:=CW k2
          exact .xr k2.cell e (Nat.le_refl _) fun _ _=>⟨b,x1,A,hx1,g1,e1,e2⟩
         ·rcases HC.deep s x1 _ (List.mem_of_getElem? g1) with ⟨v,rfl⟩ | ⟨s',ys,rfl,_⟩
          ·obtain ⟨e1,e2,_⟩:=P3 k2
           rw [e1];exact .lit e2
          ·exact absurd rfl (hn _ _ _)) hv
       exact ⟨v,u',h,by simp [Instr.loadAt,Instr.sureAddr,h2],h3⟩
     | rwpd hcl hin h1=>rw [jM (cO e)] at h1;cases h1
    ·cases h
   ·rename_i s xs n e
    obtain ⟨x1,hx1,h⟩:=bind_some h
    split at hx1
    ·rename_i hn
     split at h
     ·rename_i v hv
      have ho:=S.ob id
      simp only [ORel,e] at ho
      cases hx with
      | rwp h1 hi=>
        rw [gO e] at h1
        cases h1
        obtain ⟨u',h2,h3⟩:=rC (P:=P) HT ht (b:=(ρ id).block) (base:=(ρ id).off+i*C.sz s) (fun j cl hj=>by
          obtain ⟨q,k1,k2⟩:=ho.cell i x1 j cl hx1 hj
          have k2:RCell C w Mut ρ objs ((ρ id).sub (i*C.sz s+j)) (dr_ n i j) cl q:=k2
          rw [dr_,if_neg (by omega)] at k2
          exact ⟨q,k1,u7 HC (List.mem_of_getElem? hj) k2.2,k2.2⟩) hv
        exact ⟨v,u',h,by simp [Instr.loadAt,Instr.sureAddr,h2],h3⟩
      | rwpd hcl hin h1=>rw [jM (gO e)] at h1;cases h1
     ·cases h
    ·cases hx1
   ·cases h
  ·cases h
theorem ZD {op:BinOp} {k:IntKind} {p q:Int} {K:Value→Option R} {r:R} (t:TypeId) (hs:op≠ .shl∧op≠ .shr) (h:fe_ op k p q K=some r):
    ∃v,K v=some r∧bD v=true∧(binOp op t (.int k p) (.int k q)).run P w= .ok v w:=by
  cases op<;>simp only [fe_] at h<;>first
    | (exact ⟨_,h,rfl,by simp [binOp,Op.intArith,Op.intCmp,Op.intBits]⟩)
    | (obtain ⟨y,hy,h⟩:=bind_some h
       unfold UH at hy
       split at hy
       ·cases hy
       ·rename_i hne;cases hy
        exact ⟨_,h,rfl,by simp [binOp,Op.intDiv,hne]⟩)
    | (obtain ⟨y,hy,h⟩:=bind_some h
       unfold J0 at hy
       split at hy
       ·cases hy
       ·rename_i hne;cases hy
        exact ⟨_,h,rfl,by simp [binOp,Op.intDiv,hne]⟩)
    | (cases h;done)
    | (exact absurd rfl hs.1)
    | (exact absurd rfl hs.2)
theorem f9_:IntKind.i64.max=9223372036854775807:=by decide
theorem ZO {op:BinOp} {p q:ByteArray} {K:Value→Option R} {r:R} (t:TypeId) (h:fg_ op p q K=some r):
    ∃v,K v=some r∧bD v=true∧(binOp op t (.string p) (.string q)).run P w= .ok v w:=by
  cases op<;>simp only [fg_] at h<;>first
    | (cases h;done)
    | (exact ⟨_,h,rfl,by simp [binOp,Op.stringOp]⟩)
    | (obtain ⟨y,hy,h⟩:=bind_some h
       unfold dK at hy
       split at hy
       ·cases hy
        refine ⟨_,h,rfl, ?_⟩
        have hle:¬(((p.size+q.size:Nat):Int)>IntKind.i64.max):=by rw [f9_];omega
        simp only [binOp,Op.stringOp,hle,if_false,Sem.run_pure]
       ·cases hy)
theorem IV {op:BinOp} {k k':IntKind} {p q:Int} {v:Int} (t:TypeId) (h:shift op k p q=some v):bD (.int k v)=true∧(binOp op t (.int k p) (.int k' q)).run P w= .ok (.int k v) w:=by
  cases op<;>simp only [shift] at h<;>first
    | (cases h;done)
    | (split at h
       ·cases h
       ·rename_i hn;cases h;exact ⟨rfl,by simp [binOp,Op.shift,hn]⟩)
theorem bF_ {t:TypeId} (HB:P.underlying t=some .bool) (p q:Bool) (d:Nat):(Op.equalIn (d+1) t (.bool p) (.bool q)).run P w= .ok (p==q) w:=by
  simp only [Op.equalIn,Sem.run_bind,run_underlying HB,Result.andThen_ok]
  rfl
theorem d1_ {t:TypeId} (HB:P.underlying t=some .bool) (p q:Bool):(Op.equal t (.bool p) (.bool q)).run P w= .ok (p==q) w:=bF_ HB p q 9999
theorem tR {op:BinOp} {t:TypeId} {x y:Operand} {u v:Value} (h:∀cs,u≠ .agg cs) (h':u≠ .nilIface):(eqGuard op t x y u v).run P w= .ok () w:=by
  unfold eqGuard
  cases u<;>cases op<;>simp at h h'⊢
theorem ad_ (HT:TOk P C T) {t:TypeId} {ti:TI κ Ty} (ht:T t=some ti) {op:BinOp} {p q:AV κ Ty} {up uq:Value} (x y:Operand) (hp:VRel C w Mut ρ objs p up) (hq:VRel C w Mut ρ objs q uq)
    {K:AV κ Ty→Option R} {r:R} (h:fc_ ti op p q K=some r):∃v u,K v=some r∧(do eqGuard op t x y up uq;binOp op t up uq:Sem Value).run P w= .ok u w∧VRel C w Mut ρ objs v u:=by
  unfold fc_ at h
  split at h
  ·split at h
   ·obtain ⟨v,hv,h⟩:=bind_some h
    obtain ⟨rfl,_⟩:=a7 hp
    obtain ⟨rfl,_⟩:=a7 hq
    obtain ⟨h1,h2⟩:=IV (P:=P) (w:=w) t hv
    exact ⟨_,_,h,by rw [Sem.run_bind,tR (by simp) (by simp)];exact h2, .lit h1⟩
   ·cases h
  ·split at h
   ·obtain ⟨v,hv,h⟩:=bind_some h
    obtain ⟨rfl,_⟩:=a7 hp
    obtain ⟨rfl,_⟩:=a7 hq
    obtain ⟨h1,h2⟩:=IV (P:=P) (w:=w) t hv
    exact ⟨_,_,h,by rw [Sem.run_bind,tR (by simp) (by simp)];exact h2, .lit h1⟩
   ·cases h
  ·rename_i n1 n2
   split at h
   ·split at h
    ·rename_i hk
     have hk:=of_decide_eq_true hk
     subst hk
     obtain ⟨rfl,_⟩:=a7 hp
     obtain ⟨rfl,_⟩:=a7 hq
     obtain ⟨v,h0,h1,h2⟩:=ZD (P:=P) (w:=w) t ⟨n1,n2⟩ h
     exact ⟨_,_,h0,by rw [Sem.run_bind,tR (by simp) (by simp)];exact h2, .lit h1⟩
    ·cases h
   ·obtain ⟨rfl,_⟩:=a7 hp
    obtain ⟨rfl,_⟩:=a7 hq
    obtain ⟨v,h0,h1,h2⟩:=ZO (P:=P) (w:=w) t h
    exact ⟨_,_,h0,by rw [Sem.run_bind,tR (by simp) (by simp)];exact h2, .lit h1⟩
   ·obtain ⟨rfl,_⟩:=a7 hp
    obtain ⟨rfl,_⟩:=a7 hq
    split at h
    ·rename_i hs
     have HB:=HT.bool t ti ht hs
     split at h
     ·exact ⟨_,_,h,by rw [Sem.run_bind,tR (by simp) (by simp)];simp [binOp,d1_ HB], .lit rfl⟩
     ·exact ⟨_,_,h,by rw [Sem.run_bind,tR (by simp) (by simp)];simp [binOp,d1_ HB], .lit rfl⟩
     ·cases h
    ·cases h
   ·cases h
end
end Km
namespace Km
open Go
variable {κ:Type} {Ty:κ→Type} {R:Type}
theorem DQ {α:Type} (cs:List α) (o:Nat):dD cs o []=cs:=by cases cs<;>rfl
theorem kG {α:Type}:∀(cs:List α) (o:Nat) (ns:List α),(dD cs o ns).length=cs.length
  | cs,o,[]=>by rw [DQ]
  | [],_,_::_=>rfl
  | c::cs,0,n::ns=>by simp [dD,kG cs 0 ns]
  | c::cs,o+1,n::ns=>by simp [dD,kG cs o (n::ns)]
theorem eT {α:Type}:∀(cs:List α) (o:Nat) (ns:List α) (j:Nat),o+ns.length≤cs.length→
    (dD cs o ns)[j]? =if o≤j∧j<o+ns.length then ns[j-o]? else cs[j]?
  | cs,o,[],j,_=>by rw [DQ,if_neg (by simp)]
  | [],_,_::_,j,h=>by simp at h
  | c::cs,0,n::ns,0,h=>by simp [dD]
  | c::cs,0,n::ns,j+1,h=>by
    have:=eT cs 0 ns j (by simp at h;omega)
    simp only [dD,List.getElem?_cons_succ,this]
    by_cases hj:j<ns.length
    ·rw [if_pos ⟨by omega,by omega⟩,if_pos ⟨by omega,by simp;omega⟩];simp
    ·rw [if_neg (by omega),if_neg (by simp;omega)]
  | c::cs,o+1,n::ns,0,h=>by simp [dD]
  | c::cs,o+1,n::ns,j+1,h=>by
    have:=eT cs o (n::ns) j (by simp at h⊢;omega)
    simp only [dD,List.getElem?_cons_succ,this]
    by_cases hj:o≤j∧j<o+(n::ns).length
    ·rw [if_pos hj,if_pos ⟨by omega,by omega⟩];congr 1;omega
    ·rw [if_neg hj,if_neg (by omega)]
theorem VK {α:Type}:∀(cs:List α) (o:Nat) (n:α) (ns:List α),o+(n::ns).length≤cs.length→dD (cs.set o n) (o+1) ns=dD cs o (n::ns):=by
  intro cs o n ns h
  apply List.ext_getElem?
  intro j
  rw [eT _ _ _ _ (by simp at h⊢;omega),eT _ _ _ _ h]
  simp only [List.length_cons] at h⊢
  by_cases h1:o+1≤j∧j<o+1+ns.length
  ·rw [if_pos h1,if_pos ⟨by omega,by omega⟩]
   obtain ⟨i,rfl⟩:∃i,j=o+1+i:=⟨j-(o+1),by omega⟩
   simp [show o+1+i-(o+1)=i by omega,show o+1+i-o=i+1 by omega]
  ·rw [if_neg h1]
   by_cases h2:o≤j∧j<o+(ns.length+1)
   ·have:j=o:=by omega
    subst this
    rw [if_pos h2]
    simp [show j<cs.length by omega]
   ·rw [if_neg h2,List.getElem?_set_ne (by omega)]
theorem BB {α:Type}:∀(ns:List α) (k:Nat) (cs:Array α) (off:Nat),off+k+ns.length≤cs.size→
    ((ns.zipIdx k).foldl (fun cs (p:α×Nat)=>cs.setIfInBounds (off+p.2) p.1) cs).toList=dD cs.toList (off+k) ns
  | [],k,cs,off,_=>by simp [DQ]
  | n::ns,k,cs,off,h=>by
    simp only [List.zipIdx_cons,List.foldl_cons]
    simp only [List.length_cons] at h
    rw [BB ns (k+1) _ off (by simp;omega)]
    rw [Array.toList_setIfInBounds,show off+(k+1)=off+k+1 by omega]
    exact VK _ _ _ _ (by simp;omega)
section
variable {P:Program} {C:Cod κ Ty} {T:TypeId→Option (TI κ Ty)}
variable {Mut:Nat→Prop} {Lent:Org κ Ty} {w0 w w':World} {ρ ρ':Nat→Loc} {env:Env κ Ty} {objs objs':aH κ Ty} {a:Act}
theorem XH {α β:Type} (f:α→Sem β) (g:α→β):∀(l:List α),(∀x∈l,(f x).run P w= .ok (g x) w)→(l.mapM f).run P w= .ok (l.map g) w
  | [],_=>by simp
  | x::l,h=>by
    have ih:=XH f g l (fun y hy=>h y (by simp [hy]))
    simp [List.mapM_cons,h x (by simp),ih]
theorem ca_ {α β:Type} (f:α→Sem β) (g:α→β) (l:Array α) (h:∀x∈l.toList,(f x).run P w= .ok (g x) w):(l.mapM f).run P w= .ok (l.map g) w:=by
  rw [Array.mapM_eq_mapM_toList]
  have:=XH (P:=P) (w:=w) f g l.toList h
  simp only [Sem.run_map,this,Result.andThen_ok]
  congr 1
  apply Array.ext'
  simp
def Cells (C:Cod κ Ty) (w:World) (Mut:Nat→Prop) (ρ:Nat→Loc) (objs:aH κ Ty) (cs:List (AV κ Ty)) (us:List Value):Prop:=
  us.length=cs.length∧(∀(j:Nat) (u:Value),us[j]? =some u→bD u=true)∧∀(j:Nat) (cl:AV κ Ty) (u:Value),cs[j]? =some cl→us[j]? =some u→VRel C w Mut ρ objs cl u
theorem Cells.agg {cs:List (AV κ Ty)} {us:List Value} (h:Cells C w Mut ρ objs cs us):VRel C w Mut ρ objs (.agg cs) (.agg us.toArray):= .agg h.1 h.2.1 h.2.2
theorem Q3 {cs ns:List (AV κ Ty)} {us vs:List Value} {o:Nat} (h:Cells C w Mut ρ objs cs us) (h':Cells C w Mut ρ objs ns vs) (hle:o+ns.length≤cs.length):Cells C w Mut ρ objs (dD cs o ns) (dD us o vs):=by
  obtain ⟨h1,h2,h3⟩:=h
  obtain ⟨g1,g2,g3⟩:=h'
  refine ⟨by rw [kG,kG,h1],fun j u hj=> ?_,fun j cl u hc hu=> ?_⟩
  ·rw [eT _ _ _ _ (by omega)] at hj
   split at hj
   ·exact g2 _ _ hj
   ·exact h2 _ _ hj
  ·rw [eT _ _ _ _ (by omega)] at hc hu
   rw [g1] at hu
   split at hc
   ·rename_i hh;rw [if_pos hh] at hu;exact g3 _ _ _ hc hu
   ·rename_i hh;rw [if_neg hh] at hu;exact h3 _ _ _ hc hu
theorem ai_ {x:AV κ Ty} {u:Value} {cs:List (AV κ Ty)} (h:cellsOf x=some cs) (hr:VRel C w Mut ρ objs x u) (hx:∀l,x≠ .agg l):bD u=true∧cs=[x]:=by
  cases hr with
  | agg hl hcell hrel=>exact absurd rfl (hx _)
  | lit hc=>cases h;exact ⟨hc,rfl⟩
  | tup=>cases h
  | void=>cases h
  | undef=>cases h
  | _=>cases h;exact ⟨by first | rfl | assumption,rfl⟩
theorem oP {x:AV κ Ty} {u:Value} {cs:List (AV κ Ty)} (h:cellsOf x=some cs) (hr:VRel C w Mut ρ objs x u):Cells C w Mut ρ objs cs u.cells.toList:=by
  by_cases hx:∃l,x= .agg l
  ·obtain ⟨l,rfl⟩:=hx
   cases h
   cases hr with
   | agg hl hcell hrel=>exact ⟨hl,hcell,hrel⟩
  ·obtain ⟨hc,rfl⟩:=ai_ h hr (fun l e=>hx ⟨l,e⟩)
   have he:u.cells= #[u]:=by cases u<;>simp_all [bD,Value.cells]
   rw [he]
   refine ⟨rfl,fun j u' hj=> ?_,fun j cl u' hc' hu'=> ?_⟩
   ·cases j<;>simp at hj;subst hj;exact hc
   ·cases j<;>simp at hc' hu';subst hc';subst hu';exact hr
theorem EE {u:Value} (h:bD u=true):u.oneCell'=true:=by cases u<;>simp_all [bD,Value.oneCell']
theorem tV {P:Program} (HT:TOk P C T) {t:TypeId} {ti:TI κ Ty} (ht:T t=some ti) (w:World):∃z,(zeroValue t).run P w= .ok z w∧Cells C w Mut ρ objs ti.zero z.cells.toList:=by
  obtain ⟨z,h1,h2,h3⟩:=zK HT ht w
  have hl:z.cells.toList.length=ti.zero.length:=by have:=congrArg List.length h2;simpa using this
  refine ⟨z,h1,hl,fun j u hj=>h3 u (List.mem_of_getElem? hj),fun j cl u hc hu=> ?_⟩
  have:=congrArg (fun l=>l[j]?) h2
  simp only [List.getElem?_map,hu,hc,Option.map_some] at this
  cases cl<;>simp [d2_] at this
  ·rw [←this];exact .lit (h3 u (List.mem_of_getElem? hu))
  ·rw [this];exact .nil
theorem cg_ {P:Program} (HT:TOk P C T) {t:TypeId} {ti:TI κ Ty} (ht:T t=some ti) (w:World) {z:Value} (hz:(zeroValue t).run P w= .ok z w) (h:gI_ ti.zero=true):z.cells[1]? =some (.slice none 0 0):=by
  obtain ⟨z',h1,h2,h3⟩:=zK HT ht w
  rw [hz] at h1
  cases h1
  have:=congrArg (fun l=>l[1]?) h2
  simp only [List.getElem?_map] at this
  rw [←Array.getElem?_toList]
  revert h this
  cases ti.zero with
  | nil=>intro h;cases h
  | cons c cs=>cases cs with
    | nil=>intro h;cases h
    | cons d ds=>
      intro h
      cases d<;>first | (cases h;done) | skip
      intro h
      simp only [List.getElem?_cons_succ,List.getElem?_cons_zero,Option.map_some,d2_] at h
      cases hq:z.cells.toList[1]? with
      | none=>rw [hq] at h;cases h
      | some u=>rw [hq] at h;simp at h;rw [h]
end
end Km
namespace Km
open Go
variable {κ:Type} {Ty:κ→Type} {R:Type}
section
variable {P:Program} {C:Cod κ Ty} {T:TypeId→Option (TI κ Ty)}
variable {Mut:Nat→Prop} {Lent:Org κ Ty} {w0 w w':World} {ρ ρ':Nat→Loc} {env:Env κ Ty} {objs objs':aH κ Ty} {a:Act}
def Parts (C:Cod κ Ty) (w:World) (Mut:Nat→Prop) (ρ:Nat→Loc) (objs:aH κ Ty):List (Nat×AV κ Ty)→List (Nat×Value)→Prop
  | [],[]=>True
  | (i,x)::ps,(j,u)::qs=>i=j∧VRel C w Mut ρ objs x u∧Parts C w Mut ρ objs ps qs
  | _,_=>False
theorem uX (HT:TOk P C T) (S:SRel C Mut Lent w0 ρ env objs a.tmps w) (ty:Nat→TypeId):∀(ps:List (Nat×Operand)),Parts C w Mut ρ objs (kX T env ty ps) (ps.map fun p=>(p.1,a.eval p.2))
  | []=>trivial
  | (i,x)::ps=>⟨rfl,aX HT S _ _,uX HT S ty ps⟩
theorem NH (HT:TOk P C T) {fs:List (Nat×TypeId)} {place:Nat→Option (Nat×Nat)} (hp:∀i d t ti,fs[i]? =some (d,t)→T t=some ti→place i=some (d,ti.size)):
    ∀(ps:List (Nat×AV κ Ty)) (qs:List (Nat×Value)) (cs cs':List (AV κ Ty)) (us:Array Value),Parts C w Mut ρ objs ps qs→Cells C w Mut ρ objs cs us.toList→bi_ T fs cs ps=some cs'→
     ∃us',Instr.fill place us qs=some us'∧Cells C w Mut ρ objs cs' us'.toList
  | [],[],cs,cs',us,_,hc,h=>by cases h;exact ⟨us,rfl,hc⟩
  | (i,x)::ps,(j,u)::qs,cs,cs',us,hpq,hc,h=>by
    obtain ⟨rfl,hx,hrest⟩:=hpq
    simp only [bi_] at h
    split at h
    ·cases h
    ·rename_i d t hd
     split at h
     ·rename_i ns ti hns hti
      split at h
      ·rename_i heq
       split at h
       ·rename_i hle
        have heq:=Nat.eq_of_beq_eq_true heq
        have hle:=Nat.le_of_ble_eq_true hle
        have hns':=oP hns hx
        have hsz:u.cells.size=ti.size:=by have:=hns'.1;simp at this;omega
        have hlen:=hc.1
        have hsp:=Q3 hc hns' hle
        have hf:=BB u.cells.toList 0 us d (by simp at hlen⊢;omega)
        simp only [Nat.add_zero] at hf
        obtain ⟨us',h1,h2⟩:=NH HT hp ps qs _ cs' (u.cells.zipIdx.foldl (fun cs (c,j)=>cs.setIfInBounds (d+j) c) us) hrest (by
          rw [←Array.foldl_toList,Array.toList_zipIdx]
          rw [hf];exact hsp) h
        refine ⟨us', ?_,h2⟩
        simp only [Instr.fill,hp i d t ti hd hti]
        rw [if_neg (by simp at hlen⊢;omega)]
        exact h1
       ·cases h
      ·cases h
     ·cases h
  | [],_::_,_,_,_,h,_,_=>h.elim
  | _::_,[],_,_,_,h,_,_=>h.elim
theorem UK (HT:TOk P C T) {t:TypeId} {ti:TI κ Ty} (ht:T t=some ti) {fs:List (Nat×TypeId)} (hs:ti.shp= .struct fs) {ps:List (Nat×AV κ Ty)} {qs:List (Nat×Value)} {cs:List (AV κ Ty)}
    (hp:Parts C w Mut ρ objs ps qs) (h:bi_ T fs ti.zero ps=some cs):∃us:List Value,(Instr.build t qs.toArray).run P w= .ok (.agg us.toArray) w∧Cells C w Mut ρ objs cs us:=by
  obtain ⟨z,hz,hzc⟩:=tV (C:=C) (Mut:=Mut) (ρ:=ρ) (objs:=objs) HT ht w
  obtain ⟨fields,hu,hfs,hfi⟩:=HT.struct t ti fs ht hs
  have hm:=ca_ (P:=P) (w:=w) (fun f:Field=>do pure (f.offset,←Go.sizeOf f.type)) (fun f=>(f.offset,P.cellsOf f.type)) fields (fun f hf=>by
    obtain ⟨i,hi,_⟩:=hfi f hf
    simp [rP hi,Program.cellsOf,hi])
  obtain ⟨us',h1,h2⟩:=NH (P:=P) HT (fs:=fs) (place:=((fields.map fun f=>(f.offset,P.cellsOf f.type))[·]?)) (fun i d t ti hd hti=>by
    rw [←hfs] at hd
    simp only [List.getElem?_map,Option.map_eq_some_iff] at hd
    obtain ⟨f,hf,he⟩:=hd
    cases he
    obtain ⟨ii,z',hi1,hi2,_⟩:=HT.info _ _ hti
    have hf':fields[i]? =some f:=by rw [←Array.getElem?_toList];exact hf
    simp [hf',Program.cellsOf,hi1,hi2]) ps qs _ cs z.cells hp hzc h
  refine ⟨us'.toList, ?_,h2⟩
  simp only [Instr.build,Sem.run_bind,hz,Result.andThen_ok,run_underlying hu,hm]
  simp only [List.toList_toArray,h1]
  rfl
theorem yJ (HT:TOk P C T) {t:TypeId} {ti:TI κ Ty} (ht:T t=some ti) {cs:List (AV κ Ty)} {us:List Value} {d:Nat} {v:AV κ Ty} (hc:Cells C w Mut ρ objs cs us) (h:GH ti cs d=some v):
    ∃u,(part t us.toArray d).run P w= .ok u w∧VRel C w Mut ρ objs v u:=by
  unfold GH at h
  split at h
  ·rename_i hag
   split at h
   ·rename_i hle
    have hle:=Nat.le_of_ble_eq_true hle
    cases h
    refine ⟨.agg ((us.drop d).take ti.size).toArray, ?_, ?_⟩
    ·simp only [part,Sem.run_bind,DL HT ht,Result.andThen_ok,hag,if_true,AH HT ht,Sem.run_pure]
     congr 2
     apply Array.ext'
     simp [List.take_drop]
    ·obtain ⟨h1,h2,h3⟩:=hc
     refine .agg (by simp;omega) (fun j u hj=> ?_) (fun j cl u hj1 hj2=> ?_)
     ·have hjs:j<ti.size:=by have:=(List.getElem?_eq_some_iff.mp hj).1;simp at this;omega
      rw [List.getElem?_take_of_lt hjs,List.getElem?_drop] at hj
      exact h2 _ _ hj
     ·have hjs:j<ti.size:=by have:=(List.getElem?_eq_some_iff.mp hj2).1;simp at this;omega
      rw [List.getElem?_take_of_lt hjs,List.getElem?_drop] at hj1 hj2
      exact h3 _ _ _ hj1 hj2
   ·cases h
  ·rename_i hag
   obtain ⟨h1,h2,h3⟩:=hc
   have hlt:=(List.getElem?_eq_some_iff.mp h).1
   have hu:us[d]? =some us[d]:=List.getElem?_eq_getElem (by omega)
   refine ⟨us[d], ?_,h3 d v _ h hu⟩
   simp only [part,Sem.run_bind,DL HT ht,Result.andThen_ok,hag,Bool.false_eq_true,if_false]
   simp [hu]
inductive ei_:Option Int→Option Value→Prop
  | none:ei_ none none
  | some (k:IntKind) (n:Int):ei_ (some n) (some (.int k n))
theorem hY {lo hi:Option Int} {lv hv:Option Value} {isS:Bool} {n cap l h:Nat} (hlo:ei_ lo lv) (hhi:ei_ hi hv) (hcap:n≤cap) (hw:wnd n (lo.getD 0) (hi.getD n)=some (l,h)):
    (Instr.sliceBounds isS n cap lv hv none).run P w= .ok (l,h,cap) w∧l≤h∧h≤n:=by
  unfold wnd at hw
  split at hw
  ·rename_i hh
   obtain ⟨h1,h2,h3⟩:=hh
   cases hw
   refine ⟨?_,by omega,by omega⟩
   cases hlo<;>cases hhi<;>simp only [Option.getD_some,Option.getD_none] at h1 h2 h3⊢<;>
     simp (disch:=omega) [Instr.sliceBounds,Instr.sliceBound,asIntOf,if_pos]<;>
     (first | done | (rw [if_pos (by omega)];simp (disch:=omega) [if_pos]) | skip)
  ·cases hw
theorem iG {α:Type} (xs:List α) (lo hi:Nat) (h:hi≤xs.length):(iA xs lo hi).length=hi-lo:=by simp [iA];omega
theorem cL_ {α:Type} (xs:List α) (lo hi i:Nat):(iA xs lo hi)[i]? =if lo+i<hi then xs[lo+i]? else none:=by
  simp only [iA,List.getElem?_drop,List.getElem?_take]
theorem xE {α:Type} {xs:List α} {lo hi i:Nat} {x:α} (h:(iA xs lo hi)[i]? =some x):xs[lo+i]? =some x∧lo+i<hi:=by
  rw [cL_] at h;split at h
  ·exact ⟨h,by assumption⟩
  ·cases h
theorem B8 {α:Type} {xs:List α} {i:Int} {x:α} (h:idx xs i=some x):0≤i∧i<xs.length∧xs[i.toNat]? =some x:=by
  unfold idx at h
  split at h
  ·cases h
  ·have:=(List.getElem?_eq_some_iff.mp h).1
   exact ⟨by omega,by omega,h⟩
theorem d6_ {b:Bool} {t:κ} {xs:List (Ty t)} {A:Option Addr} {n c l h:Nat} (hr:VRel C w Mut ρ objs (.inl b t xs) (.slice A n c)) (hlh:l≤h) (hh:h≤xs.length):
    n=xs.length∧n≤c∧VRel C w Mut ρ objs (.inl b t (iA xs l h)) (.slice (if c=l then A else A.map (·.add (l*C.sz t))) (h-l) (c-l)):=by
  cases hr with
  | inl hb hc hA hcell hrel=>
    rename_i blk off vals
    refine ⟨rfl,hc, ?_⟩
    have:=VRel.inl (C:=C) (w:=w) (Mut:=Mut) (ρ:=ρ) (objs:=objs) (b:=b) (t:=t) (xs:=iA xs l h) (A:=if c=l then A else A.map (·.add (l*C.sz t))) (c:=c-l) (blk:=blk) (off:=off+l*C.sz t) (vals:=fun i j=>vals (l+i) j) hb
      (by rw [iG _ _ _ hh];omega)
      (fun hne=>by
        have hx:xs≠[]:=by rintro rfl;simp [iA] at hne
        have hlt:l<h:=by
          have:=List.length_pos_iff.mpr hne
          rw [iG _ _ _ hh] at this;omega
        obtain ⟨a1,a2,a3⟩:=hA hx
        refine ⟨?_,a2,a3⟩
        rw [if_neg (by omega),a1]
        simp [nZ])
      (fun i x j cl hx hj=>by
        obtain ⟨h1,h2⟩:=xE hx
        have:=hcell _ _ _ _ h1 hj
        rw [←this,Nat.add_mul];congr 2;omega)
      (fun i x j cl hx hj=>hrel _ _ _ _ (xE hx).1 hj)
    rw [iG _ _ _ hh] at this
    exact this
theorem SX (HT:TOk P C T) (HC:bH C) (S:SRel C Mut Lent w0 ρ env objs a.tmps w) {t:TypeId} {ti:TI κ Ty} (ht:T t=some ti) {x:AV κ Ty} {u:Value} (hx:VRel C w Mut ρ objs x u)
    {lo hi:Option Int} {lv hv:Option Value} (hlo:ei_ lo lv) (hhi:ei_ hi hv) {K:AV κ Ty→Option R} {r:R} (h:C4 C objs ti.shp x lo hi K=some r):
    ∃v u',K v=some r∧(Instr.sliceAt t u lv hv none).run P w= .ok u' w∧VRel C w Mut ρ objs v u':=by
  unfold C4 at h
  split at h
  ·rename_i hs
   have hu:=HT.str t ti ht hs
   split at h
   ·rename_i s
    obtain ⟨⟨l,m⟩,hp,h⟩:=bind_some h
    obtain ⟨rfl,_⟩:=a7 hx
    obtain ⟨h1,_,_⟩:=hY (P:=P) (w:=w) (isS:=false) hlo hhi (Nat.le_refl _) hp
    refine ⟨_,_,h, ?_, .lit rfl⟩
    simp only [Instr.sliceAt,Sem.run_bind,run_underlying hu,Result.andThen_ok,Instr.slice,Option.isSome_none,Bool.false_eq_true,if_false,h1]
    simp
   ·cases h
  ·rename_i e s hs
   obtain ⟨hu,i,hi1,hi2,_⟩:=HT.slice t ti e s ht hs
   split at h
   ·rename_i id
    split at h
    ·rename_i t' xs hsl
     split at h
     ·rename_i hsame
      obtain rfl:=HC.same _ _ hsame
      obtain ⟨⟨l,m⟩,hp,h⟩:=bind_some h
      have hsl':=cB hsl
      have ho:=S.ob id
      simp only [ORel,hsl'] at ho
      cases hx with
      | own h1 hA=>
        rw [hsl'] at h1;cases h1
        obtain ⟨g1,g2,g3⟩:=hY (P:=P) (w:=w) (isS:=true) hlo hhi ho.1 hp
        refine ⟨_,_,h, ?_, .sub hsl' g2 g3 (c:=(ρ id).cap-l) (by omega) (by omega) (A:= ?_) (fun hc=> ?_)⟩
        rotate_left
        ·rename_i A;exact if (ρ id).cap=l then A else A.map (·.add (l*C.sz s))
        ·rw [if_neg (by omega),hA (by omega)];simp [nZ]
        ·simp only [Instr.sliceAt,Sem.run_bind,run_underlying hu,Result.andThen_ok,Instr.slice,g1,rP hi1,hi2,Sem.run_pure]
      | ownd hcl hin h1=>rw [h1] at hsl;cases hsl
     ·cases h
    ·cases h
   ·rename_i b t' xs
    split at h
    ·rename_i hsame
     obtain rfl:=HC.same _ _ hsame
     obtain ⟨⟨l,m⟩,hp,h⟩:=bind_some h
     have hx':=hx
     cases hx' with
     | inl hb hc hA hcell hrel=>
       obtain ⟨g1,g2,g3⟩:=hY (P:=P) (w:=w) (isS:=true) hlo hhi hc hp
       refine ⟨_,_,h, ?_,(d6_ hx g2 g3).2.2⟩
       simp only [Instr.sliceAt,Sem.run_bind,run_underlying hu,Result.andThen_ok,Instr.slice,g1,rP hi1,hi2,Sem.run_pure]
    ·cases h
   ·rename_i t'
    obtain ⟨⟨l,m⟩,hp,h⟩:=bind_some h
    cases hx with
    | @nil _ A=>
    obtain ⟨g1,g2,g3⟩:=hY (P:=P) (w:=w) (isS:=true) hlo hhi (Nat.le_refl 0) hp
    obtain rfl:m=0:=by omega
    obtain rfl:l=0:=by omega
    refine ⟨_, .slice A 0 0,h, ?_, .nil⟩
    simp only [Instr.sliceAt,Sem.run_bind,run_underlying hu,Result.andThen_ok,Instr.slice,g1,rP hi1,hi2,Sem.run_pure]
    simp
   ·cases h
  ·rename_i n e s hs
   obtain ⟨hu,⟨i,hi1,hi2,_⟩,_⟩:=HT.arr t ti n e s ht hs
   split at h
   ·rename_i id
    split at h
    ·rename_i t' xs hsl
     split at h
     ·rename_i hsame
      obtain rfl:=HC.same _ _ hsame
      obtain ⟨⟨l,m⟩,hp,h⟩:=bind_some h
      split at hp
      ·rename_i hn
       have hsl':=cB hsl
       have ho:=S.ob id
       simp only [ORel,hsl'] at ho
       cases hx with
       | eref h1 hi=>
         rw [hsl'] at h1;cases h1
         obtain ⟨g1,g2,g3⟩:=hY (P:=P) (w:=w) (isS:=false) hlo hhi (Nat.le_refl n) hp
         have hcap:=ho.1
         refine ⟨_,_,h, ?_, .sub hsl' g2 (by omega) (c:=n-l) (by omega) (by omega) (A:=some (if n=l then at' (ρ id).block (ρ id).off else (at' (ρ id).block (ρ id).off).add (l*C.sz s))) (fun hc=> ?_)⟩
         ·simp only [Instr.sliceAt,Sem.run_bind,run_underlying hu,Result.andThen_ok,Instr.sureAddr,g1,rP hi1,hi2,Sem.run_pure]
          simp [at']
         ·rw [if_neg (by omega),nZ]
       | erefd hcl hin h1=>rw [h1] at hsl;cases hsl
      ·cases hp
     ·cases h
    ·cases h
   ·cases h
  ·cases h
end
end Km
namespace Km
open Go
variable {κ:Type} {Ty:κ→Type} {R:Type}
section
variable {P:Program} {C:Cod κ Ty} {T:TypeId→Option (TI κ Ty)}
variable {Mut:Nat→Prop} {Lent:Org κ Ty} {w0 w w':World} {ρ ρ':Nat→Loc} {env:Env κ Ty} {objs objs':aH κ Ty} {a:Act}
theorem lX (HC:bH C) {t:κ} {x:Ty t} {j:Nat} {cl:AV κ Ty} (h:(C.enc t x)[j]? =some cl):cl∈C.enc t x:=List.mem_of_getElem? h
theorem eS_ (S:SRel C Mut Lent w0 ρ env objs a.tmps w) {id:Nat} {t:κ} {xs:List (Ty t)} (h:kY objs id=some ⟨t,xs⟩):xs.length≤(ρ id).cap∧((ρ id).cap≠0→(ρ id).block<w.heap.size)∧∃K,RwRel C w Mut ρ objs (ρ id) t xs K:=by
  have ho:=S.ob id
  rcases jI h with ⟨g,hh,e⟩ | ⟨n,e⟩<;>simp only [ORel,e] at ho<;>exact ⟨ho.len,ho.blk,_,ho⟩
theorem F8 (HT:TOk P C T) (HC:bH C) (S:SRel C Mut Lent w0 ρ env objs a.tmps w) {t:TypeId} {ti:TI κ Ty} (ht:T t=some ti) {x iv:AV κ Ty} {u q:Value} (hx:VRel C w Mut ρ objs x u)
    (hi:VRel C w Mut ρ objs iv q) {K:AV κ Ty→Option R} {r:R} (h:kF C objs ti.shp x iv K=some r):
    ∃v u',K v=some r∧(Instr.indexAt t u q).run P w= .ok u' w∧VRel C w Mut ρ objs v u':=by
  unfold kF at h
  split at h
  ·rename_i k i
   obtain ⟨rfl,_⟩:=a7 hi
   split at h
   ·rename_i e s hs
    obtain ⟨hu,ii,hi1,hi2,_⟩:=HT.slice t ti e s ht hs
    split at h
    ·rename_i id
     split at h
     ·rename_i t' xs hsl
      split at h
      ·rename_i hsame
       obtain rfl:=HC.same _ _ hsame
       obtain ⟨y,hp,h⟩:=bind_some h
       obtain ⟨p1,p2,p3⟩:=B8 hp
       have hsl':=cB hsl
       have ho:=S.ob id
       simp only [ORel,hsl'] at ho
       cases hx with
       | own h1 hA=>
         rw [hsl'] at h1;cases h1
         have hcap:(ρ id).cap≠0:=by have:=ho.1;omega
         refine ⟨_,_,h, ?_, .eref (off:=0) hsl' (by omega)⟩
         rw [hA hcap]
         simp only [Instr.indexAt,asIntOf,Sem.run_bind,Sem.run_pure,Result.andThen_ok,run_underlying hu]
         rw [if_pos ⟨p1,p2⟩]
         simp [rP hi1,hi2,nZ]
       | ownd hcl hin h1=>rw [h1] at hsl;cases hsl
      ·cases h
     ·cases h
    ·rename_i b t' xs
     split at h
     ·rename_i hsame
      obtain rfl:=HC.same _ _ hsame
      obtain ⟨y,hp,h⟩:=bind_some h
      obtain ⟨p1,p2,p3⟩:=B8 hp
      cases hx with
      | inl hb hc hA hcell hrel=>
        rename_i A c blk off vals
        have hne:xs≠[]:=List.ne_nil_of_mem (List.mem_of_getElem? p3)
        obtain ⟨a1,a2,a3⟩:=hA hne
        refine ⟨_,_,h, ?_, .cadr (base:=off+i.toNat*C.sz s) (vals:=fun j=>vals i.toNat j) a3 a2 (fun j cl hj=>hcell _ _ _ _ p3 hj) (fun j cl hj=>u7 HC (lX HC hj) (hrel _ _ _ _ p3 hj)) (fun j cl hj=>hrel _ _ _ _ p3 hj)⟩
        rw [a1]
        simp only [Instr.indexAt,asIntOf,Sem.run_bind,Sem.run_pure,Result.andThen_ok,run_underlying hu]
        rw [if_pos ⟨p1,p2⟩]
        simp [rP hi1,hi2,nZ]
     ·cases h
    ·rename_i id
     split at h
     ·rename_i t' xs hsl
      split at h
      ·rename_i hsame
       obtain rfl:=HC.same _ _ hsame
       obtain ⟨y,hp,h⟩:=bind_some h
       obtain ⟨p1,p2,p3⟩:=B8 hp
       have ho:=eS_ S hsl
       cases hx with
       | rwv h1 hA=>
         rw [hsl] at h1;cases h1
         have hcap:(ρ id).cap≠0:=by have:=ho.1;omega
         refine ⟨_,_,h, ?_, .rwp (off:=0) hsl (by omega)⟩
         rw [hA hcap]
         simp only [Instr.indexAt,asIntOf,Sem.run_bind,Sem.run_pure,Result.andThen_ok,run_underlying hu]
         rw [if_pos ⟨p1,p2⟩]
         simp [rP hi1,hi2,nZ]
       | rwvd hcl hin h1=>rw [jM hsl] at h1;cases h1
      ·cases h
     ·cases h
    ·rename_i id lo hh
     split at h
     ·rename_i t' xs hsl
      split at h
      ·rename_i hsame
       obtain rfl:=HC.same _ _ hsame
       obtain ⟨y,hp,h⟩:=bind_some h
       obtain ⟨p1,p2,p3⟩:=B8 hp
       have hsl':=cB hsl
       have ho:=S.ob id
       simp only [ORel,hsl'] at ho
       cases hx with
       | sub h1 hlo hhi hc hcap hA=>
         rename_i c _ _ A
         rw [hsl'] at h1;cases h1
         rw [iG _ _ _ hhi] at p2
         refine ⟨_,_,h, ?_, .eref (off:=0) hsl' (by omega)⟩
         rw [hA (by omega)]
         simp only [Instr.indexAt,asIntOf,Sem.run_bind,Sem.run_pure,Result.andThen_ok,run_underlying hu]
         rw [if_pos ⟨p1,p2⟩]
         simp [rP hi1,hi2,nZ,Nat.add_mul,Nat.add_assoc]
       | subd hcl hin h1=>rw [h1] at hsl;cases hsl
      ·cases h
     ·cases h
    ·cases h
   ·rename_i n e s hs
    obtain ⟨hu,⟨ii,hi1,hi2,_⟩,_⟩:=HT.arr t ti n e s ht hs
    split at h
    ·rename_i id
     split at h
     ·rename_i t' xs hsl
      split at h
      ·rename_i hsame
       obtain rfl:=HC.same _ _ hsame
       obtain ⟨y,hp,h⟩:=bind_some h
       split at hp
       ·rename_i hn
        obtain ⟨p1,p2,p3⟩:=B8 hp
        have hsl':=cB hsl
        cases hx with
        | eref h1 hi'=>
          refine ⟨_,_,h, ?_, .eref (off:=0) hsl' (by omega)⟩
          simp only [Instr.indexAt,asIntOf,Sem.run_bind,Sem.run_pure,Result.andThen_ok,run_underlying hu,Instr.sureAddr]
          rw [if_pos ⟨p1,by omega⟩]
          simp [rP hi1,hi2,nZ]
        | erefd hcl hin h1=>rw [h1] at hsl;cases hsl
       ·cases hp
      ·cases h
     ·cases h
    ·rename_i id off
     split at h
     ·rename_i cs hb
      obtain ⟨_,hp,h⟩:=bind_some h
      split at hp
      ·rename_i hn
       cases hx with
       | ref h1=>
         refine ⟨_,_,h, ?_, .ref h1⟩
         simp only [Instr.indexAt,asIntOf,Sem.run_bind,Sem.run_pure,Result.andThen_ok,run_underlying hu,Instr.sureAddr]
         rw [if_pos hn]
         simp [rP hi1,hi2,nZ,Nat.add_assoc]
       | refd hcl hin h1=>rw [h1] at hb;cases hb
      ·cases hp
     ·cases h
    ·cases h
   ·cases h
  ·cases h
theorem tN (HC:bH C) (S:SRel C Mut Lent w0 ρ env objs a.tmps w) {x:AV κ Ty} {u:Value} {t:κ} {xs:List (Ty t)} (hx:VRel C w Mut ρ objs x u) (h:tO objs x=some ⟨t,xs⟩):
    ∃(A:Option Addr) (c blk off:Nat),u= .slice A xs.length c∧xs.length≤c∧(xs≠[]→A=some (at' blk off)∧blk<w.heap.size)∧
     (∀i y j cl,xs[i]? =some y→(C.enc t y)[j]? =some cl→∃v,w.cell? (at' blk (off+i*C.sz t+j))=some v∧VRel C w Mut ρ objs cl v):=by
  cases x<;>simp only [tO] at h
  case nil t'=>cases h;cases hx;exact ⟨_,0,0,0,rfl,Nat.le_refl _,fun h=>absurd rfl h,fun i y j cl h=>by simp at h⟩
  case inl b t' ys=>
    cases h
    cases hx with
    | inl hb hc hA hcell hrel=>exact ⟨_,_,_,_,rfl,hc,fun hne=>⟨(hA hne).1,(hA hne).2.1⟩,fun i y j cl h1 h2=>⟨_,hcell i y j cl h1 h2,hrel i y j cl h1 h2⟩⟩
  case own id=>
    have hsl':=cB h
    have ho:=S.ob id
    simp only [ORel,hsl'] at ho
    cases hx with
    | own h1 hA=>
      rw [hsl'] at h1;cases h1
      exact ⟨_,_,_,_,rfl,ho.1,fun hne=>by
        have:(ρ id).cap≠0:=by have:=ho.1;have:=List.length_pos_iff.mpr hne;omega
        exact ⟨hA this,ho.2.1 this⟩,ho.2.2.1⟩
    | ownd hcl hin h1=>rw [h1] at h;cases h
  case sub id lo hi=>
    split at h
    ·rename_i t' ys hsl
     cases h
     have hsl':=cB hsl
     have ho:=S.ob id
     simp only [ORel,hsl'] at ho
     cases hx with
     | sub h1 hlo hhi hc hcap hA=>
       rename_i A
       rw [hsl'] at h1;cases h1
       have hlen:=iG ys lo hi hhi
       refine ⟨_,_,(ρ id).block,(ρ id).off+lo*C.sz t,by rw [hlen],by omega,fun hne=> ?_,fun i y j cl h1 h2=> ?_⟩
       ·have:=List.length_pos_iff.mpr hne
        rw [hlen] at this
        exact ⟨hA (by omega),ho.2.1 (by omega)⟩
       ·have:=ho.2.2.1 _ _ _ _ (xE h1).1 h2
        rwa [Nat.add_mul,←Nat.add_assoc] at this
     | subd hcl hin h1=>rw [h1] at hsl;cases hsl
    ·cases h
  all_goals cases h
end
end Km
namespace Km
open Go
variable {κ:Type} {Ty:κ→Type} {R:Type}
section
variable {P:Program} {C:Cod κ Ty} {T:TypeId→Option (TI κ Ty)}
variable {Mut:Nat→Prop} {Lent:Org κ Ty} {w0 w w':World} {ρ ρ':Nat→Loc} {env:Env κ Ty} {objs objs':aH κ Ty} {tm:Array Value}
theorem WStep.same (h:∀b,bJ ρ' objs' b→bJ ρ objs b):WStep w w (bJ ρ objs) (bJ ρ' objs'):=⟨fun _ _ _=>rfl,Nat.le_refl _,fun b hb=> .inl (h b hb)⟩
theorem lH {id i b:Nat} (h:aG ρ (objs.set id .dead) i b):i≠id∧aG ρ objs i b:=by
  unfold aG at h⊢
  by_cases e:i=id
  ·subst e
   by_cases hi:i<objs.length
   ·simp [hi] at h
   ·have hn:(objs.set i AObj.dead)[i]? =none:=List.getElem?_eq_none (by simp;omega)
    simp [hn] at h
  ·rw [List.getElem?_set_ne (Ne.symm e)] at h
   exact ⟨e,h⟩
theorem AJ (id i:Nat):Compat ρ objs ρ (objs.set id .dead) i:=by
  by_cases e:i=id
  ·subst e
   unfold Compat
   by_cases hi:i<objs.length
   ·have hd:(objs.set i .dead)[i]? =some .dead:=by simp [hi]
    split
    ·exact .inr (aZ hd)
    ·exact .inr (aZ hd)
    ·exact .inr (aZ hd)
    ·exact .inr (aZ hd)
    ·exact .inr (aZ hd)
    ·exact (aZ hd)
    ·trivial
   ·rw [List.getElem?_eq_none (l:=objs) (by omega)];trivial
  ·exact Compat.of_eq (fun _=>List.getElem?_set_ne (Ne.symm e)) (fun _=>rfl)
theorem SRel.kill (S:SRel C Mut Lent w0 ρ env objs tm w) (id:Nat):SRel C Mut Lent w0 ρ env (objs.set id .dead) tm w:=by
  have W:WStep w w (bJ ρ objs) (bJ ρ (objs.set id .dead)):=WStep.same fun b ⟨i,hi⟩=>⟨i,(lH hi).2⟩
  refine S.step W (by simp) (AJ id) (fun i=> ?_) (fun i j b hi hj=>S.inj i j b (lH hi).2 (lH hj).2) rfl rfl rfl
  by_cases e:i=id
  ·subst e
   unfold ORel
   by_cases hi:i<objs.length
   ·simp [hi]
   ·have hn:(objs.set i AObj.dead)[i]? =none:=List.getElem?_eq_none (by simp;omega)
    simp [hn]
  ·exact ORel.step W (by simp) (AJ id) (S.ob i) (List.getElem?_set_ne (Ne.symm e)) rfl (fun b _=>rfl)
theorem VRel.kill {v:AV κ Ty} {u:Value} (h:VRel C w Mut ρ objs v u) (id:Nat):VRel C w Mut ρ (objs.set id .dead) v u:=
  h.step (WStep.same fun b ⟨i,hi⟩=>⟨i,(lH hi).2⟩) (by simp) (AJ id)
theorem Cells.step {cs:List (AV κ Ty)} {us:List Value} (W:WStep w w' (bJ ρ objs) (bJ ρ' objs')) (hl:objs.length≤objs'.length) (hc:∀id,Compat ρ objs ρ' objs' id) (h:Cells C w Mut ρ objs cs us):Cells C w' Mut ρ' objs' cs us:=
  ⟨h.1,h.2.1,fun j cl u h1 h2=>(h.2.2 j cl u h1 h2).step W hl hc⟩
theorem dA {id:Nat} {t:κ} {xs:List (Ty t)} (h:objs[id]? =some (.sl t xs)) (hc:(ρ id).cap≠0):aG ρ objs id (ρ id).block:=by simp [aG,h,hc]
theorem bd_ (HC:bH C) (S:SRel C Mut Lent w0 ρ env objs tm w) {id:Nat} {t:κ} {xs:List (Ty t)} {u:Value} (h:objs[id]? =some (.sl t xs)) {b0:Bool} (hb0:b0=false→C.bor t=false) (hr:VRel C w Mut ρ objs (.own id) u):
    VRel C w Mut ρ (objs.set id .dead) (.inl b0 t xs) u:=by
  have ho:=S.ob id
  simp only [ORel,h] at ho
  cases hr with
  | own h1 hA=>
    rw [h] at h1;cases h1
    refine .inl (blk:=(ρ id).block) (off:=(ρ id).off) (vals:=fun i j=>(w.cell? (at' (ρ id).block ((ρ id).off+i*C.sz t+j))).getD Go.undef) hb0 (ho.1) (fun hne=> ?_) (fun i x j cl hx hj=> ?_) (fun i x j cl hx hj=> ?_)
    ·have hc:(ρ id).cap≠0:=by have:=ho.1;have:=List.length_pos_iff.mpr hne;omega
     refine ⟨hA hc,ho.2.1 hc,fun hX=> ?_⟩
     rcases hX with ⟨i,hi⟩ | ⟨_,hm⟩
     ·obtain ⟨g1,g2⟩:=lH hi
      exact g1 (S.inj _ _ _ g2 (dA h hc))
     ·exact (S.live _ ⟨id,dA h hc⟩).1 hm
    ·obtain ⟨v,h1,h2⟩:=ho.2.2.1 i x j cl hx hj
     rw [h1];rfl
    ·obtain ⟨v,h1,h2⟩:=ho.2.2.1 i x j cl hx hj
     rw [h1];exact h2.kill id
  | ownd hcl hin h1=>simp [mX,h] at h1
def Weaker (objs objs':aH κ Ty):Prop:=objs'.length=objs.length∧∀i:Nat,objs'[i]? =objs[i]? ∨objs'[i]? =some AObj.dead
theorem Weaker.refl (objs:aH κ Ty):Weaker objs objs:=⟨rfl,fun _=> .inl rfl⟩
theorem Weaker.trans {o1 o2 o3:aH κ Ty} (h:Weaker o1 o2) (g:Weaker o2 o3):Weaker o1 o3:=
  ⟨g.1.trans h.1,fun i=>(g.2 i).elim (fun e=>(h.2 i).elim (fun e'=> .inl (e.trans e')) (fun e'=> .inr (e.trans e'))) .inr⟩
theorem Weaker.kill (objs:aH κ Ty) (id:Nat):Weaker objs (objs.set id AObj.dead):=by
  refine ⟨by simp,fun i=> ?_⟩
  by_cases e:i=id
  ·subst e
   by_cases hi:i<objs.length
   ·exact .inr (by simp [hi])
   ·have hn:(objs.set i AObj.dead)[i]? =none:=List.getElem?_eq_none (by simp;omega)
    exact .inl (by rw [hn,List.getElem?_eq_none (by omega)])
  ·exact .inl (List.getElem?_set_ne (Ne.symm e))
theorem Weaker.compat (h:Weaker objs objs') (i:Nat):Compat ρ objs ρ objs' i:=by
  unfold Compat
  split
  ·rename_i cs e
   rcases h.2 i with e' | e'
   ·exact .inl ⟨cs,by rw [e',e],rfl⟩
   ·exact .inr (aZ e')
  ·rename_i t xs e
   rcases h.2 i with e' | e'
   ·exact .inl ⟨xs,by rw [e',e],rfl,rfl⟩
   ·exact .inr (aZ e')
  ·rename_i k v es ho e
   rcases h.2 i with e' | e'
   ·exact .inl ⟨es,ho,by rw [e',e],rfl⟩
   ·exact .inr (aZ e')
  ·rename_i t xs g ho e
   rcases h.2 i with e' | e'
   ·exact .inl ⟨xs,g,ho,by rw [e',e],rfl, .refl _,Nat.le_refl _,fun _ h=>⟨h,rfl,rfl⟩⟩
   ·exact .inr (aZ e')
  ·rename_i t xs n e
   rcases h.2 i with e' | e'
   ·exact .inl ⟨xs,gO (by rw [e',e]),rfl, .refl _⟩
   ·exact .inr (aZ e')
  ·rename_i e
   rcases h.2 i with e' | e'
   ·exact (aZ (by rw [e',e]))
   ·exact (aZ e')
  ·trivial
theorem Weaker.foot (h:Weaker objs objs') {i b:Nat} (hb:aG ρ objs' i b):aG ρ objs i b:=by
  unfold aG at hb⊢
  rcases h.2 i with e | e
  ·rw [e] at hb;exact hb
  ·rw [e] at hb;exact hb.elim
theorem Weaker.wstep (h:Weaker objs objs'):WStep w w (bJ ρ objs) (bJ ρ objs'):=WStep.same fun b ⟨i,hi⟩=>⟨i,h.foot hi⟩
theorem Weaker.rel (h:Weaker objs objs') {v:AV κ Ty} {u:Value} (hr:VRel C w Mut ρ objs v u):VRel C w Mut ρ objs' v u:=hr.step h.wstep (by have:=h.1;omega) h.compat
theorem Weaker.cells (h:Weaker objs objs') {cs:List (AV κ Ty)} {us:List Value} (hc:Cells C w Mut ρ objs cs us):Cells C w Mut ρ objs' cs us:=hc.step h.wstep (by have:=h.1;omega) h.compat
theorem bO_ {b0 b:Bool} (h:(b0 || !b)=true):b0=false→b=false:=by cases b0<;>cases b<;>simp_all
theorem o9 (HC:bH C) {b0:Bool}:∀(ns:List (AV κ Ty)) (us:List Value) (objs:aH κ Ty) (K:List (AV κ Ty)→aH κ Ty→Option R) (r:R),SRel C Mut Lent w0 ρ env objs tm w→Cells C w Mut ρ objs ns us→
    jK C b0 objs ns K=some r→∃ns' objs',K ns' objs'=some r∧SRel C Mut Lent w0 ρ env objs' tm w∧Cells C w Mut ρ objs' ns' us∧Weaker objs objs'
  | [],us,objs,K,r,S,hc,h=>⟨[],objs,h,S,hc, .refl _⟩
  | c::ns,us,objs,K,r,S,hc,h=>by
    obtain ⟨h1,h2,h3⟩:=hc
    obtain ⟨u,us,rfl⟩:∃u us',us=u::us':=by cases us with | nil=>simp at h1 | cons u us=>exact ⟨u,us,rfl⟩
    have hu:VRel C w Mut ρ objs c u:=h3 0 c u rfl rfl
    have hcu:bD u=true:=h2 0 u rfl
    have hrest:Cells C w Mut ρ objs ns us:=⟨by simpa using h1,fun j u hj=>h2 (j+1) u (by simpa using hj),fun j cl u a b=>h3 (j+1) cl u (by simpa using a) (by simpa using b)⟩
    have fin:∀(c':AV κ Ty) (objs1:aH κ Ty),SRel C Mut Lent w0 ρ env objs1 tm w→VRel C w Mut ρ objs1 c' u→Weaker objs objs1→
     jK C b0 objs1 ns (fun cs' o=>K (c'::cs') o)=some r→∃ns' objs',K ns' objs'=some r∧SRel C Mut Lent w0 ρ env objs' tm w∧Cells C w Mut ρ objs' ns' (u::us)∧Weaker objs objs':=by
      intro c' objs1 S1 hc' hw h
      obtain ⟨ns',objs',g1,g2,g3,g4⟩:=o9 HC ns us objs1 _ r S1 (hw.cells hrest) h
      refine ⟨c'::ns',objs',g1,g2,⟨by simp [g3.1],fun j u' hj=> ?_,fun j cl u' a b=> ?_⟩,hw.trans g4⟩
      ·cases j with
       | zero=>simp at hj;subst hj;exact hcu
       | succ j=>exact g3.2.1 j u' (by simpa using hj)
      ·cases j with
       | zero=>simp at a b;subst a;subst b;exact g4.rel hc'
       | succ j=>exact g3.2.2 j cl u' (by simpa using a) (by simpa using b)
    simp only [jK] at h
    split at h
    ·rename_i id
     split at h
     ·rename_i t xs hsl
      have hsl':=cB hsl
      split at h
      ·rename_i hb
       exact fin _ _ (S.kill id) (bd_ HC S hsl' (bO_ hb) hu) (.kill objs id) h
      ·cases h
     ·cases h
    ·rename_i t
     split at h
     ·rename_i hb
      refine fin _ _ S ?_ (.refl _) h
      cases hu
      exact .inl (xs:=[]) (blk:=0) (off:=0) (vals:=fun _ _=>Go.undef) (bO_ hb) (Nat.le_refl _) (fun h=>absurd rfl h) (fun i x j cl hx=>by simp at hx) (fun i x j cl hx=>by simp at hx)
     ·cases h
    ·exact fin _ _ S hu (.refl _) h
    ·exact fin _ _ S hu (.refl _) h
    ·cases h
end
end Km
namespace Km
open Go
variable {κ:Type} {Ty:κ→Type} {R:Type}
section
variable {P:Program} {C:Cod κ Ty} {T:TypeId→Option (TI κ Ty)}
variable {Mut:Nat→Prop} {Lent:Org κ Ty} {w0 w w':World} {ρ ρ':Nat→Loc} {env:Env κ Ty} {objs objs':aH κ Ty} {tm:Array Value}
def upd (ρ:Nat→Loc) (n:Nat) (l:Loc):Nat→Loc:=fun i=>if i=n then l else ρ i
theorem aV (ρ:Nat→Loc) (n:Nat) (l:Loc):upd ρ n l n=l:=by simp [upd]
theorem dJ (ρ:Nat→Loc) (n:Nat) (l:Loc) {i:Nat} (h:i≠n):upd ρ n l i=ρ i:=by simp [upd,h]
theorem dS {o:AObj κ Ty} {i:Nat} (h:i<objs.length):(objs++[o])[i]? =objs[i]? :=List.getElem?_append_left h
theorem bW (objs:aH κ Ty) (o:AObj κ Ty):(objs++[o])[objs.length]? =some o:=by simp
theorem rF {o:AObj κ Ty} {l:Loc} {i b:Nat} (hs:∀q,(l.sub q).2.2=0:=by intro;rfl) (h:aG (upd ρ objs.length l) (objs++[o]) i b):(i<objs.length∧aG ρ objs i b)∨(i=objs.length∧b=l.block):=by
  by_cases hi:i<objs.length
  ·refine .inl ⟨hi, ?_⟩
   unfold aG at h⊢
   rw [dS hi,dJ ρ _ l (by omega)] at h
   exact h
  ·unfold aG at h
   by_cases hn:i=objs.length
   ·subst hn
    rw [bW,aV] at h
    refine .inr ⟨rfl, ?_⟩
    cases o with
    | dead=>exact h.elim
    | box cs=>exact h.symm
    | sl t xs=>exact h.2.symm
    | mp k v es ho=>
      rcases h with h | ⟨q,_,_,h3,_⟩
      ·exact h.symm
      ·exact absurd (hs q) h3
    | rw t xs g ho=>
      rcases h with h | ⟨q,h3,_⟩
      ·exact h.2.symm
      ·exact absurd (hs q) h3
    | rp t xs n=>
      rcases h with h | ⟨q,h3,_⟩
      ·exact h.2.symm
      ·exact absurd (hs q) h3
   ·have:(objs++[o])[i]? =none:=List.getElem?_eq_none (by simp;omega)
    rw [this] at h;exact h.elim
theorem jV (o:AObj κ Ty) (l:Loc) (i:Nat):Compat ρ objs (upd ρ objs.length l) (objs++[o]) i:=Compat.of_eq (fun h=>dS h) (fun h=>dJ ρ _ l (by omega))
theorem SRel.fresh (S:SRel C Mut Lent w0 ρ env objs tm w) {o:AObj κ Ty} {l:Loc}
    (hb:∀b,b<w.heap.size→w'.heap[b]? =w.heap[b]?) (hsz:w.heap.size≤w'.heap.size) (hl:w.heap.size≤l.block)
    (hnew:∀(_:WStep w w' (bJ ρ objs) (bJ (upd ρ objs.length l) (objs++[o]))),ORel C w' Mut (upd ρ objs.length l) (objs++[o]) objs.length)
    (hos:w'.os=w.os) (htape:w'.tape=w.tape) (hout:w'.output=w.output) (hs:∀q,(l.sub q).2.2=0:=by intro;rfl):
    WStep w w' (bJ ρ objs) (bJ (upd ρ objs.length l) (objs++[o]))∧SRel C Mut Lent w0 (upd ρ objs.length l) env (objs++[o]) tm w':=by
  have W:WStep w w' (bJ ρ objs) (bJ (upd ρ objs.length l) (objs++[o])):=⟨fun b hlt _=>hb b hlt,hsz,fun b ⟨i,hi⟩=>by
    rcases rF hs hi with ⟨_,h⟩ | ⟨_,h⟩
    ·exact .inl ⟨i,h⟩
    ·exact .inr (by omega)⟩
  have flt:∀i b,aG ρ objs i b→b<w.heap.size:=fun i b h=>foot_lt (S.ob i) h
  refine ⟨W,S.step W (by simp) (jV o l) (fun i=> ?_) (fun i j b hi hj=> ?_) hos htape hout⟩
  ·by_cases hi:i<objs.length
   ·exact ORel.step W (by simp) (jV o l) (S.ob i) (dS hi) (dJ ρ _ l (by omega)) (fun b hb'=>hb b (flt i b hb'))
   ·by_cases hn:i=objs.length
    ·subst hn;exact hnew W
    ·unfold ORel
     have:(objs++[o])[i]? =none:=List.getElem?_eq_none (by simp;omega)
     rw [this];trivial
  ·rcases rF hs hi with ⟨h1,h2⟩ | ⟨h1,h2⟩<;>rcases rF hs hj with ⟨g1,g2⟩ | ⟨g1,g2⟩
   ·exact S.inj i j b h2 g2
   ·have:=flt i b h2;omega
   ·have:=flt j b g2;omega
   ·omega
theorem cT (w:World) (o:Obj) {b:Nat} (h:b<w.heap.size):(w.alloc o).heap[b]? =w.heap[b]? :=RowKit.Below.heap_alloc w o b h
theorem d7_:∀{cs:List (AV κ Ty)},bsh cs=true→cs.length=2
  | [],h=>by cases h
  | [_],h=>by cases h
  | [_,_],_=>rfl
  | _::_::_::_,h=>by cases h
theorem W8:∀{cs:List (AV κ Ty)},frs cs=true→bsh cs=true
  | [],h=>by cases h
  | [_],h=>by cases h
  | [c,_],h=>by
    cases c with
    | lit v=>cases v with
      | pointer q=>rfl
      | _=>cases h
    | _=>cases h
  | _::_::_::_,h=>by cases h
theorem qW (w:World) (us:Array Value) (e:TypeId):(w.alloc (.cells us e)).shape? w.heap.size=some (e,us.size):=by
  have:(w.alloc (.cells us e)).heap[w.heap.size]? =some (.cells us e (0,0)):=by
    show (w.heap.push (.cells us e (0,0)))[w.heap.size]? =_
    simp
  simp only [World.shape?,this]
theorem SRel.newBox (S:SRel C Mut Lent w0 ρ env objs tm w) {cs:List (AV κ Ty)} {us:Array Value} (e:TypeId) (hs:bsh cs=true→e=C.bt) (hf:frs cs=true→us[1]? =some (.slice none 0 0)) (hc:Cells C w Mut ρ objs cs us.toList):
    SRel C Mut Lent w0 (upd ρ objs.length ⟨w.heap.size,0,0,noSub⟩) env (objs++[.box cs]) tm (w.alloc (.cells us e)):=by
  refine (S.fresh (o:= .box cs) (l:=⟨w.heap.size,0,0,noSub⟩) (w':=w.alloc (.cells us e)) (fun b h=>cT w _ h) (by simp) (Nat.le_refl _) (fun W=> ?_) rfl rfl rfl).2
  unfold ORel
  rw [bW,aV]
  refine ⟨by simp,fun j cl hj=> ?_,fun h=>⟨rfl,by
    rw [qW,hs h]
    have:=hc.1
    rw [d7_ h] at this
    rw [←Array.length_toList,this]⟩,fun h=>by simp only [at',Nat.zero_add,World.cell?_alloc_new];exact hf h⟩
  have hlt:=(List.getElem?_eq_some_iff.mp hj).1
  have hu:us.toList[j]? =some (us.toList[j]'(by rw [hc.1];exact hlt)):=List.getElem?_eq_getElem _
  refine ⟨_, ?_,hc.2.1 j _ hu,(hc.2.2 j cl _ hj hu).step W (by simp) (jV _ _), ?_⟩
  ·simp only [at',Nat.zero_add,World.cell?_alloc_new]
   rw [←Array.getElem?_toList];exact hu
  ·simp only [at',World.frozen?_alloc_new]
structure YO (C:Cod κ Ty) (w:World) (Mut:Nat→Prop) (ρ:Nat→Loc) (objs:aH κ Ty) (t:κ) (xs:List (Ty t)) (cap:Nat) (us:Nat→Option Value):Prop where
  le:xs.length≤cap
  row:∀i x j cl,xs[i]? =some x→(C.enc t x)[j]? =some cl→∃v,us (i*C.sz t+j)=some v∧VRel C w Mut ρ objs cl v
  room:∀q,q<cap*C.sz t→∃v,us q=some v∧bD v=true
theorem SRel.newSl (S:SRel C Mut Lent w0 ρ env objs tm w) {t:κ} {xs:List (Ty t)} {cap:Nat} {us:Array Value} (e:TypeId) (hk:C.shk t=true→e=C.sht) (hr:YO C w Mut ρ objs t xs cap (fun q=>us[q]?)):
    SRel C Mut Lent w0 (upd ρ objs.length ⟨w.heap.size,0,cap,noSub⟩) env (objs++[.sl t xs]) tm (w.alloc (.cells us e)):=by
  refine (S.fresh (o:= .sl t xs) (l:=⟨w.heap.size,0,cap,noSub⟩) (w':=w.alloc (.cells us e)) (fun b h=>cT w _ h) (by simp) (Nat.le_refl _) (fun W=> ?_) rfl rfl rfl).2
  unfold ORel
  rw [bW,aV]
  refine ⟨hr.le,fun _=>by simp,fun i x j cl hx hj=> ?_,fun q hq=> ?_,fun h _=>⟨us.size,by rw [qW,hk h]⟩⟩
  ·obtain ⟨v,h1,h2⟩:=hr.row i x j cl hx hj
   exact ⟨v,by simp only [at',Nat.zero_add,World.cell?_alloc_new];exact h1,h2.step W (by simp) (jV _ _)⟩
  ·obtain ⟨v,h1,h2⟩:=hr.room q hq
   exact ⟨v,by simp only [at',Nat.zero_add,World.cell?_alloc_new];exact h1,h2,by simp only [at',World.frozen?_alloc_new]⟩
theorem SRel.drew (S:SRel C Mut Lent w0 ρ env objs tm w):SRel C Mut Lent w0 ρ env objs tm w.drew:=by
  have W:WStep w w.drew (bJ ρ objs) (bJ ρ objs):=⟨fun _ _ _=>rfl,Nat.le_refl _,fun b h=> .inl h⟩
  exact S.step W (Nat.le_refl _) (fun i=> .refl i) (fun i=>ORel.step W (Nat.le_refl _) (fun i=> .refl i) (S.ob i) rfl rfl (fun _ _=>rfl)) S.inj rfl rfl rfl
theorem VRel.drew {v:AV κ Ty} {u:Value} (h:VRel C w Mut ρ objs v u):VRel C w.drew Mut ρ objs v u:=
  VRel.step (w:=w) (w':=w.drew) (ρ:=ρ) (ρ':=ρ) (objs:=objs) (objs':=objs) ⟨fun _ _ _=>rfl,Nat.le_refl _,fun b h=> .inl h⟩ (Nat.le_refl _) (fun i=> .refl i) h
end
end Km
namespace Km
open Go
variable {κ:Type} {Ty:κ→Type} {R:Type}
section
variable {P:Program} {C:Cod κ Ty} {T:TypeId→Option (TI κ Ty)}
variable {Mut:Nat→Prop} {Lent:Org κ Ty} {w0 w w':World} {ρ ρ':Nat→Loc} {env:Env κ Ty} {objs objs':aH κ Ty} {tm:Array Value}
theorem b9 (b:Nat):∀(vs:List Value) (o:Nat) (w:World) (k:Nat),k≠b→(w.setCells b o vs).heap[k]? =w.heap[k]?
  | [],_,_,_,_=>rfl
  | v::r,o,w,k,h=>by
    rw [World.setCells,b9 b r (o+1) _ k h]
    exact RowKit.Below.heap_setCell w ⟨b,o,none⟩ v k h
theorem cY (b:Nat):∀(vs:List Value) (o:Nat) (w:World),(w.setCells b o vs).heap.size=w.heap.size
  | [],_,_=>rfl
  | v::r,o,w=>by rw [World.setCells,cY b r (o+1)];simp
theorem n5 (b:Nat):∀(vs:List Value) (o:Nat) (w:World),(w.setCells b o vs).os=w.os∧(w.setCells b o vs).tape=w.tape∧(w.setCells b o vs).output=w.output
  | [],_,_=>⟨rfl,rfl,rfl⟩
  | v::r,o,w=>by rw [World.setCells];exact n5 b r (o+1) (w.setCell ⟨b,o,none⟩ v)
theorem m0 {b o:Nat} {vs:List Value} {q:Nat} (h:∀j,j<vs.length→∃u,w.cell? (at' b (o+j))=some u):
    (w.setCells b o vs).cell? (at' b q)=if o≤q∧q<o+vs.length then vs[q-o]? else w.cell? (at' b q):=by
  by_cases hq:o≤q∧q<o+vs.length
  ·rw [if_pos hq]
   obtain ⟨j,rfl⟩:∃j,q=o+j:=⟨q-o,by omega⟩
   have hj:j<vs.length:=by omega
   have:=World.cell?_setCells_in b vs o w (fun j hj=>by obtain ⟨u,hu⟩:=h j hj;rw [show (⟨b,o+j,none⟩:Addr)=at' b (o+j) from rfl,hu];rfl) j hj
   rw [show at' b (o+j)=⟨b,o+j,none⟩ from rfl,this,show o+j-o=j by omega,List.getElem?_eq_getElem hj]
  ·rw [if_neg hq]
   exact World.cell?_setCells_out b vs o w (at' b q) (fun _ _=>by simp only [at'];omega)
theorem sY (HT:TOk P C T) {t:TypeId} {ti:TI κ Ty} (ht:T t=some ti) {u:Value} {b o:Nat} (hsz:u.cells.size=ti.size) (hc:∀j,j<u.cells.size→∃v,w.cell? (at' b (o+j))=some v∧w.frozen? (at' b (o+j))=false)
    (h1:∀v∈u.cells.toList,bD v=true):(Instr.storeAt t (.pointer (some (at' b o))) u).run P w= .ok () (w.setCells b o u.cells.toList):=by
  have hst:=run_storeCells_cells (P:=P) b o u.cells.toList 0 w (fun j hj=>by
    obtain ⟨v,g1,_⟩:=hc j (by simpa using hj)
    simp only [Nat.add_zero];rw [show (⟨b,o+j,none⟩:Addr)=at' b (o+j) from rfl,g1];rfl) (fun j hj=>by
    obtain ⟨v,_,g2⟩:=hc j (by simpa using hj)
    simp only [Nat.add_zero];exact g2) (fun v hv=>EE (h1 v hv))
  simp only [Instr.storeAt,Instr.sureAddr,Sem.run_bind,Sem.run_pure,Result.andThen_ok,storeVar,AH HT ht]
  rw [if_neg (by simp [hsz])]
  simp only [Nat.add_zero] at hst
  exact hst
theorem O6 (w:World) (a:Addr) (v:Value) (b:Nat):(w.setCell a v).shape? b=w.shape? b:=by
  have e:(w.setCell a v).heap[b]? =if a.block=b then (w.heap[b]?).map (fun | .cells c elem frozen=> .cells (if a.spot.isSome then c else c.setIfInBounds a.off v) elem frozen | o=>o) else w.heap[b]? :=by
    simp only [World.setCell,Array.getElem?_modify]
    rfl
  unfold World.shape?
  rw [e]
  by_cases h:a.block=b
  ·rw [if_pos h]
   cases w.heap[b]? with
   | none=>rfl
   | some o=>cases o with
     | cells c t f=>
       simp only [Option.map_some]
       split<;>simp
     | _=>rfl
  ·rw [if_neg h]
theorem lE (b:Nat):∀(vs:List Value) (o:Nat) (w:World) (c:Nat),(w.setCells b o vs).shape? c=w.shape? c
  | [],_,_,_=>rfl
  | v::r,o,w,c=>by
    show ((w.setCell ⟨b,o,none⟩ v).setCells b (o+1) r).shape? c=_
    rw [lE b r,O6]
theorem SRel.storeBox (S:SRel C Mut Lent w0 ρ env objs tm w) {id off:Nat} {cs ns:List (AV κ Ty)} {us:List Value} (hid:objs[id]? =some (.box cs)) (hn:Cells C w Mut ρ objs ns us) (hle:off+ns.length≤cs.length) (hs:bsh (dD cs off ns)=true→bsh cs=true) (hf:frs (dD cs off ns)=false):
    SRel C Mut Lent w0 ρ env (objs.set id (.box (dD cs off ns))) tm (w.setCells (ρ id).block ((ρ id).off+off) us):=by
  have hlt:=(List.getElem?_eq_some_iff.mp hid).1
  have ho:=S.ob id
  simp only [ORel,hid] at ho
  have hfoot:aG ρ objs id (ρ id).block:=by simp [aG,hid]
  have hset:(objs.set id (AObj.box (dD cs off ns)))[id]? =some (.box (dD cs off ns)):=by simp [hlt]
  have hne:∀i,i≠id→(objs.set id (AObj.box (dD cs off ns)))[i]? =objs[i]? :=fun i h=>List.getElem?_set_ne (Ne.symm h)
  have hft:∀i b,aG ρ (objs.set id (AObj.box (dD cs off ns))) i b→aG ρ objs i b:=fun i b h=>by
    by_cases e:i=id
    ·subst e;unfold aG at h⊢;rw [hset] at h;rw [hid];exact h
    ·unfold aG at h⊢;rw [hne i e] at h;exact h
  have W:WStep w (w.setCells (ρ id).block ((ρ id).off+off) us) (bJ ρ objs) (bJ ρ (objs.set id (AObj.box (dD cs off ns)))):=
    ⟨fun b _ hb=>b9 _ _ _ _ _ (fun e=>hb ⟨id,e▸hfoot⟩),by rw [cY];exact Nat.le_refl _,fun b ⟨i,hi⟩=> .inl ⟨i,hft i b hi⟩⟩
  have hcm:∀i,Compat ρ objs ρ (objs.set id (AObj.box (dD cs off ns))) i:=fun i=>by
    by_cases e:i=id
    ·subst e;unfold Compat;rw [hid];exact .inl ⟨_,hset,rfl⟩
    ·exact Compat.of_eq (fun _=>hne i e) (fun _=>rfl)
  obtain ⟨o1,o2,o3⟩:=n5 (ρ id).block us ((ρ id).off+off) w
  refine S.step W (by simp) hcm (fun i=> ?_) (fun i j b hi hj=>S.inj i j b (hft i b hi) (hft j b hj)) o1 o2 o3
  by_cases e:i=id
  ·subst e
   unfold ORel
   rw [hset]
   refine ⟨by rw [cY];exact ho.1,fun j cl hj=> ?_,fun h=>by rw [lE];exact ho.2.2.1 (hs h),fun h=>by rw [hf] at h;cases h⟩
   have hjl:j<cs.length:=by have:=(List.getElem?_eq_some_iff.mp hj).1;rwa [kG] at this
   obtain ⟨v0,g1,g2,g3,g4⟩:=ho.2.1 j cs[j] (List.getElem?_eq_getElem hjl)
   have hcell:=m0 (w:=w) (b:=(ρ i).block) (o:=(ρ i).off+off) (vs:=us) (q:=(ρ i).off+j) (fun k hk=>by
     obtain ⟨v,a1,_⟩:=ho.2.1 (off+k) _ (List.getElem?_eq_getElem (by rw [hn.1] at hk;omega))
     exact ⟨v,by rw [Nat.add_assoc];exact a1⟩)
   have hfr:(w.setCells (ρ i).block ((ρ i).off+off) us).frozen? (at' (ρ i).block ((ρ i).off+j))=false:=by
     rw [World.frozen?_setCells];exact g4
   rw [eT _ _ _ _ hle] at hj
   by_cases hin:off≤j∧j<off+ns.length
   ·rw [if_pos hin] at hj
    rw [if_pos (by rw [hn.1];omega)] at hcell
    have hk:us[j-off]? =some (us[j-off]'(by rw [hn.1];omega)):=List.getElem?_eq_getElem _
    rw [show (ρ i).off+j-((ρ i).off+off)=j-off by omega,hk] at hcell
    exact ⟨_,hcell,hn.2.1 _ _ hk,(hn.2.2 _ _ _ hj hk).step W (by simp) hcm,hfr⟩
   ·rw [if_neg hin] at hj
    rw [if_neg (by rw [hn.1];omega),g1] at hcell
    rw [List.getElem?_eq_getElem hjl] at hj;cases hj
    exact ⟨_,hcell,g2,g3.step W (by simp) hcm,hfr⟩
  ·exact ORel.step W (by simp) hcm (S.ob i) (hne i e) rfl (fun b hb=>b9 _ _ _ _ _ (fun e'=>e (S.inj i id b hb (e'▸hfoot))))
end
end Km
namespace Km
open Go
variable {κ:Type} {Ty:κ→Type} {R:Type}
section
variable {P:Program} {C:Cod κ Ty} {T:TypeId→Option (TI κ Ty)}
variable {Mut:Nat→Prop} {Lent:Org κ Ty} {w0 w w':World} {ρ ρ':Nat→Loc} {env:Env κ Ty} {objs objs':aH κ Ty} {tm:Array Value}
theorem pM {i j n s:Nat} (hi:i<n) (hj:j<s):i*s+j<n*s:=by
  have:(i+1)*s≤n*s:=Nat.mul_le_mul_right s hi
  rw [Nat.add_mul] at this;omega
theorem XV {i i' j j' s:Nat} (hj:j<s) (hj':j'<s) (h:i≠i'):i*s+j≠i'*s+j':=by
  intro e
  rcases Nat.lt_or_ge i i' with h1 | h1
  ·have:=pM (n:=i') h1 hj;omega
  ·have:=pM (n:=i) (i:=i') (by omega) hj';omega
theorem SRel.storeRow (HC:bH C) (S:SRel C Mut Lent w0 ρ env objs tm w) {id i off:Nat} {t:κ} {xs:List (Ty t)} {z y:Ty t} {ns:List (AV κ Ty)} {us:List Value} (hid:objs[id]? =some (.sl t xs)) (hz:xs[i]? =some z)
    (hn:Cells C w Mut ρ objs ns us) (hle:off+ns.length≤(C.enc t z).length) (hy:C.enc t y=dD (C.enc t z) off ns):
    SRel C Mut Lent w0 ρ env (objs.set id (.sl t (xs.set i y))) tm (w.setCells (ρ id).block ((ρ id).off+i*C.sz t+off) us):=by
  have hlt:=(List.getElem?_eq_some_iff.mp hid).1
  have hilt:=(List.getElem?_eq_some_iff.mp hz).1
  have ho:=S.ob id
  simp only [ORel,hid] at ho
  obtain ⟨ho1,ho2,ho3,ho4,ho5⟩:=ho
  have hcap:(ρ id).cap≠0:=by omega
  have hfoot:aG ρ objs id (ρ id).block:=dA hid hcap
  rw [HC.len] at hle
  have hset:(objs.set id (AObj.sl t (xs.set i y)))[id]? =some (.sl t (xs.set i y)):=by simp [hlt]
  have hne:∀k,k≠id→(objs.set id (AObj.sl t (xs.set i y)))[k]? =objs[k]? :=fun k h=>List.getElem?_set_ne (Ne.symm h)
  have hft:∀k b,aG ρ (objs.set id (AObj.sl t (xs.set i y))) k b→aG ρ objs k b:=fun k b h=>by
    by_cases e:k=id
    ·subst e;unfold aG at h⊢;rw [hset] at h;rw [hid];exact h
    ·unfold aG at h⊢;rw [hne k e] at h;exact h
  have hroom:∀k,k<us.length→∃u,w.cell? (at' (ρ id).block ((ρ id).off+i*C.sz t+off+k))=some u:=fun k hk=>by
    obtain ⟨v,a1,_⟩:=ho4 (i*C.sz t+(off+k)) (pM (by omega) (by rw [hn.1] at hk;omega))
    exact ⟨v,by rw [←a1];congr 2;omega⟩
  have hcell:=fun q=>m0 (w:=w) (b:=(ρ id).block) (o:=(ρ id).off+i*C.sz t+off) (vs:=us) (q:=q) hroom
  have W:WStep w (w.setCells (ρ id).block ((ρ id).off+i*C.sz t+off) us) (bJ ρ objs) (bJ ρ (objs.set id (AObj.sl t (xs.set i y)))):=
    ⟨fun b _ hb=>b9 _ _ _ _ _ (fun e=>hb ⟨id,e▸hfoot⟩),by rw [cY];exact Nat.le_refl _,fun b ⟨k,hk⟩=> .inl ⟨k,hft k b hk⟩⟩
  have hcm:∀k,Compat ρ objs ρ (objs.set id (AObj.sl t (xs.set i y))) k:=fun k=>by
    by_cases e:k=id
    ·subst e;unfold Compat;rw [hid];exact .inl ⟨_,hset,by simp,rfl⟩
    ·exact Compat.of_eq (fun _=>hne k e) (fun _=>rfl)
  obtain ⟨o1,o2,o3⟩:=n5 (ρ id).block us ((ρ id).off+i*C.sz t+off) w
  refine S.step W (by simp) hcm (fun k=> ?_) (fun k j b hi hj=>S.inj k j b (hft k b hi) (hft j b hj)) o1 o2 o3
  by_cases e:k=id
  ·subst e
   unfold ORel
   rw [hset]
   refine ⟨by simpa using ho1,fun h=>by rw [cY];exact ho2 h,fun i' x j cl hx hj=> ?_,fun q hq=> ?_,ho5.mono fun hn=>⟨hn,lE _ _ _ _ _⟩⟩
   ·have hjs:j<C.sz t:=by have:=(List.getElem?_eq_some_iff.mp hj).1;rwa [HC.len] at this
    by_cases hi':i'=i
    ·subst hi'
     simp only [List.getElem?_set_self hilt,Option.some.injEq] at hx
     subst hx
     rw [hy,eT _ _ _ _ (by rw [HC.len];exact hle)] at hj
     by_cases hin:off≤j∧j<off+ns.length
     ·rw [if_pos hin] at hj
      have hk:us[j-off]? =some (us[j-off]'(by rw [hn.1];omega)):=List.getElem?_eq_getElem _
      refine ⟨_, ?_,(hn.2.2 _ _ _ hj hk).step W (by simp) hcm⟩
      rw [hcell,if_pos (by rw [hn.1];omega),←hk];congr 1;omega
     ·rw [if_neg hin] at hj
      obtain ⟨v,a1,a2⟩:=ho3 i' z j cl hz hj
      exact ⟨v,by rw [hcell,if_neg (by rw [hn.1];omega)];exact a1,a2.step W (by simp) hcm⟩
    ·rw [List.getElem?_set_ne (Ne.symm hi')] at hx
     obtain ⟨v,a1,a2⟩:=ho3 i' x j cl hx hj
     refine ⟨v, ?_,a2.step W (by simp) hcm⟩
     rw [hcell,if_neg]
     ·exact a1
     ·rintro ⟨b1,b2⟩
      rw [hn.1] at b2
      exact XV (s:=C.sz t) (i:=i') (i':=i) (j:=j) (j':=i'*C.sz t+j-i*C.sz t) hjs (by omega) hi' (by omega)
   ·obtain ⟨v,a1,a2,a3⟩:=ho4 q hq
    by_cases hin:(ρ k).off+i*C.sz t+off≤(ρ k).off+q∧(ρ k).off+q<(ρ k).off+i*C.sz t+off+us.length
    ·have hk:us[(ρ k).off+q-((ρ k).off+i*C.sz t+off)]? =some (us[(ρ k).off+q-((ρ k).off+i*C.sz t+off)]'(by omega)):=List.getElem?_eq_getElem _
     exact ⟨_,by rw [hcell,if_pos hin];exact hk,hn.2.1 _ _ hk,by rw [World.frozen?_setCells];exact a3⟩
    ·exact ⟨v,by rw [hcell,if_neg hin];exact a1,a2,by rw [World.frozen?_setCells];exact a3⟩
  ·exact ORel.step W (by simp) hcm (S.ob k) (hne k e) rfl (fun b hb=>b9 _ _ _ _ _ (fun e'=>e (S.inj k id b hb (e'▸hfoot))))
theorem M9 {α:Type}:∀(ns cs:List α),ns.length=cs.length→dD cs 0 ns=ns
  | [],[],_=>rfl
  | [],_::_,h=>by simp at h
  | _::_,[],h=>by simp at h
  | n::ns,c::cs,h=>by simp only [dD,M9 ns cs (by simpa using h)]
theorem AZ {k:Nat} (h:objs'[k]? =some .dead):Compat ρ objs ρ' objs' k:=by
  unfold Compat
  split
  ·exact .inr (aZ h)
  ·exact .inr (aZ h)
  ·exact .inr (aZ h)
  ·exact .inr (aZ h)
  ·exact .inr (aZ h)
  ·exact (aZ h)
  ·trivial
theorem uH (S:SRel C Mut Lent w0 ρ env objs tm w):∀(ns:List (AV κ Ty)) (us:List Value) (objs1:aH κ Ty) (K:List (AV κ Ty)→aH κ Ty→Option R) (r:R),Weaker objs objs1→Cells C w Mut ρ objs ns us→L9 ns=true→
    jK C true objs1 ns K=some r→∃(ns':List (AV κ Ty)) (objs':aH κ Ty) (Ls:Nat→Nat×Nat×Nat),K ns' objs'=some r∧Weaker objs1 objs'∧ns'.length=ns.length∧(∀(j:Nat) c u,ns'[j]? =some c→us[j]? =some u→EntR C w Mut ρ objs (Ls j) [c] u)∧
      (∀j,(Ls j).2.2≠0→j<ns.length∧∃d,aG ρ objs d (Ls j).1∧(mX objs1 d).isSome=true∧objs'[d]? =some .dead)∧(∀i j:Nat,(Ls i).2.2≠0→(Ls j).2.2≠0→(Ls i).1=(Ls j).1→i=j)
  | [],us,objs1,K,r,hw,hc,hn,h=>⟨[],objs1,noSub,h, .refl _,rfl,fun j c u h=>by simp at h,fun j h=>absurd rfl h,fun i j h=>absurd rfl h⟩
  | c::ns,us,objs1,K,r,hw,hc,hn,h=>by
    obtain ⟨h1,h2,h3⟩:=hc
    obtain ⟨u,us,rfl⟩:∃u us',us=u::us':=by cases us with | nil=>simp at h1 | cons u us=>exact ⟨u,us,rfl⟩
    have hu:VRel C w Mut ρ objs c u:=h3 0 c u rfl rfl
    have hcu:bD u=true:=h2 0 u rfl
    have hrest:Cells C w Mut ρ objs ns us:=⟨by simpa using h1,fun j u hj=>h2 (j+1) u (by simpa using hj),fun j cl u a b=>h3 (j+1) cl u (by simpa using a) (by simpa using b)⟩
    have hn':(∀b t xs,c≠ .inl b t xs)∧L9 ns=true:=by
      simp only [L9] at hn
      split at hn
      ·cases hn
      ·rename_i hne;exact ⟨hne,hn⟩
    have fin:∀(c':AV κ Ty) (objs2:aH κ Ty) (L0:Nat×Nat×Nat),Weaker objs1 objs2→EntR C w Mut ρ objs L0 [c'] u→(L0.2.2≠0→∃d,aG ρ objs d L0.1∧(mX objs1 d).isSome=true∧objs2[d]? =some .dead)→
     jK C true objs2 ns (fun cs' o=>K (c'::cs') o)=some r→∃(ns':List (AV κ Ty)) (objs':aH κ Ty) (Ls:Nat→Nat×Nat×Nat),K ns' objs'=some r∧Weaker objs1 objs'∧ns'.length=(c::ns).length∧(∀(j:Nat) c u',ns'[j]? =some c→(u::us)[j]? =some u'→EntR C w Mut ρ objs (Ls j) [c] u')∧
      (∀j,(Ls j).2.2≠0→j<(c::ns).length∧∃d,aG ρ objs d (Ls j).1∧(mX objs1 d).isSome=true∧objs'[d]? =some .dead)∧(∀i j:Nat,(Ls i).2.2≠0→(Ls j).2.2≠0→(Ls i).1=(Ls j).1→i=j):=by
      intro c' objs2 L0 hw2 he hd h
      obtain ⟨ns',objs',Ls,g1,g2,g3,g4,g5,g6⟩:=uH S ns us objs2 _ r (hw.trans hw2) hrest hn'.2 h
      have back:∀d,(mX objs2 d).isSome=true→(mX objs1 d).isSome=true:=fun d hd=>by
        rcases hw2.2 d with e | e
        ·unfold mX at hd⊢;rw [e] at hd;exact hd
        ·rw [xC e] at hd;cases hd
      refine ⟨c'::ns',objs',fun j=>match j with | 0=>L0 | j+1=>Ls j,g1,hw2.trans g2,by simp [g3],fun j c u' a b=> ?_,fun j hj=> ?_,fun i j hi hj e=> ?_⟩
      ·cases j with
       | zero=>simp at a b;subst a;subst b;exact he
       | succ j=>exact g4 j c u' (by simpa using a) (by simpa using b)
      ·cases j with
       | zero=>
         obtain ⟨d,k1,k2,k3⟩:=hd hj
         refine ⟨by simp,d,k1,k2, ?_⟩
         rcases g2.2 d with e | e
         ·rw [e];exact k3
         ·exact e
       | succ j=>
         obtain ⟨k0,d,k1,k2,k3⟩:=g5 j hj
         exact ⟨by simp;exact k0,d,k1,back d k2,k3⟩
      ·have cross:∀j,L0.2.2≠0→(Ls j).2.2≠0→L0.1≠(Ls j).1:=fun j hi hj e=>by
         obtain ⟨d,k1,k2,k3⟩:=hd hi
         obtain ⟨_,d',l1,l2,l3⟩:=g5 j hj
         have:=S.inj _ _ _ (e▸k1) l1
         subst this
         rw [xC k3] at l2;cases l2
       cases i with
       | zero=>
         cases j with
         | zero=>rfl
         | succ j=>exact absurd e (cross j hi hj)
       | succ i=>
         cases j with
         | zero=>exact absurd e.symm (cross i hj hi)
         | succ j=>rw [g6 i j hi hj e]
    simp only [jK] at h
    split at h
    ·rename_i id
     split at h
     ·rename_i t xs hsl
      have hsl':=cB hsl
      have hid:objs[id]? =some (.sl t xs):=by
        rcases hw.2 id with e | e
        ·rw [←e];exact hsl'
        ·rw [xC e] at hsl;cases hsl
      split at h
      ·rename_i hb
       have ho:=S.ob id
       simp only [ORel,hid] at ho
       cases hu with
       | own e1 hA=>
         rw [hid] at e1;cases e1
         refine fin (.inl true t xs) _ ((ρ id).block,(ρ id).off,(ρ id).cap) (.kill objs1 id) ⟨_,rfl,hA,ho⟩ (fun hc=>⟨id,dA hid hc,by rw [hsl];rfl, ?_⟩) h
         have:=(List.getElem?_eq_some_iff.mp hsl').1
         simp [this]
       | ownd hcl hin e1=>simp [mX,hid] at e1
      ·cases h
     ·cases h
    ·rename_i t
     split at h
     ·cases hu
      refine fin (.inl true t []) _ (0,0,0) (.refl _) ⟨_,rfl,fun hn=>absurd rfl hn,Nat.le_refl _,fun hn=>absurd rfl hn,fun i x j cl hx=>by simp at hx,fun q hq=>by simp at hq, .zero⟩ (fun hc=>absurd rfl hc) h
     ·cases h
    ·obtain ⟨rfl,hv⟩:=a7 hu
     exact fin (.lit _) _ (0,0,0) (.refl _) ⟨rfl,hv,rfl⟩ (fun hc=>absurd rfl hc) h
    ·exact absurd rfl (hn'.1 _ _ _)
    ·cases h
theorem SRel.storeRw (HC:bH C) (S:SRel C Mut Lent w0 ρ env objs tm w) {id i off:Nat} {t:κ} {xs:List (Ty t)} {z y:Ty t} {ns:List (AV κ Ty)} {us:List Value} {Ls:Nat→Nat×Nat×Nat} {o o':AObj κ Ty} {K K':Nat→Nat→RK}
    (hrw:kY objs id=some ⟨t,xs⟩) (hid:objs[id]? =some o) (hR:RwRel C w Mut ρ objs (ρ id) t xs K) (hz:xs[i]? =some z) (hw:Weaker objs objs') (hid':yK objs' id=true)
    (hn:ns.length=us.length) (hus:∀(j:Nat) (u:Value),us[j]? =some u→bD u=true) (hE:∀(j:Nat) c u,ns[j]? =some c→us[j]? =some u→EntR C w Mut ρ objs (Ls j) [c] u)
    (hL:∀j,(Ls j).2.2≠0→j<ns.length∧∃d,aG ρ objs d (Ls j).1∧(mX objs d).isSome=true∧objs'[d]? =some .dead) (hLd:∀i j:Nat,(Ls i).2.2≠0→(Ls j).2.2≠0→(Ls i).1=(Ls j).1→i=j)
    (hle:off+ns.length≤(C.enc t z).length) (hy:C.enc t y=dD (C.enc t z) off ns)
    (hK:∀i' j,j<C.sz t→¬(i'=i∧off≤j∧j<off+ns.length)→K' i' j=K i' j) (hK2:∀j,off≤j→j<off+ns.length→K' i j= .own)
    (hF':∀(ρ:Nat→Loc) (objs:aH κ Ty) b,objs[id]? =some o'→aG ρ objs id b→xI (ρ id) b) (hO':∀(w:World) (ρ:Nat→Loc) (objs:aH κ Ty),objs[id]? =some o'→RwRel C w Mut ρ objs (ρ id) t (xs.set i y) K'→ORel C w Mut ρ objs id)
    (hC':∀(ρ':Nat→Loc) (objs':aH κ Ty),objs'[id]? =some o'→SameL (ρ id) (ρ' id)→Compat ρ objs ρ' objs' id):
    ∃ρ',SRel C Mut Lent w0 ρ' env (objs'.set id o') tm (w.setCells (ρ id).block ((ρ id).off+i*C.sz t+off) us):=by
  have hlt:=R8 hrw
  have hlt':id<objs'.length:=by have:=hw.1;omega
  have hilt:=(List.getElem?_eq_some_iff.mp hz).1
  have hcap:(ρ id).cap≠0:=by have:=hR.len;omega
  have hfid:∀b,xI (ρ id) b→aG ρ objs id b:=fun b hb=>by
    unfold aG
    rcases jI hrw with ⟨g,hh,e⟩ | ⟨n,e⟩<;>rw [e]<;>exact hb
  have hfoot:aG ρ objs id (ρ id).block:=hfid _ (.inl ⟨hcap,rfl⟩)
  have hnd:∀d,(mX objs d).isSome=true→d≠id:=fun d hd e=>by
    subst e;rw [X2 hrw] at hd;cases hd
  rw [HC.len] at hle
  let sub':Nat→Nat×Nat×Nat:=fun q=>if i*C.sz t+off≤q∧q<i*C.sz t+off+ns.length then Ls (q-(i*C.sz t+off)) else (ρ id).sub q
  let ρ':=upd ρ id ⟨(ρ id).block,(ρ id).off,(ρ id).cap,sub'⟩
  have hρ:ρ' id=⟨(ρ id).block,(ρ id).off,(ρ id).cap,sub'⟩:=aV _ _ _
  have hρo:∀k,k≠id→ρ' k=ρ k:=fun k h=>dJ _ _ _ h
  have hset:(objs'.set id o')[id]? =some o':=by simp [hlt']
  have hne:∀k,k≠id→(objs'.set id o')[k]? =objs'[k]? :=fun k h=>List.getElem?_set_ne (Ne.symm h)
  have hsub:∀q,(sub' q).2.2≠0→(∃j,q=i*C.sz t+off+j∧j<ns.length∧(Ls j).2.2≠0∧sub' q=Ls j)∨((ρ id).sub q).2.2≠0∧sub' q=(ρ id).sub q:=fun q hq=>by
    by_cases hin:i*C.sz t+off≤q∧q<i*C.sz t+off+ns.length
    ·have e:sub' q=Ls (q-(i*C.sz t+off)):=if_pos hin
     rw [e] at hq
     exact .inl ⟨_,by omega,by omega,hq,e⟩
    ·have e:sub' q=(ρ id).sub q:=if_neg hin
     rw [e] at hq
     exact .inr ⟨hq,e⟩
  have hft:∀k b,aG ρ' (objs'.set id o') k b→(k≠id∧aG ρ objs k b∧objs'[k]? =objs[k]?)∨(k=id∧(aG ρ objs id b∨∃d,aG ρ objs d b∧objs'[d]? =some .dead∧d≠id)):=fun k b h=>by
    by_cases e:k=id
    ·subst e
     refine .inr ⟨rfl, ?_⟩
     have:=hF' _ _ _ hset h
     rw [hρ] at this
     rcases this with h1 | ⟨q,h1,h2⟩
     ·exact .inl (hfid _ (.inl h1))
     ·rcases hsub q h1 with ⟨j,_,_,h3,h4⟩ | ⟨h3,h4⟩
      ·obtain ⟨_,d,k1,k2,k3⟩:=hL j h3
       dsimp only at h2
       rw [h4] at h2
       exact .inr ⟨d,h2▸k1,k3,hnd d k2⟩
      ·dsimp only at h2
       rw [h4] at h2
       exact .inl (hfid _ (.inr ⟨q,h3,h2⟩))
    ·refine .inl ⟨e, ?_⟩
     unfold aG at h⊢
     rw [hne k e,hρo k e] at h
     rcases hw.2 k with e' | e'
     ·rw [e'] at h;exact ⟨h,e'⟩
     ·rw [e'] at h;exact h.elim
  have hroom:∀k,k<us.length→∃u,w.cell? (at' (ρ id).block ((ρ id).off+i*C.sz t+off+k))=some u:=fun k hk=>by
    obtain ⟨v,a1,_⟩:=hR.room (i*C.sz t+(off+k)) (pM (by have:=hR.len;omega) (by omega))
    exact ⟨v,by rw [←a1];congr 2;omega⟩
  have hcell:=fun q=>m0 (w:=w) (b:=(ρ id).block) (o:=(ρ id).off+i*C.sz t+off) (vs:=us) (q:=q) hroom
  have W:WStep w (w.setCells (ρ id).block ((ρ id).off+i*C.sz t+off) us) (bJ ρ objs) (bJ ρ' (objs'.set id o')):=
    ⟨fun b _ hb=>b9 _ _ _ _ _ (fun e=>hb ⟨id,e▸hfoot⟩),by rw [cY];exact Nat.le_refl _,fun b ⟨k,hk⟩=> .inl (by
      rcases hft k b hk with ⟨_,h,_⟩ | ⟨_,h | ⟨d,h,_⟩⟩
      ·exact ⟨k,h⟩
      ·exact ⟨id,h⟩
      ·exact ⟨d,h⟩)⟩
  have hlen:objs.length≤(objs'.set id o').length:=by simp;have:=hw.1;omega
  have hcm:∀k,Compat ρ objs ρ' (objs'.set id o') k:=fun k=>by
    by_cases e:k=id
    ·subst e;exact hC' _ _ hset (by rw [hρ];exact ⟨rfl,rfl,rfl⟩)
    ·rcases hw.2 k with e' | e'
     ·exact Compat.of_eq (fun _=>(hne k e).trans e') (fun _=>hρo k e)
     ·exact AZ ((hne k e).trans e')
  have hother:∀k b,k≠id→aG ρ objs k b→b≠(ρ id).block:=fun k b hk hb e=>hk (S.inj k id b hb (e▸hfoot))
  obtain ⟨o1,o2,o3⟩:=n5 (ρ id).block us ((ρ id).off+i*C.sz t+off) w
  refine ⟨ρ',S.step W hlen hcm (fun k=> ?_) (fun k j b hi hj=> ?_) o1 o2 o3⟩
  ·by_cases e:k=id
   ·subst e
    refine hO' _ _ _ hset ?_
    rw [hρ]
    have entB:∀j b,(Ls j).2.2≠0→(Ls j).1=b→b≠(ρ k).block:=fun j b h1 h2=>by
      obtain ⟨_,d,k1,k2,_⟩:=hL j h1
      exact hother d b (hnd d k2) (h2▸k1)
    refine ⟨hR.xcl,by simpa using hR.len,fun h=>by rw [cY];exact hR.blk h,fun i' x j cl hx hj=> ?_,fun q hq=> ?_,fun q hq=> ?_,fun p q hp hq e=> ?_,fun q hq=> ?_,fun q hq=> ?_⟩
    ·have hjs:j<C.sz t:=by have:=(List.getElem?_eq_some_iff.mp hj).1;rwa [HC.len] at this
     dsimp only
     by_cases hin:i'=i∧off≤j∧j<off+ns.length
     ·obtain ⟨rfl,hin1,hin2⟩:=hin
      simp only [List.getElem?_set_self hilt,Option.some.injEq] at hx
      subst hx
      rw [hy,eT _ _ _ _ (by rw [HC.len];exact hle),if_pos ⟨hin1,hin2⟩] at hj
      have hk:us[j-off]? =some (us[j-off]'(by omega)):=List.getElem?_eq_getElem _
      refine ⟨us[j-off]'(by omega), ?_, ?_⟩
      ·rw [hcell,if_pos (by omega),←hk];congr 1;omega
      ·rw [hK2 j hin1 hin2]
       have e:sub' (i'*C.sz t+j)=Ls (j-off):=(if_pos ⟨by omega,by omega⟩).trans (by congr 1;omega)
       rw [e]
       exact EntR.step (w':=w.setCells (ρ k).block ((ρ k).off+i'*C.sz t+off) us) W hlen hcm (hE _ _ _ hj hk) (fun b (h1:(Ls (j-off)).2.2≠0) (h2:(Ls (j-off)).1=b)=>b9 _ _ _ _ _ (entB (j-off) b h1 h2))
     ·rw [hK i' j hjs hin]
      have hold:∃x0,xs[i']? =some x0∧(C.enc t x0)[j]? =some cl:=by
        by_cases hi':i'=i
        ·subst hi'
         simp only [List.getElem?_set_self hilt,Option.some.injEq] at hx
         subst hx
         rw [hy,eT _ _ _ _ (by rw [HC.len];exact hle),if_neg (fun h=>hin ⟨rfl,h⟩)] at hj
         exact ⟨z,hz,hj⟩
        ·rw [List.getElem?_set_ne (Ne.symm hi')] at hx
         exact ⟨x,hx,hj⟩
      obtain ⟨x0,hx0,hj0⟩:=hold
      obtain ⟨v,a1,a2⟩:=hR.cell i' x0 j cl hx0 hj0
      have hout:¬(i*C.sz t+off≤i'*C.sz t+j∧i'*C.sz t+j<i*C.sz t+off+ns.length):=by
        rintro ⟨b1,b2⟩
        by_cases hi':i'=i
        ·subst hi';exact hin ⟨rfl,by omega,by omega⟩
        ·exact XV (s:=C.sz t) (i:=i') (i':=i) (j:=j) (j':=i'*C.sz t+j-i*C.sz t) hjs (by omega) hi' (by omega)
      have e:sub' (i'*C.sz t+j)=(ρ k).sub (i'*C.sz t+j):=if_neg hout
      refine ⟨v, ?_, ?_⟩
      ·rw [hcell,if_neg (by omega)];exact a1
      ·rw [e]
       exact a2.step W hlen hcm (fun b h1 h2=>b9 _ _ _ _ _ (h2▸hR.own _ h1))
    ·obtain ⟨v,a1,a2,a3⟩:=hR.room q hq
     dsimp only
     by_cases hin:(ρ k).off+i*C.sz t+off≤(ρ k).off+q∧(ρ k).off+q<(ρ k).off+i*C.sz t+off+us.length
     ·have hk:us[(ρ k).off+q-((ρ k).off+i*C.sz t+off)]? =some (us[(ρ k).off+q-((ρ k).off+i*C.sz t+off)]'(by omega)):=List.getElem?_eq_getElem _
      exact ⟨_,by rw [hcell,if_pos hin];exact hk,hus _ _ hk,by rw [World.frozen?_setCells];exact a3⟩
     ·exact ⟨v,by rw [hcell,if_neg hin];exact a1,a2,by rw [World.frozen?_setCells];exact a3⟩
    ·rw [List.length_set]
     rcases hsub q hq with ⟨j,rfl,h2,_⟩ | ⟨h1,_⟩
     ·have:=pM (i:=i) (j:=off+j) (n:=xs.length) (s:=C.sz t) hilt (by omega)
      omega
     ·exact hR.zero q h1
    ·have cross:∀j q,(Ls j).2.2≠0→((ρ k).sub q).2.2≠0→(Ls j).1≠((ρ k).sub q).1:=fun j q h1 h2 e=>by
       obtain ⟨_,d,k1,k2,_⟩:=hL j h1
       exact hnd d k2 (S.inj d k _ k1 (e▸hfid _ (.inr ⟨q,h2,rfl⟩)))
     dsimp only at e
     rcases hsub p hp with ⟨j,e1,_,h1,e2⟩ | ⟨h1,e2⟩<;>rcases hsub q hq with ⟨j',e1',_,h1',e2'⟩ | ⟨h1',e2'⟩<;>rw [e2,e2'] at e
     ·have:=hLd j j' h1 h1' e;omega
     ·exact absurd e (cross j q h1 h1')
     ·exact absurd e.symm (cross j' p h1' h1)
     ·exact hR.disj p q h1 h1' e
    ·dsimp only
     rcases hsub q hq with ⟨j,_,_,h1,e⟩ | ⟨h1,e⟩<;>rw [e]
     ·exact entB j _ h1 rfl
     ·exact hR.own q h1
    ·dsimp only
     rw [cY]
     rcases hsub q hq with ⟨j,_,_,h1,e⟩ | ⟨h1,e⟩<;>rw [e]
     ·obtain ⟨_,d,k1,_⟩:=hL j h1
      exact foot_lt (S.ob d) k1
     ·exact hR.lt q h1
   ·rcases hw.2 k with e' | e'
    ·exact ORel.step W hlen hcm (S.ob k) ((hne k e).trans e') (hρo k e) (fun b hb=>b9 _ _ _ _ _ (hother k b e hb))
    ·unfold ORel;rw [hne k e,e'];trivial
  ·rcases hft k b hi with ⟨e1,h1,h2⟩ | ⟨rfl,h1⟩<;>rcases hft j b hj with ⟨g1,g2,g3⟩ | ⟨rfl,g1⟩
   ·exact S.inj k j b h1 g2
   ·rcases g1 with g1 | ⟨d,g1,g2,g3⟩
    ·exact S.inj k j b h1 g1
    ·have:=S.inj k d b h1 g1
     subst this
     rw [g2] at h2
     unfold aG at h1;rw [←h2] at h1;exact h1.elim
   ·rcases h1 with h1 | ⟨d,h1,h2,h3⟩
    ·exact S.inj k j b h1 g2
    ·have:=S.inj j d b g2 h1
     subst this
     rw [h2] at g3
     unfold aG at g2;rw [←g3] at g2;exact g2.elim
   ·rfl
theorem T9:∀{cs:List (AV κ Ty)},L9 cs=true→∀c∈cs,∀b s xs,c≠ .inl b s xs
  | [],_,c,h=>by simp at h
  | c::cs,hn,c',h=>by
    simp only [L9] at hn
    split at hn
    ·cases hn
    ·rename_i hne
     simp only [List.mem_cons] at h
     rcases h with rfl | h
     ·exact hne
     ·exact T9 hn c' h
theorem TF (HT:TOk P C T) (HC:bH C) (S:SRel C Mut Lent w0 ρ env objs tm w) {t:TypeId} {ti:TI κ Ty} (ht:T t=some ti) {x y:AV κ Ty} {u q:Value} (hx:VRel C w Mut ρ objs x u) (hy:VRel C w Mut ρ objs y q)
    {K:aH κ Ty→Option R} {r:R} (h:FR C objs ti x y K=some r):∃objs' ρ' w',K objs'=some r∧(Instr.storeAt t u q).run P w= .ok () w'∧SRel C Mut Lent w0 ρ' env objs' tm w':=by
  unfold FR at h
  split at h
  ·cases h
  ·rename_i ns hns
   have hc:=oP hns hy
   split at h
   ·cases h
   ·rename_i hsz
    have hsz:=Nat.eq_of_beq_eq_true hsz
    have hqs:q.cells.size=ti.size:=by have:=hc.1;simp at this;omega
    split at h
    ·rename_i id off
     split at h
     ·rename_i cs hb
      split at h
      ·rename_i hle
       simp only [Bool.and_eq_true,Bool.or_eq_true,Bool.not_eq_true'] at hle
       obtain ⟨hle,hbs⟩:=hle
       have hfr:frs (dD cs off ns)=false:=hbs.elim (fun h=>by
         cases hf:frs (dD cs off ns) with
         | false=>rfl
         | true=>rw [W8 hf] at h;cases h) fun h=>h.2
       have hle:=Nat.le_of_ble_eq_true hle
       have hb':=N8 hb
       have ho:=S.ob id
       simp only [ORel,hb'] at ho
       cases hx with
       | ref h1=>
         refine ⟨_,_,_,h,sY HT ht hqs (fun j hj=> ?_) (fun v hv=> ?_),S.storeBox hb' hc hle (fun h=>hbs.elim (fun h'=>by rw [h'] at h;cases h) fun h'=>h'.1) hfr⟩
         ·obtain ⟨v,a1,_,_,a4⟩:=ho.2.1 (off+j) _ (List.getElem?_eq_getElem (by omega))
          exact ⟨v,by rw [Nat.add_assoc];exact a1,by rw [Nat.add_assoc];exact a4⟩
         ·obtain ⟨j,hj⟩:=List.getElem?_of_mem hv
          exact hc.2.1 j v hj
       | refd hcl hin h1=>rw [h1] at hb;cases hb
      ·cases h
     ·cases h
    ·rename_i id i off
     split at h
     ·rename_i s xs hsl
      obtain ⟨z,hz,h⟩:=bind_some h
      obtain ⟨ns',objs',h,S',hc',hw⟩:=o9 HC ns _ _ _ _ S hc h
      split at h
      ·rename_i sl' hsl2
       split at h
       ·rename_i hle
        have hle:=Nat.le_of_ble_eq_true hle
        split at h
        ·rename_i yy hdec
         have hsl':=cB hsl
         have henc:=HC.dec _ _ _ hdec
         have hid:objs'[id]? =some (.sl s xs):=by
           rcases hw.2 id with e | e
           ·rw [e];exact hsl'
           ·rw [xC e] at hsl2;cases hsl2
         have ho:=S'.ob id
         simp only [ORel,hid] at ho
         have hilt:=(List.getElem?_eq_some_iff.mp hz).1
         have hnl:ns'.length=ns.length:=by have:=hc.1;have:=hc'.1;omega
         cases hx with
         | eref h1 hi=>
           rw [hsl'] at h1;cases h1
           refine ⟨_,_,_,h,sY HT ht hqs (fun j hj=> ?_) (fun v hv=> ?_),S'.storeRow HC hid hz hc' hle henc⟩
           ·rw [HC.len] at hle
            obtain ⟨v,a1,_,a4⟩:=ho.2.2.2.1 (i*C.sz s+(off+j)) (pM (by omega) (by omega))
            have e:(ρ id).off+i*C.sz s+off+j=(ρ id).off+(i*C.sz s+(off+j)):=by omega
            exact ⟨v,by rw [e];exact a1,by rw [e];exact a4⟩
           ·obtain ⟨j,hj⟩:=List.getElem?_of_mem hv
            exact hc.2.1 j v hj
         | erefd hcl hin h1=>rw [h1] at hsl;cases hsl
        ·cases h
       ·cases h
      ·cases h
     ·cases h
    ·rename_i id i off
     split at h
     ·rename_i hni
      split at h
      ·rename_i s xs g e
       obtain ⟨z,hz,h⟩:=bind_some h
       obtain ⟨ns',objs',Ls,h,hw,hnl,hE,hL,hLd⟩:=uH S ns _ _ _ _ (.refl _) hc hni h
       split at h
       ·rename_i hle
        simp only [Bool.and_eq_true] at hle
        have hle1:=Nat.le_of_ble_eq_true hle.1
        split at h
        ·rename_i yy hdec
         have henc:=HC.dec _ _ _ hdec
         have ho:=S.ob id
         simp only [ORel,e] at ho
         have hilt:=(List.getElem?_eq_some_iff.mp hz).1
         cases hx with
         | rwp h1 hi=>
           rw [cO e] at h1;cases h1
           obtain ⟨ρ',S'⟩:=S.storeRw (K:=bn_ none) (K':=bn_ none) (o:= .rw s xs g none) (o':= .rw s (xs.set i yy) (g+1) none) HC (cO e) e ho hz hw hle.2 (by have:=hc.1;omega) hc.2.1 hE (fun j hj=>by rw [hnl];exact hL j hj) hLd hle1 henc
             (fun _ _ _ _=>rfl) (fun _ _ _=>rfl) (fun ρ objs b e h=>by unfold aG at h;rw [e] at h;exact h) (fun w ρ objs e h=>by unfold ORel;rw [e];exact h)
             (fun ρ' objs' e' hs=>by unfold Compat;rw [e];exact .inl ⟨_,_,_,e',by simp,hs,by omega,fun h=>by omega⟩)
           refine ⟨_,ρ',_,h,sY HT ht hqs (fun j hj=> ?_) (fun v hv=> ?_),S'⟩
           ·rw [HC.len] at hle1
            obtain ⟨v,a1,_,a4⟩:=ho.room (i*C.sz s+(off+j)) (pM (by have:=ho.len;omega) (by omega))
            have e:(ρ id).off+i*C.sz s+off+j=(ρ id).off+(i*C.sz s+(off+j)):=by omega
            exact ⟨v,by rw [e];exact a1,by rw [e];exact a4⟩
           ·obtain ⟨j,hj⟩:=List.getElem?_of_mem hv
            exact hc.2.1 j v hj
         | rwpd hcl hin h1=>rw [jM (cO e)] at h1;cases h1
        ·cases h
       ·cases h
      ·rename_i s xs n e
       replace h:=bind_some h
       obtain ⟨z,hz,h⟩:=h
       split at hz
       ·rename_i hni'
        subst hni'
        replace h:=uH S ns _ _ _ _ (.refl _) hc hni h
        obtain ⟨ns',objs',Ls,h,hw,hnl,hE,hL,hLd⟩:=h
        split at h
        ·rename_i hle
         simp only [Bool.and_eq_true] at hle
         have h0:=Nat.eq_of_beq_eq_true hle.1.1
         have hsl:=Nat.eq_of_beq_eq_true hle.1.2
         subst h0
         cases hdec:C.dec s ns' with
         | none=>rw [hdec] at h;cases h
         | some yy=>
           rw [hdec] at h;dsimp only at h
           have henc:=HC.dec _ _ _ hdec
           have ho:=S.ob id
           simp only [ORel,e] at ho
           have hilt:=(List.getElem?_eq_some_iff.mp hz).1
           cases hx with
           | rwp h1 hi=>
             rw [gO e] at h1;cases h1
             have hzl:=HC.len s z
             obtain ⟨ρ',S'⟩:=S.storeRw (K:=dr_ n) (K':=dr_ (n+1)) (o:= .rp s xs n) (o':= .rp s (xs.set n yy) (n+1)) (off:=0) HC (gO e) e ho hz hw hle.2 (by have:=hc.1;omega) hc.2.1 hE (fun j hj=>by rw [hnl];exact hL j hj) hLd (by omega) (henc.trans (M9 _ _ (by have:=HC.len s yy;rw [henc] at this;omega)).symm)
               (fun i' j hj hn=>by have:=HC.len s yy;rw [henc] at this;have:i'≠n:=fun e=>hn ⟨e,Nat.zero_le _,by omega⟩;unfold dr_;by_cases h:i'<n<;>simp [h]<;>omega) (fun j _ _=>by simp [dr_]) (fun ρ objs b e h=>by unfold aG at h;rw [e] at h;exact h) (fun w ρ objs e h=>by unfold ORel;rw [e];exact h)
               (fun ρ' objs' e' hs=>by unfold Compat;rw [e];exact .inl ⟨_,gO e',by simp,hs⟩)
             refine ⟨_,ρ',_,h,sY HT ht hqs (fun j hj=> ?_) (fun v hv=> ?_),S'⟩
             ·obtain ⟨v,a1,_,a4⟩:=ho.room (n*C.sz s+(0+j)) (pM (by have:=ho.len;omega) (by omega))
              have e:(ρ id).off+n*C.sz s+0+j=(ρ id).off+(n*C.sz s+(0+j)):=by omega
              exact ⟨v,by rw [e];exact a1,by rw [e];exact a4⟩
             ·obtain ⟨j,hj⟩:=List.getElem?_of_mem hv
              exact hc.2.1 j v hj
           | rwpd hcl hin h1=>rw [jM (gO e)] at h1;cases h1
        ·cases h
       ·cases hz
      ·cases h
     ·cases h
    ·cases h
end
end Km
