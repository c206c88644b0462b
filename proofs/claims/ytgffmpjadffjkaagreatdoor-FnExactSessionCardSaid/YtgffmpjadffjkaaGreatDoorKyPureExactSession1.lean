/- A part of the proof of FnExactSession: plain laws of these functions. There is no condition. -/
import Derived.Test.YtgffmpjadffjkaaGreatDoorKmAm4
import Derived.Test.YtgffmpjadffjkaaGreatDoorKxDef1
import Derived.Test.YtgffmpjadffjkaaGreatDoorKxDef3
import Derived.Test.YtgffmpjadffjkaaGreatDoorKxDef2
set_option linter.unusedVariables false
set_option linter.unusedSimpArgs false
namespace Km.X
open Go Km
def smL {α:Type} (p:α→Prop) (l:List α):Prop:=l.length≤1048576∧∀y∈l,p y
def da_ (x:bV):Prop:=x.Text.size≤1048576
def fq_ (x:aI):Prop:=da_ x.Part
def eM_ (x:aP):Prop:=da_ x.Part
def bj_ (x:aK):Prop:=smL fq_ x.Items
def aw_ (x:aM):Prop:=smL eM_ x.Held∧x.Open.size≤1048576∧smL (fun s:ByteArray=>s.size≤1048576) x.Ready
noncomputable def mt (k:Int):ByteArray:=ans (fun n=>OT n k)
abbrev noB:ByteArray:=⟨#[]⟩
theorem rJ:noB.size=0:=rfl
theorem az_ (bs:List Int):∀(s:ByteArray),bs.foldl (fun r n=>r.push (UInt8.ofNat n.toNat)) s=s++m6 bs:=by
  induction bs with
  | nil=>intro s;simp [m6]
  | cons b bs ih=>
    intro s
    simp only [List.foldl_cons,m6]
    rw [ih,ih]
    apply ByteArray.ext;apply Array.ext'
    simp
theorem aK_ (b:Int) (bs:List Int):m6 [b]++m6 bs=m6 (b::bs):=by
  have:=az_ bs (m6 [b])
  rw [←this];rfl
theorem cb_:m6 []=noB:=rfl
def lC:Nat→Nat→List Int
  | 0,_=>[]
  | w+1,n=>lC w (n/256)++[((n%256:Nat):Int)]
theorem nI:∀(w n:Nat),(lC w n).length=w
  | 0,_=>rfl
  | w+1,n=>by simp [lC,nI w]
theorem HL (d:Nat):∀(w n:Nat),(lC (w+d) n).drop d=lC w n
  | 0,n=>by
    rw [Nat.zero_add,List.drop_eq_nil_of_le (by rw [nI];exact Nat.le_refl _)];rfl
  | w+1,n=>by
    rw [show w+1+d=(w+d)+1 by omega]
    simp only [lC]
    rw [List.drop_append_of_le_length (by rw [nI];omega),HL d w]
theorem wu8 (n:Nat):IntKind.wrap .u8 (n:Int)=((n%256:Nat):Int):=by rw [IntKind.wrap_u8];omega
theorem gL_ {n:Int} (h1:0≤n) (h2:n≤18446744073709551615):IntKind.wrap .u64 n=n:=IntWalk.u64_in n ⟨h1,h2⟩
theorem NE (n:Int):0≤IntKind.wrap .u64 n∧IntKind.wrap .u64 n≤18446744073709551615:=by
  simp only [IntKind.wrap,IntKind.signed,IntKind.bits,Bool.false_and]
  rw [if_neg (by simp)];omega
theorem WM (n:Nat):KP (n:Int) 256=some ((n%256:Nat):Int):=by rw [nW (by omega) (by omega)];simp
theorem XJ (n:Nat):VX (n:Int) 256=some ((n/256:Nat):Int):=by rw [DI (by omega) (by omega)];simp
theorem bv_ (n:Nat):IntKind.wrap .u8 ((n%256:Nat):Int)=((n%256:Nat):Int):=by rw [wu8,Nat.mod_mod]
theorem gD_ {k:IntKind} (hk:8≤k.bits) (n:Nat):shift .shr k (n:Int) 8=some ((n/256:Nat):Int):=by
  simp only [shift]
  rw [if_neg (by omega)]
  congr 1
  rw [show (Int.toNat 8)=8 from rfl,Nat.min_eq_left hk,Int.fdiv_eq_ediv_of_nonneg _ (by simp)]
  simp
theorem P6 (b:Int) (bs:List Int) (h:bs.length≤1000):iY (m6 [b]) (m6 bs)=some (m6 (b::bs)):=by
  rw [aY (by rw [tQ,tQ];simp;omega),aK_]
theorem QC {d n:Nat} {b:List Int} (hlt:d<b.length):lC d (n/256)++(b.set d ((n%256:Nat):Int)).drop d=lC (d+1) n++b.drop (d+1):=by
  simp only [lC,List.append_assoc,List.cons_append,List.nil_append]
  congr 1
  rw [List.drop_eq_getElem_cons (by simpa using hlt),List.drop_set_of_lt (by omega)]
  simp
theorem SM:∀(d w i n:Nat) (tail:List Int),i+d=w→w≤8→n≤18446744073709551615→tail.length+d≤100→
    Wp (fun k=>mK k (w:Int) (n:Int) (m6 tail) (i:Int)) (· =m6 (lC d n++tail))
  | 0,w,i,n,tail,h,hw,hn,ht=>by
    refine Wp.step ?_
    simp only [mK]
    simp (disch:=omega) only [aL,if_neg]
    exact Wp.ret rfl
  | d+1,w,i,n,tail,h,hw,hn,ht=>by
    refine Wp.step ?_
    simp only [mK]
    simp (disch:=omega) only [aL,if_pos,WM,XJ,Option.bind_some,bv_,P6,gL_,bR,dm_]
    have ih:=SM d w (i+1) (n/256) (((n%256:Nat):Int)::tail) (by omega) hw (by omega) (by simp;omega)
    simpa [lC] using ih
theorem SW:∀(d w n:Nat) (b:List Int),b.length=8→d≤8→1≤w→w≤8→n≤18446744073709551615→
    Wp (fun k=>mD k (w:Int) (n:Int) ((d:Int)-1) b) (· =m6 ((lC d n++b.drop d).drop (8-w)))
  | 0,w,n,b,hb,hd,hw1,hw,hn=>by
    refine Wp.step ?_
    simp only [mD]
    simp (disch:=omega) only [aL,if_neg,if_pos hb,bR,dF,Option.bind_some]
    refine Wp.ret ?_
    simp only [lC,List.nil_append,List.drop_zero,iF]
    rw [show ((8:Int)-(w:Int)).toNat=8-w by omega,show Int.toNat 8=8 from rfl,List.take_of_length_le (by omega)]
  | d+1,w,n,b,hb,hd,hw1,hw,hn=>by
    refine Wp.step ?_
    simp only [mD]
    rw [show ((d+1:Nat):Int)-1=(d:Int) by omega]
    have hlt:d<b.length:=by omega
    simp (disch:=first | omega | decide) only [aL,if_pos,if_pos hb,gG_,gB_,Option.bind_some,gD_,bR,wu8]
    have ih:=SW d w (n/256) (b.set d ((n%256:Nat):Int)) (by simpa using hb) (by omega) hw1 hw (by omega)
    rw [QC hlt] at ih
    rw [Int.toNat_natCast]
    exact ih
def hstep (v:Int) (c:UInt8):Int:=IntKind.wrap .u64 ((w6 .u64 v (IntKind.wrap .u64 (c.toNat:Int)))*1099511628211)
def gf_ (l:List UInt8):Int:=l.foldl hstep 14695981039346656037
theorem hY {pre t:List UInt8} {c:UInt8} {all:ByteArray} (h:all.data.toList=pre++c::t):AQ all (pre.length:Int)=some c:=by
  have hl:pre.length<all.size:=by
    have:=congrArg List.length h
    simp at this
    have e:all.size=all.data.size:=rfl
    omega
  have hg:all.data[pre.length]? =some c:=by
    rw [←Array.getElem?_toList,h];simp
  unfold AQ
  rw [if_neg (by omega),Int.toNat_natCast]
  have e:all[pre.length]? =some (all[pre.length]'hl):=by simp [hl]
  rw [e]
  rw [Array.getElem?_eq_getElem (by exact hl)] at hg
  exact hg
theorem sJ {pre t:List UInt8} {all:ByteArray} (h:all.data.toList=pre++t):all.size=pre.length+t.length:=by
  have:=congrArg List.length h
  simp at this
  exact this
theorem WY (all:ByteArray) (w:Nat) (hw:w≤8) (hs:all.size≤10000000):∀(t pre:List UInt8) (v:Int),all.data.toList=pre++t→0≤v∧v≤18446744073709551615→
    Wp (fun k=>oH k (w:Int) all v (pre.length:Int)) (· =m6 (lC w (t.foldl hstep v).toNat))
  | [],pre,v,h,hv=>by
    refine Wp.step ?_
    have:=sJ h
    simp only [List.length_nil] at this
    simp only [oH]
    simp (disch:=omega) only [aL,if_neg]
    have h11:=SM w w 0 v.toNat [] (by omega) hw (by omega) (by simp;omega)
    rw [List.append_nil,show ((v.toNat:Nat):Int)=v by omega,cb_] at h11
    exact h11
  | c::t,pre,v,h,hv=>by
    refine Wp.step ?_
    have hl:=sJ h
    simp only [List.length_cons] at hl
    simp only [oH]
    simp (disch:=omega) only [aL,if_pos,hY h,Option.bind_some,bR]
    have ih:=WY all w hw hs t (pre++[c]) (hstep v c) (by simpa using h) (NE _)
    rwa [←bS] at ih
theorem XF (all:ByteArray) (w:Nat) (hw1:1≤w) (hw:w≤8) (hs:all.size≤10000000):∀(t pre:List UInt8) (v:Int),all.data.toList=pre++t→0≤v∧v≤18446744073709551615→
    Wp (fun k=>nZ k (w:Int) v all (pre.length:Int)) (· =m6 (lC w (t.foldl hstep v).toNat))
  | [],pre,v,h,hv=>by
    refine Wp.step ?_
    have:=sJ h
    simp only [List.length_nil] at this
    simp only [nZ]
    simp (disch:=omega) only [aL,if_neg]
    have h11:=SW 8 w v.toNat (List.replicate 8 0) (by simp) (by omega) hw1 hw (by omega)
    rw [show ((v.toNat:Nat):Int)=v by omega] at h11
    have hd:=HL (8-w) w v.toNat
    rw [show w+(8-w)=8 by omega] at hd
    refine Wp.mono h11 fun r hr=> ?_
    rw [hr,show List.drop 8 (List.replicate 8 (0:Int))=[] from rfl,List.append_nil,hd]
    rfl
  | c::t,pre,v,h,hv=>by
    refine Wp.step ?_
    have hl:=sJ h
    simp only [List.length_cons] at hl
    simp only [nZ]
    simp (disch:=omega) only [aL,if_pos,hY h,Option.bind_some,bR]
    have ih:=XF all w hw1 hw hs t (pre++[c]) (hstep v c) (by simpa using h) (NE _)
    rwa [←bS] at ih
theorem dO (a b c:Int):Wp (fun k=>aZ k a b c) (· =(decide (b≤a)&&decide (a≤c))):=by
  unfold aZ
  refine Wp.dec (fun h=>Wp.ret ?_) (fun h=>Wp.ret ?_)
  ·rw [decide_eq_true (show b≤a by omega)];rfl
  ·rw [decide_eq_false (show¬b≤a by omega)];rfl
theorem BD (a b c:Int):Wp (fun k=>bP k a b c) (· =(decide (b≤a)&&decide (a≤c))):=dO a b c
theorem inB {a b c:Int}:(decide (b≤a)&&decide (a≤c))=decide (b≤a∧a≤c):=by rw [Bool.decide_and]
def ce_ (a b:ByteArray) (w:Int):ByteArray:=if w<1∨8<w∨30<b.size then noB else m6 (lC w.toNat (gf_ (b++⟨#[0]⟩++a).data.toList).toNat)
theorem ZH (a b:ByteArray) (w:Int) (ha:a.size≤1048576):Wp (fun k=>GL k a b w) (· =ce_ a b w):=by
  unfold GL ce_
  refine Wp.bind (dO _ _ _) (fun _ e=> ?_);subst e
  simp only [inB,b9,aL]
  refine Wp.ite (fun h1=> ?_) (fun h1=> ?_)
  ·refine Wp.ite (fun h2=> ?_) (fun h2=> ?_)
   ·rw [if_pos (by omega)];exact Wp.ret rfl
   ·rw [if_neg (by omega)]
    have e0:(⟨#[0]⟩:ByteArray).size=1:=rfl
    have hsz:(b++⟨#[0]⟩++a).size=b.size+1+a.size:=by rw [aG,aG,e0]
    refine Wp.opt (aY (by rw [e0];omega)) ?_
    refine Wp.opt (aY (by rw [aG,e0];omega)) ?_
    obtain ⟨n,rfl⟩:∃n:Nat,w=n:=⟨w.toNat,by omega⟩
    exact WY _ n (by omega) (by omega) _ [] _ rfl (by omega)
  ·rw [if_pos (by omega)];exact Wp.ret rfl
theorem X9 (a b:ByteArray) (w:Int) (ha:a.size≤1048576):Wp (fun k=>GQ k a b w) (· =ce_ a b w):=by
  unfold GQ ce_
  simp only [aL]
  refine Wp.ite (fun h1=> ?_) (fun h1=> ?_)
  ·rw [if_pos (by omega)];exact Wp.ret rfl
  refine Wp.ite (fun h2=> ?_) (fun h2=> ?_)
  ·rw [if_pos (by omega)];exact Wp.ret rfl
  refine Wp.ite (fun h3=> ?_) (fun h3=> ?_)
  ·rw [if_pos (by omega)];exact Wp.ret rfl
  rw [if_neg (by omega)]
  have e0:(⟨#[0]⟩:ByteArray).size=1:=rfl
  have hsz:(b++⟨#[0]⟩++a).size=b.size+1+a.size:=by rw [aG,aG,e0]
  refine Wp.opt (aY (by rw [e0];omega)) ?_
  refine Wp.opt (aY (by rw [aG,e0];omega)) ?_
  obtain ⟨n,rfl⟩:∃n:Nat,w=n:=⟨w.toNat,by omega⟩
  exact XF _ n (by omega) (by omega) (by omega) _ [] _ rfl (by omega)
theorem KJ (a b:ByteArray) (w:Int):(ce_ a b w).size≤8:=by
  unfold ce_
  split
  ·simp [rJ]
  ·rw [tQ,nI];omega
def bT_ (n:Nat):ByteArray:=⟨(Lib.decDigits n).toArray⟩
theorem Z0:∀(k n:Nat),n<10^(k+1)→(Lib.decDigits n).length≤k+1
  | 0,n,h=>by rw [Lib.decDigits,dif_pos (by omega)];simp
  | k+1,n,h=>by
    rw [Lib.decDigits]
    split
    ·simp
    ·have:=Z0 k (n/10) (by rw [Nat.pow_succ] at h;omega)
     simp;omega
theorem cx_ (n:Nat):(⟨(Lib.itoa (n:Int)).toArray⟩:ByteArray)=bT_ n:=by unfold Lib.itoa;rw [if_neg (by omega),Int.toNat_natCast];rfl
theorem RA (k n:Nat) (h:n<10^(k+1)):(bT_ n).size≤k+1:=by
  have:=Z0 k n h
  show (Lib.decDigits n).toArray.size≤_
  simpa using this
theorem aI_ {d:Nat} (h:d<10):m6 [IntKind.wrap .u8 (IntKind.wrap .i64 (48+(d:Int)))]=⟨#[UInt8.ofNat (48+d)]⟩:=by
  rw [bR (by omega) (by omega),show (48:Int)+(d:Int)=((48+d:Nat):Int) by omega,wu8,Nat.mod_eq_of_lt (by omega)]
  rfl
theorem MV (n:Nat) (hn:n<10^18):Wp (fun k=>dA k (n:Int)) (· =bT_ n):=by
  induction n using Nat.strongRecOn with
  | _ n ih=>
  refine Wp.step ?_
  simp only [dA]
  refine Wp.dec (fun h=>Wp.ret ?_) (fun h=> ?_)
  ·have h':n<10:=by omega
   rw [aI_ h',bT_,Lib.decDigits,dif_pos h']
  ·refine Wp.opt (DI (by omega) (by omega)) ?_
   rw [show (n:Int)/10=((n/10:Nat):Int) by omega,bR (by omega) (by omega)]
   refine Wp.bind (ih (n/10) (by omega) (by omega)) (fun _ e=> ?_);subst e
   refine Wp.opt (nW (by omega) (by omega)) ?_
   rw [show (n:Int)%10=((n%10:Nat):Int) by omega,aI_ (by omega)]
   refine Wp.opt (aY ?_) (Wp.ret ?_)
   ·have:=RA 17 (n/10) (by omega)
    have e:(⟨#[UInt8.ofNat (48+n%10)]⟩:ByteArray).size=1:=rfl
    omega
   ·conv=>rhs;rw [bT_,Lib.decDigits,dif_neg (by omega)]
    apply ByteArray.ext
    simp [bT_]
def rF (c:UInt8):Bool:=48≤c.toNat&&c.toNat≤57
def CO (n:Nat) (l:List UInt8):Nat:=l.foldl (fun n c=>n*10+(c.toNat-48)) n
def E8 (s:ByteArray):Option Nat:=
  if (1≤s.size∧s.size≤6)∧(∀c∈s.data.toList,rF c=true)∧((s.data.toList.head? =some 48)→s.size=1) then some (CO 0 s.data.toList) else none
theorem P9 (n:Nat) (c:UInt8) (l:List UInt8):CO n (c::l)=CO (n*10+(c.toNat-48)) l:=by unfold CO;rw [List.foldl_cons]
theorem aO_:∀(l:List UInt8) (n:Nat),(∀c∈l,rF c=true)→CO n l<(n+1)*10^l.length
  | [],n,_=>by simp [CO]
  | c::l,n,h=>by
    rw [P9]
    have hc:=h c (by simp)
    simp only [rF,Bool.and_eq_true,decide_eq_true_eq] at hc
    have:=aO_ l (n*10+(c.toNat-48)) (fun d hd=>h d (by simp [hd]))
    refine Nat.lt_of_lt_of_le this ?_
    rw [List.length_cons,Nat.pow_succ,Nat.mul_comm (10^l.length),←Nat.mul_assoc]
    exact Nat.mul_le_mul_right _ (by omega)
theorem PS (n:Nat) (l:List UInt8) (c:UInt8):CO n (l++[c])=CO n l*10+(c.toNat-48):=by simp [CO]
theorem WN {c:UInt8} (h:rF c=true):UInt8.ofNat (48+(c.toNat-48))=c:=by
  simp only [rF,Bool.and_eq_true,decide_eq_true_eq] at h
  rw [show 48+(c.toNat-48)=c.toNat by omega]
  exact UInt8.ofNat_toNat
theorem VB (n:Nat):∀(l:List UInt8),l.length=n+1→(∀c∈l,rF c=true)→((l.head? =some 48→l.length=1)↔Lib.decDigits (CO 0 l)=l)∧(l.head? ≠some 48→1≤CO 0 l):=by
  induction n with
  | zero=>
    intro l hl hd
    match l,hl with
    | [c],_=>
      have hc:=hd c (by simp)
      have hc':=hc
      simp only [rF,Bool.and_eq_true,decide_eq_true_eq] at hc'
      have hv:CO 0 [c]=c.toNat-48:=by simp [CO]
      refine ⟨⟨fun _=> ?_,fun _ _=>rfl⟩,fun h=> ?_⟩
      ·rw [hv,Lib.decDigits,dif_pos (by omega),WN hc]
      ·have:c.toNat≠48:=fun e=>h (by
         have:c=48:=UInt8.toNat_inj.mp e
         subst this;rfl)
       omega
  | succ n ih=>
    intro l hl hd
    obtain ⟨l',c,rfl⟩:∃l' c,l=l'++[c]:=by
      rcases List.eq_nil_or_concat l with rfl | ⟨l',c,rfl⟩
      ·simp at hl
      ·exact ⟨l',c,by simp⟩
    have hl':l'.length=n+1:=by simpa using hl
    have hc:=hd c (by simp)
    have hc':=hc
    simp only [rF,Bool.and_eq_true,decide_eq_true_eq] at hc'
    obtain ⟨i1,i2⟩:=ih l' hl' (fun d h=>hd d (by simp [h]))
    have hh:(l'++[c]).head? =l'.head? :=by
      cases l' with
      | nil=>simp at hl'
      | cons a b=>rfl
    rw [PS,hh]
    have hlen:(l'++[c]).length=n+2:=by simp [hl']
    refine ⟨⟨fun h=> ?_,fun h h0=> ?_⟩,fun h=>by have:=i2 h;omega⟩
    ·have h0:l'.head? ≠some 48:=fun e=>by have:=h e;omega
     have hv:=i2 h0
     rw [Lib.decDigits,dif_neg (by omega),show (CO 0 l'*10+(c.toNat-48))/10=CO 0 l' by omega,show (CO 0 l'*10+(c.toNat-48))%10=c.toNat-48 by omega,WN hc,
      i1.mp (fun e=>absurd e h0)]
    ·exfalso
     by_cases hz:CO 0 l'=0
     ·rw [hz,Lib.decDigits,dif_pos (by omega)] at h
      have:=congrArg List.length h
      simp at this
      rw [this] at hl';simp at hl'
     ·rw [Lib.decDigits,dif_neg (by omega),show (CO 0 l'*10+(c.toNat-48))/10=CO 0 l' by omega] at h
      have h':=List.append_inj_left' h (by simp)
      have h1:=i1.mpr h' h0
      match l',h1 with
      | [d],_=>
        simp at h0
        subst h0
        exact hz (by simp [CO])
theorem bt_ {s:ByteArray} (hs:1≤s.size) (hd:∀c∈s.data.toList,rF c=true):bT_ (CO 0 s.data.toList)=s↔(s.data.toList.head? =some 48→s.size=1):=by
  have hl:s.data.toList.length=(s.size-1)+1:=by
    have:s.data.toList.length=s.size:=by simp
    omega
  have:=(VB _ _ hl hd).1
  have e:s.data.toList.length=s.size:=by simp
  rw [e] at this
  rw [this]
  constructor
  ·intro h
   have:=congrArg (fun b=>b.data.toList) h
   simpa [bT_] using this
  ·intro h
   apply ByteArray.ext
   rw [bT_,h]
def aH_ (s:ByteArray):Int:=match E8 s with | some n=>(n:Int) | none=> -1
def ac_ (s:ByteArray):Int×Bool:=match E8 s with | some n=>((n:Int),true) | none=>(0,false)
theorem GJ {s:ByteArray} {c:UInt8} (hc:c∈s.data.toList) (h:rF c=false):E8 s=none:=by
  unfold E8
  rw [if_neg (fun g=>by have:=g.2.1 c hc;rw [h] at this;cases this)]
theorem CB {s:ByteArray} (h:¬(1≤s.size∧s.size≤6)):E8 s=none:=by
  unfold E8
  rw [if_neg (fun g=>h g.1)]
theorem W8 {c:UInt8} (h:(c.toNat:Int)<48∨(c.toNat:Int)>57):rF c=false:=by
  cases hd:rF c with
  | false=>rfl
  | true=>
    simp only [rF,Bool.and_eq_true,decide_eq_true_eq] at hd
    omega
theorem WQ {c:UInt8} (h1:¬(c.toNat:Int)<48) (h2:¬(c.toNat:Int)>57):rF c=true:=by
  simp only [rF,Bool.and_eq_true,decide_eq_true_eq]
  omega
theorem xI {l:List UInt8} (h:∀c∈l,rF c=true) (hl:l.length≤6):CO 0 l<1000000:=by
  have:=aO_ l 0 h
  have:(10:Nat)^l.length≤10^6:=Nat.pow_le_pow_right (by decide) hl
  omega
theorem Z8 {s:ByteArray} {n:Nat} (h:E8 s=some n):n<1000000:=by
  unfold E8 at h
  split at h
  ·rename_i g
   cases h
   have hl:s.data.toList.length=s.size:=by simp
   exact xI g.2.1 (by omega)
  ·cases h
theorem wA (s:ByteArray) (hs:1≤s.size∧s.size≤6):∀(t pre:List UInt8),s.data.toList=pre++t→(∀c∈pre,rF c=true)→Wp (fun k=>fS k s (CO 0 pre:Nat) (pre.length:Nat)) (· =aH_ s)
  | [],pre,he,hd=>by
    have hl:pre.length=s.size:=by have:=congrArg List.length he;simp at this;omega
    refine Wp.step ?_
    simp only [fS]
    rw [List.append_nil] at he
    refine Wp.dec (fun h=>by omega) (fun _=> ?_)
    have hv:=xI hd (by omega)
    refine Wp.bind (MV _ (by omega)) (fun _ e=> ?_);subst e
    simp only [b9,nO]
    rw [←he] at hd⊢
    refine Wp.ite (fun h=>Wp.ret ?_) (fun h=>Wp.ret ?_)
    ·unfold aH_ E8
     rw [if_pos ⟨hs,hd,(bt_ hs.1 hd).mp h⟩]
    ·unfold aH_ E8
     rw [if_neg (fun g=>h ((bt_ hs.1 hd).mpr g.2.2))]
  | c::t,pre,he,hd=>by
    have hl:pre.length<s.size:=by have:=congrArg List.length he;simp at this;omega
    have hc:c∈s.data.toList:=by rw [he];simp
    refine Wp.step ?_
    simp only [fS]
    refine Wp.dec (fun _=> ?_) (fun h=>by omega)
    refine Wp.opt (hY he) ?_
    refine Wp.dec (fun h=>Wp.ret (by unfold aH_;rw [GJ hc (W8 (.inl h))])) (fun h1=> ?_)
    refine Wp.opt (hY he) ?_
    refine Wp.dec (fun h=>Wp.ret (by unfold aH_;rw [GJ hc (W8 (.inr h))])) (fun h2=> ?_)
    refine Wp.opt (hY he) ?_
    have hv:=xI hd (by omega)
    have e1:IntKind.wrap .i64 ((IntKind.wrap .i64 (((CO 0 pre:Nat):Int)*10))+(IntKind.wrap .i64 (IntKind.wrap .u8 ((c.toNat:Int)-48))))=((CO 0 (pre++[c]):Nat):Int):=by
      rw [show (c.toNat:Int)-48=((c.toNat-48:Nat):Int) by omega,wu8,Nat.mod_eq_of_lt (by omega),bR (n:=((c.toNat-48:Nat):Int)) (by omega) (by omega),bR (n:=((CO 0 pre:Nat):Int)*10) (by omega) (by omega),PS,bR (by omega) (by omega)]
      omega
    rw [e1,bR (by omega) (by omega),bS pre c]
    exact wA s hs t (pre++[c]) (by rw [he];simp) (fun d hd'=>by
      simp only [List.mem_append,List.mem_singleton] at hd'
      rcases hd' with h | rfl
      ·exact hd d h
      ·exact WQ h1 h2)
theorem uP (s:ByteArray):Wp (fun k=>fX k s) (· =aH_ s):=by
  unfold fX
  simp only [lW]
  refine Wp.ite (fun h=>Wp.ret (by unfold aH_;rw [CB (by omega)])) (fun h1=> ?_)
  refine Wp.dec (fun h=>Wp.ret (by unfold aH_;rw [CB (by omega)])) (fun h2=> ?_)
  exact wA s (by omega) s.data.toList [] rfl (fun c h=>by simp at h)
theorem WS:∀(l:List UInt8) (n:Nat),(∀c∈l,rF c=true)→(n+1)*10^l.length≤1000000000000000000→Lib.parseUint10 n l= .ok (CO n l)
  | [],n,_,_=>rfl
  | c::l,n,h,hb=>by
    have hc:=h c (by simp)
    simp only [rF,Bool.and_eq_true,decide_eq_true_eq] at hc
    have hp:1≤10^l.length:=Nat.one_le_pow _ _ (by decide)
    rw [List.length_cons,Nat.pow_succ,Nat.mul_comm (10^l.length),←Nat.mul_assoc] at hb
    have hm:=Nat.mul_le_mul_left ((n+1)*10) hp
    rw [Lib.parseUint10,if_pos hc,if_neg (by omega),if_neg (by omega),P9]
    refine WS l _ (fun d hd=>h d (by simp [hd])) (Nat.le_trans (Nat.mul_le_mul_right _ (by omega)) hb)
theorem d2_ {s:ByteArray} (hs:1≤s.size∧s.size≤6) (hd:∀c∈s.data.toList,rF c=true) (k:Nat):mH k s=some (((CO 0 s.data.toList:Nat):Int),()):=by
  have hl:s.data.toList.length=s.size:=by simp
  unfold mH
  rw [if_pos (by omega)]
  have hp:(10:Nat)^s.data.toList.length≤10^6:=Nat.pow_le_pow_right (by decide) (by omega)
  have hpa:=WS s.data.toList 0 hd (by rw [Nat.zero_add,Nat.one_mul];exact Nat.le_trans hp (by decide))
  have hv:=xI hd (by omega)
  have ha:Lib.atoiAll s.data.toList= .ok ((CO 0 s.data.toList:Nat):Int):=by
    revert hd hpa hv hl
    cases s.data.toList with
    | nil=>
      intro hd hl
      have:(0:Nat)=s.size:=hl
      omega
    | cons c l=>
      intro hd hl hpa hv
      have hc:=hd c (by simp)
      simp only [rF,Bool.and_eq_true,decide_eq_true_eq] at hc
      have h1:¬(c.toNat=43∨c.toNat=45):=by omega
      have h2:¬c.toNat=45:=by omega
      unfold Lib.atoiAll
      dsimp only
      rw [if_neg h1]
      unfold Lib.parseMag
      rw [if_neg (by simp),hpa]
      dsimp only
      rw [if_neg (fun g=>by omega),if_neg (fun g=>h2 g.1),if_neg h2]
  rw [ha]
theorem uV (s:ByteArray) (hs:1≤s.size∧s.size≤6) (h0:s.data.toList.head? =some 48→s.size=1):∀(t pre:List UInt8),s.data.toList=pre++t→(∀c∈pre,rF c=true)→Wp (fun k=>fD k s (pre.length:Nat)) (· =ac_ s)
  | [],pre,he,hd=>by
    have hl:pre.length=s.size:=by have:=congrArg List.length he;simp at this;omega
    refine Wp.step ?_
    simp only [fD]
    rw [List.append_nil] at he
    rw [←he] at hd
    refine Wp.dec (fun h=>by omega) (fun _=> ?_)
    simp only [d2_ hs hd]
    refine Wp.ret ?_
    unfold ac_ E8
    rw [if_pos ⟨hs,hd,h0⟩]
  | c::t,pre,he,hd=>by
    have hl:pre.length<s.size:=by have:=congrArg List.length he;simp at this;omega
    have hc:c∈s.data.toList:=by rw [he];simp
    refine Wp.step ?_
    simp only [fD]
    refine Wp.dec (fun _=> ?_) (fun h=>by omega)
    refine Wp.opt (hY he) ?_
    refine Wp.dec (fun h=>Wp.ret (by unfold ac_;rw [GJ hc (W8 (.inl h))])) (fun h1=> ?_)
    refine Wp.opt (hY he) ?_
    refine Wp.dec (fun h=>Wp.ret (by unfold ac_;rw [GJ hc (W8 (.inr h))])) (fun h2=> ?_)
    rw [bR (by omega) (by omega),bS pre c]
    exact uV s hs h0 t (pre++[c]) (by rw [he];simp) (fun d hd'=>by
      simp only [List.mem_append,List.mem_singleton] at hd'
      rcases hd' with h | rfl
      ·exact hd d h
      ·exact WQ h1 h2)
theorem sO (s:ByteArray):Wp (fun k=>mI k s) (· =ac_ s):=by
  unfold mI
  refine Wp.dec (fun h=>Wp.ret (by unfold ac_;rw [CB (by omega)])) (fun h1=> ?_)
  refine Wp.dec (fun h=>Wp.ret (by unfold ac_;rw [CB (by omega)])) (fun h2=> ?_)
  obtain ⟨c,t,he⟩:∃c t,s.data.toList=c::t:=by
    cases hq:s.data.toList with
    | nil=>have:=congrArg List.length hq;simp at this;subst this;exact absurd h1 (by decide)
    | cons c t=>exact ⟨c,t,rfl⟩
  refine Wp.opt (x:=c) (hY (pre:=[]) he) ?_
  simp only [lW]
  have run:=fun h0=>uV s (by omega) h0 s.data.toList [] rfl (fun c h=>by simp at h)
  refine Wp.ite (fun h=> ?_) (fun h=> ?_)
  ·have hc:c=48:=UInt8.toNat_inj.mp (by show c.toNat=48;omega)
   refine Wp.dec (fun h3=>Wp.ret ?_) (fun h3=> ?_)
   ·unfold ac_ E8
    rw [if_neg (fun g=>by have:=g.2.2 (by rw [he,hc];rfl);omega)]
   ·exact run (fun _=>by omega)
  ·exact run (fun g=>by
     rw [he] at g
     simp at g
     subst g
     exact absurd rfl h)
def pcL (c:UInt8):List UInt8→List (List UInt8)
  | []=>[[]]
  | x::l=>if x=c then []::pcL c l else (match pcL c l with | []=>[[x]] | h::t=>(x::h)::t)
def baL (l:List UInt8):ByteArray:=⟨l.toArray⟩
def pcM (s:ByteArray) (c:UInt8):List ByteArray:=(pcL c s.data.toList).map baL
def pcC (c:UInt8) (cur:List UInt8) (l:List UInt8):List (List UInt8):=match pcL c l with | []=>[cur] | h::t=>(cur++h)::t
theorem WZ (c:UInt8):∀l:List UInt8,pcL c l≠[]
  | []=>by simp [pcL]
  | x::l=>by
    unfold pcL
    split
    ·simp
    ·split<;>simp
theorem do_ (c:UInt8) (cur:List UInt8):pcC c cur []=[cur]:=by simp [pcC,pcL]
theorem V9 (c:UInt8) (l:List UInt8):pcC c [] l=pcL c l:=by
  unfold pcC
  split
  ·rename_i h;exact absurd h (WZ c l)
  ·rename_i h;rw [h];rfl
theorem dS_ (c:UInt8) (cur l:List UInt8):pcC c cur (c::l)=cur::pcL c l:=by
  unfold pcC
  rw [show pcL c (c::l)=[]::pcL c l by simp [pcL]]
  simp
theorem ck_ {c x:UInt8} (h:x≠c) (cur l:List UInt8):pcC c cur (x::l)=pcC c (cur++[x]) l:=by
  unfold pcC
  cases hl:pcL c l with
  | nil=>exact absurd hl (WZ c l)
  | cons a b=>simp [pcL,h,hl]
theorem G0 {s:ByteArray} {a b r:List UInt8} (h:s.data.toList=a++(b++r)):s.extract a.length (a.length+b.length)=baL b:=by
  apply ByteArray.ext
  apply Array.toList_inj.mp
  simp only [ByteArray.data_extract,Array.toList_extract,baL]
  rw [List.extract_eq_take_drop,h]
  simp
theorem E9 (s:ByteArray):s.data.toList.length=s.size:=by simp
theorem L5 (c:UInt8):∀l:List UInt8,(pcL c l).length≤l.length+1
  | []=>by simp [pcL]
  | x::l=>by
    have:=L5 c l
    unfold pcL
    split
    ·simp;omega
    ·cases hl:pcL c l with
     | nil=>simp
     | cons a b=>rw [hl] at this;simp at this⊢;omega
theorem zZ (s:ByteArray) (c:UInt8) (hs:s.size≤1000000000):∀(t cur pre:List UInt8) (acc:List ByteArray),s.data.toList=pre++(cur++t)→acc.length≤pre.length→
    Wp (fun k=>kQ k s (c.toNat:Int) (pre.length:Nat) ((pre.length+cur.length:Nat):Int) acc) (· =acc++(pcC c cur t).map baL)
  | [],cur,pre,acc,he,ha=>by
    have hl:=congrArg List.length he
    rw [E9] at hl
    simp only [List.length_append,List.length_nil,Nat.add_zero] at hl
    refine Wp.step ?_
    simp only [kQ]
    refine Wp.dec (fun h=>by omega) (fun _=> ?_)
    refine Wp.opt (dF ⟨by omega,by omega,by omega⟩) ?_
    refine Wp.opt (bI ?_) (Wp.ret ?_)
    ·simp;omega
    ·rw [Int.toNat_natCast,Int.toNat_natCast,hl,G0 he,do_];rfl
  | x::t,cur,pre,acc,he,ha=>by
    have hl:=congrArg List.length he
    rw [E9] at hl
    simp only [List.length_append,List.length_cons] at hl
    refine Wp.step ?_
    simp only [kQ]
    refine Wp.dec (fun _=> ?_) (fun h=>by omega)
    have hb:AQ s ((pre.length+cur.length:Nat):Int)=some x:=by
      have:=hY (pre:=pre++cur) (c:=x) (t:=t) (all:=s) (by rw [he];simp)
      simpa using this
    refine Wp.opt hb ?_
    simp only [lW]
    refine Wp.ite (fun h=> ?_) (fun h=> ?_)
    ·have hx:x=c:=UInt8.toNat_inj.mp (by omega)
     subst hx
     refine Wp.opt (dF ⟨by omega,by omega,by omega⟩) ?_
     rw [Int.toNat_natCast,Int.toNat_natCast,G0 he]
     refine Wp.opt (bI ?_) ?_
     ·simp;omega
     refine Wp.step ?_
     simp only [nG]
     rw [bR (by omega) (by omega),show ((pre.length+cur.length:Nat):Int)+1=(((pre++cur++[x]).length:Nat):Int) by rw [List.length_append,List.length_append,List.length_singleton];omega]
     have:=zZ s x hs t [] (pre++cur++[x]) (acc++[baL cur]) (by rw [he];simp) (by simp;omega)
     rw [V9] at this
     rw [dS_]
     simpa using this
    ·have hx:x≠c:=fun e=>h (by rw [e])
     refine Wp.step ?_
     simp only [nG]
     rw [bR (by omega) (by omega),show ((pre.length+cur.length:Nat):Int)+1=((pre.length+(cur++[x]).length:Nat):Int) by rw [List.length_append,List.length_singleton];omega,ck_ hx]
     exact zZ s c hs t (cur++[x]) pre acc (by rw [he];simp) ha
theorem Q9 (s:ByteArray) (c:UInt8) (hs:s.size≤1000000000):Wp (fun k=>xO k s (c.toNat:Int)) (· =pcM s c):=by
  have:=zZ s c hs s.data.toList [] [] [] rfl (Nat.le_refl _)
  rw [V9] at this
  exact this
theorem L7 {c:UInt8}:∀{l:List UInt8},c∉l→Lib.index l [c]= -1
  | [],_=>rfl
  | x::l,h=>by
    have hx:c≠x:=fun e=>h (by simp [e])
    have:=L7 (c:=c) (l:=l) (fun g=>h (by simp [g]))
    unfold Lib.index
    rw [if_neg (by simp [hx]),this]
    rfl
theorem GV {c:UInt8}:∀{a:List UInt8} (b:List UInt8),c∉a→Lib.index (a++c::b) [c]=(a.length:Int)
  | [],b,_=>by simp [Lib.index]
  | x::a,b,h=>by
    have hx:c≠x:=fun e=>h (by simp [e])
    have:=GV (c:=c) (a:=a) b (fun g=>h (by simp [g]))
    rw [List.cons_append]
    unfold Lib.index
    rw [if_neg (by simp [hx]),this,if_neg (by rw [beq_iff_eq];omega)]
    simp
theorem UV {c:UInt8}:∀{l:List UInt8},c∉l→pcL c l=[l]
  | [],_=>rfl
  | x::l,h=>by
    have hx:x≠c:=fun e=>h (by simp [e])
    simp [pcL,hx,UV (c:=c) (l:=l) (fun g=>h (by simp [g]))]
theorem eA_ {c:UInt8}:∀{a:List UInt8} (b:List UInt8),c∉a→pcL c (a++c::b)=a::pcL c b
  | [],b,_=>by simp [pcL]
  | x::a,b,h=>by
    have hx:x≠c:=fun e=>h (by simp [e])
    simp [pcL,hx,eA_ (c:=c) (a:=a) b (fun g=>h (by simp [g]))]
theorem CK {c:UInt8}:∀{l:List UInt8},c∈l→∃a b,l=a++c::b∧c∉a
  | x::l,h=>by
    by_cases hx:x=c
    ·exact ⟨[],l,by simp [hx],by simp⟩
    ·obtain ⟨a,b,e,h'⟩:=CK (c:=c) (l:=l) (by simpa [Ne.symm hx] using h)
     exact ⟨x::a,b,by simp [e],by simp [Ne.symm hx,h']⟩
theorem JA {c:UInt8} (k:Nat) {l:List UInt8} (h:c∉l):Lib.splitK [c] 0 k l=[l]:=by
  cases k with
  | zero=>rfl
  | succ k=>unfold Lib.splitK;rw [L7 h];rfl
theorem DO {c:UInt8} (k:Nat) {a b:List UInt8} (h:c∉a):Lib.splitK [c] 0 (k+1) (a++c::b)=a::Lib.splitK [c] 0 k b:=by
  rw [Lib.splitK,GV b h,if_neg (by rw [beq_iff_eq];omega),Int.toNat_natCast]
  simp
theorem M2 (c:UInt8):∀(k:Nat) (l:List UInt8),Lib.count l [c]≤k→Lib.splitK [c] 0 k l=pcL c l
  | 0,l,h=>by
    by_cases hc:c∈l
    ·obtain ⟨a,b,rfl,ha⟩:=CK hc
     have:=Lib.count_hit (s:=a++c::b) (sub:=[c]) (i:=a.length) (by simp) (GV b ha)
     omega
    ·rw [UV hc];rfl
  | k+1,l,h=>by
    by_cases hc:c∈l
    ·obtain ⟨a,b,rfl,ha⟩:=CK hc
     have:=Lib.count_hit (s:=a++c::b) (sub:=[c]) (i:=a.length) (by simp) (GV b ha)
     have e:(a++c::b).drop (a.length+[c].length)=b:=by simp
     rw [e] at this
     rw [DO k ha,eA_ b ha,M2 c k b (by omega)]
    ·rw [JA _ hc,UV hc]
theorem JE (c:UInt8) (k:Nat) (s:ByteArray):Lib.splitB ⟨#[c]⟩ 0 k s=(Lib.splitK [c] 0 k s.data.toList).map baL:=by
  have:=Lib.splitB_data ⟨#[c]⟩ 0 k s
  have e:(⟨#[c]⟩:ByteArray).data.toList=[c]:=rfl
  rw [e] at this
  rw [←this,List.map_map]
  have:(baL ∘ fun b:ByteArray=>b.data.toList)=id:=by
    funext b
    apply ByteArray.ext
    simp [baL]
  rw [this,List.map_id]
theorem EE (k:Nat) (s:ByteArray) (c:UInt8) (hs:s.size≤1000000000):strings_Split k s ⟨#[c]⟩=some (pcM s c):=by
  unfold strings_Split
  rw [if_pos ⟨by omega,(show 1≤1 from Nat.le_refl 1)⟩,JE,M2 c _ _ (Nat.le_refl _)]
  rfl
def OkItem (i:Nat) (x:aI):Prop:=x.Part.Text.size≤20∧(-1≤x.Since∧x.Since≤3)∧(8≤i→x.Since= -1)∧(x.Has=true→0≤x.Since)
def OkItems:Nat→List aI→Prop
  | _,[]=>True
  | i,x::t=>OkItem i x∧OkItems (i+1) t
instance (i:Nat) (x:aI):Decidable (OkItem i x):=by unfold OkItem;infer_instance
instance YM:(i:Nat)→(l:List aI)→Decidable (OkItems i l)
  | _,[]=> .isTrue trivial
  | i,x::t=>by
    have:=YM (i+1) t
    unfold OkItems;infer_instance
def VSend (s:aK):Prop:=s.Items.length≤60∧(0≤s.Base∧s.Base≤1000000)∧s.Base+s.Items.length≤1000000∧OkItems 0 s.Items
instance (s:aK):Decidable (VSend s):=by unfold VSend;infer_instance
theorem yJ (b:Int):∀(t pre:List aI),(pre++t).length≤60→Wp (fun k=>bN k (pre.length:Int) b (pre++t)) (· =decide (OkItems pre.length t))
  | [],pre,hl=>by
    refine Wp.step ?_
    simp only [bN,List.append_nil]
    simp (disch:=omega) only [aL,if_neg]
    exact Wp.ret rfl
  | x::t,pre,hl=>by
    refine Wp.step ?_
    have hl':=hl
    simp only [List.length_append,List.length_cons] at hl
    simp only [bN,OkItems]
    simp (disch:=omega) only [aL,hP,if_true,bJ,Option.bind_some,bR,b9,AX]
    have F:¬OkItem pre.length x→Wp (fun _=>some false) (· =decide (OkItem pre.length x∧OkItems (pre.length+1) t)):=fun h=>Wp.ret (decide_eq_false fun h'=>h h'.1).symm
    have ih:=yJ b t (pre++[x]) (by simpa using hl')
    rw [←cK,←bS,List.length_append,List.length_singleton] at ih
    have G:OkItem pre.length x→Wp (fun k=>bN k ((pre.length:Int)+1) b (pre++x::t)) (· =decide (OkItem pre.length x∧OkItems (pre.length+1) t)):=fun h=>by
      refine Wp.mono ih fun r hr=> ?_
      rw [hr,decide_eq_decide]
      exact ⟨fun g=>⟨h,g⟩,fun g=>g.2⟩
    refine Wp.ite (fun h=>F fun h'=>by have:=h'.1;omega) (fun h1=> ?_)
    refine Wp.bind (dO _ _ _) (fun _ e=> ?_);subst e
    simp only [inB,aL]
    refine Wp.ite (fun h2=> ?_) (fun h2=>F fun h'=>h2 h'.2.1)
    refine Wp.ite (fun h3=> ?_) (fun h3=> ?_)
    ·refine Wp.ite (fun h4=> ?_) (fun h4=>F fun h'=>h4 (h'.2.2.1 (by omega)))
     refine Wp.bif (fun h5=> ?_) (fun h5=> ?_)
     ·refine Wp.ite (fun h6=>F fun h'=>by have:=h'.2.2.2 h5;omega) (fun h6=>by omega)
     ·exact G ⟨by omega,h2,fun _=>h4,fun h=>by rw [h5] at h;cases h⟩
    ·refine Wp.bif (fun h5=> ?_) (fun h5=> ?_)
     ·refine Wp.ite (fun h6=>F fun h'=>by have:=h'.2.2.2 h5;omega) (fun h6=> ?_)
      exact G ⟨by omega,h2,fun h=>by omega,fun _=>by omega⟩
     ·exact G ⟨by omega,h2,fun h=>by omega,fun h=>by rw [h5] at h;cases h⟩
theorem iS (s:aK):Wp (fun k=>dC k s) (· =decide (VSend s)):=by
  unfold dC
  simp only [aL,b9]
  have F:¬VSend s→Wp (fun _=>some false) (· =decide (VSend s)):=fun h=>Wp.ret (decide_eq_false h).symm
  refine Wp.ite (fun h=>F fun h'=>by have:=h'.1;omega) (fun h1=> ?_)
  refine Wp.bind (dO _ _ _) (fun _ e=> ?_);subst e
  simp only [inB,aL]
  refine Wp.ite (fun h2=> ?_) (fun h2=>F fun h'=>h2 h'.2.1)
  rw [bR (by omega) (by omega)]
  refine Wp.ite (fun h3=>F fun h'=>by have:=h'.2.2.1;omega) (fun h3=> ?_)
  refine Wp.mono (yJ s.Base s.Items [] (by simp;omega)) fun r hr=> ?_
  rw [hr,decide_eq_decide]
  exact ⟨fun h=>⟨by omega,h2,by omega,h⟩,fun h=>h.2.2.2⟩
theorem u5 (xs:List aI) (b:Int):∀(k:Nat) (j:Int),c8 k xs (xs.length:Int) j=bN k j b xs
  | 0,_=>rfl
  | k+1,j=>by
    have hi:∀a b c,bP k a b c=aZ k a b c:=fun _ _ _=>rfl
    simp only [c8,bN,u5 xs b k,hi]
theorem KS (k:Nat) (s:aK):cQ k s=dC k s:=by
  have hi:∀a b c,bP k a b c=aZ k a b c:=fun _ _ _=>rfl
  simp only [cQ,dC,hi,u5 s.Items s.Base]
theorem lS (s:aK):Wp (fun k=>cQ k s) (· =decide (VSend s)):=by
  have:(fun k=>cQ k s)=fun k=>dC k s:=funext fun k=>KS k s
  rw [this];exact iS s
theorem tC (s:aK) (h:s.Items.length≤1048576):Wp (fun k=>jS k s) (· =s):=by
  unfold jS
  refine Wp.opt (bI (by simp;omega)) ?_
  exact Wp.ret (by rw [List.nil_append])
theorem zS (s:aK) (h:s.Items.length≤1048576):Wp (fun k=>kK k s) (· =s):=tC s h
abbrev wK:aK:=⟨0,[]⟩
def zQ (x:aI):aI:=if x.Has=true then x else if x.Since= -1 then ⟨x.Part,x.Has,0⟩ else if x.Since=3 then ⟨x.Part,x.Has,0⟩ else ⟨x.Part,x.Has,x.Since+1⟩
def tH (x:aI):Prop:=¬x.Has=true∧(x.Since= -1∨x.Since=3)
instance (x:aI):Decidable (tH x):=by unfold tH;infer_instance
def oM:Nat→Int→List aI→List aI×List Int
  | _,_,[]=>([],[])
  | i,b,x::t=>if 8≤i then (x::t,[]) else (zQ x::(oM (i+1) b t).1,(if tH x then [b+i] else [])++(oM (i+1) b t).2)
def AC (s:aK):aK×List Int:=if VSend s then (⟨s.Base,(oM 0 s.Base s.Items).1⟩,(oM 0 s.Base s.Items).2) else (wK,[])
theorem L3 (b:Int) (xs ys:List aI) (c d:Int) (hb:0≤b∧b≤1000000):∀(t pre:List aI) (sent:List Int),(pre++t).length≤60→sent.length≤pre.length→OkItems pre.length t→
    Wp (fun k=>fR k (pre.length:Int) b xs c sent d ys (pre++t)) (· =(⟨d,pre++(oM pre.length b t).1⟩,sent++(oM pre.length b t).2))
  | [],pre,sent,hl,hs,hok=>by
    refine Wp.step ?_
    simp only [fR,List.append_nil]
    simp (disch:=omega) only [aL,if_neg]
    exact Wp.ret (by simp [oM])
  | x::t,pre,sent,hl,hs,hok=>by
    refine Wp.step ?_
    have hl':=hl
    simp only [List.length_append,List.length_cons] at hl
    simp only [fR]
    simp only [aL,hP,if_true,bJ,jQ,Option.bind_some,lW,set_mid]
    simp (disch:=omega) only [bR]
    refine Wp.ite (fun h8=> ?_) (fun h8=> ?_)
    ·have ih:=fun y sent' hs'=>L3 b xs ys c d hb t (pre++[y]) sent' (by simpa using hl') hs' (by rw [List.length_append,List.length_singleton];exact hok.2)
     have ih':∀(y:aI) (sent':List Int),sent'.length≤pre.length+1→zQ x=y→sent'=sent++(if tH x then [b+(pre.length:Int)] else [])→
      Wp (fun k=>eK k (pre.length:Int) b xs c sent' d ys (pre++y::t)) (· =(⟨d,pre++(oM pre.length b (x::t)).1⟩,sent++(oM pre.length b (x::t)).2)):=by
       intro y sent' hs' hy hs2
       refine Wp.step ?_
       simp only [eK]
       have:=ih y sent' (by simpa using hs')
       rw [←cK,←bS,List.length_append,List.length_singleton] at this
       rw [bR (by omega) (by omega)]
       refine this.mono fun r hr=> ?_
       rw [hr]
       simp only [oM]
       rw [if_neg (by omega),hs2,hy]
       simp
     refine Wp.bif (fun hh=>ih' x sent (by omega) (by simp [zQ,hh]) (by simp [tH,hh])) (fun hh=> ?_)
     have hx:=hok.1
     refine Wp.ite (fun h1=> ?_) (fun h1=> ?_)
     ·refine Wp.opt (bI (by simp;omega)) ?_
      exact ih' _ _ (by simp;omega) (by simp [zQ,hh,h1]) (by simp [tH,hh,h1])
     refine Wp.ite (fun h2=> ?_) (fun h2=> ?_)
     ·refine Wp.opt (bI (by simp;omega)) ?_
      exact ih' _ _ (by simp;omega) (by simp [zQ,hh,h2]) (by simp [tH,hh,h2])
     ·have:=hx.2.1
      rw [bR (by omega) (by omega)]
      exact ih' _ _ (by omega) (by simp [zQ,hh,h1,h2]) (by simp [tH,hh,h1,h2])
    ·refine Wp.ret ?_
     simp only [oM]
     rw [if_pos (by omega)];simp
theorem MI (ys:List aI) (c d:Int) (hb:0≤d∧d≤1000000):∀(t pre:List aI) (sent:List Int),(pre++t).length≤60→sent.length≤pre.length→OkItems pre.length t→
    Wp (fun k=>fO k (pre.length:Int) c d sent ys (pre++t)) (· =(⟨d,pre++(oM pre.length d t).1⟩,sent++(oM pre.length d t).2))
  | [],pre,sent,hl,hs,hok=>by
    refine Wp.step ?_
    simp only [fO,List.append_nil]
    simp (disch:=omega) only [aL,if_neg]
    exact Wp.ret (by simp [oM])
  | x::t,pre,sent,hl,hs,hok=>by
    refine Wp.step ?_
    have hl':=hl
    simp only [List.length_append,List.length_cons] at hl
    simp only [fO]
    simp only [aL,hP,if_true,bJ,jQ,Option.bind_some,lW,set_mid]
    simp (disch:=omega) only [bR]
    refine Wp.ite (fun h8=> ?_) (fun h8=> ?_)
    ·have ih:=fun y sent' hs'=>MI ys c d hb t (pre++[y]) sent' (by simpa using hl') hs' (by rw [List.length_append,List.length_singleton];exact hok.2)
     have ih':∀(y:aI) (sent':List Int),sent'.length≤pre.length+1→zQ x=y→sent'=sent++(if tH x then [d+(pre.length:Int)] else [])→
      Wp (fun k=>eG k (pre.length:Int) c d sent' ys (pre++y::t)) (· =(⟨d,pre++(oM pre.length d (x::t)).1⟩,sent++(oM pre.length d (x::t)).2)):=by
       intro y sent' hs' hy hs2
       refine Wp.step ?_
       simp only [eG]
       have:=ih y sent' (by simpa using hs')
       rw [←cK,←bS,List.length_append,List.length_singleton] at this
       rw [bR (by omega) (by omega)]
       refine this.mono fun r hr=> ?_
       rw [hr]
       simp only [oM]
       rw [if_neg (by omega),hs2,hy]
       simp
     refine Wp.bif (fun hh=>ih' x sent (by omega) (by simp [zQ,hh]) (by simp [tH,hh])) (fun hh=> ?_)
     have hx:=hok.1
     refine Wp.ite (fun h1=> ?_) (fun h1=> ?_)
     ·refine Wp.opt (bI (by simp;omega)) ?_
      exact ih' _ _ (by simp;omega) (by simp [zQ,hh,h1]) (by simp [tH,hh,h1])
     refine Wp.ite (fun h2=> ?_) (fun h2=> ?_)
     ·refine Wp.opt (bI (by simp;omega)) ?_
      exact ih' _ _ (by simp;omega) (by simp [zQ,hh,h2]) (by simp [tH,hh,h2])
     ·have:=hx.2.1
      rw [bR (by omega) (by omega)]
      exact ih' _ _ (by omega) (by simp [zQ,hh,h1,h2]) (by simp [tH,hh,h1,h2])
    ·refine Wp.ret ?_
     simp only [oM]
     rw [if_pos (by omega)];simp
theorem I4 (s:aK):Wp (fun k=>nL k s) (· =AC s):=by
  unfold nL AC
  refine Wp.bind (iS s) (fun _ e=> ?_);subst e
  simp only [b9,aL]
  refine Wp.ite (fun h=> ?_) (fun h=>Wp.ret (by rw [if_neg h]))
  rw [if_pos h]
  refine Wp.bind (tC s (by have:=h.1;omega)) (fun _ e=> ?_);subst e
  exact L3 _ _ _ _ _ h.2.1 _ [] [] (by simpa using h.1) (by simp) h.2.2.2
theorem UP (s:aK):Wp (fun k=>pW k s) (· =AC s):=by
  unfold pW AC
  refine Wp.bind (lS s) (fun _ e=> ?_);subst e
  simp only [b9,aL]
  refine Wp.ite (fun h=> ?_) (fun h=>Wp.ret (by rw [if_neg h]))
  rw [if_pos h]
  refine Wp.bind (zS s (by have:=h.1;omega)) (fun _ e=> ?_);subst e
  exact MI _ _ _ h.2.1 _ [] [] (by simpa using h.1) (by simp) h.2.2.2
theorem uT:VSend wK:=⟨by simp,by simp,by simp,trivial⟩
theorem JG:∀{l:List aI} {i:Nat},OkItems i l→∀x∈l,x.Part.Text.size≤20
  | [],_,_,x,h=>by simp at h
  | y::t,i,⟨h1,h2⟩,x,h=>by
    rcases List.mem_cons.mp h with rfl | h
    ·exact h1.1
    ·exact JG h2 x h
theorem VSend.sm {s:aK} (h:VSend s):bj_ s:=by
  unfold bj_ smL
  refine ⟨by have:=h.1;omega,fun x hx=> ?_⟩
  have:=JG h.2.2.2 x hx
  show x.Part.Text.size≤1048576
  omega
theorem YC (x:aI):(zQ x).Part=x.Part:=by unfold zQ;repeat' split<;>try rfl
theorem OJ:∀(t:List aI) (i:Nat) (b:Int),OkItems i t→OkItems i (oM i b t).1∧(oM i b t).1.length=t.length∧(oM i b t).2.length≤t.length
  | [],i,b,h=>⟨trivial,rfl,by simp [oM]⟩
  | x::t,i,b,⟨h1,h2⟩=>by
    simp only [oM]
    split
    ·exact ⟨⟨h1,h2⟩,rfl,by simp⟩
    ·have:=OJ t (i+1) b h2
     refine ⟨⟨?_,this.1⟩,by simp [this.2.1], ?_⟩
     ·obtain ⟨a1,a2,a3,a4⟩:=h1
      refine ⟨by rw [YC];exact a1, ?_,fun _=>by omega, ?_⟩
      ·unfold zQ;split
       ·exact a2
       ·split
        ·simp
        ·split
         ·simp
         ·simp only;omega
      ·unfold zQ;split
       ·exact a4
       ·rename_i hh
        split
        ·intro h;exact absurd h hh
        ·split<;>(intro h;exact absurd h hh)
     ·have h3:=this.2.2
      simp only [List.length_append,List.length_cons]
      split<;>simp<;>omega
theorem GC (s:aK):VSend (AC s).1∧(AC s).2.length≤60:=by
  unfold AC
  split
  ·rename_i h
   have:=OJ s.Items 0 s.Base h.2.2.2
   refine ⟨⟨by simp only;rw [this.2.1];exact h.1,h.2.1,by simp only;rw [this.2.1];exact h.2.2.1,this.1⟩,by have:=h.1;simp only;omega⟩
  ·exact ⟨uT,by simp⟩
def cC_:Nat→ByteArray→List bV
  | 0,_=>[]
  | n+1,s=>if 20<s.size then ⟨s.extract 0 20,false⟩::cC_ n (s.extract 20 s.size) else [⟨s,true⟩]
theorem XB:∀(n:Nat) (s:ByteArray) (acc:List bV),s.size≤20*n→acc.length+n≤100→0<n→Wp (fun k=>l0 k s acc) (· =acc++cC_ n s)
  | 0,s,acc,h,hl,h0=>by omega
  | n+1,s,acc,h,hl,h0=>by
    refine Wp.step ?_
    simp only [l0,cC_]
    simp only [aL]
    refine Wp.ite (fun h1=> ?_) (fun h1=> ?_)
    ·have h1':20<s.size:=by omega
     rw [if_pos h1']
     refine Wp.opt (dF (by omega)) ?_
     refine Wp.opt (bI (by simp;omega)) ?_
     refine Wp.opt (dF (by omega)) ?_
     have:=XB n (s.extract 20 s.size) (acc++[⟨s.extract 0 20,false⟩]) (by rw [ByteArray.size_extract];omega) (by simp;omega) (by omega)
     simp only [List.append_assoc,List.cons_append,List.nil_append] at this
     exact this
    ·rw [if_neg (by omega)]
     refine Wp.opt (bI (by simp;omega)) ?_
     exact Wp.ret rfl
theorem WE:∀(k:Nat) (s:ByteArray) (acc:List bV),qX k s acc=l0 k s acc
  | 0,_,_=>rfl
  | k+1,s,acc=>by
    simp only [qX,l0,WE k]
def be_ (s:ByteArray):List bV:=if 200<s.size then [] else cC_ 10 s
theorem MW (s:ByteArray):Wp (fun k=>xP k s) (· =be_ s):=by
  unfold xP be_
  simp only [aL]
  refine Wp.ite (fun h=> ?_) (fun h=> ?_)
  ·rw [if_pos (by omega)];exact Wp.ret rfl
  ·rw [if_neg (by omega)];exact XB 10 s [] (by omega) (by simp) (by omega)
theorem YY (s:ByteArray):Wp (fun k=>BF k s) (· =be_ s):=by
  have:(fun k=>BF k s)=fun k=>xP k s:=funext fun k=>by simp only [BF,xP,WE]
  rw [this];exact MW s
theorem Z3:∀(n:Nat) (s:ByteArray),s.size≤20*n→(cC_ n s).length≤n∧∀p∈cC_ n s,p.Text.size≤20
  | 0,s,h=>⟨by simp [cC_],fun p hp=>by simp [cC_] at hp⟩
  | n+1,s,h=>by
    simp only [cC_]
    split
    ·have:=Z3 n (s.extract 20 s.size) (by rw [ByteArray.size_extract];omega)
     refine ⟨by simp [this.1],fun p hp=> ?_⟩
     rcases List.mem_cons.mp hp with rfl | hp
     ·simp only [ByteArray.size_extract];omega
     ·exact this.2 p hp
    ·refine ⟨by simp,fun p hp=> ?_⟩
     simp only [List.mem_singleton] at hp
     subst hp;simp only;omega
theorem UO (s:ByteArray):(be_ s).length≤10∧∀p∈be_ s,p.Text.size≤20:=by
  unfold be_
  split
  ·exact ⟨by simp,fun p hp=>by simp at hp⟩
  ·exact Z3 10 s (by omega)
def c4_ (p:bV):aI:=⟨p,false,-1⟩
def A6 (s:aK) (t:ByteArray):aK×Int:=
  if VSend s∧t.size≤200 then
   if s.Items.length+(be_ t).length≤60∧s.Base+(s.Items.length+(be_ t).length:Nat)≤1000000 then (⟨s.Base,s.Items++(be_ t).map c4_⟩,0) else (wK,3)
  else (wK,1)
theorem RW (c b:Int) (e:List aI):∀(t pre:List bV) (acc:List aI),(pre++t).length≤100→acc.length+t.length≤1000→
    Wp (fun k=>fT k (pre.length:Int) c (pre++t) b e acc) (· =(⟨b,acc++t.map c4_⟩,0))
  | [],pre,acc,hl,ha=>by
    refine Wp.step ?_
    simp only [fT,List.append_nil]
    simp (disch:=omega) only [aL,if_neg]
    exact Wp.ret (by simp)
  | x::t,pre,acc,hl,ha=>by
    refine Wp.step ?_
    have hl':=hl
    simp only [List.length_append,List.length_cons] at hl ha
    simp only [fT]
    simp only [aL,hP,if_true,bJ,jQ,Option.bind_some]
    refine Wp.opt (bI (by simp;omega)) ?_
    simp (disch:=omega) only [bR]
    have ih:=RW c b e t (pre++[x]) (acc++[c4_ x]) (by simpa using hl') (by simp;omega)
    rw [←cK,←bS] at ih
    simp only [List.append_assoc,List.cons_append,List.nil_append] at ih
    exact ih
theorem Q0 (c b:Int) (e:List aI):∀(t pre:List bV) (acc:List aI),(pre++t).length≤100→acc.length+t.length≤1000→
    Wp (fun k=>fH k ((pre++t).length:Int) (pre.length:Int) c b (pre++t) e acc) (· =(⟨b,acc++t.map c4_⟩,0))
  | [],pre,acc,hl,ha=>by
    refine Wp.step ?_
    simp only [fH,List.append_nil]
    simp (disch:=omega) only [aL,if_neg]
    exact Wp.ret (by simp)
  | x::t,pre,acc,hl,ha=>by
    refine Wp.step ?_
    have hl':=hl
    simp only [List.length_append,List.length_cons] at hl ha
    simp only [fH]
    simp only [aL,hP,if_true,bJ,jQ,Option.bind_some]
    refine Wp.opt (bI (by simp;omega)) ?_
    simp (disch:=omega) only [bR]
    have ih:=Q0 c b e t (pre++[x]) (acc++[c4_ x]) (by simpa using hl') (by simp;omega)
    rw [←cK,←bS] at ih
    simp only [List.append_assoc,List.cons_append,List.nil_append] at ih
    exact ih
theorem JO (s:aK) (t:ByteArray):Wp (fun k=>iH k s t) (· =A6 s t):=by
  unfold iH A6
  refine Wp.bind (iS s) (fun _ e=> ?_);subst e
  simp only [b9,aL]
  refine Wp.ite (fun h=> ?_) (fun h=>Wp.ret (by rw [if_neg (fun g=>h g.1)]))
  refine Wp.ite (fun h2=>Wp.ret (by rw [if_neg (fun g=>by omega)])) (fun h2=> ?_)
  rw [if_pos ⟨h,by omega⟩]
  refine Wp.bind (MW t) (fun _ e=> ?_);subst e
  have:=h.1;have hb:=h.2.1;have hc:=(UO t).1
  simp (disch:=omega) only [bR]
  refine Wp.ite (fun h3=>Wp.ret (by rw [if_neg (fun g=>by omega)])) (fun h3=> ?_)
  refine Wp.ite (fun h4=>Wp.ret (by rw [if_neg (fun g=>by omega)])) (fun h4=> ?_)
  rw [if_pos ⟨by omega,by omega⟩]
  refine Wp.bind (tC s (by omega)) (fun _ e=> ?_);subst e
  exact RW _ _ _ (be_ t) [] _ (by simp;omega) (by omega)
theorem VT (s:aK) (t:ByteArray):Wp (fun k=>pJ k s t) (· =A6 s t):=by
  unfold pJ A6
  refine Wp.bind (lS s) (fun _ e=> ?_);subst e
  simp only [b9,aL]
  refine Wp.ite (fun h=> ?_) (fun h=>Wp.ret (by rw [if_neg (fun g=>h g.1)]))
  refine Wp.ite (fun h2=>Wp.ret (by rw [if_neg (fun g=>by omega)])) (fun h2=> ?_)
  rw [if_pos ⟨h,by omega⟩]
  refine Wp.bind (YY t) (fun _ e=> ?_);subst e
  have:=h.1;have hb:=h.2.1;have hc:=(UO t).1
  simp (disch:=omega) only [bR]
  refine Wp.ite (fun h3=>Wp.ret (by rw [if_neg (fun g=>by omega)])) (fun h3=> ?_)
  refine Wp.ite (fun h4=>Wp.ret (by rw [if_neg (fun g=>by omega)])) (fun h4=> ?_)
  rw [if_pos ⟨by omega,by omega⟩]
  refine Wp.bind (zS s (by omega)) (fun _ e=> ?_);subst e
  exact Q0 _ _ _ (be_ t) [] _ (by simp;omega) (by omega)
theorem zV:∀{l r:List aI} {i:Nat},OkItems i l→OkItems (i+l.length) r→OkItems i (l++r)
  | [],r,i,_,h=>by simpa using h
  | x::l,r,i,⟨h1,h2⟩,h=>⟨h1,zV h2 (by rwa [show i+1+l.length=i+(x::l).length by simp;omega])⟩
theorem JR:∀{l:List bV} {i:Nat},(∀p∈l,p.Text.size≤20)→OkItems i (l.map c4_)
  | [],i,h=>trivial
  | p::l,i,h=>⟨⟨h p (List.mem_cons_self ..),by simp [c4_],fun _=>rfl,fun h=>by simp [c4_] at h⟩,JR fun q hq=>h q (List.mem_cons_of_mem _ hq)⟩
theorem WO (s:aK) (t:ByteArray):VSend (A6 s t).1:=by
  unfold A6
  split
  ·rename_i h
   split
   ·rename_i h2
    refine ⟨by simp only [List.length_append,List.length_map];omega,h.1.2.1, ?_,zV h.1.2.2.2 (JR (UO t).2)⟩
    simp only [List.length_append,List.length_map]
    exact h2.2
   ·exact uT
  ·exact uT
def s9:List aI→Nat
  | []=>0
  | x::t=>if 0≤x.Since then s9 t+1 else 0
theorem JB:∀l:List aI,s9 l≤l.length
  | []=>Nat.le_refl _
  | x::t=>by have:=JB t;simp only [s9,List.length_cons];split<;>omega
def SS:Nat→Nat→List aI→List aI
  | _,_,[]=>[]
  | i,m,x::t=>(if i<8∧m%2=1∧0≤x.Since then ⟨x.Part,true,x.Since⟩ else x)::SS (i+1) (m/2) t
theorem VG:∀(i m:Nat) (l:List aI),8≤i→SS i m l=l
  | i,m,[],h=>rfl
  | i,m,x::t,h=>by simp only [SS];rw [if_neg (by omega),VG (i+1) _ t (by omega)]
def U5 (s:aK) (n m:Int):aK:=
  if VSend s then
   if s.Base≤n∧n≤s.Base+s9 s.Items∧0≤m∧m≤255 then ⟨n,SS 0 m.toNat (s.Items.drop (n-s.Base).toNat)⟩ else s
  else wK
theorem NB (b:Int):∀(t pre:List aI),(pre++t).length≤1000→Wp (fun k=>gT k (pre.length:Int) b (pre++t)) (· =((pre.length+s9 t:Nat):Int))
  | [],pre,hl=>by
    refine Wp.step ?_
    simp only [gT,List.append_nil]
    simp (disch:=omega) only [aL,if_neg]
    exact Wp.ret rfl
  | x::t,pre,hl=>by
    refine Wp.step ?_
    have hl':=hl
    simp only [List.length_append,List.length_cons] at hl
    simp only [gT]
    simp only [aL,hP,if_true,bJ,jQ,Option.bind_some]
    simp only [s9]
    refine Wp.ite (fun h=> ?_) (fun h=> ?_)
    ·rw [if_pos (by omega)]
     simp (disch:=omega) only [bR]
     have ih:=NB b t (pre++[x]) (by simpa using hl')
     rw [←cK,←bS] at ih
     refine ih.mono fun r hr=> ?_
     rw [hr,List.length_append,List.length_singleton];omega
    ·rw [if_neg (by omega)];exact Wp.ret rfl
theorem e5_ (m:Nat):KP (m:Int) 2=some ((m%2:Nat):Int):=by rw [nW (by omega) (by omega)];simp
theorem fd_ (m:Nat):VX (m:Int) 2=some ((m/2:Nat):Int):=by rw [DI (by omega) (by omega)];simp
theorem BO (c b:Int) (e:List aI) (xs:List aI) (hx:xs.length≤1000):∀(d i m:Nat),i+d=8→xs.length≤i→m≤255→
    Wp (fun k=>cT k (m:Int) (i:Int) c b e xs) (· =⟨b,xs⟩)
  | 0,i,m,h,hi,hm=>by
    refine Wp.step ?_
    simp only [cT]
    simp (disch:=omega) only [aL,if_neg]
    exact Wp.ret rfl
  | d+1,i,m,h,hi,hm=>by
    refine Wp.step ?_
    simp only [cT]
    simp (disch:=omega) only [aL,if_pos,e5_,Option.bind_some,lW]
    have ih:=BO c b e xs hx d (i+1) (m/2) (by omega) (by omega) (by omega)
    have G:Wp (fun k=>cJ k (m:Int) (i:Int) c b e xs) (· =⟨b,xs⟩):=by
      refine Wp.step ?_
      simp only [cJ]
      simp (disch:=omega) only [fd_,Option.bind_some,bR,dm_]
      exact ih
    refine Wp.ite (fun h1=> ?_) (fun h1=>G)
    simp (disch:=omega) only [if_neg]
    exact G
theorem Q3 (c b:Int) (e:List aI):∀(t pre:List aI) (m:Nat),(pre++t).length≤1000→m≤255→
    Wp (fun k=>cT k (m:Int) (pre.length:Int) c b e (pre++t)) (· =⟨b,pre++SS pre.length m t⟩)
  | [],pre,m,hl,hm=>by
    rw [List.append_nil] at hl⊢
    simp only [SS,List.append_nil]
    by_cases h8:pre.length≤8
    ·exact BO c b e pre hl (8-pre.length) pre.length m (by omega) (Nat.le_refl _) hm
    ·refine Wp.step ?_
     simp only [cT]
     simp (disch:=omega) only [aL,if_neg]
     exact Wp.ret rfl
  | x::t,pre,m,hl,hm=>by
    refine Wp.step ?_
    have hl':=hl
    simp only [List.length_append,List.length_cons] at hl
    simp only [cT]
    simp only [aL,hP,if_true,bJ,jQ,Option.bind_some,set_mid,lW]
    refine Wp.ite (fun h8=> ?_) (fun h8=>Wp.ret (by rw [VG _ _ _ (by omega)]))
    have ih:∀y:aI,(if pre.length<8∧m%2=1∧0≤x.Since then ⟨x.Part,true,x.Since⟩ else x)=y→
     Wp (fun k=>cJ k (m:Int) (pre.length:Int) c b e (pre++y::t)) (· =⟨b,pre++SS pre.length m (x::t)⟩):=by
      intro y hy
      refine Wp.step ?_
      simp only [cJ]
      simp (disch:=omega) only [fd_,Option.bind_some,bR]
      have:=Q3 c b e t (pre++[y]) (m/2) (by simpa using hl') (by omega)
      rw [←cK,←bS,List.length_append,List.length_singleton] at this
      refine this.mono fun r hr=> ?_
      rw [hr]
      simp only [SS,List.append_assoc,List.cons_append,List.nil_append,hy]
    simp (disch:=omega) only [e5_,Option.bind_some]
    refine Wp.ite (fun h1=> ?_) (fun h1=>ih x (by rw [if_neg (by omega)]))
    refine Wp.ite (fun h2=>ih _ (by rw [if_pos (by omega)])) (fun h2=>ih x (by rw [if_neg (by omega)]))
theorem KN (s:aK) (n m:Int):Wp (fun k=>m8 k s n m) (· =U5 s n m):=by
  unfold m8 U5
  refine Wp.bind (iS s) (fun _ e=> ?_);subst e
  simp only [b9,aL]
  refine Wp.ite (fun h=> ?_) (fun h=>Wp.ret (by rw [if_neg h]))
  rw [if_pos h]
  have:=h.1;have hb:=h.2.1
  refine Wp.bind (tC s (by omega)) (fun r2 e=> ?_);rw [e]
  refine Wp.ite (fun h2=>Wp.ret (by rw [if_neg (by omega)])) (fun h2=> ?_)
  refine Wp.bind (P:=fun r=>r=((0+s9 s.Items:Nat):Int)) (NB s.Base s.Items [] (by simp;omega)) (fun _ e=> ?_);subst e
  have hf:=JB s.Items
  simp (disch:=omega) only [bR]
  refine Wp.ite (fun h3=>Wp.ret (by rw [if_neg (by omega)])) (fun h3=> ?_)
  refine Wp.bind (dO _ _ _) (fun _ e=> ?_);subst e
  simp only [inB,aL]
  refine Wp.ite (fun h4=> ?_) (fun h4=>Wp.ret (by rw [if_neg (by omega)]))
  rw [if_pos (by omega)]
  refine Wp.opt (dF (by omega)) ?_
  refine Wp.opt (bI (by simp [iF];omega)) ?_
  have e1:([]:List aI)++iF s.Items (n-s.Base).toNat (s.Items.length:Int).toNat=s.Items.drop (n-s.Base).toNat:=by simp [iF]
  rw [e1]
  have:=Q3 0 n [] (s.Items.drop (n-s.Base).toNat) [] m.toNat (by simp;omega) (by omega)
  simp only [List.nil_append,List.length_nil,Int.toNat_of_nonneg h4.1] at this
  exact this
theorem co_ (n:Nat) (hn:n<281474976710656):aj_ .i64 (n:Int) 1=((n%2:Nat):Int):=by
  have e:∀m:Nat,BitVec.ofInt 64 (m:Int)=BitVec.ofNat 64 m:=fun m=>by
    apply BitVec.eq_of_toNat_eq
    simp [BitVec.toNat_ofInt]
  show IntKind.wrap .i64 ((BitVec.ofInt 64 (n:Int)&&&BitVec.ofInt 64 ((1:Nat):Int)).toNat:Int)=_
  rw [e,e,BitVec.toNat_and,BitVec.toNat_ofNat,BitVec.toNat_ofNat,Nat.mod_eq_of_lt (by omega),Nat.mod_eq_of_lt (by omega),Nat.and_one_is_mod]
  exact bR (by omega) (by omega)
theorem fh_ (n i:Nat) (h:i≤64):shift .shr .i64 (n:Int) (i:Int)=some ((n/2^i:Nat):Int):=by
  simp only [shift]
  rw [if_neg (by omega)]
  congr 1
  rw [Int.toNat_natCast,show IntKind.i64.bits=64 from rfl,Nat.min_eq_left h,Int.fdiv_eq_ediv_of_nonneg _ (by exact Int.le_of_lt (Int.pow_pos (by decide)))]
  simp
theorem HS (c b d:Int) (e:List aI) (M:Nat) (hM:M≤255):∀(t pre:List aI),(pre++t).length≤1000→
    Wp (fun k=>c7 k (M:Int) (pre.length:Int) c b e (pre++t)) (· =⟨b,pre++SS pre.length (M/2^pre.length) t⟩)
  | [],pre,hl=>by
    refine Wp.step ?_
    rw [List.append_nil] at hl⊢
    simp only [c7,SS,List.append_nil]
    simp (disch:=omega) only [aL,if_neg]
    exact Wp.ite (fun h=>Wp.ret rfl) (fun h=>Wp.ret rfl)
  | x::t,pre,hl=>by
    refine Wp.step ?_
    have hl':=hl
    simp only [List.length_append,List.length_cons] at hl
    simp only [c7]
    simp only [aL,hP,if_true,bJ,jQ,Option.bind_some,set_mid,lW]
    refine Wp.ite (fun h8=> ?_) (fun h8=>Wp.ret (by rw [VG _ _ _ (by omega)]))
    have ih:∀y:aI,(if pre.length<8∧M/2^pre.length%2=1∧0≤x.Since then ⟨x.Part,true,x.Since⟩ else x)=y→
     Wp (fun k=>eR k (M:Int) (pre.length:Int) c b e (pre++y::t)) (· =⟨b,pre++SS pre.length (M/2^pre.length) (x::t)⟩):=by
      intro y hy
      refine Wp.step ?_
      simp only [eR]
      simp (disch:=omega) only [bR]
      have:=HS c b d e M hM t (pre++[y]) (by simpa using hl')
      rw [←cK,←bS,List.length_append,List.length_singleton] at this
      refine this.mono fun r hr=> ?_
      rw [hr]
      simp only [SS,List.append_assoc,List.cons_append,List.nil_append,hy,Nat.div_div_eq_div_mul,Nat.pow_succ]
    have hlt:M/2^pre.length<281474976710656:=Nat.lt_of_le_of_lt (Nat.div_le_self _ _) (by omega)
    rw [fh_ _ _ (by omega)]
    simp only [Option.bind_some]
    rw [co_ _ hlt]
    refine Wp.ite (fun h1=> ?_) (fun h1=>ih x (by rw [if_neg (by omega)]))
    refine Wp.ite (fun h2=>ih _ (by rw [if_pos (by omega)])) (fun h2=>ih x (by rw [if_neg (by omega)]))
theorem ZB (n m c b:Int) (e:List aI) (hb:0≤b∧b≤1000000):∀(t pre:List aI),(pre++t).length≤1000→
    Wp (fun k=>fN k n m (pre.length:Int) c b e (pre++t)) (· =if b≤n∧n≤b+(pre.length+s9 t:Nat)∧0≤m∧m≤255 then ⟨n,SS 0 m.toNat ((pre++t).drop (n-b).toNat)⟩ else ⟨b,pre++t⟩):=by
  have F:∀(xs:List aI) (j:Nat),xs.length≤1000→j≤xs.length→Wp (fun k=>if n<b then some (⟨b,xs⟩:aK) else if n>IntKind.wrap .i64 (b+(j:Int)) then some ⟨b,xs⟩ else
   (bP k m 0 255).bind fun r4=>bif !r4 then some ⟨b,xs⟩ else
     (wnd xs.length (IntKind.wrap .i64 (n-b)) (xs.length:Int)).bind fun p5=>
     (app 40 ([]:List aI) (iF xs p5.1 p5.2)).bind fun l6=>c7 k m 0 c n e l6)
   (· =if b≤n∧n≤b+(j:Nat)∧0≤m∧m≤255 then ⟨n,SS 0 m.toNat (xs.drop (n-b).toNat)⟩ else ⟨b,xs⟩):=by
    intro xs j hx hj
    refine Wp.ite (fun h2=>Wp.ret (by rw [if_neg (by omega)])) (fun h2=> ?_)
    simp (disch:=omega) only [bR]
    refine Wp.ite (fun h3=>Wp.ret (by rw [if_neg (by omega)])) (fun h3=> ?_)
    refine Wp.bind (BD _ _ _) (fun _ e=> ?_);subst e
    simp only [inB,aL,b9]
    refine Wp.ite (fun h4=> ?_) (fun h4=>Wp.ret (by rw [if_neg (by omega)]))
    rw [if_pos (by omega)]
    refine Wp.opt (dF (by omega)) ?_
    refine Wp.opt (bI (by simp [iF];omega)) ?_
    have e1:([]:List aI)++iF xs (n-b).toNat (xs.length:Int).toNat=xs.drop (n-b).toNat:=by simp [iF]
    rw [e1]
    have:=HS c n 0 e m.toNat (by omega) (xs.drop (n-b).toNat) [] (by simp;omega)
    simp only [List.nil_append,List.length_nil,Int.toNat_of_nonneg h4.1,Nat.pow_zero,Nat.div_one] at this
    exact this
  intro t
  induction t with
  | nil=>
    intro pre hl
    refine Wp.step ?_
    simp only [fN]
    rw [List.append_nil] at hl⊢
    simp (disch:=omega) only [aL,if_neg]
    exact F pre pre.length hl (Nat.le_refl _)
  | cons x t ih=>
    intro pre hl
    refine Wp.step ?_
    simp only [fN]
    simp only [aL,hP,if_true,bJ,jQ,Option.bind_some]
    have hl':=hl
    simp only [List.length_append,List.length_cons] at hl
    refine Wp.ite (fun h=> ?_) (fun h=> ?_)
    ·rw [bR (by omega) (by omega)]
     have:=ih (pre++[x]) (by simpa using hl')
     rw [←cK,←bS,List.length_append,List.length_singleton] at this
     have e:pre.length+s9 (x::t)=pre.length+1+s9 t:=by simp only [s9];rw [if_pos h];omega
     simp only [e]
     exact this
    ·have e:s9 (x::t)=0:=by simp only [s9];rw [if_neg h]
     simp only [e]
     exact F (pre++x::t) pre.length (by simpa using hl') (by simp)
theorem TC (s:aK) (n m:Int):Wp (fun k=>pN k s n m) (· =U5 s n m):=by
  unfold pN U5
  refine Wp.bind (lS s) (fun _ e=> ?_);subst e
  simp only [b9,aL]
  refine Wp.ite (fun h=> ?_) (fun h=>Wp.ret (by rw [if_neg h]))
  rw [if_pos h]
  have:=h.1;have hb:=h.2.1
  refine Wp.bind (zS s (by omega)) (fun r2 e=> ?_);rw [e]
  have:=ZB n m 0 s.Base [] hb s.Items [] (by simp;omega)
  simp only [List.nil_append,List.length_nil,Nat.zero_add] at this
  exact this
theorem OkItem.mono {i j:Nat} {x:aI} (h:OkItem j x) (hij:i≤j):OkItem i x:=⟨h.1,h.2.1,fun h8=>h.2.2.1 (by omega),h.2.2.2⟩
theorem OkItems.mono:∀{l:List aI} {i j:Nat},OkItems j l→i≤j→OkItems i l
  | [],_,_,_,_=>trivial
  | x::t,i,j,⟨h1,h2⟩,hij=>⟨h1.mono hij,h2.mono (by omega)⟩
theorem OkItems.drop:∀{l:List aI} {i:Nat} (d:Nat),OkItems i l→OkItems i (l.drop d)
  | l,i,0,h=>h
  | [],i,d+1,h=>trivial
  | x::t,i,d+1,⟨_,h2⟩=>(OkItems.drop d h2).mono (by omega)
theorem IA:∀{l:List aI} {i m:Nat},OkItems i l→OkItems i (SS i m l)
  | [],_,_,_=>trivial
  | x::t,i,m,⟨h1,h2⟩=>by
    refine ⟨?_,IA h2⟩
    split
    ·rename_i h;exact ⟨h1.1,h1.2.1,h1.2.2.1,fun _=>h.2.2⟩
    ·exact h1
theorem AG:∀(i m:Nat) (l:List aI),(SS i m l).length=l.length
  | _,_,[]=>rfl
  | i,m,x::t=>by simp [SS,AG (i+1) (m/2) t]
theorem WF (s:aK) (n m:Int):VSend (U5 s n m):=by
  unfold U5
  split
  ·rename_i h
   split
   ·rename_i h2
    have hf:=JB s.Items
    obtain ⟨v1,v2,v3,v4⟩:=h
    refine ⟨?_, ?_, ?_,IA (v4.drop _)⟩
    ·simp only [AG,List.length_drop];omega
    ·simp only;omega
    ·simp only [AG,List.length_drop];omega
   ·assumption
  ·exact uT
def goes (o:ByteArray) (r:List ByteArray) (p:bV):Prop:=o.size+p.Text.size≤200∧(p.Last=true→r.length<4)
instance (o:ByteArray) (r:List ByteArray) (p:bV):Decidable (goes o r p):=by unfold goes;infer_instance
theorem bK_ (n:Int) (h:List aP) (o:ByteArray) (r:List ByteArray) (p:bV) (ho:o.size≤1048576) (hp:p.Text.size≤1048576):Wp (fun k=>mF k ⟨n,h,o,r⟩ p) (· =decide (goes o r p)):=by
  unfold mF
  simp (disch:=omega) only [bR,aL,b9]
  refine Wp.ite (fun h1=> ?_) (fun h1=>Wp.ret (decide_eq_false fun h=>by have:=h.1;omega).symm)
  refine Wp.bif (fun h2=> ?_) (fun h2=> ?_)
  ·refine Wp.ret ?_
   rw [decide_eq_decide]
   exact ⟨fun h=>⟨by omega,fun _=>by omega⟩,fun h=>by have:=h.2 h2;omega⟩
  ·exact Wp.ret (decide_eq_true ⟨by omega,fun h=>by rw [h2] at h;cases h⟩).symm
theorem dW_ (n:Int) (h:List aP) (o:ByteArray) (r:List ByteArray) (p:bV) (ho:o.size≤1048576) (hp:p.Text.size≤1048576):Wp (fun k=>qY k ⟨n,h,o,r⟩ p) (· =decide (goes o r p)):=bK_ n h o r p ho hp
def WHs (n:Int):Int→List aP→Prop
  | _,[]=>True
  | p,x::t=>(p<x.Seq∧x.Seq≤n+7∧x.Seq≤999999∧x.Part.Text.size≤20)∧WHs n x.Seq t
instance fp_ (n:Int):(p:Int)→(l:List aP)→Decidable (WHs n p l)
  | _,[]=> .isTrue trivial
  | p,x::t=>by
    have:=fp_ n x.Seq t
    unfold WHs;infer_instance
def WC (n:Int) (o:ByteArray) (r:List ByteArray) (l:List aP):Prop:=∀x∈l,x.Seq=n→¬goes o r x.Part
instance (n:Int) (o:ByteArray) (r:List ByteArray) (l:List aP):Decidable (WC n o r l):=by unfold WC;infer_instance
def SmR (l:List ByteArray):Prop:=∀s∈l,s.size≤200
instance (l:List ByteArray):Decidable (SmR l):=by unfold SmR;infer_instance
def VTake (t:aM):Prop:=(0≤t.Next∧t.Next≤1000000)∧t.Held.length≤8∧t.Open.size≤200∧t.Ready.length≤4∧SmR t.Ready∧WHs t.Next (t.Next-1) t.Held∧WC t.Next t.Open t.Ready t.Held
instance (t:aM):Decidable (VTake t):=by unfold VTake;infer_instance
def jG (n:Int) (pre:List aP):Int:=match pre.getLast? with | none=>n-1 | some y=>y.Seq
theorem uE (n:Int) (pre:List aP) (x:aP):jG n (pre++[x])=x.Seq:=by simp [jG]
theorem NH (n:Int) (pre t:List aP) (h:0<pre.length):∃y,idx (pre++t) ((pre.length:Int)-1)=some y∧jG n pre=y.Seq:=by
  rcases List.eq_nil_or_concat pre with rfl | ⟨l,y,rfl⟩
  ·simp at h
  ·refine ⟨y, ?_,by simp [jG]⟩
   simp only [List.concat_eq_append,List.length_append,List.length_singleton]
   rw [show ((l.length+1:Nat):Int)-1=(l.length:Int) by omega,j8]
   simp
theorem as_ (n s:Int) (h:List aP) (o:ByteArray) (r:List ByteArray) (hn:0≤n∧n≤1000000):Wp (fun k=>rA k ⟨n,h,o,r⟩ s) (· =decide (n≤s∧s≤n+7∧s≤999999)):=by
  unfold rA
  simp (disch:=omega) only [bR]
  refine Wp.bind (dO _ _ _) (fun _ e=> ?_);subst e
  simp only [inB,aL]
  refine Wp.ite (fun h1=>Wp.ret ?_) (fun h1=>Wp.ret (decide_eq_false (by omega)).symm)
  rw [decide_eq_decide];omega
theorem yD (n:Int) (o:ByteArray) (r:List ByteArray) (hn:0≤n∧n≤1000000) (ho:o.size≤200):∀(t pre:List aP),(pre++t).length≤1000→n-1≤jG n pre→
    Wp (fun k=>bK k (pre.length:Int) n (pre++t) o r) (· =decide (WHs n (jG n pre) t∧WC n o r t))
  | [],pre,hl,hp=>by
    refine Wp.step ?_
    simp only [bK,List.append_nil]
    simp (disch:=omega) only [aL,if_neg]
    exact Wp.ret (decide_eq_true ⟨trivial,fun x hx=>by simp at hx⟩).symm
  | x::t,pre,hl,hp=>by
    refine Wp.step ?_
    have hl':=hl
    simp only [List.length_append,List.length_cons] at hl
    simp only [bK]
    simp only [aL,hP,if_true,bJ,Option.bind_some]
    have F:¬(WHs n (jG n pre) (x::t)∧WC n o r (x::t))→Wp (fun _=>some false) (· =decide (WHs n (jG n pre) (x::t)∧WC n o r (x::t))):=fun h=>Wp.ret (decide_eq_false h).symm
    refine Wp.bind (as_ n x.Seq _ o r hn) (fun _ e=> ?_);subst e
    simp only [aL,b9]
    refine Wp.ite (fun h1=> ?_) (fun h1=>F fun h'=>by have:=h'.1.1;omega)
    refine Wp.ite (fun h2=>F fun h'=>by have:=h'.1.1;omega) (fun h2=> ?_)
    have ih:=yD n o r hn ho t (pre++[x]) (by simpa using hl') (by rw [uE];omega)
    rw [←cK,←bS,uE] at ih
    have G:(x.Seq=n→¬goes o r x.Part)→jG n pre<x.Seq→Wp (fun k=>bK k ((pre.length:Int)+1) n (pre++x::t) o r) (· =decide (WHs n (jG n pre) (x::t)∧WC n o r (x::t))):=fun h h'=>by
      refine Wp.mono ih fun v hv=> ?_
      rw [hv,decide_eq_decide]
      constructor
      ·rintro ⟨g1,g2⟩
       refine ⟨⟨⟨h',by omega,by omega,by omega⟩,g1⟩,fun y hy=> ?_⟩
       rcases List.mem_cons.mp hy with rfl | hy
       ·exact h
       ·exact g2 y hy
      ·rintro ⟨g1,g2⟩
       exact ⟨g1.2,fun y hy=>g2 y (List.mem_cons_of_mem _ hy)⟩
    have C:jG n pre<x.Seq→Wp (fun k=>bif x.Seq==n then (mF k ⟨n,pre++x::t,o,r⟩ x.Part).bind fun r6=>bif r6 then some false else bK k (IntKind.wrap .i64 ((pre.length:Int)+1)) n (pre++x::t) o r
     else bK k (IntKind.wrap .i64 ((pre.length:Int)+1)) n (pre++x::t) o r) (· =decide (WHs n (jG n pre) (x::t)∧WC n o r (x::t))):=fun h'=>by
      simp (disch:=omega) only [bR,lW]
      refine Wp.ite (fun h3=> ?_) (fun h3=>G (fun g=>absurd g h3) h')
      refine Wp.bind (bK_ n _ o r x.Part (by omega) (by omega)) (fun _ e=> ?_);subst e
      simp only [aL]
      exact Wp.ite (fun h4=>F fun g=>g.2 x (List.mem_cons_self ..) h3 h4) (fun h4=>G (fun _=>h4) h')
    refine Wp.ite (fun h3=> ?_) (fun h3=> ?_)
    ·obtain ⟨y,hy,hy'⟩:=NH n pre (x::t) (by omega)
     rw [bR (by omega) (by omega),hy]
     simp only [Option.bind_some]
     refine Wp.ite (fun h4=>F fun h'=>by have:=h'.1.1;omega) (fun h4=> ?_)
     exact C (by omega)
    ·have:pre=[]:=List.length_eq_zero_iff.mp (by omega)
     exact C (by subst this;simp [jG];omega)
theorem xB (n:Int) (o:ByteArray) (h:List aP) (hn:0≤n∧n≤1000000) (ho:o.size≤200) (hh:h.length≤8) (rr:List ByteArray):∀(t pre:List ByteArray),pre++t=rr→(pre++t).length≤1000→
    Wp (fun k=>eS k (pre.length:Int) n h o (pre++t)) (· =decide (SmR t∧WHs n (n-1) h∧WC n o rr h))
  | [],pre,hr,hl=>by
    refine Wp.step ?_
    simp only [eS]
    rw [hr] at hl⊢
    rw [List.append_nil] at hr
    subst hr
    simp (disch:=omega) only [aL,if_neg]
    have:=yD n o pre hn ho h [] (by simp;omega) (by simp [jG])
    refine this.mono fun v hv=> ?_
    rw [hv,decide_eq_decide]
    exact ⟨fun g=>⟨fun s hs=>by simp at hs,g⟩,fun g=>g.2⟩
  | x::t,pre,hr,hl=>by
    refine Wp.step ?_
    have hl':=hl
    simp only [List.length_append,List.length_cons] at hl
    simp only [eS]
    simp only [aL,hP,if_true,bJ,Option.bind_some]
    refine Wp.ite (fun h1=>Wp.ret (decide_eq_false fun h'=>by have:=h'.1 x (List.mem_cons_self ..);omega).symm) (fun h1=> ?_)
    simp (disch:=omega) only [bR]
    have ih:=xB n o h hn ho hh rr t (pre++[x]) (by simpa using hr) (by simpa using hl')
    rw [←cK,←bS] at ih
    refine ih.mono fun v hv=> ?_
    rw [hv,decide_eq_decide]
    constructor
    ·rintro ⟨g1,g2⟩
     refine ⟨fun y hy=> ?_,g2⟩
     rcases List.mem_cons.mp hy with rfl | hy
     ·omega
     ·exact g1 y hy
    ·rintro ⟨g1,g2⟩
     exact ⟨fun y hy=>g1 y (List.mem_cons_of_mem _ hy),g2⟩
theorem lU (t:aM):Wp (fun k=>gH k t) (· =decide (VTake t)):=by
  unfold gH
  simp only [aL,b9]
  have F:¬VTake t→Wp (fun _=>some false) (· =decide (VTake t)):=fun h=>Wp.ret (decide_eq_false h).symm
  refine Wp.bind (dO _ _ _) (fun _ e=> ?_);subst e
  simp only [inB,aL]
  refine Wp.ite (fun h1=> ?_) (fun h1=>F fun h'=>h1 h'.1)
  refine Wp.ite (fun h2=>F fun h'=>by have:=h'.2.1;omega) (fun h2=> ?_)
  refine Wp.ite (fun h3=>F fun h'=>by have:=h'.2.2.1;omega) (fun h3=> ?_)
  refine Wp.ite (fun h4=>F fun h'=>by have:=h'.2.2.2.1;omega) (fun h4=> ?_)
  refine Wp.mono (xB t.Next t.Open t.Held h1 (by omega) (by omega) t.Ready t.Ready [] rfl (by simp;omega)) fun v hv=> ?_
  rw [hv,decide_eq_decide]
  exact ⟨fun g=>⟨h1,by omega,by omega,by omega,g⟩,fun g=>g.2.2.2.2⟩
theorem yV:∀(t pre:List ByteArray),(pre++t).length≤1000→
    Wp (fun k=>d9 k (pre++t) ((pre++t).length:Int) (pre.length:Int)) (· =decide (SmR t))
  | [],pre,hl=>by
    refine Wp.step ?_
    simp only [d9,List.append_nil]
    simp (disch:=omega) only [aL,if_neg]
    exact Wp.ret (decide_eq_true fun s hs=>by simp at hs).symm
  | x::t,pre,hl=>by
    refine Wp.step ?_
    have hl':=hl
    simp only [List.length_append,List.length_cons] at hl
    simp only [d9]
    simp only [aL,hP,if_true,bJ,Option.bind_some]
    refine Wp.ite (fun h1=>Wp.ret (decide_eq_false fun h'=>by have:=h' x (List.mem_cons_self ..);omega).symm) (fun h1=> ?_)
    simp (disch:=omega) only [bR]
    have ih:=yV t (pre++[x]) (by simpa using hl')
    rw [←cK,←bS] at ih
    refine ih.mono fun v hv=> ?_
    rw [hv,decide_eq_decide]
    constructor
    ·intro g1 y hy
     rcases List.mem_cons.mp hy with rfl | hy
     ·omega
     ·exact g1 y hy
    ·exact fun g1 y hy=>g1 y (List.mem_cons_of_mem _ hy)
theorem AY (n:Int) (o:ByteArray) (r:List ByteArray) (hn:0≤n∧n≤1000000) (ho:o.size≤200) (hr:r.length≤4):∀(t pre:List aP),(pre++t).length≤1000→n-1≤jG n pre→
    Wp (fun k=>bM k (pre++t) ((pre++t).length:Int) (pre.length:Int) n (pre++t) o r) (· =decide ((WHs n (jG n pre) t∧WC n o r t)∧SmR r))
  | [],pre,hl,hp=>by
    refine Wp.step ?_
    simp only [bM,List.append_nil]
    simp (disch:=omega) only [aL,if_neg]
    refine Wp.mono (yV r [] (by simp;omega)) fun v hv=> ?_
    rw [hv,decide_eq_decide]
    exact ⟨fun g=>⟨⟨trivial,fun x hx=>by simp at hx⟩,g⟩,fun g=>g.2⟩
  | x::t,pre,hl,hp=>by
    refine Wp.step ?_
    have hl':=hl
    simp only [List.length_append,List.length_cons] at hl
    simp only [bM]
    simp only [aL,hP,if_true,bJ,Option.bind_some]
    have F:¬(WHs n (jG n pre) (x::t)∧WC n o r (x::t))→Wp (fun _=>some false) (· =decide ((WHs n (jG n pre) (x::t)∧WC n o r (x::t))∧SmR r)):=fun h=>Wp.ret (decide_eq_false fun g=>h g.1).symm
    simp (disch:=omega) only [bR]
    refine Wp.bind (BD _ _ _) (fun _ e=> ?_);subst e
    simp only [inB,aL,b9]
    refine Wp.ite (fun h1=> ?_) (fun h1=>F fun h'=>by have:=h'.1.1;omega)
    refine Wp.ite (fun h1'=>F fun h'=>by have:=h'.1.1;omega) (fun h1'=> ?_)
    refine Wp.ite (fun h2=>F fun h'=>by have:=h'.1.1;omega) (fun h2=> ?_)
    have ih:=AY n o r hn ho hr t (pre++[x]) (by simpa using hl') (by rw [uE];omega)
    rw [←cK,←bS,uE] at ih
    have G:(x.Seq=n→¬goes o r x.Part)→jG n pre<x.Seq→Wp (fun k=>bM k (pre++x::t) ((pre++x::t).length:Int) ((pre.length:Int)+1) n (pre++x::t) o r) (· =decide ((WHs n (jG n pre) (x::t)∧WC n o r (x::t))∧SmR r)):=fun h h'=>by
      refine Wp.mono ih fun v hv=> ?_
      rw [hv,decide_eq_decide]
      constructor
      ·rintro ⟨⟨g1,g2⟩,g3⟩
       refine ⟨⟨⟨⟨h',by omega,by omega,by omega⟩,g1⟩,fun y hy=> ?_⟩,g3⟩
       rcases List.mem_cons.mp hy with rfl | hy
       ·exact h
       ·exact g2 y hy
      ·rintro ⟨⟨g1,g2⟩,g3⟩
       exact ⟨⟨g1.2,fun y hy=>g2 y (List.mem_cons_of_mem _ hy)⟩,g3⟩
    have C:jG n pre<x.Seq→Wp (fun k=>if x.Seq=n then (qY k ⟨n,pre++x::t,o,r⟩ x.Part).bind fun r6=>bif r6 then some false else bM k (pre++x::t) ((pre++x::t).length:Int) ((pre.length:Int)+1) n (pre++x::t) o r
     else bM k (pre++x::t) ((pre++x::t).length:Int) ((pre.length:Int)+1) n (pre++x::t) o r) (· =decide ((WHs n (jG n pre) (x::t)∧WC n o r (x::t))∧SmR r)):=fun h'=>by
      refine Wp.ite (fun h3=> ?_) (fun h3=>G (fun g=>absurd g h3) h')
      refine Wp.bind (dW_ n _ o r x.Part (by omega) (by omega)) (fun _ e=> ?_);subst e
      simp only [aL]
      exact Wp.ite (fun h4=>F fun g=>g.2 x (List.mem_cons_self ..) h3 h4) (fun h4=>G (fun _=>h4) h')
    simp only [lW]
    refine Wp.ite (fun h3=> ?_) (fun h3=> ?_)
    ·obtain ⟨y,hy,hy'⟩:=NH n pre (x::t) (by omega)
     rw [hy]
     simp only [Option.bind_some]
     refine Wp.ite (fun h4=>F fun h'=>by have:=h'.1.1;omega) (fun h4=> ?_)
     exact C (by omega)
    ·have:pre=[]:=List.length_eq_zero_iff.mp (by omega)
     exact C (by subst this;simp [jG];omega)
theorem lT (t:aM):Wp (fun k=>dS k t) (· =decide (VTake t)):=by
  unfold dS
  simp only [aL,b9]
  have F:¬VTake t→Wp (fun _=>some false) (· =decide (VTake t)):=fun h=>Wp.ret (decide_eq_false h).symm
  refine Wp.bind (BD _ _ _) (fun _ e=> ?_);subst e
  simp only [inB,aL]
  refine Wp.ite (fun h1=> ?_) (fun h1=>F fun h'=>h1 h'.1)
  refine Wp.ite (fun h2=>F fun h'=>by have:=h'.2.1;omega) (fun h2=> ?_)
  refine Wp.ite (fun h3=>F fun h'=>by have:=h'.2.2.1;omega) (fun h3=> ?_)
  refine Wp.ite (fun h4=>F fun h'=>by have:=h'.2.2.2.1;omega) (fun h4=> ?_)
  refine Wp.mono (AY t.Next t.Open t.Ready h1 (by omega) (by omega) t.Held [] (by simp;omega) (by simp [jG])) fun v hv=> ?_
  rw [hv,decide_eq_decide]
  exact ⟨fun g=>⟨h1,by omega,by omega,by omega,g.2,g.1⟩,fun g=>⟨g.2.2.2.2.2,g.2.2.2.2.1⟩⟩
theorem B9 (t:aM) (h:t.Held.length≤1048576) (h':t.Ready.length≤1048576):Wp (fun k=>oG k t) (· =t):=by
  unfold oG
  refine Wp.opt (bI (by simp;omega)) ?_
  refine Wp.opt (bI (by simp;omega)) ?_
  exact Wp.ret (by rw [List.nil_append,List.nil_append])
theorem IZ (t:aM) (h:t.Held.length≤1048576) (h':t.Ready.length≤1048576):Wp (fun k=>nD k t) (· =t):=B9 t h h'
abbrev A3:aM:=⟨0,[],noB,[]⟩
theorem CQ:VTake A3:=⟨by simp,by simp,by simp [rJ],by simp,fun s hs=>by simp at hs,trivial,fun x hx=>by simp at hx⟩
theorem VW {n:Int}:∀{l:List aP} {p:Int},WHs n p l→∀x∈l,x.Part.Text.size≤20
  | [],_,_,x,h=>by simp at h
  | y::t,p,⟨h1,h2⟩,x,h=>by
    rcases List.mem_cons.mp h with rfl | h
    ·exact h1.2.2.2
    ·exact VW h2 x h
theorem ZS {n:Int}:∀{l:List aP} {p:Int},WHs n p l→∀x∈l,p<x.Seq
  | [],_,_,x,h=>by simp at h
  | y::t,p,⟨h1,h2⟩,x,h=>by
    rcases List.mem_cons.mp h with rfl | h
    ·exact h1.1
    ·have:=ZS h2 x h;omega
theorem XP {n n':Int} (hn:n≤n'):∀{l:List aP} {p:Int},WHs n p l→WHs n' p l
  | [],_,_=>trivial
  | y::t,p,⟨h1,h2⟩=>⟨⟨h1.1,by omega,h1.2.2⟩,XP hn h2⟩
theorem VTake.sm {t:aM} (h:VTake t):aw_ t:=by
  obtain ⟨h1,h2,h3,h4,h5,h6,h7⟩:=h
  unfold aw_ smL
  refine ⟨⟨by omega,fun x hx=> ?_⟩,by omega,⟨by omega,fun s hs=>by have:=h5 s hs;omega⟩⟩
  have:=VW h6 x hx
  show x.Part.Text.size≤1048576
  omega
def vI:List aP→Int→ByteArray→List ByteArray→aM
  | [],n,o,r=>⟨n,[],o,r⟩
  | x::t,n,o,r=>if x.Seq=n∧goes o r x.Part then (if x.Part.Last=true then vI t (n+1) noB (r++[o++x.Part.Text]) else vI t (n+1) (o++x.Part.Text) r) else ⟨n,x::t,o,r⟩
theorem HX (c:Int) (e:ByteArray) (z:List aP) (w:List ByteArray):∀(h:List aP) (n:Int) (o:ByteArray) (r:List ByteArray),h.length≤100→(∀x∈h,x.Seq≤999999∧x.Part.Text.size≤1000)→0≤n→o.size≤200→r.length≤4→
    Wp (fun k=>f7 k n o c e h r z w) (· =vI h n o r)
  | [],n,o,r,hl,hx,hn,ho,hr=>by
    refine Wp.step ?_
    simp only [f7]
    simp (disch:=simp) only [aL,if_neg]
    exact Wp.ret rfl
  | x::t,n,o,r,hl,hx,hn,ho,hr=>by
    refine Wp.step ?_
    obtain ⟨x1,x2⟩:=hx x (List.mem_cons_self ..)
    simp only [List.length_cons] at hl
    simp only [f7,vI]
    have e0:idx (x::t) 0=some x:=rfl
    have e1:(x::t)[Int.toNat 0]? =some x:=rfl
    have e2:wnd (x::t).length 1 ((x::t).length:Int)=some (1,(x::t).length):=by rw [dF (by simp only [List.length_cons];omega)];simp
    have e3:app 32 ([]:List aP) (iF (x::t) 1 (x::t).length)=some t:=by rw [bI (by simp [iF];omega)];simp [iF]
    simp only [e0,e1,e2,e3,aL,Option.bind_some,lW]
    have hpos:((x::t).length:Int)>0:=by simp only [List.length_cons];omega
    simp only [if_pos hpos]
    refine Wp.ite (fun h1=> ?_) (fun h1=>Wp.ret (by rw [if_neg (fun g=>h1 g.1)]))
    refine Wp.bind (bK_ n _ o r x.Part (by omega) (by omega)) (fun _ e=> ?_);subst e
    simp only [aL]
    refine Wp.ite (fun h2=> ?_) (fun h2=>Wp.ret (by rw [if_neg (fun g=>h2 g.2)]))
    rw [if_pos ⟨h1,h2⟩,aY (by omega)]
    simp only [Option.bind_some]
    have hx':∀y∈t,y.Seq≤999999∧y.Part.Text.size≤1000:=fun y hy=>hx y (List.mem_cons_of_mem _ hy)
    refine Wp.bif (fun h3=> ?_) (fun h3=> ?_)
    ·rw [if_pos h3,bI (by simp;omega)]
     simp (disch:=omega) only [Option.bind_some,bR]
     exact HX c e z w t (n+1) noB _ (by omega) hx' (by omega) (by simp [rJ]) (by have:=h2.2 h3;simp;omega)
    ·rw [if_neg (by simp [h3])]
     simp (disch:=omega) only [bR]
     exact HX c e z w t (n+1) _ _ (by omega) hx' (by omega) (by rw [aG];exact h2.1) hr
theorem RU:∀(k:Nat) n o c e h r z w,mG k n o c e h r z w=f7 k n o c e h r z w
  | 0,_,_,_,_,_,_,_,_=>rfl
  | k+1,n,o,c,e,h,r,z,w=>by
    have hi:∀a b,qY k a b=mF k a b:=fun _ _=>rfl
    simp only [mG,f7,RU k,hi]
theorem I0 (t:aM) (hl:t.Held.length≤100) (hx:∀x∈t.Held,x.Seq≤999999∧x.Part.Text.size≤1000) (hn:0≤t.Next) (ho:t.Open.size≤200) (hr:t.Ready.length≤4):Wp (fun k=>xA k t) (· =vI t.Held t.Next t.Open t.Ready):=
  HX _ _ _ _ t.Held t.Next t.Open t.Ready hl hx hn ho hr
theorem JI (t:aM) (hl:t.Held.length≤100) (hx:∀x∈t.Held,x.Seq≤999999∧x.Part.Text.size≤1000) (hn:0≤t.Next) (ho:t.Open.size≤200) (hr:t.Ready.length≤4):Wp (fun k=>nE k t) (· =vI t.Held t.Next t.Open t.Ready):=by
  have:(fun k=>nE k t)=fun k=>xA k t:=funext fun k=>RU k _ _ _ _ _ _ _ _
  rw [this];exact I0 t hl hx hn ho hr
theorem NY (n0:Int):∀(h:List aP) (n:Int) (o:ByteArray) (r:List ByteArray),n0≤n→WHs n0 (n-1) h→h.length≤8→0≤n→n≤1000000→o.size≤200→r.length≤4→SmR r→VTake (vI h n o r)
  | [],n,o,r,h0,hw,hl,hn,hn',ho,hr,hs=>⟨⟨hn,hn'⟩,by simp [vI],ho,hr,hs,trivial,fun x hx=>by simp [vI] at hx⟩
  | x::t,n,o,r,h0,⟨hw1,hw2⟩,hl,hn,hn',ho,hr,hs=>by
    simp only [List.length_cons] at hl
    simp only [vI]
    split
    ·rename_i hg
     have hw3:WHs n0 (n+1-1) t:=by rw [show n+1-1=x.Seq by omega];exact hw2
     split
     ·rename_i hl3
      refine NY n0 t (n+1) noB _ (by omega) hw3 (by omega) (by omega) (by omega) (by simp [rJ]) (by have:=hg.2.2 hl3;simp;omega) (fun s h'=> ?_)
      simp only [List.mem_append,List.mem_singleton] at h'
      rcases h' with h' | rfl
      ·exact hs s h'
      ·rw [aG];exact hg.2.1
     ·exact NY n0 t (n+1) _ r (by omega) hw3 (by omega) (by omega) (by omega) (by rw [aG];exact hg.2.1) hr hs
    ·rename_i hg
     refine ⟨⟨hn,hn'⟩,by simp only [List.length_cons];omega,ho,hr,hs,XP h0 ⟨hw1,hw2⟩,fun y hy=> ?_⟩
     rcases List.mem_cons.mp hy with rfl | hy
     ·exact fun e g=>hg ⟨e,g⟩
     ·have:=ZS hw2 y hy
      exact fun e=>by simp only at e;omega
def CT (t:aM):aM×ByteArray×Bool:=if VTake t then (match t.Ready with | []=>(t,noB,false) | s::rs=>(vI t.Held t.Next t.Open rs,s,true)) else (A3,noB,false)
theorem VTake.small {t:aM} (h:VTake t):∀x∈t.Held,x.Seq≤999999∧x.Part.Text.size≤1000:=by
  have hw:=h.2.2.2.2.2.1
  have G:∀{l:List aP} {p:Int},WHs t.Next p l→∀x∈l,x.Seq≤999999:=by
    intro l
    induction l with
    | nil=>intro p _ x hx;simp at hx
    | cons y l ih=>
      rintro p ⟨h1,h2⟩ x hx
      rcases List.mem_cons.mp hx with rfl | hx
      ·exact h1.2.2.1
      ·exact ih h2 x hx
  exact fun x hx=>⟨G hw x hx,by have:=VW hw x hx;omega⟩
theorem UW (t:aM):Wp (fun k=>pX k t) (· =CT t):=by
  unfold pX CT
  refine Wp.bind (lU t) (fun _ e=> ?_);subst e
  simp only [b9,aL]
  refine Wp.ite (fun h=> ?_) (fun h=>Wp.ret (by rw [if_neg h]))
  rw [if_pos h]
  refine Wp.bind (B9 t (by have:=h.2.1;omega) (by have:=h.2.2.2.1;omega)) (fun r2 e=> ?_);rw [e]
  simp only [lW]
  obtain ⟨n,hd,o,r⟩:=t
  cases r with
  | nil=>exact Wp.ret rfl
  | cons s rs=>
    have hr:=h.2.2.2.1
    simp only [List.length_cons] at hr
    have e0:idx (s::rs) 0=some s:=rfl
    have e1:(s::rs)[Int.toNat 0]? =some s:=rfl
    have e2:wnd (s::rs).length 1 ((s::rs).length:Int)=some (1,(s::rs).length):=by rw [dF (by simp only [List.length_cons];omega)];simp
    have e3:app 16 ([]:List ByteArray) (iF (s::rs) 1 (s::rs).length)=some rs:=by rw [bI (by simp [iF];omega)];simp [iF]
    simp only [e0,e1,e2,e3,Option.bind_some]
    have hpos:¬((s::rs).length:Int)=0:=by simp only [List.length_cons];omega
    simp only [if_neg hpos]
    refine Wp.bind (I0 _ (by have:=h.2.1;simp only at this⊢;omega) h.small h.1.1 h.2.2.1 (by simp only;omega)) (fun _ e=> ?_);subst e
    exact Wp.ret rfl
theorem T9 (t:aM):Wp (fun k=>pL k t) (· =CT t):=by
  unfold pL CT
  refine Wp.bind (lT t) (fun _ e=> ?_);subst e
  simp only [b9,aL]
  refine Wp.ite (fun h=> ?_) (fun h=>Wp.ret (by rw [if_neg h]))
  rw [if_pos h]
  refine Wp.bind (IZ t (by have:=h.2.1;omega) (by have:=h.2.2.2.1;omega)) (fun r2 e=> ?_);rw [e]
  simp only [lW]
  obtain ⟨n,hd,o,r⟩:=t
  cases r with
  | nil=>exact Wp.ret rfl
  | cons s rs=>
    have hr:=h.2.2.2.1
    simp only [List.length_cons] at hr
    have e0:idx (s::rs) 0=some s:=rfl
    have e1:(s::rs)[Int.toNat 0]? =some s:=rfl
    have e2:wnd (s::rs).length 1 ((s::rs).length:Int)=some (1,(s::rs).length):=by rw [dF (by simp only [List.length_cons];omega)];simp
    have e3:app 16 ([]:List ByteArray) (iF (s::rs) 1 (s::rs).length)=some rs:=by rw [bI (by simp [iF];omega)];simp [iF]
    simp only [e0,e1,e2,e3,Option.bind_some]
    have hpos:¬((s::rs).length:Int)=0:=by simp only [List.length_cons];omega
    simp only [if_neg hpos]
    refine Wp.bind (JI _ (by have:=h.2.1;simp only at this⊢;omega) h.small h.1.1 h.2.2.1 (by simp only;omega)) (fun _ e=> ?_);subst e
    exact Wp.ret rfl
theorem XL (t:aM):VTake (CT t).1∧(CT t).2.1.size≤200:=by
  unfold CT
  split
  ·rename_i h
   obtain ⟨n,hd,o,r⟩:=t
   cases r with
   | nil=>exact ⟨h,by simp [rJ]⟩
   | cons s rs=>
     obtain ⟨h1,h2,h3,h4,h5,h6,h7⟩:=h
     simp only [List.length_cons] at h4
     exact ⟨NY n hd n o rs (Int.le_refl _) h6 h2 h1.1 h1.2 h3 (by omega) (fun s' hs=>h5 s' (List.mem_cons_of_mem _ hs)),h5 s (List.mem_cons_self ..)⟩
  ·exact ⟨CQ,by simp [rJ]⟩
def US (n:Int):Nat→List aP→Nat
  | m,[]=>m
  | m,x::t=>US n (m+2^(x.Seq-n).toNat) t
def tkM (t:aM):Int×Int:=if VTake t then (t.Next,((US t.Next 0 t.Held:Nat):Int)) else (0,0)
theorem tA {d:Nat} (h:d≤8):(2^d:Nat)≤256:=Nat.pow_le_pow_right (by decide) h
theorem eI_ (n:Int) (m:Nat) (i:Int) (xs:List aP) (o:ByteArray) (r:List ByteArray) (x:aP) (hi:idx xs i=some x) (hn:0≤n∧n≤1000000) (hx:n≤x.Seq∧x.Seq≤n+7) (hm:m≤256) (Q:Int×Int→Prop)
    (hq:Wp (fun k=>eF k ((m+2^(x.Seq-n).toNat:Nat):Int) (IntKind.wrap .i64 (i+1)) n xs o r) Q):∀(d:Nat) (y:Int),n≤y→y≤x.Seq→d=(x.Seq-y).toNat→Wp (fun k=>fL k (m:Int) i ((2^(y-n).toNat:Nat):Int) y n xs o r) Q
  | 0,y,h1,h2,h3=>by
    have hy:y=x.Seq:=by omega
    subst hy
    have hp:=tA (d:=(x.Seq-n).toNat) (by omega)
    refine Wp.step ?_
    simp only [fL,hi,Option.bind_some]
    simp (disch:=omega) only [aL,if_neg]
    generalize 2^(x.Seq-n).toNat=P at*
    rw [bR (n:=(m:Int)+_) (by omega) (by omega),show (m:Int)+(P:Int)=((m+P:Nat):Int) by omega]
    exact hq
  | d+1,y,h1,h2,h3=>by
    have hp:=tA (d:=(y-n).toNat) (by omega)
    refine Wp.step ?_
    simp only [fL,hi,Option.bind_some]
    simp (disch:=omega) only [aL,if_pos]
    have:=eI_ n m i xs o r x hi hn hx hm Q hq d (y+1) (by omega) (by omega) (by omega)
    have e:2^(y+1-n).toNat=2^(y-n).toNat*2:=by rw [show (y+1-n).toNat=(y-n).toNat+1 by omega,Nat.pow_succ]
    rw [e] at this
    generalize 2^(y-n).toNat=P at*
    rw [bR (n:=(P:Int)*2) (by omega) (by omega),bR (n:=y+1) (by omega) (by omega)]
    rwa [show ((P*2:Nat):Int)=(P:Int)*2 by omega] at this
theorem bF_ (n:Int) (o:ByteArray) (r:List ByteArray) (hn:0≤n∧n≤1000000):∀(t pre:List aP) (p:Int) (m:Nat),(pre++t).length≤1000→n-1≤p→p≤n+7→WHs n p t→m<2^(p-n+1).toNat→
    Wp (fun k=>eF k (m:Int) (pre.length:Int) n (pre++t) o r) (· =(n,((US n m t:Nat):Int)))
  | [],pre,p,m,hl,h1,h2,hw,hm=>by
    refine Wp.step ?_
    simp only [eF,List.append_nil]
    simp (disch:=omega) only [aL,if_neg]
    exact Wp.ret rfl
  | x::t,pre,p,m,hl,h1,h2,⟨hw1,hw2⟩,hm=>by
    refine Wp.step ?_
    have hl':=hl
    simp only [List.length_append,List.length_cons] at hl
    simp only [eF,US]
    simp only [aL,hP,if_true]
    have hp:=tA (d:=(p-n+1).toNat) (by omega)
    have hlt:m+2^(x.Seq-n).toNat<2^(x.Seq-n+1).toNat:=by
      have:2^(p-n+1).toNat≤2^(x.Seq-n).toNat:=Nat.pow_le_pow_right (by decide) (by omega)
      rw [show (x.Seq-n+1).toNat=(x.Seq-n).toNat+1 by omega,Nat.pow_succ];omega
    have ih:=bF_ n o r hn t (pre++[x]) x.Seq (m+2^(x.Seq-n).toNat) (by simpa using hl') (by omega) (by omega) hw2 hlt
    rw [←cK,←bS] at ih
    have:=eI_ n m (pre.length:Int) (pre++x::t) o r x bJ hn (by omega) (by omega) (· =(n,((US n (m+2^(x.Seq-n).toNat) t:Nat):Int))) (by rw [bR (by omega) (by omega)];exact ih) (x.Seq-n).toNat n (by omega) (by omega) rfl
    rwa [show ((2^(n-n).toNat:Nat):Int)=1 by simp] at this
theorem JU (t:aM):Wp (fun k=>kP k t) (· =tkM t):=by
  unfold kP tkM
  refine Wp.bind (lU t) (fun _ e=> ?_);subst e
  simp only [b9,aL]
  refine Wp.ite (fun h=> ?_) (fun h=>Wp.ret (by rw [if_neg h]))
  rw [if_pos h]
  exact bF_ t.Next t.Open t.Ready h.1 t.Held [] (t.Next-1) 0 (by have:=h.2.1;show t.Held.length≤1000;omega) (by omega) (by omega) h.2.2.2.2.2.1 (Nat.two_pow_pos _)
theorem YA (m d:Nat) (h:m<2^d) (hd:d≤8):W9 .i64 (m:Int) ((2^d:Nat):Int)=((m+2^d:Nat):Int):=by
  have e:∀m:Nat,BitVec.ofInt 64 (m:Int)=BitVec.ofNat 64 m:=fun m=>by
    apply BitVec.eq_of_toNat_eq
    simp [BitVec.toNat_ofInt]
  have hp:=tA hd
  show IntKind.wrap .i64 ((BitVec.ofInt 64 ((m:Nat):Int) ||| BitVec.ofInt 64 ((2^d:Nat):Int)).toNat:Int)=_
  rw [e,e,BitVec.toNat_or,BitVec.toNat_ofNat,BitVec.toNat_ofNat,Nat.mod_eq_of_lt (by omega),Nat.mod_eq_of_lt (by omega)]
  have:=Nat.shiftLeft_add_eq_or_of_lt (a:=1) (i:=d) (b:=m) h
  rw [Nat.shiftLeft_eq,Nat.one_mul] at this
  rw [Nat.or_comm,←this,Nat.add_comm]
  generalize 2^d=P at*
  exact bR (by omega) (by omega)
theorem gP_ (d:Nat) (h:d≤8):shift .shl .i64 1 (d:Int)=some ((2^d:Nat):Int):=by
  have hp:=tA h
  simp only [shift]
  rw [if_neg (by omega)]
  congr 1
  rw [Int.toNat_natCast,show IntKind.i64.bits=64 from rfl,Nat.min_eq_left (by omega)]
  rw [show (1:Int)*(2:Int)^d=((2^d:Nat):Int) by simp]
  generalize 2^d=P at*
  exact bR (by omega) (by omega)
theorem a2_ (n:Int) (o:ByteArray) (r:List ByteArray) (hn:0≤n∧n≤1000000):∀(t pre:List aP) (p:Int) (m:Nat),(pre++t).length≤1000→n-1≤p→p≤n+7→WHs n p t→m<2^(p-n+1).toNat→
    Wp (fun k=>fJ k (m:Int) (pre++t) ((pre++t).length:Int) (pre.length:Int) n (pre++t) o r) (· =(n,((US n m t:Nat):Int)))
  | [],pre,p,m,hl,h1,h2,hw,hm=>by
    refine Wp.step ?_
    simp only [fJ,List.append_nil]
    simp (disch:=omega) only [aL,if_neg]
    exact Wp.ret rfl
  | x::t,pre,p,m,hl,h1,h2,⟨hw1,hw2⟩,hm=>by
    refine Wp.step ?_
    have hl':=hl
    simp only [List.length_append,List.length_cons] at hl
    simp only [fJ,US]
    simp only [aL,hP,if_true,bJ,Option.bind_some]
    have hp:=tA (d:=(p-n+1).toNat) (by omega)
    have hle:2^(p-n+1).toNat≤2^(x.Seq-n).toNat:=Nat.pow_le_pow_right (by decide) (by omega)
    have hlt:m+2^(x.Seq-n).toNat<2^(x.Seq-n+1).toNat:=by
      rw [show (x.Seq-n+1).toNat=(x.Seq-n).toNat+1 by omega,Nat.pow_succ];omega
    have ih:=a2_ n o r hn t (pre++[x]) x.Seq (m+2^(x.Seq-n).toNat) (by simpa using hl') (by omega) (by omega) hw2 hlt
    rw [←cK,←bS] at ih
    simp (disch:=omega) only [bR]
    have e:x.Seq-n=((x.Seq-n).toNat:Int):=by omega
    have e2:=gP_ (x.Seq-n).toNat (by omega)
    rw [←e] at e2
    simp only [e2,Option.bind_some]
    rw [YA m _ (by omega) (by omega)]
    exact ih
theorem I2 (t:aM):Wp (fun k=>kF k t) (· =tkM t):=by
  unfold kF tkM
  refine Wp.bind (lT t) (fun _ e=> ?_);subst e
  simp only [b9,aL]
  refine Wp.ite (fun h=> ?_) (fun h=>Wp.ret (by rw [if_neg h]))
  rw [if_pos h]
  exact a2_ t.Next t.Open t.Ready h.1 t.Held [] (t.Next-1) 0 (by have:=h.2.1;show t.Held.length≤1000;omega) (by omega) (by omega) h.2.2.2.2.2.1 (Nat.two_pow_pos _)
def fM_ (x:aN):Prop:=bj_ x.Send∧aw_ x.Take
def c0_ (s:aK):Prop:=s.Base=0∧s.Items.length=0
instance (s:aK):Decidable (c0_ s):=by unfold c0_;infer_instance
def bR_ (t:aM):Prop:=t.Next=0∧t.Held.length=0∧t.Open=noB∧t.Ready.length=0
instance (t:aM):Decidable (bR_ t):=by unfold bR_;infer_instance
theorem Q2 (a b:Int):(a==b)=decide (a=b):=by by_cases h:a=b<;>simp [h]
theorem QO (s:aK):Wp (fun k=>pK k s) (· =decide (c0_ s)):=by
  unfold pK
  simp only [Q2,aL]
  refine Wp.ite (fun h=>Wp.ret ?_) (fun h=>Wp.ret (decide_eq_false fun g=>h g.1).symm)
  rw [decide_eq_decide];exact ⟨fun g=>⟨h,by omega⟩,fun g=>by have:=g.2;omega⟩
theorem QJ (t:aM):Wp (fun k=>pH k t) (· =decide (bR_ t)):=by
  unfold pH
  simp only [Q2,nO,aL]
  have F:¬bR_ t→Wp (fun _=>some false) (· =decide (bR_ t)):=fun h=>Wp.ret (decide_eq_false h).symm
  refine Wp.ite (fun h=> ?_) (fun h=>F fun g=>h g.1)
  refine Wp.ite (fun h2=> ?_) (fun h2=>F fun g=>by have:=g.2.1;omega)
  refine Wp.ite (fun h3=>Wp.ret ?_) (fun h3=>F fun g=>h3 g.2.2.1)
  rw [decide_eq_decide];exact ⟨fun g=>⟨h,by omega,h3,by omega⟩,fun g=>by have:=g.2.2.2;omega⟩
def VEnd (e:aN):Prop:=(1≤e.Number∧e.Number≤2)∧(1≤e.Life∧e.Life≤1000)∧(0≤e.Peer∧e.Peer≤1000)∧(0≤e.Since∧e.Since≤1000000)∧VSend e.Send∧VTake e.Take∧(e.Peer=0→c0_ e.Send∧bR_ e.Take)∧(e.Up=false→e.Peer=0∧e.Since=0∧e.Owes=false)
instance (e:aN):Decidable (VEnd e):=by unfold VEnd;infer_instance
theorem VEnd.sm {e:aN} (h:VEnd e):fM_ e:=⟨h.2.2.2.2.1.sm,h.2.2.2.2.2.1.sm⟩
theorem an_ (e:aN) (h:(1≤e.Number∧e.Number≤2)∧(1≤e.Life∧e.Life≤1000)∧(0≤e.Peer∧e.Peer≤1000)∧(0≤e.Since∧e.Since≤1000000)∧VSend e.Send∧VTake e.Take) (h':e.Peer=0→c0_ e.Send∧bR_ e.Take):
    Wp (fun _=>bif e.Up then some true else bif e.Peer==0 then bif e.Since==0 then some (!e.Owes) else some false else some false) (· =decide (VEnd e)):=by
  obtain ⟨h1,h2,h3,h4,h5,h6⟩:=h
  simp only [lW]
  refine Wp.bif (fun u=>Wp.ret (decide_eq_true ⟨h1,h2,h3,h4,h5,h6,h',fun g=>by rw [u] at g;cases g⟩).symm) (fun u=> ?_)
  refine Wp.ite (fun h7=> ?_) (fun h7=>Wp.ret (decide_eq_false fun g=>h7 (g.2.2.2.2.2.2.2 u).1).symm)
  refine Wp.ite (fun h8=>Wp.ret ?_) (fun h8=>Wp.ret (decide_eq_false fun g=>h8 (g.2.2.2.2.2.2.2 u).2.1).symm)
  by_cases ho:e.Owes=true
  ·rw [ho];exact (decide_eq_false fun g=>by have:=(g.2.2.2.2.2.2.2 u).2.2;rw [ho] at this;cases this).symm
  ·have ho:e.Owes=false:=by simpa using ho
   rw [ho];exact (decide_eq_true ⟨h1,h2,h3,h4,h5,h6,h',fun _=>⟨h7,h8,ho⟩⟩).symm
theorem dY (e:aN):Wp (fun k=>dV k e) (· =decide (VEnd e)):=by
  unfold dV
  have F:¬VEnd e→Wp (fun _=>some false) (· =decide (VEnd e)):=fun h=>Wp.ret (decide_eq_false h).symm
  refine Wp.bind (dO _ _ _) (fun _ q=> ?_);subst q
  simp only [inB,aL,b9]
  refine Wp.ite (fun h1=> ?_) (fun h1=>F fun g=>h1 g.1)
  refine Wp.bind (dO _ _ _) (fun _ q=> ?_);subst q
  simp only [inB,aL]
  refine Wp.ite (fun h2=> ?_) (fun h2=>F fun g=>h2 g.2.1)
  refine Wp.bind (dO _ _ _) (fun _ q=> ?_);subst q
  simp only [inB,aL]
  refine Wp.ite (fun h3=> ?_) (fun h3=>F fun g=>h3 g.2.2.1)
  refine Wp.bind (dO _ _ _) (fun _ q=> ?_);subst q
  simp only [inB,aL]
  refine Wp.ite (fun h4=> ?_) (fun h4=>F fun g=>h4 g.2.2.2.1)
  refine Wp.bind (iS _) (fun _ q=> ?_);subst q
  simp only [aL]
  refine Wp.ite (fun h5=> ?_) (fun h5=>F fun g=>h5 g.2.2.2.2.1)
  refine Wp.bind (lU _) (fun _ q=> ?_);subst q
  simp only [aL]
  refine Wp.ite (fun h6=> ?_) (fun h6=>F fun g=>h6 g.2.2.2.2.2.1)
  have T:=an_ e ⟨h1,h2,h3,h4,h5,h6⟩
  simp only [lW] at T⊢
  refine Wp.ite (fun h7=> ?_) (fun h7=>T fun g=>absurd g h7)
  refine Wp.bind (QO _) (fun _ q=> ?_);subst q
  simp only [aL]
  refine Wp.ite (fun h8=> ?_) (fun h8=>F fun g=>h8 (g.2.2.2.2.2.2.1 h7).1)
  refine Wp.bind (QJ _) (fun _ q=> ?_);subst q
  simp only [aL]
  exact Wp.ite (fun h9=>T fun _=>⟨h8,h9⟩) (fun h9=>F fun g=>h9 (g.2.2.2.2.2.2.1 h7).2)
theorem d5 (e:aN):Wp (fun k=>dU k e) (· =decide (VEnd e)):=by
  unfold dU
  have F:¬VEnd e→Wp (fun _=>some false) (· =decide (VEnd e)):=fun h=>Wp.ret (decide_eq_false h).symm
  have M:(1≤e.Number∧e.Number≤2)→Wp (fun k=>(bP k e.Life 1 1000).bind fun r8=>
    bif (!r8) then
      some false
    else
      (bP k e.Peer 0 1000).bind fun r9=>
      bif (!r9) then
        some false
      else
        (bP k e.Since 0 1000000).bind fun r10=>
        bif (!r10) then
          some false
        else
          (cQ k e.Send).bind fun r11=>
          bif (!r11) then
            some false
          else
            (dS k e.Take).bind fun r12=>
            bif (!r12) then
              some false
            else
              bif (e.Peer==0) then
                (tX k e.Send).bind fun r13=>
                bif r13 then
                  (tS k e.Take).bind fun r14=>
                  bif (!r14) then
                    some false
                  else
                    bif e.Up then
                      some true
                    else
                      bif (e.Peer==0) then
                        bif (e.Since==0) then
                          some (!e.Owes)
                        else
                          some false
                      else
                        some false
                else
                  some false
              else
                bif e.Up then
                  some true
                else
                  bif (e.Peer==0) then
                    bif (e.Since==0) then
                      some (!e.Owes)
                    else
                      some false
                  else
                    some false) (· =decide (VEnd e)):=fun h1=>by
    refine Wp.bind (BD _ _ _) (fun _ q=> ?_);subst q
    simp only [inB,aL,b9]
    refine Wp.ite (fun h2=> ?_) (fun h2=>F fun g=>h2 g.2.1)
    refine Wp.bind (BD _ _ _) (fun _ q=> ?_);subst q
    simp only [inB,aL]
    refine Wp.ite (fun h3=> ?_) (fun h3=>F fun g=>h3 g.2.2.1)
    refine Wp.bind (BD _ _ _) (fun _ q=> ?_);subst q
    simp only [inB,aL]
    refine Wp.ite (fun h4=> ?_) (fun h4=>F fun g=>h4 g.2.2.2.1)
    refine Wp.bind (lS _) (fun _ q=> ?_);subst q
    simp only [aL]
    refine Wp.ite (fun h5=> ?_) (fun h5=>F fun g=>h5 g.2.2.2.2.1)
    refine Wp.bind (lT _) (fun _ q=> ?_);subst q
    simp only [aL]
    refine Wp.ite (fun h6=> ?_) (fun h6=>F fun g=>h6 g.2.2.2.2.2.1)
    have T:=an_ e ⟨h1,h2,h3,h4,h5,h6⟩
    simp only [lW] at T⊢
    refine Wp.ite (fun h7=> ?_) (fun h7=>T fun g=>absurd g h7)
    refine Wp.bind (P:=fun r=>r=decide (c0_ e.Send)) (QO _) (fun _ q=> ?_);subst q
    simp only [aL]
    refine Wp.ite (fun h8=> ?_) (fun h8=>F fun g=>h8 (g.2.2.2.2.2.2.1 h7).1)
    refine Wp.bind (P:=fun r=>r=decide (bR_ e.Take)) (QJ _) (fun _ q=> ?_);subst q
    simp only [aL]
    exact Wp.ite (fun h9=>T fun _=>⟨h8,h9⟩) (fun h9=>F fun g=>h9 (g.2.2.2.2.2.2.1 h7).2)
  simp only [AX]
  refine Wp.ite (fun h=>M (by omega)) (fun h=> ?_)
  exact Wp.ite (fun h2=>M (by omega)) (fun h2=>F fun g=>by have:=g.1;omega)
theorem oN (e:aN) (h:VEnd e):Wp (fun k=>gG k e) (· =e):=by
  unfold gG
  obtain ⟨h1,h2⟩:=h.sm
  refine Wp.bind (tC _ h1.1) (fun r q=> ?_);subst q
  refine Wp.bind (B9 _ h2.1.1 h2.2.2.1) (fun r q=> ?_);subst q
  exact Wp.ret rfl
theorem mA (e:aN) (h:VEnd e):Wp (fun k=>gC k e) (· =e):=oN e h
abbrev DA:aN:=⟨0,false,0,0,0,false,wK,A3⟩
theorem ga_:c0_ wK:=⟨rfl,rfl⟩
theorem gc_:bR_ A3:=⟨rfl,rfl,rfl,rfl⟩
def c1_ (n:Int):aN:=if 1≤n∧n≤2 then ⟨n,true,1,0,0,false,wK,A3⟩ else DA
theorem M6 (n:Int):Wp (fun k=>qO k n) (· =c1_ n):=by
  unfold qO c1_
  refine Wp.bind (dO _ _ _) (fun _ q=> ?_);subst q
  simp only [inB,aL,b9]
  exact Wp.ite (fun h1=>Wp.ret (by rw [if_pos h1])) (fun h1=>Wp.ret (by rw [if_neg h1]))
theorem MB (n:Int):Wp (fun k=>qD k n) (· =c1_ n):=by
  unfold qD c1_
  simp only [AX]
  refine Wp.ite (fun h=>Wp.ret (by rw [if_pos (by omega)])) (fun h=> ?_)
  exact Wp.ite (fun h2=>Wp.ret (by rw [if_pos (by omega)])) (fun h2=>Wp.ret (by rw [if_neg (by omega)]))
def N5 (e:aN):aN:=if VEnd e then ⟨e.Number,false,e.Life,0,0,false,wK,A3⟩ else DA
theorem U1 (e:aN):Wp (fun k=>rT k e) (· =N5 e):=by
  unfold rT N5
  refine Wp.bind (dY _) (fun _ q=> ?_);subst q
  simp only [aL,b9]
  exact Wp.ite (fun h1=>Wp.ret (by rw [if_pos h1])) (fun h1=>Wp.ret (by rw [if_neg h1]))
theorem U2 (e:aN):Wp (fun k=>rY k e) (· =N5 e):=by
  unfold rY N5
  refine Wp.bind (d5 _) (fun _ q=> ?_);subst q
  simp only [aL,b9]
  exact Wp.ite (fun h1=>Wp.ret (by rw [if_pos h1])) (fun h1=>Wp.ret (by rw [if_neg h1]))
theorem ea_ (e:aN) (h:VEnd e):VEnd (N5 e):=by
  unfold N5;rw [if_pos h]
  exact ⟨h.1,h.2.1,by simp,by simp,uT,CQ,fun _=>⟨ga_,gc_⟩,fun _=>⟨rfl,rfl,rfl⟩⟩
def OC (e:aN):aN:=if VEnd e then (if e.Up=true then e else if 1000≤e.Life then e else ⟨e.Number,true,e.Life+1,0,0,false,wK,A3⟩) else DA
theorem T5 (e:aN):Wp (fun k=>rV k e) (· =OC e):=by
  unfold rV OC
  refine Wp.bind (dY _) (fun _ q=> ?_);subst q
  simp only [aL,b9]
  refine Wp.ite (fun h1=> ?_) (fun h1=>Wp.ret (by rw [if_neg h1]))
  rw [if_pos h1]
  refine Wp.bif (fun u=> ?_) (fun u=> ?_)
  ·rw [if_pos u];refine Wp.bind (oN e h1) (fun r q=> ?_);rw [q];exact Wp.ret rfl
  ·rw [if_neg (by simp [u])]
   refine Wp.ite (fun h2=> ?_) (fun h2=> ?_)
   ·rw [if_pos (by omega)];refine Wp.bind (oN e h1) (fun r q=> ?_);rw [q];exact Wp.ret rfl
   ·rw [if_neg (by omega)]
    have:=h1.2.1
    rw [bR (by omega) (by omega)];exact Wp.ret rfl
theorem U7 (e:aN):Wp (fun k=>rN k e) (· =OC e):=by
  unfold rN OC
  refine Wp.bind (d5 _) (fun _ q=> ?_);subst q
  simp only [aL,b9,lW]
  refine Wp.ite (fun h1=> ?_) (fun h1=>Wp.ret (by rw [if_neg h1]))
  rw [if_pos h1]
  refine Wp.bif (fun u=> ?_) (fun u=> ?_)
  ·rw [if_pos u];refine Wp.bind (mA e h1) (fun r q=> ?_);rw [q];exact Wp.ret rfl
  ·rw [if_neg (by simp [u])]
   have:=h1.2.1
   refine Wp.ite (fun h2=> ?_) (fun h2=> ?_)
   ·rw [if_pos (by omega)];refine Wp.bind (mA e h1) (fun r q=> ?_);rw [q];exact Wp.ret rfl
   ·rw [if_neg (by omega)]
    rw [bR (by omega) (by omega)];exact Wp.ret rfl
theorem dX_ (e:aN) (h:VEnd e):VEnd (OC e):=by
  unfold OC;rw [if_pos h]
  split
  ·exact h
  ·split
   ·exact h
   ·have:=h.2.1
    exact ⟨h.1,by simp only;omega,by simp,by simp,uT,CQ,fun _=>⟨ga_,gc_⟩,fun g=>by cases g⟩
def nQ (e:aN):aV:=if VEnd e then (if e.Up=true then (if (CT e.Take).2.2=true then ⟨0,⟨e.Number,e.Up,e.Life,e.Peer,e.Since,true,e.Send,(CT e.Take).1⟩,[],(CT e.Take).2.1⟩ else ⟨4,DA,[],noB⟩) else ⟨2,DA,[],noB⟩) else ⟨1,DA,[],noB⟩
theorem EQ (e:aN):Wp (fun k=>oX k e) (· =nQ e):=by
  unfold oX nQ
  refine Wp.bind (dY _) (fun _ q=> ?_);subst q
  simp only [aL,b9]
  refine Wp.ite (fun h1=> ?_) (fun h1=>Wp.ret (by rw [if_neg h1]))
  rw [if_pos h1]
  refine Wp.bif (fun u=> ?_) (fun u=>Wp.ret (by rw [if_neg (by simp [u])]))
  rw [if_pos u]
  refine Wp.bind (UW _) (fun _ q=> ?_);subst q
  refine Wp.bif (fun v=> ?_) (fun v=>Wp.ret (by rw [if_neg (by simp [v])]))
  rw [if_pos v]
  refine Wp.bind (oN e h1) (fun r q=> ?_);rw [q];exact Wp.ret rfl
theorem E4 (e:aN):Wp (fun k=>mE k e) (· =nQ e):=by
  unfold mE nQ
  refine Wp.bind (d5 _) (fun _ q=> ?_);subst q
  simp only [aL,b9]
  refine Wp.ite (fun h1=> ?_) (fun h1=>Wp.ret (by rw [if_neg h1]))
  rw [if_pos h1]
  refine Wp.bif (fun u=> ?_) (fun u=>Wp.ret (by rw [if_neg (by simp [u])]))
  rw [if_pos u]
  refine Wp.bind (T9 _) (fun _ q=> ?_);subst q
  refine Wp.bif (fun v=> ?_) (fun v=>Wp.ret (by rw [if_neg (by simp [v])]))
  rw [if_pos v]
  refine Wp.bind (mA e h1) (fun r q=> ?_);rw [q];exact Wp.ret rfl
def qI (e:aN) (t:ByteArray):aV:=if VEnd e then (if e.Up=true then (if e.Peer=0 then ⟨2,DA,[],noB⟩ else if (A6 e.Send t).2=0 then ⟨0,⟨e.Number,e.Up,e.Life,e.Peer,e.Since,e.Owes,(A6 e.Send t).1,e.Take⟩,[],noB⟩ else ⟨(A6 e.Send t).2,DA,[],noB⟩) else ⟨2,DA,[],noB⟩) else ⟨1,DA,[],noB⟩
theorem EU (e:aN) (t:ByteArray):Wp (fun k=>j0 k e t) (· =qI e t):=by
  unfold j0 qI
  refine Wp.bind (dY _) (fun _ q=> ?_);subst q
  simp only [aL,b9,lW,AX]
  refine Wp.ite (fun h1=> ?_) (fun h1=>Wp.ret (by rw [if_neg h1]))
  rw [if_pos h1]
  refine Wp.bif (fun u=> ?_) (fun u=>Wp.ret (by rw [if_neg (by simp [u])]))
  rw [if_pos u]
  refine Wp.ite (fun h2=>Wp.ret (by rw [if_pos h2])) (fun h2=> ?_)
  rw [if_neg h2]
  refine Wp.bind (JO _ _) (fun _ q=> ?_);subst q
  refine Wp.ite (fun h3=> ?_) (fun h3=>Wp.ret (by rw [if_neg h3]))
  rw [if_pos h3]
  refine Wp.bind (oN e h1) (fun r q=> ?_);rw [q];exact Wp.ret rfl
theorem ED (e:aN) (t:ByteArray):Wp (fun k=>fV k e t) (· =qI e t):=by
  unfold fV qI
  refine Wp.bind (d5 _) (fun _ q=> ?_);subst q
  simp only [aL,b9,lW,AX]
  refine Wp.ite (fun h1=> ?_) (fun h1=>Wp.ret (by rw [if_neg h1]))
  rw [if_pos h1]
  refine Wp.bif (fun u=> ?_) (fun u=>Wp.ret (by rw [if_neg (by simp [u])]))
  rw [if_pos u]
  refine Wp.ite (fun h2=>Wp.ret (by rw [if_pos h2])) (fun h2=> ?_)
  rw [if_neg h2]
  refine Wp.bind (VT _ _) (fun _ q=> ?_);subst q
  refine Wp.ite (fun h3=> ?_) (fun h3=>Wp.ret (by rw [if_neg h3]))
  rw [if_pos h3]
  refine Wp.bind (mA e h1) (fun r q=> ?_);rw [q];exact Wp.ret rfl
theorem HW:∀(t:List aI) (i:Nat) (b:Int),∀q∈(oM i b t).2,b+i≤q∧q<b+i+t.length
  | [],i,b,q,h=>by simp [oM] at h
  | x::t,i,b,q,h=>by
    simp only [oM] at h
    split at h
    ·simp at h
    ·simp only [List.length_cons]
     rcases List.mem_append.mp h with h | h
     ·split at h
      ·simp only [List.mem_singleton] at h;omega
      ·simp at h
     ·have:=HW t (i+1) b q h
      omega
def MD (l:List aI) (i:Int):bV:=match l[i.toNat]? with | some x=>x.Part | none=>⟨noB,false⟩
def FB (n li p b:Int) (l:List aI) (q:Int):aE:=⟨2,n,li,p,0,0,q,(MD l (q-b)).Last,(MD l (q-b)).Text⟩
def lV (e:aN):aK×List Int:=if e.Peer=0 then (e.Send,[]) else AC e.Send
def upS (e:aN):Int:=if e.Since<1000000 then e.Since+1 else e.Since
def rE (e:aN):aV:=if VEnd e then
    (if e.Up=true then
      (if e.Owes=true∨6≤upS e then ⟨0,⟨e.Number,e.Up,e.Life,e.Peer,0,false,(lV e).1,e.Take⟩,(lV e).2.map (FB e.Number e.Life e.Peer (lV e).1.Base (lV e).1.Items)++[⟨1,e.Number,e.Life,e.Peer,(tkM e.Take).1,(tkM e.Take).2,0,false,noB⟩],noB⟩
      else ⟨0,⟨e.Number,e.Up,e.Life,e.Peer,upS e,e.Owes,(lV e).1,e.Take⟩,(lV e).2.map (FB e.Number e.Life e.Peer (lV e).1.Base (lV e).1.Items),noB⟩)
    else ⟨0,e,[],noB⟩) else ⟨1,DA,[],noB⟩
theorem PQ (x0 x1:Int) (x2:Bool) (x3 x4 x5:Int) (x6:Bool) (x7 x8:Int) (x9 x10:ByteArray) (n:Int) (u:Bool) (li p s:Int) (w:Bool) (b nn:Int) (o:ByteArray) (out:List aE) (y1:List aI) (y2:List aP) (y3:List ByteArray) (y4:List aE) (it:List aI) (h:List aP) (r:List ByteArray) (ho:out.length≤1000):
    Wp (fun k=>iV k x0 x1 x2 x3 x4 x5 x6 x7 x8 x9 x10 n u li p s w b nn o out y1 y2 y3 y4 it h r) (· =if w=true∨6≤s then ⟨0,⟨n,u,li,p,0,false,⟨b,it⟩,⟨nn,h,o,r⟩⟩,out++[⟨1,n,li,p,(tkM ⟨nn,h,o,r⟩).1,(tkM ⟨nn,h,o,r⟩).2,0,false,noB⟩],noB⟩ else ⟨0,⟨n,u,li,p,s,w,⟨b,it⟩,⟨nn,h,o,r⟩⟩,out,noB⟩):=by
  refine Wp.step ?_
  simp only [iV]
  have G:w=true∨6≤s→Wp (fun k=>(kP k ⟨nn,h,o,r⟩).bind fun r8=>(app 80 out ([(⟨1,n,li,p,r8.1,r8.2,0,false,(⟨#[]⟩:ByteArray)⟩:aE)]:List aE)).bind fun l9=>
   eC k x0 x1 x2 x3 x4 x5 x6 x7 x8 x9 x10 n u li p 0 false b nn o l9 y1 y2 y3 y4 it h r) (· =if w=true∨6≤s then ⟨0,⟨n,u,li,p,0,false,⟨b,it⟩,⟨nn,h,o,r⟩⟩,out++[⟨1,n,li,p,(tkM ⟨nn,h,o,r⟩).1,(tkM ⟨nn,h,o,r⟩).2,0,false,noB⟩],noB⟩ else ⟨0,⟨n,u,li,p,s,w,⟨b,it⟩,⟨nn,h,o,r⟩⟩,out,noB⟩):=fun g=>by
    rw [if_pos g]
    refine Wp.bind (JU _) (fun _ q=> ?_);subst q
    refine Wp.opt (bI (by simp;omega)) ?_
    refine Wp.step ?_
    simp only [eC]
    exact Wp.ret rfl
  refine Wp.bif (fun g=>G (.inl g)) (fun g=> ?_)
  simp only [aL]
  refine Wp.ite (fun g2=>G (.inr g2)) (fun g2=> ?_)
  rw [if_neg (by rw [g];intro h;rcases h with h | h;cases h;omega)]
  refine Wp.step ?_
  simp only [eC]
  exact Wp.ret (by rw [g])
theorem QI (x0 x1:Int) (x2:Bool) (x3 x4 x5:Int) (x6:Bool) (x7 x8:Int) (x9 x10:ByteArray) (n:Int) (u:Bool) (li p s:Int) (w:Bool) (b c nn:Int) (o:ByteArray) (y1:List aI) (y2:List aP) (y3:List ByteArray) (y4:List aE) (it:List aI) (h:List aP) (r:List ByteArray) (hit:it.length≤60) (hb:0≤b∧b≤1000000):∀(t pre:List Int) (out:List aE),(pre++t).length≤60→out.length≤pre.length→(∀q∈t,b≤q∧q<b+it.length)→
    Wp (fun k=>fP k (pre.length:Int) x0 x1 x2 x3 x4 x5 x6 x7 x8 x9 x10 n u li p s w c nn o out b (pre++t) y1 y2 y3 y4 it h r) (· =if w=true∨6≤s then ⟨0,⟨n,u,li,p,0,false,⟨c,it⟩,⟨nn,h,o,r⟩⟩,(out++t.map (FB n li p b it))++[⟨1,n,li,p,(tkM ⟨nn,h,o,r⟩).1,(tkM ⟨nn,h,o,r⟩).2,0,false,noB⟩],noB⟩ else ⟨0,⟨n,u,li,p,s,w,⟨c,it⟩,⟨nn,h,o,r⟩⟩,out++t.map (FB n li p b it),noB⟩)
  | [],pre,out,hl,ho,hq=>by
    refine Wp.step ?_
    simp only [fP,List.append_nil,List.map_nil] at*
    simp (disch:=omega) only [aL,if_neg]
    exact PQ _ _ _ _ _ _ _ _ _ _ _ _ _ _ _ _ _ _ _ _ _ _ _ _ _ _ _ _ (by omega)
  | q::t,pre,out,hl,ho,hq=>by
    refine Wp.step ?_
    have hl':=hl
    simp only [List.length_append,List.length_cons] at hl
    have hq1:=hq q (List.mem_cons_self ..)
    simp only [fP]
    simp only [aL,hP,if_true,bJ,jQ,Option.bind_some]
    rw [bR (n:=q-b) (by omega) (by omega)]
    have hlt:(q-b).toNat<it.length:=by omega
    have e1:idx it (q-b)=some it[(q-b).toNat]:=by
      have:=SK hlt
      rwa [Int.toNat_of_nonneg (by omega)] at this
    have e2:it[(q-b).toNat]? =some it[(q-b).toNat]:=List.getElem?_eq_getElem hlt
    have e3:MD it (q-b)=it[(q-b).toNat].Part:=by unfold MD;rw [e2]
    simp only [e1,e2,Option.bind_some]
    rw [←e3]
    refine Wp.opt (bI (by simp;omega)) ?_
    simp (disch:=omega) only [bR]
    have ih:=QI x0 x1 x2 x3 x4 x5 x6 x7 x8 x9 x10 n u li p s w b c nn o y1 y2 y3 y4 it h r hit hb t (pre++[q]) (out++[FB n li p b it q]) (by simpa using hl') (by simp;omega) (fun q' h'=>hq q' (List.mem_cons_of_mem _ h'))
    rw [←cK,←bS] at ih
    simp only [List.append_assoc,List.cons_append,List.nil_append] at ih
    simp only [List.map_cons,List.append_assoc,List.cons_append]
    exact ih
theorem SL (x0 x1:Int) (x2:Bool) (x3 x4 x5:Int) (x6:Bool) (x7 x8:Int) (x9 x10:ByteArray) (cd n:Int) (u:Bool) (li p s:Int) (w:Bool) (b nn:Int) (o tx:ByteArray) (out:List aE) (y1:List aI) (y2:List aP) (y3:List ByteArray) (y4:List aE) (it:List aI) (h:List aP) (r:List ByteArray) (ho:out.length≤1000):
    Wp (fun k=>iR k x0 x1 x2 x3 x4 x5 x6 x7 x8 x9 x10 cd n u li p s w b nn o tx y1 y2 y3 y4 it h r out) (· =if w=true∨6≤s then ⟨cd,⟨n,u,li,p,0,false,⟨b,it⟩,⟨nn,h,o,r⟩⟩,out++[⟨1,n,li,p,(tkM ⟨nn,h,o,r⟩).1,(tkM ⟨nn,h,o,r⟩).2,0,false,noB⟩],tx⟩ else ⟨cd,⟨n,u,li,p,s,w,⟨b,it⟩,⟨nn,h,o,r⟩⟩,out,tx⟩):=by
  refine Wp.step ?_
  simp only [iR]
  have G:w=true∨6≤s→Wp (fun k=>(kF k ⟨nn,h,o,r⟩).bind fun r8=>(app 80 out ([(⟨1,n,li,p,r8.1,r8.2,0,false,(⟨#[]⟩:ByteArray)⟩:aE)]:List aE)).bind fun l9=>
   eM k x0 x1 x2 x3 x4 x5 x6 x7 x8 x9 x10 cd n u li p 0 false b nn o tx y1 y2 y3 y4 it h r l9) (· =if w=true∨6≤s then ⟨cd,⟨n,u,li,p,0,false,⟨b,it⟩,⟨nn,h,o,r⟩⟩,out++[⟨1,n,li,p,(tkM ⟨nn,h,o,r⟩).1,(tkM ⟨nn,h,o,r⟩).2,0,false,noB⟩],tx⟩ else ⟨cd,⟨n,u,li,p,s,w,⟨b,it⟩,⟨nn,h,o,r⟩⟩,out,tx⟩):=fun g=>by
    rw [if_pos g]
    refine Wp.bind (I2 _) (fun _ q=> ?_);subst q
    refine Wp.opt (bI (by simp;omega)) ?_
    refine Wp.step ?_
    simp only [eM]
    exact Wp.ret rfl
  refine Wp.bif (fun g=>G (.inl g)) (fun g=> ?_)
  simp only [aL]
  refine Wp.ite (fun g2=>G (.inr g2)) (fun g2=> ?_)
  rw [if_neg (by rw [g];intro h;rcases h with h | h;cases h;omega)]
  refine Wp.step ?_
  simp only [eM]
  exact Wp.ret (by rw [g])
theorem S6 (x0 x1:Int) (x2:Bool) (x3 x4 x5:Int) (x6:Bool) (x7 x8:Int) (x9 x10:ByteArray) (cd n:Int) (u:Bool) (li p s:Int) (w:Bool) (b nn:Int) (o tx:ByteArray) (y1:List aI) (y2:List aP) (y3:List ByteArray) (y4:List aE) (it:List aI) (h:List aP) (r:List ByteArray) (hit:it.length≤60) (hb:0≤b∧b≤1000000):∀(t pre:List Int) (out:List aE),(pre++t).length≤60→out.length≤pre.length→(∀q∈t,b≤q∧q<b+it.length)→
    Wp (fun k=>fI k ((pre++t).length:Int) (pre.length:Int) x0 x1 x2 x3 x4 x5 x6 x7 x8 x9 x10 cd n u li p s w b nn o tx (pre++t) y1 y2 y3 y4 it h r out) (· =if w=true∨6≤s then ⟨cd,⟨n,u,li,p,0,false,⟨b,it⟩,⟨nn,h,o,r⟩⟩,(out++t.map (FB n li p b it))++[⟨1,n,li,p,(tkM ⟨nn,h,o,r⟩).1,(tkM ⟨nn,h,o,r⟩).2,0,false,noB⟩],tx⟩ else ⟨cd,⟨n,u,li,p,s,w,⟨b,it⟩,⟨nn,h,o,r⟩⟩,out++t.map (FB n li p b it),tx⟩)
  | [],pre,out,hl,ho,hq=>by
    refine Wp.step ?_
    simp only [fI,List.append_nil,List.map_nil] at*
    simp (disch:=omega) only [aL,if_neg]
    exact SL _ _ _ _ _ _ _ _ _ _ _ _ _ _ _ _ _ _ _ _ _ _ _ _ _ _ _ _ _ _ (by omega)
  | q::t,pre,out,hl,ho,hq=>by
    refine Wp.step ?_
    have hl':=hl
    simp only [List.length_append,List.length_cons] at hl
    have hq1:=hq q (List.mem_cons_self ..)
    simp only [fI]
    simp only [aL,hP,if_true,bJ,jQ,Option.bind_some]
    rw [bR (n:=q-b) (by omega) (by omega)]
    have hlt:(q-b).toNat<it.length:=by omega
    have e1:idx it (q-b)=some it[(q-b).toNat]:=by
      have:=SK hlt
      rwa [Int.toNat_of_nonneg (by omega)] at this
    have e2:it[(q-b).toNat]? =some it[(q-b).toNat]:=List.getElem?_eq_getElem hlt
    have e3:MD it (q-b)=it[(q-b).toNat].Part:=by unfold MD;rw [e2]
    simp only [e1,e2,Option.bind_some]
    rw [←e3]
    refine Wp.opt (bI (by simp;omega)) ?_
    simp (disch:=omega) only [bR]
    have ih:=S6 x0 x1 x2 x3 x4 x5 x6 x7 x8 x9 x10 cd n u li p s w b nn o tx y1 y2 y3 y4 it h r hit hb t (pre++[q]) (out++[FB n li p b it q]) (by simpa using hl') (by simp;omega) (fun q' h'=>hq q' (List.mem_cons_of_mem _ h'))
    rw [←cK,←bS] at ih
    simp only [List.append_assoc,List.cons_append,List.nil_append] at ih
    simp only [List.map_cons,List.append_assoc,List.cons_append]
    exact ih
theorem KO (s:aK) (h:VSend s):∀q∈(AC s).2,(AC s).1.Base≤q∧q<(AC s).1.Base+(AC s).1.Items.length:=by
  unfold AC
  rw [if_pos h]
  intro q hq
  have:=HW s.Items 0 s.Base q hq
  have e:=(OJ s.Items 0 s.Base h.2.2.2).2.1
  simp only
  rw [e];omega
theorem EG (e:aN):Wp (fun k=>rZ k e) (· =rE e):=by
  unfold rZ rE
  refine Wp.bind (dY _) (fun _ q=> ?_);subst q
  simp only [aL,b9]
  refine Wp.ite (fun h1=> ?_) (fun h1=>Wp.ret (by rw [if_neg h1]))
  rw [if_pos h1]
  refine Wp.bind (oN e h1) (fun r q=> ?_);rw [q]
  refine Wp.bif (fun u=> ?_) (fun u=>Wp.ret (by rw [if_neg (by simp [u])]))
  rw [if_pos u]
  have hS:=h1.2.2.2.1
  have M:∀s:Int,s=upS e→Wp (fun k=>jW k 0 0 false 0 0 0 false 0 0 (⟨#[]⟩:ByteArray) (⟨#[]⟩:ByteArray) e.Number e.Up e.Life e.Peer s e.Owes e.Send.Base e.Take.Next e.Take.Open ([]:List aE) ([]:List aI) ([]:List aP) ([]:List ByteArray) ([]:List aE) e.Send.Items e.Take.Held e.Take.Ready) (· =if e.Owes=true∨6≤upS e then ⟨0,⟨e.Number,e.Up,e.Life,e.Peer,0,false,(lV e).1,e.Take⟩,(lV e).2.map (FB e.Number e.Life e.Peer (lV e).1.Base (lV e).1.Items)++[⟨1,e.Number,e.Life,e.Peer,(tkM e.Take).1,(tkM e.Take).2,0,false,noB⟩],noB⟩
   else ⟨0,⟨e.Number,e.Up,e.Life,e.Peer,upS e,e.Owes,(lV e).1,e.Take⟩,(lV e).2.map (FB e.Number e.Life e.Peer (lV e).1.Base (lV e).1.Items),noB⟩):=fun s hs=>by
    subst hs
    refine Wp.step ?_
    simp only [jW,AX]
    unfold lV
    refine Wp.ite (fun h2=> ?_) (fun h2=> ?_)
    ·rw [if_pos h2]
     exact PQ _ _ _ _ _ _ _ _ _ _ _ _ _ _ _ _ _ _ _ _ _ _ _ _ _ _ _ _ (by simp)
    ·rw [if_neg h2]
     refine Wp.bind (I4 _) (fun _ q=> ?_);subst q
     obtain ⟨v1,v2⟩:=GC e.Send
     exact QI _ _ _ _ _ _ _ _ _ _ _ _ _ _ _ _ _ _ _ _ _ _ _ _ _ _ _ _ v1.1 v1.2.1 (AC e.Send).2 [] [] (by simpa using v2) (by simp) (KO e.Send h1.2.2.2.2.1)
  refine Wp.ite (fun h2=>M _ ?_) (fun h2=>M _ ?_)
  ·rw [bR (by omega) (by omega)];unfold upS;rw [if_pos h2]
  ·unfold upS;rw [if_neg h2]
theorem EH (e:aN):Wp (fun k=>rS k e) (· =rE e):=by
  unfold rS rE
  refine Wp.bind (d5 _) (fun _ q=> ?_);subst q
  simp only [aL,b9]
  refine Wp.ite (fun h1=> ?_) (fun h1=>Wp.ret (by rw [if_neg h1]))
  rw [if_pos h1]
  refine Wp.bind (mA e h1) (fun r q=> ?_);rw [q]
  refine Wp.bif (fun u=> ?_) (fun u=>Wp.ret (by rw [if_neg (by simp [u])]))
  rw [if_pos u]
  have hS:=h1.2.2.2.1
  have M:∀s:Int,s=upS e→Wp (fun k=>jZ k 0 0 false 0 0 0 false 0 0 (⟨#[]⟩:ByteArray) (⟨#[]⟩:ByteArray) 0 e.Number e.Up e.Life e.Peer s e.Owes e.Send.Base e.Take.Next e.Take.Open (⟨#[]⟩:ByteArray) ([]:List aI) ([]:List aP) ([]:List ByteArray) ([]:List aE) e.Send.Items e.Take.Held e.Take.Ready ([]:List aE)) (· =if e.Owes=true∨6≤upS e then ⟨0,⟨e.Number,e.Up,e.Life,e.Peer,0,false,(lV e).1,e.Take⟩,(lV e).2.map (FB e.Number e.Life e.Peer (lV e).1.Base (lV e).1.Items)++[⟨1,e.Number,e.Life,e.Peer,(tkM e.Take).1,(tkM e.Take).2,0,false,noB⟩],noB⟩
   else ⟨0,⟨e.Number,e.Up,e.Life,e.Peer,upS e,e.Owes,(lV e).1,e.Take⟩,(lV e).2.map (FB e.Number e.Life e.Peer (lV e).1.Base (lV e).1.Items),noB⟩):=fun s hs=>by
    subst hs
    refine Wp.step ?_
    simp only [jZ,AX]
    unfold lV
    refine Wp.ite (fun h2=> ?_) (fun h2=> ?_)
    ·rw [if_pos h2]
     exact SL _ _ _ _ _ _ _ _ _ _ _ _ _ _ _ _ _ _ _ _ _ _ _ _ _ _ _ _ _ _ (by simp)
    ·rw [if_neg h2]
     refine Wp.bind (UP _) (fun _ q=> ?_);subst q
     obtain ⟨v1,v2⟩:=GC e.Send
     exact S6 _ _ _ _ _ _ _ _ _ _ _ _ _ _ _ _ _ _ _ _ _ _ _ _ _ _ _ _ _ v1.1 v1.2.1 (AC e.Send).2 [] [] (by simpa using v2) (by simp) (KO e.Send h1.2.2.2.2.1)
  refine Wp.ite (fun h2=>M _ ?_) (fun h2=>M _ ?_)
  ·rw [bR (by omega) (by omega)];unfold upS;rw [if_pos h2]
  ·unfold upS;rw [if_neg h2]
theorem ag_ (e:aN) (h:VEnd e):VSend (lV e).1∧(lV e).2.length≤60:=by
  unfold lV;split
  ·exact ⟨h.2.2.2.2.1,by simp⟩
  ·exact GC _
def el_ (r:aA):Prop:=(1≤r.From∧r.From≤2)∧(1≤r.A∧r.A≤1000)∧(1≤r.B∧r.B≤1000)∧r.Text.size≤200
instance (r:aA):Decidable (el_ r):=by unfold el_;infer_instance
def oZ (l:List aA):Prop:=∀r∈l,el_ r
instance (l:List aA):Decidable (oZ l):=by unfold oZ;infer_instance
def ZP (p:aD):Prop:=(1≤p.To∧p.To≤2)∧p.Sent.size≤100∧p.Bytes.size≤100
instance (p:aD):Decidable (ZP p):=by unfold ZP;infer_instance
def vD (l:List aD):Prop:=∀p∈l,ZP p
instance (l:List aD):Decidable (vD l):=by unfold vD;infer_instance
def FZ:List aN→Prop
  | [a,b]=>(VEnd a∧a.Number=1)∧(VEnd b∧b.Number=2)
  | _=>False
instance:(l:List aN)→Decidable (FZ l)
  | [a,b]=>by unfold FZ;infer_instance
  | []=> .isFalse id
  | [_]=> .isFalse id
  | _::_::_::_=> .isFalse id
def aQ (w:aC):Prop:=(1≤w.Width∧w.Width≤8)∧w.Key.size≤30∧w.Flight.length≤1000∧w.Given.length+w.Taken.length≤400∧FZ w.Ends∧vD w.Flight∧oZ w.Given∧oZ w.Taken
instance (w:aC):Decidable (aQ w):=by unfold aQ;infer_instance
theorem QH:∀{l:List aN},FZ l→l.length=2
  | [a,b],_=>rfl
theorem all_cons {α:Type} {P:α→Prop} {x:α} {t:List α}:(∀y∈x::t,P y)↔P x∧∀y∈t,P y:=by simp
theorem QN:∀(t pre:List aA),(pre++t).length≤1000→Wp (fun k=>dQ k (pre++t) (pre.length:Int)) (· =decide (oZ t))
  | [],pre,hl=>by
    refine Wp.step ?_
    simp only [dQ,List.append_nil]
    simp (disch:=omega) only [aL,if_neg]
    exact Wp.ret (decide_eq_true fun x hx=>by simp at hx).symm
  | x::t,pre,hl=>by
    refine Wp.step ?_
    have hl':=hl
    simp only [List.length_append,List.length_cons] at hl
    simp only [dQ]
    simp only [aL,hP,if_true,bJ,Option.bind_some,b9]
    have F:¬el_ x→Wp (fun _=>some false) (· =decide (oZ (x::t))):=fun h=>Wp.ret (decide_eq_false fun g=>h (g x (List.mem_cons_self ..))).symm
    refine Wp.bind (dO _ _ _) (fun _ q=> ?_);subst q
    simp only [inB,aL]
    refine Wp.ite (fun h1=> ?_) (fun h1=>F fun g=>h1 g.1)
    refine Wp.bind (dO _ _ _) (fun _ q=> ?_);subst q
    simp only [inB,aL]
    refine Wp.ite (fun h2=> ?_) (fun h2=>F fun g=>h2 g.2.1)
    refine Wp.bind (dO _ _ _) (fun _ q=> ?_);subst q
    simp only [inB,aL]
    refine Wp.ite (fun h3=> ?_) (fun h3=>F fun g=>h3 g.2.2.1)
    refine Wp.ite (fun h4=>F fun g=>by have:=g.2.2.2;omega) (fun h4=> ?_)
    simp (disch:=omega) only [bR]
    have ih:=QN t (pre++[x]) (by simpa using hl')
    rw [←cK,←bS] at ih
    refine ih.mono fun v hv=> ?_
    rw [hv,decide_eq_decide]
    exact ⟨fun g=>all_cons.mpr ⟨⟨h1,h2,h3,by omega⟩,g⟩,fun g=>(all_cons.mp g).2⟩
theorem I7 (l:List aA) (h:l.length≤1000):Wp (fun k=>lP k l) (· =decide (oZ l)):=QN l [] (by simpa using h)
theorem WW (kk:ByteArray) (wd:Int) (es:List aN) (fo:ByteArray) (gi ta:List aA) (hg:gi.length≤1000) (ht:ta.length≤1000):∀(t pre:List aD),(pre++t).length≤1000→
    Wp (fun k=>d6 k (pre.length:Int) kk wd es (pre++t) fo gi ta) (· =decide (vD t∧oZ gi∧oZ ta))
  | [],pre,hl=>by
    refine Wp.step ?_
    simp only [d6,List.append_nil]
    simp (disch:=omega) only [aL,if_neg]
    refine Wp.bind (I7 gi hg) (fun _ q=> ?_);subst q
    simp only [aL]
    refine Wp.ite (fun h1=> ?_) (fun h1=>Wp.ret (decide_eq_false fun g=>h1 g.2.1).symm)
    refine Wp.bind (I7 ta ht) (fun _ q=> ?_);subst q
    refine Wp.ret ?_
    rw [decide_eq_decide]
    exact ⟨fun g=>⟨fun x hx=>by simp at hx,h1,g⟩,fun g=>g.2.2⟩
  | x::t,pre,hl=>by
    refine Wp.step ?_
    have hl':=hl
    simp only [List.length_append,List.length_cons] at hl
    simp only [d6]
    simp only [aL,hP,if_true,bJ,Option.bind_some,b9]
    have F:¬ZP x→Wp (fun _=>some false) (· =decide (vD (x::t)∧oZ gi∧oZ ta)):=fun h=>Wp.ret (decide_eq_false fun g=>h (g.1 x (List.mem_cons_self ..))).symm
    refine Wp.bind (dO _ _ _) (fun _ q=> ?_);subst q
    simp only [inB,aL]
    refine Wp.ite (fun h1=> ?_) (fun h1=>F fun g=>h1 g.1)
    refine Wp.ite (fun h2=>F fun g=>by have:=g.2.1;omega) (fun h2=> ?_)
    refine Wp.ite (fun h3=>F fun g=>by have:=g.2.2;omega) (fun h3=> ?_)
    simp (disch:=omega) only [bR]
    have ih:=WW kk wd es fo gi ta hg ht t (pre++[x]) (by simpa using hl')
    rw [←cK,←bS] at ih
    refine ih.mono fun v hv=> ?_
    rw [hv,decide_eq_decide]
    exact ⟨fun g=>⟨all_cons.mpr ⟨⟨h1,by omega,by omega⟩,g.1⟩,g.2⟩,fun g=>⟨(all_cons.mp g.1).2,g.2⟩⟩
theorem kJ (w:aC) (hb:w.Given.length≤1048576∧w.Taken.length≤1048576):Wp (fun k=>eW k w) (· =decide (aQ w)):=by
  unfold eW
  have F:¬aQ w→Wp (fun _=>some false) (· =decide (aQ w)):=fun h=>Wp.ret (decide_eq_false h).symm
  refine Wp.bind (dO _ _ _) (fun _ q=> ?_);subst q
  simp only [inB,aL,b9,AX]
  refine Wp.ite (fun h1=> ?_) (fun h1=>F fun g=>h1 g.1)
  refine Wp.ite (fun h2=>F fun g=>by have:=g.2.1;omega) (fun h2=> ?_)
  refine Wp.ite (fun h3=> ?_) (fun h3=>F fun g=>by have:=QH g.2.2.2.2.1;omega)
  refine Wp.ite (fun h4=>F fun g=>by have:=g.2.2.1;omega) (fun h4=> ?_)
  simp (disch:=omega) only [bR]
  refine Wp.ite (fun h5=>F fun g=>by have:=g.2.2.2.1;omega) (fun h5=> ?_)
  obtain ⟨ky,wd,es,fl,fo,gi,ta⟩:=w
  match es,h3 with
  | [a,b],_=>
    refine Wp.step ?_
    have e0:idx [a,b] 0=some a:=rfl
    have e1:idx [a,b] 1=some b:=rfl
    have w1:IntKind.wrap .i64 (0+1)=1:=bR (by omega) (by omega)
    have w2:IntKind.wrap .i64 (1+1)=2:=bR (by omega) (by omega)
    have d0:(0:Int)<2:=by omega
    have d1:(1:Int)<2:=by omega
    have d2:¬(2:Int)<2:=by omega
    simp only [d8,e0,w1,aL,Option.bind_some,if_pos d0,AX]
    refine Wp.bind (dY _) (fun _ q=> ?_);subst q
    simp only [aL,b9]
    refine Wp.ite (fun h6=> ?_) (fun h6=>F fun g=>h6 g.2.2.2.2.1.1.1)
    refine Wp.ite (fun h7=> ?_) (fun h7=>F fun g=>h7 g.2.2.2.2.1.1.2)
    refine Wp.step ?_
    simp only [d8,e1,w2,aL,Option.bind_some,if_pos d1,AX]
    refine Wp.bind (dY _) (fun _ q=> ?_);subst q
    simp only [aL,b9]
    refine Wp.ite (fun h8=> ?_) (fun h8=>F fun g=>h8 g.2.2.2.2.1.2.1)
    refine Wp.ite (fun h9=> ?_) (fun h9=>F fun g=>h9 g.2.2.2.2.1.2.2)
    refine Wp.step ?_
    simp only [d8,aL,if_neg d2]
    simp only at h2 h4 h5 hb
    refine Wp.mono (WW ky wd [a,b] fo gi ta (by omega) (by omega) fl [] (by show fl.length≤1000;omega)) fun v hv=> ?_
    rw [hv,decide_eq_decide]
    exact ⟨fun g=>⟨h1,by simp only;omega,by simp only;omega,by simp only;omega,⟨⟨h6,h7⟩,⟨h8,h9⟩⟩,g⟩,fun g=>g.2.2.2.2.2⟩
theorem J0 (n j:Int) (xx:List (List aA)) (R:Prop) [Decidable R] (hR:Wp (fun k=>cE k n (IntKind.wrap .i64 (j+1)) xx) (· =decide R)):∀(t pre:List aA),(pre++t).length≤1000→
    Wp (fun k=>cC k n j (pre++t) ((pre++t).length:Int) (pre.length:Int) xx) (· =decide (oZ t∧R))
  | [],pre,hl=>by
    refine Wp.step ?_
    simp only [cC,List.append_nil]
    simp (disch:=omega) only [aL,if_neg]
    refine hR.mono fun v hv=> ?_
    rw [hv,decide_eq_decide]
    exact ⟨fun g=>⟨fun x hx=>by simp at hx,g⟩,fun g=>g.2⟩
  | x::t,pre,hl=>by
    refine Wp.step ?_
    have hl':=hl
    simp only [List.length_append,List.length_cons] at hl
    simp only [cC]
    simp only [aL,hP,if_true,bJ,Option.bind_some,b9,AX]
    simp (disch:=omega) only [bR]
    have F:¬el_ x→Wp (fun _=>some false) (· =decide (oZ (x::t)∧R)):=fun h=>Wp.ret (decide_eq_false fun g=>h (g.1 x (List.mem_cons_self ..))).symm
    have ih:=J0 n j xx R hR t (pre++[x]) (by simpa using hl')
    rw [←cK,←bS] at ih
    have M:(1≤x.From∧x.From≤2)→Wp (fun k=>(bP k x.A 1 1000).bind fun r8=>
     bif r8 then (bP k x.B 1 1000).bind fun r9=>bif r9 then (if (x.Text.size:Int)>200 then some false else cC k n j (pre++x::t) ((pre++x::t).length:Int) ((pre.length:Int)+1) xx) else some false else some false) (· =decide (oZ (x::t)∧R)):=fun h1=>by
      refine Wp.bind (BD _ _ _) (fun _ q=> ?_);subst q
      simp only [inB,aL]
      refine Wp.ite (fun h2=> ?_) (fun h2=>F fun g=>h2 g.2.1)
      refine Wp.bind (BD _ _ _) (fun _ q=> ?_);subst q
      simp only [inB,aL]
      refine Wp.ite (fun h3=> ?_) (fun h3=>F fun g=>h3 g.2.2.1)
      refine Wp.ite (fun h4=>F fun g=>by have:=g.2.2.2;omega) (fun h4=> ?_)
      refine ih.mono fun v hv=> ?_
      rw [hv,decide_eq_decide]
      exact ⟨fun g=>⟨all_cons.mpr ⟨⟨h1,h2,h3,by omega⟩,g.1⟩,g.2⟩,fun g=>⟨(all_cons.mp g.1).2,g.2⟩⟩
    refine Wp.ite (fun h=>M (by omega)) (fun h=> ?_)
    exact Wp.ite (fun h2=>M (by omega)) (fun h2=>F fun g=>by have:=g.1;omega)
theorem YN (gi ta:List aA) (hg:gi.length≤1000) (ht:ta.length≤1000):Wp (fun k=>cE k (([gi,ta]:List (List aA)).length:Int) 0 [gi,ta]) (· =decide (oZ gi∧oZ ta)):=by
  have e0:idx [gi,ta] 0=some gi:=rfl
  have e1:idx [gi,ta] 1=some ta:=rfl
  have w1:IntKind.wrap .i64 (0+1)=1:=bR (by omega) (by omega)
  have w2:IntKind.wrap .i64 (1+1)=2:=bR (by omega) (by omega)
  have d0:(0:Int)<2:=by omega
  have d1:(1:Int)<2:=by omega
  have d2:¬(2:Int)<2:=by omega
  have l2:(([gi,ta]:List (List aA)).length:Int)=2:=rfl
  rw [l2]
  have g0:[gi,ta][Int.toNat 0]? =some gi:=rfl
  have g1:[gi,ta][Int.toNat 1]? =some ta:=rfl
  refine Wp.step ?_
  simp only [cE,e0,g0,aL,if_pos d0,Option.bind_some]
  refine J0 2 0 [gi,ta] (oZ ta) ?_ gi [] (by simpa using hg)
  rw [w1]
  refine Wp.step ?_
  simp only [cE,e1,g1,aL,if_pos d1,Option.bind_some]
  refine (J0 2 1 [gi,ta] True ?_ ta [] (by simpa using ht)).mono fun v hv=> ?_
  ·rw [w2]
   refine Wp.step ?_
   simp only [cE,aL,if_neg d2]
   exact Wp.ret rfl
  ·rw [hv,decide_eq_decide];exact ⟨fun g=>g.1,fun g=>⟨g,trivial⟩⟩
theorem XN (kk:ByteArray) (wd:Int) (es:List aN) (ff:List aD) (fo:ByteArray) (gi ta:List aA) (hg:gi.length≤1000) (ht:ta.length≤1000):∀(t pre:List aD),(pre++t).length≤1000→
    Wp (fun k=>cB k (pre++t) ((pre++t).length:Int) (pre.length:Int) kk wd es ff fo gi ta) (· =decide (vD t∧oZ gi∧oZ ta))
  | [],pre,hl=>by
    refine Wp.step ?_
    simp only [cB,List.append_nil]
    have hn:¬(pre.length:Int)<(pre.length:Int):=by omega
    simp only [aL,if_neg hn]
    refine (YN gi ta hg ht).mono fun v hv=> ?_
    rw [hv,decide_eq_decide]
    exact ⟨fun g=>⟨fun x hx=>by simp at hx,g⟩,fun g=>g.2⟩
  | x::t,pre,hl=>by
    refine Wp.step ?_
    have hl':=hl
    simp only [List.length_append,List.length_cons] at hl
    simp only [cB]
    simp only [aL,hP,if_true,bJ,Option.bind_some,b9,AX]
    simp (disch:=omega) only [bR]
    have F:¬ZP x→Wp (fun _=>some false) (· =decide (vD (x::t)∧oZ gi∧oZ ta)):=fun h=>Wp.ret (decide_eq_false fun g=>h (g.1 x (List.mem_cons_self ..))).symm
    have ih:=XN kk wd es ff fo gi ta hg ht t (pre++[x]) (by simpa using hl')
    rw [←cK,←bS] at ih
    have M:(1≤x.To∧x.To≤2)→Wp (fun k=>if (x.Sent.size:Int)>100 then some false else if (x.Bytes.size:Int)>100 then some false else cB k (pre++x::t) ((pre++x::t).length:Int) ((pre.length:Int)+1) kk wd es ff fo gi ta) (· =decide (vD (x::t)∧oZ gi∧oZ ta)):=fun h1=>by
      refine Wp.ite (fun h2=>F fun g=>by have:=g.2.1;omega) (fun h2=> ?_)
      refine Wp.ite (fun h3=>F fun g=>by have:=g.2.2;omega) (fun h3=> ?_)
      refine ih.mono fun v hv=> ?_
      rw [hv,decide_eq_decide]
      exact ⟨fun g=>⟨all_cons.mpr ⟨⟨h1,by omega,by omega⟩,g.1⟩,g.2⟩,fun g=>⟨(all_cons.mp g.1).2,g.2⟩⟩
    refine Wp.ite (fun h=>M (by omega)) (fun h=> ?_)
    exact Wp.ite (fun h2=>M (by omega)) (fun h2=>F fun g=>by have:=g.1;omega)
theorem kR (w:aC) (hb:w.Given.length≤1048576∧w.Taken.length≤1048576):Wp (fun k=>eX k w) (· =decide (aQ w)):=by
  unfold eX
  have F:¬aQ w→Wp (fun _=>some false) (· =decide (aQ w)):=fun h=>Wp.ret (decide_eq_false h).symm
  simp only [aL,b9,AX]
  refine Wp.ite (fun h1=>F fun g=>by have:=g.1;omega) (fun h1=> ?_)
  refine Wp.ite (fun h1'=>F fun g=>by have:=g.1;omega) (fun h1'=> ?_)
  refine Wp.ite (fun h2=>F fun g=>by have:=g.2.1;omega) (fun h2=> ?_)
  refine Wp.ite (fun h3=> ?_) (fun h3=>F fun g=>by have:=QH g.2.2.2.2.1;omega)
  refine Wp.ite (fun h4=>F fun g=>by have:=g.2.2.1;omega) (fun h4=> ?_)
  simp (disch:=omega) only [bR]
  refine Wp.ite (fun h5=>F fun g=>by have:=g.2.2.2.1;omega) (fun h5=> ?_)
  obtain ⟨ky,wd,es,fl,fo,gi,ta⟩:=w
  match es,h3 with
  | [a,b],_=>
    refine Wp.step ?_
    have e0:idx [a,b] 0=some a:=rfl
    have e1:idx [a,b] 1=some b:=rfl
    have w1:IntKind.wrap .i64 (0+1)=1:=bR (by omega) (by omega)
    have w2:IntKind.wrap .i64 (1+1)=2:=bR (by omega) (by omega)
    have d0:(0:Int)<2:=by omega
    have d1:(1:Int)<2:=by omega
    have d2:¬(2:Int)<2:=by omega
    have l2:(([a,b]:List aN).length:Int)=2:=rfl
    simp only [d7,e0,w1,aL,Option.bind_some,l2,if_pos d0,AX]
    refine Wp.bind (d5 _) (fun _ q=> ?_);subst q
    simp only [aL,b9]
    refine Wp.ite (fun h6=> ?_) (fun h6=>F fun g=>h6 g.2.2.2.2.1.1.1)
    refine Wp.ite (fun h7=> ?_) (fun h7=>F fun g=>h7 g.2.2.2.2.1.1.2)
    refine Wp.step ?_
    simp only [d7,e1,w2,aL,Option.bind_some,if_pos d1,AX]
    refine Wp.bind (d5 _) (fun _ q=> ?_);subst q
    simp only [aL,b9]
    refine Wp.ite (fun h8=> ?_) (fun h8=>F fun g=>h8 g.2.2.2.2.1.2.1)
    refine Wp.ite (fun h9=> ?_) (fun h9=>F fun g=>h9 g.2.2.2.2.1.2.2)
    refine Wp.step ?_
    simp only [d7,aL,if_neg d2]
    simp only at h1 h1' h2 h4 h5 hb
    refine Wp.mono (XN ky wd [a,b] fl fo gi ta (by omega) (by omega) fl [] (by show fl.length≤1000;omega)) fun v hv=> ?_
    rw [hv,decide_eq_decide]
    exact ⟨fun g=>⟨⟨by simp only;omega,by simp only;omega⟩,by simp only;omega,by simp only;omega,by simp only;omega,⟨⟨h6,h7⟩,⟨h8,h9⟩⟩,g⟩,fun g=>g.2.2.2.2.2⟩
def UJ (e f:aN):Prop:=e.Up=true∧e.Peer=f.Life∧e.Send.Items.length=0∧e.Take.Held.length=0∧e.Take.Open=noB∧e.Take.Ready.length=0
instance (e f:aN):Decidable (UJ e f):=by unfold UJ;infer_instance
def d8_:List aN→Prop
  | [a,b]=>UJ a b∧UJ b a
  | _=>False
instance:(l:List aN)→Decidable (d8_ l)
  | [a,b]=>by unfold d8_;infer_instance
  | []=> .isFalse id
  | [_]=> .isFalse id
  | _::_::_::_=> .isFalse id
def OD (w:aC):Prop:=aQ w∧d8_ w.Ends
instance (w:aC):Decidable (OD w):=by unfold OD;infer_instance
theorem CD {e f:aN} {R:Prop} [Decidable R] {g:Nat→Option Bool} (hR:UJ e f→Wp g (· =decide R)) (hn:R→UJ e f):Wp (fun k=>bif e.Up then (if e.Peer=f.Life then (if (e.Send.Items.length:Int)>0 then some false else if (e.Take.Held.length:Int)>0 then some false else
    if e.Take.Open=(⟨#[]⟩:ByteArray) then (if (e.Take.Ready.length:Int)>0 then some false else g k) else some false) else some false) else some false) (· =decide R):=by
  have F:¬UJ e f→Wp (fun _=>some false) (· =decide R):=fun h=>Wp.ret (decide_eq_false fun g=>h (hn g)).symm
  refine Wp.bif (fun h1=> ?_) (fun h1=>F fun q=>by have:=q.1;rw [h1] at this;cases this)
  refine Wp.ite (fun h2=> ?_) (fun h2=>F fun q=>h2 q.2.1)
  refine Wp.ite (fun h3=>F fun q=>by have:=q.2.2.1;omega) (fun h3=> ?_)
  refine Wp.ite (fun h4=>F fun q=>by have:=q.2.2.2.1;omega) (fun h4=> ?_)
  refine Wp.ite (fun h5=> ?_) (fun h5=>F fun q=>h5 q.2.2.2.2.1)
  refine Wp.ite (fun h6=>F fun q=>by have:=q.2.2.2.2.2;omega) (fun h6=> ?_)
  exact hR ⟨h1,h2,by omega,by omega,h5,by omega⟩
theorem TM (w:aC) (hb:w.Given.length≤1048576∧w.Taken.length≤1048576):Wp (fun k=>BB k w) (· =decide (OD w)):=by
  unfold BB
  refine Wp.bind (kJ w hb) (fun _ q=> ?_);subst q
  simp only [aL,b9]
  refine Wp.ite (fun h1=> ?_) (fun h1=>Wp.ret (decide_eq_false fun g=>h1 g.1).symm)
  obtain ⟨ky,wd,es,fl,fo,gi,ta⟩:=w
  match es,h1 with
  | [a,b],h1=>
    have e0:idx [a,b] 0=some a:=rfl
    have e1:idx [a,b] 1=some b:=rfl
    have w1:IntKind.wrap .i64 (0+1)=1:=bR (by omega) (by omega)
    have w2:IntKind.wrap .i64 (1+1)=2:=bR (by omega) (by omega)
    have w3:IntKind.wrap .i64 (1-0)=1:=bR (by omega) (by omega)
    have w4:IntKind.wrap .i64 (1-1)=0:=bR (by omega) (by omega)
    have d0:(0:Int)<2:=by omega
    have d1:(1:Int)<2:=by omega
    have d2:¬(2:Int)<2:=by omega
    refine Wp.step ?_
    simp only [mJ,e0,e1,w1,w3,aL,Option.bind_some,if_pos d0,AX,b9,nO]
    refine CD (e:=a) (f:=b) (R:=OD ⟨ky,wd,[a,b],fl,fo,gi,ta⟩) (fun i1=> ?_) (fun g=>g.2.1)
    refine Wp.step ?_
    simp only [mJ,e0,e1,w2,w4,aL,Option.bind_some,if_pos d1,AX,b9,nO]
    refine CD (e:=b) (f:=a) (R:=OD ⟨ky,wd,[a,b],fl,fo,gi,ta⟩) (fun i2=> ?_) (fun g=>g.2.2)
    refine Wp.step ?_
    simp only [mJ,aL,if_neg d2]
    exact Wp.ret (decide_eq_true ⟨h1,i1,i2⟩).symm
  | [],h1=>exact absurd h1.2.2.2.2.1 id
  | [_],h1=>exact absurd h1.2.2.2.2.1 id
  | _::_::_::_,h1=>exact absurd h1.2.2.2.2.1 id
theorem VK (w:aC) (hb:w.Given.length≤1048576∧w.Taken.length≤1048576):Wp (fun k=>B5 k w) (· =decide (OD w)):=by
  unfold B5
  refine Wp.bind (kR w hb) (fun _ q=> ?_);subst q
  simp only [aL,b9]
  refine Wp.ite (fun h1=> ?_) (fun h1=>Wp.ret (decide_eq_false fun g=>h1 g.1).symm)
  obtain ⟨ky,wd,es,fl,fo,gi,ta⟩:=w
  match es,h1 with
  | [a,b],h1=>
    have e0:idx [a,b] 0=some a:=rfl
    have e1:idx [a,b] 1=some b:=rfl
    have w1:IntKind.wrap .i64 (0+1)=1:=bR (by omega) (by omega)
    have w2:IntKind.wrap .i64 (1+1)=2:=bR (by omega) (by omega)
    have w3:IntKind.wrap .i64 (1-0)=1:=bR (by omega) (by omega)
    have w4:IntKind.wrap .i64 (1-1)=0:=bR (by omega) (by omega)
    have d0:(0:Int)<2:=by omega
    have d1:(1:Int)<2:=by omega
    have d2:¬(2:Int)<2:=by omega
    have l2:(([a,b]:List aN).length:Int)=2:=rfl
    refine Wp.step ?_
    simp only [mC,e0,e1,w1,w3,l2,aL,Option.bind_some,if_pos d0,AX,b9,nO]
    refine CD (e:=a) (f:=b) (R:=OD ⟨ky,wd,[a,b],fl,fo,gi,ta⟩) (fun i1=> ?_) (fun g=>g.2.1)
    refine Wp.step ?_
    simp only [mC,e0,e1,w2,w4,aL,Option.bind_some,if_pos d1,AX,b9,nO]
    refine CD (e:=b) (f:=a) (R:=OD ⟨ky,wd,[a,b],fl,fo,gi,ta⟩) (fun i2=> ?_) (fun g=>g.2.2)
    refine Wp.step ?_
    simp only [mC,aL,if_neg d2]
    exact Wp.ret (decide_eq_true ⟨h1,i1,i2⟩).symm
  | [],h1=>exact absurd h1.2.2.2.2.1 id
  | [_],h1=>exact absurd h1.2.2.2.2.1 id
  | _::_::_::_,h1=>exact absurd h1.2.2.2.2.1 id
end Km.X
