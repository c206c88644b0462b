/- A part of the proof of FnLines: plain laws of these functions. There is no condition. -/
import Derived.Test.YtgffmpjadffjkaaGreatDoorKmAm4
import Derived.Test.YtgffmpjadffjkaaGreatDoorKxDef1
import Derived.Test.YtgffmpjadffjkaaGreatDoorKxDef3
import Derived.Test.YtgffmpjadffjkaaGreatDoorKxDef2
set_option linter.unusedVariables false
set_option linter.unusedSimpArgs false
namespace Km.X
open Go Km
def smL {α:Type} (p:α→Prop) (l:List α):Prop:=l.length≤1048576∧∀y∈l,p y
def dJ_ (x:cA):Prop:=x.Text.size≤1048576
def f1_ (x:aQ):Prop:=dJ_ x.Part
def fP_ (x:aR):Prop:=dJ_ x.Part
def a0_ (x:aM):Prop:=smL f1_ x.Items
def bM_ (x:aL):Prop:=smL fP_ x.Held∧x.Open.size≤1048576∧smL (fun s:ByteArray=>s.size≤1048576) x.Ready
noncomputable def mt (k:Int):ByteArray:=ans (fun n=>QG n k)
abbrev noB:ByteArray:=⟨#[]⟩
theorem sG:noB.size=0:=rfl
theorem bm_ (bs:List Int):∀(s:ByteArray),bs.foldl (fun r n=>r.push (UInt8.ofNat n.toNat)) s=s++mD bs:=by
  induction bs with
  | nil=>intro s;simp [mD]
  | cons b bs ih=>
    intro s
    simp only [List.foldl_cons,mD]
    rw [ih,ih]
    apply ByteArray.ext;apply Array.ext'
    simp
theorem cw_ (b:Int) (bs:List Int):mD [b]++mD bs=mD (b::bs):=by
  have:=bm_ bs (mD [b])
  rw [←this];rfl
theorem cH_:mD []=noB:=rfl
def lK:Nat→Nat→List Int
  | 0,_=>[]
  | w+1,n=>lK w (n/256)++[((n%256:Nat):Int)]
theorem nQ:∀(w n:Nat),(lK w n).length=w
  | 0,_=>rfl
  | w+1,n=>by simp [lK,nQ w]
theorem LD (d:Nat):∀(w n:Nat),(lK (w+d) n).drop d=lK w n
  | 0,n=>by
    rw [Nat.zero_add,List.drop_eq_nil_of_le (by rw [nQ];exact Nat.le_refl _)];rfl
  | w+1,n=>by
    rw [show w+1+d=(w+d)+1 by omega]
    simp only [lK]
    rw [List.drop_append_of_le_length (by rw [nQ];omega),LD d w]
theorem wu8 (n:Nat):IntKind.wrap .u8 (n:Int)=((n%256:Nat):Int):=by rw [IntKind.wrap_u8];omega
theorem hH_ {n:Int} (h1:0≤n) (h2:n≤18446744073709551615):IntKind.wrap .u64 n=n:=IntWalk.u64_in n ⟨h1,h2⟩
theorem OJ (n:Int):0≤IntKind.wrap .u64 n∧IntKind.wrap .u64 n≤18446744073709551615:=by
  simp only [IntKind.wrap,IntKind.signed,IntKind.bits,Bool.false_and]
  rw [if_neg (by simp)];omega
theorem X6 (n:Nat):J0 (n:Int) 256=some ((n%256:Nat):Int):=by rw [kW (by omega) (by omega)];simp
theorem YZ (n:Nat):UH (n:Int) 256=some ((n/256:Nat):Int):=by rw [uV (by omega) (by omega)];simp
theorem cc_ (n:Nat):IntKind.wrap .u8 ((n%256:Nat):Int)=((n%256:Nat):Int):=by rw [wu8,Nat.mod_mod]
theorem hz_ {k:IntKind} (hk:8≤k.bits) (n:Nat):shift .shr k (n:Int) 8=some ((n/256:Nat):Int):=by
  simp only [shift]
  rw [if_neg (by omega)]
  congr 1
  rw [show (Int.toNat 8)=8 from rfl,Nat.min_eq_left hk,Int.fdiv_eq_ediv_of_nonneg _ (by simp)]
  simp
theorem S9 (b:Int) (bs:List Int) (h:bs.length≤1000):dK (mD [b]) (mD bs)=some (mD (b::bs)):=by
  rw [aP (by rw [kZ,kZ];simp;omega),cw_]
theorem QZ {d n:Nat} {b:List Int} (hlt:d<b.length):lK d (n/256)++(b.set d ((n%256:Nat):Int)).drop d=lK (d+1) n++b.drop (d+1):=by
  simp only [lK,List.append_assoc,List.cons_append,List.nil_append]
  congr 1
  rw [List.drop_eq_getElem_cons (by simpa using hlt),List.drop_set_of_lt (by omega)]
  simp
theorem S8:∀(d w i n:Nat) (tail:List Int),i+d=w→w≤8→n≤18446744073709551615→tail.length+d≤100→
    Wp (fun k=>mL k (w:Int) (n:Int) (mD tail) (i:Int)) (· =mD (lK d n++tail))
  | 0,w,i,n,tail,h,hw,hn,ht=>by
    refine Wp.step ?_
    simp only [mL]
    simp (disch:=omega) only [aJ,if_neg]
    exact Wp.ret rfl
  | d+1,w,i,n,tail,h,hw,hn,ht=>by
    refine Wp.step ?_
    simp only [mL]
    simp (disch:=omega) only [aJ,if_pos,X6,YZ,Option.bind_some,cc_,S9,hH_,bQ,cO_]
    have ih:=S8 d w (i+1) (n/256) (((n%256:Nat):Int)::tail) (by omega) hw (by omega) (by simp;omega)
    simpa [lK] using ih
theorem UA:∀(d w n:Nat) (b:List Int),b.length=8→d≤8→1≤w→w≤8→n≤18446744073709551615→
    Wp (fun k=>mR k (w:Int) (n:Int) ((d:Int)-1) b) (· =mD ((lK d n++b.drop d).drop (8-w)))
  | 0,w,n,b,hb,hd,hw1,hw,hn=>by
    refine Wp.step ?_
    simp only [mR]
    simp (disch:=omega) only [aJ,if_neg,if_pos hb,bQ,bX,Option.bind_some]
    refine Wp.ret ?_
    simp only [lK,List.nil_append,List.drop_zero,iA]
    rw [show ((8:Int)-(w:Int)).toNat=8-w by omega,show Int.toNat 8=8 from rfl,List.take_of_length_le (by omega)]
  | d+1,w,n,b,hb,hd,hw1,hw,hn=>by
    refine Wp.step ?_
    simp only [mR]
    rw [show ((d+1:Nat):Int)-1=(d:Int) by omega]
    have hlt:d<b.length:=by omega
    simp (disch:=first | omega | decide) only [aJ,if_pos,if_pos hb,hv_,hB_,Option.bind_some,hz_,bQ,wu8]
    have ih:=UA d w (n/256) (b.set d ((n%256:Nat):Int)) (by simpa using hb) (by omega) hw1 hw (by omega)
    rw [QZ hlt] at ih
    rw [Int.toNat_natCast]
    exact ih
def hstep (v:Int) (c:UInt8):Int:=IntKind.wrap .u64 ((vG .u64 v (IntKind.wrap .u64 (c.toNat:Int)))*1099511628211)
def ha_ (l:List UInt8):Int:=l.foldl hstep 14695981039346656037
theorem iM {pre t:List UInt8} {c:UInt8} {all:ByteArray} (h:all.data.toList=pre++c::t):zN all (pre.length:Int)=some c:=by
  have hl:pre.length<all.size:=by
    have:=congrArg List.length h
    simp at this
    have e:all.size=all.data.size:=rfl
    omega
  have hg:all.data[pre.length]? =some c:=by
    rw [←Array.getElem?_toList,h];simp
  unfold zN
  rw [if_neg (by omega),Int.toNat_natCast]
  have e:all[pre.length]? =some (all[pre.length]'hl):=by simp [hl]
  rw [e]
  rw [Array.getElem?_eq_getElem (by exact hl)] at hg
  exact hg
theorem rX {pre t:List UInt8} {all:ByteArray} (h:all.data.toList=pre++t):all.size=pre.length+t.length:=by
  have:=congrArg List.length h
  simp at this
  exact this
theorem YX (all:ByteArray) (w:Nat) (hw:w≤8) (hs:all.size≤10000000):∀(t pre:List UInt8) (v:Int),all.data.toList=pre++t→0≤v∧v≤18446744073709551615→
    Wp (fun k=>oM k (w:Int) all v (pre.length:Int)) (· =mD (lK w (t.foldl hstep v).toNat))
  | [],pre,v,h,hv=>by
    refine Wp.step ?_
    have:=rX h
    simp only [List.length_nil] at this
    simp only [oM]
    simp (disch:=omega) only [aJ,if_neg]
    have h11:=S8 w w 0 v.toNat [] (by omega) hw (by omega) (by simp;omega)
    rw [List.append_nil,show ((v.toNat:Nat):Int)=v by omega,cH_] at h11
    exact h11
  | c::t,pre,v,h,hv=>by
    refine Wp.step ?_
    have hl:=rX h
    simp only [List.length_cons] at hl
    simp only [oM]
    simp (disch:=omega) only [aJ,if_pos,iM h,Option.bind_some,bQ]
    have ih:=YX all w hw hs t (pre++[c]) (hstep v c) (by simpa using h) (OJ _)
    rwa [←bV] at ih
theorem XO (all:ByteArray) (w:Nat) (hw1:1≤w) (hw:w≤8) (hs:all.size≤10000000):∀(t pre:List UInt8) (v:Int),all.data.toList=pre++t→0≤v∧v≤18446744073709551615→
    Wp (fun k=>oL k (w:Int) v all (pre.length:Int)) (· =mD (lK w (t.foldl hstep v).toNat))
  | [],pre,v,h,hv=>by
    refine Wp.step ?_
    have:=rX h
    simp only [List.length_nil] at this
    simp only [oL]
    simp (disch:=omega) only [aJ,if_neg]
    have h11:=UA 8 w v.toNat (List.replicate 8 0) (by simp) (by omega) hw1 hw (by omega)
    rw [show ((v.toNat:Nat):Int)=v by omega] at h11
    have hd:=LD (8-w) w v.toNat
    rw [show w+(8-w)=8 by omega] at hd
    refine Wp.mono h11 fun r hr=> ?_
    rw [hr,show List.drop 8 (List.replicate 8 (0:Int))=[] from rfl,List.append_nil,hd]
    rfl
  | c::t,pre,v,h,hv=>by
    refine Wp.step ?_
    have hl:=rX h
    simp only [List.length_cons] at hl
    simp only [oL]
    simp (disch:=omega) only [aJ,if_pos,iM h,Option.bind_some,bQ]
    have ih:=XO all w hw1 hw hs t (pre++[c]) (hstep v c) (by simpa using h) (OJ _)
    rwa [←bV] at ih
theorem dM (a b c:Int):Wp (fun k=>a6 k a b c) (· =(decide (b≤a)&&decide (a≤c))):=by
  unfold a6
  refine Wp.dec (fun h=>Wp.ret ?_) (fun h=>Wp.ret ?_)
  ·rw [decide_eq_true (show b≤a by omega)];rfl
  ·rw [decide_eq_false (show¬b≤a by omega)];rfl
theorem B6 (a b c:Int):Wp (fun k=>bR k a b c) (· =(decide (b≤a)&&decide (a≤c))):=dM a b c
theorem inB {a b c:Int}:(decide (b≤a)&&decide (a≤c))=decide (b≤a∧a≤c):=by rw [Bool.decide_and]
def cY_ (a b:ByteArray) (w:Int):ByteArray:=if w<1∨8<w∨30<b.size then noB else mD (lK w.toNat (ha_ (b++⟨#[0]⟩++a).data.toList).toNat)
theorem Y9 (a b:ByteArray) (w:Int) (ha:a.size≤1048576):Wp (fun k=>HO k a b w) (· =cY_ a b w):=by
  unfold HO cY_
  refine Wp.bind (dM _ _ _) (fun _ e=> ?_);subst e
  simp only [inB,cE,aJ]
  refine Wp.ite (fun h1=> ?_) (fun h1=> ?_)
  ·refine Wp.ite (fun h2=> ?_) (fun h2=> ?_)
   ·rw [if_pos (by omega)];exact Wp.ret rfl
   ·rw [if_neg (by omega)]
    have e0:(⟨#[0]⟩:ByteArray).size=1:=rfl
    have hsz:(b++⟨#[0]⟩++a).size=b.size+1+a.size:=by rw [aD,aD,e0]
    refine Wp.opt (aP (by rw [e0];omega)) ?_
    refine Wp.opt (aP (by rw [aD,e0];omega)) ?_
    obtain ⟨n,rfl⟩:∃n:Nat,w=n:=⟨w.toNat,by omega⟩
    exact YX _ n (by omega) (by omega) _ [] _ rfl (by omega)
  ·rw [if_pos (by omega)];exact Wp.ret rfl
theorem ZL (a b:ByteArray) (w:Int) (ha:a.size≤1048576):Wp (fun k=>G8 k a b w) (· =cY_ a b w):=by
  unfold G8 cY_
  simp only [aJ]
  refine Wp.ite (fun h1=> ?_) (fun h1=> ?_)
  ·rw [if_pos (by omega)];exact Wp.ret rfl
  refine Wp.ite (fun h2=> ?_) (fun h2=> ?_)
  ·rw [if_pos (by omega)];exact Wp.ret rfl
  refine Wp.ite (fun h3=> ?_) (fun h3=> ?_)
  ·rw [if_pos (by omega)];exact Wp.ret rfl
  rw [if_neg (by omega)]
  have e0:(⟨#[0]⟩:ByteArray).size=1:=rfl
  have hsz:(b++⟨#[0]⟩++a).size=b.size+1+a.size:=by rw [aD,aD,e0]
  refine Wp.opt (aP (by rw [e0];omega)) ?_
  refine Wp.opt (aP (by rw [aD,e0];omega)) ?_
  obtain ⟨n,rfl⟩:∃n:Nat,w=n:=⟨w.toNat,by omega⟩
  exact XO _ n (by omega) (by omega) (by omega) _ [] _ rfl (by omega)
theorem IC (a b:ByteArray) (w:Int):(cY_ a b w).size≤8:=by
  unfold cY_
  split
  ·simp [sG]
  ·rw [kZ,nQ];omega
def cy_ (n:Nat):ByteArray:=⟨(Lib.decDigits n).toArray⟩
theorem a3_:∀(k n:Nat),n<10^(k+1)→(Lib.decDigits n).length≤k+1
  | 0,n,h=>by rw [Lib.decDigits,dif_pos (by omega)];simp
  | k+1,n,h=>by
    rw [Lib.decDigits]
    split
    ·simp
    ·have:=a3_ k (n/10) (by rw [Nat.pow_succ] at h;omega)
     simp;omega
theorem c4_ (n:Nat):(⟨(Lib.itoa (n:Int)).toArray⟩:ByteArray)=cy_ n:=by unfold Lib.itoa;rw [if_neg (by omega),Int.toNat_natCast];rfl
theorem RA (k n:Nat) (h:n<10^(k+1)):(cy_ n).size≤k+1:=by
  have:=a3_ k n h
  show (Lib.decDigits n).toArray.size≤_
  simpa using this
theorem aA_ {d:Nat} (h:d<10):mD [IntKind.wrap .u8 (IntKind.wrap .i64 (48+(d:Int)))]=⟨#[UInt8.ofNat (48+d)]⟩:=by
  rw [bQ (by omega) (by omega),show (48:Int)+(d:Int)=((48+d:Nat):Int) by omega,wu8,Nat.mod_eq_of_lt (by omega)]
  rfl
theorem NO (n:Nat) (hn:n<10^18):Wp (fun k=>aW k (n:Int)) (· =cy_ n):=by
  induction n using Nat.strongRecOn with
  | _ n ih=>
  refine Wp.step ?_
  simp only [aW]
  refine Wp.dec (fun h=>Wp.ret ?_) (fun h=> ?_)
  ·have h':n<10:=by omega
   rw [aA_ h',cy_,Lib.decDigits,dif_pos h']
  ·refine Wp.opt (uV (by omega) (by omega)) ?_
   rw [show (n:Int)/10=((n/10:Nat):Int) by omega,bQ (by omega) (by omega)]
   refine Wp.bind (ih (n/10) (by omega) (by omega)) (fun _ e=> ?_);subst e
   refine Wp.opt (kW (by omega) (by omega)) ?_
   rw [show (n:Int)%10=((n%10:Nat):Int) by omega,aA_ (by omega)]
   refine Wp.opt (aP ?_) (Wp.ret ?_)
   ·have:=RA 17 (n/10) (by omega)
    have e:(⟨#[UInt8.ofNat (48+n%10)]⟩:ByteArray).size=1:=rfl
    omega
   ·conv=>rhs;rw [cy_,Lib.decDigits,dif_neg (by omega)]
    apply ByteArray.ext
    simp [cy_]
def rS (c:UInt8):Bool:=48≤c.toNat&&c.toNat≤57
def CN (n:Nat) (l:List UInt8):Nat:=l.foldl (fun n c=>n*10+(c.toNat-48)) n
def E4 (s:ByteArray):Option Nat:=
  if (1≤s.size∧s.size≤6)∧(∀c∈s.data.toList,rS c=true)∧((s.data.toList.head? =some 48)→s.size=1) then some (CN 0 s.data.toList) else none
theorem TG (n:Nat) (c:UInt8) (l:List UInt8):CN n (c::l)=CN (n*10+(c.toNat-48)) l:=by unfold CN;rw [List.foldl_cons]
theorem bG_:∀(l:List UInt8) (n:Nat),(∀c∈l,rS c=true)→CN n l<(n+1)*10^l.length
  | [],n,_=>by simp [CN]
  | c::l,n,h=>by
    rw [TG]
    have hc:=h c (by simp)
    simp only [rS,Bool.and_eq_true,decide_eq_true_eq] at hc
    have:=bG_ l (n*10+(c.toNat-48)) (fun d hd=>h d (by simp [hd]))
    refine Nat.lt_of_lt_of_le this ?_
    rw [List.length_cons,Nat.pow_succ,Nat.mul_comm (10^l.length),←Nat.mul_assoc]
    exact Nat.mul_le_mul_right _ (by omega)
theorem QT (n:Nat) (l:List UInt8) (c:UInt8):CN n (l++[c])=CN n l*10+(c.toNat-48):=by simp [CN]
theorem XN {c:UInt8} (h:rS c=true):UInt8.ofNat (48+(c.toNat-48))=c:=by
  simp only [rS,Bool.and_eq_true,decide_eq_true_eq] at h
  rw [show 48+(c.toNat-48)=c.toNat by omega]
  exact UInt8.ofNat_toNat
theorem W9 (n:Nat):∀(l:List UInt8),l.length=n+1→(∀c∈l,rS c=true)→((l.head? =some 48→l.length=1)↔Lib.decDigits (CN 0 l)=l)∧(l.head? ≠some 48→1≤CN 0 l):=by
  induction n with
  | zero=>
    intro l hl hd
    match l,hl with
    | [c],_=>
      have hc:=hd c (by simp)
      have hc':=hc
      simp only [rS,Bool.and_eq_true,decide_eq_true_eq] at hc'
      have hv:CN 0 [c]=c.toNat-48:=by simp [CN]
      refine ⟨⟨fun _=> ?_,fun _ _=>rfl⟩,fun h=> ?_⟩
      ·rw [hv,Lib.decDigits,dif_pos (by omega),XN hc]
      ·have:c.toNat≠48:=fun e=>h (by
         have:c=48:=UInt8.toNat_inj.mp e
         subst this;rfl)
       omega
  | succ n ih=>
    intro l hl hd
    obtain ⟨l',c,rfl⟩:∃l' c,l=l'++[c]:=by
      rcases List.eq_nil_or_concat l with rfl | ⟨l',c,rfl⟩
      ·simp at hl
      ·exact ⟨l',c,by simp⟩
    have hl':l'.length=n+1:=by simpa using hl
    have hc:=hd c (by simp)
    have hc':=hc
    simp only [rS,Bool.and_eq_true,decide_eq_true_eq] at hc'
    obtain ⟨i1,i2⟩:=ih l' hl' (fun d h=>hd d (by simp [h]))
    have hh:(l'++[c]).head? =l'.head? :=by
      cases l' with
      | nil=>simp at hl'
      | cons a b=>rfl
    rw [QT,hh]
    have hlen:(l'++[c]).length=n+2:=by simp [hl']
    refine ⟨⟨fun h=> ?_,fun h h0=> ?_⟩,fun h=>by have:=i2 h;omega⟩
    ·have h0:l'.head? ≠some 48:=fun e=>by have:=h e;omega
     have hv:=i2 h0
     rw [Lib.decDigits,dif_neg (by omega),show (CN 0 l'*10+(c.toNat-48))/10=CN 0 l' by omega,show (CN 0 l'*10+(c.toNat-48))%10=c.toNat-48 by omega,XN hc,
      i1.mp (fun e=>absurd e h0)]
    ·exfalso
     by_cases hz:CN 0 l'=0
     ·rw [hz,Lib.decDigits,dif_pos (by omega)] at h
      have:=congrArg List.length h
      simp at this
      rw [this] at hl';simp at hl'
     ·rw [Lib.decDigits,dif_neg (by omega),show (CN 0 l'*10+(c.toNat-48))/10=CN 0 l' by omega] at h
      have h':=List.append_inj_left' h (by simp)
      have h1:=i1.mpr h' h0
      match l',h1 with
      | [d],_=>
        simp at h0
        subst h0
        exact hz (by simp [CN])
theorem by_ {s:ByteArray} (hs:1≤s.size) (hd:∀c∈s.data.toList,rS c=true):cy_ (CN 0 s.data.toList)=s↔(s.data.toList.head? =some 48→s.size=1):=by
  have hl:s.data.toList.length=(s.size-1)+1:=by
    have:s.data.toList.length=s.size:=by simp
    omega
  have:=(W9 _ _ hl hd).1
  have e:s.data.toList.length=s.size:=by simp
  rw [e] at this
  rw [this]
  constructor
  ·intro h
   have:=congrArg (fun b=>b.data.toList) h
   simpa [cy_] using this
  ·intro h
   apply ByteArray.ext
   rw [cy_,h]
def aI_ (s:ByteArray):Int:=match E4 s with | some n=>(n:Int) | none=> -1
def aO_ (s:ByteArray):Int×Bool:=match E4 s with | some n=>((n:Int),true) | none=>(0,false)
theorem HH {s:ByteArray} {c:UInt8} (hc:c∈s.data.toList) (h:rS c=false):E4 s=none:=by
  unfold E4
  rw [if_neg (fun g=>by have:=g.2.1 c hc;rw [h] at this;cases this)]
theorem B0 {s:ByteArray} (h:¬(1≤s.size∧s.size≤6)):E4 s=none:=by
  unfold E4
  rw [if_neg (fun g=>h g.1)]
theorem XT {c:UInt8} (h:(c.toNat:Int)<48∨(c.toNat:Int)>57):rS c=false:=by
  cases hd:rS c with
  | false=>rfl
  | true=>
    simp only [rS,Bool.and_eq_true,decide_eq_true_eq] at hd
    omega
theorem XM {c:UInt8} (h1:¬(c.toNat:Int)<48) (h2:¬(c.toNat:Int)>57):rS c=true:=by
  simp only [rS,Bool.and_eq_true,decide_eq_true_eq]
  omega
theorem yL {l:List UInt8} (h:∀c∈l,rS c=true) (hl:l.length≤6):CN 0 l<1000000:=by
  have:=bG_ l 0 h
  have:(10:Nat)^l.length≤10^6:=Nat.pow_le_pow_right (by decide) hl
  omega
theorem a5_ {s:ByteArray} {n:Nat} (h:E4 s=some n):n<1000000:=by
  unfold E4 at h
  split at h
  ·rename_i g
   cases h
   have hl:s.data.toList.length=s.size:=by simp
   exact yL g.2.1 (by omega)
  ·cases h
theorem xF (s:ByteArray) (hs:1≤s.size∧s.size≤6):∀(t pre:List UInt8),s.data.toList=pre++t→(∀c∈pre,rS c=true)→Wp (fun k=>fT k s (CN 0 pre:Nat) (pre.length:Nat)) (· =aI_ s)
  | [],pre,he,hd=>by
    have hl:pre.length=s.size:=by have:=congrArg List.length he;simp at this;omega
    refine Wp.step ?_
    simp only [fT]
    rw [List.append_nil] at he
    refine Wp.dec (fun h=>by omega) (fun _=> ?_)
    have hv:=yL hd (by omega)
    refine Wp.bind (NO _ (by omega)) (fun _ e=> ?_);subst e
    simp only [cE,oA]
    rw [←he] at hd⊢
    refine Wp.ite (fun h=>Wp.ret ?_) (fun h=>Wp.ret ?_)
    ·unfold aI_ E4
     rw [if_pos ⟨hs,hd,(by_ hs.1 hd).mp h⟩]
    ·unfold aI_ E4
     rw [if_neg (fun g=>h ((by_ hs.1 hd).mpr g.2.2))]
  | c::t,pre,he,hd=>by
    have hl:pre.length<s.size:=by have:=congrArg List.length he;simp at this;omega
    have hc:c∈s.data.toList:=by rw [he];simp
    refine Wp.step ?_
    simp only [fT]
    refine Wp.dec (fun _=> ?_) (fun h=>by omega)
    refine Wp.opt (iM he) ?_
    refine Wp.dec (fun h=>Wp.ret (by unfold aI_;rw [HH hc (XT (.inl h))])) (fun h1=> ?_)
    refine Wp.opt (iM he) ?_
    refine Wp.dec (fun h=>Wp.ret (by unfold aI_;rw [HH hc (XT (.inr h))])) (fun h2=> ?_)
    refine Wp.opt (iM he) ?_
    have hv:=yL hd (by omega)
    have e1:IntKind.wrap .i64 ((IntKind.wrap .i64 (((CN 0 pre:Nat):Int)*10))+(IntKind.wrap .i64 (IntKind.wrap .u8 ((c.toNat:Int)-48))))=((CN 0 (pre++[c]):Nat):Int):=by
      rw [show (c.toNat:Int)-48=((c.toNat-48:Nat):Int) by omega,wu8,Nat.mod_eq_of_lt (by omega),bQ (n:=((c.toNat-48:Nat):Int)) (by omega) (by omega),bQ (n:=((CN 0 pre:Nat):Int)*10) (by omega) (by omega),QT,bQ (by omega) (by omega)]
      omega
    rw [e1,bQ (by omega) (by omega),bV pre c]
    exact xF s hs t (pre++[c]) (by rw [he];simp) (fun d hd'=>by
      simp only [List.mem_append,List.mem_singleton] at hd'
      rcases hd' with h | rfl
      ·exact hd d h
      ·exact XM h1 h2)
theorem uO (s:ByteArray):Wp (fun k=>gG k s) (· =aI_ s):=by
  unfold gG
  simp only [kH]
  refine Wp.ite (fun h=>Wp.ret (by unfold aI_;rw [B0 (by omega)])) (fun h1=> ?_)
  refine Wp.dec (fun h=>Wp.ret (by unfold aI_;rw [B0 (by omega)])) (fun h2=> ?_)
  exact xF s (by omega) s.data.toList [] rfl (fun c h=>by simp at h)
theorem YC:∀(l:List UInt8) (n:Nat),(∀c∈l,rS c=true)→(n+1)*10^l.length≤1000000000000000000→Lib.parseUint10 n l= .ok (CN n l)
  | [],n,_,_=>rfl
  | c::l,n,h,hb=>by
    have hc:=h c (by simp)
    simp only [rS,Bool.and_eq_true,decide_eq_true_eq] at hc
    have hp:1≤10^l.length:=Nat.one_le_pow _ _ (by decide)
    rw [List.length_cons,Nat.pow_succ,Nat.mul_comm (10^l.length),←Nat.mul_assoc] at hb
    have hm:=Nat.mul_le_mul_left ((n+1)*10) hp
    rw [Lib.parseUint10,if_pos hc,if_neg (by omega),if_neg (by omega),TG]
    refine YC l _ (fun d hd=>h d (by simp [hd])) (Nat.le_trans (Nat.mul_le_mul_right _ (by omega)) hb)
theorem en_ {s:ByteArray} (hs:1≤s.size∧s.size≤6) (hd:∀c∈s.data.toList,rS c=true) (k:Nat):mP k s=some (((CN 0 s.data.toList:Nat):Int),()):=by
  have hl:s.data.toList.length=s.size:=by simp
  unfold mP
  rw [if_pos (by omega)]
  have hp:(10:Nat)^s.data.toList.length≤10^6:=Nat.pow_le_pow_right (by decide) (by omega)
  have hpa:=YC s.data.toList 0 hd (by rw [Nat.zero_add,Nat.one_mul];exact Nat.le_trans hp (by decide))
  have hv:=yL hd (by omega)
  have ha:Lib.atoiAll s.data.toList= .ok ((CN 0 s.data.toList:Nat):Int):=by
    revert hd hpa hv hl
    cases s.data.toList with
    | nil=>
      intro hd hl
      have:(0:Nat)=s.size:=hl
      omega
    | cons c l=>
      intro hd hl hpa hv
      have hc:=hd c (by simp)
      simp only [rS,Bool.and_eq_true,decide_eq_true_eq] at hc
      have h1:¬(c.toNat=43∨c.toNat=45):=by omega
      have h2:¬c.toNat=45:=by omega
      unfold Lib.atoiAll
      dsimp only
      rw [if_neg h1]
      unfold Lib.parseMag
      rw [if_neg (by simp),hpa]
      dsimp only
      rw [if_neg (fun g=>by omega),if_neg (fun g=>h2 g.1),if_neg h2]
  rw [ha]
theorem vQ (s:ByteArray) (hs:1≤s.size∧s.size≤6) (h0:s.data.toList.head? =some 48→s.size=1):∀(t pre:List UInt8),s.data.toList=pre++t→(∀c∈pre,rS c=true)→Wp (fun k=>fA k s (pre.length:Nat)) (· =aO_ s)
  | [],pre,he,hd=>by
    have hl:pre.length=s.size:=by have:=congrArg List.length he;simp at this;omega
    refine Wp.step ?_
    simp only [fA]
    rw [List.append_nil] at he
    rw [←he] at hd
    refine Wp.dec (fun h=>by omega) (fun _=> ?_)
    simp only [en_ hs hd]
    refine Wp.ret ?_
    unfold aO_ E4
    rw [if_pos ⟨hs,hd,h0⟩]
  | c::t,pre,he,hd=>by
    have hl:pre.length<s.size:=by have:=congrArg List.length he;simp at this;omega
    have hc:c∈s.data.toList:=by rw [he];simp
    refine Wp.step ?_
    simp only [fA]
    refine Wp.dec (fun _=> ?_) (fun h=>by omega)
    refine Wp.opt (iM he) ?_
    refine Wp.dec (fun h=>Wp.ret (by unfold aO_;rw [HH hc (XT (.inl h))])) (fun h1=> ?_)
    refine Wp.opt (iM he) ?_
    refine Wp.dec (fun h=>Wp.ret (by unfold aO_;rw [HH hc (XT (.inr h))])) (fun h2=> ?_)
    rw [bQ (by omega) (by omega),bV pre c]
    exact vQ s hs h0 t (pre++[c]) (by rw [he];simp) (fun d hd'=>by
      simp only [List.mem_append,List.mem_singleton] at hd'
      rcases hd' with h | rfl
      ·exact hd d h
      ·exact XM h1 h2)
theorem s4 (s:ByteArray):Wp (fun k=>mO k s) (· =aO_ s):=by
  unfold mO
  refine Wp.dec (fun h=>Wp.ret (by unfold aO_;rw [B0 (by omega)])) (fun h1=> ?_)
  refine Wp.dec (fun h=>Wp.ret (by unfold aO_;rw [B0 (by omega)])) (fun h2=> ?_)
  obtain ⟨c,t,he⟩:∃c t,s.data.toList=c::t:=by
    cases hq:s.data.toList with
    | nil=>have:=congrArg List.length hq;simp at this;subst this;exact absurd h1 (by decide)
    | cons c t=>exact ⟨c,t,rfl⟩
  refine Wp.opt (x:=c) (iM (pre:=[]) he) ?_
  simp only [kH]
  have run:=fun h0=>vQ s (by omega) h0 s.data.toList [] rfl (fun c h=>by simp at h)
  refine Wp.ite (fun h=> ?_) (fun h=> ?_)
  ·have hc:c=48:=UInt8.toNat_inj.mp (by show c.toNat=48;omega)
   refine Wp.dec (fun h3=>Wp.ret ?_) (fun h3=> ?_)
   ·unfold aO_ E4
    rw [if_neg (fun g=>by have:=g.2.2 (by rw [he,hc];rfl);omega)]
   ·exact run (fun _=>by omega)
  ·exact run (fun g=>by
     rw [he] at g
     simp at g
     subst g
     exact absurd rfl h)
def pcL (c:UInt8):List UInt8→List (List UInt8)
  | []=>[[]]
  | x::l=>if x=c then []::pcL c l else (match pcL c l with | []=>[[x]] | h::t=>(x::h)::t)
def baL (l:List UInt8):ByteArray:=⟨l.toArray⟩
def pcM (s:ByteArray) (c:UInt8):List ByteArray:=(pcL c s.data.toList).map baL
def pcC (c:UInt8) (cur:List UInt8) (l:List UInt8):List (List UInt8):=match pcL c l with | []=>[cur] | h::t=>(cur++h)::t
theorem XI (c:UInt8):∀l:List UInt8,pcL c l≠[]
  | []=>by simp [pcL]
  | x::l=>by
    unfold pcL
    split
    ·simp
    ·split<;>simp
theorem eh_ (c:UInt8) (cur:List UInt8):pcC c cur []=[cur]:=by simp [pcC,pcL]
theorem XX (c:UInt8) (l:List UInt8):pcC c [] l=pcL c l:=by
  unfold pcC
  split
  ·rename_i h;exact absurd h (XI c l)
  ·rename_i h;rw [h];rfl
theorem el_ (c:UInt8) (cur l:List UInt8):pcC c cur (c::l)=cur::pcL c l:=by
  unfold pcC
  rw [show pcL c (c::l)=[]::pcL c l by simp [pcL]]
  simp
theorem c6_ {c x:UInt8} (h:x≠c) (cur l:List UInt8):pcC c cur (x::l)=pcC c (cur++[x]) l:=by
  unfold pcC
  cases hl:pcL c l with
  | nil=>exact absurd hl (XI c l)
  | cons a b=>simp [pcL,h,hl]
theorem H9 {s:ByteArray} {a b r:List UInt8} (h:s.data.toList=a++(b++r)):s.extract a.length (a.length+b.length)=baL b:=by
  apply ByteArray.ext
  apply Array.toList_inj.mp
  simp only [ByteArray.data_extract,Array.toList_extract,baL]
  rw [List.extract_eq_take_drop,h]
  simp
theorem FE (s:ByteArray):s.data.toList.length=s.size:=by simp
theorem N4 (c:UInt8):∀l:List UInt8,(pcL c l).length≤l.length+1
  | []=>by simp [pcL]
  | x::l=>by
    have:=N4 c l
    unfold pcL
    split
    ·simp;omega
    ·cases hl:pcL c l with
     | nil=>simp
     | cons a b=>rw [hl] at this;simp at this⊢;omega
theorem AQ (s:ByteArray) (c:UInt8) (hs:s.size≤1000000000):∀(t cur pre:List UInt8) (acc:List ByteArray),s.data.toList=pre++(cur++t)→acc.length≤pre.length→
    Wp (fun k=>kE k s (c.toNat:Int) (pre.length:Nat) ((pre.length+cur.length:Nat):Int) acc) (· =acc++(pcC c cur t).map baL)
  | [],cur,pre,acc,he,ha=>by
    have hl:=congrArg List.length he
    rw [FE] at hl
    simp only [List.length_append,List.length_nil,Nat.add_zero] at hl
    refine Wp.step ?_
    simp only [kE]
    refine Wp.dec (fun h=>by omega) (fun _=> ?_)
    refine Wp.opt (bX ⟨by omega,by omega,by omega⟩) ?_
    refine Wp.opt (bP ?_) (Wp.ret ?_)
    ·simp;omega
    ·rw [Int.toNat_natCast,Int.toNat_natCast,hl,H9 he,eh_];rfl
  | x::t,cur,pre,acc,he,ha=>by
    have hl:=congrArg List.length he
    rw [FE] at hl
    simp only [List.length_append,List.length_cons] at hl
    refine Wp.step ?_
    simp only [kE]
    refine Wp.dec (fun _=> ?_) (fun h=>by omega)
    have hb:zN s ((pre.length+cur.length:Nat):Int)=some x:=by
      have:=iM (pre:=pre++cur) (c:=x) (t:=t) (all:=s) (by rw [he];simp)
      simpa using this
    refine Wp.opt hb ?_
    simp only [kH]
    refine Wp.ite (fun h=> ?_) (fun h=> ?_)
    ·have hx:x=c:=UInt8.toNat_inj.mp (by omega)
     subst hx
     refine Wp.opt (bX ⟨by omega,by omega,by omega⟩) ?_
     rw [Int.toNat_natCast,Int.toNat_natCast,H9 he]
     refine Wp.opt (bP ?_) ?_
     ·simp;omega
     refine Wp.step ?_
     simp only [nL]
     rw [bQ (by omega) (by omega),show ((pre.length+cur.length:Nat):Int)+1=(((pre++cur++[x]).length:Nat):Int) by rw [List.length_append,List.length_append,List.length_singleton];omega]
     have:=AQ s x hs t [] (pre++cur++[x]) (acc++[baL cur]) (by rw [he];simp) (by simp;omega)
     rw [XX] at this
     rw [el_]
     simpa using this
    ·have hx:x≠c:=fun e=>h (by rw [e])
     refine Wp.step ?_
     simp only [nL]
     rw [bQ (by omega) (by omega),show ((pre.length+cur.length:Nat):Int)+1=((pre.length+(cur++[x]).length:Nat):Int) by rw [List.length_append,List.length_singleton];omega,c6_ hx]
     exact AQ s c hs t (cur++[x]) pre acc (by rw [he];simp) ha
theorem RN (s:ByteArray) (c:UInt8) (hs:s.size≤1000000000):Wp (fun k=>yE k s (c.toNat:Int)) (· =pcM s c):=by
  have:=AQ s c hs s.data.toList [] [] [] rfl (Nat.le_refl _)
  rw [XX] at this
  exact this
theorem M5 {c:UInt8}:∀{l:List UInt8},c∉l→Lib.index l [c]= -1
  | [],_=>rfl
  | x::l,h=>by
    have hx:c≠x:=fun e=>h (by simp [e])
    have:=M5 (c:=c) (l:=l) (fun g=>h (by simp [g]))
    unfold Lib.index
    rw [if_neg (by simp [hx]),this]
    rfl
theorem HI {c:UInt8}:∀{a:List UInt8} (b:List UInt8),c∉a→Lib.index (a++c::b) [c]=(a.length:Int)
  | [],b,_=>by simp [Lib.index]
  | x::a,b,h=>by
    have hx:c≠x:=fun e=>h (by simp [e])
    have:=HI (c:=c) (a:=a) b (fun g=>h (by simp [g]))
    rw [List.cons_append]
    unfold Lib.index
    rw [if_neg (by simp [hx]),this,if_neg (by rw [beq_iff_eq];omega)]
    simp
theorem V8 {c:UInt8}:∀{l:List UInt8},c∉l→pcL c l=[l]
  | [],_=>rfl
  | x::l,h=>by
    have hx:x≠c:=fun e=>h (by simp [e])
    simp [pcL,hx,V8 (c:=c) (l:=l) (fun g=>h (by simp [g]))]
theorem fm_ {c:UInt8}:∀{a:List UInt8} (b:List UInt8),c∉a→pcL c (a++c::b)=a::pcL c b
  | [],b,_=>by simp [pcL]
  | x::a,b,h=>by
    have hx:x≠c:=fun e=>h (by simp [e])
    simp [pcL,hx,fm_ (c:=c) (a:=a) b (fun g=>h (by simp [g]))]
theorem DN {c:UInt8}:∀{l:List UInt8},c∈l→∃a b,l=a++c::b∧c∉a
  | x::l,h=>by
    by_cases hx:x=c
    ·exact ⟨[],l,by simp [hx],by simp⟩
    ·obtain ⟨a,b,e,h'⟩:=DN (c:=c) (l:=l) (by simpa [Ne.symm hx] using h)
     exact ⟨x::a,b,by simp [e],by simp [Ne.symm hx,h']⟩
theorem J3 {c:UInt8} (k:Nat) {l:List UInt8} (h:c∉l):Lib.splitK [c] 0 k l=[l]:=by
  cases k with
  | zero=>rfl
  | succ k=>unfold Lib.splitK;rw [M5 h];rfl
theorem D9 {c:UInt8} (k:Nat) {a b:List UInt8} (h:c∉a):Lib.splitK [c] 0 (k+1) (a++c::b)=a::Lib.splitK [c] 0 k b:=by
  rw [Lib.splitK,HI b h,if_neg (by rw [beq_iff_eq];omega),Int.toNat_natCast]
  simp
theorem NU (c:UInt8):∀(k:Nat) (l:List UInt8),Lib.count l [c]≤k→Lib.splitK [c] 0 k l=pcL c l
  | 0,l,h=>by
    by_cases hc:c∈l
    ·obtain ⟨a,b,rfl,ha⟩:=DN hc
     have:=Lib.count_hit (s:=a++c::b) (sub:=[c]) (i:=a.length) (by simp) (HI b ha)
     omega
    ·rw [V8 hc];rfl
  | k+1,l,h=>by
    by_cases hc:c∈l
    ·obtain ⟨a,b,rfl,ha⟩:=DN hc
     have:=Lib.count_hit (s:=a++c::b) (sub:=[c]) (i:=a.length) (by simp) (HI b ha)
     have e:(a++c::b).drop (a.length+[c].length)=b:=by simp
     rw [e] at this
     rw [D9 k ha,fm_ b ha,NU c k b (by omega)]
    ·rw [J3 _ hc,V8 hc]
theorem I3 (c:UInt8) (k:Nat) (s:ByteArray):Lib.splitB ⟨#[c]⟩ 0 k s=(Lib.splitK [c] 0 k s.data.toList).map baL:=by
  have:=Lib.splitB_data ⟨#[c]⟩ 0 k s
  have e:(⟨#[c]⟩:ByteArray).data.toList=[c]:=rfl
  rw [e] at this
  rw [←this,List.map_map]
  have:(baL ∘ fun b:ByteArray=>b.data.toList)=id:=by
    funext b
    apply ByteArray.ext
    simp [baL]
  rw [this,List.map_id]
theorem FJ (k:Nat) (s:ByteArray) (c:UInt8) (hs:s.size≤1000000000):strings_Split k s ⟨#[c]⟩=some (pcM s c):=by
  unfold strings_Split
  rw [if_pos ⟨by omega,(show 1≤1 from Nat.le_refl 1)⟩,I3,NU c _ _ (Nat.le_refl _)]
  rfl
def OkItem (i:Nat) (x:aQ):Prop:=x.Part.Text.size≤20∧(-1≤x.Since∧x.Since≤3)∧(8≤i→x.Since= -1)∧(x.Has=true→0≤x.Since)
def OkItems:Nat→List aQ→Prop
  | _,[]=>True
  | i,x::t=>OkItem i x∧OkItems (i+1) t
instance (i:Nat) (x:aQ):Decidable (OkItem i x):=by unfold OkItem;infer_instance
instance ZQ:(i:Nat)→(l:List aQ)→Decidable (OkItems i l)
  | _,[]=> .isTrue trivial
  | i,x::t=>by
    have:=ZQ (i+1) t
    unfold OkItems;infer_instance
def VSend (s:aM):Prop:=s.Items.length≤60∧(0≤s.Base∧s.Base≤1000000)∧s.Base+s.Items.length≤1000000∧OkItems 0 s.Items
instance (s:aM):Decidable (VSend s):=by unfold VSend;infer_instance
theorem zO (b:Int):∀(t pre:List aQ),(pre++t).length≤60→Wp (fun k=>bM k (pre.length:Int) b (pre++t)) (· =decide (OkItems pre.length t))
  | [],pre,hl=>by
    refine Wp.step ?_
    simp only [bM,List.append_nil]
    simp (disch:=omega) only [aJ,if_neg]
    exact Wp.ret rfl
  | x::t,pre,hl=>by
    refine Wp.step ?_
    have hl':=hl
    simp only [List.length_append,List.length_cons] at hl
    simp only [bM,OkItems]
    simp (disch:=omega) only [aJ,iE,if_true,bK,Option.bind_some,bQ,cE,DD]
    have F:¬OkItem pre.length x→Wp (fun _=>some false) (· =decide (OkItem pre.length x∧OkItems (pre.length+1) t)):=fun h=>Wp.ret (decide_eq_false fun h'=>h h'.1).symm
    have ih:=zO b t (pre++[x]) (by simpa using hl')
    rw [←cM,←bV,List.length_append,List.length_singleton] at ih
    have G:OkItem pre.length x→Wp (fun k=>bM k ((pre.length:Int)+1) b (pre++x::t)) (· =decide (OkItem pre.length x∧OkItems (pre.length+1) t)):=fun h=>by
      refine Wp.mono ih fun r hr=> ?_
      rw [hr,decide_eq_decide]
      exact ⟨fun g=>⟨h,g⟩,fun g=>g.2⟩
    refine Wp.ite (fun h=>F fun h'=>by have:=h'.1;omega) (fun h1=> ?_)
    refine Wp.bind (dM _ _ _) (fun _ e=> ?_);subst e
    simp only [inB,aJ]
    refine Wp.ite (fun h2=> ?_) (fun h2=>F fun h'=>h2 h'.2.1)
    refine Wp.ite (fun h3=> ?_) (fun h3=> ?_)
    ·refine Wp.ite (fun h4=> ?_) (fun h4=>F fun h'=>h4 (h'.2.2.1 (by omega)))
     refine Wp.bif (fun h5=> ?_) (fun h5=> ?_)
     ·refine Wp.ite (fun h6=>F fun h'=>by have:=h'.2.2.2 h5;omega) (fun h6=>by omega)
     ·exact G ⟨by omega,h2,fun _=>h4,fun h=>by rw [h5] at h;cases h⟩
    ·refine Wp.bif (fun h5=> ?_) (fun h5=> ?_)
     ·refine Wp.ite (fun h6=>F fun h'=>by have:=h'.2.2.2 h5;omega) (fun h6=> ?_)
      exact G ⟨by omega,h2,fun h=>by omega,fun _=>by omega⟩
     ·exact G ⟨by omega,h2,fun h=>by omega,fun h=>by rw [h5] at h;cases h⟩
theorem i7 (s:aM):Wp (fun k=>dC k s) (· =decide (VSend s)):=by
  unfold dC
  simp only [aJ,cE]
  have F:¬VSend s→Wp (fun _=>some false) (· =decide (VSend s)):=fun h=>Wp.ret (decide_eq_false h).symm
  refine Wp.ite (fun h=>F fun h'=>by have:=h'.1;omega) (fun h1=> ?_)
  refine Wp.bind (dM _ _ _) (fun _ e=> ?_);subst e
  simp only [inB,aJ]
  refine Wp.ite (fun h2=> ?_) (fun h2=>F fun h'=>h2 h'.2.1)
  rw [bQ (by omega) (by omega)]
  refine Wp.ite (fun h3=>F fun h'=>by have:=h'.2.2.1;omega) (fun h3=> ?_)
  refine Wp.mono (zO s.Base s.Items [] (by simp;omega)) fun r hr=> ?_
  rw [hr,decide_eq_decide]
  exact ⟨fun h=>⟨by omega,h2,by omega,h⟩,fun h=>h.2.2.2⟩
theorem vM (xs:List aQ) (b:Int):∀(k:Nat) (j:Int),c8 k xs (xs.length:Int) j=bM k j b xs
  | 0,_=>rfl
  | k+1,j=>by
    have hi:∀a b c,bR k a b c=a6 k a b c:=fun _ _ _=>rfl
    simp only [c8,bM,vM xs b k,hi]
theorem LT (k:Nat) (s:aM):cS k s=dC k s:=by
  have hi:∀a b c,bR k a b c=a6 k a b c:=fun _ _ _=>rfl
  simp only [cS,dC,hi,vM s.Items s.Base]
theorem mA (s:aM):Wp (fun k=>cS k s) (· =decide (VSend s)):=by
  have:(fun k=>cS k s)=fun k=>dC k s:=funext fun k=>LT k s
  rw [this];exact i7 s
theorem xS (s:aM) (h:s.Items.length≤1048576):Wp (fun k=>mF k s) (· =s):=by
  unfold mF
  refine Wp.opt (bP (by simp;omega)) ?_
  exact Wp.ret (by rw [List.nil_append])
theorem AY (s:aM) (h:s.Items.length≤1048576):Wp (fun k=>kM k s) (· =s):=xS s h
abbrev wR:aM:=⟨0,[]⟩
def BE (x:aQ):aQ:=if x.Has=true then x else if x.Since= -1 then ⟨x.Part,x.Has,0⟩ else if x.Since=3 then ⟨x.Part,x.Has,0⟩ else ⟨x.Part,x.Has,x.Since+1⟩
def tU (x:aQ):Prop:=¬x.Has=true∧(x.Since= -1∨x.Since=3)
instance (x:aQ):Decidable (tU x):=by unfold tU;infer_instance
def pB:Nat→Int→List aQ→List aQ×List Int
  | _,_,[]=>([],[])
  | i,b,x::t=>if 8≤i then (x::t,[]) else (BE x::(pB (i+1) b t).1,(if tU x then [b+i] else [])++(pB (i+1) b t).2)
def AF (s:aM):aM×List Int:=if VSend s then (⟨s.Base,(pB 0 s.Base s.Items).1⟩,(pB 0 s.Base s.Items).2) else (wR,[])
theorem M1 (b:Int) (xs ys:List aQ) (c d:Int) (hb:0≤b∧b≤1000000):∀(t pre:List aQ) (sent:List Int),(pre++t).length≤60→sent.length≤pre.length→OkItems pre.length t→
    Wp (fun k=>fN k (pre.length:Int) b xs c sent d ys (pre++t)) (· =(⟨d,pre++(pB pre.length b t).1⟩,sent++(pB pre.length b t).2))
  | [],pre,sent,hl,hs,hok=>by
    refine Wp.step ?_
    simp only [fN,List.append_nil]
    simp (disch:=omega) only [aJ,if_neg]
    exact Wp.ret (by simp [pB])
  | x::t,pre,sent,hl,hs,hok=>by
    refine Wp.step ?_
    have hl':=hl
    simp only [List.length_append,List.length_cons] at hl
    simp only [fN]
    simp only [aJ,iE,if_true,bK,j5,Option.bind_some,kH,set_mid]
    simp (disch:=omega) only [bQ]
    refine Wp.ite (fun h8=> ?_) (fun h8=> ?_)
    ·have ih:=fun y sent' hs'=>M1 b xs ys c d hb t (pre++[y]) sent' (by simpa using hl') hs' (by rw [List.length_append,List.length_singleton];exact hok.2)
     have ih':∀(y:aQ) (sent':List Int),sent'.length≤pre.length+1→BE x=y→sent'=sent++(if tU x then [b+(pre.length:Int)] else [])→
      Wp (fun k=>eH k (pre.length:Int) b xs c sent' d ys (pre++y::t)) (· =(⟨d,pre++(pB pre.length b (x::t)).1⟩,sent++(pB pre.length b (x::t)).2)):=by
       intro y sent' hs' hy hs2
       refine Wp.step ?_
       simp only [eH]
       have:=ih y sent' (by simpa using hs')
       rw [←cM,←bV,List.length_append,List.length_singleton] at this
       rw [bQ (by omega) (by omega)]
       refine this.mono fun r hr=> ?_
       rw [hr]
       simp only [pB]
       rw [if_neg (by omega),hs2,hy]
       simp
     refine Wp.bif (fun hh=>ih' x sent (by omega) (by simp [BE,hh]) (by simp [tU,hh])) (fun hh=> ?_)
     have hx:=hok.1
     refine Wp.ite (fun h1=> ?_) (fun h1=> ?_)
     ·refine Wp.opt (bP (by simp;omega)) ?_
      exact ih' _ _ (by simp;omega) (by simp [BE,hh,h1]) (by simp [tU,hh,h1])
     refine Wp.ite (fun h2=> ?_) (fun h2=> ?_)
     ·refine Wp.opt (bP (by simp;omega)) ?_
      exact ih' _ _ (by simp;omega) (by simp [BE,hh,h2]) (by simp [tU,hh,h2])
     ·have:=hx.2.1
      rw [bQ (by omega) (by omega)]
      exact ih' _ _ (by omega) (by simp [BE,hh,h1,h2]) (by simp [tU,hh,h1,h2])
    ·refine Wp.ret ?_
     simp only [pB]
     rw [if_pos (by omega)];simp
theorem NY (ys:List aQ) (c d:Int) (hb:0≤d∧d≤1000000):∀(t pre:List aQ) (sent:List Int),(pre++t).length≤60→sent.length≤pre.length→OkItems pre.length t→
    Wp (fun k=>fL k (pre.length:Int) c d sent ys (pre++t)) (· =(⟨d,pre++(pB pre.length d t).1⟩,sent++(pB pre.length d t).2))
  | [],pre,sent,hl,hs,hok=>by
    refine Wp.step ?_
    simp only [fL,List.append_nil]
    simp (disch:=omega) only [aJ,if_neg]
    exact Wp.ret (by simp [pB])
  | x::t,pre,sent,hl,hs,hok=>by
    refine Wp.step ?_
    have hl':=hl
    simp only [List.length_append,List.length_cons] at hl
    simp only [fL]
    simp only [aJ,iE,if_true,bK,j5,Option.bind_some,kH,set_mid]
    simp (disch:=omega) only [bQ]
    refine Wp.ite (fun h8=> ?_) (fun h8=> ?_)
    ·have ih:=fun y sent' hs'=>NY ys c d hb t (pre++[y]) sent' (by simpa using hl') hs' (by rw [List.length_append,List.length_singleton];exact hok.2)
     have ih':∀(y:aQ) (sent':List Int),sent'.length≤pre.length+1→BE x=y→sent'=sent++(if tU x then [d+(pre.length:Int)] else [])→
      Wp (fun k=>eJ k (pre.length:Int) c d sent' ys (pre++y::t)) (· =(⟨d,pre++(pB pre.length d (x::t)).1⟩,sent++(pB pre.length d (x::t)).2)):=by
       intro y sent' hs' hy hs2
       refine Wp.step ?_
       simp only [eJ]
       have:=ih y sent' (by simpa using hs')
       rw [←cM,←bV,List.length_append,List.length_singleton] at this
       rw [bQ (by omega) (by omega)]
       refine this.mono fun r hr=> ?_
       rw [hr]
       simp only [pB]
       rw [if_neg (by omega),hs2,hy]
       simp
     refine Wp.bif (fun hh=>ih' x sent (by omega) (by simp [BE,hh]) (by simp [tU,hh])) (fun hh=> ?_)
     have hx:=hok.1
     refine Wp.ite (fun h1=> ?_) (fun h1=> ?_)
     ·refine Wp.opt (bP (by simp;omega)) ?_
      exact ih' _ _ (by simp;omega) (by simp [BE,hh,h1]) (by simp [tU,hh,h1])
     refine Wp.ite (fun h2=> ?_) (fun h2=> ?_)
     ·refine Wp.opt (bP (by simp;omega)) ?_
      exact ih' _ _ (by simp;omega) (by simp [BE,hh,h2]) (by simp [tU,hh,h2])
     ·have:=hx.2.1
      rw [bQ (by omega) (by omega)]
      exact ih' _ _ (by omega) (by simp [BE,hh,h1,h2]) (by simp [tU,hh,h1,h2])
    ·refine Wp.ret ?_
     simp only [pB]
     rw [if_pos (by omega)];simp
theorem WI (s:aM):Wp (fun k=>pT k s) (· =AF s):=by
  unfold pT AF
  refine Wp.bind (i7 s) (fun _ e=> ?_);subst e
  simp only [cE,aJ]
  refine Wp.ite (fun h=> ?_) (fun h=>Wp.ret (by rw [if_neg h]))
  rw [if_pos h]
  refine Wp.bind (xS s (by have:=h.1;omega)) (fun _ e=> ?_);subst e
  exact M1 _ _ _ _ _ h.2.1 _ [] [] (by simpa using h.1) (by simp) h.2.2.2
theorem V1 (s:aM):Wp (fun k=>qA k s) (· =AF s):=by
  unfold qA AF
  refine Wp.bind (mA s) (fun _ e=> ?_);subst e
  simp only [cE,aJ]
  refine Wp.ite (fun h=> ?_) (fun h=>Wp.ret (by rw [if_neg h]))
  rw [if_pos h]
  refine Wp.bind (AY s (by have:=h.1;omega)) (fun _ e=> ?_);subst e
  exact NY _ _ _ h.2.1 _ [] [] (by simpa using h.1) (by simp) h.2.2.2
theorem uY:VSend wR:=⟨by simp,by simp,by simp,trivial⟩
theorem I9:∀{l:List aQ} {i:Nat},OkItems i l→∀x∈l,x.Part.Text.size≤20
  | [],_,_,x,h=>by simp at h
  | y::t,i,⟨h1,h2⟩,x,h=>by
    rcases List.mem_cons.mp h with rfl | h
    ·exact h1.1
    ·exact I9 h2 x h
theorem VSend.sm {s:aM} (h:VSend s):a0_ s:=by
  unfold a0_ smL
  refine ⟨by have:=h.1;omega,fun x hx=> ?_⟩
  have:=I9 h.2.2.2 x hx
  show x.Part.Text.size≤1048576
  omega
theorem Z9 (x:aQ):(BE x).Part=x.Part:=by unfold BE;repeat' split<;>try rfl
theorem O1:∀(t:List aQ) (i:Nat) (b:Int),OkItems i t→OkItems i (pB i b t).1∧(pB i b t).1.length=t.length∧(pB i b t).2.length≤t.length
  | [],i,b,h=>⟨trivial,rfl,by simp [pB]⟩
  | x::t,i,b,⟨h1,h2⟩=>by
    simp only [pB]
    split
    ·exact ⟨⟨h1,h2⟩,rfl,by simp⟩
    ·have:=O1 t (i+1) b h2
     refine ⟨⟨?_,this.1⟩,by simp [this.2.1], ?_⟩
     ·obtain ⟨a1,a2,a3,a4⟩:=h1
      refine ⟨by rw [Z9];exact a1, ?_,fun _=>by omega, ?_⟩
      ·unfold BE;split
       ·exact a2
       ·split
        ·simp
        ·split
         ·simp
         ·simp only;omega
      ·unfold BE;split
       ·exact a4
       ·rename_i hh
        split
        ·intro h;exact absurd h hh
        ·split<;>(intro h;exact absurd h hh)
     ·have h3:=this.2.2
      simp only [List.length_append,List.length_cons]
      split<;>simp<;>omega
theorem PG (s:aM):VSend (AF s).1∧(AF s).2.length≤60:=by
  unfold AF
  split
  ·rename_i h
   have:=O1 s.Items 0 s.Base h.2.2.2
   refine ⟨⟨by simp only;rw [this.2.1];exact h.1,h.2.1,by simp only;rw [this.2.1];exact h.2.2.1,this.1⟩,by have:=h.1;simp only;omega⟩
  ·exact ⟨uY,by simp⟩
def cF_:Nat→ByteArray→List cA
  | 0,_=>[]
  | n+1,s=>if 20<s.size then ⟨s.extract 0 20,false⟩::cF_ n (s.extract 20 s.size) else [⟨s,true⟩]
theorem YL:∀(n:Nat) (s:ByteArray) (acc:List cA),s.size≤20*n→acc.length+n≤100→0<n→Wp (fun k=>mI k s acc) (· =acc++cF_ n s)
  | 0,s,acc,h,hl,h0=>by omega
  | n+1,s,acc,h,hl,h0=>by
    refine Wp.step ?_
    simp only [mI,cF_]
    simp only [aJ]
    refine Wp.ite (fun h1=> ?_) (fun h1=> ?_)
    ·have h1':20<s.size:=by omega
     rw [if_pos h1']
     refine Wp.opt (bX (by omega)) ?_
     refine Wp.opt (bP (by simp;omega)) ?_
     refine Wp.opt (bX (by omega)) ?_
     have:=YL n (s.extract 20 s.size) (acc++[⟨s.extract 0 20,false⟩]) (by rw [ByteArray.size_extract];omega) (by simp;omega) (by omega)
     simp only [List.append_assoc,List.cons_append,List.nil_append] at this
     exact this
    ·rw [if_neg (by omega)]
     refine Wp.opt (bP (by simp;omega)) ?_
     exact Wp.ret rfl
theorem XR:∀(k:Nat) (s:ByteArray) (acc:List cA),rM k s acc=mI k s acc
  | 0,_,_=>rfl
  | k+1,s,acc=>by
    simp only [rM,mI,XR k]
def bu_ (s:ByteArray):List cA:=if 200<s.size then [] else cF_ 10 s
theorem NI (s:ByteArray):Wp (fun k=>yF k s) (· =bu_ s):=by
  unfold yF bu_
  simp only [aJ]
  refine Wp.ite (fun h=> ?_) (fun h=> ?_)
  ·rw [if_pos (by omega)];exact Wp.ret rfl
  ·rw [if_neg (by omega)];exact YL 10 s [] (by omega) (by simp) (by omega)
theorem ZZ (s:ByteArray):Wp (fun k=>C3 k s) (· =bu_ s):=by
  have:(fun k=>C3 k s)=fun k=>yF k s:=funext fun k=>by simp only [C3,yF,XR]
  rw [this];exact NI s
theorem bT_:∀(n:Nat) (s:ByteArray),s.size≤20*n→(cF_ n s).length≤n∧∀p∈cF_ n s,p.Text.size≤20
  | 0,s,h=>⟨by simp [cF_],fun p hp=>by simp [cF_] at hp⟩
  | n+1,s,h=>by
    simp only [cF_]
    split
    ·have:=bT_ n (s.extract 20 s.size) (by rw [ByteArray.size_extract];omega)
     refine ⟨by simp [this.1],fun p hp=> ?_⟩
     rcases List.mem_cons.mp hp with rfl | hp
     ·simp only [ByteArray.size_extract];omega
     ·exact this.2 p hp
    ·refine ⟨by simp,fun p hp=> ?_⟩
     simp only [List.mem_singleton] at hp
     subst hp;simp only;omega
theorem WA (s:ByteArray):(bu_ s).length≤10∧∀p∈bu_ s,p.Text.size≤20:=by
  unfold bu_
  split
  ·exact ⟨by simp,fun p hp=>by simp at hp⟩
  ·exact bT_ 10 s (by omega)
def dZ_ (p:cA):aQ:=⟨p,false,-1⟩
def CQ (s:aM) (t:ByteArray):aM×Int:=
  if VSend s∧t.size≤200 then
   if s.Items.length+(bu_ t).length≤60∧s.Base+(s.Items.length+(bu_ t).length:Nat)≤1000000 then (⟨s.Base,s.Items++(bu_ t).map dZ_⟩,0) else (wR,3)
  else (wR,1)
theorem S3 (c b:Int) (e:List aQ):∀(t pre:List cA) (acc:List aQ),(pre++t).length≤100→acc.length+t.length≤1000→
    Wp (fun k=>fQ k (pre.length:Int) c (pre++t) b e acc) (· =(⟨b,acc++t.map dZ_⟩,0))
  | [],pre,acc,hl,ha=>by
    refine Wp.step ?_
    simp only [fQ,List.append_nil]
    simp (disch:=omega) only [aJ,if_neg]
    exact Wp.ret (by simp)
  | x::t,pre,acc,hl,ha=>by
    refine Wp.step ?_
    have hl':=hl
    simp only [List.length_append,List.length_cons] at hl ha
    simp only [fQ]
    simp only [aJ,iE,if_true,bK,j5,Option.bind_some]
    refine Wp.opt (bP (by simp;omega)) ?_
    simp (disch:=omega) only [bQ]
    have ih:=S3 c b e t (pre++[x]) (acc++[dZ_ x]) (by simpa using hl') (by simp;omega)
    rw [←cM,←bV] at ih
    simp only [List.append_assoc,List.cons_append,List.nil_append] at ih
    exact ih
theorem SF (c b:Int) (e:List aQ):∀(t pre:List cA) (acc:List aQ),(pre++t).length≤100→acc.length+t.length≤1000→
    Wp (fun k=>fJ k ((pre++t).length:Int) (pre.length:Int) c b (pre++t) e acc) (· =(⟨b,acc++t.map dZ_⟩,0))
  | [],pre,acc,hl,ha=>by
    refine Wp.step ?_
    simp only [fJ,List.append_nil]
    simp (disch:=omega) only [aJ,if_neg]
    exact Wp.ret (by simp)
  | x::t,pre,acc,hl,ha=>by
    refine Wp.step ?_
    have hl':=hl
    simp only [List.length_append,List.length_cons] at hl ha
    simp only [fJ]
    simp only [aJ,iE,if_true,bK,j5,Option.bind_some]
    refine Wp.opt (bP (by simp;omega)) ?_
    simp (disch:=omega) only [bQ]
    have ih:=SF c b e t (pre++[x]) (acc++[dZ_ x]) (by simpa using hl') (by simp;omega)
    rw [←cM,←bV] at ih
    simp only [List.append_assoc,List.cons_append,List.nil_append] at ih
    exact ih
theorem WT (s:aM) (t:ByteArray):Wp (fun k=>pV k s t) (· =CQ s t):=by
  unfold pV CQ
  refine Wp.bind (i7 s) (fun _ e=> ?_);subst e
  simp only [cE,aJ]
  refine Wp.ite (fun h=> ?_) (fun h=>Wp.ret (by rw [if_neg (fun g=>h g.1)]))
  refine Wp.ite (fun h2=>Wp.ret (by rw [if_neg (fun g=>by omega)])) (fun h2=> ?_)
  rw [if_pos ⟨h,by omega⟩]
  refine Wp.bind (NI t) (fun _ e=> ?_);subst e
  have:=h.1;have hb:=h.2.1;have hc:=(WA t).1
  simp (disch:=omega) only [bQ]
  refine Wp.ite (fun h3=>Wp.ret (by rw [if_neg (fun g=>by omega)])) (fun h3=> ?_)
  refine Wp.ite (fun h4=>Wp.ret (by rw [if_neg (fun g=>by omega)])) (fun h4=> ?_)
  rw [if_pos ⟨by omega,by omega⟩]
  refine Wp.bind (xS s (by omega)) (fun _ e=> ?_);subst e
  exact S3 _ _ _ (bu_ t) [] _ (by simp;omega) (by omega)
theorem W6 (s:aM) (t:ByteArray):Wp (fun k=>pS k s t) (· =CQ s t):=by
  unfold pS CQ
  refine Wp.bind (mA s) (fun _ e=> ?_);subst e
  simp only [cE,aJ]
  refine Wp.ite (fun h=> ?_) (fun h=>Wp.ret (by rw [if_neg (fun g=>h g.1)]))
  refine Wp.ite (fun h2=>Wp.ret (by rw [if_neg (fun g=>by omega)])) (fun h2=> ?_)
  rw [if_pos ⟨h,by omega⟩]
  refine Wp.bind (ZZ t) (fun _ e=> ?_);subst e
  have:=h.1;have hb:=h.2.1;have hc:=(WA t).1
  simp (disch:=omega) only [bQ]
  refine Wp.ite (fun h3=>Wp.ret (by rw [if_neg (fun g=>by omega)])) (fun h3=> ?_)
  refine Wp.ite (fun h4=>Wp.ret (by rw [if_neg (fun g=>by omega)])) (fun h4=> ?_)
  rw [if_pos ⟨by omega,by omega⟩]
  refine Wp.bind (AY s (by omega)) (fun _ e=> ?_);subst e
  exact SF _ _ _ (bu_ t) [] _ (by simp;omega) (by omega)
theorem J1:∀{l r:List aQ} {i:Nat},OkItems i l→OkItems (i+l.length) r→OkItems i (l++r)
  | [],r,i,_,h=>by simpa using h
  | x::l,r,i,⟨h1,h2⟩,h=>⟨h1,J1 h2 (by rwa [show i+1+l.length=i+(x::l).length by simp;omega])⟩
theorem J4:∀{l:List cA} {i:Nat},(∀p∈l,p.Text.size≤20)→OkItems i (l.map dZ_)
  | [],i,h=>trivial
  | p::l,i,h=>⟨⟨h p (List.mem_cons_self ..),by simp [dZ_],fun _=>rfl,fun h=>by simp [dZ_] at h⟩,J4 fun q hq=>h q (List.mem_cons_of_mem _ hq)⟩
theorem cE_ (s:aM) (t:ByteArray):VSend (CQ s t).1:=by
  unfold CQ
  split
  ·rename_i h
   split
   ·rename_i h2
    refine ⟨by simp only [List.length_append,List.length_map];omega,h.1.2.1, ?_,J1 h.1.2.2.2 (J4 (WA t).2)⟩
    simp only [List.length_append,List.length_map]
    exact h2.2
   ·exact uY
  ·exact uY
def tP:List aQ→Nat
  | []=>0
  | x::t=>if 0≤x.Since then tP t+1 else 0
theorem I1:∀l:List aQ,tP l≤l.length
  | []=>Nat.le_refl _
  | x::t=>by have:=I1 t;simp only [tP,List.length_cons];split<;>omega
def QR:Nat→Nat→List aQ→List aQ
  | _,_,[]=>[]
  | i,m,x::t=>(if i<8∧m%2=1∧0≤x.Since then ⟨x.Part,true,x.Since⟩ else x)::QR (i+1) (m/2) t
theorem UL:∀(i m:Nat) (l:List aQ),8≤i→QR i m l=l
  | i,m,[],h=>rfl
  | i,m,x::t,h=>by simp only [QR];rw [if_neg (by omega),UL (i+1) _ t (by omega)]
def VC (s:aM) (n m:Int):aM:=
  if VSend s then
   if s.Base≤n∧n≤s.Base+tP s.Items∧0≤m∧m≤255 then ⟨n,QR 0 m.toNat (s.Items.drop (n-s.Base).toNat)⟩ else s
  else wR
theorem NF (b:Int):∀(t pre:List aQ),(pre++t).length≤1000→Wp (fun k=>hC k (pre.length:Int) b (pre++t)) (· =((pre.length+tP t:Nat):Int))
  | [],pre,hl=>by
    refine Wp.step ?_
    simp only [hC,List.append_nil]
    simp (disch:=omega) only [aJ,if_neg]
    exact Wp.ret rfl
  | x::t,pre,hl=>by
    refine Wp.step ?_
    have hl':=hl
    simp only [List.length_append,List.length_cons] at hl
    simp only [hC]
    simp only [aJ,iE,if_true,bK,j5,Option.bind_some]
    simp only [tP]
    refine Wp.ite (fun h=> ?_) (fun h=> ?_)
    ·rw [if_pos (by omega)]
     simp (disch:=omega) only [bQ]
     have ih:=NF b t (pre++[x]) (by simpa using hl')
     rw [←cM,←bV] at ih
     refine ih.mono fun r hr=> ?_
     rw [hr,List.length_append,List.length_singleton];omega
    ·rw [if_neg (by omega)];exact Wp.ret rfl
theorem fT_ (m:Nat):J0 (m:Int) 2=some ((m%2:Nat):Int):=by rw [kW (by omega) (by omega)];simp
theorem gj_ (m:Nat):UH (m:Int) 2=some ((m/2:Nat):Int):=by rw [uV (by omega) (by omega)];simp
theorem CG (c b:Int) (e:List aQ) (xs:List aQ) (hx:xs.length≤1000):∀(d i m:Nat),i+d=8→xs.length≤i→m≤255→
    Wp (fun k=>cX k (m:Int) (i:Int) c b e xs) (· =⟨b,xs⟩)
  | 0,i,m,h,hi,hm=>by
    refine Wp.step ?_
    simp only [cX]
    simp (disch:=omega) only [aJ,if_neg]
    exact Wp.ret rfl
  | d+1,i,m,h,hi,hm=>by
    refine Wp.step ?_
    simp only [cX]
    simp (disch:=omega) only [aJ,if_pos,fT_,Option.bind_some,kH]
    have ih:=CG c b e xs hx d (i+1) (m/2) (by omega) (by omega) (by omega)
    have G:Wp (fun k=>cN k (m:Int) (i:Int) c b e xs) (· =⟨b,xs⟩):=by
      refine Wp.step ?_
      simp only [cN]
      simp (disch:=omega) only [gj_,Option.bind_some,bQ,cO_]
      exact ih
    refine Wp.ite (fun h1=> ?_) (fun h1=>G)
    simp (disch:=omega) only [if_neg]
    exact G
theorem SJ (c b:Int) (e:List aQ):∀(t pre:List aQ) (m:Nat),(pre++t).length≤1000→m≤255→
    Wp (fun k=>cX k (m:Int) (pre.length:Int) c b e (pre++t)) (· =⟨b,pre++QR pre.length m t⟩)
  | [],pre,m,hl,hm=>by
    rw [List.append_nil] at hl⊢
    simp only [QR,List.append_nil]
    by_cases h8:pre.length≤8
    ·exact CG c b e pre hl (8-pre.length) pre.length m (by omega) (Nat.le_refl _) hm
    ·refine Wp.step ?_
     simp only [cX]
     simp (disch:=omega) only [aJ,if_neg]
     exact Wp.ret rfl
  | x::t,pre,m,hl,hm=>by
    refine Wp.step ?_
    have hl':=hl
    simp only [List.length_append,List.length_cons] at hl
    simp only [cX]
    simp only [aJ,iE,if_true,bK,j5,Option.bind_some,set_mid,kH]
    refine Wp.ite (fun h8=> ?_) (fun h8=>Wp.ret (by rw [UL _ _ _ (by omega)]))
    have ih:∀y:aQ,(if pre.length<8∧m%2=1∧0≤x.Since then ⟨x.Part,true,x.Since⟩ else x)=y→
     Wp (fun k=>cN k (m:Int) (pre.length:Int) c b e (pre++y::t)) (· =⟨b,pre++QR pre.length m (x::t)⟩):=by
      intro y hy
      refine Wp.step ?_
      simp only [cN]
      simp (disch:=omega) only [gj_,Option.bind_some,bQ]
      have:=SJ c b e t (pre++[y]) (m/2) (by simpa using hl') (by omega)
      rw [←cM,←bV,List.length_append,List.length_singleton] at this
      refine this.mono fun r hr=> ?_
      rw [hr]
      simp only [QR,List.append_assoc,List.cons_append,List.nil_append,hy]
    simp (disch:=omega) only [fT_,Option.bind_some]
    refine Wp.ite (fun h1=> ?_) (fun h1=>ih x (by rw [if_neg (by omega)]))
    refine Wp.ite (fun h2=>ih _ (by rw [if_pos (by omega)])) (fun h2=>ih x (by rw [if_neg (by omega)]))
theorem W0 (s:aM) (n m:Int):Wp (fun k=>qK k s n m) (· =VC s n m):=by
  unfold qK VC
  refine Wp.bind (i7 s) (fun _ e=> ?_);subst e
  simp only [cE,aJ]
  refine Wp.ite (fun h=> ?_) (fun h=>Wp.ret (by rw [if_neg h]))
  rw [if_pos h]
  have:=h.1;have hb:=h.2.1
  refine Wp.bind (xS s (by omega)) (fun r2 e=> ?_);rw [e]
  refine Wp.ite (fun h2=>Wp.ret (by rw [if_neg (by omega)])) (fun h2=> ?_)
  refine Wp.bind (P:=fun r=>r=((0+tP s.Items:Nat):Int)) (NF s.Base s.Items [] (by simp;omega)) (fun _ e=> ?_);subst e
  have hf:=I1 s.Items
  simp (disch:=omega) only [bQ]
  refine Wp.ite (fun h3=>Wp.ret (by rw [if_neg (by omega)])) (fun h3=> ?_)
  refine Wp.bind (dM _ _ _) (fun _ e=> ?_);subst e
  simp only [inB,aJ]
  refine Wp.ite (fun h4=> ?_) (fun h4=>Wp.ret (by rw [if_neg (by omega)]))
  rw [if_pos (by omega)]
  refine Wp.opt (bX (by omega)) ?_
  refine Wp.opt (bP (by simp [iA];omega)) ?_
  have e1:([]:List aQ)++iA s.Items (n-s.Base).toNat (s.Items.length:Int).toNat=s.Items.drop (n-s.Base).toNat:=by simp [iA]
  rw [e1]
  have:=SJ 0 n [] (s.Items.drop (n-s.Base).toNat) [] m.toNat (by simp;omega) (by omega)
  simp only [List.nil_append,List.length_nil,Int.toNat_of_nonneg h4.1] at this
  exact this
theorem cW_ (n:Nat) (hn:n<281474976710656):aX_ .i64 (n:Int) 1=((n%2:Nat):Int):=by
  have e:∀m:Nat,BitVec.ofInt 64 (m:Int)=BitVec.ofNat 64 m:=fun m=>by
    apply BitVec.eq_of_toNat_eq
    simp [BitVec.toNat_ofInt]
  show IntKind.wrap .i64 ((BitVec.ofInt 64 (n:Int)&&&BitVec.ofInt 64 ((1:Nat):Int)).toNat:Int)=_
  rw [e,e,BitVec.toNat_and,BitVec.toNat_ofNat,BitVec.toNat_ofNat,Nat.mod_eq_of_lt (by omega),Nat.mod_eq_of_lt (by omega),Nat.and_one_is_mod]
  exact bQ (by omega) (by omega)
theorem gb_ (n i:Nat) (h:i≤64):shift .shr .i64 (n:Int) (i:Int)=some ((n/2^i:Nat):Int):=by
  simp only [shift]
  rw [if_neg (by omega)]
  congr 1
  rw [Int.toNat_natCast,show IntKind.i64.bits=64 from rfl,Nat.min_eq_left h,Int.fdiv_eq_ediv_of_nonneg _ (by exact Int.le_of_lt (Int.pow_pos (by decide)))]
  simp
theorem JR (c b d:Int) (e:List aQ) (M:Nat) (hM:M≤255):∀(t pre:List aQ),(pre++t).length≤1000→
    Wp (fun k=>c7 k (M:Int) (pre.length:Int) c b e (pre++t)) (· =⟨b,pre++QR pre.length (M/2^pre.length) t⟩)
  | [],pre,hl=>by
    refine Wp.step ?_
    rw [List.append_nil] at hl⊢
    simp only [c7,QR,List.append_nil]
    simp (disch:=omega) only [aJ,if_neg]
    exact Wp.ite (fun h=>Wp.ret rfl) (fun h=>Wp.ret rfl)
  | x::t,pre,hl=>by
    refine Wp.step ?_
    have hl':=hl
    simp only [List.length_append,List.length_cons] at hl
    simp only [c7]
    simp only [aJ,iE,if_true,bK,j5,Option.bind_some,set_mid,kH]
    refine Wp.ite (fun h8=> ?_) (fun h8=>Wp.ret (by rw [UL _ _ _ (by omega)]))
    have ih:∀y:aQ,(if pre.length<8∧M/2^pre.length%2=1∧0≤x.Since then ⟨x.Part,true,x.Since⟩ else x)=y→
     Wp (fun k=>eU k (M:Int) (pre.length:Int) c b e (pre++y::t)) (· =⟨b,pre++QR pre.length (M/2^pre.length) (x::t)⟩):=by
      intro y hy
      refine Wp.step ?_
      simp only [eU]
      simp (disch:=omega) only [bQ]
      have:=JR c b d e M hM t (pre++[y]) (by simpa using hl')
      rw [←cM,←bV,List.length_append,List.length_singleton] at this
      refine this.mono fun r hr=> ?_
      rw [hr]
      simp only [QR,List.append_assoc,List.cons_append,List.nil_append,hy,Nat.div_div_eq_div_mul,Nat.pow_succ]
    have hlt:M/2^pre.length<281474976710656:=Nat.lt_of_le_of_lt (Nat.div_le_self _ _) (by omega)
    rw [gb_ _ _ (by omega)]
    simp only [Option.bind_some]
    rw [cW_ _ hlt]
    refine Wp.ite (fun h1=> ?_) (fun h1=>ih x (by rw [if_neg (by omega)]))
    refine Wp.ite (fun h2=>ih _ (by rw [if_pos (by omega)])) (fun h2=>ih x (by rw [if_neg (by omega)]))
theorem ZK (n m c b:Int) (e:List aQ) (hb:0≤b∧b≤1000000):∀(t pre:List aQ),(pre++t).length≤1000→
    Wp (fun k=>fK k n m (pre.length:Int) c b e (pre++t)) (· =if b≤n∧n≤b+(pre.length+tP t:Nat)∧0≤m∧m≤255 then ⟨n,QR 0 m.toNat ((pre++t).drop (n-b).toNat)⟩ else ⟨b,pre++t⟩):=by
  have F:∀(xs:List aQ) (j:Nat),xs.length≤1000→j≤xs.length→Wp (fun k=>if n<b then some (⟨b,xs⟩:aM) else if n>IntKind.wrap .i64 (b+(j:Int)) then some ⟨b,xs⟩ else
   (bR k m 0 255).bind fun r4=>bif !r4 then some ⟨b,xs⟩ else
     (wnd xs.length (IntKind.wrap .i64 (n-b)) (xs.length:Int)).bind fun p5=>
     (app 40 ([]:List aQ) (iA xs p5.1 p5.2)).bind fun l6=>c7 k m 0 c n e l6)
   (· =if b≤n∧n≤b+(j:Nat)∧0≤m∧m≤255 then ⟨n,QR 0 m.toNat (xs.drop (n-b).toNat)⟩ else ⟨b,xs⟩):=by
    intro xs j hx hj
    refine Wp.ite (fun h2=>Wp.ret (by rw [if_neg (by omega)])) (fun h2=> ?_)
    simp (disch:=omega) only [bQ]
    refine Wp.ite (fun h3=>Wp.ret (by rw [if_neg (by omega)])) (fun h3=> ?_)
    refine Wp.bind (B6 _ _ _) (fun _ e=> ?_);subst e
    simp only [inB,aJ,cE]
    refine Wp.ite (fun h4=> ?_) (fun h4=>Wp.ret (by rw [if_neg (by omega)]))
    rw [if_pos (by omega)]
    refine Wp.opt (bX (by omega)) ?_
    refine Wp.opt (bP (by simp [iA];omega)) ?_
    have e1:([]:List aQ)++iA xs (n-b).toNat (xs.length:Int).toNat=xs.drop (n-b).toNat:=by simp [iA]
    rw [e1]
    have:=JR c n 0 e m.toNat (by omega) (xs.drop (n-b).toNat) [] (by simp;omega)
    simp only [List.nil_append,List.length_nil,Int.toNat_of_nonneg h4.1,Nat.pow_zero,Nat.div_one] at this
    exact this
  intro t
  induction t with
  | nil=>
    intro pre hl
    refine Wp.step ?_
    simp only [fK]
    rw [List.append_nil] at hl⊢
    simp (disch:=omega) only [aJ,if_neg]
    exact F pre pre.length hl (Nat.le_refl _)
  | cons x t ih=>
    intro pre hl
    refine Wp.step ?_
    simp only [fK]
    simp only [aJ,iE,if_true,bK,j5,Option.bind_some]
    have hl':=hl
    simp only [List.length_append,List.length_cons] at hl
    refine Wp.ite (fun h=> ?_) (fun h=> ?_)
    ·rw [bQ (by omega) (by omega)]
     have:=ih (pre++[x]) (by simpa using hl')
     rw [←cM,←bV,List.length_append,List.length_singleton] at this
     have e:pre.length+tP (x::t)=pre.length+1+tP t:=by simp only [tP];rw [if_pos h];omega
     simp only [e]
     exact this
    ·have e:tP (x::t)=0:=by simp only [tP];rw [if_neg h]
     simp only [e]
     exact F (pre++x::t) pre.length (by simpa using hl') (by simp)
theorem WF (s:aM) (n m:Int):Wp (fun k=>qH k s n m) (· =VC s n m):=by
  unfold qH VC
  refine Wp.bind (mA s) (fun _ e=> ?_);subst e
  simp only [cE,aJ]
  refine Wp.ite (fun h=> ?_) (fun h=>Wp.ret (by rw [if_neg h]))
  rw [if_pos h]
  have:=h.1;have hb:=h.2.1
  refine Wp.bind (AY s (by omega)) (fun r2 e=> ?_);rw [e]
  have:=ZK n m 0 s.Base [] hb s.Items [] (by simp;omega)
  simp only [List.nil_append,List.length_nil,Nat.zero_add] at this
  exact this
theorem OkItem.mono {i j:Nat} {x:aQ} (h:OkItem j x) (hij:i≤j):OkItem i x:=⟨h.1,h.2.1,fun h8=>h.2.2.1 (by omega),h.2.2.2⟩
theorem OkItems.mono:∀{l:List aQ} {i j:Nat},OkItems j l→i≤j→OkItems i l
  | [],_,_,_,_=>trivial
  | x::t,i,j,⟨h1,h2⟩,hij=>⟨h1.mono hij,h2.mono (by omega)⟩
theorem OkItems.drop:∀{l:List aQ} {i:Nat} (d:Nat),OkItems i l→OkItems i (l.drop d)
  | l,i,0,h=>h
  | [],i,d+1,h=>trivial
  | x::t,i,d+1,⟨_,h2⟩=>(OkItems.drop d h2).mono (by omega)
theorem JK:∀{l:List aQ} {i m:Nat},OkItems i l→OkItems i (QR i m l)
  | [],_,_,_=>trivial
  | x::t,i,m,⟨h1,h2⟩=>by
    refine ⟨?_,JK h2⟩
    split
    ·rename_i h;exact ⟨h1.1,h1.2.1,h1.2.2.1,fun _=>h.2.2⟩
    ·exact h1
theorem BH:∀(i m:Nat) (l:List aQ),(QR i m l).length=l.length
  | _,_,[]=>rfl
  | i,m,x::t=>by simp [QR,BH (i+1) (m/2) t]
theorem di_ (s:aM) (n m:Int):VSend (VC s n m):=by
  unfold VC
  split
  ·rename_i h
   split
   ·rename_i h2
    have hf:=I1 s.Items
    obtain ⟨v1,v2,v3,v4⟩:=h
    refine ⟨?_, ?_, ?_,JK (v4.drop _)⟩
    ·simp only [BH,List.length_drop];omega
    ·simp only;omega
    ·simp only [BH,List.length_drop];omega
   ·assumption
  ·exact uY
def goes (o:ByteArray) (r:List ByteArray) (p:cA):Prop:=o.size+p.Text.size≤200∧(p.Last=true→r.length<4)
instance (o:ByteArray) (r:List ByteArray) (p:cA):Decidable (goes o r p):=by unfold goes;infer_instance
theorem ct_ (n:Int) (h:List aR) (o:ByteArray) (r:List ByteArray) (p:cA) (ho:o.size≤1048576) (hp:p.Text.size≤1048576):Wp (fun k=>mQ k ⟨n,h,o,r⟩ p) (· =decide (goes o r p)):=by
  unfold mQ
  simp (disch:=omega) only [bQ,aJ,cE]
  refine Wp.ite (fun h1=> ?_) (fun h1=>Wp.ret (decide_eq_false fun h=>by have:=h.1;omega).symm)
  refine Wp.bif (fun h2=> ?_) (fun h2=> ?_)
  ·refine Wp.ret ?_
   rw [decide_eq_decide]
   exact ⟨fun h=>⟨by omega,fun _=>by omega⟩,fun h=>by have:=h.2 h2;omega⟩
  ·exact Wp.ret (decide_eq_true ⟨by omega,fun h=>by rw [h2] at h;cases h⟩).symm
theorem eA_ (n:Int) (h:List aR) (o:ByteArray) (r:List ByteArray) (p:cA) (ho:o.size≤1048576) (hp:p.Text.size≤1048576):Wp (fun k=>qT k ⟨n,h,o,r⟩ p) (· =decide (goes o r p)):=ct_ n h o r p ho hp
def WHs (n:Int):Int→List aR→Prop
  | _,[]=>True
  | p,x::t=>(p<x.Seq∧x.Seq≤n+7∧x.Seq≤999999∧x.Part.Text.size≤20)∧WHs n x.Seq t
instance fH_ (n:Int):(p:Int)→(l:List aR)→Decidable (WHs n p l)
  | _,[]=> .isTrue trivial
  | p,x::t=>by
    have:=fH_ n x.Seq t
    unfold WHs;infer_instance
def XF (n:Int) (o:ByteArray) (r:List ByteArray) (l:List aR):Prop:=∀x∈l,x.Seq=n→¬goes o r x.Part
instance (n:Int) (o:ByteArray) (r:List ByteArray) (l:List aR):Decidable (XF n o r l):=by unfold XF;infer_instance
def SmR (l:List ByteArray):Prop:=∀s∈l,s.size≤200
instance (l:List ByteArray):Decidable (SmR l):=by unfold SmR;infer_instance
def VTake (t:aL):Prop:=(0≤t.Next∧t.Next≤1000000)∧t.Held.length≤8∧t.Open.size≤200∧t.Ready.length≤4∧SmR t.Ready∧WHs t.Next (t.Next-1) t.Held∧XF t.Next t.Open t.Ready t.Held
instance (t:aL):Decidable (VTake t):=by unfold VTake;infer_instance
def jJ (n:Int) (pre:List aR):Int:=match pre.getLast? with | none=>n-1 | some y=>y.Seq
theorem vC (n:Int) (pre:List aR) (x:aR):jJ n (pre++[x])=x.Seq:=by simp [jJ]
theorem OK (n:Int) (pre t:List aR) (h:0<pre.length):∃y,idx (pre++t) ((pre.length:Int)-1)=some y∧jJ n pre=y.Seq:=by
  rcases List.eq_nil_or_concat pre with rfl | ⟨l,y,rfl⟩
  ·simp at h
  ·refine ⟨y, ?_,by simp [jJ]⟩
   simp only [List.concat_eq_append,List.length_append,List.length_singleton]
   rw [show ((l.length+1:Nat):Int)-1=(l.length:Int) by omega,kB]
   simp
theorem b6_ (n s:Int) (h:List aR) (o:ByteArray) (r:List ByteArray) (hn:0≤n∧n≤1000000):Wp (fun k=>rB k ⟨n,h,o,r⟩ s) (· =decide (n≤s∧s≤n+7∧s≤999999)):=by
  unfold rB
  simp (disch:=omega) only [bQ]
  refine Wp.bind (dM _ _ _) (fun _ e=> ?_);subst e
  simp only [inB,aJ]
  refine Wp.ite (fun h1=>Wp.ret ?_) (fun h1=>Wp.ret (decide_eq_false (by omega)).symm)
  rw [decide_eq_decide];omega
theorem zY (n:Int) (o:ByteArray) (r:List ByteArray) (hn:0≤n∧n≤1000000) (ho:o.size≤200):∀(t pre:List aR),(pre++t).length≤1000→n-1≤jJ n pre→
    Wp (fun k=>bL k (pre.length:Int) n (pre++t) o r) (· =decide (WHs n (jJ n pre) t∧XF n o r t))
  | [],pre,hl,hp=>by
    refine Wp.step ?_
    simp only [bL,List.append_nil]
    simp (disch:=omega) only [aJ,if_neg]
    exact Wp.ret (decide_eq_true ⟨trivial,fun x hx=>by simp at hx⟩).symm
  | x::t,pre,hl,hp=>by
    refine Wp.step ?_
    have hl':=hl
    simp only [List.length_append,List.length_cons] at hl
    simp only [bL]
    simp only [aJ,iE,if_true,bK,Option.bind_some]
    have F:¬(WHs n (jJ n pre) (x::t)∧XF n o r (x::t))→Wp (fun _=>some false) (· =decide (WHs n (jJ n pre) (x::t)∧XF n o r (x::t))):=fun h=>Wp.ret (decide_eq_false h).symm
    refine Wp.bind (b6_ n x.Seq _ o r hn) (fun _ e=> ?_);subst e
    simp only [aJ,cE]
    refine Wp.ite (fun h1=> ?_) (fun h1=>F fun h'=>by have:=h'.1.1;omega)
    refine Wp.ite (fun h2=>F fun h'=>by have:=h'.1.1;omega) (fun h2=> ?_)
    have ih:=zY n o r hn ho t (pre++[x]) (by simpa using hl') (by rw [vC];omega)
    rw [←cM,←bV,vC] at ih
    have G:(x.Seq=n→¬goes o r x.Part)→jJ n pre<x.Seq→Wp (fun k=>bL k ((pre.length:Int)+1) n (pre++x::t) o r) (· =decide (WHs n (jJ n pre) (x::t)∧XF n o r (x::t))):=fun h h'=>by
      refine Wp.mono ih fun v hv=> ?_
      rw [hv,decide_eq_decide]
      constructor
      ·rintro ⟨g1,g2⟩
       refine ⟨⟨⟨h',by omega,by omega,by omega⟩,g1⟩,fun y hy=> ?_⟩
       rcases List.mem_cons.mp hy with rfl | hy
       ·exact h
       ·exact g2 y hy
      ·rintro ⟨g1,g2⟩
       exact ⟨g1.2,fun y hy=>g2 y (List.mem_cons_of_mem _ hy)⟩
    have C:jJ n pre<x.Seq→Wp (fun k=>bif x.Seq==n then (mQ k ⟨n,pre++x::t,o,r⟩ x.Part).bind fun r6=>bif r6 then some false else bL k (IntKind.wrap .i64 ((pre.length:Int)+1)) n (pre++x::t) o r
     else bL k (IntKind.wrap .i64 ((pre.length:Int)+1)) n (pre++x::t) o r) (· =decide (WHs n (jJ n pre) (x::t)∧XF n o r (x::t))):=fun h'=>by
      simp (disch:=omega) only [bQ,kH]
      refine Wp.ite (fun h3=> ?_) (fun h3=>G (fun g=>absurd g h3) h')
      refine Wp.bind (ct_ n _ o r x.Part (by omega) (by omega)) (fun _ e=> ?_);subst e
      simp only [aJ]
      exact Wp.ite (fun h4=>F fun g=>g.2 x (List.mem_cons_self ..) h3 h4) (fun h4=>G (fun _=>h4) h')
    refine Wp.ite (fun h3=> ?_) (fun h3=> ?_)
    ·obtain ⟨y,hy,hy'⟩:=OK n pre (x::t) (by omega)
     rw [bQ (by omega) (by omega),hy]
     simp only [Option.bind_some]
     refine Wp.ite (fun h4=>F fun h'=>by have:=h'.1.1;omega) (fun h4=> ?_)
     exact C (by omega)
    ·have:pre=[]:=List.length_eq_zero_iff.mp (by omega)
     exact C (by subst this;simp [jJ];omega)
theorem xA (n:Int) (o:ByteArray) (h:List aR) (hn:0≤n∧n≤1000000) (ho:o.size≤200) (hh:h.length≤8) (rr:List ByteArray):∀(t pre:List ByteArray),pre++t=rr→(pre++t).length≤1000→
    Wp (fun k=>eR k (pre.length:Int) n h o (pre++t)) (· =decide (SmR t∧WHs n (n-1) h∧XF n o rr h))
  | [],pre,hr,hl=>by
    refine Wp.step ?_
    simp only [eR]
    rw [hr] at hl⊢
    rw [List.append_nil] at hr
    subst hr
    simp (disch:=omega) only [aJ,if_neg]
    have:=zY n o pre hn ho h [] (by simp;omega) (by simp [jJ])
    refine this.mono fun v hv=> ?_
    rw [hv,decide_eq_decide]
    exact ⟨fun g=>⟨fun s hs=>by simp at hs,g⟩,fun g=>g.2⟩
  | x::t,pre,hr,hl=>by
    refine Wp.step ?_
    have hl':=hl
    simp only [List.length_append,List.length_cons] at hl
    simp only [eR]
    simp only [aJ,iE,if_true,bK,Option.bind_some]
    refine Wp.ite (fun h1=>Wp.ret (decide_eq_false fun h'=>by have:=h'.1 x (List.mem_cons_self ..);omega).symm) (fun h1=> ?_)
    simp (disch:=omega) only [bQ]
    have ih:=xA n o h hn ho hh rr t (pre++[x]) (by simpa using hr) (by simpa using hl')
    rw [←cM,←bV] at ih
    refine ih.mono fun v hv=> ?_
    rw [hv,decide_eq_decide]
    constructor
    ·rintro ⟨g1,g2⟩
     refine ⟨fun y hy=> ?_,g2⟩
     rcases List.mem_cons.mp hy with rfl | hy
     ·omega
     ·exact g1 y hy
    ·rintro ⟨g1,g2⟩
     exact ⟨fun y hy=>g1 y (List.mem_cons_of_mem _ hy),g2⟩
theorem lV (t:aL):Wp (fun k=>gH k t) (· =decide (VTake t)):=by
  unfold gH
  simp only [aJ,cE]
  have F:¬VTake t→Wp (fun _=>some false) (· =decide (VTake t)):=fun h=>Wp.ret (decide_eq_false h).symm
  refine Wp.bind (dM _ _ _) (fun _ e=> ?_);subst e
  simp only [inB,aJ]
  refine Wp.ite (fun h1=> ?_) (fun h1=>F fun h'=>h1 h'.1)
  refine Wp.ite (fun h2=>F fun h'=>by have:=h'.2.1;omega) (fun h2=> ?_)
  refine Wp.ite (fun h3=>F fun h'=>by have:=h'.2.2.1;omega) (fun h3=> ?_)
  refine Wp.ite (fun h4=>F fun h'=>by have:=h'.2.2.2.1;omega) (fun h4=> ?_)
  refine Wp.mono (xA t.Next t.Open t.Held h1 (by omega) (by omega) t.Ready t.Ready [] rfl (by simp;omega)) fun v hv=> ?_
  rw [hv,decide_eq_decide]
  exact ⟨fun g=>⟨h1,by omega,by omega,by omega,g⟩,fun g=>g.2.2.2.2⟩
theorem zD:∀(t pre:List ByteArray),(pre++t).length≤1000→
    Wp (fun k=>eC k (pre++t) ((pre++t).length:Int) (pre.length:Int)) (· =decide (SmR t))
  | [],pre,hl=>by
    refine Wp.step ?_
    simp only [eC,List.append_nil]
    simp (disch:=omega) only [aJ,if_neg]
    exact Wp.ret (decide_eq_true fun s hs=>by simp at hs).symm
  | x::t,pre,hl=>by
    refine Wp.step ?_
    have hl':=hl
    simp only [List.length_append,List.length_cons] at hl
    simp only [eC]
    simp only [aJ,iE,if_true,bK,Option.bind_some]
    refine Wp.ite (fun h1=>Wp.ret (decide_eq_false fun h'=>by have:=h' x (List.mem_cons_self ..);omega).symm) (fun h1=> ?_)
    simp (disch:=omega) only [bQ]
    have ih:=zD t (pre++[x]) (by simpa using hl')
    rw [←cM,←bV] at ih
    refine ih.mono fun v hv=> ?_
    rw [hv,decide_eq_decide]
    constructor
    ·intro g1 y hy
     rcases List.mem_cons.mp hy with rfl | hy
     ·omega
     ·exact g1 y hy
    ·exact fun g1 y hy=>g1 y (List.mem_cons_of_mem _ hy)
theorem DE (n:Int) (o:ByteArray) (r:List ByteArray) (hn:0≤n∧n≤1000000) (ho:o.size≤200) (hr:r.length≤4):∀(t pre:List aR),(pre++t).length≤1000→n-1≤jJ n pre→
    Wp (fun k=>bN k (pre++t) ((pre++t).length:Int) (pre.length:Int) n (pre++t) o r) (· =decide ((WHs n (jJ n pre) t∧XF n o r t)∧SmR r))
  | [],pre,hl,hp=>by
    refine Wp.step ?_
    simp only [bN,List.append_nil]
    simp (disch:=omega) only [aJ,if_neg]
    refine Wp.mono (zD r [] (by simp;omega)) fun v hv=> ?_
    rw [hv,decide_eq_decide]
    exact ⟨fun g=>⟨⟨trivial,fun x hx=>by simp at hx⟩,g⟩,fun g=>g.2⟩
  | x::t,pre,hl,hp=>by
    refine Wp.step ?_
    have hl':=hl
    simp only [List.length_append,List.length_cons] at hl
    simp only [bN]
    simp only [aJ,iE,if_true,bK,Option.bind_some]
    have F:¬(WHs n (jJ n pre) (x::t)∧XF n o r (x::t))→Wp (fun _=>some false) (· =decide ((WHs n (jJ n pre) (x::t)∧XF n o r (x::t))∧SmR r)):=fun h=>Wp.ret (decide_eq_false fun g=>h g.1).symm
    simp (disch:=omega) only [bQ]
    refine Wp.bind (B6 _ _ _) (fun _ e=> ?_);subst e
    simp only [inB,aJ,cE]
    refine Wp.ite (fun h1=> ?_) (fun h1=>F fun h'=>by have:=h'.1.1;omega)
    refine Wp.ite (fun h1'=>F fun h'=>by have:=h'.1.1;omega) (fun h1'=> ?_)
    refine Wp.ite (fun h2=>F fun h'=>by have:=h'.1.1;omega) (fun h2=> ?_)
    have ih:=DE n o r hn ho hr t (pre++[x]) (by simpa using hl') (by rw [vC];omega)
    rw [←cM,←bV,vC] at ih
    have G:(x.Seq=n→¬goes o r x.Part)→jJ n pre<x.Seq→Wp (fun k=>bN k (pre++x::t) ((pre++x::t).length:Int) ((pre.length:Int)+1) n (pre++x::t) o r) (· =decide ((WHs n (jJ n pre) (x::t)∧XF n o r (x::t))∧SmR r)):=fun h h'=>by
      refine Wp.mono ih fun v hv=> ?_
      rw [hv,decide_eq_decide]
      constructor
      ·rintro ⟨⟨g1,g2⟩,g3⟩
       refine ⟨⟨⟨⟨h',by omega,by omega,by omega⟩,g1⟩,fun y hy=> ?_⟩,g3⟩
       rcases List.mem_cons.mp hy with rfl | hy
       ·exact h
       ·exact g2 y hy
      ·rintro ⟨⟨g1,g2⟩,g3⟩
       exact ⟨⟨g1.2,fun y hy=>g2 y (List.mem_cons_of_mem _ hy)⟩,g3⟩
    have C:jJ n pre<x.Seq→Wp (fun k=>if x.Seq=n then (qT k ⟨n,pre++x::t,o,r⟩ x.Part).bind fun r6=>bif r6 then some false else bN k (pre++x::t) ((pre++x::t).length:Int) ((pre.length:Int)+1) n (pre++x::t) o r
     else bN k (pre++x::t) ((pre++x::t).length:Int) ((pre.length:Int)+1) n (pre++x::t) o r) (· =decide ((WHs n (jJ n pre) (x::t)∧XF n o r (x::t))∧SmR r)):=fun h'=>by
      refine Wp.ite (fun h3=> ?_) (fun h3=>G (fun g=>absurd g h3) h')
      refine Wp.bind (eA_ n _ o r x.Part (by omega) (by omega)) (fun _ e=> ?_);subst e
      simp only [aJ]
      exact Wp.ite (fun h4=>F fun g=>g.2 x (List.mem_cons_self ..) h3 h4) (fun h4=>G (fun _=>h4) h')
    simp only [kH]
    refine Wp.ite (fun h3=> ?_) (fun h3=> ?_)
    ·obtain ⟨y,hy,hy'⟩:=OK n pre (x::t) (by omega)
     rw [hy]
     simp only [Option.bind_some]
     refine Wp.ite (fun h4=>F fun h'=>by have:=h'.1.1;omega) (fun h4=> ?_)
     exact C (by omega)
    ·have:pre=[]:=List.length_eq_zero_iff.mp (by omega)
     exact C (by subst this;simp [jJ];omega)
theorem lZ (t:aL):Wp (fun k=>dR k t) (· =decide (VTake t)):=by
  unfold dR
  simp only [aJ,cE]
  have F:¬VTake t→Wp (fun _=>some false) (· =decide (VTake t)):=fun h=>Wp.ret (decide_eq_false h).symm
  refine Wp.bind (B6 _ _ _) (fun _ e=> ?_);subst e
  simp only [inB,aJ]
  refine Wp.ite (fun h1=> ?_) (fun h1=>F fun h'=>h1 h'.1)
  refine Wp.ite (fun h2=>F fun h'=>by have:=h'.2.1;omega) (fun h2=> ?_)
  refine Wp.ite (fun h3=>F fun h'=>by have:=h'.2.2.1;omega) (fun h3=> ?_)
  refine Wp.ite (fun h4=>F fun h'=>by have:=h'.2.2.2.1;omega) (fun h4=> ?_)
  refine Wp.mono (DE t.Next t.Open t.Ready h1 (by omega) (by omega) t.Held [] (by simp;omega) (by simp [jJ])) fun v hv=> ?_
  rw [hv,decide_eq_decide]
  exact ⟨fun g=>⟨h1,by omega,by omega,by omega,g.2,g.1⟩,fun g=>⟨g.2.2.2.2.2,g.2.2.2.2.1⟩⟩
theorem CJ (t:aL) (h:t.Held.length≤1048576) (h':t.Ready.length≤1048576):Wp (fun k=>oD k t) (· =t):=by
  unfold oD
  refine Wp.opt (bP (by simp;omega)) ?_
  refine Wp.opt (bP (by simp;omega)) ?_
  exact Wp.ret (by rw [List.nil_append,List.nil_append])
theorem KO (t:aL) (h:t.Held.length≤1048576) (h':t.Ready.length≤1048576):Wp (fun k=>nJ k t) (· =t):=CJ t h h'
abbrev B5:aL:=⟨0,[],noB,[]⟩
theorem DG:VTake B5:=⟨by simp,by simp,by simp [sG],by simp,fun s hs=>by simp at hs,trivial,fun x hx=>by simp at hx⟩
theorem VU {n:Int}:∀{l:List aR} {p:Int},WHs n p l→∀x∈l,x.Part.Text.size≤20
  | [],_,_,x,h=>by simp at h
  | y::t,p,⟨h1,h2⟩,x,h=>by
    rcases List.mem_cons.mp h with rfl | h
    ·exact h1.2.2.2
    ·exact VU h2 x h
theorem b4_ {n:Int}:∀{l:List aR} {p:Int},WHs n p l→∀x∈l,p<x.Seq
  | [],_,_,x,h=>by simp at h
  | y::t,p,⟨h1,h2⟩,x,h=>by
    rcases List.mem_cons.mp h with rfl | h
    ·exact h1.1
    ·have:=b4_ h2 x h;omega
theorem YG {n n':Int} (hn:n≤n'):∀{l:List aR} {p:Int},WHs n p l→WHs n' p l
  | [],_,_=>trivial
  | y::t,p,⟨h1,h2⟩=>⟨⟨h1.1,by omega,h1.2.2⟩,YG hn h2⟩
theorem VTake.sm {t:aL} (h:VTake t):bM_ t:=by
  obtain ⟨h1,h2,h3,h4,h5,h6,h7⟩:=h
  unfold bM_ smL
  refine ⟨⟨by omega,fun x hx=> ?_⟩,by omega,⟨by omega,fun s hs=>by have:=h5 s hs;omega⟩⟩
  have:=VU h6 x hx
  show x.Part.Text.size≤1048576
  omega
def xB:List aR→Int→ByteArray→List ByteArray→aL
  | [],n,o,r=>⟨n,[],o,r⟩
  | x::t,n,o,r=>if x.Seq=n∧goes o r x.Part then (if x.Part.Last=true then xB t (n+1) noB (r++[o++x.Part.Text]) else xB t (n+1) (o++x.Part.Text) r) else ⟨n,x::t,o,r⟩
theorem IH (c:Int) (e:ByteArray) (z:List aR) (w:List ByteArray):∀(h:List aR) (n:Int) (o:ByteArray) (r:List ByteArray),h.length≤100→(∀x∈h,x.Seq≤999999∧x.Part.Text.size≤1000)→0≤n→o.size≤200→r.length≤4→
    Wp (fun k=>fZ k n o c e h r z w) (· =xB h n o r)
  | [],n,o,r,hl,hx,hn,ho,hr=>by
    refine Wp.step ?_
    simp only [fZ]
    simp (disch:=simp) only [aJ,if_neg]
    exact Wp.ret rfl
  | x::t,n,o,r,hl,hx,hn,ho,hr=>by
    refine Wp.step ?_
    obtain ⟨x1,x2⟩:=hx x (List.mem_cons_self ..)
    simp only [List.length_cons] at hl
    simp only [fZ,xB]
    have e0:idx (x::t) 0=some x:=rfl
    have e1:(x::t)[Int.toNat 0]? =some x:=rfl
    have e2:wnd (x::t).length 1 ((x::t).length:Int)=some (1,(x::t).length):=by rw [bX (by simp only [List.length_cons];omega)];simp
    have e3:app 32 ([]:List aR) (iA (x::t) 1 (x::t).length)=some t:=by rw [bP (by simp [iA];omega)];simp [iA]
    simp only [e0,e1,e2,e3,aJ,Option.bind_some,kH]
    have hpos:((x::t).length:Int)>0:=by simp only [List.length_cons];omega
    simp only [if_pos hpos]
    refine Wp.ite (fun h1=> ?_) (fun h1=>Wp.ret (by rw [if_neg (fun g=>h1 g.1)]))
    refine Wp.bind (ct_ n _ o r x.Part (by omega) (by omega)) (fun _ e=> ?_);subst e
    simp only [aJ]
    refine Wp.ite (fun h2=> ?_) (fun h2=>Wp.ret (by rw [if_neg (fun g=>h2 g.2)]))
    rw [if_pos ⟨h1,h2⟩,aP (by omega)]
    simp only [Option.bind_some]
    have hx':∀y∈t,y.Seq≤999999∧y.Part.Text.size≤1000:=fun y hy=>hx y (List.mem_cons_of_mem _ hy)
    refine Wp.bif (fun h3=> ?_) (fun h3=> ?_)
    ·rw [if_pos h3,bP (by simp;omega)]
     simp (disch:=omega) only [Option.bind_some,bQ]
     exact IH c e z w t (n+1) noB _ (by omega) hx' (by omega) (by simp [sG]) (by have:=h2.2 h3;simp;omega)
    ·rw [if_neg (by simp [h3])]
     simp (disch:=omega) only [bQ]
     exact IH c e z w t (n+1) _ _ (by omega) hx' (by omega) (by rw [aD];exact h2.1) hr
theorem SB:∀(k:Nat) n o c e h r z w,mS k n o c e h r z w=fZ k n o c e h r z w
  | 0,_,_,_,_,_,_,_,_=>rfl
  | k+1,n,o,c,e,h,r,z,w=>by
    have hi:∀a b,qT k a b=mQ k a b:=fun _ _=>rfl
    simp only [mS,fZ,SB k,hi]
theorem ID (t:aL) (hl:t.Held.length≤100) (hx:∀x∈t.Held,x.Seq≤999999∧x.Part.Text.size≤1000) (hn:0≤t.Next) (ho:t.Open.size≤200) (hr:t.Ready.length≤4):Wp (fun k=>xN k t) (· =xB t.Held t.Next t.Open t.Ready):=
  IH _ _ _ _ t.Held t.Next t.Open t.Ready hl hx hn ho hr
theorem K5 (t:aL) (hl:t.Held.length≤100) (hx:∀x∈t.Held,x.Seq≤999999∧x.Part.Text.size≤1000) (hn:0≤t.Next) (ho:t.Open.size≤200) (hr:t.Ready.length≤4):Wp (fun k=>m6 k t) (· =xB t.Held t.Next t.Open t.Ready):=by
  have:(fun k=>m6 k t)=fun k=>xN k t:=funext fun k=>SB k _ _ _ _ _ _ _ _
  rw [this];exact ID t hl hx hn ho hr
theorem O9 (n0:Int):∀(h:List aR) (n:Int) (o:ByteArray) (r:List ByteArray),n0≤n→WHs n0 (n-1) h→h.length≤8→0≤n→n≤1000000→o.size≤200→r.length≤4→SmR r→VTake (xB h n o r)
  | [],n,o,r,h0,hw,hl,hn,hn',ho,hr,hs=>⟨⟨hn,hn'⟩,by simp [xB],ho,hr,hs,trivial,fun x hx=>by simp [xB] at hx⟩
  | x::t,n,o,r,h0,⟨hw1,hw2⟩,hl,hn,hn',ho,hr,hs=>by
    simp only [List.length_cons] at hl
    simp only [xB]
    split
    ·rename_i hg
     have hw3:WHs n0 (n+1-1) t:=by rw [show n+1-1=x.Seq by omega];exact hw2
     split
     ·rename_i hl3
      refine O9 n0 t (n+1) noB _ (by omega) hw3 (by omega) (by omega) (by omega) (by simp [sG]) (by have:=hg.2.2 hl3;simp;omega) (fun s h'=> ?_)
      simp only [List.mem_append,List.mem_singleton] at h'
      rcases h' with h' | rfl
      ·exact hs s h'
      ·rw [aD];exact hg.2.1
     ·exact O9 n0 t (n+1) _ r (by omega) hw3 (by omega) (by omega) (by omega) (by rw [aD];exact hg.2.1) hr hs
    ·rename_i hg
     refine ⟨⟨hn,hn'⟩,by simp only [List.length_cons];omega,ho,hr,hs,YG h0 ⟨hw1,hw2⟩,fun y hy=> ?_⟩
     rcases List.mem_cons.mp hy with rfl | hy
     ·exact fun e g=>hg ⟨e,g⟩
     ·have:=b4_ hw2 y hy
      exact fun e=>by simp only at e;omega
def C0 (t:aL):aL×ByteArray×Bool:=if VTake t then (match t.Ready with | []=>(t,noB,false) | s::rs=>(xB t.Held t.Next t.Open rs,s,true)) else (B5,noB,false)
theorem VTake.small {t:aL} (h:VTake t):∀x∈t.Held,x.Seq≤999999∧x.Part.Text.size≤1000:=by
  have hw:=h.2.2.2.2.2.1
  have G:∀{l:List aR} {p:Int},WHs t.Next p l→∀x∈l,x.Seq≤999999:=by
    intro l
    induction l with
    | nil=>intro p _ x hx;simp at hx
    | cons y l ih=>
      rintro p ⟨h1,h2⟩ x hx
      rcases List.mem_cons.mp hx with rfl | hx
      ·exact h1.2.2.1
      ·exact ih h2 x hx
  exact fun x hx=>⟨G hw x hx,by have:=VU hw x hx;omega⟩
theorem WS (t:aL):Wp (fun k=>pR k t) (· =C0 t):=by
  unfold pR C0
  refine Wp.bind (lV t) (fun _ e=> ?_);subst e
  simp only [cE,aJ]
  refine Wp.ite (fun h=> ?_) (fun h=>Wp.ret (by rw [if_neg h]))
  rw [if_pos h]
  refine Wp.bind (CJ t (by have:=h.2.1;omega) (by have:=h.2.2.2.1;omega)) (fun r2 e=> ?_);rw [e]
  simp only [kH]
  obtain ⟨n,hd,o,r⟩:=t
  cases r with
  | nil=>exact Wp.ret rfl
  | cons s rs=>
    have hr:=h.2.2.2.1
    simp only [List.length_cons] at hr
    have e0:idx (s::rs) 0=some s:=rfl
    have e1:(s::rs)[Int.toNat 0]? =some s:=rfl
    have e2:wnd (s::rs).length 1 ((s::rs).length:Int)=some (1,(s::rs).length):=by rw [bX (by simp only [List.length_cons];omega)];simp
    have e3:app 16 ([]:List ByteArray) (iA (s::rs) 1 (s::rs).length)=some rs:=by rw [bP (by simp [iA];omega)];simp [iA]
    simp only [e0,e1,e2,e3,Option.bind_some]
    have hpos:¬((s::rs).length:Int)=0:=by simp only [List.length_cons];omega
    simp only [if_neg hpos]
    refine Wp.bind (ID _ (by have:=h.2.1;simp only at this⊢;omega) h.small h.1.1 h.2.2.1 (by simp only;omega)) (fun _ e=> ?_);subst e
    exact Wp.ret rfl
theorem VX (t:aL):Wp (fun k=>pZ k t) (· =C0 t):=by
  unfold pZ C0
  refine Wp.bind (lZ t) (fun _ e=> ?_);subst e
  simp only [cE,aJ]
  refine Wp.ite (fun h=> ?_) (fun h=>Wp.ret (by rw [if_neg h]))
  rw [if_pos h]
  refine Wp.bind (KO t (by have:=h.2.1;omega) (by have:=h.2.2.2.1;omega)) (fun r2 e=> ?_);rw [e]
  simp only [kH]
  obtain ⟨n,hd,o,r⟩:=t
  cases r with
  | nil=>exact Wp.ret rfl
  | cons s rs=>
    have hr:=h.2.2.2.1
    simp only [List.length_cons] at hr
    have e0:idx (s::rs) 0=some s:=rfl
    have e1:(s::rs)[Int.toNat 0]? =some s:=rfl
    have e2:wnd (s::rs).length 1 ((s::rs).length:Int)=some (1,(s::rs).length):=by rw [bX (by simp only [List.length_cons];omega)];simp
    have e3:app 16 ([]:List ByteArray) (iA (s::rs) 1 (s::rs).length)=some rs:=by rw [bP (by simp [iA];omega)];simp [iA]
    simp only [e0,e1,e2,e3,Option.bind_some]
    have hpos:¬((s::rs).length:Int)=0:=by simp only [List.length_cons];omega
    simp only [if_neg hpos]
    refine Wp.bind (K5 _ (by have:=h.2.1;simp only at this⊢;omega) h.small h.1.1 h.2.2.1 (by simp only;omega)) (fun _ e=> ?_);subst e
    exact Wp.ret rfl
theorem XJ (t:aL):VTake (C0 t).1∧(C0 t).2.1.size≤200:=by
  unfold C0
  split
  ·rename_i h
   obtain ⟨n,hd,o,r⟩:=t
   cases r with
   | nil=>exact ⟨h,by simp [sG]⟩
   | cons s rs=>
     obtain ⟨h1,h2,h3,h4,h5,h6,h7⟩:=h
     simp only [List.length_cons] at h4
     exact ⟨O9 n hd n o rs (Int.le_refl _) h6 h2 h1.1 h1.2 h3 (by omega) (fun s' hs=>h5 s' (List.mem_cons_of_mem _ hs)),h5 s (List.mem_cons_self ..)⟩
  ·exact ⟨DG,by simp [sG]⟩
def U3 (n:Int):Nat→List aR→Nat
  | m,[]=>m
  | m,x::t=>U3 n (m+2^(x.Seq-n).toNat) t
def tkM (t:aL):Int×Int:=if VTake t then (t.Next,((U3 t.Next 0 t.Held:Nat):Int)) else (0,0)
theorem tX {d:Nat} (h:d≤8):(2^d:Nat)≤256:=Nat.pow_le_pow_right (by decide) h
theorem fj_ (n:Int) (m:Nat) (i:Int) (xs:List aR) (o:ByteArray) (r:List ByteArray) (x:aR) (hi:idx xs i=some x) (hn:0≤n∧n≤1000000) (hx:n≤x.Seq∧x.Seq≤n+7) (hm:m≤256) (Q:Int×Int→Prop)
    (hq:Wp (fun k=>eG k ((m+2^(x.Seq-n).toNat:Nat):Int) (IntKind.wrap .i64 (i+1)) n xs o r) Q):∀(d:Nat) (y:Int),n≤y→y≤x.Seq→d=(x.Seq-y).toNat→Wp (fun k=>fR k (m:Int) i ((2^(y-n).toNat:Nat):Int) y n xs o r) Q
  | 0,y,h1,h2,h3=>by
    have hy:y=x.Seq:=by omega
    subst hy
    have hp:=tX (d:=(x.Seq-n).toNat) (by omega)
    refine Wp.step ?_
    simp only [fR,hi,Option.bind_some]
    simp (disch:=omega) only [aJ,if_neg]
    generalize 2^(x.Seq-n).toNat=P at*
    rw [bQ (n:=(m:Int)+_) (by omega) (by omega),show (m:Int)+(P:Int)=((m+P:Nat):Int) by omega]
    exact hq
  | d+1,y,h1,h2,h3=>by
    have hp:=tX (d:=(y-n).toNat) (by omega)
    refine Wp.step ?_
    simp only [fR,hi,Option.bind_some]
    simp (disch:=omega) only [aJ,if_pos]
    have:=fj_ n m i xs o r x hi hn hx hm Q hq d (y+1) (by omega) (by omega) (by omega)
    have e:2^(y+1-n).toNat=2^(y-n).toNat*2:=by rw [show (y+1-n).toNat=(y-n).toNat+1 by omega,Nat.pow_succ]
    rw [e] at this
    generalize 2^(y-n).toNat=P at*
    rw [bQ (n:=(P:Int)*2) (by omega) (by omega),bQ (n:=y+1) (by omega) (by omega)]
    rwa [show ((P*2:Nat):Int)=(P:Int)*2 by omega] at this
theorem aF_ (n:Int) (o:ByteArray) (r:List ByteArray) (hn:0≤n∧n≤1000000):∀(t pre:List aR) (p:Int) (m:Nat),(pre++t).length≤1000→n-1≤p→p≤n+7→WHs n p t→m<2^(p-n+1).toNat→
    Wp (fun k=>eG k (m:Int) (pre.length:Int) n (pre++t) o r) (· =(n,((U3 n m t:Nat):Int)))
  | [],pre,p,m,hl,h1,h2,hw,hm=>by
    refine Wp.step ?_
    simp only [eG,List.append_nil]
    simp (disch:=omega) only [aJ,if_neg]
    exact Wp.ret rfl
  | x::t,pre,p,m,hl,h1,h2,⟨hw1,hw2⟩,hm=>by
    refine Wp.step ?_
    have hl':=hl
    simp only [List.length_append,List.length_cons] at hl
    simp only [eG,U3]
    simp only [aJ,iE,if_true]
    have hp:=tX (d:=(p-n+1).toNat) (by omega)
    have hlt:m+2^(x.Seq-n).toNat<2^(x.Seq-n+1).toNat:=by
      have:2^(p-n+1).toNat≤2^(x.Seq-n).toNat:=Nat.pow_le_pow_right (by decide) (by omega)
      rw [show (x.Seq-n+1).toNat=(x.Seq-n).toNat+1 by omega,Nat.pow_succ];omega
    have ih:=aF_ n o r hn t (pre++[x]) x.Seq (m+2^(x.Seq-n).toNat) (by simpa using hl') (by omega) (by omega) hw2 hlt
    rw [←cM,←bV] at ih
    have:=fj_ n m (pre.length:Int) (pre++x::t) o r x bK hn (by omega) (by omega) (· =(n,((U3 n (m+2^(x.Seq-n).toNat) t:Nat):Int))) (by rw [bQ (by omega) (by omega)];exact ih) (x.Seq-n).toNat n (by omega) (by omega) rfl
    rwa [show ((2^(n-n).toNat:Nat):Int)=1 by simp] at this
theorem J7 (t:aL):Wp (fun k=>kC k t) (· =tkM t):=by
  unfold kC tkM
  refine Wp.bind (lV t) (fun _ e=> ?_);subst e
  simp only [cE,aJ]
  refine Wp.ite (fun h=> ?_) (fun h=>Wp.ret (by rw [if_neg h]))
  rw [if_pos h]
  exact aF_ t.Next t.Open t.Ready h.1 t.Held [] (t.Next-1) 0 (by have:=h.2.1;show t.Held.length≤1000;omega) (by omega) (by omega) h.2.2.2.2.2.1 (Nat.two_pow_pos _)
theorem Z1 (m d:Nat) (h:m<2^d) (hd:d≤8):X7 .i64 (m:Int) ((2^d:Nat):Int)=((m+2^d:Nat):Int):=by
  have e:∀m:Nat,BitVec.ofInt 64 (m:Int)=BitVec.ofNat 64 m:=fun m=>by
    apply BitVec.eq_of_toNat_eq
    simp [BitVec.toNat_ofInt]
  have hp:=tX hd
  show IntKind.wrap .i64 ((BitVec.ofInt 64 ((m:Nat):Int) ||| BitVec.ofInt 64 ((2^d:Nat):Int)).toNat:Int)=_
  rw [e,e,BitVec.toNat_or,BitVec.toNat_ofNat,BitVec.toNat_ofNat,Nat.mod_eq_of_lt (by omega),Nat.mod_eq_of_lt (by omega)]
  have:=Nat.shiftLeft_add_eq_or_of_lt (a:=1) (i:=d) (b:=m) h
  rw [Nat.shiftLeft_eq,Nat.one_mul] at this
  rw [Nat.or_comm,←this,Nat.add_comm]
  generalize 2^d=P at*
  exact bQ (by omega) (by omega)
theorem hT_ (d:Nat) (h:d≤8):shift .shl .i64 1 (d:Int)=some ((2^d:Nat):Int):=by
  have hp:=tX h
  simp only [shift]
  rw [if_neg (by omega)]
  congr 1
  rw [Int.toNat_natCast,show IntKind.i64.bits=64 from rfl,Nat.min_eq_left (by omega)]
  rw [show (1:Int)*(2:Int)^d=((2^d:Nat):Int) by simp]
  generalize 2^d=P at*
  exact bQ (by omega) (by omega)
theorem bR_ (n:Int) (o:ByteArray) (r:List ByteArray) (hn:0≤n∧n≤1000000):∀(t pre:List aR) (p:Int) (m:Nat),(pre++t).length≤1000→n-1≤p→p≤n+7→WHs n p t→m<2^(p-n+1).toNat→
    Wp (fun k=>fM k (m:Int) (pre++t) ((pre++t).length:Int) (pre.length:Int) n (pre++t) o r) (· =(n,((U3 n m t:Nat):Int)))
  | [],pre,p,m,hl,h1,h2,hw,hm=>by
    refine Wp.step ?_
    simp only [fM,List.append_nil]
    simp (disch:=omega) only [aJ,if_neg]
    exact Wp.ret rfl
  | x::t,pre,p,m,hl,h1,h2,⟨hw1,hw2⟩,hm=>by
    refine Wp.step ?_
    have hl':=hl
    simp only [List.length_append,List.length_cons] at hl
    simp only [fM,U3]
    simp only [aJ,iE,if_true,bK,Option.bind_some]
    have hp:=tX (d:=(p-n+1).toNat) (by omega)
    have hle:2^(p-n+1).toNat≤2^(x.Seq-n).toNat:=Nat.pow_le_pow_right (by decide) (by omega)
    have hlt:m+2^(x.Seq-n).toNat<2^(x.Seq-n+1).toNat:=by
      rw [show (x.Seq-n+1).toNat=(x.Seq-n).toNat+1 by omega,Nat.pow_succ];omega
    have ih:=bR_ n o r hn t (pre++[x]) x.Seq (m+2^(x.Seq-n).toNat) (by simpa using hl') (by omega) (by omega) hw2 hlt
    rw [←cM,←bV] at ih
    simp (disch:=omega) only [bQ]
    have e:x.Seq-n=((x.Seq-n).toNat:Int):=by omega
    have e2:=hT_ (x.Seq-n).toNat (by omega)
    rw [←e] at e2
    simp only [e2,Option.bind_some]
    rw [Z1 m _ (by omega) (by omega)]
    exact ih
theorem KT (t:aL):Wp (fun k=>kJ k t) (· =tkM t):=by
  unfold kJ tkM
  refine Wp.bind (lZ t) (fun _ e=> ?_);subst e
  simp only [cE,aJ]
  refine Wp.ite (fun h=> ?_) (fun h=>Wp.ret (by rw [if_neg h]))
  rw [if_pos h]
  exact bR_ t.Next t.Open t.Ready h.1 t.Held [] (t.Next-1) 0 (by have:=h.2.1;show t.Held.length≤1000;omega) (by omega) (by omega) h.2.2.2.2.2.1 (Nat.two_pow_pos _)
def hm_ (x:aN):Prop:=a0_ x.Send∧bM_ x.Take
def dF_ (s:aM):Prop:=s.Base=0∧s.Items.length=0
instance (s:aM):Decidable (dF_ s):=by unfold dF_;infer_instance
def cA_ (t:aL):Prop:=t.Next=0∧t.Held.length=0∧t.Open=noB∧t.Ready.length=0
instance (t:aL):Decidable (cA_ t):=by unfold cA_;infer_instance
theorem T5 (a b:Int):(a==b)=decide (a=b):=by by_cases h:a=b<;>simp [h]
theorem T0 (s:aM):Wp (fun k=>pX k s) (· =decide (dF_ s)):=by
  unfold pX
  simp only [T5,aJ]
  refine Wp.ite (fun h=>Wp.ret ?_) (fun h=>Wp.ret (decide_eq_false fun g=>h g.1).symm)
  rw [decide_eq_decide];exact ⟨fun g=>⟨h,by omega⟩,fun g=>by have:=g.2;omega⟩
theorem RI (t:aL):Wp (fun k=>qC k t) (· =decide (cA_ t)):=by
  unfold qC
  simp only [T5,oA,aJ]
  have F:¬cA_ t→Wp (fun _=>some false) (· =decide (cA_ t)):=fun h=>Wp.ret (decide_eq_false h).symm
  refine Wp.ite (fun h=> ?_) (fun h=>F fun g=>h g.1)
  refine Wp.ite (fun h2=> ?_) (fun h2=>F fun g=>by have:=g.2.1;omega)
  refine Wp.ite (fun h3=>Wp.ret ?_) (fun h3=>F fun g=>h3 g.2.2.1)
  rw [decide_eq_decide];exact ⟨fun g=>⟨h,by omega,h3,by omega⟩,fun g=>by have:=g.2.2.2;omega⟩
def VEnd (e:aN):Prop:=(1≤e.Number∧e.Number≤2)∧(1≤e.Life∧e.Life≤1000)∧(0≤e.Peer∧e.Peer≤1000)∧(0≤e.Since∧e.Since≤1000000)∧VSend e.Send∧VTake e.Take∧(e.Peer=0→dF_ e.Send∧cA_ e.Take)∧(e.Up=false→e.Peer=0∧e.Since=0∧e.Owes=false)
instance (e:aN):Decidable (VEnd e):=by unfold VEnd;infer_instance
theorem VEnd.sm {e:aN} (h:VEnd e):hm_ e:=⟨h.2.2.2.2.1.sm,h.2.2.2.2.2.1.sm⟩
theorem be_ (e:aN) (h:(1≤e.Number∧e.Number≤2)∧(1≤e.Life∧e.Life≤1000)∧(0≤e.Peer∧e.Peer≤1000)∧(0≤e.Since∧e.Since≤1000000)∧VSend e.Send∧VTake e.Take) (h':e.Peer=0→dF_ e.Send∧cA_ e.Take):
    Wp (fun _=>bif e.Up then some true else bif e.Peer==0 then bif e.Since==0 then some (!e.Owes) else some false else some false) (· =decide (VEnd e)):=by
  obtain ⟨h1,h2,h3,h4,h5,h6⟩:=h
  simp only [kH]
  refine Wp.bif (fun u=>Wp.ret (decide_eq_true ⟨h1,h2,h3,h4,h5,h6,h',fun g=>by rw [u] at g;cases g⟩).symm) (fun u=> ?_)
  refine Wp.ite (fun h7=> ?_) (fun h7=>Wp.ret (decide_eq_false fun g=>h7 (g.2.2.2.2.2.2.2 u).1).symm)
  refine Wp.ite (fun h8=>Wp.ret ?_) (fun h8=>Wp.ret (decide_eq_false fun g=>h8 (g.2.2.2.2.2.2.2 u).2.1).symm)
  by_cases ho:e.Owes=true
  ·rw [ho];exact (decide_eq_false fun g=>by have:=(g.2.2.2.2.2.2.2 u).2.2;rw [ho] at this;cases this).symm
  ·have ho:e.Owes=false:=by simpa using ho
   rw [ho];exact (decide_eq_true ⟨h1,h2,h3,h4,h5,h6,h',fun _=>⟨h7,h8,ho⟩⟩).symm
theorem d5 (e:aN):Wp (fun k=>dT k e) (· =decide (VEnd e)):=by
  unfold dT
  have F:¬VEnd e→Wp (fun _=>some false) (· =decide (VEnd e)):=fun h=>Wp.ret (decide_eq_false h).symm
  refine Wp.bind (dM _ _ _) (fun _ q=> ?_);subst q
  simp only [inB,aJ,cE]
  refine Wp.ite (fun h1=> ?_) (fun h1=>F fun g=>h1 g.1)
  refine Wp.bind (dM _ _ _) (fun _ q=> ?_);subst q
  simp only [inB,aJ]
  refine Wp.ite (fun h2=> ?_) (fun h2=>F fun g=>h2 g.2.1)
  refine Wp.bind (dM _ _ _) (fun _ q=> ?_);subst q
  simp only [inB,aJ]
  refine Wp.ite (fun h3=> ?_) (fun h3=>F fun g=>h3 g.2.2.1)
  refine Wp.bind (dM _ _ _) (fun _ q=> ?_);subst q
  simp only [inB,aJ]
  refine Wp.ite (fun h4=> ?_) (fun h4=>F fun g=>h4 g.2.2.2.1)
  refine Wp.bind (i7 _) (fun _ q=> ?_);subst q
  simp only [aJ]
  refine Wp.ite (fun h5=> ?_) (fun h5=>F fun g=>h5 g.2.2.2.2.1)
  refine Wp.bind (lV _) (fun _ q=> ?_);subst q
  simp only [aJ]
  refine Wp.ite (fun h6=> ?_) (fun h6=>F fun g=>h6 g.2.2.2.2.2.1)
  have T:=be_ e ⟨h1,h2,h3,h4,h5,h6⟩
  simp only [kH] at T⊢
  refine Wp.ite (fun h7=> ?_) (fun h7=>T fun g=>absurd g h7)
  refine Wp.bind (T0 _) (fun _ q=> ?_);subst q
  simp only [aJ]
  refine Wp.ite (fun h8=> ?_) (fun h8=>F fun g=>h8 (g.2.2.2.2.2.2.1 h7).1)
  refine Wp.bind (RI _) (fun _ q=> ?_);subst q
  simp only [aJ]
  exact Wp.ite (fun h9=>T fun _=>⟨h8,h9⟩) (fun h9=>F fun g=>h9 (g.2.2.2.2.2.2.1 h7).2)
theorem dY (e:aN):Wp (fun k=>dV k e) (· =decide (VEnd e)):=by
  unfold dV
  have F:¬VEnd e→Wp (fun _=>some false) (· =decide (VEnd e)):=fun h=>Wp.ret (decide_eq_false h).symm
  have M:(1≤e.Number∧e.Number≤2)→Wp (fun k=>(bR k e.Life 1 1000).bind fun r8=>
    bif (!r8) then
      some false
    else
      (bR k e.Peer 0 1000).bind fun r9=>
      bif (!r9) then
        some false
      else
        (bR k e.Since 0 1000000).bind fun r10=>
        bif (!r10) then
          some false
        else
          (cS k e.Send).bind fun r11=>
          bif (!r11) then
            some false
          else
            (dR k e.Take).bind fun r12=>
            bif (!r12) then
              some false
            else
              bif (e.Peer==0) then
                (uZ k e.Send).bind fun r13=>
                bif r13 then
                  (u9 k e.Take).bind fun r14=>
                  bif (!r14) then
                    some false
                  else
                    bif e.Up then
                      some true
                    else
                      bif (e.Peer==0) then
                        bif (e.Since==0) then
                          some (!e.Owes)
                        else
                          some false
                      else
                        some false
                else
                  some false
              else
                bif e.Up then
                  some true
                else
                  bif (e.Peer==0) then
                    bif (e.Since==0) then
                      some (!e.Owes)
                    else
                      some false
                  else
                    some false) (· =decide (VEnd e)):=fun h1=>by
    refine Wp.bind (B6 _ _ _) (fun _ q=> ?_);subst q
    simp only [inB,aJ,cE]
    refine Wp.ite (fun h2=> ?_) (fun h2=>F fun g=>h2 g.2.1)
    refine Wp.bind (B6 _ _ _) (fun _ q=> ?_);subst q
    simp only [inB,aJ]
    refine Wp.ite (fun h3=> ?_) (fun h3=>F fun g=>h3 g.2.2.1)
    refine Wp.bind (B6 _ _ _) (fun _ q=> ?_);subst q
    simp only [inB,aJ]
    refine Wp.ite (fun h4=> ?_) (fun h4=>F fun g=>h4 g.2.2.2.1)
    refine Wp.bind (mA _) (fun _ q=> ?_);subst q
    simp only [aJ]
    refine Wp.ite (fun h5=> ?_) (fun h5=>F fun g=>h5 g.2.2.2.2.1)
    refine Wp.bind (lZ _) (fun _ q=> ?_);subst q
    simp only [aJ]
    refine Wp.ite (fun h6=> ?_) (fun h6=>F fun g=>h6 g.2.2.2.2.2.1)
    have T:=be_ e ⟨h1,h2,h3,h4,h5,h6⟩
    simp only [kH] at T⊢
    refine Wp.ite (fun h7=> ?_) (fun h7=>T fun g=>absurd g h7)
    refine Wp.bind (P:=fun r=>r=decide (dF_ e.Send)) (T0 _) (fun _ q=> ?_);subst q
    simp only [aJ]
    refine Wp.ite (fun h8=> ?_) (fun h8=>F fun g=>h8 (g.2.2.2.2.2.2.1 h7).1)
    refine Wp.bind (P:=fun r=>r=decide (cA_ e.Take)) (RI _) (fun _ q=> ?_);subst q
    simp only [aJ]
    exact Wp.ite (fun h9=>T fun _=>⟨h8,h9⟩) (fun h9=>F fun g=>h9 (g.2.2.2.2.2.2.1 h7).2)
  simp only [DD]
  refine Wp.ite (fun h=>M (by omega)) (fun h=> ?_)
  exact Wp.ite (fun h2=>M (by omega)) (fun h2=>F fun g=>by have:=g.1;omega)
theorem oV (e:aN) (h:VEnd e):Wp (fun k=>gK k e) (· =e):=by
  unfold gK
  obtain ⟨h1,h2⟩:=h.sm
  refine Wp.bind (xS _ h1.1) (fun r q=> ?_);subst q
  refine Wp.bind (CJ _ h2.1.1 h2.2.2.1) (fun r q=> ?_);subst q
  exact Wp.ret rfl
theorem mN (e:aN) (h:VEnd e):Wp (fun k=>fY k e) (· =e):=oV e h
abbrev D3:aN:=⟨0,false,0,0,0,false,wR,B5⟩
theorem gO_:dF_ wR:=⟨rfl,rfl⟩
theorem gQ_:cA_ B5:=⟨rfl,rfl,rfl,rfl⟩
def dU_ (n:Int):aN:=if 1≤n∧n≤2 then ⟨n,true,1,0,0,false,wR,B5⟩ else D3
theorem N5 (n:Int):Wp (fun k=>qS k n) (· =dU_ n):=by
  unfold qS dU_
  refine Wp.bind (dM _ _ _) (fun _ q=> ?_);subst q
  simp only [inB,aJ,cE]
  exact Wp.ite (fun h1=>Wp.ret (by rw [if_pos h1])) (fun h1=>Wp.ret (by rw [if_neg h1]))
theorem NT (n:Int):Wp (fun k=>rN k n) (· =dU_ n):=by
  unfold rN dU_
  simp only [DD]
  refine Wp.ite (fun h=>Wp.ret (by rw [if_pos (by omega)])) (fun h=> ?_)
  exact Wp.ite (fun h2=>Wp.ret (by rw [if_pos (by omega)])) (fun h2=>Wp.ret (by rw [if_neg (by omega)]))
def OP (e:aN):aN:=if VEnd e then ⟨e.Number,false,e.Life,0,0,false,wR,B5⟩ else D3
theorem UM (e:aN):Wp (fun k=>sC k e) (· =OP e):=by
  unfold sC OP
  refine Wp.bind (d5 _) (fun _ q=> ?_);subst q
  simp only [aJ,cE]
  exact Wp.ite (fun h1=>Wp.ret (by rw [if_pos h1])) (fun h1=>Wp.ret (by rw [if_neg h1]))
theorem U7 (e:aN):Wp (fun k=>sM k e) (· =OP e):=by
  unfold sM OP
  refine Wp.bind (dY _) (fun _ q=> ?_);subst q
  simp only [aJ,cE]
  exact Wp.ite (fun h1=>Wp.ret (by rw [if_pos h1])) (fun h1=>Wp.ret (by rw [if_neg h1]))
theorem e5_ (e:aN) (h:VEnd e):VEnd (OP e):=by
  unfold OP;rw [if_pos h]
  exact ⟨h.1,h.2.1,by simp,by simp,uY,DG,fun _=>⟨gO_,gQ_⟩,fun _=>⟨rfl,rfl,rfl⟩⟩
def P8 (e:aN):aN:=if VEnd e then (if e.Up=true then e else if 1000≤e.Life then e else ⟨e.Number,true,e.Life+1,0,0,false,wR,B5⟩) else D3
theorem V7 (e:aN):Wp (fun k=>sK k e) (· =P8 e):=by
  unfold sK P8
  refine Wp.bind (d5 _) (fun _ q=> ?_);subst q
  simp only [aJ,cE]
  refine Wp.ite (fun h1=> ?_) (fun h1=>Wp.ret (by rw [if_neg h1]))
  rw [if_pos h1]
  refine Wp.bif (fun u=> ?_) (fun u=> ?_)
  ·rw [if_pos u];refine Wp.bind (oV e h1) (fun r q=> ?_);rw [q];exact Wp.ret rfl
  ·rw [if_neg (by simp [u])]
   refine Wp.ite (fun h2=> ?_) (fun h2=> ?_)
   ·rw [if_pos (by omega)];refine Wp.bind (oV e h1) (fun r q=> ?_);rw [q];exact Wp.ret rfl
   ·rw [if_neg (by omega)]
    have:=h1.2.1
    rw [bQ (by omega) (by omega)];exact Wp.ret rfl
theorem WG (e:aN):Wp (fun k=>sV k e) (· =P8 e):=by
  unfold sV P8
  refine Wp.bind (dY _) (fun _ q=> ?_);subst q
  simp only [aJ,cE,kH]
  refine Wp.ite (fun h1=> ?_) (fun h1=>Wp.ret (by rw [if_neg h1]))
  rw [if_pos h1]
  refine Wp.bif (fun u=> ?_) (fun u=> ?_)
  ·rw [if_pos u];refine Wp.bind (mN e h1) (fun r q=> ?_);rw [q];exact Wp.ret rfl
  ·rw [if_neg (by simp [u])]
   have:=h1.2.1
   refine Wp.ite (fun h2=> ?_) (fun h2=> ?_)
   ·rw [if_pos (by omega)];refine Wp.bind (mN e h1) (fun r q=> ?_);rw [q];exact Wp.ret rfl
   ·rw [if_neg (by omega)]
    rw [bQ (by omega) (by omega)];exact Wp.ret rfl
theorem eX_ (e:aN) (h:VEnd e):VEnd (P8 e):=by
  unfold P8;rw [if_pos h]
  split
  ·exact h
  ·split
   ·exact h
   ·have:=h.2.1
    exact ⟨h.1,by simp only;omega,by simp,by simp,uY,DG,fun _=>⟨gO_,gQ_⟩,fun g=>by cases g⟩
def nW (e:aN):aY:=if VEnd e then (if e.Up=true then (if (C0 e.Take).2.2=true then ⟨0,⟨e.Number,e.Up,e.Life,e.Peer,e.Since,true,e.Send,(C0 e.Take).1⟩,[],(C0 e.Take).2.1⟩ else ⟨4,D3,[],noB⟩) else ⟨2,D3,[],noB⟩) else ⟨1,D3,[],noB⟩
theorem FB (e:aN):Wp (fun k=>oT k e) (· =nW e):=by
  unfold oT nW
  refine Wp.bind (d5 _) (fun _ q=> ?_);subst q
  simp only [aJ,cE]
  refine Wp.ite (fun h1=> ?_) (fun h1=>Wp.ret (by rw [if_neg h1]))
  rw [if_pos h1]
  refine Wp.bif (fun u=> ?_) (fun u=>Wp.ret (by rw [if_neg (by simp [u])]))
  rw [if_pos u]
  refine Wp.bind (WS _) (fun _ q=> ?_);subst q
  refine Wp.bif (fun v=> ?_) (fun v=>Wp.ret (by rw [if_neg (by simp [v])]))
  rw [if_pos v]
  refine Wp.bind (oV e h1) (fun r q=> ?_);rw [q];exact Wp.ret rfl
theorem FA (e:aN):Wp (fun k=>mT k e) (· =nW e):=by
  unfold mT nW
  refine Wp.bind (dY _) (fun _ q=> ?_);subst q
  simp only [aJ,cE]
  refine Wp.ite (fun h1=> ?_) (fun h1=>Wp.ret (by rw [if_neg h1]))
  rw [if_pos h1]
  refine Wp.bif (fun u=> ?_) (fun u=>Wp.ret (by rw [if_neg (by simp [u])]))
  rw [if_pos u]
  refine Wp.bind (VX _) (fun _ q=> ?_);subst q
  refine Wp.bif (fun v=> ?_) (fun v=>Wp.ret (by rw [if_neg (by simp [v])]))
  rw [if_pos v]
  refine Wp.bind (mN e h1) (fun r q=> ?_);rw [q];exact Wp.ret rfl
def rG (e:aN) (t:ByteArray):aY:=if VEnd e then (if e.Up=true then (if e.Peer=0 then ⟨2,D3,[],noB⟩ else if (CQ e.Send t).2=0 then ⟨0,⟨e.Number,e.Up,e.Life,e.Peer,e.Since,e.Owes,(CQ e.Send t).1,e.Take⟩,[],noB⟩ else ⟨(CQ e.Send t).2,D3,[],noB⟩) else ⟨2,D3,[],noB⟩) else ⟨1,D3,[],noB⟩
theorem F0 (e:aN) (t:ByteArray):Wp (fun k=>jR k e t) (· =rG e t):=by
  unfold jR rG
  refine Wp.bind (d5 _) (fun _ q=> ?_);subst q
  simp only [aJ,cE,kH,DD]
  refine Wp.ite (fun h1=> ?_) (fun h1=>Wp.ret (by rw [if_neg h1]))
  rw [if_pos h1]
  refine Wp.bif (fun u=> ?_) (fun u=>Wp.ret (by rw [if_neg (by simp [u])]))
  rw [if_pos u]
  refine Wp.ite (fun h2=>Wp.ret (by rw [if_pos h2])) (fun h2=> ?_)
  rw [if_neg h2]
  refine Wp.bind (WT _ _) (fun _ q=> ?_);subst q
  refine Wp.ite (fun h3=> ?_) (fun h3=>Wp.ret (by rw [if_neg h3]))
  rw [if_pos h3]
  refine Wp.bind (oV e h1) (fun r q=> ?_);rw [q];exact Wp.ret rfl
theorem E6 (e:aN) (t:ByteArray):Wp (fun k=>fW k e t) (· =rG e t):=by
  unfold fW rG
  refine Wp.bind (dY _) (fun _ q=> ?_);subst q
  simp only [aJ,cE,kH,DD]
  refine Wp.ite (fun h1=> ?_) (fun h1=>Wp.ret (by rw [if_neg h1]))
  rw [if_pos h1]
  refine Wp.bif (fun u=> ?_) (fun u=>Wp.ret (by rw [if_neg (by simp [u])]))
  rw [if_pos u]
  refine Wp.ite (fun h2=>Wp.ret (by rw [if_pos h2])) (fun h2=> ?_)
  rw [if_neg h2]
  refine Wp.bind (W6 _ _) (fun _ q=> ?_);subst q
  refine Wp.ite (fun h3=> ?_) (fun h3=>Wp.ret (by rw [if_neg h3]))
  rw [if_pos h3]
  refine Wp.bind (mN e h1) (fun r q=> ?_);rw [q];exact Wp.ret rfl
theorem KC:∀(t:List aQ) (i:Nat) (b:Int),∀q∈(pB i b t).2,b+i≤q∧q<b+i+t.length
  | [],i,b,q,h=>by simp [pB] at h
  | x::t,i,b,q,h=>by
    simp only [pB] at h
    split at h
    ·simp at h
    ·simp only [List.length_cons]
     rcases List.mem_append.mp h with h | h
     ·split at h
      ·simp only [List.mem_singleton] at h;omega
      ·simp at h
     ·have:=KC t (i+1) b q h
      omega
def NA (l:List aQ) (i:Int):cA:=match l[i.toNat]? with | some x=>x.Part | none=>⟨noB,false⟩
def GQ (n li p b:Int) (l:List aQ) (q:Int):aF:=⟨2,n,li,p,0,0,q,(NA l (q-b)).Last,(NA l (q-b)).Text⟩
def mH (e:aN):aM×List Int:=if e.Peer=0 then (e.Send,[]) else AF e.Send
def upS (e:aN):Int:=if e.Since<1000000 then e.Since+1 else e.Since
def rQ (e:aN):aY:=if VEnd e then
    (if e.Up=true then
      (if e.Owes=true∨6≤upS e then ⟨0,⟨e.Number,e.Up,e.Life,e.Peer,0,false,(mH e).1,e.Take⟩,(mH e).2.map (GQ e.Number e.Life e.Peer (mH e).1.Base (mH e).1.Items)++[⟨1,e.Number,e.Life,e.Peer,(tkM e.Take).1,(tkM e.Take).2,0,false,noB⟩],noB⟩
      else ⟨0,⟨e.Number,e.Up,e.Life,e.Peer,upS e,e.Owes,(mH e).1,e.Take⟩,(mH e).2.map (GQ e.Number e.Life e.Peer (mH e).1.Base (mH e).1.Items),noB⟩)
    else ⟨0,e,[],noB⟩) else ⟨1,D3,[],noB⟩
theorem RW (x0 x1:Int) (x2:Bool) (x3 x4 x5:Int) (x6:Bool) (x7 x8:Int) (x9 x10:ByteArray) (n:Int) (u:Bool) (li p s:Int) (w:Bool) (b nn:Int) (o:ByteArray) (out:List aF) (y1:List aQ) (y2:List aR) (y3:List ByteArray) (y4:List aF) (it:List aQ) (h:List aR) (r:List ByteArray) (ho:out.length≤1000):
    Wp (fun k=>iY k x0 x1 x2 x3 x4 x5 x6 x7 x8 x9 x10 n u li p s w b nn o out y1 y2 y3 y4 it h r) (· =if w=true∨6≤s then ⟨0,⟨n,u,li,p,0,false,⟨b,it⟩,⟨nn,h,o,r⟩⟩,out++[⟨1,n,li,p,(tkM ⟨nn,h,o,r⟩).1,(tkM ⟨nn,h,o,r⟩).2,0,false,noB⟩],noB⟩ else ⟨0,⟨n,u,li,p,s,w,⟨b,it⟩,⟨nn,h,o,r⟩⟩,out,noB⟩):=by
  refine Wp.step ?_
  simp only [iY]
  have G:w=true∨6≤s→Wp (fun k=>(kC k ⟨nn,h,o,r⟩).bind fun r8=>(app 80 out ([(⟨1,n,li,p,r8.1,r8.2,0,false,(⟨#[]⟩:ByteArray)⟩:aF)]:List aF)).bind fun l9=>
   eM k x0 x1 x2 x3 x4 x5 x6 x7 x8 x9 x10 n u li p 0 false b nn o l9 y1 y2 y3 y4 it h r) (· =if w=true∨6≤s then ⟨0,⟨n,u,li,p,0,false,⟨b,it⟩,⟨nn,h,o,r⟩⟩,out++[⟨1,n,li,p,(tkM ⟨nn,h,o,r⟩).1,(tkM ⟨nn,h,o,r⟩).2,0,false,noB⟩],noB⟩ else ⟨0,⟨n,u,li,p,s,w,⟨b,it⟩,⟨nn,h,o,r⟩⟩,out,noB⟩):=fun g=>by
    rw [if_pos g]
    refine Wp.bind (J7 _) (fun _ q=> ?_);subst q
    refine Wp.opt (bP (by simp;omega)) ?_
    refine Wp.step ?_
    simp only [eM]
    exact Wp.ret rfl
  refine Wp.bif (fun g=>G (.inl g)) (fun g=> ?_)
  simp only [aJ]
  refine Wp.ite (fun g2=>G (.inr g2)) (fun g2=> ?_)
  rw [if_neg (by rw [g];intro h;rcases h with h | h;cases h;omega)]
  refine Wp.step ?_
  simp only [eM]
  exact Wp.ret (by rw [g])
theorem Q4 (x0 x1:Int) (x2:Bool) (x3 x4 x5:Int) (x6:Bool) (x7 x8:Int) (x9 x10:ByteArray) (n:Int) (u:Bool) (li p s:Int) (w:Bool) (b c nn:Int) (o:ByteArray) (y1:List aQ) (y2:List aR) (y3:List ByteArray) (y4:List aF) (it:List aQ) (h:List aR) (r:List ByteArray) (hit:it.length≤60) (hb:0≤b∧b≤1000000):∀(t pre:List Int) (out:List aF),(pre++t).length≤60→out.length≤pre.length→(∀q∈t,b≤q∧q<b+it.length)→
    Wp (fun k=>fU k (pre.length:Int) x0 x1 x2 x3 x4 x5 x6 x7 x8 x9 x10 n u li p s w c nn o out b (pre++t) y1 y2 y3 y4 it h r) (· =if w=true∨6≤s then ⟨0,⟨n,u,li,p,0,false,⟨c,it⟩,⟨nn,h,o,r⟩⟩,(out++t.map (GQ n li p b it))++[⟨1,n,li,p,(tkM ⟨nn,h,o,r⟩).1,(tkM ⟨nn,h,o,r⟩).2,0,false,noB⟩],noB⟩ else ⟨0,⟨n,u,li,p,s,w,⟨c,it⟩,⟨nn,h,o,r⟩⟩,out++t.map (GQ n li p b it),noB⟩)
  | [],pre,out,hl,ho,hq=>by
    refine Wp.step ?_
    simp only [fU,List.append_nil,List.map_nil] at*
    simp (disch:=omega) only [aJ,if_neg]
    exact RW _ _ _ _ _ _ _ _ _ _ _ _ _ _ _ _ _ _ _ _ _ _ _ _ _ _ _ _ (by omega)
  | q::t,pre,out,hl,ho,hq=>by
    refine Wp.step ?_
    have hl':=hl
    simp only [List.length_append,List.length_cons] at hl
    have hq1:=hq q (List.mem_cons_self ..)
    simp only [fU]
    simp only [aJ,iE,if_true,bK,j5,Option.bind_some]
    rw [bQ (n:=q-b) (by omega) (by omega)]
    have hlt:(q-b).toNat<it.length:=by omega
    have e1:idx it (q-b)=some it[(q-b).toNat]:=by
      have:=ST hlt
      rwa [Int.toNat_of_nonneg (by omega)] at this
    have e2:it[(q-b).toNat]? =some it[(q-b).toNat]:=List.getElem?_eq_getElem hlt
    have e3:NA it (q-b)=it[(q-b).toNat].Part:=by unfold NA;rw [e2]
    simp only [e1,e2,Option.bind_some]
    rw [←e3]
    refine Wp.opt (bP (by simp;omega)) ?_
    simp (disch:=omega) only [bQ]
    have ih:=Q4 x0 x1 x2 x3 x4 x5 x6 x7 x8 x9 x10 n u li p s w b c nn o y1 y2 y3 y4 it h r hit hb t (pre++[q]) (out++[GQ n li p b it q]) (by simpa using hl') (by simp;omega) (fun q' h'=>hq q' (List.mem_cons_of_mem _ h'))
    rw [←cM,←bV] at ih
    simp only [List.append_assoc,List.cons_append,List.nil_append] at ih
    simp only [List.map_cons,List.append_assoc,List.cons_append]
    exact ih
theorem UF (x0 x1:Int) (x2:Bool) (x3 x4 x5:Int) (x6:Bool) (x7 x8:Int) (x9 x10:ByteArray) (cd n:Int) (u:Bool) (li p s:Int) (w:Bool) (b nn:Int) (o tx:ByteArray) (out:List aF) (y1:List aQ) (y2:List aR) (y3:List ByteArray) (y4:List aF) (it:List aQ) (h:List aR) (r:List ByteArray) (ho:out.length≤1000):
    Wp (fun k=>iT k x0 x1 x2 x3 x4 x5 x6 x7 x8 x9 x10 cd n u li p s w b nn o tx y1 y2 y3 y4 it h r out) (· =if w=true∨6≤s then ⟨cd,⟨n,u,li,p,0,false,⟨b,it⟩,⟨nn,h,o,r⟩⟩,out++[⟨1,n,li,p,(tkM ⟨nn,h,o,r⟩).1,(tkM ⟨nn,h,o,r⟩).2,0,false,noB⟩],tx⟩ else ⟨cd,⟨n,u,li,p,s,w,⟨b,it⟩,⟨nn,h,o,r⟩⟩,out,tx⟩):=by
  refine Wp.step ?_
  simp only [iT]
  have G:w=true∨6≤s→Wp (fun k=>(kJ k ⟨nn,h,o,r⟩).bind fun r8=>(app 80 out ([(⟨1,n,li,p,r8.1,r8.2,0,false,(⟨#[]⟩:ByteArray)⟩:aF)]:List aF)).bind fun l9=>
   eD k x0 x1 x2 x3 x4 x5 x6 x7 x8 x9 x10 cd n u li p 0 false b nn o tx y1 y2 y3 y4 it h r l9) (· =if w=true∨6≤s then ⟨cd,⟨n,u,li,p,0,false,⟨b,it⟩,⟨nn,h,o,r⟩⟩,out++[⟨1,n,li,p,(tkM ⟨nn,h,o,r⟩).1,(tkM ⟨nn,h,o,r⟩).2,0,false,noB⟩],tx⟩ else ⟨cd,⟨n,u,li,p,s,w,⟨b,it⟩,⟨nn,h,o,r⟩⟩,out,tx⟩):=fun g=>by
    rw [if_pos g]
    refine Wp.bind (KT _) (fun _ q=> ?_);subst q
    refine Wp.opt (bP (by simp;omega)) ?_
    refine Wp.step ?_
    simp only [eD]
    exact Wp.ret rfl
  refine Wp.bif (fun g=>G (.inl g)) (fun g=> ?_)
  simp only [aJ]
  refine Wp.ite (fun g2=>G (.inr g2)) (fun g2=> ?_)
  rw [if_neg (by rw [g];intro h;rcases h with h | h;cases h;omega)]
  refine Wp.step ?_
  simp only [eD]
  exact Wp.ret (by rw [g])
theorem UD (x0 x1:Int) (x2:Bool) (x3 x4 x5:Int) (x6:Bool) (x7 x8:Int) (x9 x10:ByteArray) (cd n:Int) (u:Bool) (li p s:Int) (w:Bool) (b nn:Int) (o tx:ByteArray) (y1:List aQ) (y2:List aR) (y3:List ByteArray) (y4:List aF) (it:List aQ) (h:List aR) (r:List ByteArray) (hit:it.length≤60) (hb:0≤b∧b≤1000000):∀(t pre:List Int) (out:List aF),(pre++t).length≤60→out.length≤pre.length→(∀q∈t,b≤q∧q<b+it.length)→
    Wp (fun k=>fS k ((pre++t).length:Int) (pre.length:Int) x0 x1 x2 x3 x4 x5 x6 x7 x8 x9 x10 cd n u li p s w b nn o tx (pre++t) y1 y2 y3 y4 it h r out) (· =if w=true∨6≤s then ⟨cd,⟨n,u,li,p,0,false,⟨b,it⟩,⟨nn,h,o,r⟩⟩,(out++t.map (GQ n li p b it))++[⟨1,n,li,p,(tkM ⟨nn,h,o,r⟩).1,(tkM ⟨nn,h,o,r⟩).2,0,false,noB⟩],tx⟩ else ⟨cd,⟨n,u,li,p,s,w,⟨b,it⟩,⟨nn,h,o,r⟩⟩,out++t.map (GQ n li p b it),tx⟩)
  | [],pre,out,hl,ho,hq=>by
    refine Wp.step ?_
    simp only [fS,List.append_nil,List.map_nil] at*
    simp (disch:=omega) only [aJ,if_neg]
    exact UF _ _ _ _ _ _ _ _ _ _ _ _ _ _ _ _ _ _ _ _ _ _ _ _ _ _ _ _ _ _ (by omega)
  | q::t,pre,out,hl,ho,hq=>by
    refine Wp.step ?_
    have hl':=hl
    simp only [List.length_append,List.length_cons] at hl
    have hq1:=hq q (List.mem_cons_self ..)
    simp only [fS]
    simp only [aJ,iE,if_true,bK,j5,Option.bind_some]
    rw [bQ (n:=q-b) (by omega) (by omega)]
    have hlt:(q-b).toNat<it.length:=by omega
    have e1:idx it (q-b)=some it[(q-b).toNat]:=by
      have:=ST hlt
      rwa [Int.toNat_of_nonneg (by omega)] at this
    have e2:it[(q-b).toNat]? =some it[(q-b).toNat]:=List.getElem?_eq_getElem hlt
    have e3:NA it (q-b)=it[(q-b).toNat].Part:=by unfold NA;rw [e2]
    simp only [e1,e2,Option.bind_some]
    rw [←e3]
    refine Wp.opt (bP (by simp;omega)) ?_
    simp (disch:=omega) only [bQ]
    have ih:=UD x0 x1 x2 x3 x4 x5 x6 x7 x8 x9 x10 cd n u li p s w b nn o tx y1 y2 y3 y4 it h r hit hb t (pre++[q]) (out++[GQ n li p b it q]) (by simpa using hl') (by simp;omega) (fun q' h'=>hq q' (List.mem_cons_of_mem _ h'))
    rw [←cM,←bV] at ih
    simp only [List.append_assoc,List.cons_append,List.nil_append] at ih
    simp only [List.map_cons,List.append_assoc,List.cons_append]
    exact ih
theorem II (s:aM) (h:VSend s):∀q∈(AF s).2,(AF s).1.Base≤q∧q<(AF s).1.Base+(AF s).1.Items.length:=by
  unfold AF
  rw [if_pos h]
  intro q hq
  have:=KC s.Items 0 s.Base q hq
  have e:=(O1 s.Items 0 s.Base h.2.2.2).2.1
  simp only
  rw [e];omega
theorem FI (e:aN):Wp (fun k=>sE k e) (· =rQ e):=by
  unfold sE rQ
  refine Wp.bind (d5 _) (fun _ q=> ?_);subst q
  simp only [aJ,cE]
  refine Wp.ite (fun h1=> ?_) (fun h1=>Wp.ret (by rw [if_neg h1]))
  rw [if_pos h1]
  refine Wp.bind (oV e h1) (fun r q=> ?_);rw [q]
  refine Wp.bif (fun u=> ?_) (fun u=>Wp.ret (by rw [if_neg (by simp [u])]))
  rw [if_pos u]
  have hS:=h1.2.2.2.1
  have M:∀s:Int,s=upS e→Wp (fun k=>jS k 0 0 false 0 0 0 false 0 0 (⟨#[]⟩:ByteArray) (⟨#[]⟩:ByteArray) e.Number e.Up e.Life e.Peer s e.Owes e.Send.Base e.Take.Next e.Take.Open ([]:List aF) ([]:List aQ) ([]:List aR) ([]:List ByteArray) ([]:List aF) e.Send.Items e.Take.Held e.Take.Ready) (· =if e.Owes=true∨6≤upS e then ⟨0,⟨e.Number,e.Up,e.Life,e.Peer,0,false,(mH e).1,e.Take⟩,(mH e).2.map (GQ e.Number e.Life e.Peer (mH e).1.Base (mH e).1.Items)++[⟨1,e.Number,e.Life,e.Peer,(tkM e.Take).1,(tkM e.Take).2,0,false,noB⟩],noB⟩
   else ⟨0,⟨e.Number,e.Up,e.Life,e.Peer,upS e,e.Owes,(mH e).1,e.Take⟩,(mH e).2.map (GQ e.Number e.Life e.Peer (mH e).1.Base (mH e).1.Items),noB⟩):=fun s hs=>by
    subst hs
    refine Wp.step ?_
    simp only [jS,DD]
    unfold mH
    refine Wp.ite (fun h2=> ?_) (fun h2=> ?_)
    ·rw [if_pos h2]
     exact RW _ _ _ _ _ _ _ _ _ _ _ _ _ _ _ _ _ _ _ _ _ _ _ _ _ _ _ _ (by simp)
    ·rw [if_neg h2]
     refine Wp.bind (WI _) (fun _ q=> ?_);subst q
     obtain ⟨v1,v2⟩:=PG e.Send
     exact Q4 _ _ _ _ _ _ _ _ _ _ _ _ _ _ _ _ _ _ _ _ _ _ _ _ _ _ _ _ v1.1 v1.2.1 (AF e.Send).2 [] [] (by simpa using v2) (by simp) (II e.Send h1.2.2.2.2.1)
  refine Wp.ite (fun h2=>M _ ?_) (fun h2=>M _ ?_)
  ·rw [bQ (by omega) (by omega)];unfold upS;rw [if_pos h2]
  ·unfold upS;rw [if_neg h2]
theorem FN (e:aN):Wp (fun k=>sP k e) (· =rQ e):=by
  unfold sP rQ
  refine Wp.bind (dY _) (fun _ q=> ?_);subst q
  simp only [aJ,cE]
  refine Wp.ite (fun h1=> ?_) (fun h1=>Wp.ret (by rw [if_neg h1]))
  rw [if_pos h1]
  refine Wp.bind (mN e h1) (fun r q=> ?_);rw [q]
  refine Wp.bif (fun u=> ?_) (fun u=>Wp.ret (by rw [if_neg (by simp [u])]))
  rw [if_pos u]
  have hS:=h1.2.2.2.1
  have M:∀s:Int,s=upS e→Wp (fun k=>j0 k 0 0 false 0 0 0 false 0 0 (⟨#[]⟩:ByteArray) (⟨#[]⟩:ByteArray) 0 e.Number e.Up e.Life e.Peer s e.Owes e.Send.Base e.Take.Next e.Take.Open (⟨#[]⟩:ByteArray) ([]:List aQ) ([]:List aR) ([]:List ByteArray) ([]:List aF) e.Send.Items e.Take.Held e.Take.Ready ([]:List aF)) (· =if e.Owes=true∨6≤upS e then ⟨0,⟨e.Number,e.Up,e.Life,e.Peer,0,false,(mH e).1,e.Take⟩,(mH e).2.map (GQ e.Number e.Life e.Peer (mH e).1.Base (mH e).1.Items)++[⟨1,e.Number,e.Life,e.Peer,(tkM e.Take).1,(tkM e.Take).2,0,false,noB⟩],noB⟩
   else ⟨0,⟨e.Number,e.Up,e.Life,e.Peer,upS e,e.Owes,(mH e).1,e.Take⟩,(mH e).2.map (GQ e.Number e.Life e.Peer (mH e).1.Base (mH e).1.Items),noB⟩):=fun s hs=>by
    subst hs
    refine Wp.step ?_
    simp only [j0,DD]
    unfold mH
    refine Wp.ite (fun h2=> ?_) (fun h2=> ?_)
    ·rw [if_pos h2]
     exact UF _ _ _ _ _ _ _ _ _ _ _ _ _ _ _ _ _ _ _ _ _ _ _ _ _ _ _ _ _ _ (by simp)
    ·rw [if_neg h2]
     refine Wp.bind (V1 _) (fun _ q=> ?_);subst q
     obtain ⟨v1,v2⟩:=PG e.Send
     exact UD _ _ _ _ _ _ _ _ _ _ _ _ _ _ _ _ _ _ _ _ _ _ _ _ _ _ _ _ _ v1.1 v1.2.1 (AF e.Send).2 [] [] (by simpa using v2) (by simp) (II e.Send h1.2.2.2.2.1)
  refine Wp.ite (fun h2=>M _ ?_) (fun h2=>M _ ?_)
  ·rw [bQ (by omega) (by omega)];unfold upS;rw [if_pos h2]
  ·unfold upS;rw [if_neg h2]
theorem aH_ (e:aN) (h:VEnd e):VSend (mH e).1∧(mH e).2.length≤60:=by
  unfold mH;split
  ·exact ⟨h.2.2.2.2.1,by simp⟩
  ·exact PG _
def fd_ (r:aA):Prop:=(1≤r.From∧r.From≤2)∧(1≤r.A∧r.A≤1000)∧(1≤r.B∧r.B≤1000)∧r.Text.size≤200
instance (r:aA):Decidable (fd_ r):=by unfold fd_;infer_instance
def pG (l:List aA):Prop:=∀r∈l,fd_ r
instance (l:List aA):Decidable (pG l):=by unfold pG;infer_instance
def av_ (p:aE):Prop:=(1≤p.To∧p.To≤2)∧p.Sent.size≤100∧p.Bytes.size≤100
instance (p:aE):Decidable (av_ p):=by unfold av_;infer_instance
def vY (l:List aE):Prop:=∀p∈l,av_ p
instance (l:List aE):Decidable (vY l):=by unfold vY;infer_instance
def GP:List aN→Prop
  | [a,b]=>(VEnd a∧a.Number=1)∧(VEnd b∧b.Number=2)
  | _=>False
instance:(l:List aN)→Decidable (GP l)
  | [a,b]=>by unfold GP;infer_instance
  | []=> .isFalse id
  | [_]=> .isFalse id
  | _::_::_::_=> .isFalse id
def aS (w:aC):Prop:=(1≤w.Width∧w.Width≤8)∧w.Key.size≤30∧w.Flight.length≤1000∧w.Given.length+w.Taken.length≤400∧GP w.Ends∧vY w.Flight∧pG w.Given∧pG w.Taken
instance (w:aC):Decidable (aS w):=by unfold aS;infer_instance
theorem RG:∀{l:List aN},GP l→l.length=2
  | [a,b],_=>rfl
theorem all_cons {α:Type} {P:α→Prop} {x:α} {t:List α}:(∀y∈x::t,P y)↔P x∧∀y∈t,P y:=by simp
theorem RB:∀(t pre:List aA),(pre++t).length≤1000→Wp (fun k=>dO k (pre++t) (pre.length:Int)) (· =decide (pG t))
  | [],pre,hl=>by
    refine Wp.step ?_
    simp only [dO,List.append_nil]
    simp (disch:=omega) only [aJ,if_neg]
    exact Wp.ret (decide_eq_true fun x hx=>by simp at hx).symm
  | x::t,pre,hl=>by
    refine Wp.step ?_
    have hl':=hl
    simp only [List.length_append,List.length_cons] at hl
    simp only [dO]
    simp only [aJ,iE,if_true,bK,Option.bind_some,cE]
    have F:¬fd_ x→Wp (fun _=>some false) (· =decide (pG (x::t))):=fun h=>Wp.ret (decide_eq_false fun g=>h (g x (List.mem_cons_self ..))).symm
    refine Wp.bind (dM _ _ _) (fun _ q=> ?_);subst q
    simp only [inB,aJ]
    refine Wp.ite (fun h1=> ?_) (fun h1=>F fun g=>h1 g.1)
    refine Wp.bind (dM _ _ _) (fun _ q=> ?_);subst q
    simp only [inB,aJ]
    refine Wp.ite (fun h2=> ?_) (fun h2=>F fun g=>h2 g.2.1)
    refine Wp.bind (dM _ _ _) (fun _ q=> ?_);subst q
    simp only [inB,aJ]
    refine Wp.ite (fun h3=> ?_) (fun h3=>F fun g=>h3 g.2.2.1)
    refine Wp.ite (fun h4=>F fun g=>by have:=g.2.2.2;omega) (fun h4=> ?_)
    simp (disch:=omega) only [bQ]
    have ih:=RB t (pre++[x]) (by simpa using hl')
    rw [←cM,←bV] at ih
    refine ih.mono fun v hv=> ?_
    rw [hv,decide_eq_decide]
    exact ⟨fun g=>all_cons.mpr ⟨⟨h1,h2,h3,by omega⟩,g⟩,fun g=>(all_cons.mp g).2⟩
theorem JW (l:List aA) (h:l.length≤1000):Wp (fun k=>lY k l) (· =decide (pG l)):=RB l [] (by simpa using h)
theorem YU (kk:ByteArray) (wd:Int) (es:List aN) (fo:ByteArray) (gi ta:List aA) (hg:gi.length≤1000) (ht:ta.length≤1000):∀(t pre:List aE),(pre++t).length≤1000→
    Wp (fun k=>d6 k (pre.length:Int) kk wd es (pre++t) fo gi ta) (· =decide (vY t∧pG gi∧pG ta))
  | [],pre,hl=>by
    refine Wp.step ?_
    simp only [d6,List.append_nil]
    simp (disch:=omega) only [aJ,if_neg]
    refine Wp.bind (JW gi hg) (fun _ q=> ?_);subst q
    simp only [aJ]
    refine Wp.ite (fun h1=> ?_) (fun h1=>Wp.ret (decide_eq_false fun g=>h1 g.2.1).symm)
    refine Wp.bind (JW ta ht) (fun _ q=> ?_);subst q
    refine Wp.ret ?_
    rw [decide_eq_decide]
    exact ⟨fun g=>⟨fun x hx=>by simp at hx,h1,g⟩,fun g=>g.2.2⟩
  | x::t,pre,hl=>by
    refine Wp.step ?_
    have hl':=hl
    simp only [List.length_append,List.length_cons] at hl
    simp only [d6]
    simp only [aJ,iE,if_true,bK,Option.bind_some,cE]
    have F:¬av_ x→Wp (fun _=>some false) (· =decide (vY (x::t)∧pG gi∧pG ta)):=fun h=>Wp.ret (decide_eq_false fun g=>h (g.1 x (List.mem_cons_self ..))).symm
    refine Wp.bind (dM _ _ _) (fun _ q=> ?_);subst q
    simp only [inB,aJ]
    refine Wp.ite (fun h1=> ?_) (fun h1=>F fun g=>h1 g.1)
    refine Wp.ite (fun h2=>F fun g=>by have:=g.2.1;omega) (fun h2=> ?_)
    refine Wp.ite (fun h3=>F fun g=>by have:=g.2.2;omega) (fun h3=> ?_)
    simp (disch:=omega) only [bQ]
    have ih:=YU kk wd es fo gi ta hg ht t (pre++[x]) (by simpa using hl')
    rw [←cM,←bV] at ih
    refine ih.mono fun v hv=> ?_
    rw [hv,decide_eq_decide]
    exact ⟨fun g=>⟨all_cons.mpr ⟨⟨h1,by omega,by omega⟩,g.1⟩,g.2⟩,fun g=>⟨(all_cons.mp g.1).2,g.2⟩⟩
theorem kI (w:aC) (hb:w.Given.length≤1048576∧w.Taken.length≤1048576):Wp (fun k=>fD k w) (· =decide (aS w)):=by
  unfold fD
  have F:¬aS w→Wp (fun _=>some false) (· =decide (aS w)):=fun h=>Wp.ret (decide_eq_false h).symm
  refine Wp.bind (dM _ _ _) (fun _ q=> ?_);subst q
  simp only [inB,aJ,cE,DD]
  refine Wp.ite (fun h1=> ?_) (fun h1=>F fun g=>h1 g.1)
  refine Wp.ite (fun h2=>F fun g=>by have:=g.2.1;omega) (fun h2=> ?_)
  refine Wp.ite (fun h3=> ?_) (fun h3=>F fun g=>by have:=RG g.2.2.2.2.1;omega)
  refine Wp.ite (fun h4=>F fun g=>by have:=g.2.2.1;omega) (fun h4=> ?_)
  simp (disch:=omega) only [bQ]
  refine Wp.ite (fun h5=>F fun g=>by have:=g.2.2.2.1;omega) (fun h5=> ?_)
  obtain ⟨ky,wd,es,fl,fo,gi,ta⟩:=w
  match es,h3 with
  | [a,b],_=>
    refine Wp.step ?_
    have e0:idx [a,b] 0=some a:=rfl
    have e1:idx [a,b] 1=some b:=rfl
    have w1:IntKind.wrap .i64 (0+1)=1:=bQ (by omega) (by omega)
    have w2:IntKind.wrap .i64 (1+1)=2:=bQ (by omega) (by omega)
    have d0:(0:Int)<2:=by omega
    have d1:(1:Int)<2:=by omega
    have d2:¬(2:Int)<2:=by omega
    simp only [d7,e0,w1,aJ,Option.bind_some,if_pos d0,DD]
    refine Wp.bind (d5 _) (fun _ q=> ?_);subst q
    simp only [aJ,cE]
    refine Wp.ite (fun h6=> ?_) (fun h6=>F fun g=>h6 g.2.2.2.2.1.1.1)
    refine Wp.ite (fun h7=> ?_) (fun h7=>F fun g=>h7 g.2.2.2.2.1.1.2)
    refine Wp.step ?_
    simp only [d7,e1,w2,aJ,Option.bind_some,if_pos d1,DD]
    refine Wp.bind (d5 _) (fun _ q=> ?_);subst q
    simp only [aJ,cE]
    refine Wp.ite (fun h8=> ?_) (fun h8=>F fun g=>h8 g.2.2.2.2.1.2.1)
    refine Wp.ite (fun h9=> ?_) (fun h9=>F fun g=>h9 g.2.2.2.2.1.2.2)
    refine Wp.step ?_
    simp only [d7,aJ,if_neg d2]
    simp only at h2 h4 h5 hb
    refine Wp.mono (YU ky wd [a,b] fo gi ta (by omega) (by omega) fl [] (by show fl.length≤1000;omega)) fun v hv=> ?_
    rw [hv,decide_eq_decide]
    exact ⟨fun g=>⟨h1,by simp only;omega,by simp only;omega,by simp only;omega,⟨⟨h6,h7⟩,⟨h8,h9⟩⟩,g⟩,fun g=>g.2.2.2.2.2⟩
theorem LC (n j:Int) (xx:List (List aA)) (R:Prop) [Decidable R] (hR:Wp (fun k=>cH k n (IntKind.wrap .i64 (j+1)) xx) (· =decide R)):∀(t pre:List aA),(pre++t).length≤1000→
    Wp (fun k=>cF k n j (pre++t) ((pre++t).length:Int) (pre.length:Int) xx) (· =decide (pG t∧R))
  | [],pre,hl=>by
    refine Wp.step ?_
    simp only [cF,List.append_nil]
    simp (disch:=omega) only [aJ,if_neg]
    refine hR.mono fun v hv=> ?_
    rw [hv,decide_eq_decide]
    exact ⟨fun g=>⟨fun x hx=>by simp at hx,g⟩,fun g=>g.2⟩
  | x::t,pre,hl=>by
    refine Wp.step ?_
    have hl':=hl
    simp only [List.length_append,List.length_cons] at hl
    simp only [cF]
    simp only [aJ,iE,if_true,bK,Option.bind_some,cE,DD]
    simp (disch:=omega) only [bQ]
    have F:¬fd_ x→Wp (fun _=>some false) (· =decide (pG (x::t)∧R)):=fun h=>Wp.ret (decide_eq_false fun g=>h (g.1 x (List.mem_cons_self ..))).symm
    have ih:=LC n j xx R hR t (pre++[x]) (by simpa using hl')
    rw [←cM,←bV] at ih
    have M:(1≤x.From∧x.From≤2)→Wp (fun k=>(bR k x.A 1 1000).bind fun r8=>
     bif r8 then (bR k x.B 1 1000).bind fun r9=>bif r9 then (if (x.Text.size:Int)>200 then some false else cF k n j (pre++x::t) ((pre++x::t).length:Int) ((pre.length:Int)+1) xx) else some false else some false) (· =decide (pG (x::t)∧R)):=fun h1=>by
      refine Wp.bind (B6 _ _ _) (fun _ q=> ?_);subst q
      simp only [inB,aJ]
      refine Wp.ite (fun h2=> ?_) (fun h2=>F fun g=>h2 g.2.1)
      refine Wp.bind (B6 _ _ _) (fun _ q=> ?_);subst q
      simp only [inB,aJ]
      refine Wp.ite (fun h3=> ?_) (fun h3=>F fun g=>h3 g.2.2.1)
      refine Wp.ite (fun h4=>F fun g=>by have:=g.2.2.2;omega) (fun h4=> ?_)
      refine ih.mono fun v hv=> ?_
      rw [hv,decide_eq_decide]
      exact ⟨fun g=>⟨all_cons.mpr ⟨⟨h1,h2,h3,by omega⟩,g.1⟩,g.2⟩,fun g=>⟨(all_cons.mp g.1).2,g.2⟩⟩
    refine Wp.ite (fun h=>M (by omega)) (fun h=> ?_)
    exact Wp.ite (fun h2=>M (by omega)) (fun h2=>F fun g=>by have:=g.1;omega)
theorem aa_ (gi ta:List aA) (hg:gi.length≤1000) (ht:ta.length≤1000):Wp (fun k=>cH k (([gi,ta]:List (List aA)).length:Int) 0 [gi,ta]) (· =decide (pG gi∧pG ta)):=by
  have e0:idx [gi,ta] 0=some gi:=rfl
  have e1:idx [gi,ta] 1=some ta:=rfl
  have w1:IntKind.wrap .i64 (0+1)=1:=bQ (by omega) (by omega)
  have w2:IntKind.wrap .i64 (1+1)=2:=bQ (by omega) (by omega)
  have d0:(0:Int)<2:=by omega
  have d1:(1:Int)<2:=by omega
  have d2:¬(2:Int)<2:=by omega
  have l2:(([gi,ta]:List (List aA)).length:Int)=2:=rfl
  rw [l2]
  have g0:[gi,ta][Int.toNat 0]? =some gi:=rfl
  have g1:[gi,ta][Int.toNat 1]? =some ta:=rfl
  refine Wp.step ?_
  simp only [cH,e0,g0,aJ,if_pos d0,Option.bind_some]
  refine LC 2 0 [gi,ta] (pG ta) ?_ gi [] (by simpa using hg)
  rw [w1]
  refine Wp.step ?_
  simp only [cH,e1,g1,aJ,if_pos d1,Option.bind_some]
  refine (LC 2 1 [gi,ta] True ?_ ta [] (by simpa using ht)).mono fun v hv=> ?_
  ·rw [w2]
   refine Wp.step ?_
   simp only [cH,aJ,if_neg d2]
   exact Wp.ret rfl
  ·rw [hv,decide_eq_decide];exact ⟨fun g=>g.1,fun g=>⟨g,trivial⟩⟩
theorem X9 (kk:ByteArray) (wd:Int) (es:List aN) (ff:List aE) (fo:ByteArray) (gi ta:List aA) (hg:gi.length≤1000) (ht:ta.length≤1000):∀(t pre:List aE),(pre++t).length≤1000→
    Wp (fun k=>cD k (pre++t) ((pre++t).length:Int) (pre.length:Int) kk wd es ff fo gi ta) (· =decide (vY t∧pG gi∧pG ta))
  | [],pre,hl=>by
    refine Wp.step ?_
    simp only [cD,List.append_nil]
    have hn:¬(pre.length:Int)<(pre.length:Int):=by omega
    simp only [aJ,if_neg hn]
    refine (aa_ gi ta hg ht).mono fun v hv=> ?_
    rw [hv,decide_eq_decide]
    exact ⟨fun g=>⟨fun x hx=>by simp at hx,g⟩,fun g=>g.2⟩
  | x::t,pre,hl=>by
    refine Wp.step ?_
    have hl':=hl
    simp only [List.length_append,List.length_cons] at hl
    simp only [cD]
    simp only [aJ,iE,if_true,bK,Option.bind_some,cE,DD]
    simp (disch:=omega) only [bQ]
    have F:¬av_ x→Wp (fun _=>some false) (· =decide (vY (x::t)∧pG gi∧pG ta)):=fun h=>Wp.ret (decide_eq_false fun g=>h (g.1 x (List.mem_cons_self ..))).symm
    have ih:=X9 kk wd es ff fo gi ta hg ht t (pre++[x]) (by simpa using hl')
    rw [←cM,←bV] at ih
    have M:(1≤x.To∧x.To≤2)→Wp (fun k=>if (x.Sent.size:Int)>100 then some false else if (x.Bytes.size:Int)>100 then some false else cD k (pre++x::t) ((pre++x::t).length:Int) ((pre.length:Int)+1) kk wd es ff fo gi ta) (· =decide (vY (x::t)∧pG gi∧pG ta)):=fun h1=>by
      refine Wp.ite (fun h2=>F fun g=>by have:=g.2.1;omega) (fun h2=> ?_)
      refine Wp.ite (fun h3=>F fun g=>by have:=g.2.2;omega) (fun h3=> ?_)
      refine ih.mono fun v hv=> ?_
      rw [hv,decide_eq_decide]
      exact ⟨fun g=>⟨all_cons.mpr ⟨⟨h1,by omega,by omega⟩,g.1⟩,g.2⟩,fun g=>⟨(all_cons.mp g.1).2,g.2⟩⟩
    refine Wp.ite (fun h=>M (by omega)) (fun h=> ?_)
    exact Wp.ite (fun h2=>M (by omega)) (fun h2=>F fun g=>by have:=g.1;omega)
theorem kP (w:aC) (hb:w.Given.length≤1048576∧w.Taken.length≤1048576):Wp (fun k=>fC k w) (· =decide (aS w)):=by
  unfold fC
  have F:¬aS w→Wp (fun _=>some false) (· =decide (aS w)):=fun h=>Wp.ret (decide_eq_false h).symm
  simp only [aJ,cE,DD]
  refine Wp.ite (fun h1=>F fun g=>by have:=g.1;omega) (fun h1=> ?_)
  refine Wp.ite (fun h1'=>F fun g=>by have:=g.1;omega) (fun h1'=> ?_)
  refine Wp.ite (fun h2=>F fun g=>by have:=g.2.1;omega) (fun h2=> ?_)
  refine Wp.ite (fun h3=> ?_) (fun h3=>F fun g=>by have:=RG g.2.2.2.2.1;omega)
  refine Wp.ite (fun h4=>F fun g=>by have:=g.2.2.1;omega) (fun h4=> ?_)
  simp (disch:=omega) only [bQ]
  refine Wp.ite (fun h5=>F fun g=>by have:=g.2.2.2.1;omega) (fun h5=> ?_)
  obtain ⟨ky,wd,es,fl,fo,gi,ta⟩:=w
  match es,h3 with
  | [a,b],_=>
    refine Wp.step ?_
    have e0:idx [a,b] 0=some a:=rfl
    have e1:idx [a,b] 1=some b:=rfl
    have w1:IntKind.wrap .i64 (0+1)=1:=bQ (by omega) (by omega)
    have w2:IntKind.wrap .i64 (1+1)=2:=bQ (by omega) (by omega)
    have d0:(0:Int)<2:=by omega
    have d1:(1:Int)<2:=by omega
    have d2:¬(2:Int)<2:=by omega
    have l2:(([a,b]:List aN).length:Int)=2:=rfl
    simp only [eB,e0,w1,aJ,Option.bind_some,l2,if_pos d0,DD]
    refine Wp.bind (dY _) (fun _ q=> ?_);subst q
    simp only [aJ,cE]
    refine Wp.ite (fun h6=> ?_) (fun h6=>F fun g=>h6 g.2.2.2.2.1.1.1)
    refine Wp.ite (fun h7=> ?_) (fun h7=>F fun g=>h7 g.2.2.2.2.1.1.2)
    refine Wp.step ?_
    simp only [eB,e1,w2,aJ,Option.bind_some,if_pos d1,DD]
    refine Wp.bind (dY _) (fun _ q=> ?_);subst q
    simp only [aJ,cE]
    refine Wp.ite (fun h8=> ?_) (fun h8=>F fun g=>h8 g.2.2.2.2.1.2.1)
    refine Wp.ite (fun h9=> ?_) (fun h9=>F fun g=>h9 g.2.2.2.2.1.2.2)
    refine Wp.step ?_
    simp only [eB,aJ,if_neg d2]
    simp only at h1 h1' h2 h4 h5 hb
    refine Wp.mono (X9 ky wd [a,b] fl fo gi ta (by omega) (by omega) fl [] (by show fl.length≤1000;omega)) fun v hv=> ?_
    rw [hv,decide_eq_decide]
    exact ⟨fun g=>⟨⟨by simp only;omega,by simp only;omega⟩,by simp only;omega,by simp only;omega,by simp only;omega,⟨⟨h6,h7⟩,⟨h8,h9⟩⟩,g⟩,fun g=>g.2.2.2.2.2⟩
def UP (e f:aN):Prop:=e.Up=true∧e.Peer=f.Life∧e.Send.Items.length=0∧e.Take.Held.length=0∧e.Take.Open=noB∧e.Take.Ready.length=0
instance (e f:aN):Decidable (UP e f):=by unfold UP;infer_instance
def ee_:List aN→Prop
  | [a,b]=>UP a b∧UP b a
  | _=>False
instance:(l:List aN)→Decidable (ee_ l)
  | [a,b]=>by unfold ee_;infer_instance
  | []=> .isFalse id
  | [_]=> .isFalse id
  | _::_::_::_=> .isFalse id
def OU (w:aC):Prop:=aS w∧ee_ w.Ends
instance (w:aC):Decidable (OU w):=by unfold OU;infer_instance
theorem CB {e f:aN} {R:Prop} [Decidable R] {g:Nat→Option Bool} (hR:UP e f→Wp g (· =decide R)) (hn:R→UP e f):Wp (fun k=>bif e.Up then (if e.Peer=f.Life then (if (e.Send.Items.length:Int)>0 then some false else if (e.Take.Held.length:Int)>0 then some false else
    if e.Take.Open=(⟨#[]⟩:ByteArray) then (if (e.Take.Ready.length:Int)>0 then some false else g k) else some false) else some false) else some false) (· =decide R):=by
  have F:¬UP e f→Wp (fun _=>some false) (· =decide R):=fun h=>Wp.ret (decide_eq_false fun g=>h (hn g)).symm
  refine Wp.bif (fun h1=> ?_) (fun h1=>F fun q=>by have:=q.1;rw [h1] at this;cases this)
  refine Wp.ite (fun h2=> ?_) (fun h2=>F fun q=>h2 q.2.1)
  refine Wp.ite (fun h3=>F fun q=>by have:=q.2.2.1;omega) (fun h3=> ?_)
  refine Wp.ite (fun h4=>F fun q=>by have:=q.2.2.2.1;omega) (fun h4=> ?_)
  refine Wp.ite (fun h5=> ?_) (fun h5=>F fun q=>h5 q.2.2.2.2.1)
  refine Wp.ite (fun h6=>F fun q=>by have:=q.2.2.2.2.2;omega) (fun h6=> ?_)
  exact hR ⟨h1,h2,by omega,by omega,h5,by omega⟩
theorem UY (w:aC) (hb:w.Given.length≤1048576∧w.Taken.length≤1048576):Wp (fun k=>BU k w) (· =decide (OU w)):=by
  unfold BU
  refine Wp.bind (kI w hb) (fun _ q=> ?_);subst q
  simp only [aJ,cE]
  refine Wp.ite (fun h1=> ?_) (fun h1=>Wp.ret (decide_eq_false fun g=>h1 g.1).symm)
  obtain ⟨ky,wd,es,fl,fo,gi,ta⟩:=w
  match es,h1 with
  | [a,b],h1=>
    have e0:idx [a,b] 0=some a:=rfl
    have e1:idx [a,b] 1=some b:=rfl
    have w1:IntKind.wrap .i64 (0+1)=1:=bQ (by omega) (by omega)
    have w2:IntKind.wrap .i64 (1+1)=2:=bQ (by omega) (by omega)
    have w3:IntKind.wrap .i64 (1-0)=1:=bQ (by omega) (by omega)
    have w4:IntKind.wrap .i64 (1-1)=0:=bQ (by omega) (by omega)
    have d0:(0:Int)<2:=by omega
    have d1:(1:Int)<2:=by omega
    have d2:¬(2:Int)<2:=by omega
    refine Wp.step ?_
    simp only [mU,e0,e1,w1,w3,aJ,Option.bind_some,if_pos d0,DD,cE,oA]
    refine CB (e:=a) (f:=b) (R:=OU ⟨ky,wd,[a,b],fl,fo,gi,ta⟩) (fun i1=> ?_) (fun g=>g.2.1)
    refine Wp.step ?_
    simp only [mU,e0,e1,w2,w4,aJ,Option.bind_some,if_pos d1,DD,cE,oA]
    refine CB (e:=b) (f:=a) (R:=OU ⟨ky,wd,[a,b],fl,fo,gi,ta⟩) (fun i2=> ?_) (fun g=>g.2.2)
    refine Wp.step ?_
    simp only [mU,aJ,if_neg d2]
    exact Wp.ret (decide_eq_true ⟨h1,i1,i2⟩).symm
  | [],h1=>exact absurd h1.2.2.2.2.1 id
  | [_],h1=>exact absurd h1.2.2.2.2.1 id
  | _::_::_::_,h1=>exact absurd h1.2.2.2.2.1 id
theorem VN (w:aC) (hb:w.Given.length≤1048576∧w.Taken.length≤1048576):Wp (fun k=>CE k w) (· =decide (OU w)):=by
  unfold CE
  refine Wp.bind (kP w hb) (fun _ q=> ?_);subst q
  simp only [aJ,cE]
  refine Wp.ite (fun h1=> ?_) (fun h1=>Wp.ret (decide_eq_false fun g=>h1 g.1).symm)
  obtain ⟨ky,wd,es,fl,fo,gi,ta⟩:=w
  match es,h1 with
  | [a,b],h1=>
    have e0:idx [a,b] 0=some a:=rfl
    have e1:idx [a,b] 1=some b:=rfl
    have w1:IntKind.wrap .i64 (0+1)=1:=bQ (by omega) (by omega)
    have w2:IntKind.wrap .i64 (1+1)=2:=bQ (by omega) (by omega)
    have w3:IntKind.wrap .i64 (1-0)=1:=bQ (by omega) (by omega)
    have w4:IntKind.wrap .i64 (1-1)=0:=bQ (by omega) (by omega)
    have d0:(0:Int)<2:=by omega
    have d1:(1:Int)<2:=by omega
    have d2:¬(2:Int)<2:=by omega
    have l2:(([a,b]:List aN).length:Int)=2:=rfl
    refine Wp.step ?_
    simp only [mM,e0,e1,w1,w3,l2,aJ,Option.bind_some,if_pos d0,DD,cE,oA]
    refine CB (e:=a) (f:=b) (R:=OU ⟨ky,wd,[a,b],fl,fo,gi,ta⟩) (fun i1=> ?_) (fun g=>g.2.1)
    refine Wp.step ?_
    simp only [mM,e0,e1,w2,w4,aJ,Option.bind_some,if_pos d1,DD,cE,oA]
    refine CB (e:=b) (f:=a) (R:=OU ⟨ky,wd,[a,b],fl,fo,gi,ta⟩) (fun i2=> ?_) (fun g=>g.2.2)
    refine Wp.step ?_
    simp only [mM,aJ,if_neg d2]
    exact Wp.ret (decide_eq_true ⟨h1,i1,i2⟩).symm
  | [],h1=>exact absurd h1.2.2.2.2.1 id
  | [_],h1=>exact absurd h1.2.2.2.2.1 id
  | _::_::_::_,h1=>exact absurd h1.2.2.2.2.1 id
end Km.X
