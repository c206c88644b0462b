/- A part of the proof of FnExactSession: plain laws of these functions. There is no condition. -/
import Derived.Test.YtgffmpjadffjkaaGreatDoorKyPureExactSession2
import Derived.Test.YtgffmpjadffjkaaGreatDoorKyPureExactSession1
import Derived.Test.YtgffmpjadffjkaaGreatDoorKxDef3
set_option linter.unusedVariables false
set_option linter.unusedSimpArgs false
namespace Km.X
open Go Km
def KT (b:ByteArray) (wd:Int):aC:=if (1≤wd∧wd≤8)∧b.size≤30 then ⟨b,wd,[c1_ 1,c1_ 2],[],noB,[],[]⟩ else VA
theorem KC (b:ByteArray) (wd:Int):Wp (fun k=>mV k b wd) (· =KT b wd):=by
  unfold mV KT
  refine Wp.bind (dO _ _ _) (fun _ e=> ?_);subst e
  refine Wp.not (fun h=> ?_) (fun h=> ?_)
  ·simp only [Bool.and_eq_false_iff,decide_eq_false_iff_not] at h
   exact Wp.ret (by rw [if_neg (fun g=>by omega)];rfl)
  simp only [Bool.and_eq_true,decide_eq_true_eq] at h
  refine Wp.dec (fun h1=>Wp.ret (by rw [if_neg (fun g=>by omega)];rfl)) (fun h1=> ?_)
  refine Wp.bind (M6 1) (fun _ e=> ?_);subst e
  refine Wp.bind (M6 2) (fun _ e=> ?_);subst e
  exact Wp.ret (by rw [if_pos ⟨h,by omega⟩])
theorem newE_V:VEnd (c1_ 1)∧VEnd (c1_ 2):=by decide
theorem bL_ {b:ByteArray} {wd:Int} (hb:b.size≤30) (hw:1≤wd∧wd≤8):aQ (KT b wd):=by
  unfold KT
  rw [if_pos ⟨hw,hb⟩]
  exact ⟨hw,hb,by simp,by simp,GH newE_V.1 rfl newE_V.2 rfl,(fun p hp=>by cases hp),(fun p hp=>by cases hp),(fun p hp=>by cases hp)⟩
inductive Reach:Nat→Nat→aC→Prop
  | new {b:ByteArray} {wd:Int}:b.size≤30→(1≤wd∧wd≤8)→Reach 0 0 (KT b wd)
  | step {n m:Nat} {w:aC} (v:c6):Reach n m w→Reach (n+if v.Kind=8 then 1 else 0) (m+1) (doW w v)
  | more {n m n' m':Nat} {w:aC}:n≤n'→m≤m'→Reach n m w→Reach n' m' w
theorem Reach.V {n m:Nat} {w:aC} (h:Reach n m w):aQ w:=by
  induction h with
  | new h1 h2=>exact bL_ h1 h2
  | step v _ ih=>exact dq_ ih v
  | more _ _ _ ih=>exact ih
theorem Reach.go {n m:Nat} {w:aC} (h:Reach n m w) {v:c6} (hv:v.Kind≠8):Reach n (m+1) (doW w v):=by
  have:=Reach.step v h
  rw [if_neg hv] at this
  exact this
theorem o7 {w:aC} (h:aQ w):w.Given.length≤1048576∧w.Taken.length≤1048576:=by
  have:=h.2.2.2.1;omega
section
variable (a b:ByteArray) (z:Int) (E2:List aN) (F2:List aD) (G2 T2:List aA)
end
theorem IN (b:ByteArray) (wd:Int):Wp (fun k=>nF k b wd) (· =KT b wd):=by
  unfold nF KT
  refine Wp.dec (fun h=>Wp.ret (by rw [if_neg (fun g=>by omega)];rfl)) (fun h1=> ?_)
  refine Wp.dec (fun h=>Wp.ret (by rw [if_neg (fun g=>by omega)];rfl)) (fun h2=> ?_)
  refine Wp.dec (fun h=>Wp.ret (by rw [if_neg (fun g=>by omega)];rfl)) (fun h3=> ?_)
  refine Wp.bind (MB 1) (fun _ e=> ?_);subst e
  refine Wp.bind (MB 2) (fun _ e=> ?_);subst e
  exact Wp.ret (by rw [if_pos ⟨by omega,by omega⟩])
set_option maxRecDepth 100000
def PI (n:Int):ByteArray:=bT_ n.toNat
def okN (n:Int):Prop:=0≤n∧n<1000000000000000000
theorem pV {n:Int} (h:okN n):Wp (fun k=>dA k n) (· =PI n):=by
  obtain ⟨h1,h2⟩:=h
  have:=MV n.toNat (by omega)
  rw [show ((n.toNat:Nat):Int)=n by omega] at this
  exact this
theorem QW {n:Int} (h:okN n) (k:Nat):strconv_Itoa k n=some (PI n):=by
  obtain ⟨h1,h2⟩:=h
  unfold strconv_Itoa
  rw [if_pos (by omega),show n=((n.toNat:Nat):Int) by omega,cx_]
  rfl
theorem dK {n:Int} (h:okN n):(PI n).size≤18:=RA 17 _ (by obtain ⟨h1,h2⟩:=h;omega)
theorem bC (a:Array UInt8):(⟨a⟩:ByteArray).size=a.size:=rfl
def RB (e:aN):ByteArray:=
  if e.Up=true then PI e.Life++⟨#[32]⟩++PI e.Peer++⟨#[32]⟩++PI (e.Send.Items.length:Int)++⟨#[32]⟩++PI (e.Take.Ready.length:Int) else ⟨#[100,111,119,110,32]⟩++PI e.Life
theorem O9 {e:aN} (h:VEnd e):okN e.Life∧okN e.Peer∧okN (e.Send.Items.length:Int)∧okN (e.Take.Ready.length:Int):=by
  have h1:=h.2.1;have h2:=h.2.2.1;have h3:=h.2.2.2.2.1.1;have h4:=h.2.2.2.2.2.1.2.2.2.1
  unfold okN;omega
theorem qC {e:aN} (h:VEnd e):(RB e).size≤100:=by
  obtain ⟨h1,h2,h3,h4⟩:=O9 h
  have g1:=dK h1;have g2:=dK h2;have g3:=dK h3;have g4:=dK h4
  unfold RB
  split<;>(simp only [aG,bC,List.size_toArray,List.length_cons,List.length_nil];omega)
theorem MJ {e:aN} (h:VEnd e):Wp (fun k=>tG k e) (· =RB e):=by
  obtain ⟨h1,h2,h3,h4⟩:=O9 h
  have g1:=dK h1;have g2:=dK h2;have g3:=dK h3;have g4:=dK h4
  unfold tG RB
  refine Wp.not (fun u=> ?_) (fun u=> ?_)
  ·refine Wp.bind (pV h1) (fun _ q=> ?_);subst q
   refine Wp.opt (aY (by (simp only [aG,bC,List.size_toArray,List.length_cons,List.length_nil];omega))) (Wp.ret ?_)
   rw [if_neg (by simp [u])]
  ·rw [if_pos u]
   refine Wp.bind (pV h1) (fun _ q=> ?_);subst q
   refine Wp.opt (aY (by (simp only [aG,bC,List.size_toArray,List.length_cons,List.length_nil];omega))) ?_
   refine Wp.bind (pV h2) (fun _ q=> ?_);subst q
   refine Wp.opt (aY (by (simp only [aG,bC,List.size_toArray,List.length_cons,List.length_nil];omega))) ?_
   refine Wp.opt (aY (by (simp only [aG,bC,List.size_toArray,List.length_cons,List.length_nil];omega))) ?_
   refine Wp.bind (pV h3) (fun _ q=> ?_);subst q
   refine Wp.opt (aY (by (simp only [aG,bC,List.size_toArray,List.length_cons,List.length_nil];omega))) ?_
   refine Wp.opt (aY (by (simp only [aG,bC,List.size_toArray,List.length_cons,List.length_nil];omega))) ?_
   refine Wp.bind (pV h4) (fun _ q=> ?_);subst q
   exact Wp.opt (aY (by (simp only [aG,bC,List.size_toArray,List.length_cons,List.length_nil];omega))) (Wp.ret rfl)
theorem NG {e:aN} (h:VEnd e):Wp (fun k=>wS k e) (· =RB e):=by
  obtain ⟨h1,h2,h3,h4⟩:=O9 h
  have g1:=dK h1;have g2:=dK h2;have g3:=dK h3;have g4:=dK h4
  unfold wS RB
  simp only [QW h1,QW h2,QW h3,QW h4]
  refine Wp.not (fun u=> ?_) (fun u=> ?_)
  ·refine Wp.opt rfl ?_
   refine Wp.opt (aY (by (simp only [aG,bC,List.size_toArray,List.length_cons,List.length_nil];omega))) (Wp.ret ?_)
   rw [if_neg (by simp [u])]
  ·rw [if_pos u]
   refine Wp.opt rfl ?_
   refine Wp.opt (aY (by (simp only [aG,bC,List.size_toArray,List.length_cons,List.length_nil];omega))) ?_
   refine Wp.opt rfl ?_
   refine Wp.opt (aY (by (simp only [aG,bC,List.size_toArray,List.length_cons,List.length_nil];omega))) ?_
   refine Wp.opt (aY (by (simp only [aG,bC,List.size_toArray,List.length_cons,List.length_nil];omega))) ?_
   refine Wp.opt rfl ?_
   refine Wp.opt (aY (by (simp only [aG,bC,List.size_toArray,List.length_cons,List.length_nil];omega))) ?_
   refine Wp.opt (aY (by (simp only [aG,bC,List.size_toArray,List.length_cons,List.length_nil];omega))) ?_
   refine Wp.opt rfl ?_
   exact Wp.opt (aY (by (simp only [aG,bC,List.size_toArray,List.length_cons,List.length_nil];omega))) (Wp.ret rfl)
def z6 (w:aC):ByteArray:=RB (eJ 1 w.Ends)++⟨#[44,32]⟩++RB (eJ 2 w.Ends)++(if P3 w=true then ⟨#[32,114,105,103,104,116]⟩ else ⟨#[32,119,114,111,110,103]⟩)
def O1 (w:aC) (s:ByteArray):ByteArray:=if OD w then s++⟨#[32,105,100,108,101]⟩ else s
def OF (w:aC) (s:ByteArray):ByteArray:=if w.Forged=noB then s else s++⟨#[32,102,111,114,103,101,100]⟩
def DB (w:aC):ByteArray:=OF w (O1 w (z6 w))
theorem GD {w:aC} (h:aQ w):VEnd (eJ 1 w.Ends)∧VEnd (eJ 2 w.Ends)∧idx w.Ends 0=some (eJ 1 w.Ends)∧idx w.Ends 1=some (eJ 2 w.Ends)∧w.Ends[Int.toNat 0]? =some (eJ 1 w.Ends)∧w.Ends[Int.toNat 1]? =some (eJ 2 w.Ends):=by
  obtain ⟨e,f,he,h1,_,h3,_⟩:=oW h.2.2.2.2.1
  rw [he]
  exact ⟨h1,h3,rfl,rfl,rfl,rfl⟩
theorem tI {w:aC} (h:aQ w):(z6 w).size≤300:=by
  have:=GD h
  have g1:=qC this.1;have g2:=qC this.2.1
  unfold z6
  split<;>(simp only [aG,bC,List.size_toArray,List.length_cons,List.length_nil];omega)
theorem YO {w:aC} {s:ByteArray} {n:Nat} (h:s.size≤n):(O1 w s).size≤n+5:=by
  unfold O1
  split
  · (simp only [aG,bC,List.size_toArray,List.length_cons,List.length_nil];omega)
  ·omega
theorem Y5 {w:aC} {s:ByteArray} {n:Nat} (h:s.size≤n):(OF w s).size≤n+7:=by
  unfold OF
  split
  ·omega
  · (simp only [aG,bC,List.size_toArray,List.length_cons,List.length_nil];omega)
theorem XZ {w:aC} (h:aQ w):(DB w).size≤400:=Nat.le_trans (Y5 (YO (tI h))) (by decide)
theorem PL {w:aC} (h:aQ w) (s:ByteArray) (hs:s.size≤1000):Wp (fun k=>lE k s w.Key w.Width w.Ends w.Flight w.Forged w.Given w.Taken) (· =OF w (O1 w s)):=by
  have l9:∀s:ByteArray,Wp (fun k=>lF k s) (· =s):=fun s=>by
    refine Wp.step ?_
    simp only [lF]
    exact Wp.ret rfl
  have l7:∀s:ByteArray,s.size≤2000→Wp (fun k=>lN k s w.Key w.Width w.Ends w.Flight w.Forged w.Given w.Taken) (· =OF w s):=fun s hs=>by
    refine Wp.step ?_
    simp only [lN,b9,nO]
    unfold OF
    refine Wp.ite (fun h=> ?_) (fun h=> ?_)
    ·rw [if_pos h];exact l9 _
    ·rw [if_neg h]
     refine Wp.opt (aY (by (simp only [aG,bC,List.size_toArray,List.length_cons,List.length_nil];omega))) ?_
     exact l9 _
  refine Wp.step ?_
  simp only [lE]
  refine Wp.bind (TM w (o7 h)) (fun _ q=> ?_);subst q
  refine Wp.dec (fun g=> ?_) (fun g=> ?_)
  ·refine Wp.opt (aY (by (simp only [aG,bC,List.size_toArray,List.length_cons,List.length_nil];omega))) ?_
   unfold O1;rw [if_pos g]
   exact l7 _ (by (simp only [aG,bC,List.size_toArray,List.length_cons,List.length_nil];omega))
  ·unfold O1;rw [if_neg g]
   exact l7 _ (by omega)
theorem TL {w:aC} (h:aQ w):Wp (fun k=>uM k w) (· =DB w):=by
  obtain ⟨v1,v2,i1,i2,_,_⟩:=GD h
  have g1:=qC v1;have g2:=qC v2
  unfold uM
  refine Wp.opt i1 ?_
  refine Wp.bind (MJ v1) (fun _ q=> ?_);subst q
  refine Wp.opt (aY (by (simp only [aG,bC,List.size_toArray,List.length_cons,List.length_nil];omega))) ?_
  refine Wp.opt i2 ?_
  refine Wp.bind (MJ v2) (fun _ q=> ?_);subst q
  refine Wp.opt (aY (by (simp only [aG,bC,List.size_toArray,List.length_cons,List.length_nil];omega))) ?_
  refine Wp.bind (PU w (o7 h)) (fun _ q=> ?_);subst q
  refine Wp.bif (fun g=> ?_) (fun g=> ?_)
  ·refine Wp.opt (aY (by (simp only [aG,bC,List.size_toArray,List.length_cons,List.length_nil];omega))) ?_
   have:=PL h (z6 w) (Nat.le_trans (tI h) (by decide))
   unfold z6 at this;rw [if_pos g] at this
   unfold DB z6;rw [if_pos g]
   exact this
  ·refine Wp.opt (aY (by (simp only [aG,bC,List.size_toArray,List.length_cons,List.length_nil];omega))) ?_
   have:=PL h (z6 w) (Nat.le_trans (tI h) (by decide))
   unfold z6 at this;rw [if_neg (by simp [g])] at this
   unfold DB z6;rw [if_neg (by simp [g])]
   exact this
def plC (c:UInt8):Int:=if (c.toNat:Int)<32 then 63 else if (c.toNat:Int)>126 then 63 else (c.toNat:Int)
def wQ (s:ByteArray):ByteArray:=m6 (s.data.toList.map plC)
theorem z8 (s:ByteArray):(wQ s).size=s.size:=by unfold wQ;rw [tQ];simp
theorem yL (s:ByteArray) (hs:s.size≤1000000):∀(t pre:List UInt8),s.data.toList=pre++t→Wp (fun k=>gM k s (pre.length:Nat) (pre.map plC)) (· =wQ s)
  | [],pre,he=>by
    have hl:pre.length=s.size:=by have:=congrArg List.length he;simp at this;omega
    refine Wp.step ?_
    simp only [gM]
    rw [List.append_nil] at he
    refine Wp.dec (fun h=>by omega) (fun _=>Wp.ret (by rw [←he];rfl))
  | c::t,pre,he=>by
    have hl:pre.length<s.size:=by have:=congrArg List.length he;simp at this;omega
    have go:∀x:Int,plC c=x→Wp (fun k=>gN k s (pre.length:Nat) (pre.map plC++[x])) (· =wQ s):=fun x hx=>by
      refine Wp.step ?_
      simp only [gN]
      rw [bR (by omega) (by omega),bS pre c]
      have:=yL s hs t (pre++[c]) (by rw [he];simp)
      rw [List.map_append] at this
      rw [←hx]
      exact this
    have ha:∀x:Int,app 1 (pre.map plC) [x]=some (pre.map plC++[x]):=fun x=>bI (by simp;omega)
    refine Wp.step ?_
    simp only [gM]
    refine Wp.dec (fun _=> ?_) (fun h=>by omega)
    refine Wp.opt (hY he) ?_
    refine Wp.dec (fun h1=> ?_) (fun h1=> ?_)
    ·refine Wp.opt (ha _) (go _ (by unfold plC;rw [if_pos h1]))
    refine Wp.opt (hY he) ?_
    refine Wp.dec (fun h2=> ?_) (fun h2=> ?_)
    ·refine Wp.opt (ha _) (go _ (by unfold plC;rw [if_neg h1,if_pos h2]))
    refine Wp.opt (hY he) ?_
    refine Wp.opt (ha _) (go _ (by unfold plC;rw [if_neg h1,if_neg h2]))
theorem QQ (s:ByteArray) (hs:s.size≤1000000):Wp (fun k=>wC k s) (· =wQ s):=yL s hs s.data.toList [] rfl
def a7_:ByteArray:=⟨#[99,111,100,101,32]⟩
def cZ_:ByteArray:=⟨#[99,111,100,101,32,49]⟩
def NM:ByteArray:=⟨#[98,97,100]⟩
def noA:ByteArray:=⟨#[110,111]⟩
def okB:ByteArray:=⟨#[111,107]⟩
def ev_:ByteArray:=⟨#[103,111,116,32]⟩
def JZ (w:aC) (n:Int):aC×ByteArray:=
  if 1≤n∧n≤2 then (if (nQ (eJ n w.Ends)).Code=0 then (doM w ⟨11,n,0,0,noB⟩,ev_++wQ (nQ (eJ n w.Ends)).Text) else (w,a7_++PI (nQ (eJ n w.Ends)).Code)) else (w,cZ_)
theorem zG {e:aN} (h:VEnd e):(0≤(nQ e).Code∧(nQ e).Code≤10)∧(nQ e).Text.size≤200:=by
  unfold nQ
  have hr:=h.2.2.2.2.2.1.2.2.2.2.1
  have:(CT e.Take).2.1.size≤200:=by
    unfold CT
    split
    ·split
     ·exact Nat.zero_le _
     ·rename_i hq;exact hr _ (by rw [hq];simp)
    ·exact Nat.zero_le _
  have c:∀x:Int,0≤x∧x≤10→∀(a:aN) (b:List aE) (t:ByteArray),t.size≤200→(0≤(⟨x,a,b,t⟩:aV).Code∧(⟨x,a,b,t⟩:aV).Code≤10)∧(⟨x,a,b,t⟩:aV).Text.size≤200:=fun x hx a b t ht=>⟨hx,ht⟩
  rw [if_pos h]
  by_cases h1:e.Up=true
  ·rw [if_pos h1]
   by_cases h2:(CT e.Take).2.2=true
   ·rw [if_pos h2];exact c _ (by decide) _ _ _ this
   ·rw [if_neg h2];exact c _ (by decide) _ _ _ (Nat.zero_le _)
  ·rw [if_neg h1];exact c _ (by decide) _ _ _ (Nat.zero_le _)
theorem MK {w:aC} (h:aQ w) {n:Int} (hn:1≤n∧n≤2):VEnd (eJ n w.Ends)∧idx w.Ends (IntKind.wrap .i64 (n-1))=some (eJ n w.Ends)∧w.Ends[Int.toNat (IntKind.wrap .i64 (n-1))]? =some (eJ n w.Ends):=by
  obtain ⟨v1,v2,i1,i2,j1,j2⟩:=GD h
  obtain rfl | rfl:n=1∨n=2:=by omega
  ·exact ⟨v1,i1,j1⟩
  ·exact ⟨v2,i2,j2⟩
theorem P7 {w:aC} (h:aQ w) (n:Int):Wp (fun k=>uH k w n) (· =JZ w n):=by
  unfold uH JZ
  refine Wp.dec (fun h1=>Wp.ret (by rw [if_neg (by omega)];rfl)) (fun h1=> ?_)
  refine Wp.dec (fun h2=>Wp.ret (by rw [if_neg (by omega)];rfl)) (fun h2=> ?_)
  have hn:1≤n∧n≤2:=by omega
  obtain ⟨v,i,j⟩:=MK h hn
  have sm:=zG v
  rw [if_pos hn]
  refine Wp.opt i ?_
  refine Wp.opt j ?_
  refine Wp.bind (EQ _) (fun _ q=> ?_);subst q
  simp only [AX]
  refine Wp.ite (fun h3=> ?_) (fun h3=> ?_)
  ·rw [if_pos h3]
   refine Wp.bind (G9 w (o7 h) _) (fun _ q=> ?_);subst q
   refine Wp.bind (QQ _ (by omega)) (fun _ q=> ?_);subst q
   refine Wp.opt (aY (by rw [z8];(simp only [aG,bC,List.size_toArray,List.length_cons,List.length_nil];omega))) (Wp.ret rfl)
  ·rw [if_neg h3]
   have hc:okN (nQ (eJ n w.Ends)).Code:=⟨by omega,by omega⟩
   have:=dK hc
   refine Wp.bind (pV hc) (fun _ q=> ?_);subst q
   exact Wp.opt (aY (by (simp only [aG,bC,List.size_toArray,List.length_cons,List.length_nil];omega))) (Wp.ret rfl)
def RC (w:aC) (n:Int) (t:ByteArray):aC×ByteArray:=
  if 1≤n∧n≤2 then (doM w ⟨10,n,0,0,t⟩,a7_++PI (qI (eJ n w.Ends) t).Code) else (w,cZ_)
def KF (w:aC) (a b:List UInt8):aC×ByteArray:=
  match E8 (baL a) with
  | none=>(w,NM)
  | some n=>if b=[] then (w,NM) else RC w (n:Int) (baL b)
def sp1:List UInt8→List UInt8×List UInt8
  | []=>([],[])
  | c::t=>if c=32 then ([],t) else (c::(sp1 t).1,(sp1 t).2)
theorem XT:∀{l:List UInt8},32∉l→sp1 l=(l,[])
  | [],_=>rfl
  | c::t,h=>by
    have hc:c≠32:=fun e=>h (by simp [e])
    simp [sp1,hc,XT (l:=t) (fun g=>h (by simp [g]))]
theorem dd_:∀{a:List UInt8} (b:List UInt8),32∉a→sp1 (a++32::b)=(a,b)
  | [],b,_=>by simp [sp1]
  | c::t,b,h=>by
    have hc:c≠32:=fun e=>h (by simp [e])
    simp [sp1,hc,dd_ (a:=t) b (fun g=>h (by simp [g]))]
theorem DN {e:aN} (h:VEnd e) (t:ByteArray):0≤(qI e t).Code∧(qI e t).Code≤10:=by
  have hp:0≤(A6 e.Send t).2∧(A6 e.Send t).2≤10:=by
    unfold A6
    have c:∀(x:aK) (n:Int),0≤n∧n≤10→0≤(x,n).2∧(x,n).2≤10:=fun _ _ h=>h
    split
    ·split
     ·exact c _ _ (by decide)
     ·exact c _ _ (by decide)
    ·exact c _ _ (by decide)
  have c:∀x:Int,0≤x∧x≤10→∀(a:aN) (b:List aE) (t:ByteArray),0≤(⟨x,a,b,t⟩:aV).Code∧(⟨x,a,b,t⟩:aV).Code≤10:=fun x hx a b t=>hx
  unfold qI
  rw [if_pos h]
  by_cases h1:e.Up=true
  ·rw [if_pos h1]
   by_cases h2:e.Peer=0
   ·rw [if_pos h2];exact c _ (by decide) _ _ _
   ·rw [if_neg h2]
    by_cases h3:(A6 e.Send t).2=0
    ·rw [if_pos h3];exact c _ (by decide) _ _ _
    ·rw [if_neg h3];exact c _ hp _ _ _
  ·rw [if_neg h1];exact c _ (by decide) _ _ _
theorem C8 (s:ByteArray):(E8 s=none∧aH_ s= -1)∨∃n:Nat,E8 s=some n∧aH_ s=(n:Int)∧n<1000000:=by
  unfold aH_
  cases h:E8 s with
  | none=>exact .inl ⟨rfl,rfl⟩
  | some n=>exact .inr ⟨n,rfl,rfl,Z8 h⟩
theorem SE {w:aC} (h:aQ w) (p:ByteArray) (hs:p.size≤1000000) (pre rest rest':List UInt8) (he:p.data.toList=pre++rest') (hr:rest'=32::rest∨(rest'=[]∧rest=[])):
    Wp (fun k=>(wnd p.size 0 ((pre.length:Nat):Int)).bind fun p3=>
        (fX k (p.extract p3.1 p3.2)).bind fun r4=>
        bif (decide (r4<0)) then
          some ((⟨w.Key,w.Width,w.Ends,w.Flight,w.Forged,w.Given,w.Taken⟩:aC),(⟨#[98,97,100]⟩:ByteArray))
        else
          bif (decide ((IntKind.wrap .i64 (((pre.length:Nat):Int)+1))≥(p.size:Int))) then
            some ((⟨w.Key,w.Width,w.Ends,w.Flight,w.Forged,w.Given,w.Taken⟩:aC),(⟨#[98,97,100]⟩:ByteArray))
          else
            bif (decide (r4<1)) then
              some ((⟨w.Key,w.Width,w.Ends,w.Flight,w.Forged,w.Given,w.Taken⟩:aC),(⟨#[99,111,100,101,32,49]⟩:ByteArray))
            else
              bif (decide (r4>2)) then
                some ((⟨w.Key,w.Width,w.Ends,w.Flight,w.Forged,w.Given,w.Taken⟩:aC),(⟨#[99,111,100,101,32,49]⟩:ByteArray))
              else
                (wnd p.size (IntKind.wrap .i64 (((pre.length:Nat):Int)+1)) (p.size:Int)).bind fun p5=>
                (idx w.Ends (IntKind.wrap .i64 (r4-1))).bind fun _=>
                (w.Ends[(Int.toNat (IntKind.wrap .i64 (r4-1)))]?).bind fun y6=>
                (j0 k y6 (p.extract p5.1 p5.2)).bind fun r7=>
                (uN k (⟨w.Key,w.Width,w.Ends,w.Flight,w.Forged,w.Given,w.Taken⟩:aC) (⟨10,r4,0,0,(p.extract p5.1 p5.2)⟩:c6)).bind fun r8=>
                (dA k r7.Code).bind fun r9=>
                (iY (⟨#[99,111,100,101,32]⟩:ByteArray) r9).bind fun t10=>
                some (r8,t10)) (· =KF w pre rest):=by
  have hl:p.size=pre.length+rest'.length:=by have:=congrArg List.length he;simpa using this
  have hl':rest'.length=0∧rest.length=0∨rest'.length=rest.length+1:=by
    rcases hr with rfl | ⟨rfl,rfl⟩
    ·exact .inr (by simp)
    ·exact .inl (by simp)
  have e0:p.extract 0 pre.length=baL pre:=by
    have:=G0 (s:=p) (a:=[]) (b:=pre) (r:=rest') (by rw [he];rfl)
    simpa using this
  refine Wp.opt (dF ⟨by omega,by omega,by omega⟩) ?_
  rw [Int.toNat_natCast,show (0:Int).toNat=0 from rfl,e0]
  refine Wp.bind (uP _) (fun _ q=> ?_);subst q
  unfold KF
  rcases C8 (baL pre) with ⟨e1,e2⟩ | ⟨n,e1,e2,e3⟩
  ·rw [e1,e2]
   exact Wp.ret rfl
  ·rw [e1,e2]
   dsimp only
   refine Wp.dec (fun g=>by omega) (fun _=> ?_)
   rw [bR (by omega) (by omega)]
   refine Wp.dec (fun g=>Wp.ret ?_) (fun g=> ?_)
   ·have hz:rest=[]:=List.eq_nil_of_length_eq_zero (by have g':((p.size:Nat):Int)≤((pre.length:Nat):Int)+1:=g;omega)
    rw [if_pos hz]
    rfl
   ·have hne:rest≠[]:=fun e=>by subst e;simp only [List.length_nil] at hl';omega
    rw [if_neg hne]
    have hr':rest'=32::rest:=by
      rcases hr with hr | hr
      ·exact hr
      ·exact absurd hr.2 hne
    unfold RC
    refine Wp.dec (fun g1=>Wp.ret (by rw [if_neg (by omega)];rfl)) (fun g1=> ?_)
    refine Wp.dec (fun g2=>Wp.ret (by rw [if_neg (by omega)];rfl)) (fun g2=> ?_)
    have hn:1≤(n:Int)∧(n:Int)≤2:=by omega
    rw [if_pos hn]
    obtain ⟨v,i,j⟩:=MK h hn
    refine Wp.opt (dF ⟨by omega,by omega,by omega⟩) ?_
    have e5:p.extract (((pre.length:Nat):Int)+1).toNat ((p.size:Nat):Int).toNat=baL rest:=by
      have:=G0 (s:=p) (a:=pre++[32]) (b:=rest) (r:=[]) (by rw [he,hr'];simp)
      rw [←this]
      congr 1
      ·simp
       try omega
      ·rw [hr'] at hl;simp at hl⊢;omega
    rw [e5]
    refine Wp.opt i ?_
    refine Wp.opt j ?_
    refine Wp.bind (EU _ _) (fun _ q=> ?_);subst q
    refine Wp.bind (G9 w (o7 h) _) (fun _ q=> ?_);subst q
    have hc:=DN v (baL rest)
    have ok:okN (qI (eJ (n:Int) w.Ends) (baL rest)).Code:=⟨by omega,by omega⟩
    have:=dK ok
    refine Wp.bind (pV ok) (fun _ q=> ?_);subst q
    exact Wp.opt (aY (by (simp only [aG,bC,List.size_toArray,List.length_cons,List.length_nil];omega))) (Wp.ret rfl)
theorem CE {w:aC} (h:aQ w) (p:ByteArray) (hs:p.size≤1000000) (b1 b2:ByteArray) (i1:Int) (z1:List aN) (z2:List aD) (z3 z4:List aA):∀(t pre:List UInt8),p.data.toList=pre++t→
    Wp (fun k=>jA k p (pre.length:Nat) w.Key w.Width w.Forged b1 i1 b2 w.Ends w.Flight w.Given w.Taken z1 z2 z3 z4) (· =KF w (pre++(sp1 t).1) (sp1 t).2)
  | [],pre,he=>by
    have hl:pre.length=p.size:=by have:=congrArg List.length he;simp at this;omega
    refine Wp.step ?_
    simp only [jA]
    refine Wp.dec (fun h=>by omega) (fun _=> ?_)
    have:=SE h p hs pre [] [] he (.inr ⟨rfl,rfl⟩)
    rw [show pre++(sp1 []).1=pre by simp [sp1]]
    exact this
  | c::t,pre,he=>by
    have hl:pre.length<p.size:=by have:=congrArg List.length he;simp at this;omega
    refine Wp.step ?_
    simp only [jA]
    refine Wp.dec (fun _=> ?_) (fun h=>by omega)
    refine Wp.opt (hY he) ?_
    by_cases hc:c=32
    ·subst hc
     rw [show sp1 (32::t)=([],t) by simp [sp1],List.append_nil]
     have:=SE h p hs pre t _ he (.inl rfl)
     exact this
    ·have hne:((c.toNat:Int) !=32)=true:=by
       simp only [bne_iff_ne,ne_eq]
       intro e
       exact hc (UInt8.toNat_inj.mp (by show c.toNat=32;omega))
     simp only [hne,cond_true]
     rw [bR (by omega) (by omega),bS pre c]
     have:=CE h p hs b1 b2 i1 z1 z2 z3 z4 t (pre++[c]) (by rw [he];simp)
     simp only [sp1,if_neg hc]
     simpa using this
theorem SY {w:aC} (h:aQ w) (s:ByteArray) (hs:s.size≤1000000) (q:List UInt8) (he:s.data.toList=[112,117,115,104,32]++q):Wp (fun k=>uU k w s) (· =KF w (sp1 q).1 (sp1 q).2):=by
  have hl:s.size=5+q.length:=by have:=congrArg List.length he;simp at this;omega
  unfold uU
  refine Wp.opt (dF ⟨by omega,by omega,by omega⟩) ?_
  have e:s.extract (5:Int).toNat ((s.size:Nat):Int).toNat=baL q:=by
    have:=G0 (s:=s) (a:=[112,117,115,104,32]) (b:=q) (r:=[]) (by rw [he];simp)
    rw [←this,Int.toNat_natCast,hl]
    rfl
  rw [e]
  have hq:(baL q).size=q.length:=by simp [baL,ByteArray.size]
  have:=CE h (baL q) (by omega) noB noB 0 [] [] [] [] q [] (by simp [baL])
  exact this
theorem W0 (q:List UInt8):(baL q).size=q.length:=by simp [baL,ByteArray.size]
theorem dv_ {q:List UInt8}:baL q=(⟨#[]⟩:ByteArray)↔q=[]:=by
  constructor
  ·intro h
   have:=congrArg ByteArray.size h
   rw [W0] at this
   exact List.eq_nil_of_length_eq_zero this
  ·intro h;subst h;rfl
theorem NV (k:Nat) (s:ByteArray) (hs:s.size≤1000000) (q:List UInt8) (he:s.data.toList=[112,117,115,104,32]++q):
    strings_SplitN k s ⟨#[32]⟩ 3=some ((if 32∈q then [[112,117,115,104],(sp1 q).1,(sp1 q).2] else [[112,117,115,104],q]).map baL):=by
  have hl:s.size=5+q.length:=by have:=congrArg List.length he;simp at this;omega
  unfold strings_SplitN
  rw [if_pos ⟨by omega,Nat.le_refl 1,by omega,by omega⟩,JE,he,show min (3:Int).toNat (s.size+1)-1=1+1 by show min 3 _-1=_;omega,
   show [112,117,115,104,32]++q=[112,117,115,104]++32::q from rfl,DO 1 (by decide)]
  by_cases h:32∈q
  ·obtain ⟨a,b,rfl,ha⟩:=CK h
   rw [if_pos h,DO 0 ha,dd_ b ha]
   rfl
  ·rw [if_neg h,JA 1 h]
theorem DW (s:ByteArray):(E8 s=none∧ac_ s=(0,false))∨∃n:Nat,E8 s=some n∧ac_ s=((n:Int),true)∧n<1000000:=by
  unfold ac_
  cases h:E8 s with
  | none=>exact .inl ⟨rfl,rfl⟩
  | some n=>exact .inr ⟨n,rfl,rfl,Z8 h⟩
def tW:List ByteArray→Option (List Int)
  | []=>some []
  | s::t=>match E8 s with | none=>none | some n=>(tW t).map fun l=>(n:Int)::l
theorem R5:∀{t:List ByteArray} {l:List Int},tW t=some l→l.length=t.length
  | [],l,h=>by cases h;rfl
  | s::t,l,h=>by
    unfold tW at h
    cases hn:E8 s with
    | none=>rw [hn] at h;cases h
    | some n=>
      rw [hn] at h
      cases ht:tW t with
      | none=>rw [ht] at h;cases h
      | some r=>rw [ht] at h;cases h;simp [R5 ht]
theorem QA {s:ByteArray}:∀{t:List ByteArray},s∈t→E8 s=none→tW t=none
  | x::t,h,hn=>by
    unfold tW
    rcases List.mem_cons.mp h with rfl | h
    ·rw [hn]
    ·cases E8 x with
     | none=>rfl
     | some n=>rw [QA h hn];rfl
theorem vA (f:List ByteArray) (hf:f.length≤1000000):∀(t pre:List ByteArray) (acc:List Int),f=pre++t→acc.length≤pre.length→
    Wp (fun k=>eV k f (pre.length:Nat) acc) (fun r=>match tW t with | none=>r.2=false | some l=>r=(acc++l,true))
  | [],pre,acc,he,ha=>by
    have hl:pre.length=f.length:=by rw [he];simp
    refine Wp.step ?_
    simp only [eV]
    refine Wp.dec (fun h=>by omega) (fun _=>Wp.ret ?_)
    show (acc,true)=(acc++[],true)
    rw [List.append_nil]
  | x::t,pre,acc,he,ha=>by
    have hl:pre.length<f.length:=by rw [he];simp
    refine Wp.step ?_
    simp only [eV]
    refine Wp.dec (fun _=> ?_) (fun h=>by omega)
    refine Wp.opt (x:=x) (by rw [he];exact bJ) ?_
    refine Wp.bind (uP x) (fun _ q=> ?_);subst q
    rcases C8 x with ⟨e1,e2⟩ | ⟨n,e1,e2,e3⟩
    ·refine Wp.dec (fun _=>Wp.ret ?_) (fun h=>by omega)
     simp only [tW,e1]
    ·refine Wp.dec (fun h=>by omega) (fun _=> ?_)
     rw [e2]
     refine Wp.opt (bI (by simp;omega)) ?_
     rw [bR (by omega) (by omega),bS pre x]
     refine Wp.mono (vA f hf t (pre++[x]) (acc++[(n:Int)]) (by rw [he];simp) (by simp;omega)) (fun r h=> ?_)
     simp only [tW,e1]
     cases ht:tW t with
     | none=>rw [ht] at h;exact h
     | some l=>rw [ht] at h;dsimp only at h;simp only [Option.map_some];rw [h];simp
theorem LO (f:List ByteArray) (hf:f.length≤1000000):Wp (fun k=>sS k f) (fun r=>match tW f with | none=>r.2=false | some l=>r=(l,true)):=
  vA f hf f [] [] rfl (Nat.le_refl _)
def kV:ByteArray:=⟨#[115,104,111,119]⟩
def u4:ByteArray:=⟨#[119,111,114,108,100]⟩
def SJ:ByteArray:=⟨#[112,117,108,108]⟩
def TQ:ByteArray:=⟨#[99,97,108,109]⟩
def doL (w:aC) (kd:Int) (ns:List Int):aC×ByteArray:=
  (doM w ⟨kd,(ns++[0,0,0]).getD 0 0,(ns++[0,0,0]).getD 1 0,(ns++[0,0,0]).getD 2 0,noB⟩,PI ((doM w ⟨kd,(ns++[0,0,0]).getD 0 0,(ns++[0,0,0]).getD 1 0,(ns++[0,0,0]).getD 2 0,noB⟩).Flight.length:Int))
def YJ (w:aC) (a b:Int):aC×ByteArray:=if a>200∨b<1∨b>10 then (w,noA) else (RT w a b,PI ((RT w a b).Flight.length:Int))
def SV (w:aC) (f0:ByteArray) (ns:List Int):aC×ByteArray:=
  match jM f0 impl_kinds with
  | none=>(w,NM)
  | some p=>if (ns.length:Int)=p.2 then doL w p.1 ns else (w,NM)
def cl2 (w:aC) (f0:ByteArray) (ns:List Int):aC×ByteArray:=if f0=TQ∧ns.length=2 then YJ w (ns.getD 0 0) (ns.getD 1 0) else SV w f0 ns
def S8 (w:aC) (f0:ByteArray) (ns:List Int):aC×ByteArray:=if f0=SJ∧ns.length=1 then JZ w (ns.getD 0 0) else cl2 w f0 ns
theorem PW {α:Type} (d:α) {l:List α} (i:Nat) (h:i<l.length):idx l (i:Int)=some (l.getD i d)∧l[Int.toNat (i:Int)]? =some (l.getD i d):=by
  rw [j8,Int.toNat_natCast,List.getD_eq_getElem?_getD,List.getElem?_eq_getElem h]
  exact ⟨rfl,rfl⟩
theorem tB {w:aC} (h:aQ w):okN (w.Flight.length:Int):=by
  have:=h.2.2.1
  unfold okN;omega
theorem ssf {t s:ByteArray} {p:Int×Int} {l:List (ByteArray×Int×Int)}:jM s ((t,p)::l)=if s=t then some p else jM s l:=by
  show (match t.toList==s.toList with | true=>some p | false=>jM s l)=_
  rw [cV_]
  by_cases h:s=t
  ·subst h;simp
  ·rw [decide_eq_false (fun g=>h g.symm),if_neg h]
theorem VZ (s:ByteArray):Wp (fun k=>tR k s) (· =(jM s impl_kinds).getD (0,0)):=by
  unfold tR impl_kinds
  simp only [nO,ssf]
  refine Wp.ite (fun h=>Wp.ret (by rw [if_pos h];rfl)) (fun h=> ?_);rw [if_neg h]
  refine Wp.ite (fun h=>Wp.ret (by rw [if_pos h];rfl)) (fun h=> ?_);rw [if_neg h]
  refine Wp.ite (fun h=>Wp.ret (by rw [if_pos h];rfl)) (fun h=> ?_);rw [if_neg h]
  refine Wp.ite (fun h=>Wp.ret (by rw [if_pos h];rfl)) (fun h=> ?_);rw [if_neg h]
  refine Wp.ite (fun h=>Wp.ret (by rw [if_pos h];rfl)) (fun h=> ?_);rw [if_neg h]
  refine Wp.ite (fun h=>Wp.ret (by rw [if_pos h];rfl)) (fun h=> ?_);rw [if_neg h]
  refine Wp.ite (fun h=>Wp.ret (by rw [if_pos h];rfl)) (fun h=> ?_);rw [if_neg h]
  refine Wp.ite (fun h=>Wp.ret (by rw [if_pos h];rfl)) (fun h=> ?_);rw [if_neg h]
  refine Wp.ite (fun h=>Wp.ret (by rw [if_pos h];rfl)) (fun h=> ?_);rw [if_neg h]
  exact Wp.ret rfl
theorem SQ {s:ByteArray} {p:Int×Int}:∀{l:List (ByteArray×Int×Int)},jM s l=some p→(s,p)∈l
  | (t,q)::l,h=>by
    rw [ssf] at h
    split at h
    ·rename_i e;subst e;cases h;simp
    ·exact List.mem_cons_of_mem _ (SQ h)
theorem KK {s:ByteArray} {p:Int×Int} (h:jM s impl_kinds=some p):1≤p.1∧s≠SJ∧s≠TQ∧s≠kV∧s≠u4∧s≠(⟨#[]⟩:ByteArray):=by
  have:=SQ h
  have all:∀e∈impl_kinds,1≤e.2.1∧e.1≠SJ∧e.1≠TQ∧e.1≠kV∧e.1≠u4∧e.1≠(⟨#[]⟩:ByteArray):=by
    unfold impl_kinds
    decide
  exact all _ this
section
variable {w:aC} (hV:aQ w) (b1 b2:ByteArray) (i1:Int) (z1:List aN) (z2:List aD) (z3 z4:List aA) (f0:ByteArray) (ft:List ByteArray) (ns:List Int)
include hV
theorem a9_ (hn:ns.length≤1000000):Wp (fun k=>jV k w.Key w.Width w.Forged b1 i1 b2 (f0::ft) ns w.Ends w.Flight w.Given w.Taken z1 z2 z3 z4) (· =SV w f0 ns):=by
  refine Wp.step ?_
  simp only [jV]
  refine Wp.opt (x:=f0) rfl ?_
  refine Wp.opt (x:=f0) rfl ?_
  refine Wp.bind (VZ f0) (fun _ q=> ?_);subst q
  unfold SV
  cases hk:jM f0 impl_kinds with
  | none=>exact Wp.ret rfl
  | some p=>
    have hp:=KK hk
    simp only [Option.getD_some,lW,AX]
    refine Wp.ite (fun h=>by omega) (fun _=> ?_)
    refine Wp.ite (fun h=> ?_) (fun h=>Wp.ret (by rw [if_neg h];rfl))
    rw [if_pos h]
    refine Wp.opt (bI (by simp;omega)) ?_
    simp only [nC]
    have len:(ns++[0,0,0]).length=ns.length+3:=by simp
    refine Wp.opt (PW (0:Int) (l:=ns++[0,0,0]) 0 (by omega)).1 ?_
    refine Wp.opt (PW (0:Int) (l:=ns++[0,0,0]) 0 (by omega)).2 ?_
    refine Wp.opt (PW (0:Int) (l:=ns++[0,0,0]) 1 (by omega)).1 ?_
    refine Wp.opt (PW (0:Int) (l:=ns++[0,0,0]) 1 (by omega)).2 ?_
    refine Wp.opt (PW (0:Int) (l:=ns++[0,0,0]) 2 (by omega)).1 ?_
    refine Wp.opt (PW (0:Int) (l:=ns++[0,0,0]) 2 (by omega)).2 ?_
    refine Wp.bind (G9 w (o7 hV) _) (fun _ q=> ?_);subst q
    unfold hZ
    refine Wp.bind (P:=(· =PI _)) (Wp.bind (pV (tB (YE hV _))) (fun _ q=>Wp.ret q)) (fun _ q=> ?_);subst q
    exact Wp.ret rfl
theorem bc_ (hn:ns.length≤1000000):Wp (fun k=>jO k w.Key w.Width w.Forged b1 i1 b2 (f0::ft) ns w.Ends w.Flight w.Given w.Taken z1 z2 z3 z4) (· =cl2 w f0 ns):=by
  refine Wp.step ?_
  simp only [jO]
  refine Wp.opt (x:=f0) rfl ?_
  refine Wp.opt (x:=f0) rfl ?_
  simp only [nO,lW]
  unfold cl2
  refine Wp.ite (fun h1=> ?_) (fun h1=> ?_)
  ·refine Wp.ite (fun h2=> ?_) (fun h2=> ?_)
   ·rw [if_pos ⟨h1,by omega⟩]
    have o0:=PW (0:Int) (l:=ns) 0 (by omega)
    have o1:=PW (0:Int) (l:=ns) 1 (by omega)
    unfold YJ
    refine Wp.opt o0.1 (Wp.opt o0.2 ?_)
    refine Wp.dec (fun h=>Wp.ret (by rw [if_pos (by omega)];rfl)) (fun h3=> ?_)
    refine Wp.opt o1.1 (Wp.opt o1.2 ?_)
    refine Wp.dec (fun h=>Wp.ret (by rw [if_pos (by omega)];rfl)) (fun h4=> ?_)
    refine Wp.opt o1.1 (Wp.opt o1.2 ?_)
    refine Wp.dec (fun h=>Wp.ret (by rw [if_pos (by omega)];rfl)) (fun h5=> ?_)
    rw [if_neg (by omega)]
    simp only [nC]
    refine Wp.opt o0.1 (Wp.opt o0.2 ?_)
    refine Wp.opt o1.1 (Wp.opt o1.2 ?_)
    refine Wp.bind (UN w (o7 hV) _ _) (fun _ q=> ?_);subst q
    unfold hZ
    refine Wp.bind (P:=(· =PI _)) (Wp.bind (pV (tB (UZ hV ⟨by omega,by omega⟩))) (fun _ q=>Wp.ret q)) (fun _ q=> ?_);subst q
    exact Wp.ret rfl
   ·rw [if_neg (fun g=>h2 (by omega))]
    exact a9_ hV b1 b2 i1 z1 z2 z3 z4 f0 ft ns hn
  ·rw [if_neg (fun g=>h1 g.1)]
   exact a9_ hV b1 b2 i1 z1 z2 z3 z4 f0 ft ns hn
def K6 (w:aC) (f0:ByteArray) (ft:List ByteArray):aC×ByteArray:=match tW ft with | none=>(w,NM) | some ns=>S8 w f0 ns
theorem aR_ (hn:ft.length≤100000):Wp (fun k=>fA k w.Key w.Width w.Forged b1 i1 b2 (f0::ft) w.Ends w.Flight w.Given w.Taken z1 z2 z3 z4) (· =K6 w f0 ft):=by
  refine Wp.step ?_
  simp only [fA]
  refine Wp.opt (dF ⟨by omega,by simp;omega,by omega⟩) ?_
  rw [show iF (f0::ft) (1:Int).toNat (((f0::ft).length:Nat):Int).toNat=ft by rw [Int.toNat_natCast,wU];rfl]
  refine Wp.bind (LO ft (by omega)) (fun r q=> ?_)
  unfold K6
  cases hm:tW ft with
  | none=>
    rw [hm] at q;dsimp only at q
    refine Wp.not (fun h=>Wp.ret rfl) (fun h=>by rw [q] at h;cases h)
  | some ns=>
    rw [hm] at q;dsimp only at q;subst q
    have hl:=R5 hm
    refine Wp.not (fun h=>by cases h) (fun _=> ?_)
    dsimp only
    refine Wp.opt (x:=f0) rfl ?_
    refine Wp.opt (x:=f0) rfl ?_
    simp only [nO,lW]
    unfold S8
    refine Wp.ite (fun h1=> ?_) (fun h1=> ?_)
    ·refine Wp.ite (fun h2=> ?_) (fun h2=> ?_)
     ·rw [if_pos ⟨h1,by omega⟩]
      have o0:=PW (0:Int) (l:=ns) 0 (by omega)
      refine Wp.opt o0.1 (Wp.opt o0.2 ?_)
      refine Wp.bind (P7 hV _) (fun _ q=> ?_);subst q
      exact Wp.ret rfl
     ·rw [if_neg (fun g=>h2 (by omega))]
      exact bc_ hV b1 b2 i1 z1 z2 z3 z4 f0 ft ns (by omega)
    ·rw [if_neg (fun g=>h1 g.1)]
     exact bc_ hV b1 b2 i1 z1 z2 z3 z4 f0 ft ns (by omega)
end
def yQ (w:aC) (ft:List ByteArray):aC×ByteArray:=
  match ft with
  | [a,b]=>if a=noB then (w,NM) else (match E8 b with | none=>(w,NM) | some n=>if (KT a (n:Int)).Width=0 then (w,noA) else (KT a (n:Int),okB))
  | _=>(w,NM)
def wZ (w:aC) (f0:ByteArray) (ft:List ByteArray):aC×ByteArray:=if f0=u4 then yQ w ft else K6 w f0 ft
def JF (w:aC) (s:ByteArray):aC×ByteArray:=
  if s=kV then (w,DB w) else match pcM s 32 with | []=>(w,NM) | f0::ft=>wZ w f0 ft
def pushB:List UInt8:=[112,117,115,104,32]
def nN (w:aC) (s:ByteArray):aC×ByteArray:=
  if s.data.toList.take 5=pushB then KF w (sp1 (s.data.toList.drop 5)).1 (sp1 (s.data.toList.drop 5)).2 else JF w s
theorem cq_ {s:ByteArray} (h:s=SJ∨s=TQ∨s=kV∨s=u4∨s=(⟨#[]⟩:ByteArray)):jM s impl_kinds=none:=by
  cases hk:jM s impl_kinds with
  | none=>rfl
  | some p=>
    obtain ⟨_,h1,h2,h3,h4,h5⟩:=KK hk
    rcases h with h | h | h | h | h
    ·exact absurd h h1
    ·exact absurd h h2
    ·exact absurd h h3
    ·exact absurd h h4
    ·exact absurd h h5
theorem dF_ {w:aC} {s:ByteArray} (h:s=kV∨s=u4∨s=(⟨#[]⟩:ByteArray)) (ns:List Int):S8 w s ns=(w,NM):=by
  have hk:jM s impl_kinds=none:=cq_ (by rcases h with h | h | h<;>simp [h])
  have h1:s≠SJ:=by rcases h with rfl | rfl | rfl<;>decide
  have h2:s≠TQ:=by rcases h with rfl | rfl | rfl<;>decide
  unfold S8
  rw [if_neg (fun g=>h1 g.1)]
  unfold cl2
  rw [if_neg (fun g=>h2 g.1)]
  unfold SV
  rw [hk]
theorem aQ_ {w:aC} {s:ByteArray} (h:s=kV∨s=u4∨s=(⟨#[]⟩:ByteArray)) (ft:List ByteArray):K6 w s ft=(w,NM):=by
  unfold K6
  cases tW ft with
  | none=>rfl
  | some ns=>exact dF_ h ns
theorem XH (s:ByteArray) (c:UInt8):(pcM s c).length≤s.size+1:=by
  have:=L5 c s.data.toList
  rw [E9] at this
  unfold pcM
  rw [List.length_map]
  exact this
theorem cu_ (s:ByteArray) (c:UInt8):∃f0 ft,pcM s c=f0::ft:=by
  unfold pcM
  cases h:pcL c s.data.toList with
  | nil=>exact absurd h (WZ c _)
  | cons a b=>exact ⟨_,_,rfl⟩
theorem QV (b:ByteArray) (n:Int):((KT b n).Ends.length:Int)=0↔(KT b n).Width=0:=by
  unfold KT
  split
  ·rename_i h
   constructor
   ·intro g;simp at g
   ·intro g;dsimp only at g;omega
  ·exact ⟨fun _=>rfl,fun _=>rfl⟩
theorem CL {s:ByteArray} (h:s.data.toList.take 5=pushB):s.data.toList=pushB++s.data.toList.drop 5∧5≤s.size:=by
  refine ⟨?_, ?_⟩
  ·rw [←h,List.take_append_drop]
  ·have:=congrArg List.length h
   rw [List.length_take,E9] at this
   have e:pushB.length=5:=rfl
   omega
section
variable {w:aC} (hV:aQ w) (b1 b2:ByteArray) (i1:Int) (z1:List aN) (z2:List aD) (z3 z4:List aA)
include hV
theorem cS_ (s:ByteArray) (hs:s.size≤50000):Wp (fun k=>lM k s w.Key w.Width w.Forged b1 i1 b2 w.Ends w.Flight w.Given w.Taken z1 z2 z3 z4) (· =JF w s):=by
  refine Wp.step ?_
  simp only [lM]
  refine Wp.bind (Q9 s 32 (by omega)) (fun _ q=> ?_);subst q
  have hl:=XH s 32
  unfold JF
  simp only [nO]
  refine Wp.ite (fun h=> ?_) (fun h=> ?_)
  ·rw [if_pos (show s=kV from h)]
   refine Wp.bind (TL hV) (fun _ q=> ?_);subst q
   exact Wp.ret rfl
  rw [if_neg (show¬s=kV from h)]
  obtain ⟨f0,ft,hf⟩:=cu_ s 32
  rw [hf] at hl⊢
  rw [List.length_cons] at hl
  dsimp only
  unfold wZ
  refine Wp.opt (x:=f0) rfl ?_
  refine Wp.opt (x:=f0) rfl ?_
  have go:f0=u4→yQ w ft=(w,NM)→Wp (fun k=>fA k w.Key w.Width w.Forged b1 i1 b2 (f0::ft) w.Ends w.Flight w.Given w.Taken z1 z2 z3 z4) (· =yQ w ft):=fun e e'=>by
    have:=aR_ hV b1 b2 i1 z1 z2 z3 z4 f0 ft (by omega)
    rw [aQ_ (.inr (.inl e)),←e'] at this
    exact this
  refine Wp.ite (fun h1=> ?_) (fun h1=> ?_)
  ·have h1':f0=u4:=h1
   rw [if_pos h1']
   simp only [lW]
   refine Wp.ite (fun h2=> ?_) (fun h2=> ?_)
   ·obtain ⟨a,b,rfl⟩:∃a b,ft=[a,b]:=by
      match ft,h2 with
      | [a,b],_=>exact ⟨a,b,rfl⟩
      | [],h2=>simp at h2
      | [a],h2=>simp at h2
      | a::b::c::d,h2=>simp at h2;omega
    refine Wp.opt (x:=a) rfl ?_
    refine Wp.opt (x:=a) rfl ?_
    simp only [b9,nO]
    refine Wp.ite (fun h3=> ?_) (fun h3=> ?_)
    ·exact go h1' (if_pos h3)
    ·refine Wp.opt (x:=b) rfl ?_
     refine Wp.opt (x:=b) rfl ?_
     unfold yQ
     dsimp only
     rw [if_neg (show¬a=noB from h3)]
     refine Wp.bind (uP b) (fun _ q=> ?_);subst q
     rcases C8 b with ⟨e1,e2⟩ | ⟨n,e1,e2,e3⟩
     ·rw [e1,e2]
      exact Wp.ret rfl
     ·rw [e1,e2]
      dsimp only
      refine Wp.dec (fun h=>by omega) (fun _=> ?_)
      refine Wp.opt (x:=a) rfl ?_
      refine Wp.opt (x:=a) rfl ?_
      refine Wp.bind (KC a _) (fun _ q=> ?_);subst q
      refine Wp.ite (fun h4=>Wp.ret ?_) (fun h4=>Wp.ret ?_)
      ·rw [if_pos ((QV _ _).mp h4)];rfl
      ·rw [if_neg (fun g=>h4 ((QV _ _).mpr g))];rfl
   ·refine go h1' ?_
    unfold yQ
    split
    ·exact absurd rfl h2
    ·rfl
  ·rw [if_neg (show¬f0=u4 from h1)]
   exact aR_ hV b1 b2 i1 z1 z2 z3 z4 f0 ft (by omega)
theorem TF (s:ByteArray) (hs:s.size≤50000):Wp (fun k=>qK k w s) (· =nN w s):=by
  unfold qK nN
  refine Wp.dec (fun h=> ?_) (fun h=> ?_)
  ·refine Wp.opt (dF ⟨by omega,by omega,by omega⟩) ?_
   simp only [nO]
   have e:s.extract (0:Int).toNat (5:Int).toNat=(⟨#[112,117,115,104,32]⟩:ByteArray)↔s.data.toList.take 5=pushB:=by
     have e':(s.extract (0:Int).toNat (5:Int).toNat).data.toList=s.data.toList.take 5:=by
       simp only [ByteArray.data_extract,Array.toList_extract]
       rw [List.extract_eq_take_drop]
       rfl
     constructor
     ·intro g;rw [←e',g];rfl
     ·intro g
      apply ByteArray.ext
      apply Array.toList_inj.mp
      rw [e',g];rfl
   refine Wp.ite (fun g=> ?_) (fun g=> ?_)
   ·rw [if_pos (e.mp g)]
    refine Wp.bind (SY hV s (by omega) _ (CL (e.mp g)).1) (fun _ q=> ?_);subst q
    exact Wp.ret rfl
   ·rw [if_neg (fun g'=>g (e.mpr g'))]
    exact cS_ hV _ _ _ _ _ _ _ s hs
  ·have:=cS_ hV (⟨#[]⟩:ByteArray) (⟨#[]⟩:ByteArray) 0 [] [] [] [] s hs
   by_cases g:s.data.toList.take 5=pushB
   ·rw [if_pos g]
    obtain ⟨g1,g2⟩:=CL g
    have hd:s.data.toList.drop 5=[]:=List.eq_nil_of_length_eq_zero (by rw [List.length_drop,E9];omega)
    have hs':s=⟨#[112,117,115,104,32]⟩:=by
      apply ByteArray.ext
      apply Array.toList_inj.mp
      rw [g1,hd];rfl
    have e1:JF w s=(w,NM):=by
      subst hs'
      unfold JF
      rw [if_neg (by decide),show pcM (⟨#[112,117,115,104,32]⟩:ByteArray) 32=[⟨#[112,117,115,104]⟩,⟨#[]⟩] from rfl]
      dsimp only
      unfold wZ
      rw [if_neg (by decide)]
      rfl
    have e2:KF w (sp1 (s.data.toList.drop 5)).1 (sp1 (s.data.toList.drop 5)).2=(w,NM):=by rw [hd];rfl
    rw [e2,←e1]
    exact this
   ·rw [if_neg g]
    exact this
end
def cI (c:UInt8):Int:=(c.toNat:Int)
theorem NL (s:ByteArray):bB s=s.data.toList.map cI:=rfl
theorem cl_ {w:aC} (hV:aQ w) {n:Int} (hn:1≤n∧n≤2) (h:¬(nQ (eJ n w.Ends)).Code=0):doM w ⟨11,n,0,0,noB⟩=w:=by
  unfold doM
  rw [if_pos hV]
  simp [doW,BV,JP,h,hn]
section
variable {w:aC} (hV:aQ w) (b1 b2:ByteArray) (i1:Int) (z1:List aN) (z2:List aD) (z3 z4:List aA)
theorem aD_ (s:ByteArray) (hs:s.size≤1000000):∀(t pre:List UInt8),s.data.toList=pre++t→
    Wp (fun k=>iL k (s.size:Nat) (pre.length:Nat) w.Key w.Width w.Forged b1 i1 b2 (pre.map plC++t.map cI) w.Ends w.Flight w.Given w.Taken z1 z2 z3 z4) (· =(w,ev_++wQ s))
  | [],pre,he=>by
    have hl:pre.length=s.size:=by have:=congrArg List.length he;simp at this;omega
    refine Wp.step ?_
    simp only [iL]
    refine Wp.dec (fun h=>by omega) (fun _=> ?_)
    have e:m6 (pre.map plC++[].map cI)=wQ s:=by unfold wQ;rw [he];simp
    rw [e]
    refine Wp.opt (aY (by rw [z8];(simp only [aG,bC,List.size_toArray,List.length_cons,List.length_nil];omega))) (Wp.ret rfl)
  | c::t,pre,he=>by
    have hl:pre.length<s.size:=by have:=congrArg List.length he;simp at this;omega
    have go:∀x:Int,plC c=x→Wp (fun k=>kH k (s.size:Nat) (pre.length:Nat) w.Key w.Width w.Forged b1 i1 b2 (pre.map plC++x::t.map cI) w.Ends w.Flight w.Given w.Taken z1 z2 z3 z4) (· =(w,ev_++wQ s)):=fun x hx=>by
      refine Wp.step ?_
      simp only [kH]
      rw [bR (by omega) (by omega),bS pre c]
      have:=aD_ s hs t (pre++[c]) (by rw [he];simp)
      rw [List.map_append] at this
      rw [←hx]
      simpa using this
    have hi:idx (pre.map plC++(c::t).map cI) ((pre.length:Nat):Int)=some (cI c):=by
      have:=bJ (pre:=pre.map plC) (t:=t.map cI) (x:=cI c)
      rw [List.length_map] at this
      exact this
    have hg:(pre.map plC++(c::t).map cI)[Int.toNat ((pre.length:Nat):Int)]? =some (cI c):=by
      have:=jQ (pre:=pre.map plC) (t:=t.map cI) (x:=cI c)
      rw [List.length_map] at this
      exact this
    have hst:(pre.map plC++(c::t).map cI).set (Int.toNat ((pre.length:Nat):Int)) 63=pre.map plC++63::t.map cI:=by
      have:=Km.set_mid (pre:=pre.map plC) (t:=t.map cI) (x:=cI c) (y:=63)
      rw [List.length_map] at this
      exact this
    refine Wp.step ?_
    simp only [iL]
    refine Wp.dec (fun _=> ?_) (fun h=>by omega)
    refine Wp.opt hi (Wp.opt hg ?_)
    refine Wp.dec (fun h1=> ?_) (fun h1=> ?_)
    ·refine Wp.opt hi (Wp.opt hg ?_)
     rw [hst]
     exact go _ (by unfold plC;rw [if_pos (show (c.toNat:Int)<32 from h1)])
    refine Wp.opt hi (Wp.opt hg ?_)
    refine Wp.dec (fun h2=> ?_) (fun h2=> ?_)
    ·refine Wp.opt hi (Wp.opt hg ?_)
     rw [hst]
     exact go _ (by unfold plC;rw [if_neg (show¬(c.toNat:Int)<32 from h1),if_pos (show (c.toNat:Int)>126 from h2)])
    exact go _ (by unfold plC;rw [if_neg (show¬(c.toNat:Int)<32 from h1),if_neg (show¬(c.toNat:Int)>126 from h2)];rfl)
theorem bp_ (s:ByteArray):Wp (fun k=>nK k s w.Key w.Width w.Forged b1 i1 b2 w.Ends w.Flight w.Given w.Taken z1 z2 z3 z4) (· =(w,s)):=by
  refine Wp.step ?_
  simp only [nK]
  exact Wp.ret rfl
theorem bo_ (s:ByteArray) (hs:s.size≤2000):Wp (fun k=>mP k s w.Key w.Width w.Forged b1 i1 b2 w.Ends w.Flight w.Given w.Taken z1 z2 z3 z4) (· =(w,OF w s)):=by
  refine Wp.step ?_
  simp only [mP,b9,nO]
  unfold OF
  refine Wp.ite (fun h=> ?_) (fun h=> ?_)
  ·rw [if_pos (show w.Forged=noB from h)];exact bp_ _ _ _ _ _ _ _ _
  ·rw [if_neg (show¬w.Forged=noB from h)]
   refine Wp.opt (aY (by (simp only [aG,bC,List.size_toArray,List.length_cons,List.length_nil];omega))) ?_
   exact bp_ _ _ _ _ _ _ _ _
include hV
theorem au_ (n:Int) (hn:1≤n∧n≤2):Wp (fun k=>m0 k w.Key w.Width w.Forged b1 i1 b2 [n] w.Ends w.Flight w.Given w.Taken z1 z2 z3 z4) (· =JZ w n):=by
  obtain ⟨v,i,j⟩:=MK hV hn
  have sm:=zG v
  refine Wp.step ?_
  simp only [m0,nC]
  refine Wp.opt (x:=n) rfl ?_
  refine Wp.opt (x:=n) rfl ?_
  refine Wp.opt i (Wp.opt j ?_)
  refine Wp.bind (E4 _) (fun _ q=> ?_);subst q
  refine Wp.opt (x:=n) rfl ?_
  refine Wp.opt (x:=n) rfl ?_
  refine Wp.bind (I9 w (o7 hV) _) (fun _ q=> ?_);subst q
  simp only [AX]
  unfold JZ
  rw [if_pos hn]
  refine Wp.ite (fun h3=> ?_) (fun h3=> ?_)
  ·rw [if_pos h3]
   have hz:(nQ (eJ n w.Ends)).Text.size≤1000000:=by omega
   have:=aD_ (w:=doM w ⟨11,n,0,0,noB⟩) b1 b2 i1 z1 z2 z3 z4 _ hz _ [] rfl
   have el:((bB (nQ (eJ n w.Ends)).Text).length:Int)=(((nQ (eJ n w.Ends)).Text.size:Nat):Int):=by rw [NL,List.length_map,E9]
   rw [el]
   exact this
  ·rw [if_neg h3]
   have hc:okN (nQ (eJ n w.Ends)).Code:=⟨by omega,by omega⟩
   have:=dK hc
   simp only [QW hc]
   refine Wp.opt rfl ?_
   refine Wp.opt (aY (by (simp only [aG,bC,List.size_toArray,List.length_cons,List.length_nil];omega))) (Wp.ret ?_)
   have e:=cl_ hV hn h3
   show (doM w ⟨11,n,0,0,noB⟩,_)=_
   rw [e];rfl
theorem Z5 (s:ByteArray) (hs:s.size≤1000):Wp (fun k=>mX k s w.Key w.Width w.Forged b1 i1 b2 w.Ends w.Flight w.Given w.Taken z1 z2 z3 z4) (· =(w,OF w (O1 w s))):=by
  refine Wp.step ?_
  simp only [mX]
  refine Wp.bind (VK w (o7 hV)) (fun _ q=> ?_);subst q
  refine Wp.dec (fun g=> ?_) (fun g=> ?_)
  ·refine Wp.opt (aY (by (simp only [aG,bC,List.size_toArray,List.length_cons,List.length_nil];omega))) ?_
   unfold O1;rw [if_pos g]
   exact bo_ _ _ _ _ _ _ _ _ (by (simp only [aG,bC,List.size_toArray,List.length_cons,List.length_nil];omega))
  ·unfold O1;rw [if_neg g]
   exact bo_ _ _ _ _ _ _ _ _ (by omega)
theorem bO_ (s:ByteArray):Wp (fun k=>mO k s w.Key w.Width w.Forged b1 i1 b2 w.Ends w.Flight w.Given w.Taken z1 z2 z3 z4) (· =if s=kV then (w,DB w) else (w,NM)):=by
  obtain ⟨v1,v2,i1',i2,j1,j2⟩:=GD hV
  have g1:=qC v1;have g2:=qC v2
  refine Wp.step ?_
  simp only [mO,nO]
  refine Wp.ite (fun h=> ?_) (fun h=>Wp.ret (by rw [if_neg (show¬s=kV from h)];rfl))
  rw [if_pos (show s=kV from h)]
  refine Wp.opt i1' (Wp.opt j1 ?_)
  refine Wp.bind (NG v1) (fun _ q=> ?_);subst q
  refine Wp.opt (aY (by (simp only [aG,bC,List.size_toArray,List.length_cons,List.length_nil];omega))) ?_
  refine Wp.opt i2 (Wp.opt j2 ?_)
  refine Wp.bind (NG v2) (fun _ q=> ?_);subst q
  refine Wp.opt (aY (by (simp only [aG,bC,List.size_toArray,List.length_cons,List.length_nil];omega))) ?_
  refine Wp.bind (PV w (o7 hV)) (fun _ q=> ?_);subst q
  refine Wp.bif (fun g=> ?_) (fun g=> ?_)
  ·refine Wp.opt (aY (by (simp only [aG,bC,List.size_toArray,List.length_cons,List.length_nil];omega))) ?_
   have:=Z5 hV b1 b2 i1 z1 z2 z3 z4 (z6 w) (Nat.le_trans (tI hV) (by decide))
   unfold z6 at this;rw [if_pos g] at this
   unfold DB z6;rw [if_pos g]
   exact this
  ·refine Wp.opt (aY (by (simp only [aG,bC,List.size_toArray,List.length_cons,List.length_nil];omega))) ?_
   have:=Z5 hV b1 b2 i1 z1 z2 z3 z4 (z6 w) (Nat.le_trans (tI hV) (by decide))
   unfold z6 at this;rw [if_neg (by simp [g])] at this
   unfold DB z6;rw [if_neg (by simp [g])]
   exact this
def es_ (w:aC) (s f0:ByteArray) (ns:List Int):aC×ByteArray:=if f0=TQ∧ns.length=2 then YJ w (ns.getD 0 0) (ns.getD 1 0) else if s=kV then (w,DB w) else (w,NM)
theorem bG_ (s f0:ByteArray) (ft:List ByteArray) (ns:List Int):Wp (fun k=>nJ k s w.Key w.Width w.Forged b1 i1 b2 (f0::ft) ns w.Ends w.Flight w.Given w.Taken z1 z2 z3 z4) (· =es_ w s f0 ns):=by
  refine Wp.step ?_
  simp only [nJ]
  refine Wp.opt (x:=f0) rfl ?_
  refine Wp.opt (x:=f0) rfl ?_
  simp only [nO,lW]
  unfold es_
  refine Wp.ite (fun h1=> ?_) (fun h1=> ?_)
  ·refine Wp.ite (fun h2=> ?_) (fun h2=> ?_)
   ·rw [if_pos (show f0=TQ∧ns.length=2 from ⟨h1,by omega⟩)]
    have o0:=PW (0:Int) (l:=ns) 0 (by omega)
    have o1:=PW (0:Int) (l:=ns) 1 (by omega)
    unfold YJ
    refine Wp.opt o0.1 (Wp.opt o0.2 ?_)
    refine Wp.dec (fun h=>Wp.ret (by rw [if_pos (by omega)];rfl)) (fun h3=> ?_)
    refine Wp.opt o1.1 (Wp.opt o1.2 ?_)
    refine Wp.dec (fun h=>Wp.ret (by rw [if_pos (by omega)];rfl)) (fun h4=> ?_)
    refine Wp.opt o1.1 (Wp.opt o1.2 ?_)
    refine Wp.dec (fun h=>Wp.ret (by rw [if_pos (by omega)];rfl)) (fun h5=> ?_)
    rw [if_neg (by omega)]
    refine Wp.opt o0.1 (Wp.opt o0.2 ?_)
    refine Wp.opt o1.1 (Wp.opt o1.2 ?_)
    refine Wp.bind (VI w (o7 hV) _ _) (fun _ q=> ?_);subst q
    simp only [QW (tB (UZ hV (n:=ns.getD 0 0) (ev:=ns.getD 1 0) ⟨by omega,by omega⟩))]
    exact Wp.opt rfl (Wp.ret rfl)
   ·rw [if_neg (fun g=>h2 (by omega))]
    exact bO_ hV b1 b2 i1 z1 z2 z3 z4 s
  ·rw [if_neg (fun g=>h1 g.1)]
   exact bO_ hV b1 b2 i1 z1 z2 z3 z4 s
theorem aP_ (s f0:ByteArray) (ft:List ByteArray) (ns:List Int):Wp (fun k=>m9 k s w.Key w.Width w.Forged b1 i1 b2 (f0::ft) ns w.Ends w.Flight w.Given w.Taken z1 z2 z3 z4) (· =if f0=SJ∧ns.length=1 then JZ w (ns.getD 0 0) else es_ w s f0 ns):=by
  refine Wp.step ?_
  simp only [m9]
  refine Wp.opt (x:=f0) rfl ?_
  refine Wp.opt (x:=f0) rfl ?_
  simp only [nO,lW,AX]
  refine Wp.ite (fun h1=> ?_) (fun h1=> ?_)
  ·refine Wp.ite (fun h2=> ?_) (fun h2=> ?_)
   ·rw [if_pos (show f0=SJ∧ns.length=1 from ⟨h1,by omega⟩)]
    obtain ⟨n,rfl⟩:∃n,ns=[n]:=by
      match ns,h2 with
      | [n],_=>exact ⟨n,rfl⟩
      | [],h2=>simp at h2
      | a::b::c,h2=>simp at h2;omega
    show Wp _ (· =JZ w n)
    refine Wp.opt (x:=n) rfl ?_
    refine Wp.opt (x:=n) rfl ?_
    refine Wp.ite (fun h3=>au_ hV b1 b2 i1 z1 z2 z3 z4 n (by omega)) (fun h3=> ?_)
    refine Wp.opt (x:=n) rfl ?_
    refine Wp.opt (x:=n) rfl ?_
    refine Wp.ite (fun h4=>au_ hV b1 b2 i1 z1 z2 z3 z4 n (by omega)) (fun h4=>Wp.ret ?_)
    unfold JZ
    rw [if_neg (by omega)];rfl
   ·rw [if_neg (fun g=>h2 (by omega))]
    exact bG_ hV b1 b2 i1 z1 z2 z3 z4 s f0 ft ns
  ·rw [if_neg (fun g=>h1 g.1)]
   exact bG_ hV b1 b2 i1 z1 z2 z3 z4 s f0 ft ns
end
def bQ_ (w:aC) (s f0:ByteArray) (ns:List Int):aC×ByteArray:=if s=kV then (w,DB w) else S8 w f0 ns
theorem WD {w:aC} {s f0:ByteArray} {ns:List Int} (hsh:s=kV→f0=kV) (hk:jM f0 impl_kinds=none∨∃p,jM f0 impl_kinds=some p∧¬(ns.length:Int)=p.2):
    (if f0=SJ∧ns.length=1 then JZ w (ns.getD 0 0) else es_ w s f0 ns)=bQ_ w s f0 ns:=by
  unfold bQ_ S8 es_ cl2
  have hkl:SV w f0 ns=(w,NM):=by
    unfold SV
    rcases hk with hk | ⟨p,hk,hp⟩
    ·rw [hk]
    ·rw [hk];dsimp only;rw [if_neg hp]
  rw [hkl]
  by_cases hs:s=kV
  ·have h0:=hsh hs
   rw [if_neg (fun g=>absurd (h0.symm.trans g.1) (by decide)),if_neg (fun g=>absurd (h0.symm.trans g.1) (by decide)),if_pos hs,if_pos hs]
  ·rw [if_neg hs,if_neg hs]
theorem bZ_ {w:aC} {s x:ByteArray} (hx:x∈pcM s 32) (he:x=(⟨#[]⟩:ByteArray)):JF w s=(w,NM):=by
  unfold JF
  by_cases hs:s=kV
  ·subst hs
   rw [show pcM kV 32=[kV] from rfl] at hx
   simp at hx
   rw [hx] at he
   exact absurd he (by decide)
  rw [if_neg hs]
  obtain ⟨f0,ft,hf⟩:=cu_ s 32
  rw [hf] at hx⊢
  dsimp only
  unfold wZ
  have hn:E8 x=none:=by subst he;rfl
  rcases List.mem_cons.mp hx with rfl | hx
  ·rw [if_neg (by rw [he];decide)]
   exact aQ_ (.inr (.inr he)) ft
  ·by_cases hw:f0=u4
   ·rw [if_pos hw]
    unfold yQ
    split
    ·rename_i a b
     simp only [List.mem_cons,List.not_mem_nil,or_false] at hx
     rcases hx with rfl | rfl
     ·rw [if_pos (show x=noB from he)]
     ·rw [hn];split<;>rfl
    ·rfl
   ·rw [if_neg hw]
    unfold K6
    rw [QA hx hn]
section
variable {w:aC} (hV:aQ w) (b1 b2:ByteArray) (i1:Int) (z1:List aN) (z2:List aD) (z3 z4:List aA)
include hV
theorem a3_ (s f0:ByteArray) (ft:List ByteArray) (hf:ft.length≤1000000) (hsh:s=kV→f0=kV):∀(t pre:List ByteArray) (acc:List Int),ft=pre++t→acc.length≤pre.length→
    Wp (fun k=>kO k s 1 (f0::ft).length (ft.length:Nat) (pre.length:Nat) w.Key w.Width w.Forged b1 i1 b2 (f0::ft) acc w.Ends w.Flight w.Given w.Taken z1 z2 z3 z4)
     (· =match tW t with | none=>(w,NM) | some l=>bQ_ w s f0 (acc++l))
  | [],pre,acc,he,ha=>by
    have hl:pre.length=ft.length:=by rw [he];simp
    refine Wp.step ?_
    simp only [kO]
    refine Wp.dec (fun h=>by omega) (fun _=> ?_)
    refine Wp.opt (x:=f0) rfl ?_
    refine Wp.opt (x:=f0) rfl ?_
    show Wp _ (· =bQ_ w s f0 (acc++[]))
    rw [List.append_nil]
    cases hk:jM f0 impl_kinds with
    | none=>
      simp only [optK]
      have:=aP_ hV b1 b2 i1 z1 z2 z3 z4 s f0 ft acc
      rw [WD hsh (.inl hk)] at this
      exact this
    | some p=>
      simp only [optK,lW]
      obtain ⟨p1,p2,p3,p4,p5,p6⟩:=KK hk
      have hs:¬s=kV:=fun g=>p4 (hsh g)
      refine Wp.ite (fun h=> ?_) (fun h=> ?_)
      ·have em:bQ_ w s f0 acc=doL w p.1 acc:=by
         unfold bQ_ S8 cl2 SV
         rw [if_neg hs,if_neg (fun g=>p2 g.1),if_neg (fun g=>p3 g.1),hk]
         dsimp only
         rw [if_pos h]
       rw [em]
       refine Wp.opt (bI (by simp;omega)) ?_
       have len:(acc++[0,0,0]).length=acc.length+3:=by simp
       refine Wp.opt (PW (0:Int) (l:=acc++[0,0,0]) 0 (by omega)).1 ?_
       refine Wp.opt (PW (0:Int) (l:=acc++[0,0,0]) 0 (by omega)).2 ?_
       refine Wp.opt (PW (0:Int) (l:=acc++[0,0,0]) 1 (by omega)).1 ?_
       refine Wp.opt (PW (0:Int) (l:=acc++[0,0,0]) 1 (by omega)).2 ?_
       refine Wp.opt (PW (0:Int) (l:=acc++[0,0,0]) 2 (by omega)).1 ?_
       refine Wp.opt (PW (0:Int) (l:=acc++[0,0,0]) 2 (by omega)).2 ?_
       refine Wp.bind (I9 w (o7 hV) _) (fun _ q=> ?_);subst q
       simp only [QW (tB (YE hV _))]
       exact Wp.opt rfl (Wp.ret rfl)
      ·have:=aP_ hV b1 b2 i1 z1 z2 z3 z4 s f0 ft acc
       rw [WD hsh (.inr ⟨p,hk,h⟩)] at this
       exact this
  | x::t,pre,acc,he,ha=>by
    have hl:pre.length<ft.length:=by rw [he];simp
    refine Wp.step ?_
    simp only [kO]
    refine Wp.dec (fun _=> ?_) (fun h=>by omega)
    refine Wp.opt (x:=x) (by rw [wU];show idx ft _=_;rw [he];exact bJ) ?_
    refine Wp.opt (x:=x) (by rw [Int.toNat_natCast,Nat.add_comm];show ft[pre.length]? =_;rw [he];simp) ?_
    refine Wp.bind (sO x) (fun _ q=> ?_);subst q
    rcases DW x with ⟨e1,e2⟩ | ⟨n,e1,e2,e3⟩
    ·rw [e2]
     simp only [tW,e1]
     exact Wp.ret rfl
    ·rw [e2]
     refine Wp.not (fun h=>by cases h) (fun _=> ?_)
     dsimp only
     refine Wp.opt (bI (by simp;omega)) ?_
     rw [bR (by omega) (by omega),bS pre x]
     refine Wp.mono (a3_ s f0 ft hf hsh t (pre++[x]) (acc++[(n:Int)]) (by rw [he];simp) (by simp;omega)) (fun r h=> ?_)
     rw [h]
     simp only [tW,e1]
     cases ht:tW t with
     | none=>rfl
     | some l=>simp
theorem dL_ (s f0:ByteArray) (ft:List ByteArray) (hf:ft.length≤1000000) (hsh:s=kV→f0=kV∧ft=[]):
    Wp (fun k=>pS k s w.Key w.Width w.Forged b1 i1 b2 (f0::ft) w.Ends w.Flight w.Given w.Taken z1 z2 z3 z4) (· =if s=kV then (w,DB w) else K6 w f0 ft):=by
  refine Wp.step ?_
  simp only [pS]
  refine Wp.opt (dF ⟨by omega,by simp;omega,by omega⟩) ?_
  rw [Int.toNat_natCast,show (1:Int).toNat=1 from rfl,wU]
  have:=a3_ hV b1 b2 i1 z1 z2 z3 z4 s f0 ft hf (fun g=>(hsh g).1) ft [] [] rfl (Nat.le_refl _)
  refine Wp.mono this (fun r h=> ?_)
  rw [h]
  by_cases hs:s=kV
  ·rw [if_pos hs,(hsh hs).2]
   show bQ_ w s f0 []=_
   unfold bQ_
   rw [if_pos hs]
  ·rw [if_neg hs]
   unfold K6
   cases tW ft with
   | none=>rfl
   | some l=>
     show bQ_ w s f0 l=_
     unfold bQ_
     rw [if_neg hs]
theorem Z6 (s f0:ByteArray) (ft:List ByteArray) (hc:pcM s 32=f0::ft) (hf:ft.length≤900000):∀(t pre:List ByteArray),f0::ft=pre++t→(∀x∈pre,x≠(⟨#[]⟩:ByteArray))→
    Wp (fun k=>kI k s ((f0::ft).length:Nat) (pre.length:Nat) w.Key w.Width w.Forged b1 i1 b2 (f0::ft) w.Ends w.Flight w.Given w.Taken z1 z2 z3 z4) (· =JF w s)
  | [],pre,he,hn=>by
    have hl:pre.length=(f0::ft).length:=by rw [he];simp
    rw [List.append_nil] at he
    rw [←he] at hn
    refine Wp.step ?_
    simp only [kI]
    refine Wp.dec (fun h=>by omega) (fun _=> ?_)
    refine Wp.opt (x:=f0) rfl ?_
    refine Wp.opt (x:=f0) rfl ?_
    have hsh:s=kV→f0=kV∧ft=[]:=fun g=>by
      subst g
      rw [show pcM kV 32=[kV] from rfl] at hc
      cases hc
      exact ⟨rfl,rfl⟩
    have rm:JF w s=if s=kV then (w,DB w) else wZ w f0 ft:=by
      unfold JF
      rw [hc]
    rw [rm]
    simp only [nO,AX]
    refine Wp.ite (fun h1=> ?_) (fun h1=> ?_)
    ·have h1':f0=u4:=h1
     have hs:¬s=kV:=fun g=>absurd ((hsh g).1.symm.trans h1') (by decide)
     rw [if_neg hs]
     unfold wZ
     rw [if_pos h1']
     refine Wp.ite (fun h2=> ?_) (fun h2=>Wp.ret ?_)
     ·obtain ⟨a,b,rfl⟩:∃a b,ft=[a,b]:=by
        match ft,h2 with
        | [a,b],_=>exact ⟨a,b,rfl⟩
        | [],h2=>simp at h2
        | [a],h2=>simp at h2
        | a::b::c::d,h2=>simp at h2;omega
      unfold yQ
      dsimp only
      rw [if_neg (show¬a=noB from hn a (by simp))]
      refine Wp.opt (x:=b) rfl ?_
      refine Wp.opt (x:=b) rfl ?_
      refine Wp.bind (sO b) (fun _ q=> ?_);subst q
      rcases DW b with ⟨e1,e2⟩ | ⟨n,e1,e2,e3⟩
      ·rw [e1,e2]
       exact Wp.ret rfl
      ·rw [e1,e2]
       refine Wp.not (fun h=>by cases h) (fun _=> ?_)
       dsimp only
       refine Wp.opt (x:=a) rfl ?_
       refine Wp.opt (x:=a) rfl ?_
       refine Wp.bind (IN a _) (fun _ q=> ?_);subst q
       simp only [lW]
       refine Wp.ite (fun h4=>Wp.ret ?_) (fun h4=>Wp.ret ?_)
       ·rw [if_pos h4];rfl
       ·rw [if_neg h4];rfl
     ·unfold yQ
      split
      ·exact absurd rfl h2
      ·rfl
    ·have:=dL_ hV b1 b2 i1 z1 z2 z3 z4 s f0 ft (by omega) hsh
     unfold wZ
     rw [if_neg (show¬f0=u4 from h1)]
     exact this
  | x::t,pre,he,hn=>by
    have hl:pre.length<(f0::ft).length:=by rw [he];simp
    have hl':(f0::ft).length≤1000000:=by simp;omega
    have hx:x∈pcM s 32:=by rw [hc,he];simp
    refine Wp.step ?_
    simp only [kI]
    refine Wp.dec (fun _=> ?_) (fun h=>by omega)
    refine Wp.opt (x:=x) (by rw [he];exact bJ) ?_
    refine Wp.opt (x:=x) (by rw [he];exact jQ) ?_
    simp only [nO]
    refine Wp.ite (fun h=>Wp.ret (by rw [bZ_ hx h];rfl)) (fun h=> ?_)
    rw [bR (by omega) (by omega),bS pre x]
    exact Z6 s f0 ft hc hf t (pre++[x]) (by rw [he];simp) (fun y hy=>by
      simp only [List.mem_append,List.mem_singleton] at hy
      rcases hy with hy | rfl
      ·exact hn y hy
      ·exact h)
end
theorem MQ (s:ByteArray):Lib.hasPrefix s.data.toList (⟨#[112,117,115,104,32]⟩:ByteArray).data.toList=true↔s.data.toList.take 5=pushB:=by
  unfold Lib.hasPrefix
  rw [List.isPrefixOf_iff_prefix]
  constructor
  ·rintro ⟨t,ht⟩
   rw [←ht];rfl
  ·intro h
   exact ⟨_,(CL h).1.symm⟩
theorem b8_ {w:aC} (h:aQ w) {n:Int} (hn:1≤n∧n≤2) (t:ByteArray):Wp (fun k=>
      (idx w.Ends (IntKind.wrap .i64 (n-1))).bind fun _=>
      (w.Ends[(Int.toNat (IntKind.wrap .i64 (n-1)))]?).bind fun y6=>
      (fV k y6 t).bind fun r8=>
      (sW k w (⟨10,n,0,0,t⟩:c6)).bind fun r10=>
      (strconv_Itoa k r8.Code).bind fun r11=>
      (iY (⟨#[99,111,100,101,32]⟩:ByteArray) r11).bind fun t12=>
      some (r10,t12)) (· =RC w n t):=by
  obtain ⟨v,i,j⟩:=MK h hn
  unfold RC
  rw [if_pos hn]
  refine Wp.opt i (Wp.opt j ?_)
  refine Wp.bind (ED _ _) (fun _ q=> ?_);subst q
  refine Wp.bind (I9 w (o7 h) _) (fun _ q=> ?_);subst q
  have hc:=DN v t
  have ok:okN (qI (eJ n w.Ends) t).Code:=⟨by omega,by omega⟩
  have:=dK ok
  simp only [QW ok]
  refine Wp.opt rfl ?_
  exact Wp.opt (aY (by (simp only [aG,bC,List.size_toArray,List.length_cons,List.length_nil];omega))) (Wp.ret rfl)
theorem TW {w:aC} (hV:aQ w) (s:ByteArray) (hs:s.size≤50000):Wp (fun k=>BC k w s) (· =nN w s):=by
  unfold BC nN strings_HasPrefix
  refine Wp.opt rfl ?_
  refine Wp.bif (fun g=> ?_) (fun g=> ?_)
  ·have g':=(MQ s).mp g
   rw [if_pos g']
   have hsp:=fun k=>NV k s (by omega) _ (CL g').1
   simp only [hsp]
   refine Wp.opt rfl ?_
   by_cases h32:(32:UInt8)∈s.data.toList.drop 5
   ·simp only [if_pos h32,List.map_cons,List.map_nil]
    refine Wp.dec (fun h=>by simp at h) (fun _=> ?_)
    refine Wp.opt (x:=baL (sp1 (s.data.toList.drop 5)).2) rfl ?_
    refine Wp.opt (x:=baL (sp1 (s.data.toList.drop 5)).2) rfl ?_
    simp only [nO,dv_]
    refine Wp.ite (fun h=>Wp.ret ?_) (fun h=> ?_)
    ·rw [h]
     unfold KF
     split
     ·rfl
     ·rw [if_pos rfl];rfl
    unfold KF
    simp only [if_neg h]
    refine Wp.opt (x:=baL (sp1 (s.data.toList.drop 5)).1) rfl ?_
    refine Wp.opt (x:=baL (sp1 (s.data.toList.drop 5)).1) rfl ?_
    refine Wp.bind (sO _) (fun _ q=> ?_);subst q
    rcases DW (baL (sp1 (s.data.toList.drop 5)).1) with ⟨e1,e2⟩ | ⟨n,e1,e2,e3⟩
    ·rw [e1,e2]
     exact Wp.ret rfl
    ·rw [e1,e2]
     refine Wp.not (fun h=>by cases h) (fun _=> ?_)
     simp only [AX]
     have run:1≤(n:Int)∧(n:Int)≤2→Wp (fun k=>(idx w.Ends (IntKind.wrap .i64 ((n:Int)-1))).bind fun _=>
      (w.Ends[(Int.toNat (IntKind.wrap .i64 ((n:Int)-1)))]?).bind fun y6=>
      (fV k y6 (baL (sp1 (s.data.toList.drop 5)).2)).bind fun r8=>
      (sW k w (⟨10,(n:Int),0,0,(baL (sp1 (s.data.toList.drop 5)).2)⟩:c6)).bind fun r10=>
      (strconv_Itoa k r8.Code).bind fun r11=>
      (iY (⟨#[99,111,100,101,32]⟩:ByteArray) r11).bind fun t12=>
      some (r10,t12)) (· =RC w (n:Int) (baL (sp1 (s.data.toList.drop 5)).2)):=fun hn=>b8_ hV hn _
     refine Wp.ite (fun h1=> ?_) (fun h1=> ?_)
     ·exact run (by omega)
     refine Wp.ite (fun h2=> ?_) (fun h2=>Wp.ret ?_)
     ·exact run (by omega)
     ·unfold RC
      rw [if_neg (by omega)];rfl
   ·simp only [if_neg h32,List.map_cons,List.map_nil]
    refine Wp.dec (fun _=>Wp.ret ?_) (fun h=>by simp at h)
    rw [XT h32]
    unfold KF
    dsimp only
    cases E8 (baL (s.data.toList.drop 5)) with
    | none=>rfl
    | some n=>rfl
  ·have g':¬s.data.toList.take 5=pushB:=fun h=>by rw [(MQ s).mpr h] at g;cases g
   rw [if_neg g']
   have hsp:=fun k=>EE k s 32 (by omega)
   simp only [hsp]
   refine Wp.opt rfl ?_
   have hl:=XH s 32
   obtain ⟨f0,ft,hf⟩:=cu_ s 32
   rw [hf] at hl⊢
   rw [List.length_cons] at hl
   exact Z6 hV _ _ _ _ _ _ _ s f0 ft hf (by omega) (f0::ft) [] rfl (fun x hx=>by simp at hx)
def vC (r:aC×ByteArray):Prop:=aQ r.1∧r.2.size≤500
theorem MR {w:aC} (h:aQ w) (a:Array UInt8) (ha:a.size≤500):vC (w,⟨a⟩):=⟨h,ha⟩
theorem cN_ {w:aC} (h:aQ w) {n:Int} (hn:okN n):vC (w,PI n):=⟨h,by have:=dK hn;show (PI n).size≤500;omega⟩
theorem aa_ {w:aC} (h:aQ w) {n:Int} (hn:okN n):vC (w,a7_++PI n):=⟨h,by
  have:=dK hn;show (a7_++PI n).size≤500
  unfold a7_;(simp only [aG,bC,List.size_toArray,List.length_cons,List.length_nil];omega)⟩
theorem CN {w:aC} (h:aQ w):vC (w,NM):=MR h _ (by decide)
theorem bX_ {w:aC} (h:aQ w) (n:Int):vC (JZ w n):=by
  unfold JZ
  by_cases hn:1≤n∧n≤2
  ·rw [if_pos hn]
   have sm:=zG (MK h hn).1
   by_cases hc:(nQ (eJ n w.Ends)).Code=0
   ·rw [if_pos hc]
    refine ⟨YE h _, ?_⟩
    show (ev_++wQ _).size≤500
    unfold ev_
    rw [aG,z8];(simp only [aG,bC,List.size_toArray,List.length_cons,List.length_nil];omega)
   ·rw [if_neg hc]
    exact aa_ h ⟨by omega,by omega⟩
  ·rw [if_neg hn];exact MR h _ (by decide)
theorem cp_ {w:aC} (h:aQ w) (n:Int) (t:ByteArray):vC (RC w n t):=by
  unfold RC
  by_cases hn:1≤n∧n≤2
  ·rw [if_pos hn]
   have hc:=DN (MK h hn).1 t
   exact aa_ (YE h _) ⟨by omega,by omega⟩
  ·rw [if_neg hn];exact MR h _ (by decide)
theorem b6_ {w:aC} (h:aQ w) (a b:List UInt8):vC (KF w a b):=by
  unfold KF
  split
  ·exact CN h
  ·split
   ·exact CN h
   ·exact cp_ h _ _
theorem eU_ {w:aC} (h:aQ w) (kd:Int) (ns:List Int):vC (doL w kd ns):=cN_ (YE h _) (tB (YE h _))
theorem cB_ {w:aC} (h:aQ w) (a b:Int):vC (YJ w a b):=by
  unfold YJ
  by_cases g:a>200∨b<1∨b>10
  ·rw [if_pos g];exact MR h _ (by decide)
  ·rw [if_neg g]
   have:=UZ h (n:=a) (ev:=b) ⟨by omega,by omega⟩
   exact cN_ this (tB this)
theorem bV_ {w:aC} (h:aQ w) (f0:ByteArray) (ft:List ByteArray):vC (K6 w f0 ft):=by
  unfold K6
  split
  ·exact CN h
  unfold S8
  split
  ·exact bX_ h _
  unfold cl2
  split
  ·exact cB_ h _ _
  unfold SV
  split
  ·exact CN h
  split
  ·exact eU_ h _ _
  ·exact CN h
theorem dT_ {b:ByteArray} {n:Int} (h:¬(KT b n).Width=0):aQ (KT b n):=by
  by_cases g:(1≤n∧n≤8)∧b.size≤30
  ·exact bL_ g.2 g.1
  ·unfold KT at h
   rw [if_neg g] at h
   exact absurd rfl h
theorem ZW {w:aC} (h:aQ w) (ft:List ByteArray):vC (yQ w ft):=by
  unfold yQ
  split
  ·split
   ·exact CN h
   ·split
    ·exact CN h
    ·split
     ·exact MR h _ (by decide)
     ·rename_i g
      exact MR (dT_ g) _ (by decide)
  ·exact CN h
theorem XE {w:aC} (h:aQ w) (s:ByteArray):vC (nN w s):=by
  unfold nN
  split
  ·exact b6_ h _ _
  unfold JF
  split
  ·refine ⟨h, ?_⟩
   have:=XZ h
   show (DB w).size≤500
   omega
  split
  ·exact CN h
  unfold wZ
  split
  ·exact ZW h _
  ·exact bV_ h _ _
def WL (w:aC):List ByteArray→List Int
  | []=>[]
  | s::t=>bB (nN w s).2++([10]++WL (nN w s).1 t)
def Y9:ByteArray:=⟨#[116,111,111,32,108,111,110,103,10]⟩
def ep_:ByteArray:=⟨#[107]⟩
def AD (f:List ByteArray):List ByteArray:=if f.getLast? =some (⟨#[]⟩:ByteArray) then f.take (f.length-1) else f
def dj_ (s:ByteArray):ByteArray:=
  if s.size>20000 then Y9 else if (AD (pcM s 10)).length>400 then Y9 else m6 (WL (KT ep_ 8) (AD (pcM s 10)))
theorem qV (s:ByteArray):(bB s).length=s.size:=by rw [NL,List.length_map,E9]
theorem RI (c:UInt8):∀(l:List UInt8),∀x∈pcL c l,x.length≤l.length
  | [],x,h=>by simp [pcL] at h;simp [h]
  | y::l,x,h=>by
    have ih:=RI c l
    unfold pcL at h
    split at h
    ·rcases List.mem_cons.mp h with rfl | h
     ·simp
     ·have:=ih x h;simp;omega
    ·cases hl:pcL c l with
     | nil=>exact absurd hl (WZ c l)
     | cons a b=>
       rw [hl] at h ih
       rcases List.mem_cons.mp h with rfl | h
       ·have:=ih a (by simp);simp;omega
       ·have:=ih x (by simp [h]);simp;omega
theorem WA {s x:ByteArray} {c:UInt8} (h:x∈pcM s c):x.size≤s.size:=by
  unfold pcM at h
  obtain ⟨l,hl,rfl⟩:=List.mem_map.mp h
  have:=RI c _ l hl
  rw [E9] at this
  rw [W0];exact this
theorem IY {s x:ByteArray} (h:x∈AD (pcM s 10)):x.size≤s.size:=by
  unfold AD at h
  split at h
  ·exact WA (List.mem_of_mem_take h)
  ·exact WA h
theorem CR (b:List ByteArray) (hb:b.length≤400) (hs:∀x∈b,x.size≤20000):∀(t pre:List ByteArray) (w:aC) (acc:List Int),aQ w→b=pre++t→acc.length≤501*pre.length→
    Wp (fun k=>eH k (pre.length:Nat) b w.Key w.Width w.Forged acc w.Ends w.Flight w.Given w.Taken) (· =m6 (acc++WL w t))
  | [],pre,w,acc,hV,he,ha=>by
    have hl:pre.length=b.length:=by rw [he];simp
    refine Wp.step ?_
    simp only [eH]
    refine Wp.dec (fun h=>by omega) (fun _=>Wp.ret ?_)
    rw [WL,List.append_nil]
  | x::t,pre,w,acc,hV,he,ha=>by
    have hl:pre.length<b.length:=by rw [he];simp
    obtain ⟨o1,o2⟩:=XE hV x
    have hx:=hs x (by rw [he];simp)
    refine Wp.step ?_
    simp only [eH,nC]
    refine Wp.dec (fun _=> ?_) (fun h=>by omega)
    refine Wp.opt (x:=x) (by rw [he];exact bJ) ?_
    refine Wp.opt (x:=x) (by rw [he];exact jQ) ?_
    refine Wp.bind (TF hV x (by omega)) (fun _ q=> ?_);subst q
    refine Wp.opt (bI (by rw [qV];omega)) ?_
    refine Wp.opt (bI (by rw [List.length_append,qV,List.length_singleton];omega)) ?_
    rw [bR (by omega) (by omega),bS pre x]
    have:=CR b hb hs t (pre++[x]) (nN w x).1 (acc++bB (nN w x).2++[10]) o1 (by rw [he];simp) (by
      rw [List.length_append,List.length_append,qV,List.length_singleton,List.length_append,List.length_singleton];omega)
    rw [WL]
    rw [show acc++(bB (nN w x).2++([10]++WL (nN w x).1 t))=acc++bB (nN w x).2++[10]++WL (nN w x).1 t by simp]
    exact this
theorem V1 (s:ByteArray):∀x∈bB s,0≤x∧x<256:=fun x h=>by
  obtain ⟨c,_,rfl⟩:=List.mem_map.mp h
  have:=UInt8.toNat_lt c
  omega
theorem LA (a b:ByteArray):bB (a++b)=bB a++bB b:=by simp [bB]
theorem CV (b:List ByteArray) (hb:b.length≤400) (hs:∀x∈b,x.size≤20000):∀(t pre:List ByteArray) (w:aC) (acc:List Int) (fl:Bool),aQ w→b=pre++t→acc.length≤501*pre.length→(∀x∈acc,0≤x∧x<256)→(fl=false∨acc≠[])→
    Wp (fun k=>gP k (b.length:Nat) (pre.length:Nat) w.Key w.Width w.Forged fl b w.Ends w.Flight w.Given w.Taken acc) (· =m6 (acc++WL w t))
  | [],pre,w,acc,fl,hV,he,ha,hr,hf=>by
    have hl:pre.length=b.length:=by rw [he];simp
    refine Wp.step ?_
    simp only [gP]
    refine Wp.dec (fun h=>by omega) (fun _=> ?_)
    unfold lA
    rw [if_pos ⟨by show acc.length≤_;omega,hr,hf⟩]
    refine Wp.opt rfl (Wp.ret ?_)
    rw [WL,List.append_nil]
  | x::t,pre,w,acc,fl,hV,he,ha,hr,hf=>by
    have hl:pre.length<b.length:=by rw [he];simp
    obtain ⟨o1,o2⟩:=XE hV x
    have hx:=hs x (by rw [he];simp)
    refine Wp.step ?_
    simp only [gP]
    refine Wp.dec (fun _=> ?_) (fun h=>by omega)
    refine Wp.opt (x:=x) (by rw [he];exact bJ) ?_
    refine Wp.opt (x:=x) (by rw [he];exact jQ) ?_
    refine Wp.bind (TW hV x (by omega)) (fun _ q=> ?_);subst q
    refine Wp.opt (aY (by (simp only [aG,bC,List.size_toArray,List.length_cons,List.length_nil];omega))) ?_
    have e:bB ((nN w x).2++(⟨#[10]⟩:ByteArray))=bB (nN w x).2++[10]:=by rw [LA];rfl
    have hz:((nN w x).2++(⟨#[10]⟩:ByteArray)).size≤501:=by (simp only [aG,bC,List.size_toArray,List.length_cons,List.length_nil];omega)
    have ha2:app 1 acc (bB ((nN w x).2++(⟨#[10]⟩:ByteArray)))=some (acc++(bB (nN w x).2++[10])):=by
      rw [bI (by rw [qV];omega),e]
    have hw:∀k,dG k (⟨fl,acc⟩:cW) ((nN w x).2++(⟨#[10]⟩:ByteArray))=some ((((nN w x).2++(⟨#[10]⟩:ByteArray)).size:Int),(),(⟨true,acc++(bB (nN w x).2++[10])⟩:cW)):=fun k=>by
      unfold dG n8
      simp only [Option.bind_some]
      rw [ha2]
      rfl
    simp only [hw]
    refine Wp.opt rfl ?_
    rw [bR (by omega) (by omega),bS pre x]
    have:=CV b hb hs t (pre++[x]) (nN w x).1 (acc++(bB (nN w x).2++[10])) true o1 (by rw [he];simp) (by
      rw [List.length_append,List.length_append,qV,List.length_singleton,List.length_append,List.length_singleton];omega) (fun y hy=>by
      simp only [List.mem_append,List.mem_singleton] at hy
      rcases hy with hy | hy | rfl
      ·exact hr y hy
      ·exact V1 _ y hy
      ·omega) (.inr (by simp))
    rw [WL]
    rw [show acc++(bB (nN w x).2++([10]++WL (nN w x).1 t))=acc++(bB (nN w x).2++[10])++WL (nN w x).1 t by simp]
    exact this
theorem RL {R:Type} (f:List ByteArray) (hf:f≠[]) (hl:f.length≤10000000) (g:Nat→List ByteArray→Option R) (Q:R→Prop) (h:Wp (fun k=>g k (AD f)) Q):
    Wp (fun k=>(idx f (IntKind.wrap .i64 ((f.length:Int)-1))).bind fun _=>
     (f[(Int.toNat (IntKind.wrap .i64 ((f.length:Int)-1)))]?).bind fun y2=>
     bif (y2.toList==(⟨#[]⟩:ByteArray).toList) then
       (wnd f.length 0 (IntKind.wrap .i64 ((f.length:Int)-1))).bind fun p3=>
       g k (iF f p3.1 p3.2)
     else
       g k f) Q:=by
  have hp:0<f.length:=List.length_pos_iff.mpr hf
  rw [bR (by omega) (by omega),show (f.length:Int)-1=((f.length-1:Nat):Int) by omega,j8,Int.toNat_natCast]
  have hg:f[f.length-1]? =some (f[f.length-1]):=List.getElem?_eq_getElem (by omega)
  have hgl:f.getLast? =some (f[f.length-1]):=by rw [List.getLast?_eq_getElem?,hg]
  refine Wp.opt hg (Wp.opt hg ?_)
  simp only [nO]
  refine Wp.ite (fun he=> ?_) (fun he=> ?_)
  ·refine Wp.opt (dF ⟨by omega,by omega,by omega⟩) ?_
   rw [show (0:Int).toNat=0 from rfl,Int.toNat_natCast,IL]
   unfold AD at h
   rw [if_pos (by rw [hgl,he])] at h
   exact h
  ·unfold AD at h
   rw [if_neg (by rw [hgl];intro g;exact he (Option.some.inj g))] at h
   exact h
theorem cJ_:aQ (KT ep_ 8):=bL_ (by decide) (by decide)
theorem cP_ (s:ByteArray) (f:List ByteArray) (hs:s.size≤20000→∀x∈f,x.size≤20000):
    Wp (fun k=>eZ k s f) (· =if s.size>20000 then Y9 else if f.length>400 then Y9 else m6 (WL (KT ep_ 8) f)):=by
  refine Wp.step ?_
  simp only [eZ]
  refine Wp.dec (fun h=>Wp.ret (by rw [if_pos (by omega)];rfl)) (fun h1=> ?_)
  rw [if_neg (by omega)]
  refine Wp.dec (fun h=>Wp.ret (by rw [if_pos (by omega)];rfl)) (fun h2=> ?_)
  rw [if_neg (by omega)]
  refine Wp.bind (KC _ _) (fun _ q=> ?_);subst q
  exact CR f (by omega) (hs (by omega)) f [] (KT ep_ 8) [] cJ_ rfl (Nat.zero_le _)
theorem fn_ (s:ByteArray) (f:List ByteArray) (hs:s.size≤20000→∀x∈f,x.size≤20000):
    Wp (fun k=>gV k s f) (· =if s.size>20000 then Y9 else if f.length>400 then Y9 else m6 (WL (KT ep_ 8) f)):=by
  refine Wp.step ?_
  simp only [gV]
  refine Wp.dec (fun h=>Wp.ret (by rw [if_pos (by omega)];rfl)) (fun h1=> ?_)
  rw [if_neg (by omega)]
  refine Wp.dec (fun h=>Wp.ret (by rw [if_pos (by omega)];rfl)) (fun h2=> ?_)
  rw [if_neg (by omega)]
  refine Wp.bind (IN _ _) (fun _ q=> ?_);subst q
  exact CV f (by omega) (hs (by omega)) f [] (KT ep_ 8) [] false cJ_ rfl (Nat.zero_le _) (fun x h=>by simp at h) (.inl rfl)
theorem dc_ (s:ByteArray) (c:UInt8):pcM s c≠[]:=by obtain ⟨a,b,h⟩:=cu_ s c;rw [h];simp
theorem KX (s:ByteArray) (hs:s.size≤1048576):Wp (fun k=>rR k s) (· =dj_ s):=by
  unfold rR
  have hl:=XH s 10
  refine Wp.dec (fun h=> ?_) (fun h=> ?_)
  ·refine Wp.bind (Q9 s 10 (by omega)) (fun _ q=> ?_);subst q
   refine RL (pcM s 10) (dc_ s 10) (by omega) (fun k f=>eZ k s f) _ ?_
   exact cP_ s _ (fun g x hx=>Nat.le_trans (IY hx) g)
  ·have:=cP_ s [] (fun g x hx=>by simp at hx)
   rw [if_pos (by omega)] at this
   unfold dj_
   rw [if_pos (by omega)]
   exact this
theorem LT (s:ByteArray) (hs:s.size≤1048576):Wp (fun k=>sE k s) (· =dj_ s):=by
  unfold sE
  have hl:=XH s 10
  have hsp:=fun k=>EE k s 10 (by omega)
  simp only [hsp]
  refine Wp.opt rfl ?_
  refine RL (pcM s 10) (dc_ s 10) (by omega) (fun k f=>gV k s f) _ ?_
  exact fn_ s _ (fun g x hx=>Nat.le_trans (IY hx) g)
theorem exact_FnExactSession (a:ByteArray):∃k,iK k a=some true:=by
  refine Wp.exists (f:=fun k=>iK k a) ?_
  unfold iK
  refine Wp.dec (fun h=>Wp.ret rfl) (fun h=> ?_)
  refine Wp.bind (KX a (by omega)) (fun _ q=> ?_);subst q
  refine Wp.bind (LT a (by omega)) (fun _ q=> ?_);subst q
  simp only [b9,nO]
  exact Wp.ite (fun _=>Wp.ret rfl) (fun h=>absurd trivial h)
end Km.X
