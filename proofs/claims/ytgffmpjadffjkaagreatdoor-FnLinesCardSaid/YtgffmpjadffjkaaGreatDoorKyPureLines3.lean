/- A part of the proof of FnLines: plain laws of these functions. There is no condition. -/
import Derived.Test.YtgffmpjadffjkaaGreatDoorKyPureLines2
import Derived.Test.YtgffmpjadffjkaaGreatDoorKyPureLines1
import Derived.Test.YtgffmpjadffjkaaGreatDoorKxDef3
set_option linter.unusedVariables false
set_option linter.unusedSimpArgs false
namespace Km.X
open Go Km
def LQ (b:ByteArray) (wd:Int):aC:=if (1≤wd∧wd≤8)∧b.size≤30 then ⟨b,wd,[dU_ 1,dU_ 2],[],noB,[],[]⟩ else W7
theorem IA (b:ByteArray) (wd:Int):Wp (fun k=>nG k b wd) (· =LQ b wd):=by
  unfold nG LQ
  refine Wp.bind (dM _ _ _) (fun _ e=> ?_);subst e
  refine Wp.not (fun h=> ?_) (fun h=> ?_)
  ·simp only [Bool.and_eq_false_iff,decide_eq_false_iff_not] at h
   exact Wp.ret (by rw [if_neg (fun g=>by omega)];rfl)
  simp only [Bool.and_eq_true,decide_eq_true_eq] at h
  refine Wp.dec (fun h1=>Wp.ret (by rw [if_neg (fun g=>by omega)];rfl)) (fun h1=> ?_)
  refine Wp.bind (N5 1) (fun _ e=> ?_);subst e
  refine Wp.bind (N5 2) (fun _ e=> ?_);subst e
  exact Wp.ret (by rw [if_pos ⟨h,by omega⟩])
theorem newE_V:VEnd (dU_ 1)∧VEnd (dU_ 2):=by decide
theorem bl_ {b:ByteArray} {wd:Int} (hb:b.size≤30) (hw:1≤wd∧wd≤8):aS (LQ b wd):=by
  unfold LQ
  rw [if_pos ⟨hw,hb⟩]
  exact ⟨hw,hb,by simp,by simp,HK newE_V.1 rfl newE_V.2 rfl,(fun p hp=>by cases hp),(fun p hp=>by cases hp),(fun p hp=>by cases hp)⟩
inductive Reach:Nat→Nat→aC→Prop
  | new {b:ByteArray} {wd:Int}:b.size≤30→(1≤wd∧wd≤8)→Reach 0 0 (LQ b wd)
  | step {n m:Nat} {w:aC} (v:bI):Reach n m w→Reach (n+if v.Kind=8 then 1 else 0) (m+1) (doW w v)
  | more {n m n' m':Nat} {w:aC}:n≤n'→m≤m'→Reach n m w→Reach n' m' w
theorem Reach.V {n m:Nat} {w:aC} (h:Reach n m w):aS w:=by
  induction h with
  | new h1 h2=>exact bl_ h1 h2
  | step v _ ih=>exact ev_ ih v
  | more _ _ _ ih=>exact ih
theorem Reach.go {n m:Nat} {w:aC} (h:Reach n m w) {v:bI} (hv:v.Kind≠8):Reach n (m+1) (doW w v):=by
  have:=Reach.step v h
  rw [if_neg hv] at this
  exact this
theorem pE {w:aC} (h:aS w):w.Given.length≤1048576∧w.Taken.length≤1048576:=by
  have:=h.2.2.2.1;omega
def EvP (n:Int) (v:bI×bF):Prop:=(v.1.Text.size≤190∧(1≤v.1.Kind∧v.1.Kind≤11))∧Rd n v.2
theorem hw_ (a m:Int) (r:bF) (h:Rd m r):Wp (fun k=>iX k a r.b r.p 0 0 0 0 noB) (EvP m):=by
  refine Wp.step ?_
  simp only [iX]
  exact Wp.ret ⟨⟨Nat.zero_le _,by dsimp only;omega⟩,h⟩
theorem hs_ (a m:Int) (r:bF) (h:Rd m r):Wp (fun k=>iQ k a r.b r.p 0 0 0 0 noB) (EvP m):=by
  refine Wp.step ?_
  simp only [iQ]
  exact Wp.ret ⟨⟨Nat.zero_le _,by dsimp only;omega⟩,h⟩
theorem hS_ (a e kk n m:Int) (r:bF) (h:Rd n r) (hn:n≤900000) (hm:n+2≤m):Wp (fun k=>lU k a e kk r.b r.p 0 0 0 0 noB) (EvP m):=by
  refine Wp.step ?_
  simp only [lU,kH]
  refine Wp.ite (fun _=> ?_) (fun _=> ?_)
  ·refine Wp.pick h (by omega) (by omega) (fun q r' q0 q1 h'=> ?_)
   refine Wp.pick h' (by omega) (by omega) (fun q r' q0 q1 h'=> ?_)
   exact Wp.ret ⟨⟨Nat.zero_le _,by dsimp only;omega⟩,h'.mono (by omega)⟩
  refine Wp.ite (fun _=> ?_) (fun _=> ?_)
  ·refine Wp.pick h (by omega) (by omega) (fun q r' q0 q1 h'=> ?_)
   exact Wp.ret ⟨⟨Nat.zero_le _,by dsimp only;omega⟩,h'.mono (by omega)⟩
  refine Wp.ite (fun _=> ?_) (fun _=> ?_)
  ·exact Wp.ret ⟨⟨Nat.zero_le _,by dsimp only;omega⟩,h.mono (by omega)⟩
  refine Wp.ite (fun _=> ?_) (fun _=> ?_)
  ·exact Wp.ret ⟨⟨Nat.zero_le _,by dsimp only;omega⟩,h.mono (by omega)⟩
  ·exact Wp.ret ⟨⟨Nat.zero_le _,by dsimp only;omega⟩,h.mono (by omega)⟩
theorem ev5 (a kk n m:Int) (r:bF) (h:Rd n r) (hn:0≤n∧n≤700000) (hm:n+45≤m):Wp (fun k=>j9 k kk a r.b r.p 0 0 0 0 noB) (EvP m):=by
  refine Wp.step ?_
  simp only [j9]
  refine Wp.pick h (by omega) (by omega) (fun q r1 q0 q1 h1=> ?_)
  simp only [aJ,kH]
  refine Wp.ite (fun _=> ?_) (fun _=> ?_)
  ·exact Wp.ret ⟨⟨Nat.zero_le _,by dsimp only;omega⟩,h1.mono (by omega)⟩
  refine Wp.ite (fun _=> ?_) (fun _=> ?_)
  ·exact Wp.ret ⟨⟨Nat.zero_le _,by dsimp only;omega⟩,h1.mono (by omega)⟩
  refine Wp.ite (fun _=> ?_) (fun _=> ?_)
  ·refine Wp.bind (Y6 r1 _ h1 (by omega)) (fun v hv=> ?_)
   exact Wp.ret ⟨⟨hv.1,by dsimp only;omega⟩,hv.2.mono (by omega)⟩
  refine Wp.ite (fun _=> ?_) (fun _=> ?_)
  ·exact Wp.ret ⟨⟨Nat.zero_le _,by dsimp only;omega⟩,h1.mono (by omega)⟩
  refine Wp.ite (fun _=>hw_ _ _ r1 (h1.mono (by omega))) (fun _=> ?_)
  refine Wp.ite (fun _=>hw_ _ _ r1 (h1.mono (by omega))) (fun _=> ?_)
  refine Wp.step ?_
  simp only [pK,kH]
  refine Wp.ite (fun _=>hs_ _ _ r1 (h1.mono (by omega))) (fun _=> ?_)
  refine Wp.ite (fun _=>hs_ _ _ r1 (h1.mono (by omega))) (fun _=> ?_)
  exact hS_ _ _ _ _ _ r1 h1 (by omega) (by omega)
theorem ZR (r:bF) (n:Int) (h:Rd n r) (hn:0≤n∧n≤600000):Wp (fun k=>sR k r) (EvP (n+50)):=by
  unfold sR
  refine Wp.pick h (by omega) (by omega) (fun q1 r1 q10 q11 h1=> ?_)
  refine Wp.pick h1 (by omega) (by omega) (fun q2 r2 q20 q21 h2=> ?_)
  refine Wp.pick h2 (by omega) (by omega) (fun q3 r3 q30 q31 h3=> ?_)
  simp only [kH]
  refine Wp.ite (fun _=> ?_) (fun _=> ?_)
  ·refine Wp.pick h3 (by omega) (by omega) (fun q4 r4 q40 q41 h4=> ?_)
   exact ev5 _ _ _ _ r4 h4 (by omega) (by omega)
  ·exact ev5 _ _ _ _ r3 h3 (by omega) (by omega)
section
variable (a b:ByteArray) (z:Int) (E2:List aN) (F2:List aE) (G2 T2:List aA)
end
theorem JL (b:ByteArray) (wd:Int):Wp (fun k=>nS k b wd) (· =LQ b wd):=by
  unfold nS LQ
  refine Wp.dec (fun h=>Wp.ret (by rw [if_neg (fun g=>by omega)];rfl)) (fun h1=> ?_)
  refine Wp.dec (fun h=>Wp.ret (by rw [if_neg (fun g=>by omega)];rfl)) (fun h2=> ?_)
  refine Wp.dec (fun h=>Wp.ret (by rw [if_neg (fun g=>by omega)];rfl)) (fun h3=> ?_)
  refine Wp.bind (NT 1) (fun _ e=> ?_);subst e
  refine Wp.bind (NT 2) (fun _ e=> ?_);subst e
  exact Wp.ret (by rw [if_pos ⟨by omega,by omega⟩])
set_option maxRecDepth 100000
def QK (n:Int):ByteArray:=cy_ n.toNat
def okN (n:Int):Prop:=0≤n∧n<1000000000000000000
theorem pQ {n:Int} (h:okN n):Wp (fun k=>aW k n) (· =QK n):=by
  obtain ⟨h1,h2⟩:=h
  have:=NO n.toNat (by omega)
  rw [show ((n.toNat:Nat):Int)=n by omega] at this
  exact this
theorem S4 {n:Int} (h:okN n) (k:Nat):strconv_Itoa k n=some (QK n):=by
  obtain ⟨h1,h2⟩:=h
  unfold strconv_Itoa
  rw [if_pos (by omega),show n=((n.toNat:Nat):Int) by omega,c4_]
  rfl
theorem dI {n:Int} (h:okN n):(QK n).size≤18:=RA 17 _ (by obtain ⟨h1,h2⟩:=h;omega)
theorem aK (a:Array UInt8):(⟨a⟩:ByteArray).size=a.size:=rfl
def SP (e:aN):ByteArray:=
  if e.Up=true then QK e.Life++⟨#[32]⟩++QK e.Peer++⟨#[32]⟩++QK (e.Send.Items.length:Int)++⟨#[32]⟩++QK (e.Take.Ready.length:Int) else ⟨#[100,111,119,110,32]⟩++QK e.Life
theorem QJ {e:aN} (h:VEnd e):okN e.Life∧okN e.Peer∧okN (e.Send.Items.length:Int)∧okN (e.Take.Ready.length:Int):=by
  have h1:=h.2.1;have h2:=h.2.2.1;have h3:=h.2.2.2.2.1.1;have h4:=h.2.2.2.2.2.1.2.2.2.1
  unfold okN;omega
theorem qO {e:aN} (h:VEnd e):(SP e).size≤100:=by
  obtain ⟨h1,h2,h3,h4⟩:=QJ h
  have g1:=dI h1;have g2:=dI h2;have g3:=dI h3;have g4:=dI h4
  unfold SP
  split<;>(simp only [aD,aK,List.size_toArray,List.length_cons,List.length_nil];omega)
theorem NZ {e:aN} (h:VEnd e):Wp (fun k=>uA k e) (· =SP e):=by
  obtain ⟨h1,h2,h3,h4⟩:=QJ h
  have g1:=dI h1;have g2:=dI h2;have g3:=dI h3;have g4:=dI h4
  unfold uA SP
  refine Wp.not (fun u=> ?_) (fun u=> ?_)
  ·refine Wp.bind (pQ h1) (fun _ q=> ?_);subst q
   refine Wp.opt (aP (by (simp only [aD,aK,List.size_toArray,List.length_cons,List.length_nil];omega))) (Wp.ret ?_)
   rw [if_neg (by simp [u])]
  ·rw [if_pos u]
   refine Wp.bind (pQ h1) (fun _ q=> ?_);subst q
   refine Wp.opt (aP (by (simp only [aD,aK,List.size_toArray,List.length_cons,List.length_nil];omega))) ?_
   refine Wp.bind (pQ h2) (fun _ q=> ?_);subst q
   refine Wp.opt (aP (by (simp only [aD,aK,List.size_toArray,List.length_cons,List.length_nil];omega))) ?_
   refine Wp.opt (aP (by (simp only [aD,aK,List.size_toArray,List.length_cons,List.length_nil];omega))) ?_
   refine Wp.bind (pQ h3) (fun _ q=> ?_);subst q
   refine Wp.opt (aP (by (simp only [aD,aK,List.size_toArray,List.length_cons,List.length_nil];omega))) ?_
   refine Wp.opt (aP (by (simp only [aD,aK,List.size_toArray,List.length_cons,List.length_nil];omega))) ?_
   refine Wp.bind (pQ h4) (fun _ q=> ?_);subst q
   exact Wp.opt (aP (by (simp only [aD,aK,List.size_toArray,List.length_cons,List.length_nil];omega))) (Wp.ret rfl)
theorem N7 {e:aN} (h:VEnd e):Wp (fun k=>wC k e) (· =SP e):=by
  obtain ⟨h1,h2,h3,h4⟩:=QJ h
  have g1:=dI h1;have g2:=dI h2;have g3:=dI h3;have g4:=dI h4
  unfold wC SP
  simp only [S4 h1,S4 h2,S4 h3,S4 h4]
  refine Wp.not (fun u=> ?_) (fun u=> ?_)
  ·refine Wp.opt rfl ?_
   refine Wp.opt (aP (by (simp only [aD,aK,List.size_toArray,List.length_cons,List.length_nil];omega))) (Wp.ret ?_)
   rw [if_neg (by simp [u])]
  ·rw [if_pos u]
   refine Wp.opt rfl ?_
   refine Wp.opt (aP (by (simp only [aD,aK,List.size_toArray,List.length_cons,List.length_nil];omega))) ?_
   refine Wp.opt rfl ?_
   refine Wp.opt (aP (by (simp only [aD,aK,List.size_toArray,List.length_cons,List.length_nil];omega))) ?_
   refine Wp.opt (aP (by (simp only [aD,aK,List.size_toArray,List.length_cons,List.length_nil];omega))) ?_
   refine Wp.opt rfl ?_
   refine Wp.opt (aP (by (simp only [aD,aK,List.size_toArray,List.length_cons,List.length_nil];omega))) ?_
   refine Wp.opt (aP (by (simp only [aD,aK,List.size_toArray,List.length_cons,List.length_nil];omega))) ?_
   refine Wp.opt rfl ?_
   exact Wp.opt (aP (by (simp only [aD,aK,List.size_toArray,List.length_cons,List.length_nil];omega))) (Wp.ret rfl)
def A3 (w:aC):ByteArray:=SP (eL 1 w.Ends)++⟨#[44,32]⟩++SP (eL 2 w.Ends)++(if QQ w=true then ⟨#[32,114,105,103,104,116]⟩ else ⟨#[32,119,114,111,110,103]⟩)
def PX (w:aC) (s:ByteArray):ByteArray:=if OU w then s++⟨#[32,105,100,108,101]⟩ else s
def PW (w:aC) (s:ByteArray):ByteArray:=if w.Forged=noB then s else s++⟨#[32,102,111,114,103,101,100]⟩
def DX (w:aC):ByteArray:=PW w (PX w (A3 w))
theorem HU {w:aC} (h:aS w):VEnd (eL 1 w.Ends)∧VEnd (eL 2 w.Ends)∧idx w.Ends 0=some (eL 1 w.Ends)∧idx w.Ends 1=some (eL 2 w.Ends)∧w.Ends[Int.toNat 0]? =some (eL 1 w.Ends)∧w.Ends[Int.toNat 1]? =some (eL 2 w.Ends):=by
  obtain ⟨e,f,he,h1,_,h3,_⟩:=pA h.2.2.2.2.1
  rw [he]
  exact ⟨h1,h3,rfl,rfl,rfl,rfl⟩
theorem tL {w:aC} (h:aS w):(A3 w).size≤300:=by
  have:=HU h
  have g1:=qO this.1;have g2:=qO this.2.1
  unfold A3
  split<;>(simp only [aD,aK,List.size_toArray,List.length_cons,List.length_nil];omega)
theorem ah_ {w:aC} {s:ByteArray} {n:Nat} (h:s.size≤n):(PX w s).size≤n+5:=by
  unfold PX
  split
  · (simp only [aD,aK,List.size_toArray,List.length_cons,List.length_nil];omega)
  ·omega
theorem ZM {w:aC} {s:ByteArray} {n:Nat} (h:s.size≤n):(PW w s).size≤n+7:=by
  unfold PW
  split
  ·omega
  · (simp only [aD,aK,List.size_toArray,List.length_cons,List.length_nil];omega)
theorem ag_ {w:aC} (h:aS w):(DX w).size≤400:=Nat.le_trans (ZM (ah_ (tL h))) (by decide)
theorem QW {w:aC} (h:aS w) (s:ByteArray) (hs:s.size≤1000):Wp (fun k=>lM k s w.Key w.Width w.Ends w.Flight w.Forged w.Given w.Taken) (· =PW w (PX w s)):=by
  have l9:∀s:ByteArray,Wp (fun k=>lL k s) (· =s):=fun s=>by
    refine Wp.step ?_
    simp only [lL]
    exact Wp.ret rfl
  have l7:∀s:ByteArray,s.size≤2000→Wp (fun k=>lO k s w.Key w.Width w.Ends w.Flight w.Forged w.Given w.Taken) (· =PW w s):=fun s hs=>by
    refine Wp.step ?_
    simp only [lO,cE,oA]
    unfold PW
    refine Wp.ite (fun h=> ?_) (fun h=> ?_)
    ·rw [if_pos h];exact l9 _
    ·rw [if_neg h]
     refine Wp.opt (aP (by (simp only [aD,aK,List.size_toArray,List.length_cons,List.length_nil];omega))) ?_
     exact l9 _
  refine Wp.step ?_
  simp only [lM]
  refine Wp.bind (UY w (pE h)) (fun _ q=> ?_);subst q
  refine Wp.dec (fun g=> ?_) (fun g=> ?_)
  ·refine Wp.opt (aP (by (simp only [aD,aK,List.size_toArray,List.length_cons,List.length_nil];omega))) ?_
   unfold PX;rw [if_pos g]
   exact l7 _ (by (simp only [aD,aK,List.size_toArray,List.length_cons,List.length_nil];omega))
  ·unfold PX;rw [if_neg g]
   exact l7 _ (by omega)
theorem WE {w:aC} (h:aS w):Wp (fun k=>uT k w) (· =DX w):=by
  obtain ⟨v1,v2,i1,i2,_,_⟩:=HU h
  have g1:=qO v1;have g2:=qO v2
  unfold uT
  refine Wp.opt i1 ?_
  refine Wp.bind (NZ v1) (fun _ q=> ?_);subst q
  refine Wp.opt (aP (by (simp only [aD,aK,List.size_toArray,List.length_cons,List.length_nil];omega))) ?_
  refine Wp.opt i2 ?_
  refine Wp.bind (NZ v2) (fun _ q=> ?_);subst q
  refine Wp.opt (aP (by (simp only [aD,aK,List.size_toArray,List.length_cons,List.length_nil];omega))) ?_
  refine Wp.bind (R5 w (pE h)) (fun _ q=> ?_);subst q
  refine Wp.bif (fun g=> ?_) (fun g=> ?_)
  ·refine Wp.opt (aP (by (simp only [aD,aK,List.size_toArray,List.length_cons,List.length_nil];omega))) ?_
   have:=QW h (A3 w) (Nat.le_trans (tL h) (by decide))
   unfold A3 at this;rw [if_pos g] at this
   unfold DX A3;rw [if_pos g]
   exact this
  ·refine Wp.opt (aP (by (simp only [aD,aK,List.size_toArray,List.length_cons,List.length_nil];omega))) ?_
   have:=QW h (A3 w) (Nat.le_trans (tL h) (by decide))
   unfold A3 at this;rw [if_neg (by simp [g])] at this
   unfold DX A3;rw [if_neg (by simp [g])]
   exact this
def plC (c:UInt8):Int:=if (c.toNat:Int)<32 then 63 else if (c.toNat:Int)>126 then 63 else (c.toNat:Int)
def xL (s:ByteArray):ByteArray:=mD (s.data.toList.map plC)
theorem AE (s:ByteArray):(xL s).size=s.size:=by unfold xL;rw [kZ];simp
theorem zE (s:ByteArray) (hs:s.size≤1000000):∀(t pre:List UInt8),s.data.toList=pre++t→Wp (fun k=>gT k s (pre.length:Nat) (pre.map plC)) (· =xL s)
  | [],pre,he=>by
    have hl:pre.length=s.size:=by have:=congrArg List.length he;simp at this;omega
    refine Wp.step ?_
    simp only [gT]
    rw [List.append_nil] at he
    refine Wp.dec (fun h=>by omega) (fun _=>Wp.ret (by rw [←he];rfl))
  | c::t,pre,he=>by
    have hl:pre.length<s.size:=by have:=congrArg List.length he;simp at this;omega
    have go:∀x:Int,plC c=x→Wp (fun k=>hP k s (pre.length:Nat) (pre.map plC++[x])) (· =xL s):=fun x hx=>by
      refine Wp.step ?_
      simp only [hP]
      rw [bQ (by omega) (by omega),bV pre c]
      have:=zE s hs t (pre++[c]) (by rw [he];simp)
      rw [List.map_append] at this
      rw [←hx]
      exact this
    have ha:∀x:Int,app 1 (pre.map plC) [x]=some (pre.map plC++[x]):=fun x=>bP (by simp;omega)
    refine Wp.step ?_
    simp only [gT]
    refine Wp.dec (fun _=> ?_) (fun h=>by omega)
    refine Wp.opt (iM he) ?_
    refine Wp.dec (fun h1=> ?_) (fun h1=> ?_)
    ·refine Wp.opt (ha _) (go _ (by unfold plC;rw [if_pos h1]))
    refine Wp.opt (iM he) ?_
    refine Wp.dec (fun h2=> ?_) (fun h2=> ?_)
    ·refine Wp.opt (ha _) (go _ (by unfold plC;rw [if_neg h1,if_pos h2]))
    refine Wp.opt (iM he) ?_
    refine Wp.opt (ha _) (go _ (by unfold plC;rw [if_neg h1,if_neg h2]))
theorem SG (s:ByteArray) (hs:s.size≤1000000):Wp (fun k=>w5 k s) (· =xL s):=zE s hs s.data.toList [] rfl
def bw_:ByteArray:=⟨#[99,111,100,101,32]⟩
def dX_:ByteArray:=⟨#[99,111,100,101,32,49]⟩
def NS:ByteArray:=⟨#[98,97,100]⟩
def noA:ByteArray:=⟨#[110,111]⟩
def okB:ByteArray:=⟨#[111,107]⟩
def fX_:ByteArray:=⟨#[103,111,116,32]⟩
def IP (w:aC) (n:Int):aC×ByteArray:=
  if 1≤n∧n≤2 then (if (nW (eL n w.Ends)).Code=0 then (doM w ⟨11,n,0,0,noB⟩,fX_++xL (nW (eL n w.Ends)).Text) else (w,bw_++QK (nW (eL n w.Ends)).Code)) else (w,dX_)
theorem BF {e:aN} (h:VEnd e):(0≤(nW e).Code∧(nW e).Code≤10)∧(nW e).Text.size≤200:=by
  unfold nW
  have hr:=h.2.2.2.2.2.1.2.2.2.2.1
  have:(C0 e.Take).2.1.size≤200:=by
    unfold C0
    split
    ·split
     ·exact Nat.zero_le _
     ·rename_i hq;exact hr _ (by rw [hq];simp)
    ·exact Nat.zero_le _
  have c:∀x:Int,0≤x∧x≤10→∀(a:aN) (b:List aF) (t:ByteArray),t.size≤200→(0≤(⟨x,a,b,t⟩:aY).Code∧(⟨x,a,b,t⟩:aY).Code≤10)∧(⟨x,a,b,t⟩:aY).Text.size≤200:=fun x hx a b t ht=>⟨hx,ht⟩
  rw [if_pos h]
  by_cases h1:e.Up=true
  ·rw [if_pos h1]
   by_cases h2:(C0 e.Take).2.2=true
   ·rw [if_pos h2];exact c _ (by decide) _ _ _ this
   ·rw [if_neg h2];exact c _ (by decide) _ _ _ (Nat.zero_le _)
  ·rw [if_neg h1];exact c _ (by decide) _ _ _ (Nat.zero_le _)
theorem NV {w:aC} (h:aS w) {n:Int} (hn:1≤n∧n≤2):VEnd (eL n w.Ends)∧idx w.Ends (IntKind.wrap .i64 (n-1))=some (eL n w.Ends)∧w.Ends[Int.toNat (IntKind.wrap .i64 (n-1))]? =some (eL n w.Ends):=by
  obtain ⟨v1,v2,i1,i2,j1,j2⟩:=HU h
  obtain rfl | rfl:n=1∨n=2:=by omega
  ·exact ⟨v1,i1,j1⟩
  ·exact ⟨v2,i2,j2⟩
theorem SV {w:aC} (h:aS w) (n:Int):Wp (fun k=>uP k w n) (· =IP w n):=by
  unfold uP IP
  refine Wp.dec (fun h1=>Wp.ret (by rw [if_neg (by omega)];rfl)) (fun h1=> ?_)
  refine Wp.dec (fun h2=>Wp.ret (by rw [if_neg (by omega)];rfl)) (fun h2=> ?_)
  have hn:1≤n∧n≤2:=by omega
  obtain ⟨v,i,j⟩:=NV h hn
  have sm:=BF v
  rw [if_pos hn]
  refine Wp.opt i ?_
  refine Wp.opt j ?_
  refine Wp.bind (FB _) (fun _ q=> ?_);subst q
  simp only [DD]
  refine Wp.ite (fun h3=> ?_) (fun h3=> ?_)
  ·rw [if_pos h3]
   refine Wp.bind (JV w (pE h) _) (fun _ q=> ?_);subst q
   refine Wp.bind (SG _ (by omega)) (fun _ q=> ?_);subst q
   refine Wp.opt (aP (by rw [AE];(simp only [aD,aK,List.size_toArray,List.length_cons,List.length_nil];omega))) (Wp.ret rfl)
  ·rw [if_neg h3]
   have hc:okN (nW (eL n w.Ends)).Code:=⟨by omega,by omega⟩
   have:=dI hc
   refine Wp.bind (pQ hc) (fun _ q=> ?_);subst q
   exact Wp.opt (aP (by (simp only [aD,aK,List.size_toArray,List.length_cons,List.length_nil];omega))) (Wp.ret rfl)
def RH (w:aC) (n:Int) (t:ByteArray):aC×ByteArray:=
  if 1≤n∧n≤2 then (doM w ⟨10,n,0,0,t⟩,bw_++QK (rG (eL n w.Ends) t).Code) else (w,dX_)
def IO (w:aC) (a b:List UInt8):aC×ByteArray:=
  match E4 (baL a) with
  | none=>(w,NS)
  | some n=>if b=[] then (w,NS) else RH w (n:Int) (baL b)
def sp1:List UInt8→List UInt8×List UInt8
  | []=>([],[])
  | c::t=>if c=32 then ([],t) else (c::(sp1 t).1,(sp1 t).2)
theorem XP:∀{l:List UInt8},32∉l→sp1 l=(l,[])
  | [],_=>rfl
  | c::t,h=>by
    have hc:c≠32:=fun e=>h (by simp [e])
    simp [sp1,hc,XP (l:=t) (fun g=>h (by simp [g]))]
theorem dR_:∀{a:List UInt8} (b:List UInt8),32∉a→sp1 (a++32::b)=(a,b)
  | [],b,_=>by simp [sp1]
  | c::t,b,h=>by
    have hc:c≠32:=fun e=>h (by simp [e])
    simp [sp1,hc,dR_ (a:=t) b (fun g=>h (by simp [g]))]
theorem ER {e:aN} (h:VEnd e) (t:ByteArray):0≤(rG e t).Code∧(rG e t).Code≤10:=by
  have hp:0≤(CQ e.Send t).2∧(CQ e.Send t).2≤10:=by
    unfold CQ
    have c:∀(x:aM) (n:Int),0≤n∧n≤10→0≤(x,n).2∧(x,n).2≤10:=fun _ _ h=>h
    split
    ·split
     ·exact c _ _ (by decide)
     ·exact c _ _ (by decide)
    ·exact c _ _ (by decide)
  have c:∀x:Int,0≤x∧x≤10→∀(a:aN) (b:List aF) (t:ByteArray),0≤(⟨x,a,b,t⟩:aY).Code∧(⟨x,a,b,t⟩:aY).Code≤10:=fun x hx a b t=>hx
  unfold rG
  rw [if_pos h]
  by_cases h1:e.Up=true
  ·rw [if_pos h1]
   by_cases h2:e.Peer=0
   ·rw [if_pos h2];exact c _ (by decide) _ _ _
   ·rw [if_neg h2]
    by_cases h3:(CQ e.Send t).2=0
    ·rw [if_pos h3];exact c _ (by decide) _ _ _
    ·rw [if_neg h3];exact c _ hp _ _ _
  ·rw [if_neg h1];exact c _ (by decide) _ _ _
theorem DY (s:ByteArray):(E4 s=none∧aI_ s= -1)∨∃n:Nat,E4 s=some n∧aI_ s=(n:Int)∧n<1000000:=by
  unfold aI_
  cases h:E4 s with
  | none=>exact .inl ⟨rfl,rfl⟩
  | some n=>exact .inr ⟨n,rfl,rfl,a5_ h⟩
theorem TL {w:aC} (h:aS w) (p:ByteArray) (hs:p.size≤1000000) (pre rest rest':List UInt8) (he:p.data.toList=pre++rest') (hr:rest'=32::rest∨(rest'=[]∧rest=[])):
    Wp (fun k=>(wnd p.size 0 ((pre.length:Nat):Int)).bind fun p3=>
        (gG k (p.extract p3.1 p3.2)).bind fun r4=>
        bif (decide (r4<0)) then
          some ((⟨w.Key,w.Width,w.Ends,w.Flight,w.Forged,w.Given,w.Taken⟩:aC),(⟨#[98,97,100]⟩:ByteArray))
        else
          bif (decide ((IntKind.wrap .i64 (((pre.length:Nat):Int)+1))≥(p.size:Int))) then
            some ((⟨w.Key,w.Width,w.Ends,w.Flight,w.Forged,w.Given,w.Taken⟩:aC),(⟨#[98,97,100]⟩:ByteArray))
          else
            bif (decide (r4<1)) then
              some ((⟨w.Key,w.Width,w.Ends,w.Flight,w.Forged,w.Given,w.Taken⟩:aC),(⟨#[99,111,100,101,32,49]⟩:ByteArray))
            else
              bif (decide (r4>2)) then
                some ((⟨w.Key,w.Width,w.Ends,w.Flight,w.Forged,w.Given,w.Taken⟩:aC),(⟨#[99,111,100,101,32,49]⟩:ByteArray))
              else
                (wnd p.size (IntKind.wrap .i64 (((pre.length:Nat):Int)+1)) (p.size:Int)).bind fun p5=>
                (idx w.Ends (IntKind.wrap .i64 (r4-1))).bind fun _=>
                (w.Ends[(Int.toNat (IntKind.wrap .i64 (r4-1)))]?).bind fun y6=>
                (jR k y6 (p.extract p5.1 p5.2)).bind fun r7=>
                (uU k (⟨w.Key,w.Width,w.Ends,w.Flight,w.Forged,w.Given,w.Taken⟩:aC) (⟨10,r4,0,0,(p.extract p5.1 p5.2)⟩:bI)).bind fun r8=>
                (aW k r7.Code).bind fun r9=>
                (dK (⟨#[99,111,100,101,32]⟩:ByteArray) r9).bind fun t10=>
                some (r8,t10)) (· =IO w pre rest):=by
  have hl:p.size=pre.length+rest'.length:=by have:=congrArg List.length he;simpa using this
  have hl':rest'.length=0∧rest.length=0∨rest'.length=rest.length+1:=by
    rcases hr with rfl | ⟨rfl,rfl⟩
    ·exact .inr (by simp)
    ·exact .inl (by simp)
  have e0:p.extract 0 pre.length=baL pre:=by
    have:=H9 (s:=p) (a:=[]) (b:=pre) (r:=rest') (by rw [he];rfl)
    simpa using this
  refine Wp.opt (bX ⟨by omega,by omega,by omega⟩) ?_
  rw [Int.toNat_natCast,show (0:Int).toNat=0 from rfl,e0]
  refine Wp.bind (uO _) (fun _ q=> ?_);subst q
  unfold IO
  rcases DY (baL pre) with ⟨e1,e2⟩ | ⟨n,e1,e2,e3⟩
  ·rw [e1,e2]
   exact Wp.ret rfl
  ·rw [e1,e2]
   dsimp only
   refine Wp.dec (fun g=>by omega) (fun _=> ?_)
   rw [bQ (by omega) (by omega)]
   refine Wp.dec (fun g=>Wp.ret ?_) (fun g=> ?_)
   ·have hz:rest=[]:=List.eq_nil_of_length_eq_zero (by have g':((p.size:Nat):Int)≤((pre.length:Nat):Int)+1:=g;omega)
    rw [if_pos hz]
    rfl
   ·have hne:rest≠[]:=fun e=>by subst e;simp only [List.length_nil] at hl';omega
    rw [if_neg hne]
    have hr':rest'=32::rest:=by
      rcases hr with hr | hr
      ·exact hr
      ·exact absurd hr.2 hne
    unfold RH
    refine Wp.dec (fun g1=>Wp.ret (by rw [if_neg (by omega)];rfl)) (fun g1=> ?_)
    refine Wp.dec (fun g2=>Wp.ret (by rw [if_neg (by omega)];rfl)) (fun g2=> ?_)
    have hn:1≤(n:Int)∧(n:Int)≤2:=by omega
    rw [if_pos hn]
    obtain ⟨v,i,j⟩:=NV h hn
    refine Wp.opt (bX ⟨by omega,by omega,by omega⟩) ?_
    have e5:p.extract (((pre.length:Nat):Int)+1).toNat ((p.size:Nat):Int).toNat=baL rest:=by
      have:=H9 (s:=p) (a:=pre++[32]) (b:=rest) (r:=[]) (by rw [he,hr'];simp)
      rw [←this]
      congr 1
      ·simp
       try omega
      ·rw [hr'] at hl;simp at hl⊢;omega
    rw [e5]
    refine Wp.opt i ?_
    refine Wp.opt j ?_
    refine Wp.bind (F0 _ _) (fun _ q=> ?_);subst q
    refine Wp.bind (JV w (pE h) _) (fun _ q=> ?_);subst q
    have hc:=ER v (baL rest)
    have ok:okN (rG (eL (n:Int) w.Ends) (baL rest)).Code:=⟨by omega,by omega⟩
    have:=dI ok
    refine Wp.bind (pQ ok) (fun _ q=> ?_);subst q
    exact Wp.opt (aP (by (simp only [aD,aK,List.size_toArray,List.length_cons,List.length_nil];omega))) (Wp.ret rfl)
theorem CY {w:aC} (h:aS w) (p:ByteArray) (hs:p.size≤1000000) (b1 b2:ByteArray) (i1:Int) (z1:List aN) (z2:List aE) (z3 z4:List aA):∀(t pre:List UInt8),p.data.toList=pre++t→
    Wp (fun k=>jD k p (pre.length:Nat) w.Key w.Width w.Forged b1 i1 b2 w.Ends w.Flight w.Given w.Taken z1 z2 z3 z4) (· =IO w (pre++(sp1 t).1) (sp1 t).2)
  | [],pre,he=>by
    have hl:pre.length=p.size:=by have:=congrArg List.length he;simp at this;omega
    refine Wp.step ?_
    simp only [jD]
    refine Wp.dec (fun h=>by omega) (fun _=> ?_)
    have:=TL h p hs pre [] [] he (.inr ⟨rfl,rfl⟩)
    rw [show pre++(sp1 []).1=pre by simp [sp1]]
    exact this
  | c::t,pre,he=>by
    have hl:pre.length<p.size:=by have:=congrArg List.length he;simp at this;omega
    refine Wp.step ?_
    simp only [jD]
    refine Wp.dec (fun _=> ?_) (fun h=>by omega)
    refine Wp.opt (iM he) ?_
    by_cases hc:c=32
    ·subst hc
     rw [show sp1 (32::t)=([],t) by simp [sp1],List.append_nil]
     have:=TL h p hs pre t _ he (.inl rfl)
     exact this
    ·have hne:((c.toNat:Int) !=32)=true:=by
       simp only [bne_iff_ne,ne_eq]
       intro e
       exact hc (UInt8.toNat_inj.mp (by show c.toNat=32;omega))
     simp only [hne,cond_true]
     rw [bQ (by omega) (by omega),bV pre c]
     have:=CY h p hs b1 b2 i1 z1 z2 z3 z4 t (pre++[c]) (by rw [he];simp)
     simp only [sp1,if_neg hc]
     simpa using this
theorem TE {w:aC} (h:aS w) (s:ByteArray) (hs:s.size≤1000000) (q:List UInt8) (he:s.data.toList=[112,117,115,104,32]++q):Wp (fun k=>u6 k w s) (· =IO w (sp1 q).1 (sp1 q).2):=by
  have hl:s.size=5+q.length:=by have:=congrArg List.length he;simp at this;omega
  unfold u6
  refine Wp.opt (bX ⟨by omega,by omega,by omega⟩) ?_
  have e:s.extract (5:Int).toNat ((s.size:Nat):Int).toNat=baL q:=by
    have:=H9 (s:=s) (a:=[112,117,115,104,32]) (b:=q) (r:=[]) (by rw [he];simp)
    rw [←this,Int.toNat_natCast,hl]
    rfl
  rw [e]
  have hq:(baL q).size=q.length:=by simp [baL,ByteArray.size]
  have:=CY h (baL q) (by omega) noB noB 0 [] [] [] [] q [] (by simp [baL])
  exact this
theorem YB (q:List UInt8):(baL q).size=q.length:=by simp [baL,ByteArray.size]
theorem eD_ {q:List UInt8}:baL q=(⟨#[]⟩:ByteArray)↔q=[]:=by
  constructor
  ·intro h
   have:=congrArg ByteArray.size h
   rw [YB] at this
   exact List.eq_nil_of_length_eq_zero this
  ·intro h;subst h;rfl
theorem O3 (k:Nat) (s:ByteArray) (hs:s.size≤1000000) (q:List UInt8) (he:s.data.toList=[112,117,115,104,32]++q):
    strings_SplitN k s ⟨#[32]⟩ 3=some ((if 32∈q then [[112,117,115,104],(sp1 q).1,(sp1 q).2] else [[112,117,115,104],q]).map baL):=by
  have hl:s.size=5+q.length:=by have:=congrArg List.length he;simp at this;omega
  unfold strings_SplitN
  rw [if_pos ⟨by omega,Nat.le_refl 1,by omega,by omega⟩,I3,he,show min (3:Int).toNat (s.size+1)-1=1+1 by show min 3 _-1=_;omega,
   show [112,117,115,104,32]++q=[112,117,115,104]++32::q from rfl,D9 1 (by decide)]
  by_cases h:32∈q
  ·obtain ⟨a,b,rfl,ha⟩:=DN h
   rw [if_pos h,D9 0 ha,dR_ b ha]
   rfl
  ·rw [if_neg h,J3 1 h]
theorem EC (s:ByteArray):(E4 s=none∧aO_ s=(0,false))∨∃n:Nat,E4 s=some n∧aO_ s=((n:Int),true)∧n<1000000:=by
  unfold aO_
  cases h:E4 s with
  | none=>exact .inl ⟨rfl,rfl⟩
  | some n=>exact .inr ⟨n,rfl,rfl,a5_ h⟩
def vA:List ByteArray→Option (List Int)
  | []=>some []
  | s::t=>match E4 s with | none=>none | some n=>(vA t).map fun l=>(n:Int)::l
theorem SI:∀{t:List ByteArray} {l:List Int},vA t=some l→l.length=t.length
  | [],l,h=>by cases h;rfl
  | s::t,l,h=>by
    unfold vA at h
    cases hn:E4 s with
    | none=>rw [hn] at h;cases h
    | some n=>
      rw [hn] at h
      cases ht:vA t with
      | none=>rw [ht] at h;cases h
      | some r=>rw [ht] at h;cases h;simp [SI ht]
theorem SS {s:ByteArray}:∀{t:List ByteArray},s∈t→E4 s=none→vA t=none
  | x::t,h,hn=>by
    unfold vA
    rcases List.mem_cons.mp h with rfl | h
    ·rw [hn]
    ·cases E4 x with
     | none=>rfl
     | some n=>rw [SS h hn];rfl
theorem vL (f:List ByteArray) (hf:f.length≤1000000):∀(t pre:List ByteArray) (acc:List Int),f=pre++t→acc.length≤pre.length→
    Wp (fun k=>eV k f (pre.length:Nat) acc) (fun r=>match vA t with | none=>r.2=false | some l=>r=(acc++l,true))
  | [],pre,acc,he,ha=>by
    have hl:pre.length=f.length:=by rw [he];simp
    refine Wp.step ?_
    simp only [eV]
    refine Wp.dec (fun h=>by omega) (fun _=>Wp.ret ?_)
    show (acc,true)=(acc++[],true)
    rw [List.append_nil]
  | x::t,pre,acc,he,ha=>by
    have hl:pre.length<f.length:=by rw [he];simp
    refine Wp.step ?_
    simp only [eV]
    refine Wp.dec (fun _=> ?_) (fun h=>by omega)
    refine Wp.opt (x:=x) (by rw [he];exact bK) ?_
    refine Wp.bind (uO x) (fun _ q=> ?_);subst q
    rcases DY x with ⟨e1,e2⟩ | ⟨n,e1,e2,e3⟩
    ·refine Wp.dec (fun _=>Wp.ret ?_) (fun h=>by omega)
     simp only [vA,e1]
    ·refine Wp.dec (fun h=>by omega) (fun _=> ?_)
     rw [e2]
     refine Wp.opt (bP (by simp;omega)) ?_
     rw [bQ (by omega) (by omega),bV pre x]
     refine Wp.mono (vL f hf t (pre++[x]) (acc++[(n:Int)]) (by rw [he];simp) (by simp;omega)) (fun r h=> ?_)
     simp only [vA,e1]
     cases ht:vA t with
     | none=>rw [ht] at h;exact h
     | some l=>rw [ht] at h;dsimp only at h;simp only [Option.map_some];rw [h];simp
theorem LV (f:List ByteArray) (hf:f.length≤1000000):Wp (fun k=>tA k f) (fun r=>match vA f with | none=>r.2=false | some l=>r=(l,true)):=
  vL f hf f [] [] rfl (Nat.le_refl _)
def lA:ByteArray:=⟨#[115,104,111,119]⟩
def vS:ByteArray:=⟨#[119,111,114,108,100]⟩
def TV:ByteArray:=⟨#[112,117,108,108]⟩
def VP:ByteArray:=⟨#[99,97,108,109]⟩
def doL (w:aC) (kd:Int) (ns:List Int):aC×ByteArray:=
  (doM w ⟨kd,(ns++[0,0,0]).getD 0 0,(ns++[0,0,0]).getD 1 0,(ns++[0,0,0]).getD 2 0,noB⟩,QK ((doM w ⟨kd,(ns++[0,0,0]).getD 0 0,(ns++[0,0,0]).getD 1 0,(ns++[0,0,0]).getD 2 0,noB⟩).Flight.length:Int))
def am_ (w:aC) (a b:Int):aC×ByteArray:=if a>200∨b<1∨b>10 then (w,noA) else (RP w a b,QK ((RP w a b).Flight.length:Int))
def TZ (w:aC) (f0:ByteArray) (ns:List Int):aC×ByteArray:=
  match jP f0 impl_kinds with
  | none=>(w,NS)
  | some p=>if (ns.length:Int)=p.2 then doL w p.1 ns else (w,NS)
def cl2 (w:aC) (f0:ByteArray) (ns:List Int):aC×ByteArray:=if f0=VP∧ns.length=2 then am_ w (ns.getD 0 0) (ns.getD 1 0) else TZ w f0 ns
def RE (w:aC) (f0:ByteArray) (ns:List Int):aC×ByteArray:=if f0=TV∧ns.length=1 then IP w (ns.getD 0 0) else cl2 w f0 ns
theorem TM {α:Type} (d:α) {l:List α} (i:Nat) (h:i<l.length):idx l (i:Int)=some (l.getD i d)∧l[Int.toNat (i:Int)]? =some (l.getD i d):=by
  rw [kB,Int.toNat_natCast,List.getD_eq_getElem?_getD,List.getElem?_eq_getElem h]
  exact ⟨rfl,rfl⟩
theorem uD {w:aC} (h:aS w):okN (w.Flight.length:Int):=by
  have:=h.2.2.1
  unfold okN;omega
theorem ssf {t s:ByteArray} {p:Int×Int} {l:List (ByteArray×Int×Int)}:jP s ((t,p)::l)=if s=t then some p else jP s l:=by
  show (match t.toList==s.toList with | true=>some p | false=>jP s l)=_
  rw [dE_]
  by_cases h:s=t
  ·subst h;simp
  ·rw [decide_eq_false (fun g=>h g.symm),if_neg h]
theorem U2 (s:ByteArray):Wp (fun k=>uG k s) (· =(jP s impl_kinds).getD (0,0)):=by
  unfold uG impl_kinds
  simp only [oA,ssf]
  refine Wp.ite (fun h=>Wp.ret (by rw [if_pos h];rfl)) (fun h=> ?_);rw [if_neg h]
  refine Wp.ite (fun h=>Wp.ret (by rw [if_pos h];rfl)) (fun h=> ?_);rw [if_neg h]
  refine Wp.ite (fun h=>Wp.ret (by rw [if_pos h];rfl)) (fun h=> ?_);rw [if_neg h]
  refine Wp.ite (fun h=>Wp.ret (by rw [if_pos h];rfl)) (fun h=> ?_);rw [if_neg h]
  refine Wp.ite (fun h=>Wp.ret (by rw [if_pos h];rfl)) (fun h=> ?_);rw [if_neg h]
  refine Wp.ite (fun h=>Wp.ret (by rw [if_pos h];rfl)) (fun h=> ?_);rw [if_neg h]
  refine Wp.ite (fun h=>Wp.ret (by rw [if_pos h];rfl)) (fun h=> ?_);rw [if_neg h]
  refine Wp.ite (fun h=>Wp.ret (by rw [if_pos h];rfl)) (fun h=> ?_);rw [if_neg h]
  refine Wp.ite (fun h=>Wp.ret (by rw [if_pos h];rfl)) (fun h=> ?_);rw [if_neg h]
  exact Wp.ret rfl
theorem SK {s:ByteArray} {p:Int×Int}:∀{l:List (ByteArray×Int×Int)},jP s l=some p→(s,p)∈l
  | (t,q)::l,h=>by
    rw [ssf] at h
    split at h
    ·rename_i e;subst e;cases h;simp
    ·exact List.mem_cons_of_mem _ (SK h)
theorem KV {s:ByteArray} {p:Int×Int} (h:jP s impl_kinds=some p):1≤p.1∧s≠TV∧s≠VP∧s≠lA∧s≠vS∧s≠(⟨#[]⟩:ByteArray):=by
  have:=SK h
  have all:∀e∈impl_kinds,1≤e.2.1∧e.1≠TV∧e.1≠VP∧e.1≠lA∧e.1≠vS∧e.1≠(⟨#[]⟩:ByteArray):=by
    unfold impl_kinds
    decide
  exact all _ this
section
variable {w:aC} (hV:aS w) (b1 b2:ByteArray) (i1:Int) (z1:List aN) (z2:List aE) (z3 z4:List aA) (f0:ByteArray) (ft:List ByteArray) (ns:List Int)
include hV
theorem b3_ (hn:ns.length≤1000000):Wp (fun k=>jT k w.Key w.Width w.Forged b1 i1 b2 (f0::ft) ns w.Ends w.Flight w.Given w.Taken z1 z2 z3 z4) (· =TZ w f0 ns):=by
  refine Wp.step ?_
  simp only [jT]
  refine Wp.opt (x:=f0) rfl ?_
  refine Wp.opt (x:=f0) rfl ?_
  refine Wp.bind (U2 f0) (fun _ q=> ?_);subst q
  unfold TZ
  cases hk:jP f0 impl_kinds with
  | none=>exact Wp.ret rfl
  | some p=>
    have hp:=KV hk
    simp only [Option.getD_some,kH,DD]
    refine Wp.ite (fun h=>by omega) (fun _=> ?_)
    refine Wp.ite (fun h=> ?_) (fun h=>Wp.ret (by rw [if_neg h];rfl))
    rw [if_pos h]
    refine Wp.opt (bP (by simp;omega)) ?_
    simp only [mZ]
    have len:(ns++[0,0,0]).length=ns.length+3:=by simp
    refine Wp.opt (TM (0:Int) (l:=ns++[0,0,0]) 0 (by omega)).1 ?_
    refine Wp.opt (TM (0:Int) (l:=ns++[0,0,0]) 0 (by omega)).2 ?_
    refine Wp.opt (TM (0:Int) (l:=ns++[0,0,0]) 1 (by omega)).1 ?_
    refine Wp.opt (TM (0:Int) (l:=ns++[0,0,0]) 1 (by omega)).2 ?_
    refine Wp.opt (TM (0:Int) (l:=ns++[0,0,0]) 2 (by omega)).1 ?_
    refine Wp.opt (TM (0:Int) (l:=ns++[0,0,0]) 2 (by omega)).2 ?_
    refine Wp.bind (JV w (pE hV) _) (fun _ q=> ?_);subst q
    unfold iK
    refine Wp.bind (P:=(· =QK _)) (Wp.bind (pQ (uD (Y4 hV _))) (fun _ q=>Wp.ret q)) (fun _ q=> ?_);subst q
    exact Wp.ret rfl
theorem br_ (hn:ns.length≤1000000):Wp (fun k=>j8 k w.Key w.Width w.Forged b1 i1 b2 (f0::ft) ns w.Ends w.Flight w.Given w.Taken z1 z2 z3 z4) (· =cl2 w f0 ns):=by
  refine Wp.step ?_
  simp only [j8]
  refine Wp.opt (x:=f0) rfl ?_
  refine Wp.opt (x:=f0) rfl ?_
  simp only [oA,kH]
  unfold cl2
  refine Wp.ite (fun h1=> ?_) (fun h1=> ?_)
  ·refine Wp.ite (fun h2=> ?_) (fun h2=> ?_)
   ·rw [if_pos ⟨h1,by omega⟩]
    have o0:=TM (0:Int) (l:=ns) 0 (by omega)
    have o1:=TM (0:Int) (l:=ns) 1 (by omega)
    unfold am_
    refine Wp.opt o0.1 (Wp.opt o0.2 ?_)
    refine Wp.dec (fun h=>Wp.ret (by rw [if_pos (by omega)];rfl)) (fun h3=> ?_)
    refine Wp.opt o1.1 (Wp.opt o1.2 ?_)
    refine Wp.dec (fun h=>Wp.ret (by rw [if_pos (by omega)];rfl)) (fun h4=> ?_)
    refine Wp.opt o1.1 (Wp.opt o1.2 ?_)
    refine Wp.dec (fun h=>Wp.ret (by rw [if_pos (by omega)];rfl)) (fun h5=> ?_)
    rw [if_neg (by omega)]
    simp only [mZ]
    refine Wp.opt o0.1 (Wp.opt o0.2 ?_)
    refine Wp.opt o1.1 (Wp.opt o1.2 ?_)
    refine Wp.bind (VH w (pE hV) _ _) (fun _ q=> ?_);subst q
    unfold iK
    refine Wp.bind (P:=(· =QK _)) (Wp.bind (pQ (uD (WR hV ⟨by omega,by omega⟩))) (fun _ q=>Wp.ret q)) (fun _ q=> ?_);subst q
    exact Wp.ret rfl
   ·rw [if_neg (fun g=>h2 (by omega))]
    exact b3_ hV b1 b2 i1 z1 z2 z3 z4 f0 ft ns hn
  ·rw [if_neg (fun g=>h1 g.1)]
   exact b3_ hV b1 b2 i1 z1 z2 z3 z4 f0 ft ns hn
def LS (w:aC) (f0:ByteArray) (ft:List ByteArray):aC×ByteArray:=match vA ft with | none=>(w,NS) | some ns=>RE w f0 ns
theorem bZ_ (hn:ft.length≤100000):Wp (fun k=>eY k w.Key w.Width w.Forged b1 i1 b2 (f0::ft) w.Ends w.Flight w.Given w.Taken z1 z2 z3 z4) (· =LS w f0 ft):=by
  refine Wp.step ?_
  simp only [eY]
  refine Wp.opt (bX ⟨by omega,by simp;omega,by omega⟩) ?_
  rw [show iA (f0::ft) (1:Int).toNat (((f0::ft).length:Nat):Int).toNat=ft by rw [Int.toNat_natCast,xH];rfl]
  refine Wp.bind (LV ft (by omega)) (fun r q=> ?_)
  unfold LS
  cases hm:vA ft with
  | none=>
    rw [hm] at q;dsimp only at q
    refine Wp.not (fun h=>Wp.ret rfl) (fun h=>by rw [q] at h;cases h)
  | some ns=>
    rw [hm] at q;dsimp only at q;subst q
    have hl:=SI hm
    refine Wp.not (fun h=>by cases h) (fun _=> ?_)
    dsimp only
    refine Wp.opt (x:=f0) rfl ?_
    refine Wp.opt (x:=f0) rfl ?_
    simp only [oA,kH]
    unfold RE
    refine Wp.ite (fun h1=> ?_) (fun h1=> ?_)
    ·refine Wp.ite (fun h2=> ?_) (fun h2=> ?_)
     ·rw [if_pos ⟨h1,by omega⟩]
      have o0:=TM (0:Int) (l:=ns) 0 (by omega)
      refine Wp.opt o0.1 (Wp.opt o0.2 ?_)
      refine Wp.bind (SV hV _) (fun _ q=> ?_);subst q
      exact Wp.ret rfl
     ·rw [if_neg (fun g=>h2 (by omega))]
      exact br_ hV b1 b2 i1 z1 z2 z3 z4 f0 ft ns (by omega)
    ·rw [if_neg (fun g=>h1 g.1)]
     exact br_ hV b1 b2 i1 z1 z2 z3 z4 f0 ft ns (by omega)
end
def zQ (w:aC) (ft:List ByteArray):aC×ByteArray:=
  match ft with
  | [a,b]=>if a=noB then (w,NS) else (match E4 b with | none=>(w,NS) | some n=>if (LQ a (n:Int)).Width=0 then (w,noA) else (LQ a (n:Int),okB))
  | _=>(w,NS)
def wD (w:aC) (f0:ByteArray) (ft:List ByteArray):aC×ByteArray:=if f0=vS then zQ w ft else LS w f0 ft
def JM (w:aC) (s:ByteArray):aC×ByteArray:=
  if s=lA then (w,DX w) else match pcM s 32 with | []=>(w,NS) | f0::ft=>wD w f0 ft
def pushB:List UInt8:=[112,117,115,104,32]
def nX (w:aC) (s:ByteArray):aC×ByteArray:=
  if s.data.toList.take 5=pushB then IO w (sp1 (s.data.toList.drop 5)).1 (sp1 (s.data.toList.drop 5)).2 else JM w s
theorem c5_ {s:ByteArray} (h:s=TV∨s=VP∨s=lA∨s=vS∨s=(⟨#[]⟩:ByteArray)):jP s impl_kinds=none:=by
  cases hk:jP s impl_kinds with
  | none=>rfl
  | some p=>
    obtain ⟨_,h1,h2,h3,h4,h5⟩:=KV hk
    rcases h with h | h | h | h | h
    ·exact absurd h h1
    ·exact absurd h h2
    ·exact absurd h h3
    ·exact absurd h h4
    ·exact absurd h h5
theorem eq_ {w:aC} {s:ByteArray} (h:s=lA∨s=vS∨s=(⟨#[]⟩:ByteArray)) (ns:List Int):RE w s ns=(w,NS):=by
  have hk:jP s impl_kinds=none:=c5_ (by rcases h with h | h | h<;>simp [h])
  have h1:s≠TV:=by rcases h with rfl | rfl | rfl<;>decide
  have h2:s≠VP:=by rcases h with rfl | rfl | rfl<;>decide
  unfold RE
  rw [if_neg (fun g=>h1 g.1)]
  unfold cl2
  rw [if_neg (fun g=>h2 g.1)]
  unfold TZ
  rw [hk]
theorem cr_ {w:aC} {s:ByteArray} (h:s=lA∨s=vS∨s=(⟨#[]⟩:ByteArray)) (ft:List ByteArray):LS w s ft=(w,NS):=by
  unfold LS
  cases vA ft with
  | none=>rfl
  | some ns=>exact eq_ h ns
theorem XZ (s:ByteArray) (c:UInt8):(pcM s c).length≤s.size+1:=by
  have:=N4 c s.data.toList
  rw [FE] at this
  unfold pcM
  rw [List.length_map]
  exact this
theorem du_ (s:ByteArray) (c:UInt8):∃f0 ft,pcM s c=f0::ft:=by
  unfold pcM
  cases h:pcL c s.data.toList with
  | nil=>exact absurd h (XI c _)
  | cons a b=>exact ⟨_,_,rfl⟩
theorem TC (b:ByteArray) (n:Int):((LQ b n).Ends.length:Int)=0↔(LQ b n).Width=0:=by
  unfold LQ
  split
  ·rename_i h
   constructor
   ·intro g;simp at g
   ·intro g;dsimp only at g;omega
  ·exact ⟨fun _=>rfl,fun _=>rfl⟩
theorem DO {s:ByteArray} (h:s.data.toList.take 5=pushB):s.data.toList=pushB++s.data.toList.drop 5∧5≤s.size:=by
  refine ⟨?_, ?_⟩
  ·rw [←h,List.take_append_drop]
  ·have:=congrArg List.length h
   rw [List.length_take,FE] at this
   have e:pushB.length=5:=rfl
   omega
section
variable {w:aC} (hV:aS w) (b1 b2:ByteArray) (i1:Int) (z1:List aN) (z2:List aE) (z3 z4:List aA)
include hV
theorem dG_ (s:ByteArray) (hs:s.size≤50000):Wp (fun k=>lR k s w.Key w.Width w.Forged b1 i1 b2 w.Ends w.Flight w.Given w.Taken z1 z2 z3 z4) (· =JM w s):=by
  refine Wp.step ?_
  simp only [lR]
  refine Wp.bind (RN s 32 (by omega)) (fun _ q=> ?_);subst q
  have hl:=XZ s 32
  unfold JM
  simp only [oA]
  refine Wp.ite (fun h=> ?_) (fun h=> ?_)
  ·rw [if_pos (show s=lA from h)]
   refine Wp.bind (WE hV) (fun _ q=> ?_);subst q
   exact Wp.ret rfl
  rw [if_neg (show¬s=lA from h)]
  obtain ⟨f0,ft,hf⟩:=du_ s 32
  rw [hf] at hl⊢
  rw [List.length_cons] at hl
  dsimp only
  unfold wD
  refine Wp.opt (x:=f0) rfl ?_
  refine Wp.opt (x:=f0) rfl ?_
  have go:f0=vS→zQ w ft=(w,NS)→Wp (fun k=>eY k w.Key w.Width w.Forged b1 i1 b2 (f0::ft) w.Ends w.Flight w.Given w.Taken z1 z2 z3 z4) (· =zQ w ft):=fun e e'=>by
    have:=bZ_ hV b1 b2 i1 z1 z2 z3 z4 f0 ft (by omega)
    rw [cr_ (.inr (.inl e)),←e'] at this
    exact this
  refine Wp.ite (fun h1=> ?_) (fun h1=> ?_)
  ·have h1':f0=vS:=h1
   rw [if_pos h1']
   simp only [kH]
   refine Wp.ite (fun h2=> ?_) (fun h2=> ?_)
   ·obtain ⟨a,b,rfl⟩:∃a b,ft=[a,b]:=by
      match ft,h2 with
      | [a,b],_=>exact ⟨a,b,rfl⟩
      | [],h2=>simp at h2
      | [a],h2=>simp at h2
      | a::b::c::d,h2=>simp at h2;omega
    refine Wp.opt (x:=a) rfl ?_
    refine Wp.opt (x:=a) rfl ?_
    simp only [cE,oA]
    refine Wp.ite (fun h3=> ?_) (fun h3=> ?_)
    ·exact go h1' (if_pos h3)
    ·refine Wp.opt (x:=b) rfl ?_
     refine Wp.opt (x:=b) rfl ?_
     unfold zQ
     dsimp only
     rw [if_neg (show¬a=noB from h3)]
     refine Wp.bind (uO b) (fun _ q=> ?_);subst q
     rcases DY b with ⟨e1,e2⟩ | ⟨n,e1,e2,e3⟩
     ·rw [e1,e2]
      exact Wp.ret rfl
     ·rw [e1,e2]
      dsimp only
      refine Wp.dec (fun h=>by omega) (fun _=> ?_)
      refine Wp.opt (x:=a) rfl ?_
      refine Wp.opt (x:=a) rfl ?_
      refine Wp.bind (IA a _) (fun _ q=> ?_);subst q
      refine Wp.ite (fun h4=>Wp.ret ?_) (fun h4=>Wp.ret ?_)
      ·rw [if_pos ((TC _ _).mp h4)];rfl
      ·rw [if_neg (fun g=>h4 ((TC _ _).mpr g))];rfl
   ·refine go h1' ?_
    unfold zQ
    split
    ·exact absurd rfl h2
    ·rfl
  ·rw [if_neg (show¬f0=vS from h1)]
   exact bZ_ hV b1 b2 i1 z1 z2 z3 z4 f0 ft (by omega)
theorem VB (s:ByteArray) (hs:s.size≤50000):Wp (fun k=>qQ k w s) (· =nX w s):=by
  unfold qQ nX
  refine Wp.dec (fun h=> ?_) (fun h=> ?_)
  ·refine Wp.opt (bX ⟨by omega,by omega,by omega⟩) ?_
   simp only [oA]
   have e:s.extract (0:Int).toNat (5:Int).toNat=(⟨#[112,117,115,104,32]⟩:ByteArray)↔s.data.toList.take 5=pushB:=by
     have e':(s.extract (0:Int).toNat (5:Int).toNat).data.toList=s.data.toList.take 5:=by
       simp only [ByteArray.data_extract,Array.toList_extract]
       rw [List.extract_eq_take_drop]
       rfl
     constructor
     ·intro g;rw [←e',g];rfl
     ·intro g
      apply ByteArray.ext
      apply Array.toList_inj.mp
      rw [e',g];rfl
   refine Wp.ite (fun g=> ?_) (fun g=> ?_)
   ·rw [if_pos (e.mp g)]
    refine Wp.bind (TE hV s (by omega) _ (DO (e.mp g)).1) (fun _ q=> ?_);subst q
    exact Wp.ret rfl
   ·rw [if_neg (fun g'=>g (e.mpr g'))]
    exact dG_ hV _ _ _ _ _ _ _ s hs
  ·have:=dG_ hV (⟨#[]⟩:ByteArray) (⟨#[]⟩:ByteArray) 0 [] [] [] [] s hs
   by_cases g:s.data.toList.take 5=pushB
   ·rw [if_pos g]
    obtain ⟨g1,g2⟩:=DO g
    have hd:s.data.toList.drop 5=[]:=List.eq_nil_of_length_eq_zero (by rw [List.length_drop,FE];omega)
    have hs':s=⟨#[112,117,115,104,32]⟩:=by
      apply ByteArray.ext
      apply Array.toList_inj.mp
      rw [g1,hd];rfl
    have e1:JM w s=(w,NS):=by
      subst hs'
      unfold JM
      rw [if_neg (by decide),show pcM (⟨#[112,117,115,104,32]⟩:ByteArray) 32=[⟨#[112,117,115,104]⟩,⟨#[]⟩] from rfl]
      dsimp only
      unfold wD
      rw [if_neg (by decide)]
      rfl
    have e2:IO w (sp1 (s.data.toList.drop 5)).1 (sp1 (s.data.toList.drop 5)).2=(w,NS):=by rw [hd];rfl
    rw [e2,←e1]
    exact this
   ·rw [if_neg g]
    exact this
end
def cI (c:UInt8):Int:=(c.toNat:Int)
theorem OG (s:ByteArray):bC s=s.data.toList.map cI:=rfl
theorem dg_ {w:aC} (hV:aS w) {n:Int} (hn:1≤n∧n≤2) (h:¬(nW (eL n w.Ends)).Code=0):doM w ⟨11,n,0,0,noB⟩=w:=by
  unfold doM
  rw [if_pos hV]
  simp [doW,BX,LL,h,hn]
section
variable {w:aC} (hV:aS w) (b1 b2:ByteArray) (i1:Int) (z1:List aN) (z2:List aE) (z3 z4:List aA)
theorem a4_ (s:ByteArray) (hs:s.size≤1000000):∀(t pre:List UInt8),s.data.toList=pre++t→
    Wp (fun k=>iH k (s.size:Nat) (pre.length:Nat) w.Key w.Width w.Forged b1 i1 b2 (pre.map plC++t.map cI) w.Ends w.Flight w.Given w.Taken z1 z2 z3 z4) (· =(w,fX_++xL s))
  | [],pre,he=>by
    have hl:pre.length=s.size:=by have:=congrArg List.length he;simp at this;omega
    refine Wp.step ?_
    simp only [iH]
    refine Wp.dec (fun h=>by omega) (fun _=> ?_)
    have e:mD (pre.map plC++[].map cI)=xL s:=by unfold xL;rw [he];simp
    rw [e]
    refine Wp.opt (aP (by rw [AE];(simp only [aD,aK,List.size_toArray,List.length_cons,List.length_nil];omega))) (Wp.ret rfl)
  | c::t,pre,he=>by
    have hl:pre.length<s.size:=by have:=congrArg List.length he;simp at this;omega
    have go:∀x:Int,plC c=x→Wp (fun k=>kU k (s.size:Nat) (pre.length:Nat) w.Key w.Width w.Forged b1 i1 b2 (pre.map plC++x::t.map cI) w.Ends w.Flight w.Given w.Taken z1 z2 z3 z4) (· =(w,fX_++xL s)):=fun x hx=>by
      refine Wp.step ?_
      simp only [kU]
      rw [bQ (by omega) (by omega),bV pre c]
      have:=a4_ s hs t (pre++[c]) (by rw [he];simp)
      rw [List.map_append] at this
      rw [←hx]
      simpa using this
    have hi:idx (pre.map plC++(c::t).map cI) ((pre.length:Nat):Int)=some (cI c):=by
      have:=bK (pre:=pre.map plC) (t:=t.map cI) (x:=cI c)
      rw [List.length_map] at this
      exact this
    have hg:(pre.map plC++(c::t).map cI)[Int.toNat ((pre.length:Nat):Int)]? =some (cI c):=by
      have:=j5 (pre:=pre.map plC) (t:=t.map cI) (x:=cI c)
      rw [List.length_map] at this
      exact this
    have hst:(pre.map plC++(c::t).map cI).set (Int.toNat ((pre.length:Nat):Int)) 63=pre.map plC++63::t.map cI:=by
      have:=Km.set_mid (pre:=pre.map plC) (t:=t.map cI) (x:=cI c) (y:=63)
      rw [List.length_map] at this
      exact this
    refine Wp.step ?_
    simp only [iH]
    refine Wp.dec (fun _=> ?_) (fun h=>by omega)
    refine Wp.opt hi (Wp.opt hg ?_)
    refine Wp.dec (fun h1=> ?_) (fun h1=> ?_)
    ·refine Wp.opt hi (Wp.opt hg ?_)
     rw [hst]
     exact go _ (by unfold plC;rw [if_pos (show (c.toNat:Int)<32 from h1)])
    refine Wp.opt hi (Wp.opt hg ?_)
    refine Wp.dec (fun h2=> ?_) (fun h2=> ?_)
    ·refine Wp.opt hi (Wp.opt hg ?_)
     rw [hst]
     exact go _ (by unfold plC;rw [if_neg (show¬(c.toNat:Int)<32 from h1),if_pos (show (c.toNat:Int)>126 from h2)])
    exact go _ (by unfold plC;rw [if_neg (show¬(c.toNat:Int)<32 from h1),if_neg (show¬(c.toNat:Int)>126 from h2)];rfl)
theorem bH_ (s:ByteArray):Wp (fun k=>m5 k s w.Key w.Width w.Forged b1 i1 b2 w.Ends w.Flight w.Given w.Taken z1 z2 z3 z4) (· =(w,s)):=by
  refine Wp.step ?_
  simp only [m5]
  exact Wp.ret rfl
theorem aQ_ (s:ByteArray) (hs:s.size≤2000):Wp (fun k=>nC k s w.Key w.Width w.Forged b1 i1 b2 w.Ends w.Flight w.Given w.Taken z1 z2 z3 z4) (· =(w,PW w s)):=by
  refine Wp.step ?_
  simp only [nC,cE,oA]
  unfold PW
  refine Wp.ite (fun h=> ?_) (fun h=> ?_)
  ·rw [if_pos (show w.Forged=noB from h)];exact bH_ _ _ _ _ _ _ _ _
  ·rw [if_neg (show¬w.Forged=noB from h)]
   refine Wp.opt (aP (by (simp only [aD,aK,List.size_toArray,List.length_cons,List.length_nil];omega))) ?_
   exact bH_ _ _ _ _ _ _ _ _
include hV
theorem ax_ (n:Int) (hn:1≤n∧n≤2):Wp (fun k=>m7 k w.Key w.Width w.Forged b1 i1 b2 [n] w.Ends w.Flight w.Given w.Taken z1 z2 z3 z4) (· =IP w n):=by
  obtain ⟨v,i,j⟩:=NV hV hn
  have sm:=BF v
  refine Wp.step ?_
  simp only [m7,mZ]
  refine Wp.opt (x:=n) rfl ?_
  refine Wp.opt (x:=n) rfl ?_
  refine Wp.opt i (Wp.opt j ?_)
  refine Wp.bind (FA _) (fun _ q=> ?_);subst q
  refine Wp.opt (x:=n) rfl ?_
  refine Wp.opt (x:=n) rfl ?_
  refine Wp.bind (LJ w (pE hV) _) (fun _ q=> ?_);subst q
  simp only [DD]
  unfold IP
  rw [if_pos hn]
  refine Wp.ite (fun h3=> ?_) (fun h3=> ?_)
  ·rw [if_pos h3]
   have hz:(nW (eL n w.Ends)).Text.size≤1000000:=by omega
   have:=a4_ (w:=doM w ⟨11,n,0,0,noB⟩) b1 b2 i1 z1 z2 z3 z4 _ hz _ [] rfl
   have el:((bC (nW (eL n w.Ends)).Text).length:Int)=(((nW (eL n w.Ends)).Text.size:Nat):Int):=by rw [OG,List.length_map,FE]
   rw [el]
   exact this
  ·rw [if_neg h3]
   have hc:okN (nW (eL n w.Ends)).Code:=⟨by omega,by omega⟩
   have:=dI hc
   simp only [S4 hc]
   refine Wp.opt rfl ?_
   refine Wp.opt (aP (by (simp only [aD,aK,List.size_toArray,List.length_cons,List.length_nil];omega))) (Wp.ret ?_)
   have e:=dg_ hV hn h3
   show (doM w ⟨11,n,0,0,noB⟩,_)=_
   rw [e];rfl
theorem a6_ (s:ByteArray) (hs:s.size≤1000):Wp (fun k=>nE k s w.Key w.Width w.Forged b1 i1 b2 w.Ends w.Flight w.Given w.Taken z1 z2 z3 z4) (· =(w,PW w (PX w s))):=by
  refine Wp.step ?_
  simp only [nE]
  refine Wp.bind (VN w (pE hV)) (fun _ q=> ?_);subst q
  refine Wp.dec (fun g=> ?_) (fun g=> ?_)
  ·refine Wp.opt (aP (by (simp only [aD,aK,List.size_toArray,List.length_cons,List.length_nil];omega))) ?_
   unfold PX;rw [if_pos g]
   exact aQ_ _ _ _ _ _ _ _ _ (by (simp only [aD,aK,List.size_toArray,List.length_cons,List.length_nil];omega))
  ·unfold PX;rw [if_neg g]
   exact aQ_ _ _ _ _ _ _ _ _ (by omega)
theorem aN_ (s:ByteArray):Wp (fun k=>nF k s w.Key w.Width w.Forged b1 i1 b2 w.Ends w.Flight w.Given w.Taken z1 z2 z3 z4) (· =if s=lA then (w,DX w) else (w,NS)):=by
  obtain ⟨v1,v2,i1',i2,j1,j2⟩:=HU hV
  have g1:=qO v1;have g2:=qO v2
  refine Wp.step ?_
  simp only [nF,oA]
  refine Wp.ite (fun h=> ?_) (fun h=>Wp.ret (by rw [if_neg (show¬s=lA from h)];rfl))
  rw [if_pos (show s=lA from h)]
  refine Wp.opt i1' (Wp.opt j1 ?_)
  refine Wp.bind (N7 v1) (fun _ q=> ?_);subst q
  refine Wp.opt (aP (by (simp only [aD,aK,List.size_toArray,List.length_cons,List.length_nil];omega))) ?_
  refine Wp.opt i2 (Wp.opt j2 ?_)
  refine Wp.bind (N7 v2) (fun _ q=> ?_);subst q
  refine Wp.opt (aP (by (simp only [aD,aK,List.size_toArray,List.length_cons,List.length_nil];omega))) ?_
  refine Wp.bind (SU w (pE hV)) (fun _ q=> ?_);subst q
  refine Wp.bif (fun g=> ?_) (fun g=> ?_)
  ·refine Wp.opt (aP (by (simp only [aD,aK,List.size_toArray,List.length_cons,List.length_nil];omega))) ?_
   have:=a6_ hV b1 b2 i1 z1 z2 z3 z4 (A3 w) (Nat.le_trans (tL hV) (by decide))
   unfold A3 at this;rw [if_pos g] at this
   unfold DX A3;rw [if_pos g]
   exact this
  ·refine Wp.opt (aP (by (simp only [aD,aK,List.size_toArray,List.length_cons,List.length_nil];omega))) ?_
   have:=a6_ hV b1 b2 i1 z1 z2 z3 z4 (A3 w) (Nat.le_trans (tL hV) (by decide))
   unfold A3 at this;rw [if_neg (by simp [g])] at this
   unfold DX A3;rw [if_neg (by simp [g])]
   exact this
def fB_ (w:aC) (s f0:ByteArray) (ns:List Int):aC×ByteArray:=if f0=VP∧ns.length=2 then am_ w (ns.getD 0 0) (ns.getD 1 0) else if s=lA then (w,DX w) else (w,NS)
theorem bP_ (s f0:ByteArray) (ft:List ByteArray) (ns:List Int):Wp (fun k=>nH k s w.Key w.Width w.Forged b1 i1 b2 (f0::ft) ns w.Ends w.Flight w.Given w.Taken z1 z2 z3 z4) (· =fB_ w s f0 ns):=by
  refine Wp.step ?_
  simp only [nH]
  refine Wp.opt (x:=f0) rfl ?_
  refine Wp.opt (x:=f0) rfl ?_
  simp only [oA,kH]
  unfold fB_
  refine Wp.ite (fun h1=> ?_) (fun h1=> ?_)
  ·refine Wp.ite (fun h2=> ?_) (fun h2=> ?_)
   ·rw [if_pos (show f0=VP∧ns.length=2 from ⟨h1,by omega⟩)]
    have o0:=TM (0:Int) (l:=ns) 0 (by omega)
    have o1:=TM (0:Int) (l:=ns) 1 (by omega)
    unfold am_
    refine Wp.opt o0.1 (Wp.opt o0.2 ?_)
    refine Wp.dec (fun h=>Wp.ret (by rw [if_pos (by omega)];rfl)) (fun h3=> ?_)
    refine Wp.opt o1.1 (Wp.opt o1.2 ?_)
    refine Wp.dec (fun h=>Wp.ret (by rw [if_pos (by omega)];rfl)) (fun h4=> ?_)
    refine Wp.opt o1.1 (Wp.opt o1.2 ?_)
    refine Wp.dec (fun h=>Wp.ret (by rw [if_pos (by omega)];rfl)) (fun h5=> ?_)
    rw [if_neg (by omega)]
    refine Wp.opt o0.1 (Wp.opt o0.2 ?_)
    refine Wp.opt o1.1 (Wp.opt o1.2 ?_)
    refine Wp.bind (WU w (pE hV) _ _) (fun _ q=> ?_);subst q
    simp only [S4 (uD (WR hV (n:=ns.getD 0 0) (ev:=ns.getD 1 0) ⟨by omega,by omega⟩))]
    exact Wp.opt rfl (Wp.ret rfl)
   ·rw [if_neg (fun g=>h2 (by omega))]
    exact aN_ hV b1 b2 i1 z1 z2 z3 z4 s
  ·rw [if_neg (fun g=>h1 g.1)]
   exact aN_ hV b1 b2 i1 z1 z2 z3 z4 s
theorem aK_ (s f0:ByteArray) (ft:List ByteArray) (ns:List Int):Wp (fun k=>m8 k s w.Key w.Width w.Forged b1 i1 b2 (f0::ft) ns w.Ends w.Flight w.Given w.Taken z1 z2 z3 z4) (· =if f0=TV∧ns.length=1 then IP w (ns.getD 0 0) else fB_ w s f0 ns):=by
  refine Wp.step ?_
  simp only [m8]
  refine Wp.opt (x:=f0) rfl ?_
  refine Wp.opt (x:=f0) rfl ?_
  simp only [oA,kH,DD]
  refine Wp.ite (fun h1=> ?_) (fun h1=> ?_)
  ·refine Wp.ite (fun h2=> ?_) (fun h2=> ?_)
   ·rw [if_pos (show f0=TV∧ns.length=1 from ⟨h1,by omega⟩)]
    obtain ⟨n,rfl⟩:∃n,ns=[n]:=by
      match ns,h2 with
      | [n],_=>exact ⟨n,rfl⟩
      | [],h2=>simp at h2
      | a::b::c,h2=>simp at h2;omega
    show Wp _ (· =IP w n)
    refine Wp.opt (x:=n) rfl ?_
    refine Wp.opt (x:=n) rfl ?_
    refine Wp.ite (fun h3=>ax_ hV b1 b2 i1 z1 z2 z3 z4 n (by omega)) (fun h3=> ?_)
    refine Wp.opt (x:=n) rfl ?_
    refine Wp.opt (x:=n) rfl ?_
    refine Wp.ite (fun h4=>ax_ hV b1 b2 i1 z1 z2 z3 z4 n (by omega)) (fun h4=>Wp.ret ?_)
    unfold IP
    rw [if_neg (by omega)];rfl
   ·rw [if_neg (fun g=>h2 (by omega))]
    exact bP_ hV b1 b2 i1 z1 z2 z3 z4 s f0 ft ns
  ·rw [if_neg (fun g=>h1 g.1)]
   exact bP_ hV b1 b2 i1 z1 z2 z3 z4 s f0 ft ns
end
def cz_ (w:aC) (s f0:ByteArray) (ns:List Int):aC×ByteArray:=if s=lA then (w,DX w) else RE w f0 ns
theorem X1 {w:aC} {s f0:ByteArray} {ns:List Int} (hsh:s=lA→f0=lA) (hk:jP f0 impl_kinds=none∨∃p,jP f0 impl_kinds=some p∧¬(ns.length:Int)=p.2):
    (if f0=TV∧ns.length=1 then IP w (ns.getD 0 0) else fB_ w s f0 ns)=cz_ w s f0 ns:=by
  unfold cz_ RE fB_ cl2
  have hkl:TZ w f0 ns=(w,NS):=by
    unfold TZ
    rcases hk with hk | ⟨p,hk,hp⟩
    ·rw [hk]
    ·rw [hk];dsimp only;rw [if_neg hp]
  rw [hkl]
  by_cases hs:s=lA
  ·have h0:=hsh hs
   rw [if_neg (fun g=>absurd (h0.symm.trans g.1) (by decide)),if_neg (fun g=>absurd (h0.symm.trans g.1) (by decide)),if_pos hs,if_pos hs]
  ·rw [if_neg hs,if_neg hs]
theorem cR_ {w:aC} {s x:ByteArray} (hx:x∈pcM s 32) (he:x=(⟨#[]⟩:ByteArray)):JM w s=(w,NS):=by
  unfold JM
  by_cases hs:s=lA
  ·subst hs
   rw [show pcM lA 32=[lA] from rfl] at hx
   simp at hx
   rw [hx] at he
   exact absurd he (by decide)
  rw [if_neg hs]
  obtain ⟨f0,ft,hf⟩:=du_ s 32
  rw [hf] at hx⊢
  dsimp only
  unfold wD
  have hn:E4 x=none:=by subst he;rfl
  rcases List.mem_cons.mp hx with rfl | hx
  ·rw [if_neg (by rw [he];decide)]
   exact cr_ (.inr (.inr he)) ft
  ·by_cases hw:f0=vS
   ·rw [if_pos hw]
    unfold zQ
    split
    ·rename_i a b
     simp only [List.mem_cons,List.not_mem_nil,or_false] at hx
     rcases hx with rfl | rfl
     ·rw [if_pos (show x=noB from he)]
     ·rw [hn];split<;>rfl
    ·rfl
   ·rw [if_neg hw]
    unfold LS
    rw [SS hx hn]
section
variable {w:aC} (hV:aS w) (b1 b2:ByteArray) (i1:Int) (z1:List aN) (z2:List aE) (z3 z4:List aA)
include hV
theorem bz_ (s f0:ByteArray) (ft:List ByteArray) (hf:ft.length≤1000000) (hsh:s=lA→f0=lA):∀(t pre:List ByteArray) (acc:List Int),ft=pre++t→acc.length≤pre.length→
    Wp (fun k=>kO k s 1 (f0::ft).length (ft.length:Nat) (pre.length:Nat) w.Key w.Width w.Forged b1 i1 b2 (f0::ft) acc w.Ends w.Flight w.Given w.Taken z1 z2 z3 z4)
     (· =match vA t with | none=>(w,NS) | some l=>cz_ w s f0 (acc++l))
  | [],pre,acc,he,ha=>by
    have hl:pre.length=ft.length:=by rw [he];simp
    refine Wp.step ?_
    simp only [kO]
    refine Wp.dec (fun h=>by omega) (fun _=> ?_)
    refine Wp.opt (x:=f0) rfl ?_
    refine Wp.opt (x:=f0) rfl ?_
    show Wp _ (· =cz_ w s f0 (acc++[]))
    rw [List.append_nil]
    cases hk:jP f0 impl_kinds with
    | none=>
      simp only [optK]
      have:=aK_ hV b1 b2 i1 z1 z2 z3 z4 s f0 ft acc
      rw [X1 hsh (.inl hk)] at this
      exact this
    | some p=>
      simp only [optK,kH]
      obtain ⟨p1,p2,p3,p4,p5,p6⟩:=KV hk
      have hs:¬s=lA:=fun g=>p4 (hsh g)
      refine Wp.ite (fun h=> ?_) (fun h=> ?_)
      ·have em:cz_ w s f0 acc=doL w p.1 acc:=by
         unfold cz_ RE cl2 TZ
         rw [if_neg hs,if_neg (fun g=>p2 g.1),if_neg (fun g=>p3 g.1),hk]
         dsimp only
         rw [if_pos h]
       rw [em]
       refine Wp.opt (bP (by simp;omega)) ?_
       have len:(acc++[0,0,0]).length=acc.length+3:=by simp
       refine Wp.opt (TM (0:Int) (l:=acc++[0,0,0]) 0 (by omega)).1 ?_
       refine Wp.opt (TM (0:Int) (l:=acc++[0,0,0]) 0 (by omega)).2 ?_
       refine Wp.opt (TM (0:Int) (l:=acc++[0,0,0]) 1 (by omega)).1 ?_
       refine Wp.opt (TM (0:Int) (l:=acc++[0,0,0]) 1 (by omega)).2 ?_
       refine Wp.opt (TM (0:Int) (l:=acc++[0,0,0]) 2 (by omega)).1 ?_
       refine Wp.opt (TM (0:Int) (l:=acc++[0,0,0]) 2 (by omega)).2 ?_
       refine Wp.bind (LJ w (pE hV) _) (fun _ q=> ?_);subst q
       simp only [S4 (uD (Y4 hV _))]
       exact Wp.opt rfl (Wp.ret rfl)
      ·have:=aK_ hV b1 b2 i1 z1 z2 z3 z4 s f0 ft acc
       rw [X1 hsh (.inr ⟨p,hk,h⟩)] at this
       exact this
  | x::t,pre,acc,he,ha=>by
    have hl:pre.length<ft.length:=by rw [he];simp
    refine Wp.step ?_
    simp only [kO]
    refine Wp.dec (fun _=> ?_) (fun h=>by omega)
    refine Wp.opt (x:=x) (by rw [xH];show idx ft _=_;rw [he];exact bK) ?_
    refine Wp.opt (x:=x) (by rw [Int.toNat_natCast,Nat.add_comm];show ft[pre.length]? =_;rw [he];simp) ?_
    refine Wp.bind (s4 x) (fun _ q=> ?_);subst q
    rcases EC x with ⟨e1,e2⟩ | ⟨n,e1,e2,e3⟩
    ·rw [e2]
     simp only [vA,e1]
     exact Wp.ret rfl
    ·rw [e2]
     refine Wp.not (fun h=>by cases h) (fun _=> ?_)
     dsimp only
     refine Wp.opt (bP (by simp;omega)) ?_
     rw [bQ (by omega) (by omega),bV pre x]
     refine Wp.mono (bz_ s f0 ft hf hsh t (pre++[x]) (acc++[(n:Int)]) (by rw [he];simp) (by simp;omega)) (fun r h=> ?_)
     rw [h]
     simp only [vA,e1]
     cases ht:vA t with
     | none=>rfl
     | some l=>simp
theorem eb_ (s f0:ByteArray) (ft:List ByteArray) (hf:ft.length≤1000000) (hsh:s=lA→f0=lA∧ft=[]):
    Wp (fun k=>pW k s w.Key w.Width w.Forged b1 i1 b2 (f0::ft) w.Ends w.Flight w.Given w.Taken z1 z2 z3 z4) (· =if s=lA then (w,DX w) else LS w f0 ft):=by
  refine Wp.step ?_
  simp only [pW]
  refine Wp.opt (bX ⟨by omega,by simp;omega,by omega⟩) ?_
  rw [Int.toNat_natCast,show (1:Int).toNat=1 from rfl,xH]
  have:=bz_ hV b1 b2 i1 z1 z2 z3 z4 s f0 ft hf (fun g=>(hsh g).1) ft [] [] rfl (Nat.le_refl _)
  refine Wp.mono this (fun r h=> ?_)
  rw [h]
  by_cases hs:s=lA
  ·rw [if_pos hs,(hsh hs).2]
   show cz_ w s f0 []=_
   unfold cz_
   rw [if_pos hs]
  ·rw [if_neg hs]
   unfold LS
   cases vA ft with
   | none=>rfl
   | some l=>
     show cz_ w s f0 l=_
     unfold cz_
     rw [if_neg hs]
theorem bE_ (s f0:ByteArray) (ft:List ByteArray) (hc:pcM s 32=f0::ft) (hf:ft.length≤900000):∀(t pre:List ByteArray),f0::ft=pre++t→(∀x∈pre,x≠(⟨#[]⟩:ByteArray))→
    Wp (fun k=>kT k s ((f0::ft).length:Nat) (pre.length:Nat) w.Key w.Width w.Forged b1 i1 b2 (f0::ft) w.Ends w.Flight w.Given w.Taken z1 z2 z3 z4) (· =JM w s)
  | [],pre,he,hn=>by
    have hl:pre.length=(f0::ft).length:=by rw [he];simp
    rw [List.append_nil] at he
    rw [←he] at hn
    refine Wp.step ?_
    simp only [kT]
    refine Wp.dec (fun h=>by omega) (fun _=> ?_)
    refine Wp.opt (x:=f0) rfl ?_
    refine Wp.opt (x:=f0) rfl ?_
    have hsh:s=lA→f0=lA∧ft=[]:=fun g=>by
      subst g
      rw [show pcM lA 32=[lA] from rfl] at hc
      cases hc
      exact ⟨rfl,rfl⟩
    have rm:JM w s=if s=lA then (w,DX w) else wD w f0 ft:=by
      unfold JM
      rw [hc]
    rw [rm]
    simp only [oA,DD]
    refine Wp.ite (fun h1=> ?_) (fun h1=> ?_)
    ·have h1':f0=vS:=h1
     have hs:¬s=lA:=fun g=>absurd ((hsh g).1.symm.trans h1') (by decide)
     rw [if_neg hs]
     unfold wD
     rw [if_pos h1']
     refine Wp.ite (fun h2=> ?_) (fun h2=>Wp.ret ?_)
     ·obtain ⟨a,b,rfl⟩:∃a b,ft=[a,b]:=by
        match ft,h2 with
        | [a,b],_=>exact ⟨a,b,rfl⟩
        | [],h2=>simp at h2
        | [a],h2=>simp at h2
        | a::b::c::d,h2=>simp at h2;omega
      unfold zQ
      dsimp only
      rw [if_neg (show¬a=noB from hn a (by simp))]
      refine Wp.opt (x:=b) rfl ?_
      refine Wp.opt (x:=b) rfl ?_
      refine Wp.bind (s4 b) (fun _ q=> ?_);subst q
      rcases EC b with ⟨e1,e2⟩ | ⟨n,e1,e2,e3⟩
      ·rw [e1,e2]
       exact Wp.ret rfl
      ·rw [e1,e2]
       refine Wp.not (fun h=>by cases h) (fun _=> ?_)
       dsimp only
       refine Wp.opt (x:=a) rfl ?_
       refine Wp.opt (x:=a) rfl ?_
       refine Wp.bind (JL a _) (fun _ q=> ?_);subst q
       simp only [kH]
       refine Wp.ite (fun h4=>Wp.ret ?_) (fun h4=>Wp.ret ?_)
       ·rw [if_pos h4];rfl
       ·rw [if_neg h4];rfl
     ·unfold zQ
      split
      ·exact absurd rfl h2
      ·rfl
    ·have:=eb_ hV b1 b2 i1 z1 z2 z3 z4 s f0 ft (by omega) hsh
     unfold wD
     rw [if_neg (show¬f0=vS from h1)]
     exact this
  | x::t,pre,he,hn=>by
    have hl:pre.length<(f0::ft).length:=by rw [he];simp
    have hl':(f0::ft).length≤1000000:=by simp;omega
    have hx:x∈pcM s 32:=by rw [hc,he];simp
    refine Wp.step ?_
    simp only [kT]
    refine Wp.dec (fun _=> ?_) (fun h=>by omega)
    refine Wp.opt (x:=x) (by rw [he];exact bK) ?_
    refine Wp.opt (x:=x) (by rw [he];exact j5) ?_
    simp only [oA]
    refine Wp.ite (fun h=>Wp.ret (by rw [cR_ hx h];rfl)) (fun h=> ?_)
    rw [bQ (by omega) (by omega),bV pre x]
    exact bE_ s f0 ft hc hf t (pre++[x]) (by rw [he];simp) (fun y hy=>by
      simp only [List.mem_append,List.mem_singleton] at hy
      rcases hy with hy | rfl
      ·exact hn y hy
      ·exact h)
end
theorem NN (s:ByteArray):Lib.hasPrefix s.data.toList (⟨#[112,117,115,104,32]⟩:ByteArray).data.toList=true↔s.data.toList.take 5=pushB:=by
  unfold Lib.hasPrefix
  rw [List.isPrefixOf_iff_prefix]
  constructor
  ·rintro ⟨t,ht⟩
   rw [←ht];rfl
  ·intro h
   exact ⟨_,(DO h).1.symm⟩
theorem dh_ {w:aC} (h:aS w) {n:Int} (hn:1≤n∧n≤2) (t:ByteArray):Wp (fun k=>
      (idx w.Ends (IntKind.wrap .i64 (n-1))).bind fun _=>
      (w.Ends[(Int.toNat (IntKind.wrap .i64 (n-1)))]?).bind fun y6=>
      (fW k y6 t).bind fun r8=>
      (s7 k w (⟨10,n,0,0,t⟩:bI)).bind fun r10=>
      (strconv_Itoa k r8.Code).bind fun r11=>
      (dK (⟨#[99,111,100,101,32]⟩:ByteArray) r11).bind fun t12=>
      some (r10,t12)) (· =RH w n t):=by
  obtain ⟨v,i,j⟩:=NV h hn
  unfold RH
  rw [if_pos hn]
  refine Wp.opt i (Wp.opt j ?_)
  refine Wp.bind (E6 _ _) (fun _ q=> ?_);subst q
  refine Wp.bind (LJ w (pE h) _) (fun _ q=> ?_);subst q
  have hc:=ER v t
  have ok:okN (rG (eL n w.Ends) t).Code:=⟨by omega,by omega⟩
  have:=dI ok
  simp only [S4 ok]
  refine Wp.opt rfl ?_
  exact Wp.opt (aP (by (simp only [aD,aK,List.size_toArray,List.length_cons,List.length_nil];omega))) (Wp.ret rfl)
theorem WK {w:aC} (hV:aS w) (s:ByteArray) (hs:s.size≤50000):Wp (fun k=>CM k w s) (· =nX w s):=by
  unfold CM nX strings_HasPrefix
  refine Wp.opt rfl ?_
  refine Wp.bif (fun g=> ?_) (fun g=> ?_)
  ·have g':=(NN s).mp g
   rw [if_pos g']
   have hsp:=fun k=>O3 k s (by omega) _ (DO g').1
   simp only [hsp]
   refine Wp.opt rfl ?_
   by_cases h32:(32:UInt8)∈s.data.toList.drop 5
   ·simp only [if_pos h32,List.map_cons,List.map_nil]
    refine Wp.dec (fun h=>by simp at h) (fun _=> ?_)
    refine Wp.opt (x:=baL (sp1 (s.data.toList.drop 5)).2) rfl ?_
    refine Wp.opt (x:=baL (sp1 (s.data.toList.drop 5)).2) rfl ?_
    simp only [oA,eD_]
    refine Wp.ite (fun h=>Wp.ret ?_) (fun h=> ?_)
    ·rw [h]
     unfold IO
     split
     ·rfl
     ·rw [if_pos rfl];rfl
    unfold IO
    simp only [if_neg h]
    refine Wp.opt (x:=baL (sp1 (s.data.toList.drop 5)).1) rfl ?_
    refine Wp.opt (x:=baL (sp1 (s.data.toList.drop 5)).1) rfl ?_
    refine Wp.bind (s4 _) (fun _ q=> ?_);subst q
    rcases EC (baL (sp1 (s.data.toList.drop 5)).1) with ⟨e1,e2⟩ | ⟨n,e1,e2,e3⟩
    ·rw [e1,e2]
     exact Wp.ret rfl
    ·rw [e1,e2]
     refine Wp.not (fun h=>by cases h) (fun _=> ?_)
     simp only [DD]
     have run:1≤(n:Int)∧(n:Int)≤2→Wp (fun k=>(idx w.Ends (IntKind.wrap .i64 ((n:Int)-1))).bind fun _=>
      (w.Ends[(Int.toNat (IntKind.wrap .i64 ((n:Int)-1)))]?).bind fun y6=>
      (fW k y6 (baL (sp1 (s.data.toList.drop 5)).2)).bind fun r8=>
      (s7 k w (⟨10,(n:Int),0,0,(baL (sp1 (s.data.toList.drop 5)).2)⟩:bI)).bind fun r10=>
      (strconv_Itoa k r8.Code).bind fun r11=>
      (dK (⟨#[99,111,100,101,32]⟩:ByteArray) r11).bind fun t12=>
      some (r10,t12)) (· =RH w (n:Int) (baL (sp1 (s.data.toList.drop 5)).2)):=fun hn=>dh_ hV hn _
     refine Wp.ite (fun h1=> ?_) (fun h1=> ?_)
     ·exact run (by omega)
     refine Wp.ite (fun h2=> ?_) (fun h2=>Wp.ret ?_)
     ·exact run (by omega)
     ·unfold RH
      rw [if_neg (by omega)];rfl
   ·simp only [if_neg h32,List.map_cons,List.map_nil]
    refine Wp.dec (fun _=>Wp.ret ?_) (fun h=>by simp at h)
    rw [XP h32]
    unfold IO
    dsimp only
    cases E4 (baL (s.data.toList.drop 5)) with
    | none=>rfl
    | some n=>rfl
  ·have g':¬s.data.toList.take 5=pushB:=fun h=>by rw [(NN s).mpr h] at g;cases g
   rw [if_neg g']
   have hsp:=fun k=>FJ k s 32 (by omega)
   simp only [hsp]
   refine Wp.opt rfl ?_
   have hl:=XZ s 32
   obtain ⟨f0,ft,hf⟩:=du_ s 32
   rw [hf] at hl⊢
   rw [List.length_cons] at hl
   exact bE_ hV _ _ _ _ _ _ _ s f0 ft hf (by omega) (f0::ft) [] rfl (fun x hx=>by simp at hx)
def vT (r:aC×ByteArray):Prop:=aS r.1∧r.2.size≤500
theorem NK {w:aC} (h:aS w) (a:Array UInt8) (ha:a.size≤500):vT (w,⟨a⟩):=⟨h,ha⟩
theorem dQ_ {w:aC} (h:aS w) {n:Int} (hn:okN n):vT (w,QK n):=⟨h,by have:=dI hn;show (QK n).size≤500;omega⟩
theorem cq_ {w:aC} (h:aS w) {n:Int} (hn:okN n):vT (w,bw_++QK n):=⟨h,by
  have:=dI hn;show (bw_++QK n).size≤500
  unfold bw_;(simp only [aD,aK,List.size_toArray,List.length_cons,List.length_nil];omega)⟩
theorem CC {w:aC} (h:aS w):vT (w,NS):=NK h _ (by decide)
theorem cQ_ {w:aC} (h:aS w) (n:Int):vT (IP w n):=by
  unfold IP
  by_cases hn:1≤n∧n≤2
  ·rw [if_pos hn]
   have sm:=BF (NV h hn).1
   by_cases hc:(nW (eL n w.Ends)).Code=0
   ·rw [if_pos hc]
    refine ⟨Y4 h _, ?_⟩
    show (fX_++xL _).size≤500
    unfold fX_
    rw [aD,AE];(simp only [aD,aK,List.size_toArray,List.length_cons,List.length_nil];omega)
   ·rw [if_neg hc]
    exact cq_ h ⟨by omega,by omega⟩
  ·rw [if_neg hn];exact NK h _ (by decide)
theorem df_ {w:aC} (h:aS w) (n:Int) (t:ByteArray):vT (RH w n t):=by
  unfold RH
  by_cases hn:1≤n∧n≤2
  ·rw [if_pos hn]
   have hc:=ER (NV h hn).1 t
   exact cq_ (Y4 h _) ⟨by omega,by omega⟩
  ·rw [if_neg hn];exact NK h _ (by decide)
theorem da_ {w:aC} (h:aS w) (a b:List UInt8):vT (IO w a b):=by
  unfold IO
  split
  ·exact CC h
  ·split
   ·exact CC h
   ·exact df_ h _ _
theorem fr_ {w:aC} (h:aS w) (kd:Int) (ns:List Int):vT (doL w kd ns):=dQ_ (Y4 h _) (uD (Y4 h _))
theorem c1_ {w:aC} (h:aS w) (a b:Int):vT (am_ w a b):=by
  unfold am_
  by_cases g:a>200∨b<1∨b>10
  ·rw [if_pos g];exact NK h _ (by decide)
  ·rw [if_neg g]
   have:=WR h (n:=a) (ev:=b) ⟨by omega,by omega⟩
   exact dQ_ this (uD this)
theorem cK_ {w:aC} (h:aS w) (f0:ByteArray) (ft:List ByteArray):vT (LS w f0 ft):=by
  unfold LS
  split
  ·exact CC h
  unfold RE
  split
  ·exact cQ_ h _
  unfold cl2
  split
  ·exact c1_ h _ _
  unfold TZ
  split
  ·exact CC h
  split
  ·exact fr_ h _ _
  ·exact CC h
theorem eR_ {b:ByteArray} {n:Int} (h:¬(LQ b n).Width=0):aS (LQ b n):=by
  by_cases g:(1≤n∧n≤8)∧b.size≤30
  ·exact bl_ g.2 g.1
  ·unfold LQ at h
   rw [if_neg g] at h
   exact absurd rfl h
theorem aB_ {w:aC} (h:aS w) (ft:List ByteArray):vT (zQ w ft):=by
  unfold zQ
  split
  ·split
   ·exact CC h
   ·split
    ·exact CC h
    ·split
     ·exact NK h _ (by decide)
     ·rename_i g
      exact NK (eR_ g) _ (by decide)
  ·exact CC h
theorem YP {w:aC} (h:aS w) (s:ByteArray):vT (nX w s):=by
  unfold nX
  split
  ·exact da_ h _ _
  unfold JM
  split
  ·refine ⟨h, ?_⟩
   have:=ag_ h
   show (DX w).size≤500
   omega
  split
  ·exact CC h
  unfold wD
  split
  ·exact aB_ h _
  ·exact cK_ h _ _
def X4 (w:aC):List ByteArray→List Int
  | []=>[]
  | s::t=>bC (nX w s).2++([10]++X4 (nX w s).1 t)
def ZI:ByteArray:=⟨#[116,111,111,32,108,111,110,103,10]⟩
def fa_:ByteArray:=⟨#[107]⟩
def BG (f:List ByteArray):List ByteArray:=if f.getLast? =some (⟨#[]⟩:ByteArray) then f.take (f.length-1) else f
def eQ_ (s:ByteArray):ByteArray:=
  if s.size>20000 then ZI else if (BG (pcM s 10)).length>400 then ZI else mD (X4 (LQ fa_ 8) (BG (pcM s 10)))
theorem rL (s:ByteArray):(bC s).length=s.size:=by rw [OG,List.length_map,FE]
theorem R3 (c:UInt8):∀(l:List UInt8),∀x∈pcL c l,x.length≤l.length
  | [],x,h=>by simp [pcL] at h;simp [h]
  | y::l,x,h=>by
    have ih:=R3 c l
    unfold pcL at h
    split at h
    ·rcases List.mem_cons.mp h with rfl | h
     ·simp
     ·have:=ih x h;simp;omega
    ·cases hl:pcL c l with
     | nil=>exact absurd hl (XI c l)
     | cons a b=>
       rw [hl] at h ih
       rcases List.mem_cons.mp h with rfl | h
       ·have:=ih a (by simp);simp;omega
       ·have:=ih x (by simp [h]);simp;omega
theorem YH {s x:ByteArray} {c:UInt8} (h:x∈pcM s c):x.size≤s.size:=by
  unfold pcM at h
  obtain ⟨l,hl,rfl⟩:=List.mem_map.mp h
  have:=R3 c _ l hl
  rw [FE] at this
  rw [YB];exact this
theorem LK {s x:ByteArray} (h:x∈BG (pcM s 10)):x.size≤s.size:=by
  unfold BG at h
  split at h
  ·exact YH (List.mem_of_mem_take h)
  ·exact YH h
theorem CS (b:List ByteArray) (hb:b.length≤400) (hs:∀x∈b,x.size≤20000):∀(t pre:List ByteArray) (w:aC) (acc:List Int),aS w→b=pre++t→acc.length≤501*pre.length→
    Wp (fun k=>eF k (pre.length:Nat) b w.Key w.Width w.Forged acc w.Ends w.Flight w.Given w.Taken) (· =mD (acc++X4 w t))
  | [],pre,w,acc,hV,he,ha=>by
    have hl:pre.length=b.length:=by rw [he];simp
    refine Wp.step ?_
    simp only [eF]
    refine Wp.dec (fun h=>by omega) (fun _=>Wp.ret ?_)
    rw [X4,List.append_nil]
  | x::t,pre,w,acc,hV,he,ha=>by
    have hl:pre.length<b.length:=by rw [he];simp
    obtain ⟨o1,o2⟩:=YP hV x
    have hx:=hs x (by rw [he];simp)
    refine Wp.step ?_
    simp only [eF,mZ]
    refine Wp.dec (fun _=> ?_) (fun h=>by omega)
    refine Wp.opt (x:=x) (by rw [he];exact bK) ?_
    refine Wp.opt (x:=x) (by rw [he];exact j5) ?_
    refine Wp.bind (VB hV x (by omega)) (fun _ q=> ?_);subst q
    refine Wp.opt (bP (by rw [rL];omega)) ?_
    refine Wp.opt (bP (by rw [List.length_append,rL,List.length_singleton];omega)) ?_
    rw [bQ (by omega) (by omega),bV pre x]
    have:=CS b hb hs t (pre++[x]) (nX w x).1 (acc++bC (nX w x).2++[10]) o1 (by rw [he];simp) (by
      rw [List.length_append,List.length_append,rL,List.length_singleton,List.length_append,List.length_singleton];omega)
    rw [X4]
    rw [show acc++(bC (nX w x).2++([10]++X4 (nX w x).1 t))=acc++bC (nX w x).2++[10]++X4 (nX w x).1 t by simp]
    exact this
theorem VZ (s:ByteArray):∀x∈bC s,0≤x∧x<256:=fun x h=>by
  obtain ⟨c,_,rfl⟩:=List.mem_map.mp h
  have:=UInt8.toNat_lt c
  omega
theorem MF (a b:ByteArray):bC (a++b)=bC a++bC b:=by simp [bC]
theorem CF (b:List ByteArray) (hb:b.length≤400) (hs:∀x∈b,x.size≤20000):∀(t pre:List ByteArray) (w:aC) (acc:List Int) (fl:Bool),aS w→b=pre++t→acc.length≤501*pre.length→(∀x∈acc,0≤x∧x<256)→(fl=false∨acc≠[])→
    Wp (fun k=>gR k (b.length:Nat) (pre.length:Nat) w.Key w.Width w.Forged fl b w.Ends w.Flight w.Given w.Taken acc) (· =mD (acc++X4 w t))
  | [],pre,w,acc,fl,hV,he,ha,hr,hf=>by
    have hl:pre.length=b.length:=by rw [he];simp
    refine Wp.step ?_
    simp only [gR]
    refine Wp.dec (fun h=>by omega) (fun _=> ?_)
    unfold lC
    rw [if_pos ⟨by show acc.length≤_;omega,hr,hf⟩]
    refine Wp.opt rfl (Wp.ret ?_)
    rw [X4,List.append_nil]
  | x::t,pre,w,acc,fl,hV,he,ha,hr,hf=>by
    have hl:pre.length<b.length:=by rw [he];simp
    obtain ⟨o1,o2⟩:=YP hV x
    have hx:=hs x (by rw [he];simp)
    refine Wp.step ?_
    simp only [gR]
    refine Wp.dec (fun _=> ?_) (fun h=>by omega)
    refine Wp.opt (x:=x) (by rw [he];exact bK) ?_
    refine Wp.opt (x:=x) (by rw [he];exact j5) ?_
    refine Wp.bind (WK hV x (by omega)) (fun _ q=> ?_);subst q
    refine Wp.opt (aP (by (simp only [aD,aK,List.size_toArray,List.length_cons,List.length_nil];omega))) ?_
    have e:bC ((nX w x).2++(⟨#[10]⟩:ByteArray))=bC (nX w x).2++[10]:=by rw [MF];rfl
    have hz:((nX w x).2++(⟨#[10]⟩:ByteArray)).size≤501:=by (simp only [aD,aK,List.size_toArray,List.length_cons,List.length_nil];omega)
    have ha2:app 1 acc (bC ((nX w x).2++(⟨#[10]⟩:ByteArray)))=some (acc++(bC (nX w x).2++[10])):=by
      rw [bP (by rw [rL];omega),e]
    have hw:∀k,dE k (⟨fl,acc⟩:cW) ((nX w x).2++(⟨#[10]⟩:ByteArray))=some ((((nX w x).2++(⟨#[10]⟩:ByteArray)).size:Int),(),(⟨true,acc++(bC (nX w x).2++[10])⟩:cW)):=fun k=>by
      unfold dE oG
      simp only [Option.bind_some]
      rw [ha2]
      rfl
    simp only [hw]
    refine Wp.opt rfl ?_
    rw [bQ (by omega) (by omega),bV pre x]
    have:=CF b hb hs t (pre++[x]) (nX w x).1 (acc++(bC (nX w x).2++[10])) true o1 (by rw [he];simp) (by
      rw [List.length_append,List.length_append,rL,List.length_singleton,List.length_append,List.length_singleton];omega) (fun y hy=>by
      simp only [List.mem_append,List.mem_singleton] at hy
      rcases hy with hy | hy | rfl
      ·exact hr y hy
      ·exact VZ _ y hy
      ·omega) (.inr (by simp))
    rw [X4]
    rw [show acc++(bC (nX w x).2++([10]++X4 (nX w x).1 t))=acc++(bC (nX w x).2++[10])++X4 (nX w x).1 t by simp]
    exact this
theorem Q2 {R:Type} (f:List ByteArray) (hf:f≠[]) (hl:f.length≤10000000) (g:Nat→List ByteArray→Option R) (Q:R→Prop) (h:Wp (fun k=>g k (BG f)) Q):
    Wp (fun k=>(idx f (IntKind.wrap .i64 ((f.length:Int)-1))).bind fun _=>
     (f[(Int.toNat (IntKind.wrap .i64 ((f.length:Int)-1)))]?).bind fun y2=>
     bif (y2.toList==(⟨#[]⟩:ByteArray).toList) then
       (wnd f.length 0 (IntKind.wrap .i64 ((f.length:Int)-1))).bind fun p3=>
       g k (iA f p3.1 p3.2)
     else
       g k f) Q:=by
  have hp:0<f.length:=List.length_pos_iff.mpr hf
  rw [bQ (by omega) (by omega),show (f.length:Int)-1=((f.length-1:Nat):Int) by omega,kB,Int.toNat_natCast]
  have hg:f[f.length-1]? =some (f[f.length-1]):=List.getElem?_eq_getElem (by omega)
  have hgl:f.getLast? =some (f[f.length-1]):=by rw [List.getLast?_eq_getElem?,hg]
  refine Wp.opt hg (Wp.opt hg ?_)
  simp only [oA]
  refine Wp.ite (fun he=> ?_) (fun he=> ?_)
  ·refine Wp.opt (bX ⟨by omega,by omega,by omega⟩) ?_
   rw [show (0:Int).toNat=0 from rfl,Int.toNat_natCast,KA]
   unfold BG at h
   rw [if_pos (by rw [hgl,he])] at h
   exact h
  ·unfold BG at h
   rw [if_neg (by rw [hgl];intro g;exact he (Option.some.inj g))] at h
   exact h
theorem dB_:aS (LQ fa_ 8):=bl_ (by decide) (by decide)
theorem dD_ (s:ByteArray) (f:List ByteArray) (hs:s.size≤20000→∀x∈f,x.size≤20000):
    Wp (fun k=>eX k s f) (· =if s.size>20000 then ZI else if f.length>400 then ZI else mD (X4 (LQ fa_ 8) f)):=by
  refine Wp.step ?_
  simp only [eX]
  refine Wp.dec (fun h=>Wp.ret (by rw [if_pos (by omega)];rfl)) (fun h1=> ?_)
  rw [if_neg (by omega)]
  refine Wp.dec (fun h=>Wp.ret (by rw [if_pos (by omega)];rfl)) (fun h2=> ?_)
  rw [if_neg (by omega)]
  refine Wp.bind (IA _ _) (fun _ q=> ?_);subst q
  exact CS f (by omega) (hs (by omega)) f [] (LQ fa_ 8) [] dB_ rfl (Nat.zero_le _)
theorem gi_ (s:ByteArray) (f:List ByteArray) (hs:s.size≤20000→∀x∈f,x.size≤20000):
    Wp (fun k=>hU k s f) (· =if s.size>20000 then ZI else if f.length>400 then ZI else mD (X4 (LQ fa_ 8) f)):=by
  refine Wp.step ?_
  simp only [hU]
  refine Wp.dec (fun h=>Wp.ret (by rw [if_pos (by omega)];rfl)) (fun h1=> ?_)
  rw [if_neg (by omega)]
  refine Wp.dec (fun h=>Wp.ret (by rw [if_pos (by omega)];rfl)) (fun h2=> ?_)
  rw [if_neg (by omega)]
  refine Wp.bind (JL _ _) (fun _ q=> ?_);subst q
  exact CF f (by omega) (hs (by omega)) f [] (LQ fa_ 8) [] false dB_ rfl (Nat.zero_le _) (fun x h=>by simp at h) (.inl rfl)
theorem dA_ (s:ByteArray) (c:UInt8):pcM s c≠[]:=by obtain ⟨a,b,h⟩:=du_ s c;rw [h];simp
theorem yU (s:ByteArray) (hs:s.size≤1048576):Wp (fun k=>pC k s) (· =eQ_ s):=by
  unfold pC
  have hl:=XZ s 10
  refine Wp.dec (fun h=> ?_) (fun h=> ?_)
  ·refine Wp.bind (RN s 10 (by omega)) (fun _ q=> ?_);subst q
   refine Q2 (pcM s 10) (dA_ s 10) (by omega) (fun k f=>eX k s f) _ ?_
   exact dD_ s _ (fun g x hx=>Nat.le_trans (LK hx) g)
  ·have:=dD_ s [] (fun g x hx=>by simp at hx)
   rw [if_pos (by omega)] at this
   unfold eQ_
   rw [if_pos (by omega)]
   exact this
theorem zS (s:ByteArray) (hs:s.size≤1048576):Wp (fun k=>o6 k s) (· =eQ_ s):=by
  unfold o6
  have hl:=XZ s 10
  have hsp:=fun k=>FJ k s 10 (by omega)
  simp only [hsp]
  refine Wp.opt rfl ?_
  refine Q2 (pcM s 10) (dA_ s 10) (by omega) (fun k f=>hU k s f) _ ?_
  exact gi_ s _ (fun g x hx=>Nat.le_trans (LK hx) g)
def hL_ (L:List bI):Nat:=(L.filter (fun v=>decide (v.Kind=8))).length
theorem VQ (s:ByteArray) (i n:Int) (r:bF) (h:Rd n r) (hs:s.size≤100000) (hi:0≤i∧i≤s.size):Wp (fun k=>hD k s i r.b r.p) (fun v=>v.1.size≤2*s.size+1∧Rd n v.2):=by
  refine Wp.step ?_
  simp only [hD]
  refine Wp.opt (bX ⟨hi.1,hi.2,by omega⟩) ?_
  refine Wp.opt (aP (by simp;omega)) ?_
  exact Wp.ret ⟨by simp;omega,h⟩
theorem e2_ (r:bF) (s:ByteArray) (n:Int) (h:Rd n r) (hn:n≤900000) (hs:s.size≤100000):Wp (fun k=>uN k r s) (fun v=>v.1.size≤2*s.size+1∧Rd (n+10) v.2):=by
  unfold uN
  refine Wp.pick h (by omega) (by omega) (fun q1 r1 q10 q11 h1=> ?_)
  dsimp only
  have hm:0≤q1*((s.size:Int)+1)∧q1*((s.size:Int)+1)≤255*((s.size:Int)+1):=⟨Int.mul_nonneg q10 (by omega),Int.mul_le_mul_of_nonneg_right (by omega) (by omega)⟩
  rw [bQ (n:=(s.size:Int)+1) (by omega) (by omega),bQ (n:=q1*((s.size:Int)+1)) (by omega) (by omega)]
  refine Wp.opt (uV hm.1 (by omega)) ?_
  generalize hz:q1*((s.size:Int)+1)/256=z
  have hz0:0≤z∧z≤s.size:=by omega
  rw [bQ (n:=z) (by omega) (by omega)]
  refine Wp.pick h1 (by omega) (by omega) (fun q2 r2 q20 q21 h2=> ?_)
  simp only [kH,aJ]
  refine Wp.ite (fun _=> ?_) (fun _=> ?_)
  ·refine Wp.opt (bX ⟨by omega,hz0.1,hz0.2⟩) ?_
   exact Wp.ret ⟨by simp;omega,h2.mono (by omega)⟩
  refine Wp.ite (fun _=> ?_) (fun _=> ?_)
  ·refine Wp.opt (bX ⟨by omega,hz0.1,hz0.2⟩) ?_
   refine Wp.pick h2 (by omega) (by omega) (fun q3 r3 q30 q31 h3=> ?_)
   dsimp only
   refine Wp.from q30 (by simp;omega) (fun y hy=> ?_)
   have hy1:y.size=1:=by
     simp only [List.mem_cons,List.not_mem_nil,or_false] at hy
     rcases hy with rfl | rfl | rfl | rfl | rfl | rfl<;>rfl
   refine Wp.opt (aP (by simp;omega)) ?_
   refine Wp.opt (bX ⟨hz0.1,hz0.2,by omega⟩) ?_
   refine Wp.opt (aP (by simp;omega)) ?_
   exact Wp.ret ⟨by simp;omega,h3.mono (by omega)⟩
  refine Wp.ite (fun _=> ?_) (fun _=> ?_)
  ·refine Wp.ite (fun hl=> ?_) (fun hl=> ?_)
   ·rw [bQ (n:=z+1) (by omega) (by omega)]
    refine Wp.opt (bX ⟨by omega,hz0.1,hz0.2⟩) ?_
    refine Wp.opt (bX ⟨by omega,by omega,by omega⟩) ?_
    refine Wp.opt (aP (by simp;omega)) ?_
    exact Wp.ret ⟨by simp;omega,h2.mono (by omega)⟩
   ·exact (VQ s z _ r2 h2 hs hz0).mono fun v hv=>⟨hv.1,hv.2.mono (by omega)⟩
  refine Wp.ite (fun _=> ?_) (fun _=> ?_)
  ·refine Wp.ite (fun hl=> ?_) (fun hl=> ?_)
   ·rw [bQ (n:=z+1) (by omega) (by omega)]
    refine Wp.opt (bX ⟨by omega,hz0.1,hz0.2⟩) ?_
    have hb:=tH (b:=s) (i:=z.toNat) (by omega)
    rw [Int.toNat_of_nonneg hz0.1] at hb
    refine Wp.opt hb ?_
    refine Wp.pick h2 (by omega) (by omega) (fun q3 r3 q30 q31 h3=> ?_)
    dsimp only
    rw [show IntKind.wrap .u64 q3=q3 by unfold IntKind.wrap;simp [IntKind.bits,IntKind.signed];omega]
    refine Wp.opt (x:=IntKind.wrap .i64 (1*2^(min q3.toNat 64))) (by unfold shift;dsimp only;rw [if_neg (by omega)];rfl) ?_
    have hs1:∀y:Int,(mD [y]).size=1:=fun y=>rfl
    refine Wp.opt (aP (by rw [hs1];simp;omega)) ?_
    refine Wp.opt (bX ⟨by omega,by omega,by omega⟩) ?_
    refine Wp.opt (aP (by simp [hs1];omega)) ?_
    exact Wp.ret ⟨by simp [hs1];omega,h3.mono (by omega)⟩
   ·exact (VQ s z _ r2 h2 hs hz0).mono fun v hv=>⟨hv.1,hv.2.mono (by omega)⟩
  ·exact (VQ s z _ r2 h2 hs hz0).mono fun v hv=>⟨hv.1,hv.2.mono (by omega)⟩
theorem ON:∀(d:Nat) (n:Int),n<10^(d+1)→n≤9223372036854775807→d≤30→Wp (fun k=>aW k n) (fun r=>r.size≤d+1)
  | 0,n,h,_,_=>by
    refine Wp.step ?_
    simp only [aW]
    refine Wp.dec (fun _=>Wp.ret (by rw [kZ];exact Nat.le_refl 1)) (fun g=> ?_)
    rw [Int.pow_succ,Int.pow_zero] at h
    omega
  | d+1,n,h,h',hd=>by
    refine Wp.step ?_
    simp only [aW]
    refine Wp.dec (fun _=>Wp.ret (by rw [kZ];show 1≤_;omega)) (fun g=> ?_)
    refine Wp.opt (uV (by omega) (by omega)) ?_
    rw [bQ (by omega) (by omega)]
    rw [Int.pow_succ] at h
    refine Wp.bind (ON d (n/10) (by omega) (by omega) (by omega)) (fun r hr=> ?_)
    refine Wp.opt (kW (by omega) (by omega)) ?_
    have hb:∀y:Int,(mD [y]).size=1:=fun y=>kZ [y]
    refine Wp.opt (aP (by rw [hb];omega)) (Wp.ret ?_)
    rw [aD,hb];omega
theorem dO_ (n:Int) (h:n≤9223372036854775807):Wp (fun k=>aW k n) (fun r=>r.size≤19):=ON 18 n (by omega) h (by omega)
theorem pL (n:Int):Wp (fun k=>aW k n) (fun r=>r.size≤20):=by
  by_cases h:n≤9223372036854775807
  ·exact (dO_ n h).mono fun r hr=>by omega
  ·refine Wp.step ?_
   simp only [aW]
   refine Wp.dec (fun g=>by omega) (fun g=> ?_)
   refine Wp.opt (uV (by omega) (by omega)) ?_
   have hw:IntKind.wrap .i64 (n/10)≤9223372036854775807:=by rw [IntKind.wrap_i64];omega
   refine Wp.bind (dO_ _ hw) (fun r hr=> ?_)
   refine Wp.opt (kW (by omega) (by omega)) ?_
   have hb:∀y:Int,(mD [y]).size=1:=fun y=>kZ [y]
   refine Wp.opt (aP (by rw [hb];omega)) (Wp.ret ?_)
   rw [aD,hb];omega
def LnP (n:Int) (v:ByteArray×bF):Prop:=v.1.size≤250∧Rd n v.2
theorem dl_ (kd ek a b c:Int) (t:ByteArray) (ht:t.size≤190) (r:bF) (n:Int) (h:Rd n r) (hn:n≤900000):Wp (fun k=>nA k kd r.b r.p ek a b c t) (LnP (n+10)):=by
  refine Wp.step ?_
  simp only [nA,kH]
  refine Wp.ite (fun _=> ?_) (fun _=> ?_)
  ·refine Wp.pick h (by omega) (by omega) (fun q1 r1 q10 q11 h1=> ?_)
   dsimp only
   refine Wp.bind (pL _) (fun d hd=> ?_)
   refine Wp.opt (aP (by (simp only [aD,aK,List.size_toArray,List.length_cons,List.length_nil];omega))) ?_
   refine Wp.opt (aP (by (simp only [aD,aK,List.size_toArray,List.length_cons,List.length_nil];omega))) ?_
   refine Wp.pick h1 (by omega) (by omega) (fun q2 r2 q20 q21 h2=> ?_)
   dsimp only
   refine Wp.bind (pL _) (fun e he=> ?_)
   refine Wp.opt (aP (by (simp only [aD,aK,List.size_toArray,List.length_cons,List.length_nil];omega))) ?_
   exact Wp.ret ⟨by (simp only [aD,aK,List.size_toArray,List.length_cons,List.length_nil];omega),Rd.mono h2 (by omega)⟩
  refine Wp.ite (fun _=> ?_) (fun _=> ?_)
  ·refine Wp.pick h (by omega) (by omega) (fun q1 r1 q10 q11 h1=> ?_)
   dsimp only
   refine Wp.from q10 (by simp;omega) (fun y hy=> ?_)
   have hy1:y.size≤20:=by
     simp only [List.mem_cons,List.not_mem_nil,or_false] at hy
     have two:∀a b:Array UInt8,a.size≤20→(⟨a⟩:ByteArray).size≤20:=fun a b h=>h
     rcases hy with rfl | rfl | rfl | rfl | rfl | rfl | rfl | rfl | rfl | rfl | rfl | rfl | rfl | rfl | rfl | rfl | rfl | rfl | rfl | rfl | rfl | rfl | rfl | rfl<;>decide
   exact Wp.ret ⟨by show y.size≤250;omega,h1.mono (by omega)⟩
  refine Wp.ite (fun _=> ?_) (fun _=> ?_)
  ·exact Wp.ret ⟨by (simp only [aD,aK,List.size_toArray,List.length_cons,List.length_nil];omega),Rd.mono h (by omega)⟩
  refine Wp.ite (fun _=> ?_) (fun _=> ?_)
  ·refine Wp.bind (pL _) (fun d hd=> ?_)
   refine Wp.opt (aP (by (simp only [aD,aK,List.size_toArray,List.length_cons,List.length_nil];omega))) ?_
   exact Wp.ret ⟨by (simp only [aD,aK,List.size_toArray,List.length_cons,List.length_nil];omega),Rd.mono h (by omega)⟩
  refine Wp.ite (fun _=> ?_) (fun _=> ?_)
  ·refine Wp.bind (pL _) (fun d hd=> ?_)
   refine Wp.opt (aP (by (simp only [aD,aK,List.size_toArray,List.length_cons,List.length_nil];omega))) ?_
   exact Wp.ret ⟨by (simp only [aD,aK,List.size_toArray,List.length_cons,List.length_nil];omega),Rd.mono h (by omega)⟩
  refine Wp.ite (fun _=> ?_) (fun _=> ?_)
  ·refine Wp.bind (pL _) (fun d hd=> ?_)
   refine Wp.opt (aP (by (simp only [aD,aK,List.size_toArray,List.length_cons,List.length_nil];omega))) ?_
   exact Wp.ret ⟨by (simp only [aD,aK,List.size_toArray,List.length_cons,List.length_nil];omega),Rd.mono h (by omega)⟩
  refine Wp.ite (fun _=> ?_) (fun _=> ?_)
  ·refine Wp.bind (pL _) (fun d hd=> ?_)
   refine Wp.opt (aP (by (simp only [aD,aK,List.size_toArray,List.length_cons,List.length_nil];omega))) ?_
   refine Wp.opt (aP (by (simp only [aD,aK,List.size_toArray,List.length_cons,List.length_nil];omega))) ?_
   refine Wp.bind (pL _) (fun e he=> ?_)
   refine Wp.opt (aP (by (simp only [aD,aK,List.size_toArray,List.length_cons,List.length_nil];omega))) ?_
   refine Wp.opt (aP (by (simp only [aD,aK,List.size_toArray,List.length_cons,List.length_nil];omega))) ?_
   refine Wp.bind (pL _) (fun f hf=> ?_)
   refine Wp.opt (aP (by (simp only [aD,aK,List.size_toArray,List.length_cons,List.length_nil];omega))) ?_
   exact Wp.ret ⟨by (simp only [aD,aK,List.size_toArray,List.length_cons,List.length_nil];omega),Rd.mono h (by omega)⟩
  refine Wp.ite (fun _=> ?_) (fun _=> ?_)
  ·refine Wp.bind (pL _) (fun d hd=> ?_)
   refine Wp.opt (aP (by (simp only [aD,aK,List.size_toArray,List.length_cons,List.length_nil];omega))) ?_
   refine Wp.opt (aP (by (simp only [aD,aK,List.size_toArray,List.length_cons,List.length_nil];omega))) ?_
   refine Wp.bind (pL _) (fun e he=> ?_)
   refine Wp.opt (aP (by (simp only [aD,aK,List.size_toArray,List.length_cons,List.length_nil];omega))) ?_
   exact Wp.ret ⟨by (simp only [aD,aK,List.size_toArray,List.length_cons,List.length_nil];omega),Rd.mono h (by omega)⟩
  refine Wp.ite (fun _=> ?_) (fun _=> ?_)
  ·refine Wp.bind (pL _) (fun d hd=> ?_)
   refine Wp.opt (aP (by (simp only [aD,aK,List.size_toArray,List.length_cons,List.length_nil];omega))) ?_
   exact Wp.ret ⟨by (simp only [aD,aK,List.size_toArray,List.length_cons,List.length_nil];omega),Rd.mono h (by omega)⟩
  refine Wp.ite (fun _=> ?_) (fun _=> ?_)
  ·refine Wp.bind (pL _) (fun d hd=> ?_)
   refine Wp.opt (aP (by (simp only [aD,aK,List.size_toArray,List.length_cons,List.length_nil];omega))) ?_
   exact Wp.ret ⟨by (simp only [aD,aK,List.size_toArray,List.length_cons,List.length_nil];omega),Rd.mono h (by omega)⟩
  refine Wp.ite (fun _=> ?_) (fun _=> ?_)
  ·refine Wp.bind (pL _) (fun d hd=> ?_)
   refine Wp.opt (aP (by (simp only [aD,aK,List.size_toArray,List.length_cons,List.length_nil];omega))) ?_
   exact Wp.ret ⟨by (simp only [aD,aK,List.size_toArray,List.length_cons,List.length_nil];omega),Rd.mono h (by omega)⟩
  refine Wp.ite (fun _=> ?_) (fun _=> ?_)
  ·refine Wp.bind (pL _) (fun d hd=> ?_)
   refine Wp.opt (aP (by (simp only [aD,aK,List.size_toArray,List.length_cons,List.length_nil];omega))) ?_
   refine Wp.opt (aP (by (simp only [aD,aK,List.size_toArray,List.length_cons,List.length_nil];omega))) ?_
   refine Wp.opt (aP (by (simp only [aD,aK,List.size_toArray,List.length_cons,List.length_nil];omega))) ?_
   refine Wp.opt (aP (by (simp only [aD,aK,List.size_toArray,List.length_cons,List.length_nil];omega))) ?_
   exact Wp.ret ⟨by (simp only [aD,aK,List.size_toArray,List.length_cons,List.length_nil];omega),Rd.mono h (by omega)⟩
  ·refine Wp.bind (pL _) (fun d hd=> ?_)
   refine Wp.opt (aP (by (simp only [aD,aK,List.size_toArray,List.length_cons,List.length_nil];omega))) ?_
   exact Wp.ret ⟨by (simp only [aD,aK,List.size_toArray,List.length_cons,List.length_nil];omega),Rd.mono h (by omega)⟩
theorem YA (r:bF) (n:Int) (h:Rd n r):Wp (fun k=>j4 k r.b r.p) (LnP n):=by
  refine Wp.step ?_
  simp only [j4]
  exact Wp.ret ⟨by show 4≤250;omega,h⟩
theorem cN_ (r:bF) (n:Int) (h:Rd n r) (hn:0≤n∧n≤500000):Wp (fun k=>rZ k r) (LnP (n+70)):=by
  have fin:∀{m:Int} {v:ByteArray×bF},m≤n+70→LnP m v→LnP (n+70) v:=fun hm h=>⟨h.1,h.2.mono hm⟩
  unfold rZ
  refine Wp.bind (ZR r n h (by omega)) (fun v hv=> ?_)
  refine Wp.pick hv.2 (by omega) (by omega) (fun q r1 q0 q1 h1=> ?_)
  simp only [kH]
  refine Wp.ite (fun _=>(YA r1 _ h1).mono fun v hv=>fin (by omega) hv) (fun _=> ?_)
  refine Wp.ite (fun _=>(YA r1 _ h1).mono fun v hv=>fin (by omega) hv) (fun _=> ?_)
  exact (dl_ _ _ _ _ _ _ hv.1.1 r1 _ h1 (by omega)).mono fun v hv=>fin (by omega) hv
theorem cm_:∀(d:Nat) (s:ByteArray) (r:bF) (n:Int),Rd n r→0≤n→n+70*d≤400000→s.size+251*d≤20000→Wp (fun k=>dN k s (d:Int) r.b r.p) (fun v=>v.size≤50000)
  | 0,s,r,n,h,hn,hn',hs=>by
    refine Wp.step ?_
    simp only [dN]
    refine Wp.dec (fun g=>by omega) (fun _=> ?_)
    refine Wp.pick h (by omega) (by omega) (fun q r1 q0 q1 h1=> ?_)
    refine Wp.dec (fun _=> ?_) (fun _=> ?_)
    ·refine Wp.bind (e2_ r1 s _ h1 (by omega) (by omega)) (fun v hv=> ?_)
     exact Wp.ret (by have:=hv.1;omega)
    simp only [kH]
    refine Wp.ite (fun _=> ?_) (fun _=> ?_)
    ·refine Wp.pick h1 (by omega) (by omega) (fun q2 r2 q20 q21 h2=> ?_)
     dsimp only
     rw [bQ (by omega) (by omega)]
     have e5:(⟨#[115,104,111,119,10]⟩:ByteArray).size=5:=rfl
     refine Wp.bind (PH _ _ 2500 (by omega) (by rw [e5];omega) (by omega)) (fun v hv=> ?_)
     refine Wp.opt (aP (by omega)) (Wp.ret ?_)
     rw [aD];omega
    refine Wp.ite (fun _=> ?_) (fun _=>Wp.ret (by omega))
    refine Wp.dec (fun _=> ?_) (fun _=>Wp.ret (by omega))
    refine Wp.pick h1 (by omega) (by omega) (fun q2 r2 q20 q21 h2=> ?_)
    dsimp only
    have e1:(⟨#[120]⟩:ByteArray).size=1:=rfl
    rw [bQ (n:=20000-(s.size:Int)) (by omega) (by omega),bQ (by omega) (by omega)]
    refine Wp.bind (PH _ _ 20001 (by omega) (by rw [e1];omega) (by omega)) (fun v hv=> ?_)
    refine Wp.opt (aP (by omega)) (Wp.ret ?_)
    rw [aD];omega
  | d+1,s,r,n,h,hn,hn',hs=>by
    refine Wp.step ?_
    simp only [dN]
    refine Wp.dec (fun _=> ?_) (fun g=>by omega)
    refine Wp.bind (cN_ r n h (by omega)) ?_
    rintro ⟨v,r1⟩ ⟨hv,h1⟩
    dsimp only at hv h1⊢
    refine Wp.opt (aP (by omega)) ?_
    refine Wp.opt (aP (by (simp only [aD,aK,List.size_toArray,List.length_cons,List.length_nil];omega))) ?_
    rw [bQ (n:=((d+1:Nat):Int)-1) (by omega) (by omega),show ((d+1:Nat):Int)-1=(d:Int) by omega]
    exact cm_ d _ r1 (n+70) h1 (by omega) (by omega) (by (simp only [aD,aK,List.size_toArray,List.length_cons,List.length_nil];omega))
theorem bh_ (s:ByteArray) (hs:s.size≤1000) (r:bF) (n:Int) (h:Rd n r) (hn:0≤n∧n≤1000):Wp (fun k=>fE k s r.b r.p) (fun v=>v.size≤50000):=by
  refine Wp.step ?_
  simp only [fE]
  refine Wp.pick h (by omega) (by omega) (fun q r1 q0 q1 h1=> ?_)
  dsimp only
  rw [bQ (by omega) (by omega)]
  have:=cm_ (6+q).toNat s r1 (n+1) h1 (by omega) (by omega) (by omega)
  rw [Int.toNat_of_nonneg (by omega)] at this
  exact this
theorem b1_ (s:ByteArray) (hs:s.size≤100) (r:bF) (n:Int) (h:Rd n r) (hn:0≤n∧n≤100):Wp (fun k=>eZ k s r.b r.p) (fun v=>v.size≤50000):=by
  refine Wp.step ?_
  simp only [eZ]
  refine Wp.pick h (by omega) (by omega) (fun q r1 q0 q1 h1=> ?_)
  simp only [kH]
  refine Wp.ite (fun _=> ?_) (fun _=>bh_ s (by omega) r1 _ h1 (by omega))
  refine Wp.pick h1 (by omega) (by omega) (fun q2 r2 q20 q21 h2=> ?_)
  dsimp only
  refine Wp.bind (pL _) (fun d hd=> ?_)
  refine Wp.opt (aP (by (simp only [aD,aK,List.size_toArray,List.length_cons,List.length_nil];omega))) ?_
  refine Wp.opt (aP (by (simp only [aD,aK,List.size_toArray,List.length_cons,List.length_nil];omega))) ?_
  refine Wp.opt (aP (by (simp only [aD,aK,List.size_toArray,List.length_cons,List.length_nil];omega))) ?_
  exact bh_ _ (by (simp only [aD,aK,List.size_toArray,List.length_cons,List.length_nil];omega)) r2 _ h2 (by omega)
theorem ML (a:List Int) (h:∀y∈a,EG y):Wp (fun k=>lW k a) (fun v=>v.size≤50000):=by
  unfold lW
  refine Wp.bind (d4_ a h) (fun r h0=> ?_)
  refine Wp.pick h0 (by omega) (by omega) (fun q r1 q0 q1 h1=> ?_)
  dsimp only
  refine Wp.dec (fun _=> ?_) (fun _=> ?_)
  ·exact b1_ _ (by decide) r1 _ h1 (by omega)
  ·exact b1_ _ (by decide) r1 _ h1 (by omega)
theorem bx_ (t w:ByteArray) (ht:t.size≤1048576) (hw:w.size≤1048576):Wp (fun k=>i8 k t w) (· =true):=by
  refine Wp.step ?_
  simp only [i8]
  refine Wp.bind (zS w hw) (fun _ q=> ?_);subst q
  refine Wp.bind (zS t ht) (fun _ q=> ?_);subst q
  refine Wp.bind (yU w hw) (fun _ q=> ?_);subst q
  refine Wp.bind (yU t ht) (fun _ q=> ?_);subst q
  have tt:∀x:ByteArray,(x.toList==x.toList)=true:=fun x=>by simp
  refine Wp.dec (fun _=> ?_) (fun g=> ?_)
  ·simp only [tt,cond_true]
   exact Wp.ret rfl
  refine Wp.opt (bX ⟨by omega,by omega,by omega⟩) ?_
  refine Wp.not (fun _=> ?_) (fun e=> ?_)
  ·simp only [tt,cond_true]
   exact Wp.ret rfl
  ·simp only [tt,cond_true,beq_self_eq_true]
   refine Wp.opt (bX ⟨by omega,by omega,by omega⟩) (Wp.ret e)
theorem dT_ (t w:ByteArray) (ht:t.size≤50000) (hw:w.size≤50000):∀(d i:Nat) (q:Int),i+d=t.size→0≤q→q≤100→Wp (fun k=>gP k t q w (i:Int)) (· =true)
  | 0,i,q,h,h1,h2=>by
    refine Wp.step ?_
    simp only [gP]
    exact Wp.dec (fun g=>by omega) (fun _=>bx_ t w (by omega) (by omega))
  | d+1,i,q,h,h1,h2=>by
    have nx:∀q',0≤q'→q'≤100→Wp (fun k=>jZ k t q' w (i:Int)) (· =true):=fun q' g1 g2=>by
      refine Wp.step ?_
      simp only [jZ]
      rw [bQ (by omega) (by omega),cO_]
      exact dT_ t w ht hw d (i+1) q' (by omega) g1 g2
    refine Wp.step ?_
    simp only [gP]
    refine Wp.dec (fun _=> ?_) (fun g=>by omega)
    refine Wp.opt (tH (by omega)) ?_
    simp only [kH]
    refine Wp.ite (fun _=> ?_) (fun _=> ?_)
    ·rw [bQ (n:=q-1) (by omega) (by omega)]
     refine Wp.dec (fun _=> ?_) (fun g=>nx _ (by omega) (by omega))
     rw [bQ (by omega) (by omega)]
     refine Wp.opt (bX ⟨by omega,by omega,by omega⟩) ?_
     exact bx_ t _ (by omega) (by simp;omega)
    ·exact nx _ (by omega) h2
theorem exact_FnLines (a:List Int) (h:∀y∈a,EG y):∃k,rW k a=some true:=by
  refine Wp.exists (f:=fun k=>rW k a) ?_
  unfold rW
  refine Wp.dec (fun _=>Wp.ret rfl) (fun _=> ?_)
  refine Wp.bind (ML a h) (fun t ht=> ?_)
  refine Wp.opt (kW (by omega) (by omega)) ?_
  exact dT_ t t ht ht t.size 0 _ (by omega) (by omega) (by omega)
end Km.X
