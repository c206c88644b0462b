/- A part of the proof of FnTop: plain laws of these functions. There is no condition. -/
import Derived.Test.YtgffmpjadffjkaaGreatKmAm3
import Derived.Test.YtgffmpjadffjkaaGreatKxDef1
import Derived.Test.YtgffmpjadffjkaaGreatKxDef2
namespace Km.X
open Go Km
set_option linter.unusedVariables false
set_option linter.unusedSimpArgs false
def smL {α:Type} (p:α→Prop) (l:List α):Prop:=l.length≤1048576∧∀y∈l,p y
def B9_ (x:aA_):Prop:=x.Text.size≤1048576
def Ed_ (x:ag_):Prop:=B9_ x.Part
def Eu_ (x:ak_):Prop:=B9_ x.Part
def Av_ (x:aj_):Prop:=smL Ed_ x.Items
def zF_ (x:ai_):Prop:=smL Eu_ x.Held∧x.Open.size≤1048576∧smL (fun s:ByteArray=>s.size≤1048576) x.Ready
end Km.X
namespace Km.X
open Go Km
set_option linter.unusedVariables false
set_option linter.unusedSimpArgs false
end Km.X
namespace Km.X
open Go Km
set_option linter.unusedVariables false
set_option linter.unusedSimpArgs false
abbrev noB:ByteArray:=⟨#[]⟩
theorem d0_:noB.size=0:=rfl
theorem z6_ (bs:List Int):∀(s:ByteArray),bs.foldl (fun r n=>r.push (UInt8.ofNat n.toNat)) s=s++i8_ bs:=by
  induction bs with
  | nil=>intro s;simp [i8_]
  | cons b bs ih=>
    intro s
    simp only [List.foldl_cons,i8_]
    rw [ih,ih]
    apply ByteArray.ext;apply Array.ext'
    simp
theorem tX_ (b:Int) (bs:List Int):i8_ [b]++i8_ bs=i8_ (b::bs):=by
  have:=z6_ bs (i8_ [b])
  rw [←this];rfl
theorem Bh_:i8_ []=noB:=rfl
def ek_:Nat→Nat→List Int
  | 0,_=>[]
  | w+1,n=>ek_ w (n/256)++[((n%256:Nat):Int)]
theorem dy_:∀(w n:Nat),(ek_ w n).length=w
  | 0,_=>rfl
  | w+1,n=>by simp [ek_,dy_ w]
theorem py_ (d:Nat):∀(w n:Nat),(ek_ (w+d) n).drop d=ek_ w n
  | 0,n=>by
    rw [Nat.zero_add,List.drop_eq_nil_of_le (by rw [dy_];exact Nat.le_refl _)];rfl
  | w+1,n=>by
    rw [show w+1+d=(w+d)+1 by omega]
    simp only [ek_]
    rw [List.drop_append_of_le_length (by rw [dy_];omega),py_ d w]
theorem wu8 (n:Nat):IntKind.wrap .u8 (n:Int)=((n%256:Nat):Int):=by rw [IntKind.wrap_u8];omega
theorem Gz_ {n:Int} (h1:0≤n) (h2:n≤18446744073709551615):IntKind.wrap .u64 n=n:=IntWalk.u64_in n ⟨h1,h2⟩
theorem rD_ (n:Int):0≤IntKind.wrap .u64 n∧IntKind.wrap .u64 n≤18446744073709551615:=by
  simp only [IntKind.wrap,IntKind.signed,IntKind.bits,Bool.false_and]
  rw [if_neg (by simp)];omega
theorem xp_ (n:Nat):rX_ (n:Int) 256=some ((n%256:Nat):Int):=by rw [gj_ (by omega) (by omega)];simp
theorem wN_ (n:Nat):x9_ (n:Int) 256=some ((n/256:Nat):Int):=by rw [pI_ (by omega) (by omega)];simp
theorem z7_ (n:Nat):IntKind.wrap .u8 ((n%256:Nat):Int)=((n%256:Nat):Int):=by rw [wu8,Nat.mod_mod]
theorem F0_ {k:IntKind} (hk:8≤k.bits) (n:Nat):shift .shr k (n:Int) 8=some ((n/256:Nat):Int):=by
  simp only [shift]
  rw [if_neg (by omega)]
  congr 1
  rw [show (Int.toNat 8)=8 from rfl,Nat.min_eq_left hk,Int.fdiv_eq_ediv_of_nonneg _ (by simp)]
  simp
theorem uL_ (b:Int) (bs:List Int) (h:bs.length≤1000):jO_ (i8_ [b]) (i8_ bs)=some (i8_ (b::bs)):=by
  rw [bK_ (by rw [h7_,h7_];simp;omega),tX_]
theorem uS_ {d n:Nat} {b:List Int} (hlt:d<b.length):ek_ d (n/256)++(b.set d ((n%256:Nat):Int)).drop d=ek_ (d+1) n++b.drop (d+1):=by
  simp only [ek_,List.append_assoc,List.cons_append,List.nil_append]
  congr 1
  rw [List.drop_eq_getElem_cons (by simpa using hlt),List.drop_set_of_lt (by omega)]
  simp
theorem tT_:∀(d w i n:Nat) (tail:List Int),i+d=w→w≤8→n≤18446744073709551615→tail.length+d≤100→
    Wp (fun k=>fi_ k (w:Int) (n:Int) (i8_ tail) (i:Int)) (· =i8_ (ek_ d n++tail))
  | 0,w,i,n,tail,h,hw,hn,ht=>by
    refine Wp.step ?_
    simp only [fi_]
    simp (disch:=omega) only [al_,if_neg]
    exact Wp.ret rfl
  | d+1,w,i,n,tail,h,hw,hn,ht=>by
    refine Wp.step ?_
    simp only [fi_]
    simp (disch:=omega) only [al_,if_pos,xp_,wN_,Option.bind_some,z7_,uL_,Gz_,aS_,CI_]
    have ih:=tT_ d w (i+1) (n/256) (((n%256:Nat):Int)::tail) (by omega) hw (by omega) (by simp;omega)
    simpa [ek_] using ih
theorem t0_:∀(d w n:Nat) (b:List Int),b.length=8→d≤8→1≤w→w≤8→n≤18446744073709551615→
    Wp (fun k=>fk_ k (w:Int) (n:Int) ((d:Int)-1) b) (· =i8_ ((ek_ d n++b.drop d).drop (8-w)))
  | 0,w,n,b,hb,hd,hw1,hw,hn=>by
    refine Wp.step ?_
    simp only [fk_]
    simp (disch:=omega) only [al_,if_neg,if_pos hb,aS_,cA_,Option.bind_some]
    refine Wp.ret ?_
    simp only [ek_,List.nil_append,List.drop_zero,dY_]
    rw [show ((8:Int)-(w:Int)).toNat=8-w by omega,show Int.toNat 8=8 from rfl,List.take_of_length_le (by omega)]
  | d+1,w,n,b,hb,hd,hw1,hw,hn=>by
    refine Wp.step ?_
    simp only [fk_]
    rw [show ((d+1:Nat):Int)-1=(d:Int) by omega]
    have hlt:d<b.length:=by omega
    simp (disch:=first | omega | decide) only [al_,if_pos,if_pos hb,F5_,F7_,Option.bind_some,F0_,aS_,wu8]
    have ih:=t0_ d w (n/256) (b.set d ((n%256:Nat):Int)) (by simpa using hb) (by omega) hw1 hw (by omega)
    rw [uS_ hlt] at ih
    rw [Int.toNat_natCast]
    exact ih
def hstep (v:Int) (c:UInt8):Int:=IntKind.wrap .u64 ((iZ_ .u64 v (IntKind.wrap .u64 (c.toNat:Int)))*1099511628211)
def E5_ (l:List UInt8):Int:=l.foldl hstep 14695981039346656037
theorem of_ {pre t:List UInt8} {c:UInt8} {all:ByteArray} (h:all.data.toList=pre++c::t):tl_ all (pre.length:Int)=some c:=by
  have hl:pre.length<all.size:=by
    have:=congrArg List.length h
    simp at this
    have e:all.size=all.data.size:=rfl
    omega
  have hg:all.data[pre.length]? =some c:=by
    rw [←Array.getElem?_toList,h];simp
  unfold tl_
  rw [if_neg (by omega),Int.toNat_natCast]
  have e:all[pre.length]? =some (all[pre.length]'hl):=by simp [hl]
  rw [e]
  rw [Array.getElem?_eq_getElem (by exact hl)] at hg
  exact hg
theorem hv_ {pre t:List UInt8} {all:ByteArray} (h:all.data.toList=pre++t):all.size=pre.length+t.length:=by
  have:=congrArg List.length h
  simp at this
  exact this
theorem xz_ (all:ByteArray) (w:Nat) (hw:w≤8) (hs:all.size≤10000000):∀(t pre:List UInt8) (v:Int),all.data.toList=pre++t→0≤v∧v≤18446744073709551615→
    Wp (fun k=>fW_ k (w:Int) all v (pre.length:Int)) (· =i8_ (ek_ w (t.foldl hstep v).toNat))
  | [],pre,v,h,hv=>by
    refine Wp.step ?_
    have:=hv_ h
    simp only [List.length_nil] at this
    simp only [fW_]
    simp (disch:=omega) only [al_,if_neg]
    have h11:=tT_ w w 0 v.toNat [] (by omega) hw (by omega) (by simp;omega)
    rw [List.append_nil,show ((v.toNat:Nat):Int)=v by omega,Bh_] at h11
    exact h11
  | c::t,pre,v,h,hv=>by
    refine Wp.step ?_
    have hl:=hv_ h
    simp only [List.length_cons] at hl
    simp only [fW_]
    simp (disch:=omega) only [al_,if_pos,of_ h,Option.bind_some,aS_]
    have ih:=xz_ all w hw hs t (pre++[c]) (hstep v c) (by simpa using h) (rD_ _)
    rwa [←bd_] at ih
theorem xD_ (all:ByteArray) (w:Nat) (hw1:1≤w) (hw:w≤8) (hs:all.size≤10000000):∀(t pre:List UInt8) (v:Int),all.data.toList=pre++t→0≤v∧v≤18446744073709551615→
    Wp (fun k=>fK_ k (w:Int) v all (pre.length:Int)) (· =i8_ (ek_ w (t.foldl hstep v).toNat))
  | [],pre,v,h,hv=>by
    refine Wp.step ?_
    have:=hv_ h
    simp only [List.length_nil] at this
    simp only [fK_]
    simp (disch:=omega) only [al_,if_neg]
    have h11:=t0_ 8 w v.toNat (List.replicate 8 0) (by simp) (by omega) hw1 hw (by omega)
    rw [show ((v.toNat:Nat):Int)=v by omega] at h11
    have hd:=py_ (8-w) w v.toNat
    rw [show w+(8-w)=8 by omega] at hd
    refine Wp.mono h11 fun r hr=> ?_
    rw [hr,show List.drop 8 (List.replicate 8 (0:Int))=[] from rfl,List.append_nil,hd]
    rfl
  | c::t,pre,v,h,hv=>by
    refine Wp.step ?_
    have hl:=hv_ h
    simp only [List.length_cons] at hl
    simp only [fK_]
    simp (disch:=omega) only [al_,if_pos,of_ h,Option.bind_some,aS_]
    have ih:=xD_ all w hw1 hw hs t (pre++[c]) (hstep v c) (by simpa using h) (rD_ _)
    rwa [←bd_] at ih
theorem bX_ (a b c:Int):Wp (fun k=>az_ k a b c) (· =(decide (b≤a)&&decide (a≤c))):=by
  unfold az_
  refine Wp.dec (fun h=>Wp.ret ?_) (fun h=>Wp.ret ?_)
  ·rw [decide_eq_true (show b≤a by omega)];rfl
  ·rw [decide_eq_false (show¬b≤a by omega)];rfl
theorem lL_ (a b c:Int):Wp (fun k=>aN_ k a b c) (· =(decide (b≤a)&&decide (a≤c))):=bX_ a b c
theorem inB {a b c:Int}:(decide (b≤a)&&decide (a≤c))=decide (b≤a∧a≤c):=by rw [Bool.decide_and]
def y6_ (a b:ByteArray) (w:Int):ByteArray:=if w<1∨8<w∨30<b.size then noB else i8_ (ek_ w.toNat (E5_ (b++⟨#[0]⟩++a).data.toList).toNat)
theorem x3_ (a b:ByteArray) (w:Int) (ha:a.size≤1048576):Wp (fun k=>ok_ k a b w) (· =y6_ a b w):=by
  unfold ok_ y6_
  refine Wp.bind (bX_ _ _ _) (fun _ e=> ?_);subst e
  simp only [inB,bf_,al_]
  refine Wp.ite (fun h1=> ?_) (fun h1=> ?_)
  ·refine Wp.ite (fun h2=> ?_) (fun h2=> ?_)
   ·rw [if_pos (by omega)];exact Wp.ret rfl
   ·rw [if_neg (by omega)]
    have e0:(⟨#[0]⟩:ByteArray).size=1:=rfl
    have hsz:(b++⟨#[0]⟩++a).size=b.size+1+a.size:=by rw [aD_,aD_,e0]
    refine Wp.opt (bK_ (by rw [e0];omega)) ?_
    refine Wp.opt (bK_ (by rw [aD_,e0];omega)) ?_
    obtain ⟨n,rfl⟩:∃n:Nat,w=n:=⟨w.toNat,by omega⟩
    exact xz_ _ n (by omega) (by omega) _ [] _ rfl (by omega)
  ·rw [if_pos (by omega)];exact Wp.ret rfl
theorem yB_ (a b:ByteArray) (w:Int) (ha:a.size≤1048576):Wp (fun k=>oj_ k a b w) (· =y6_ a b w):=by
  unfold oj_ y6_
  simp only [al_]
  refine Wp.ite (fun h1=> ?_) (fun h1=> ?_)
  ·rw [if_pos (by omega)];exact Wp.ret rfl
  refine Wp.ite (fun h2=> ?_) (fun h2=> ?_)
  ·rw [if_pos (by omega)];exact Wp.ret rfl
  refine Wp.ite (fun h3=> ?_) (fun h3=> ?_)
  ·rw [if_pos (by omega)];exact Wp.ret rfl
  rw [if_neg (by omega)]
  have e0:(⟨#[0]⟩:ByteArray).size=1:=rfl
  have hsz:(b++⟨#[0]⟩++a).size=b.size+1+a.size:=by rw [aD_,aD_,e0]
  refine Wp.opt (bK_ (by rw [e0];omega)) ?_
  refine Wp.opt (bK_ (by rw [aD_,e0];omega)) ?_
  obtain ⟨n,rfl⟩:∃n:Nat,w=n:=⟨w.toNat,by omega⟩
  exact xD_ _ n (by omega) (by omega) (by omega) _ [] _ rfl (by omega)
theorem qB_ (a b:ByteArray) (w:Int):(y6_ a b w).size≤8:=by
  unfold y6_
  split
  ·simp [d0_]
  ·rw [h7_,dy_];omega
end Km.X
namespace Km.X
open Go Km
set_option linter.unusedVariables false
set_option linter.unusedSimpArgs false
def OkItem (i:Nat) (x:ag_):Prop:=x.Part.Text.size≤20∧(-1≤x.Since∧x.Since≤3)∧(8≤i→x.Since= -1)∧(x.Has=true→0≤x.Since)
def OkItems:Nat→List ag_→Prop
  | _,[]=>True
  | i,x::t=>OkItem i x∧OkItems (i+1) t
instance (i:Nat) (x:ag_):Decidable (OkItem i x):=by unfold OkItem;infer_instance
instance x0_:(i:Nat)→(l:List ag_)→Decidable (OkItems i l)
  | _,[]=> .isTrue trivial
  | i,x::t=>by
    have:=x0_ (i+1) t
    unfold OkItems;infer_instance
def VSend (s:aj_):Prop:=s.Items.length≤60∧(0≤s.Base∧s.Base≤1000000)∧s.Base+s.Items.length≤1000000∧OkItems 0 s.Items
instance (s:aj_):Decidable (VSend s):=by unfold VSend;infer_instance
theorem e7_:∀{l:List ag_} {i:Nat},OkItems i l→∀(j:Nat) (x:ag_),l[j]? =some x→OkItem (i+j) x
  | [],_,_,j,x,h=>by simp at h
  | y::t,i,⟨h1,h2⟩,j,x,h=>by
    cases j with
    | zero=>simp at h;subst h;exact h1
    | succ j=>have:=e7_ h2 j x (by simpa using h);rwa [show i+1+j=i+(j+1) by omega] at this
theorem kq_ (b:Int):∀(t pre:List ag_),(pre++t).length≤60→Wp (fun k=>aM_ k (pre.length:Int) b (pre++t)) (· =decide (OkItems pre.length t))
  | [],pre,hl=>by
    refine Wp.step ?_
    simp only [aM_,List.append_nil]
    simp (disch:=omega) only [al_,if_neg]
    exact Wp.ret rfl
  | x::t,pre,hl=>by
    refine Wp.step ?_
    have hl':=hl
    simp only [List.length_append,List.length_cons] at hl
    simp only [aM_,OkItems]
    simp (disch:=omega) only [al_,cZ_,if_true,aI_,Option.bind_some,aS_,bf_,ma_]
    have F:¬OkItem pre.length x→Wp (fun _=>some false) (· =decide (OkItem pre.length x∧OkItems (pre.length+1) t)):=fun h=>Wp.ret (decide_eq_false fun h'=>h h'.1).symm
    have ih:=kq_ b t (pre++[x]) (by simpa using hl')
    rw [←aX_,←bd_,List.length_append,List.length_singleton] at ih
    have G:OkItem pre.length x→Wp (fun k=>aM_ k ((pre.length:Int)+1) b (pre++x::t)) (· =decide (OkItem pre.length x∧OkItems (pre.length+1) t)):=fun h=>by
      refine Wp.mono ih fun r hr=> ?_
      rw [hr,decide_eq_decide]
      exact ⟨fun g=>⟨h,g⟩,fun g=>g.2⟩
    refine Wp.ite (fun h=>F fun h'=>by have:=h'.1;omega) (fun h1=> ?_)
    refine Wp.bind (bX_ _ _ _) (fun _ e=> ?_);subst e
    simp only [inB,al_]
    refine Wp.ite (fun h2=> ?_) (fun h2=>F fun h'=>h2 h'.2.1)
    refine Wp.ite (fun h3=> ?_) (fun h3=> ?_)
    ·refine Wp.ite (fun h4=> ?_) (fun h4=>F fun h'=>h4 (h'.2.2.1 (by omega)))
     refine Wp.bif (fun h5=> ?_) (fun h5=> ?_)
     ·refine Wp.ite (fun h6=>F fun h'=>by have:=h'.2.2.2 h5;omega) (fun h6=>by omega)
     ·exact G ⟨by omega,h2,fun _=>h4,fun h=>by rw [h5] at h;cases h⟩
    ·refine Wp.bif (fun h5=> ?_) (fun h5=> ?_)
     ·refine Wp.ite (fun h6=>F fun h'=>by have:=h'.2.2.2 h5;omega) (fun h6=> ?_)
      exact G ⟨by omega,h2,fun h=>by omega,fun _=>by omega⟩
     ·exact G ⟨by omega,h2,fun h=>by omega,fun h=>by rw [h5] at h;cases h⟩
theorem dJ_ (s:aj_):Wp (fun k=>bA_ k s) (· =decide (VSend s)):=by
  unfold bA_
  simp only [al_,bf_]
  have F:¬VSend s→Wp (fun _=>some false) (· =decide (VSend s)):=fun h=>Wp.ret (decide_eq_false h).symm
  refine Wp.ite (fun h=>F fun h'=>by have:=h'.1;omega) (fun h1=> ?_)
  refine Wp.bind (bX_ _ _ _) (fun _ e=> ?_);subst e
  simp only [inB,al_]
  refine Wp.ite (fun h2=> ?_) (fun h2=>F fun h'=>h2 h'.2.1)
  rw [aS_ (by omega) (by omega)]
  refine Wp.ite (fun h3=>F fun h'=>by have:=h'.2.2.1;omega) (fun h3=> ?_)
  refine Wp.mono (kq_ s.Base s.Items [] (by simp;omega)) fun r hr=> ?_
  rw [hr,decide_eq_decide]
  exact ⟨fun h=>⟨by omega,h2,by omega,h⟩,fun h=>h.2.2.2⟩
theorem iJ_ (xs:List ag_) (b:Int):∀(k:Nat) (j:Int),bw_ k xs (xs.length:Int) j=aM_ k j b xs
  | 0,_=>rfl
  | k+1,j=>by
    have hi:∀a b c,aN_ k a b c=az_ k a b c:=fun _ _ _=>rfl
    simp only [bw_,aM_,iJ_ xs b k,hi]
theorem qQ_ (k:Nat) (s:aj_):bn_ k s=bA_ k s:=by
  have hi:∀a b c,aN_ k a b c=az_ k a b c:=fun _ _ _=>rfl
  simp only [bn_,bA_,hi,iJ_ s.Items s.Base]
theorem e2_ (s:aj_):Wp (fun k=>bn_ k s) (· =decide (VSend s)):=by
  have:(fun k=>bn_ k s)=fun k=>bA_ k s:=funext fun k=>qQ_ k s
  rw [this];exact dJ_ s
theorem hV_ (s:aj_) (h:s.Items.length≤1048576):Wp (fun k=>ep_ k s) (· =s):=by
  unfold ep_
  refine Wp.opt (aQ_ (by simp;omega)) ?_
  exact Wp.ret (by rw [List.nil_append])
theorem kP_ (s:aj_) (h:s.Items.length≤1048576):Wp (fun k=>ey_ k s) (· =s):=hV_ s h
abbrev id_:aj_:=⟨0,[]⟩
def fQ_ (x:ag_):ag_:=if x.Has=true then x else if x.Since= -1 then ⟨x.Part,x.Has,0⟩ else if x.Since=3 then ⟨x.Part,x.Has,0⟩ else ⟨x.Part,x.Has,x.Since+1⟩
def fb_ (x:ag_):Prop:=¬x.Has=true∧(x.Since= -1∨x.Since=3)
instance (x:ag_):Decidable (fb_ x):=by unfold fb_;infer_instance
def dx_:Nat→Int→List ag_→List ag_×List Int
  | _,_,[]=>([],[])
  | i,b,x::t=>if 8≤i then (x::t,[]) else (fQ_ x::(dx_ (i+1) b t).1,(if fb_ x then [b+i] else [])++(dx_ (i+1) b t).2)
def hT_ (s:aj_):aj_×List Int:=if VSend s then (⟨s.Base,(dx_ 0 s.Base s.Items).1⟩,(dx_ 0 s.Base s.Items).2) else (id_,[])
theorem rn_ (b:Int) (xs ys:List ag_) (c d:Int) (hb:0≤b∧b≤1000000):∀(t pre:List ag_) (sent:List Int),(pre++t).length≤60→sent.length≤pre.length→OkItems pre.length t→
    Wp (fun k=>cP_ k (pre.length:Int) b xs c sent d ys (pre++t)) (· =(⟨d,pre++(dx_ pre.length b t).1⟩,sent++(dx_ pre.length b t).2))
  | [],pre,sent,hl,hs,hok=>by
    refine Wp.step ?_
    simp only [cP_,List.append_nil]
    simp (disch:=omega) only [al_,if_neg]
    exact Wp.ret (by simp [dx_])
  | x::t,pre,sent,hl,hs,hok=>by
    refine Wp.step ?_
    have hl':=hl
    simp only [List.length_append,List.length_cons] at hl
    simp only [cP_]
    simp only [al_,cZ_,if_true,aI_,fo_,Option.bind_some,fl_,set_mid]
    simp (disch:=omega) only [aS_]
    refine Wp.ite (fun h8=> ?_) (fun h8=> ?_)
    ·have ih:=fun y sent' hs'=>rn_ b xs ys c d hb t (pre++[y]) sent' (by simpa using hl') hs' (by rw [List.length_append,List.length_singleton];exact hok.2)
     have ih':∀(y:ag_) (sent':List Int),sent'.length≤pre.length+1→fQ_ x=y→sent'=sent++(if fb_ x then [b+(pre.length:Int)] else [])→
      Wp (fun k=>ca_ k (pre.length:Int) b xs c sent' d ys (pre++y::t)) (· =(⟨d,pre++(dx_ pre.length b (x::t)).1⟩,sent++(dx_ pre.length b (x::t)).2)):=by
       intro y sent' hs' hy hs2
       refine Wp.step ?_
       simp only [ca_]
       have:=ih y sent' (by simpa using hs')
       rw [←aX_,←bd_,List.length_append,List.length_singleton] at this
       rw [aS_ (by omega) (by omega)]
       refine this.mono fun r hr=> ?_
       rw [hr]
       simp only [dx_]
       rw [if_neg (by omega),hs2,hy]
       simp
     refine Wp.bif (fun hh=>ih' x sent (by omega) (by simp [fQ_,hh]) (by simp [fb_,hh])) (fun hh=> ?_)
     have hx:=hok.1
     refine Wp.ite (fun h1=> ?_) (fun h1=> ?_)
     ·refine Wp.opt (aQ_ (by simp;omega)) ?_
      exact ih' _ _ (by simp;omega) (by simp [fQ_,hh,h1]) (by simp [fb_,hh,h1])
     refine Wp.ite (fun h2=> ?_) (fun h2=> ?_)
     ·refine Wp.opt (aQ_ (by simp;omega)) ?_
      exact ih' _ _ (by simp;omega) (by simp [fQ_,hh,h2]) (by simp [fb_,hh,h2])
     ·have:=hx.2.1
      rw [aS_ (by omega) (by omega)]
      exact ih' _ _ (by omega) (by simp [fQ_,hh,h1,h2]) (by simp [fb_,hh,h1,h2])
    ·refine Wp.ret ?_
     simp only [dx_]
     rw [if_pos (by omega)];simp
theorem rg_ (ys:List ag_) (c d:Int) (hb:0≤d∧d≤1000000):∀(t pre:List ag_) (sent:List Int),(pre++t).length≤60→sent.length≤pre.length→OkItems pre.length t→
    Wp (fun k=>cU_ k (pre.length:Int) c d sent ys (pre++t)) (· =(⟨d,pre++(dx_ pre.length d t).1⟩,sent++(dx_ pre.length d t).2))
  | [],pre,sent,hl,hs,hok=>by
    refine Wp.step ?_
    simp only [cU_,List.append_nil]
    simp (disch:=omega) only [al_,if_neg]
    exact Wp.ret (by simp [dx_])
  | x::t,pre,sent,hl,hs,hok=>by
    refine Wp.step ?_
    have hl':=hl
    simp only [List.length_append,List.length_cons] at hl
    simp only [cU_]
    simp only [al_,cZ_,if_true,aI_,fo_,Option.bind_some,fl_,set_mid]
    simp (disch:=omega) only [aS_]
    refine Wp.ite (fun h8=> ?_) (fun h8=> ?_)
    ·have ih:=fun y sent' hs'=>rg_ ys c d hb t (pre++[y]) sent' (by simpa using hl') hs' (by rw [List.length_append,List.length_singleton];exact hok.2)
     have ih':∀(y:ag_) (sent':List Int),sent'.length≤pre.length+1→fQ_ x=y→sent'=sent++(if fb_ x then [d+(pre.length:Int)] else [])→
      Wp (fun k=>ce_ k (pre.length:Int) c d sent' ys (pre++y::t)) (· =(⟨d,pre++(dx_ pre.length d (x::t)).1⟩,sent++(dx_ pre.length d (x::t)).2)):=by
       intro y sent' hs' hy hs2
       refine Wp.step ?_
       simp only [ce_]
       have:=ih y sent' (by simpa using hs')
       rw [←aX_,←bd_,List.length_append,List.length_singleton] at this
       rw [aS_ (by omega) (by omega)]
       refine this.mono fun r hr=> ?_
       rw [hr]
       simp only [dx_]
       rw [if_neg (by omega),hs2,hy]
       simp
     refine Wp.bif (fun hh=>ih' x sent (by omega) (by simp [fQ_,hh]) (by simp [fb_,hh])) (fun hh=> ?_)
     have hx:=hok.1
     refine Wp.ite (fun h1=> ?_) (fun h1=> ?_)
     ·refine Wp.opt (aQ_ (by simp;omega)) ?_
      exact ih' _ _ (by simp;omega) (by simp [fQ_,hh,h1]) (by simp [fb_,hh,h1])
     refine Wp.ite (fun h2=> ?_) (fun h2=> ?_)
     ·refine Wp.opt (aQ_ (by simp;omega)) ?_
      exact ih' _ _ (by simp;omega) (by simp [fQ_,hh,h2]) (by simp [fb_,hh,h2])
     ·have:=hx.2.1
      rw [aS_ (by omega) (by omega)]
      exact ih' _ _ (by omega) (by simp [fQ_,hh,h1,h2]) (by simp [fb_,hh,h1,h2])
    ·refine Wp.ret ?_
     simp only [dx_]
     rw [if_pos (by omega)];simp
theorem oS_ (s:aj_):Wp (fun k=>fB_ k s) (· =hT_ s):=by
  unfold fB_ hT_
  refine Wp.bind (dJ_ s) (fun _ e=> ?_);subst e
  simp only [bf_,al_]
  refine Wp.ite (fun h=> ?_) (fun h=>Wp.ret (by rw [if_neg h]))
  rw [if_pos h]
  refine Wp.bind (hV_ s (by have:=h.1;omega)) (fun _ e=> ?_);subst e
  exact rn_ _ _ _ _ _ h.2.1 _ [] [] (by simpa using h.1) (by simp) h.2.2.2
theorem vF_ (s:aj_):Wp (fun k=>gu_ k s) (· =hT_ s):=by
  unfold gu_ hT_
  refine Wp.bind (e2_ s) (fun _ e=> ?_);subst e
  simp only [bf_,al_]
  refine Wp.ite (fun h=> ?_) (fun h=>Wp.ret (by rw [if_neg h]))
  rw [if_pos h]
  refine Wp.bind (kP_ s (by have:=h.1;omega)) (fun _ e=> ?_);subst e
  exact rg_ _ _ _ h.2.1 _ [] [] (by simpa using h.1) (by simp) h.2.2.2
end Km.X
namespace Km.X
open Go Km
set_option linter.unusedVariables false
set_option linter.unusedSimpArgs false
theorem il_:VSend id_:=⟨by simp,by simp,by simp,trivial⟩
theorem oL_:∀{l:List ag_} {i:Nat},OkItems i l→∀x∈l,x.Part.Text.size≤20
  | [],_,_,x,h=>by simp at h
  | y::t,i,⟨h1,h2⟩,x,h=>by
    rcases List.mem_cons.mp h with rfl | h
    ·exact h1.1
    ·exact oL_ h2 x h
theorem VSend.sm {s:aj_} (h:VSend s):Av_ s:=by
  unfold Av_ smL
  refine ⟨by have:=h.1;omega,fun x hx=> ?_⟩
  have:=oL_ h.2.2.2 x hx
  show x.Part.Text.size≤1048576
  omega
theorem yL_ (x:ag_):(fQ_ x).Part=x.Part:=by unfold fQ_;repeat' split<;>try rfl
theorem n6_:∀(t:List ag_) (i:Nat) (b:Int),OkItems i t→OkItems i (dx_ i b t).1∧(dx_ i b t).1.length=t.length∧(dx_ i b t).2.length≤t.length
  | [],i,b,h=>⟨trivial,rfl,by simp [dx_]⟩
  | x::t,i,b,⟨h1,h2⟩=>by
    simp only [dx_]
    split
    ·exact ⟨⟨h1,h2⟩,rfl,by simp⟩
    ·have:=n6_ t (i+1) b h2
     refine ⟨⟨?_,this.1⟩,by simp [this.2.1], ?_⟩
     ·obtain ⟨a1,a2,a3,a4⟩:=h1
      refine ⟨by rw [yL_];exact a1, ?_,fun _=>by omega, ?_⟩
      ·unfold fQ_;split
       ·exact a2
       ·split
        ·simp
        ·split
         ·simp
         ·simp only;omega
      ·unfold fQ_;split
       ·exact a4
       ·rename_i hh
        split
        ·intro h;exact absurd h hh
        ·split<;>(intro h;exact absurd h hh)
     ·have h3:=this.2.2
      simp only [List.length_append,List.length_cons]
      split<;>simp<;>omega
theorem oc_ (s:aj_):VSend (hT_ s).1∧(hT_ s).2.length≤60:=by
  unfold hT_
  split
  ·rename_i h
   have:=n6_ s.Items 0 s.Base h.2.2.2
   refine ⟨⟨by simp only;rw [this.2.1];exact h.1,h.2.1,by simp only;rw [this.2.1];exact h.2.2.1,this.1⟩,by have:=h.1;simp only;omega⟩
  ·exact ⟨il_,by simp⟩
end Km.X
namespace Km.X
open Go Km
set_option linter.unusedVariables false
set_option linter.unusedSimpArgs false
def Ap_:Nat→ByteArray→List aA_
  | 0,_=>[]
  | n+1,s=>if 20<s.size then ⟨s.extract 0 20,false⟩::Ap_ n (s.extract 20 s.size) else [⟨s,true⟩]
theorem xw_:∀(n:Nat) (s:ByteArray) (acc:List aA_),s.size≤20*n→acc.length+n≤100→0<n→Wp (fun k=>e8_ k s acc) (· =acc++Ap_ n s)
  | 0,s,acc,h,hl,h0=>by omega
  | n+1,s,acc,h,hl,h0=>by
    refine Wp.step ?_
    simp only [e8_,Ap_]
    simp only [al_]
    refine Wp.ite (fun h1=> ?_) (fun h1=> ?_)
    ·have h1':20<s.size:=by omega
     rw [if_pos h1']
     refine Wp.opt (cA_ (by omega)) ?_
     refine Wp.opt (aQ_ (by simp;omega)) ?_
     refine Wp.opt (cA_ (by omega)) ?_
     have:=xw_ n (s.extract 20 s.size) (acc++[⟨s.extract 0 20,false⟩]) (by rw [ByteArray.size_extract];omega) (by simp;omega) (by omega)
     simp only [List.append_assoc,List.cons_append,List.nil_append] at this
     exact this
    ·rw [if_neg (by omega)]
     refine Wp.opt (aQ_ (by simp;omega)) ?_
     exact Wp.ret rfl
theorem xv_:∀(k:Nat) (s:ByteArray) (acc:List aA_),gP_ k s acc=e8_ k s acc
  | 0,_,_=>rfl
  | k+1,s,acc=>by
    simp only [gP_,e8_,xv_ k]
def qF_ (s:ByteArray):List aA_:=if 200<s.size then [] else Ap_ 10 s
theorem rk_ (s:ByteArray):Wp (fun k=>jV_ k s) (· =qF_ s):=by
  unfold jV_ qF_
  simp only [al_]
  refine Wp.ite (fun h=> ?_) (fun h=> ?_)
  ·rw [if_pos (by omega)];exact Wp.ret rfl
  ·rw [if_neg (by omega)];exact xw_ 10 s [] (by omega) (by simp) (by omega)
theorem yp_ (s:ByteArray):Wp (fun k=>lQ_ k s) (· =qF_ s):=by
  have:(fun k=>lQ_ k s)=fun k=>jV_ k s:=funext fun k=>by simp only [lQ_,jV_,xv_]
  rw [this];exact rk_ s
theorem zU_:∀(n:Nat) (s:ByteArray),s.size≤20*n→(Ap_ n s).length≤n∧∀p∈Ap_ n s,p.Text.size≤20
  | 0,s,h=>⟨by simp [Ap_],fun p hp=>by simp [Ap_] at hp⟩
  | n+1,s,h=>by
    simp only [Ap_]
    split
    ·have:=zU_ n (s.extract 20 s.size) (by rw [ByteArray.size_extract];omega)
     refine ⟨by simp [this.1],fun p hp=> ?_⟩
     rcases List.mem_cons.mp hp with rfl | hp
     ·simp only [ByteArray.size_extract];omega
     ·exact this.2 p hp
    ·refine ⟨by simp,fun p hp=> ?_⟩
     simp only [List.mem_singleton] at hp
     subst hp;simp only;omega
theorem sP_ (s:ByteArray):(qF_ s).length≤10∧∀p∈qF_ s,p.Text.size≤20:=by
  unfold qF_
  split
  ·exact ⟨by simp,fun p hp=>by simp at hp⟩
  ·exact zU_ 10 s (by omega)
def zS_ (p:aA_):ag_:=⟨p,false,-1⟩
def mk_ (s:aj_) (t:ByteArray):aj_×Int:=
  if VSend s∧t.size≤200 then
   if s.Items.length+(qF_ t).length≤60∧s.Base+(s.Items.length+(qF_ t).length:Nat)≤1000000 then (⟨s.Base,s.Items++(qF_ t).map zS_⟩,0) else (id_,3)
  else (id_,1)
theorem uD_ (c b:Int) (e:List ag_):∀(t pre:List aA_) (acc:List ag_),(pre++t).length≤100→acc.length+t.length≤1000→
    Wp (fun k=>cQ_ k (pre.length:Int) c (pre++t) b e acc) (· =(⟨b,acc++t.map zS_⟩,0))
  | [],pre,acc,hl,ha=>by
    refine Wp.step ?_
    simp only [cQ_,List.append_nil]
    simp (disch:=omega) only [al_,if_neg]
    exact Wp.ret (by simp)
  | x::t,pre,acc,hl,ha=>by
    refine Wp.step ?_
    have hl':=hl
    simp only [List.length_append,List.length_cons] at hl ha
    simp only [cQ_]
    simp only [al_,cZ_,if_true,aI_,fo_,Option.bind_some]
    refine Wp.opt (aQ_ (by simp;omega)) ?_
    simp (disch:=omega) only [aS_]
    have ih:=uD_ c b e t (pre++[x]) (acc++[zS_ x]) (by simpa using hl') (by simp;omega)
    rw [←aX_,←bd_] at ih
    simp only [List.append_assoc,List.cons_append,List.nil_append] at ih
    exact ih
theorem tu_ (c b:Int) (e:List ag_):∀(t pre:List aA_) (acc:List ag_),(pre++t).length≤100→acc.length+t.length≤1000→
    Wp (fun k=>cL_ k ((pre++t).length:Int) (pre.length:Int) c b (pre++t) e acc) (· =(⟨b,acc++t.map zS_⟩,0))
  | [],pre,acc,hl,ha=>by
    refine Wp.step ?_
    simp only [cL_,List.append_nil]
    simp (disch:=omega) only [al_,if_neg]
    exact Wp.ret (by simp)
  | x::t,pre,acc,hl,ha=>by
    refine Wp.step ?_
    have hl':=hl
    simp only [List.length_append,List.length_cons] at hl ha
    simp only [cL_]
    simp only [al_,cZ_,if_true,aI_,fo_,Option.bind_some]
    refine Wp.opt (aQ_ (by simp;omega)) ?_
    simp (disch:=omega) only [aS_]
    have ih:=tu_ c b e t (pre++[x]) (acc++[zS_ x]) (by simpa using hl') (by simp;omega)
    rw [←aX_,←bd_] at ih
    simp only [List.append_assoc,List.cons_append,List.nil_append] at ih
    exact ih
theorem pL_ (s:aj_) (t:ByteArray):Wp (fun k=>dB_ k s t) (· =mk_ s t):=by
  unfold dB_ mk_
  refine Wp.bind (dJ_ s) (fun _ e=> ?_);subst e
  simp only [bf_,al_]
  refine Wp.ite (fun h=> ?_) (fun h=>Wp.ret (by rw [if_neg (fun g=>h g.1)]))
  refine Wp.ite (fun h2=>Wp.ret (by rw [if_neg (fun g=>by omega)])) (fun h2=> ?_)
  rw [if_pos ⟨h,by omega⟩]
  refine Wp.bind (rk_ t) (fun _ e=> ?_);subst e
  have:=h.1;have hb:=h.2.1;have hc:=(sP_ t).1
  simp (disch:=omega) only [aS_]
  refine Wp.ite (fun h3=>Wp.ret (by rw [if_neg (fun g=>by omega)])) (fun h3=> ?_)
  refine Wp.ite (fun h4=>Wp.ret (by rw [if_neg (fun g=>by omega)])) (fun h4=> ?_)
  rw [if_pos ⟨by omega,by omega⟩]
  refine Wp.bind (hV_ s (by omega)) (fun _ e=> ?_);subst e
  exact uD_ _ _ _ (qF_ t) [] _ (by simp;omega) (by omega)
theorem wn_ (s:aj_) (t:ByteArray):Wp (fun k=>gA_ k s t) (· =mk_ s t):=by
  unfold gA_ mk_
  refine Wp.bind (e2_ s) (fun _ e=> ?_);subst e
  simp only [bf_,al_]
  refine Wp.ite (fun h=> ?_) (fun h=>Wp.ret (by rw [if_neg (fun g=>h g.1)]))
  refine Wp.ite (fun h2=>Wp.ret (by rw [if_neg (fun g=>by omega)])) (fun h2=> ?_)
  rw [if_pos ⟨h,by omega⟩]
  refine Wp.bind (yp_ t) (fun _ e=> ?_);subst e
  have:=h.1;have hb:=h.2.1;have hc:=(sP_ t).1
  simp (disch:=omega) only [aS_]
  refine Wp.ite (fun h3=>Wp.ret (by rw [if_neg (fun g=>by omega)])) (fun h3=> ?_)
  refine Wp.ite (fun h4=>Wp.ret (by rw [if_neg (fun g=>by omega)])) (fun h4=> ?_)
  rw [if_pos ⟨by omega,by omega⟩]
  refine Wp.bind (kP_ s (by omega)) (fun _ e=> ?_);subst e
  exact tu_ _ _ _ (qF_ t) [] _ (by simp;omega) (by omega)
theorem kB_:∀{l r:List ag_} {i:Nat},OkItems i l→OkItems (i+l.length) r→OkItems i (l++r)
  | [],r,i,_,h=>by simpa using h
  | x::l,r,i,⟨h1,h2⟩,h=>⟨h1,kB_ h2 (by rwa [show i+1+l.length=i+(x::l).length by simp;omega])⟩
theorem qh_:∀{l:List aA_} {i:Nat},(∀p∈l,p.Text.size≤20)→OkItems i (l.map zS_)
  | [],i,h=>trivial
  | p::l,i,h=>⟨⟨h p (List.mem_cons_self ..),by simp [zS_],fun _=>rfl,fun h=>by simp [zS_] at h⟩,qh_ fun q hq=>h q (List.mem_cons_of_mem _ hq)⟩
theorem xN_ (s:aj_) (t:ByteArray):VSend (mk_ s t).1:=by
  unfold mk_
  split
  ·rename_i h
   split
   ·rename_i h2
    refine ⟨by simp only [List.length_append,List.length_map];omega,h.1.2.1, ?_,kB_ h.1.2.2.2 (qh_ (sP_ t).2)⟩
    simp only [List.length_append,List.length_map]
    exact h2.2
   ·exact il_
  ·exact il_
def ge_:List ag_→Nat
  | []=>0
  | x::t=>if 0≤x.Since then ge_ t+1 else 0
theorem ja_:∀l:List ag_,ge_ l≤l.length
  | []=>Nat.le_refl _
  | x::t=>by have:=ja_ t;simp only [ge_,List.length_cons];split<;>omega
def oG_:Nat→Nat→List ag_→List ag_
  | _,_,[]=>[]
  | i,m,x::t=>(if i<8∧m%2=1∧0≤x.Since then ⟨x.Part,true,x.Since⟩ else x)::oG_ (i+1) (m/2) t
theorem wE_:∀(i m:Nat) (l:List ag_),8≤i→oG_ i m l=l
  | i,m,[],h=>rfl
  | i,m,x::t,h=>by simp only [oG_];rw [if_neg (by omega),wE_ (i+1) _ t (by omega)]
def ir_ (s:aj_) (n m:Int):aj_:=
  if VSend s then
   if s.Base≤n∧n≤s.Base+ge_ s.Items∧0≤m∧m≤255 then ⟨n,oG_ 0 m.toNat (s.Items.drop (n-s.Base).toNat)⟩ else s
  else id_
theorem rM_ (b:Int):∀(t pre:List ag_),(pre++t).length≤1000→Wp (fun k=>dl_ k (pre.length:Int) b (pre++t)) (· =((pre.length+ge_ t:Nat):Int))
  | [],pre,hl=>by
    refine Wp.step ?_
    simp only [dl_,List.append_nil]
    simp (disch:=omega) only [al_,if_neg]
    exact Wp.ret rfl
  | x::t,pre,hl=>by
    refine Wp.step ?_
    have hl':=hl
    simp only [List.length_append,List.length_cons] at hl
    simp only [dl_]
    simp only [al_,cZ_,if_true,aI_,fo_,Option.bind_some]
    simp only [ge_]
    refine Wp.ite (fun h=> ?_) (fun h=> ?_)
    ·rw [if_pos (by omega)]
     simp (disch:=omega) only [aS_]
     have ih:=rM_ b t (pre++[x]) (by simpa using hl')
     rw [←aX_,←bd_] at ih
     refine ih.mono fun r hr=> ?_
     rw [hr,List.length_append,List.length_singleton];omega
    ·rw [if_neg (by omega)];exact Wp.ret rfl
theorem EE_ (m:Nat):rX_ (m:Int) 2=some ((m%2:Nat):Int):=by rw [gj_ (by omega) (by omega)];simp
theorem Em_ (m:Nat):x9_ (m:Int) 2=some ((m/2:Nat):Int):=by rw [pI_ (by omega) (by omega)];simp
theorem lY_ (c b:Int) (e:List ag_) (xs:List ag_) (hx:xs.length≤1000):∀(d i m:Nat),i+d=8→xs.length≤i→m≤255→
    Wp (fun k=>bq_ k (m:Int) (i:Int) c b e xs) (· =⟨b,xs⟩)
  | 0,i,m,h,hi,hm=>by
    refine Wp.step ?_
    simp only [bq_]
    simp (disch:=omega) only [al_,if_neg]
    exact Wp.ret rfl
  | d+1,i,m,h,hi,hm=>by
    refine Wp.step ?_
    simp only [bq_]
    simp (disch:=omega) only [al_,if_pos,EE_,Option.bind_some,fl_]
    have ih:=lY_ c b e xs hx d (i+1) (m/2) (by omega) (by omega) (by omega)
    have G:Wp (fun k=>be_ k (m:Int) (i:Int) c b e xs) (· =⟨b,xs⟩):=by
      refine Wp.step ?_
      simp only [be_]
      simp (disch:=omega) only [Em_,Option.bind_some,aS_,CI_]
      exact ih
    refine Wp.ite (fun h1=> ?_) (fun h1=>G)
    simp (disch:=omega) only [if_neg]
    exact G
theorem ve_ (c b:Int) (e:List ag_):∀(t pre:List ag_) (m:Nat),(pre++t).length≤1000→m≤255→
    Wp (fun k=>bq_ k (m:Int) (pre.length:Int) c b e (pre++t)) (· =⟨b,pre++oG_ pre.length m t⟩)
  | [],pre,m,hl,hm=>by
    rw [List.append_nil] at hl⊢
    simp only [oG_,List.append_nil]
    by_cases h8:pre.length≤8
    ·exact lY_ c b e pre hl (8-pre.length) pre.length m (by omega) (Nat.le_refl _) hm
    ·refine Wp.step ?_
     simp only [bq_]
     simp (disch:=omega) only [al_,if_neg]
     exact Wp.ret rfl
  | x::t,pre,m,hl,hm=>by
    refine Wp.step ?_
    have hl':=hl
    simp only [List.length_append,List.length_cons] at hl
    simp only [bq_]
    simp only [al_,cZ_,if_true,aI_,fo_,Option.bind_some,set_mid,fl_]
    refine Wp.ite (fun h8=> ?_) (fun h8=>Wp.ret (by rw [wE_ _ _ _ (by omega)]))
    have ih:∀y:ag_,(if pre.length<8∧m%2=1∧0≤x.Since then ⟨x.Part,true,x.Since⟩ else x)=y→
     Wp (fun k=>be_ k (m:Int) (pre.length:Int) c b e (pre++y::t)) (· =⟨b,pre++oG_ pre.length m (x::t)⟩):=by
      intro y hy
      refine Wp.step ?_
      simp only [be_]
      simp (disch:=omega) only [Em_,Option.bind_some,aS_]
      have:=ve_ c b e t (pre++[y]) (m/2) (by simpa using hl') (by omega)
      rw [←aX_,←bd_,List.length_append,List.length_singleton] at this
      refine this.mono fun r hr=> ?_
      rw [hr]
      simp only [oG_,List.append_assoc,List.cons_append,List.nil_append,hy]
    simp (disch:=omega) only [EE_,Option.bind_some]
    refine Wp.ite (fun h1=> ?_) (fun h1=>ih x (by rw [if_neg (by omega)]))
    refine Wp.ite (fun h2=>ih _ (by rw [if_pos (by omega)])) (fun h2=>ih x (by rw [if_neg (by omega)]))
theorem p7_ (s:aj_) (n m:Int):Wp (fun k=>fF_ k s n m) (· =ir_ s n m):=by
  unfold fF_ ir_
  refine Wp.bind (dJ_ s) (fun _ e=> ?_);subst e
  simp only [bf_,al_]
  refine Wp.ite (fun h=> ?_) (fun h=>Wp.ret (by rw [if_neg h]))
  rw [if_pos h]
  have:=h.1;have hb:=h.2.1
  refine Wp.bind (hV_ s (by omega)) (fun r2 e=> ?_);rw [e]
  refine Wp.ite (fun h2=>Wp.ret (by rw [if_neg (by omega)])) (fun h2=> ?_)
  refine Wp.bind (P:=fun r=>r=((0+ge_ s.Items:Nat):Int)) (rM_ s.Base s.Items [] (by simp;omega)) (fun _ e=> ?_);subst e
  have hf:=ja_ s.Items
  simp (disch:=omega) only [aS_]
  refine Wp.ite (fun h3=>Wp.ret (by rw [if_neg (by omega)])) (fun h3=> ?_)
  refine Wp.bind (bX_ _ _ _) (fun _ e=> ?_);subst e
  simp only [inB,al_]
  refine Wp.ite (fun h4=> ?_) (fun h4=>Wp.ret (by rw [if_neg (by omega)]))
  rw [if_pos (by omega)]
  refine Wp.opt (cA_ (by omega)) ?_
  refine Wp.opt (aQ_ (by simp [dY_];omega)) ?_
  have e1:([]:List ag_)++dY_ s.Items (n-s.Base).toNat (s.Items.length:Int).toNat=s.Items.drop (n-s.Base).toNat:=by simp [dY_]
  rw [e1]
  have:=ve_ 0 n [] (s.Items.drop (n-s.Base).toNat) [] m.toNat (by simp;omega) (by omega)
  simp only [List.nil_append,List.length_nil,Int.toNat_of_nonneg h4.1] at this
  exact this
theorem BA_ (n:Nat) (hn:n<281474976710656):zY_ .i64 (n:Int) 1=((n%2:Nat):Int):=by
  have e:∀m:Nat,BitVec.ofInt 64 (m:Int)=BitVec.ofNat 64 m:=fun m=>by
    apply BitVec.eq_of_toNat_eq
    simp [BitVec.toNat_ofInt]
  show IntKind.wrap .i64 ((BitVec.ofInt 64 (n:Int)&&&BitVec.ofInt 64 ((1:Nat):Int)).toNat:Int)=_
  rw [e,e,BitVec.toNat_and,BitVec.toNat_ofNat,BitVec.toNat_ofNat,Nat.mod_eq_of_lt (by omega),Nat.mod_eq_of_lt (by omega),Nat.and_one_is_mod]
  exact aS_ (by omega) (by omega)
theorem EM_ (n i:Nat) (h:i≤64):shift .shr .i64 (n:Int) (i:Int)=some ((n/2^i:Nat):Int):=by
  simp only [shift]
  rw [if_neg (by omega)]
  congr 1
  rw [Int.toNat_natCast,show IntKind.i64.bits=64 from rfl,Nat.min_eq_left h,Int.fdiv_eq_ediv_of_nonneg _ (by exact Int.le_of_lt (Int.pow_pos (by decide)))]
  simp
theorem qq_ (c b d:Int) (e:List ag_) (M:Nat) (hM:M≤255):∀(t pre:List ag_),(pre++t).length≤1000→
    Wp (fun k=>by_ k (M:Int) (pre.length:Int) c b e (pre++t)) (· =⟨b,pre++oG_ pre.length (M/2^pre.length) t⟩)
  | [],pre,hl=>by
    refine Wp.step ?_
    rw [List.append_nil] at hl⊢
    simp only [by_,oG_,List.append_nil]
    simp (disch:=omega) only [al_,if_neg]
    exact Wp.ite (fun h=>Wp.ret rfl) (fun h=>Wp.ret rfl)
  | x::t,pre,hl=>by
    refine Wp.step ?_
    have hl':=hl
    simp only [List.length_append,List.length_cons] at hl
    simp only [by_]
    simp only [al_,cZ_,if_true,aI_,fo_,Option.bind_some,set_mid,fl_]
    refine Wp.ite (fun h8=> ?_) (fun h8=>Wp.ret (by rw [wE_ _ _ _ (by omega)]))
    have ih:∀y:ag_,(if pre.length<8∧M/2^pre.length%2=1∧0≤x.Since then ⟨x.Part,true,x.Since⟩ else x)=y→
     Wp (fun k=>ct_ k (M:Int) (pre.length:Int) c b e (pre++y::t)) (· =⟨b,pre++oG_ pre.length (M/2^pre.length) (x::t)⟩):=by
      intro y hy
      refine Wp.step ?_
      simp only [ct_]
      simp (disch:=omega) only [aS_]
      have:=qq_ c b d e M hM t (pre++[y]) (by simpa using hl')
      rw [←aX_,←bd_,List.length_append,List.length_singleton] at this
      refine this.mono fun r hr=> ?_
      rw [hr]
      simp only [oG_,List.append_assoc,List.cons_append,List.nil_append,hy,Nat.div_div_eq_div_mul,Nat.pow_succ]
    have hlt:M/2^pre.length<281474976710656:=Nat.lt_of_le_of_lt (Nat.div_le_self _ _) (by omega)
    rw [EM_ _ _ (by omega)]
    simp only [Option.bind_some]
    rw [BA_ _ hlt]
    refine Wp.ite (fun h1=> ?_) (fun h1=>ih x (by rw [if_neg (by omega)]))
    refine Wp.ite (fun h2=>ih _ (by rw [if_pos (by omega)])) (fun h2=>ih x (by rw [if_neg (by omega)]))
theorem yF_ (n m c b:Int) (e:List ag_) (hb:0≤b∧b≤1000000):∀(t pre:List ag_),(pre++t).length≤1000→
    Wp (fun k=>cS_ k n m (pre.length:Int) c b e (pre++t)) (· =if b≤n∧n≤b+(pre.length+ge_ t:Nat)∧0≤m∧m≤255 then ⟨n,oG_ 0 m.toNat ((pre++t).drop (n-b).toNat)⟩ else ⟨b,pre++t⟩):=by
  have F:∀(xs:List ag_) (j:Nat),xs.length≤1000→j≤xs.length→Wp (fun k=>if n<b then some (⟨b,xs⟩:aj_) else if n>IntKind.wrap .i64 (b+(j:Int)) then some ⟨b,xs⟩ else
   (aN_ k m 0 255).bind fun r4=>bif !r4 then some ⟨b,xs⟩ else
     (wnd xs.length (IntKind.wrap .i64 (n-b)) (xs.length:Int)).bind fun p5=>
     (app 40 ([]:List ag_) (dY_ xs p5.1 p5.2)).bind fun l6=>by_ k m 0 c n e l6)
   (· =if b≤n∧n≤b+(j:Nat)∧0≤m∧m≤255 then ⟨n,oG_ 0 m.toNat (xs.drop (n-b).toNat)⟩ else ⟨b,xs⟩):=by
    intro xs j hx hj
    refine Wp.ite (fun h2=>Wp.ret (by rw [if_neg (by omega)])) (fun h2=> ?_)
    simp (disch:=omega) only [aS_]
    refine Wp.ite (fun h3=>Wp.ret (by rw [if_neg (by omega)])) (fun h3=> ?_)
    refine Wp.bind (lL_ _ _ _) (fun _ e=> ?_);subst e
    simp only [inB,al_,bf_]
    refine Wp.ite (fun h4=> ?_) (fun h4=>Wp.ret (by rw [if_neg (by omega)]))
    rw [if_pos (by omega)]
    refine Wp.opt (cA_ (by omega)) ?_
    refine Wp.opt (aQ_ (by simp [dY_];omega)) ?_
    have e1:([]:List ag_)++dY_ xs (n-b).toNat (xs.length:Int).toNat=xs.drop (n-b).toNat:=by simp [dY_]
    rw [e1]
    have:=qq_ c n 0 e m.toNat (by omega) (xs.drop (n-b).toNat) [] (by simp;omega)
    simp only [List.nil_append,List.length_nil,Int.toNat_of_nonneg h4.1,Nat.pow_zero,Nat.div_one] at this
    exact this
  intro t
  induction t with
  | nil=>
    intro pre hl
    refine Wp.step ?_
    simp only [cS_]
    rw [List.append_nil] at hl⊢
    simp (disch:=omega) only [al_,if_neg]
    exact F pre pre.length hl (Nat.le_refl _)
  | cons x t ih=>
    intro pre hl
    refine Wp.step ?_
    simp only [cS_]
    simp only [al_,cZ_,if_true,aI_,fo_,Option.bind_some]
    have hl':=hl
    simp only [List.length_append,List.length_cons] at hl
    refine Wp.ite (fun h=> ?_) (fun h=> ?_)
    ·rw [aS_ (by omega) (by omega)]
     have:=ih (pre++[x]) (by simpa using hl')
     rw [←aX_,←bd_,List.length_append,List.length_singleton] at this
     have e:pre.length+ge_ (x::t)=pre.length+1+ge_ t:=by simp only [ge_];rw [if_pos h];omega
     simp only [e]
     exact this
    ·have e:ge_ (x::t)=0:=by simp only [ge_];rw [if_neg h]
     simp only [e]
     exact F (pre++x::t) pre.length (by simpa using hl') (by simp)
theorem vJ_ (s:aj_) (n m:Int):Wp (fun k=>gG_ k s n m) (· =ir_ s n m):=by
  unfold gG_ ir_
  refine Wp.bind (e2_ s) (fun _ e=> ?_);subst e
  simp only [bf_,al_]
  refine Wp.ite (fun h=> ?_) (fun h=>Wp.ret (by rw [if_neg h]))
  rw [if_pos h]
  have:=h.1;have hb:=h.2.1
  refine Wp.bind (kP_ s (by omega)) (fun r2 e=> ?_);rw [e]
  have:=yF_ n m 0 s.Base [] hb s.Items [] (by simp;omega)
  simp only [List.nil_append,List.length_nil,Nat.zero_add] at this
  exact this
theorem OkItem.mono {i j:Nat} {x:ag_} (h:OkItem j x) (hij:i≤j):OkItem i x:=⟨h.1,h.2.1,fun h8=>h.2.2.1 (by omega),h.2.2.2⟩
theorem OkItems.mono:∀{l:List ag_} {i j:Nat},OkItems j l→i≤j→OkItems i l
  | [],_,_,_,_=>trivial
  | x::t,i,j,⟨h1,h2⟩,hij=>⟨h1.mono hij,h2.mono (by omega)⟩
theorem OkItems.drop:∀{l:List ag_} {i:Nat} (d:Nat),OkItems i l→OkItems i (l.drop d)
  | l,i,0,h=>h
  | [],i,d+1,h=>trivial
  | x::t,i,d+1,⟨_,h2⟩=>(OkItems.drop d h2).mono (by omega)
theorem qo_:∀{l:List ag_} {i m:Nat},OkItems i l→OkItems i (oG_ i m l)
  | [],_,_,_=>trivial
  | x::t,i,m,⟨h1,h2⟩=>by
    refine ⟨?_,qo_ h2⟩
    split
    ·rename_i h;exact ⟨h1.1,h1.2.1,h1.2.2.1,fun _=>h.2.2⟩
    ·exact h1
theorem gX_:∀(i m:Nat) (l:List ag_),(oG_ i m l).length=l.length
  | _,_,[]=>rfl
  | i,m,x::t=>by simp [oG_,gX_ (i+1) (m/2) t]
theorem xt_ (s:aj_) (n m:Int):VSend (ir_ s n m):=by
  unfold ir_
  split
  ·rename_i h
   split
   ·rename_i h2
    have hf:=ja_ s.Items
    obtain ⟨v1,v2,v3,v4⟩:=h
    refine ⟨?_, ?_, ?_,qo_ (v4.drop _)⟩
    ·simp only [gX_,List.length_drop];omega
    ·simp only;omega
    ·simp only [gX_,List.length_drop];omega
   ·assumption
  ·exact il_
end Km.X
namespace Km.X
open Go Km
set_option linter.unusedVariables false
set_option linter.unusedSimpArgs false
def goes (o:ByteArray) (r:List ByteArray) (p:aA_):Prop:=o.size+p.Text.size≤200∧(p.Last=true→r.length<4)
instance (o:ByteArray) (r:List ByteArray) (p:aA_):Decidable (goes o r p):=by unfold goes;infer_instance
theorem zp_ (n:Int) (h:List ak_) (o:ByteArray) (r:List ByteArray) (p:aA_) (ho:o.size≤1048576) (hp:p.Text.size≤1048576):Wp (fun k=>ff_ k ⟨n,h,o,r⟩ p) (· =decide (goes o r p)):=by
  unfold ff_
  simp (disch:=omega) only [aS_,al_,bf_]
  refine Wp.ite (fun h1=> ?_) (fun h1=>Wp.ret (decide_eq_false fun h=>by have:=h.1;omega).symm)
  refine Wp.bif (fun h2=> ?_) (fun h2=> ?_)
  ·refine Wp.ret ?_
   rw [decide_eq_decide]
   exact ⟨fun h=>⟨by omega,fun _=>by omega⟩,fun h=>by have:=h.2 h2;omega⟩
  ·exact Wp.ret (decide_eq_true ⟨by omega,fun h=>by rw [h2] at h;cases h⟩).symm
theorem Dm_ (n:Int) (h:List ak_) (o:ByteArray) (r:List ByteArray) (p:aA_) (ho:o.size≤1048576) (hp:p.Text.size≤1048576):Wp (fun k=>gQ_ k ⟨n,h,o,r⟩ p) (· =decide (goes o r p)):=zp_ n h o r p ho hp
def WHs (n:Int):Int→List ak_→Prop
  | _,[]=>True
  | p,x::t=>(p<x.Seq∧x.Seq≤n+7∧x.Seq≤999999∧x.Part.Text.size≤20)∧WHs n x.Seq t
instance Ek_ (n:Int):(p:Int)→(l:List ak_)→Decidable (WHs n p l)
  | _,[]=> .isTrue trivial
  | p,x::t=>by
    have:=Ek_ n x.Seq t
    unfold WHs;infer_instance
def wW_ (n:Int) (o:ByteArray) (r:List ByteArray) (l:List ak_):Prop:=∀x∈l,x.Seq=n→¬goes o r x.Part
instance (n:Int) (o:ByteArray) (r:List ByteArray) (l:List ak_):Decidable (wW_ n o r l):=by unfold wW_;infer_instance
def SmR (l:List ByteArray):Prop:=∀s∈l,s.size≤200
instance (l:List ByteArray):Decidable (SmR l):=by unfold SmR;infer_instance
def VTake (t:ai_):Prop:=(0≤t.Next∧t.Next≤1000000)∧t.Held.length≤8∧t.Open.size≤200∧t.Ready.length≤4∧SmR t.Ready∧WHs t.Next (t.Next-1) t.Held∧wW_ t.Next t.Open t.Ready t.Held
instance (t:ai_):Decidable (VTake t):=by unfold VTake;infer_instance
def dZ_ (n:Int) (pre:List ak_):Int:=match pre.getLast? with | none=>n-1 | some y=>y.Seq
theorem iz_ (n:Int) (pre:List ak_) (x:ak_):dZ_ n (pre++[x])=x.Seq:=by simp [dZ_]
theorem rY_ (n:Int) (pre t:List ak_) (h:0<pre.length):∃y,idx (pre++t) ((pre.length:Int)-1)=some y∧dZ_ n pre=y.Seq:=by
  rcases List.eq_nil_or_concat pre with rfl | ⟨l,y,rfl⟩
  ·simp at h
  ·refine ⟨y, ?_,by simp [dZ_]⟩
   simp only [List.concat_eq_append,List.length_append,List.length_singleton]
   rw [show ((l.length+1:Nat):Int)-1=(l.length:Int) by omega,e5_]
   simp
theorem zI_ (n s:Int) (h:List ak_) (o:ByteArray) (r:List ByteArray) (hn:0≤n∧n≤1000000):Wp (fun k=>g0_ k ⟨n,h,o,r⟩ s) (· =decide (n≤s∧s≤n+7∧s≤999999)):=by
  unfold g0_
  simp (disch:=omega) only [aS_]
  refine Wp.bind (bX_ _ _ _) (fun _ e=> ?_);subst e
  simp only [inB,al_]
  refine Wp.ite (fun h1=>Wp.ret ?_) (fun h1=>Wp.ret (decide_eq_false (by omega)).symm)
  rw [decide_eq_decide];omega
theorem kc_ (n:Int) (o:ByteArray) (r:List ByteArray) (hn:0≤n∧n≤1000000) (ho:o.size≤200):∀(t pre:List ak_),(pre++t).length≤1000→n-1≤dZ_ n pre→
    Wp (fun k=>aL_ k (pre.length:Int) n (pre++t) o r) (· =decide (WHs n (dZ_ n pre) t∧wW_ n o r t))
  | [],pre,hl,hp=>by
    refine Wp.step ?_
    simp only [aL_,List.append_nil]
    simp (disch:=omega) only [al_,if_neg]
    exact Wp.ret (decide_eq_true ⟨trivial,fun x hx=>by simp at hx⟩).symm
  | x::t,pre,hl,hp=>by
    refine Wp.step ?_
    have hl':=hl
    simp only [List.length_append,List.length_cons] at hl
    simp only [aL_]
    simp only [al_,cZ_,if_true,aI_,Option.bind_some]
    have F:¬(WHs n (dZ_ n pre) (x::t)∧wW_ n o r (x::t))→Wp (fun _=>some false) (· =decide (WHs n (dZ_ n pre) (x::t)∧wW_ n o r (x::t))):=fun h=>Wp.ret (decide_eq_false h).symm
    refine Wp.bind (zI_ n x.Seq _ o r hn) (fun _ e=> ?_);subst e
    simp only [al_,bf_]
    refine Wp.ite (fun h1=> ?_) (fun h1=>F fun h'=>by have:=h'.1.1;omega)
    refine Wp.ite (fun h2=>F fun h'=>by have:=h'.1.1;omega) (fun h2=> ?_)
    have ih:=kc_ n o r hn ho t (pre++[x]) (by simpa using hl') (by rw [iz_];omega)
    rw [←aX_,←bd_,iz_] at ih
    have G:(x.Seq=n→¬goes o r x.Part)→dZ_ n pre<x.Seq→Wp (fun k=>aL_ k ((pre.length:Int)+1) n (pre++x::t) o r) (· =decide (WHs n (dZ_ n pre) (x::t)∧wW_ n o r (x::t))):=fun h h'=>by
      refine Wp.mono ih fun v hv=> ?_
      rw [hv,decide_eq_decide]
      constructor
      ·rintro ⟨g1,g2⟩
       refine ⟨⟨⟨h',by omega,by omega,by omega⟩,g1⟩,fun y hy=> ?_⟩
       rcases List.mem_cons.mp hy with rfl | hy
       ·exact h
       ·exact g2 y hy
      ·rintro ⟨g1,g2⟩
       exact ⟨g1.2,fun y hy=>g2 y (List.mem_cons_of_mem _ hy)⟩
    have C:dZ_ n pre<x.Seq→Wp (fun k=>bif x.Seq==n then (ff_ k ⟨n,pre++x::t,o,r⟩ x.Part).bind fun r6=>bif r6 then some false else aL_ k (IntKind.wrap .i64 ((pre.length:Int)+1)) n (pre++x::t) o r
     else aL_ k (IntKind.wrap .i64 ((pre.length:Int)+1)) n (pre++x::t) o r) (· =decide (WHs n (dZ_ n pre) (x::t)∧wW_ n o r (x::t))):=fun h'=>by
      simp (disch:=omega) only [aS_,fl_]
      refine Wp.ite (fun h3=> ?_) (fun h3=>G (fun g=>absurd g h3) h')
      refine Wp.bind (zp_ n _ o r x.Part (by omega) (by omega)) (fun _ e=> ?_);subst e
      simp only [al_]
      exact Wp.ite (fun h4=>F fun g=>g.2 x (List.mem_cons_self ..) h3 h4) (fun h4=>G (fun _=>h4) h')
    refine Wp.ite (fun h3=> ?_) (fun h3=> ?_)
    ·obtain ⟨y,hy,hy'⟩:=rY_ n pre (x::t) (by omega)
     rw [aS_ (by omega) (by omega),hy]
     simp only [Option.bind_some]
     refine Wp.ite (fun h4=>F fun h'=>by have:=h'.1.1;omega) (fun h4=> ?_)
     exact C (by omega)
    ·have:pre=[]:=List.length_eq_zero_iff.mp (by omega)
     exact C (by subst this;simp [dZ_];omega)
theorem jk_ (n:Int) (o:ByteArray) (h:List ak_) (hn:0≤n∧n≤1000000) (ho:o.size≤200) (hh:h.length≤8) (rr:List ByteArray):∀(t pre:List ByteArray),pre++t=rr→(pre++t).length≤1000→
    Wp (fun k=>cu_ k (pre.length:Int) n h o (pre++t)) (· =decide (SmR t∧WHs n (n-1) h∧wW_ n o rr h))
  | [],pre,hr,hl=>by
    refine Wp.step ?_
    simp only [cu_]
    rw [hr] at hl⊢
    rw [List.append_nil] at hr
    subst hr
    simp (disch:=omega) only [al_,if_neg]
    have:=kc_ n o pre hn ho h [] (by simp;omega) (by simp [dZ_])
    refine this.mono fun v hv=> ?_
    rw [hv,decide_eq_decide]
    exact ⟨fun g=>⟨fun s hs=>by simp at hs,g⟩,fun g=>g.2⟩
  | x::t,pre,hr,hl=>by
    refine Wp.step ?_
    have hl':=hl
    simp only [List.length_append,List.length_cons] at hl
    simp only [cu_]
    simp only [al_,cZ_,if_true,aI_,Option.bind_some]
    refine Wp.ite (fun h1=>Wp.ret (decide_eq_false fun h'=>by have:=h'.1 x (List.mem_cons_self ..);omega).symm) (fun h1=> ?_)
    simp (disch:=omega) only [aS_]
    have ih:=jk_ n o h hn ho hh rr t (pre++[x]) (by simpa using hr) (by simpa using hl')
    rw [←aX_,←bd_] at ih
    refine ih.mono fun v hv=> ?_
    rw [hv,decide_eq_decide]
    constructor
    ·rintro ⟨g1,g2⟩
     refine ⟨fun y hy=> ?_,g2⟩
     rcases List.mem_cons.mp hy with rfl | hy
     ·omega
     ·exact g1 y hy
    ·rintro ⟨g1,g2⟩
     exact ⟨fun y hy=>g1 y (List.mem_cons_of_mem _ hy),g2⟩
theorem eX_ (t:ai_):Wp (fun k=>c7_ k t) (· =decide (VTake t)):=by
  unfold c7_
  simp only [al_,bf_]
  have F:¬VTake t→Wp (fun _=>some false) (· =decide (VTake t)):=fun h=>Wp.ret (decide_eq_false h).symm
  refine Wp.bind (bX_ _ _ _) (fun _ e=> ?_);subst e
  simp only [inB,al_]
  refine Wp.ite (fun h1=> ?_) (fun h1=>F fun h'=>h1 h'.1)
  refine Wp.ite (fun h2=>F fun h'=>by have:=h'.2.1;omega) (fun h2=> ?_)
  refine Wp.ite (fun h3=>F fun h'=>by have:=h'.2.2.1;omega) (fun h3=> ?_)
  refine Wp.ite (fun h4=>F fun h'=>by have:=h'.2.2.2.1;omega) (fun h4=> ?_)
  refine Wp.mono (jk_ t.Next t.Open t.Held h1 (by omega) (by omega) t.Ready t.Ready [] rfl (by simp;omega)) fun v hv=> ?_
  rw [hv,decide_eq_decide]
  exact ⟨fun g=>⟨h1,by omega,by omega,by omega,g⟩,fun g=>g.2.2.2.2⟩
theorem kk_:∀(t pre:List ByteArray),(pre++t).length≤1000→
    Wp (fun k=>b2_ k (pre++t) ((pre++t).length:Int) (pre.length:Int)) (· =decide (SmR t))
  | [],pre,hl=>by
    refine Wp.step ?_
    simp only [b2_,List.append_nil]
    simp (disch:=omega) only [al_,if_neg]
    exact Wp.ret (decide_eq_true fun s hs=>by simp at hs).symm
  | x::t,pre,hl=>by
    refine Wp.step ?_
    have hl':=hl
    simp only [List.length_append,List.length_cons] at hl
    simp only [b2_]
    simp only [al_,cZ_,if_true,aI_,Option.bind_some]
    refine Wp.ite (fun h1=>Wp.ret (decide_eq_false fun h'=>by have:=h' x (List.mem_cons_self ..);omega).symm) (fun h1=> ?_)
    simp (disch:=omega) only [aS_]
    have ih:=kk_ t (pre++[x]) (by simpa using hl')
    rw [←aX_,←bd_] at ih
    refine ih.mono fun v hv=> ?_
    rw [hv,decide_eq_decide]
    constructor
    ·intro g1 y hy
     rcases List.mem_cons.mp hy with rfl | hy
     ·omega
     ·exact g1 y hy
    ·exact fun g1 y hy=>g1 y (List.mem_cons_of_mem _ hy)
theorem lk_ (n:Int) (o:ByteArray) (r:List ByteArray) (hn:0≤n∧n≤1000000) (ho:o.size≤200) (hr:r.length≤4):∀(t pre:List ak_),(pre++t).length≤1000→n-1≤dZ_ n pre→
    Wp (fun k=>aK_ k (pre++t) ((pre++t).length:Int) (pre.length:Int) n (pre++t) o r) (· =decide ((WHs n (dZ_ n pre) t∧wW_ n o r t)∧SmR r))
  | [],pre,hl,hp=>by
    refine Wp.step ?_
    simp only [aK_,List.append_nil]
    simp (disch:=omega) only [al_,if_neg]
    refine Wp.mono (kk_ r [] (by simp;omega)) fun v hv=> ?_
    rw [hv,decide_eq_decide]
    exact ⟨fun g=>⟨⟨trivial,fun x hx=>by simp at hx⟩,g⟩,fun g=>g.2⟩
  | x::t,pre,hl,hp=>by
    refine Wp.step ?_
    have hl':=hl
    simp only [List.length_append,List.length_cons] at hl
    simp only [aK_]
    simp only [al_,cZ_,if_true,aI_,Option.bind_some]
    have F:¬(WHs n (dZ_ n pre) (x::t)∧wW_ n o r (x::t))→Wp (fun _=>some false) (· =decide ((WHs n (dZ_ n pre) (x::t)∧wW_ n o r (x::t))∧SmR r)):=fun h=>Wp.ret (decide_eq_false fun g=>h g.1).symm
    simp (disch:=omega) only [aS_]
    refine Wp.bind (lL_ _ _ _) (fun _ e=> ?_);subst e
    simp only [inB,al_,bf_]
    refine Wp.ite (fun h1=> ?_) (fun h1=>F fun h'=>by have:=h'.1.1;omega)
    refine Wp.ite (fun h1'=>F fun h'=>by have:=h'.1.1;omega) (fun h1'=> ?_)
    refine Wp.ite (fun h2=>F fun h'=>by have:=h'.1.1;omega) (fun h2=> ?_)
    have ih:=lk_ n o r hn ho hr t (pre++[x]) (by simpa using hl') (by rw [iz_];omega)
    rw [←aX_,←bd_,iz_] at ih
    have G:(x.Seq=n→¬goes o r x.Part)→dZ_ n pre<x.Seq→Wp (fun k=>aK_ k (pre++x::t) ((pre++x::t).length:Int) ((pre.length:Int)+1) n (pre++x::t) o r) (· =decide ((WHs n (dZ_ n pre) (x::t)∧wW_ n o r (x::t))∧SmR r)):=fun h h'=>by
      refine Wp.mono ih fun v hv=> ?_
      rw [hv,decide_eq_decide]
      constructor
      ·rintro ⟨⟨g1,g2⟩,g3⟩
       refine ⟨⟨⟨⟨h',by omega,by omega,by omega⟩,g1⟩,fun y hy=> ?_⟩,g3⟩
       rcases List.mem_cons.mp hy with rfl | hy
       ·exact h
       ·exact g2 y hy
      ·rintro ⟨⟨g1,g2⟩,g3⟩
       exact ⟨⟨g1.2,fun y hy=>g2 y (List.mem_cons_of_mem _ hy)⟩,g3⟩
    have C:dZ_ n pre<x.Seq→Wp (fun k=>if x.Seq=n then (gQ_ k ⟨n,pre++x::t,o,r⟩ x.Part).bind fun r6=>bif r6 then some false else aK_ k (pre++x::t) ((pre++x::t).length:Int) ((pre.length:Int)+1) n (pre++x::t) o r
     else aK_ k (pre++x::t) ((pre++x::t).length:Int) ((pre.length:Int)+1) n (pre++x::t) o r) (· =decide ((WHs n (dZ_ n pre) (x::t)∧wW_ n o r (x::t))∧SmR r)):=fun h'=>by
      refine Wp.ite (fun h3=> ?_) (fun h3=>G (fun g=>absurd g h3) h')
      refine Wp.bind (Dm_ n _ o r x.Part (by omega) (by omega)) (fun _ e=> ?_);subst e
      simp only [al_]
      exact Wp.ite (fun h4=>F fun g=>g.2 x (List.mem_cons_self ..) h3 h4) (fun h4=>G (fun _=>h4) h')
    simp only [fl_]
    refine Wp.ite (fun h3=> ?_) (fun h3=> ?_)
    ·obtain ⟨y,hy,hy'⟩:=rY_ n pre (x::t) (by omega)
     rw [hy]
     simp only [Option.bind_some]
     refine Wp.ite (fun h4=>F fun h'=>by have:=h'.1.1;omega) (fun h4=> ?_)
     exact C (by omega)
    ·have:pre=[]:=List.length_eq_zero_iff.mp (by omega)
     exact C (by subst this;simp [dZ_];omega)
theorem e1_ (t:ai_):Wp (fun k=>bP_ k t) (· =decide (VTake t)):=by
  unfold bP_
  simp only [al_,bf_]
  have F:¬VTake t→Wp (fun _=>some false) (· =decide (VTake t)):=fun h=>Wp.ret (decide_eq_false h).symm
  refine Wp.bind (lL_ _ _ _) (fun _ e=> ?_);subst e
  simp only [inB,al_]
  refine Wp.ite (fun h1=> ?_) (fun h1=>F fun h'=>h1 h'.1)
  refine Wp.ite (fun h2=>F fun h'=>by have:=h'.2.1;omega) (fun h2=> ?_)
  refine Wp.ite (fun h3=>F fun h'=>by have:=h'.2.2.1;omega) (fun h3=> ?_)
  refine Wp.ite (fun h4=>F fun h'=>by have:=h'.2.2.2.1;omega) (fun h4=> ?_)
  refine Wp.mono (lk_ t.Next t.Open t.Ready h1 (by omega) (by omega) t.Held [] (by simp;omega) (by simp [dZ_])) fun v hv=> ?_
  rw [hv,decide_eq_decide]
  exact ⟨fun g=>⟨h1,by omega,by omega,by omega,g.2,g.1⟩,fun g=>⟨g.2.2.2.2.2,g.2.2.2.2.1⟩⟩
theorem jC_ (t:ai_) (h:t.Held.length≤1048576) (h':t.Ready.length≤1048576):Wp (fun k=>e6_ k t) (· =t):=by
  unfold e6_
  refine Wp.opt (aQ_ (by simp;omega)) ?_
  refine Wp.opt (aQ_ (by simp;omega)) ?_
  exact Wp.ret (by rw [List.nil_append,List.nil_append])
theorem o7_ (t:ai_) (h:t.Held.length≤1048576) (h':t.Ready.length≤1048576):Wp (fun k=>ft_ k t) (· =t):=jC_ t h h'
abbrev iM_:ai_:=⟨0,[],noB,[]⟩
theorem jZ_:VTake iM_:=⟨by simp,by simp,by simp [d0_],by simp,fun s hs=>by simp at hs,trivial,fun x hx=>by simp at hx⟩
theorem wo_ {n:Int}:∀{l:List ak_} {p:Int},WHs n p l→∀x∈l,x.Part.Text.size≤20
  | [],_,_,x,h=>by simp at h
  | y::t,p,⟨h1,h2⟩,x,h=>by
    rcases List.mem_cons.mp h with rfl | h
    ·exact h1.2.2.2
    ·exact wo_ h2 x h
theorem AS_ {n:Int}:∀{l:List ak_} {p:Int},WHs n p l→∀x∈l,p<x.Seq
  | [],_,_,x,h=>by simp at h
  | y::t,p,⟨h1,h2⟩,x,h=>by
    rcases List.mem_cons.mp h with rfl | h
    ·exact h1.1
    ·have:=AS_ h2 x h;omega
theorem xJ_ {n n':Int} (hn:n≤n'):∀{l:List ak_} {p:Int},WHs n p l→WHs n' p l
  | [],_,_=>trivial
  | y::t,p,⟨h1,h2⟩=>⟨⟨h1.1,by omega,h1.2.2⟩,xJ_ hn h2⟩
theorem VTake.sm {t:ai_} (h:VTake t):zF_ t:=by
  obtain ⟨h1,h2,h3,h4,h5,h6,h7⟩:=h
  unfold zF_ smL
  refine ⟨⟨by omega,fun x hx=> ?_⟩,by omega,⟨by omega,fun s hs=>by have:=h5 s hs;omega⟩⟩
  have:=wo_ h6 x hx
  show x.Part.Text.size≤1048576
  omega
def d4_:List ak_→Int→ByteArray→List ByteArray→ai_
  | [],n,o,r=>⟨n,[],o,r⟩
  | x::t,n,o,r=>if x.Seq=n∧goes o r x.Part then (if x.Part.Last=true then d4_ t (n+1) noB (r++[o++x.Part.Text]) else d4_ t (n+1) (o++x.Part.Text) r) else ⟨n,x::t,o,r⟩
theorem po_ (c:Int) (e:ByteArray) (z:List ak_) (w:List ByteArray):∀(h:List ak_) (n:Int) (o:ByteArray) (r:List ByteArray),h.length≤100→(∀x∈h,x.Seq≤999999∧x.Part.Text.size≤1000)→0≤n→o.size≤200→r.length≤4→
    Wp (fun k=>c0_ k n o c e h r z w) (· =d4_ h n o r)
  | [],n,o,r,hl,hx,hn,ho,hr=>by
    refine Wp.step ?_
    simp only [c0_]
    simp (disch:=simp) only [al_,if_neg]
    exact Wp.ret rfl
  | x::t,n,o,r,hl,hx,hn,ho,hr=>by
    refine Wp.step ?_
    obtain ⟨x1,x2⟩:=hx x (List.mem_cons_self ..)
    simp only [List.length_cons] at hl
    simp only [c0_,d4_]
    have e0:idx (x::t) 0=some x:=rfl
    have e1:(x::t)[Int.toNat 0]? =some x:=rfl
    have e2:wnd (x::t).length 1 ((x::t).length:Int)=some (1,(x::t).length):=by rw [cA_ (by simp only [List.length_cons];omega)];simp
    have e3:app 32 ([]:List ak_) (dY_ (x::t) 1 (x::t).length)=some t:=by rw [aQ_ (by simp [dY_];omega)];simp [dY_]
    simp only [e0,e1,e2,e3,al_,Option.bind_some,fl_]
    have hpos:((x::t).length:Int)>0:=by simp only [List.length_cons];omega
    simp only [if_pos hpos]
    refine Wp.ite (fun h1=> ?_) (fun h1=>Wp.ret (by rw [if_neg (fun g=>h1 g.1)]))
    refine Wp.bind (zp_ n _ o r x.Part (by omega) (by omega)) (fun _ e=> ?_);subst e
    simp only [al_]
    refine Wp.ite (fun h2=> ?_) (fun h2=>Wp.ret (by rw [if_neg (fun g=>h2 g.2)]))
    rw [if_pos ⟨h1,h2⟩,bK_ (by omega)]
    simp only [Option.bind_some]
    have hx':∀y∈t,y.Seq≤999999∧y.Part.Text.size≤1000:=fun y hy=>hx y (List.mem_cons_of_mem _ hy)
    refine Wp.bif (fun h3=> ?_) (fun h3=> ?_)
    ·rw [if_pos h3,aQ_ (by simp;omega)]
     simp (disch:=omega) only [Option.bind_some,aS_]
     exact po_ c e z w t (n+1) noB _ (by omega) hx' (by omega) (by simp [d0_]) (by have:=h2.2 h3;simp;omega)
    ·rw [if_neg (by simp [h3])]
     simp (disch:=omega) only [aS_]
     exact po_ c e z w t (n+1) _ _ (by omega) hx' (by omega) (by rw [aD_];exact h2.1) hr
theorem ud_:∀(k:Nat) n o c e h r z w,fh_ k n o c e h r z w=c0_ k n o c e h r z w
  | 0,_,_,_,_,_,_,_,_=>rfl
  | k+1,n,o,c,e,h,r,z,w=>by
    have hi:∀a b,gQ_ k a b=ff_ k a b:=fun _ _=>rfl
    simp only [fh_,c0_,ud_ k,hi]
theorem qd_ (t:ai_) (hl:t.Held.length≤100) (hx:∀x∈t.Held,x.Seq≤999999∧x.Part.Text.size≤1000) (hn:0≤t.Next) (ho:t.Open.size≤200) (hr:t.Ready.length≤4):Wp (fun k=>i0_ k t) (· =d4_ t.Held t.Next t.Open t.Ready):=
  po_ _ _ _ _ t.Held t.Next t.Open t.Ready hl hx hn ho hr
theorem pQ_ (t:ai_) (hl:t.Held.length≤100) (hx:∀x∈t.Held,x.Seq≤999999∧x.Part.Text.size≤1000) (hn:0≤t.Next) (ho:t.Open.size≤200) (hr:t.Ready.length≤4):Wp (fun k=>fw_ k t) (· =d4_ t.Held t.Next t.Open t.Ready):=by
  have:(fun k=>fw_ k t)=fun k=>i0_ k t:=funext fun k=>ud_ k _ _ _ _ _ _ _ _
  rw [this];exact qd_ t hl hx hn ho hr
theorem mQ_ (n0:Int):∀(h:List ak_) (n:Int) (o:ByteArray) (r:List ByteArray),n0≤n→WHs n0 (n-1) h→h.length≤8→0≤n→n≤1000000→o.size≤200→r.length≤4→SmR r→VTake (d4_ h n o r)
  | [],n,o,r,h0,hw,hl,hn,hn',ho,hr,hs=>⟨⟨hn,hn'⟩,by simp [d4_],ho,hr,hs,trivial,fun x hx=>by simp [d4_] at hx⟩
  | x::t,n,o,r,h0,⟨hw1,hw2⟩,hl,hn,hn',ho,hr,hs=>by
    simp only [List.length_cons] at hl
    simp only [d4_]
    split
    ·rename_i hg
     have hw3:WHs n0 (n+1-1) t:=by rw [show n+1-1=x.Seq by omega];exact hw2
     split
     ·rename_i hl3
      refine mQ_ n0 t (n+1) noB _ (by omega) hw3 (by omega) (by omega) (by omega) (by simp [d0_]) (by have:=hg.2.2 hl3;simp;omega) (fun s h'=> ?_)
      simp only [List.mem_append,List.mem_singleton] at h'
      rcases h' with h' | rfl
      ·exact hs s h'
      ·rw [aD_];exact hg.2.1
     ·exact mQ_ n0 t (n+1) _ r (by omega) hw3 (by omega) (by omega) (by omega) (by rw [aD_];exact hg.2.1) hr hs
    ·rename_i hg
     refine ⟨⟨hn,hn'⟩,by simp only [List.length_cons];omega,ho,hr,hs,xJ_ h0 ⟨hw1,hw2⟩,fun y hy=> ?_⟩
     rcases List.mem_cons.mp hy with rfl | hy
     ·exact fun e g=>hg ⟨e,g⟩
     ·have:=AS_ hw2 y hy
      exact fun e=>by simp only at e;omega
def cy_ (t:ai_):ai_×ByteArray×Bool:=if VTake t then (match t.Ready with | []=>(t,noB,false) | s::rs=>(d4_ t.Held t.Next t.Open rs,s,true)) else (iM_,noB,false)
theorem VTake.small {t:ai_} (h:VTake t):∀x∈t.Held,x.Seq≤999999∧x.Part.Text.size≤1000:=by
  have hw:=h.2.2.2.2.2.1
  have G:∀{l:List ak_} {p:Int},WHs t.Next p l→∀x∈l,x.Seq≤999999:=by
    intro l
    induction l with
    | nil=>intro p _ x hx;simp at hx
    | cons y l ih=>
      rintro p ⟨h1,h2⟩ x hx
      rcases List.mem_cons.mp hx with rfl | hx
      ·exact h1.2.2.1
      ·exact ih h2 x hx
  exact fun x hx=>⟨G hw x hx,by have:=wo_ hw x hx;omega⟩
theorem qi_ (t:ai_):Wp (fun k=>fq_ k t) (· =cy_ t):=by
  unfold fq_ cy_
  refine Wp.bind (eX_ t) (fun _ e=> ?_);subst e
  simp only [bf_,al_]
  refine Wp.ite (fun h=> ?_) (fun h=>Wp.ret (by rw [if_neg h]))
  rw [if_pos h]
  refine Wp.bind (jC_ t (by have:=h.2.1;omega) (by have:=h.2.2.2.1;omega)) (fun r2 e=> ?_);rw [e]
  simp only [fl_]
  obtain ⟨n,hd,o,r⟩:=t
  cases r with
  | nil=>exact Wp.ret rfl
  | cons s rs=>
    have hr:=h.2.2.2.1
    simp only [List.length_cons] at hr
    have e0:idx (s::rs) 0=some s:=rfl
    have e1:(s::rs)[Int.toNat 0]? =some s:=rfl
    have e2:wnd (s::rs).length 1 ((s::rs).length:Int)=some (1,(s::rs).length):=by rw [cA_ (by simp only [List.length_cons];omega)];simp
    have e3:app 16 ([]:List ByteArray) (dY_ (s::rs) 1 (s::rs).length)=some rs:=by rw [aQ_ (by simp [dY_];omega)];simp [dY_]
    simp only [e0,e1,e2,e3,Option.bind_some]
    have hpos:¬((s::rs).length:Int)=0:=by simp only [List.length_cons];omega
    simp only [if_neg hpos]
    refine Wp.bind (qd_ _ (by have:=h.2.1;simp only at this⊢;omega) h.small h.1.1 h.2.2.1 (by simp only;omega)) (fun _ e=> ?_);subst e
    exact Wp.ret rfl
theorem wy_ (t:ai_):Wp (fun k=>gE_ k t) (· =cy_ t):=by
  unfold gE_ cy_
  refine Wp.bind (e1_ t) (fun _ e=> ?_);subst e
  simp only [bf_,al_]
  refine Wp.ite (fun h=> ?_) (fun h=>Wp.ret (by rw [if_neg h]))
  rw [if_pos h]
  refine Wp.bind (o7_ t (by have:=h.2.1;omega) (by have:=h.2.2.2.1;omega)) (fun r2 e=> ?_);rw [e]
  simp only [fl_]
  obtain ⟨n,hd,o,r⟩:=t
  cases r with
  | nil=>exact Wp.ret rfl
  | cons s rs=>
    have hr:=h.2.2.2.1
    simp only [List.length_cons] at hr
    have e0:idx (s::rs) 0=some s:=rfl
    have e1:(s::rs)[Int.toNat 0]? =some s:=rfl
    have e2:wnd (s::rs).length 1 ((s::rs).length:Int)=some (1,(s::rs).length):=by rw [cA_ (by simp only [List.length_cons];omega)];simp
    have e3:app 16 ([]:List ByteArray) (dY_ (s::rs) 1 (s::rs).length)=some rs:=by rw [aQ_ (by simp [dY_];omega)];simp [dY_]
    simp only [e0,e1,e2,e3,Option.bind_some]
    have hpos:¬((s::rs).length:Int)=0:=by simp only [List.length_cons];omega
    simp only [if_neg hpos]
    refine Wp.bind (pQ_ _ (by have:=h.2.1;simp only at this⊢;omega) h.small h.1.1 h.2.2.1 (by simp only;omega)) (fun _ e=> ?_);subst e
    exact Wp.ret rfl
theorem s1_ (t:ai_):VTake (cy_ t).1∧(cy_ t).2.1.size≤200:=by
  unfold cy_
  split
  ·rename_i h
   obtain ⟨n,hd,o,r⟩:=t
   cases r with
   | nil=>exact ⟨h,by simp [d0_]⟩
   | cons s rs=>
     obtain ⟨h1,h2,h3,h4,h5,h6,h7⟩:=h
     simp only [List.length_cons] at h4
     exact ⟨mQ_ n hd n o rs (Int.le_refl _) h6 h2 h1.1 h1.2 h3 (by omega) (fun s' hs=>h5 s' (List.mem_cons_of_mem _ hs)),h5 s (List.mem_cons_self ..)⟩
  ·exact ⟨jZ_,by simp [d0_]⟩
end Km.X
namespace Km.X
open Go Km
set_option linter.unusedVariables false
set_option linter.unusedSimpArgs false
def nN_ (n:Int):Nat→List ak_→Nat
  | m,[]=>m
  | m,x::t=>nN_ n (m+2^(x.Seq-n).toNat) t
def tkM (t:ai_):Int×Int:=if VTake t then (t.Next,((nN_ t.Next 0 t.Held:Nat):Int)) else (0,0)
theorem gW_ {d:Nat} (h:d≤8):(2^d:Nat)≤256:=Nat.pow_le_pow_right (by decide) h
theorem DP_ (n:Int) (m:Nat) (i:Int) (xs:List ak_) (o:ByteArray) (r:List ByteArray) (x:ak_) (hi:idx xs i=some x) (hn:0≤n∧n≤1000000) (hx:n≤x.Seq∧x.Seq≤n+7) (hm:m≤256) (Q:Int×Int→Prop)
    (hq:Wp (fun k=>cc_ k ((m+2^(x.Seq-n).toNat:Nat):Int) (IntKind.wrap .i64 (i+1)) n xs o r) Q):∀(d:Nat) (y:Int),n≤y→y≤x.Seq→d=(x.Seq-y).toNat→Wp (fun k=>cR_ k (m:Int) i ((2^(y-n).toNat:Nat):Int) y n xs o r) Q
  | 0,y,h1,h2,h3=>by
    have hy:y=x.Seq:=by omega
    subst hy
    have hp:=gW_ (d:=(x.Seq-n).toNat) (by omega)
    refine Wp.step ?_
    simp only [cR_,hi,Option.bind_some]
    simp (disch:=omega) only [al_,if_neg]
    generalize 2^(x.Seq-n).toNat=P at*
    rw [aS_ (n:=(m:Int)+_) (by omega) (by omega),show (m:Int)+(P:Int)=((m+P:Nat):Int) by omega]
    exact hq
  | d+1,y,h1,h2,h3=>by
    have hp:=gW_ (d:=(y-n).toNat) (by omega)
    refine Wp.step ?_
    simp only [cR_,hi,Option.bind_some]
    simp (disch:=omega) only [al_,if_pos]
    have:=DP_ n m i xs o r x hi hn hx hm Q hq d (y+1) (by omega) (by omega) (by omega)
    have e:2^(y+1-n).toNat=2^(y-n).toNat*2:=by rw [show (y+1-n).toNat=(y-n).toNat+1 by omega,Nat.pow_succ]
    rw [e] at this
    generalize 2^(y-n).toNat=P at*
    rw [aS_ (n:=(P:Int)*2) (by omega) (by omega),aS_ (n:=y+1) (by omega) (by omega)]
    rwa [show ((P*2:Nat):Int)=(P:Int)*2 by omega] at this
theorem zQ_ (n:Int) (o:ByteArray) (r:List ByteArray) (hn:0≤n∧n≤1000000):∀(t pre:List ak_) (p:Int) (m:Nat),(pre++t).length≤1000→n-1≤p→p≤n+7→WHs n p t→m<2^(p-n+1).toNat→
    Wp (fun k=>cc_ k (m:Int) (pre.length:Int) n (pre++t) o r) (· =(n,((nN_ n m t:Nat):Int)))
  | [],pre,p,m,hl,h1,h2,hw,hm=>by
    refine Wp.step ?_
    simp only [cc_,List.append_nil]
    simp (disch:=omega) only [al_,if_neg]
    exact Wp.ret rfl
  | x::t,pre,p,m,hl,h1,h2,⟨hw1,hw2⟩,hm=>by
    refine Wp.step ?_
    have hl':=hl
    simp only [List.length_append,List.length_cons] at hl
    simp only [cc_,nN_]
    simp only [al_,cZ_,if_true]
    have hp:=gW_ (d:=(p-n+1).toNat) (by omega)
    have hlt:m+2^(x.Seq-n).toNat<2^(x.Seq-n+1).toNat:=by
      have:2^(p-n+1).toNat≤2^(x.Seq-n).toNat:=Nat.pow_le_pow_right (by decide) (by omega)
      rw [show (x.Seq-n+1).toNat=(x.Seq-n).toNat+1 by omega,Nat.pow_succ];omega
    have ih:=zQ_ n o r hn t (pre++[x]) x.Seq (m+2^(x.Seq-n).toNat) (by simpa using hl') (by omega) (by omega) hw2 hlt
    rw [←aX_,←bd_] at ih
    have:=DP_ n m (pre.length:Int) (pre++x::t) o r x aI_ hn (by omega) (by omega) (· =(n,((nN_ n (m+2^(x.Seq-n).toNat) t:Nat):Int))) (by rw [aS_ (by omega) (by omega)];exact ih) (x.Seq-n).toNat n (by omega) (by omega) rfl
    rwa [show ((2^(n-n).toNat:Nat):Int)=1 by simp] at this
theorem qr_ (t:ai_):Wp (fun k=>eA_ k t) (· =tkM t):=by
  unfold eA_ tkM
  refine Wp.bind (eX_ t) (fun _ e=> ?_);subst e
  simp only [bf_,al_]
  refine Wp.ite (fun h=> ?_) (fun h=>Wp.ret (by rw [if_neg h]))
  rw [if_pos h]
  exact zQ_ t.Next t.Open t.Ready h.1 t.Held [] (t.Next-1) 0 (by have:=h.2.1;show t.Held.length≤1000;omega) (by omega) (by omega) h.2.2.2.2.2.1 (Nat.two_pow_pos _)
theorem y2_ (m d:Nat) (h:m<2^d) (hd:d≤8):xe_ .i64 (m:Int) ((2^d:Nat):Int)=((m+2^d:Nat):Int):=by
  have e:∀m:Nat,BitVec.ofInt 64 (m:Int)=BitVec.ofNat 64 m:=fun m=>by
    apply BitVec.eq_of_toNat_eq
    simp [BitVec.toNat_ofInt]
  have hp:=gW_ hd
  show IntKind.wrap .i64 ((BitVec.ofInt 64 ((m:Nat):Int) ||| BitVec.ofInt 64 ((2^d:Nat):Int)).toNat:Int)=_
  rw [e,e,BitVec.toNat_or,BitVec.toNat_ofNat,BitVec.toNat_ofNat,Nat.mod_eq_of_lt (by omega),Nat.mod_eq_of_lt (by omega)]
  have:=Nat.shiftLeft_add_eq_or_of_lt (a:=1) (i:=d) (b:=m) h
  rw [Nat.shiftLeft_eq,Nat.one_mul] at this
  rw [Nat.or_comm,←this,Nat.add_comm]
  generalize 2^d=P at*
  exact aS_ (by omega) (by omega)
theorem Gr_ (d:Nat) (h:d≤8):shift .shl .i64 1 (d:Int)=some ((2^d:Nat):Int):=by
  have hp:=gW_ h
  simp only [shift]
  rw [if_neg (by omega)]
  congr 1
  rw [Int.toNat_natCast,show IntKind.i64.bits=64 from rfl,Nat.min_eq_left (by omega)]
  rw [show (1:Int)*(2:Int)^d=((2^d:Nat):Int) by simp]
  generalize 2^d=P at*
  exact aS_ (by omega) (by omega)
theorem AG_ (n:Int) (o:ByteArray) (r:List ByteArray) (hn:0≤n∧n≤1000000):∀(t pre:List ak_) (p:Int) (m:Nat),(pre++t).length≤1000→n-1≤p→p≤n+7→WHs n p t→m<2^(p-n+1).toNat→
    Wp (fun k=>cN_ k (m:Int) (pre++t) ((pre++t).length:Int) (pre.length:Int) n (pre++t) o r) (· =(n,((nN_ n m t:Nat):Int)))
  | [],pre,p,m,hl,h1,h2,hw,hm=>by
    refine Wp.step ?_
    simp only [cN_,List.append_nil]
    simp (disch:=omega) only [al_,if_neg]
    exact Wp.ret rfl
  | x::t,pre,p,m,hl,h1,h2,⟨hw1,hw2⟩,hm=>by
    refine Wp.step ?_
    have hl':=hl
    simp only [List.length_append,List.length_cons] at hl
    simp only [cN_,nN_]
    simp only [al_,cZ_,if_true,aI_,Option.bind_some]
    have hp:=gW_ (d:=(p-n+1).toNat) (by omega)
    have hle:2^(p-n+1).toNat≤2^(x.Seq-n).toNat:=Nat.pow_le_pow_right (by decide) (by omega)
    have hlt:m+2^(x.Seq-n).toNat<2^(x.Seq-n+1).toNat:=by
      rw [show (x.Seq-n+1).toNat=(x.Seq-n).toNat+1 by omega,Nat.pow_succ];omega
    have ih:=AG_ n o r hn t (pre++[x]) x.Seq (m+2^(x.Seq-n).toNat) (by simpa using hl') (by omega) (by omega) hw2 hlt
    rw [←aX_,←bd_] at ih
    simp (disch:=omega) only [aS_]
    have e:x.Seq-n=((x.Seq-n).toNat:Int):=by omega
    have e2:=Gr_ (x.Seq-n).toNat (by omega)
    rw [←e] at e2
    simp only [e2,Option.bind_some]
    rw [y2_ m _ (by omega) (by omega)]
    exact ih
theorem qb_ (t:ai_):Wp (fun k=>ex_ k t) (· =tkM t):=by
  unfold ex_ tkM
  refine Wp.bind (e1_ t) (fun _ e=> ?_);subst e
  simp only [bf_,al_]
  refine Wp.ite (fun h=> ?_) (fun h=>Wp.ret (by rw [if_neg h]))
  rw [if_pos h]
  exact AG_ t.Next t.Open t.Ready h.1 t.Held [] (t.Next-1) 0 (by have:=h.2.1;show t.Held.length≤1000;omega) (by omega) (by omega) h.2.2.2.2.2.1 (Nat.two_pow_pos _)
end Km.X
namespace Km.X
open Go Km
set_option linter.unusedVariables false
set_option linter.unusedSimpArgs false
def Fu_ (x:an_):Prop:=Av_ x.Send∧zF_ x.Take
end Km.X
namespace Km.X
open Go Km
set_option linter.unusedVariables false
set_option linter.unusedSimpArgs false
def Cq_ (s:aj_):Prop:=s.Base=0∧s.Items.length=0
instance (s:aj_):Decidable (Cq_ s):=by unfold Cq_;infer_instance
def A1_ (t:ai_):Prop:=t.Next=0∧t.Held.length=0∧t.Open=noB∧t.Ready.length=0
instance (t:ai_):Decidable (A1_ t):=by unfold A1_;infer_instance
theorem vh_ (a b:Int):(a==b)=decide (a=b):=by by_cases h:a=b<;>simp [h]
theorem uR_ (s:aj_):Wp (fun k=>gH_ k s) (· =decide (Cq_ s)):=by
  unfold gH_
  simp only [vh_,al_]
  refine Wp.ite (fun h=>Wp.ret ?_) (fun h=>Wp.ret (decide_eq_false fun g=>h g.1).symm)
  rw [decide_eq_decide];exact ⟨fun g=>⟨h,by omega⟩,fun g=>by have:=g.2;omega⟩
theorem ul_ (t:ai_):Wp (fun k=>gv_ k t) (· =decide (A1_ t)):=by
  unfold gv_
  simp only [vh_,mb_,al_]
  have F:¬A1_ t→Wp (fun _=>some false) (· =decide (A1_ t)):=fun h=>Wp.ret (decide_eq_false h).symm
  refine Wp.ite (fun h=> ?_) (fun h=>F fun g=>h g.1)
  refine Wp.ite (fun h2=> ?_) (fun h2=>F fun g=>by have:=g.2.1;omega)
  refine Wp.ite (fun h3=>Wp.ret ?_) (fun h3=>F fun g=>h3 g.2.2.1)
  rw [decide_eq_decide];exact ⟨fun g=>⟨h,by omega,h3,by omega⟩,fun g=>by have:=g.2.2.2;omega⟩
def VEnd (e:an_):Prop:=(1≤e.Number∧e.Number≤2)∧(1≤e.Life∧e.Life≤1000)∧(0≤e.Peer∧e.Peer≤1000)∧(0≤e.Since∧e.Since≤1000000)∧VSend e.Send∧VTake e.Take∧(e.Peer=0→Cq_ e.Send∧A1_ e.Take)∧(e.Up=false→e.Peer=0∧e.Since=0∧e.Owes=false)
instance (e:an_):Decidable (VEnd e):=by unfold VEnd;infer_instance
theorem VEnd.sm {e:an_} (h:VEnd e):Fu_ e:=⟨h.2.2.2.2.1.sm,h.2.2.2.2.2.1.sm⟩
theorem z5_ (e:an_) (h:(1≤e.Number∧e.Number≤2)∧(1≤e.Life∧e.Life≤1000)∧(0≤e.Peer∧e.Peer≤1000)∧(0≤e.Since∧e.Since≤1000000)∧VSend e.Send∧VTake e.Take) (h':e.Peer=0→Cq_ e.Send∧A1_ e.Take):
    Wp (fun _=>bif e.Up then some true else bif e.Peer==0 then bif e.Since==0 then some (!e.Owes) else some false else some false) (· =decide (VEnd e)):=by
  obtain ⟨h1,h2,h3,h4,h5,h6⟩:=h
  simp only [fl_]
  refine Wp.bif (fun u=>Wp.ret (decide_eq_true ⟨h1,h2,h3,h4,h5,h6,h',fun g=>by rw [u] at g;cases g⟩).symm) (fun u=> ?_)
  refine Wp.ite (fun h7=> ?_) (fun h7=>Wp.ret (decide_eq_false fun g=>h7 (g.2.2.2.2.2.2.2 u).1).symm)
  refine Wp.ite (fun h8=>Wp.ret ?_) (fun h8=>Wp.ret (decide_eq_false fun g=>h8 (g.2.2.2.2.2.2.2 u).2.1).symm)
  by_cases ho:e.Owes=true
  ·rw [ho];exact (decide_eq_false fun g=>by have:=(g.2.2.2.2.2.2.2 u).2.2;rw [ho] at this;cases this).symm
  ·have ho:e.Owes=false:=by simpa using ho
   rw [ho];exact (decide_eq_true ⟨h1,h2,h3,h4,h5,h6,h',fun _=>⟨h7,h8,ho⟩⟩).symm
theorem bV_ (e:an_):Wp (fun k=>bU_ k e) (· =decide (VEnd e)):=by
  unfold bU_
  have F:¬VEnd e→Wp (fun _=>some false) (· =decide (VEnd e)):=fun h=>Wp.ret (decide_eq_false h).symm
  refine Wp.bind (bX_ _ _ _) (fun _ q=> ?_);subst q
  simp only [inB,al_,bf_]
  refine Wp.ite (fun h1=> ?_) (fun h1=>F fun g=>h1 g.1)
  refine Wp.bind (bX_ _ _ _) (fun _ q=> ?_);subst q
  simp only [inB,al_]
  refine Wp.ite (fun h2=> ?_) (fun h2=>F fun g=>h2 g.2.1)
  refine Wp.bind (bX_ _ _ _) (fun _ q=> ?_);subst q
  simp only [inB,al_]
  refine Wp.ite (fun h3=> ?_) (fun h3=>F fun g=>h3 g.2.2.1)
  refine Wp.bind (bX_ _ _ _) (fun _ q=> ?_);subst q
  simp only [inB,al_]
  refine Wp.ite (fun h4=> ?_) (fun h4=>F fun g=>h4 g.2.2.2.1)
  refine Wp.bind (dJ_ _) (fun _ q=> ?_);subst q
  simp only [al_]
  refine Wp.ite (fun h5=> ?_) (fun h5=>F fun g=>h5 g.2.2.2.2.1)
  refine Wp.bind (eX_ _) (fun _ q=> ?_);subst q
  simp only [al_]
  refine Wp.ite (fun h6=> ?_) (fun h6=>F fun g=>h6 g.2.2.2.2.2.1)
  have T:=z5_ e ⟨h1,h2,h3,h4,h5,h6⟩
  simp only [fl_] at T⊢
  refine Wp.ite (fun h7=> ?_) (fun h7=>T fun g=>absurd g h7)
  refine Wp.bind (uR_ _) (fun _ q=> ?_);subst q
  simp only [al_]
  refine Wp.ite (fun h8=> ?_) (fun h8=>F fun g=>h8 (g.2.2.2.2.2.2.1 h7).1)
  refine Wp.bind (ul_ _) (fun _ q=> ?_);subst q
  simp only [al_]
  exact Wp.ite (fun h9=>T fun _=>⟨h8,h9⟩) (fun h9=>F fun g=>h9 (g.2.2.2.2.2.2.1 h7).2)
theorem b0_ (e:an_):Wp (fun k=>bS_ k e) (· =decide (VEnd e)):=by
  unfold bS_
  have F:¬VEnd e→Wp (fun _=>some false) (· =decide (VEnd e)):=fun h=>Wp.ret (decide_eq_false h).symm
  have M:(1≤e.Number∧e.Number≤2)→Wp (fun k=>(aN_ k e.Life 1 1000).bind fun r8=>
    bif (!r8) then
      some false
    else
      (aN_ k e.Peer 0 1000).bind fun r9=>
      bif (!r9) then
        some false
      else
        (aN_ k e.Since 0 1000000).bind fun r10=>
        bif (!r10) then
          some false
        else
          (bn_ k e.Send).bind fun r11=>
          bif (!r11) then
            some false
          else
            (bP_ k e.Take).bind fun r12=>
            bif (!r12) then
              some false
            else
              bif (e.Peer==0) then
                (im_ k e.Send).bind fun r13=>
                bif r13 then
                  (it_ k e.Take).bind fun r14=>
                  bif (!r14) then
                    some false
                  else
                    bif e.Up then
                      some true
                    else
                      bif (e.Peer==0) then
                        bif (e.Since==0) then
                          some (!e.Owes)
                        else
                          some false
                      else
                        some false
                else
                  some false
              else
                bif e.Up then
                  some true
                else
                  bif (e.Peer==0) then
                    bif (e.Since==0) then
                      some (!e.Owes)
                    else
                      some false
                  else
                    some false) (· =decide (VEnd e)):=fun h1=>by
    refine Wp.bind (lL_ _ _ _) (fun _ q=> ?_);subst q
    simp only [inB,al_,bf_]
    refine Wp.ite (fun h2=> ?_) (fun h2=>F fun g=>h2 g.2.1)
    refine Wp.bind (lL_ _ _ _) (fun _ q=> ?_);subst q
    simp only [inB,al_]
    refine Wp.ite (fun h3=> ?_) (fun h3=>F fun g=>h3 g.2.2.1)
    refine Wp.bind (lL_ _ _ _) (fun _ q=> ?_);subst q
    simp only [inB,al_]
    refine Wp.ite (fun h4=> ?_) (fun h4=>F fun g=>h4 g.2.2.2.1)
    refine Wp.bind (e2_ _) (fun _ q=> ?_);subst q
    simp only [al_]
    refine Wp.ite (fun h5=> ?_) (fun h5=>F fun g=>h5 g.2.2.2.2.1)
    refine Wp.bind (e1_ _) (fun _ q=> ?_);subst q
    simp only [al_]
    refine Wp.ite (fun h6=> ?_) (fun h6=>F fun g=>h6 g.2.2.2.2.2.1)
    have T:=z5_ e ⟨h1,h2,h3,h4,h5,h6⟩
    simp only [fl_] at T⊢
    refine Wp.ite (fun h7=> ?_) (fun h7=>T fun g=>absurd g h7)
    refine Wp.bind (P:=fun r=>r=decide (Cq_ e.Send)) (uR_ _) (fun _ q=> ?_);subst q
    simp only [al_]
    refine Wp.ite (fun h8=> ?_) (fun h8=>F fun g=>h8 (g.2.2.2.2.2.2.1 h7).1)
    refine Wp.bind (P:=fun r=>r=decide (A1_ e.Take)) (ul_ _) (fun _ q=> ?_);subst q
    simp only [al_]
    exact Wp.ite (fun h9=>T fun _=>⟨h8,h9⟩) (fun h9=>F fun g=>h9 (g.2.2.2.2.2.2.1 h7).2)
  simp only [ma_]
  refine Wp.ite (fun h=>M (by omega)) (fun h=> ?_)
  exact Wp.ite (fun h2=>M (by omega)) (fun h2=>F fun g=>by have:=g.1;omega)
theorem f8_ (e:an_) (h:VEnd e):Wp (fun k=>c5_ k e) (· =e):=by
  unfold c5_
  obtain ⟨h1,h2⟩:=h.sm
  refine Wp.bind (hV_ _ h1.1) (fun r q=> ?_);subst q
  refine Wp.bind (jC_ _ h2.1.1 h2.2.2.1) (fun r q=> ?_);subst q
  exact Wp.ret rfl
theorem fj_ (e:an_) (h:VEnd e):Wp (fun k=>cW_ k e) (· =e):=f8_ e h
abbrev mA_:an_:=⟨0,false,0,0,0,false,id_,iM_⟩
theorem Fs_:Cq_ id_:=⟨rfl,rfl⟩
theorem FH_:A1_ iM_:=⟨rfl,rfl,rfl,rfl⟩
def yP_ (n:Int):an_:=if 1≤n∧n≤2 then ⟨n,true,1,0,0,false,id_,iM_⟩ else mA_
theorem rH_ (n:Int):Wp (fun k=>gT_ k n) (· =yP_ n):=by
  unfold gT_ yP_
  refine Wp.bind (bX_ _ _ _) (fun _ q=> ?_);subst q
  simp only [inB,al_,bf_]
  exact Wp.ite (fun h1=>Wp.ret (by rw [if_pos h1])) (fun h1=>Wp.ret (by rw [if_neg h1]))
theorem rv_ (n:Int):Wp (fun k=>gS_ k n) (· =yP_ n):=by
  unfold gS_ yP_
  simp only [ma_]
  refine Wp.ite (fun h=>Wp.ret (by rw [if_pos (by omega)])) (fun h=> ?_)
  exact Wp.ite (fun h2=>Wp.ret (by rw [if_pos (by omega)])) (fun h2=>Wp.ret (by rw [if_neg (by omega)]))
def lt_ (e:an_):an_:=if VEnd e then ⟨e.Number,false,e.Life,0,0,false,id_,iM_⟩ else mA_
theorem vX_ (e:an_):Wp (fun k=>hB_ k e) (· =lt_ e):=by
  unfold hB_ lt_
  refine Wp.bind (bV_ _) (fun _ q=> ?_);subst q
  simp only [al_,bf_]
  exact Wp.ite (fun h1=>Wp.ret (by rw [if_pos h1])) (fun h1=>Wp.ret (by rw [if_neg h1]))
theorem wl_ (e:an_):Wp (fun k=>hN_ k e) (· =lt_ e):=by
  unfold hN_ lt_
  refine Wp.bind (b0_ _) (fun _ q=> ?_);subst q
  simp only [al_,bf_]
  exact Wp.ite (fun h1=>Wp.ret (by rw [if_pos h1])) (fun h1=>Wp.ret (by rw [if_neg h1]))
theorem De_ (e:an_) (h:VEnd e):VEnd (lt_ e):=by
  unfold lt_;rw [if_pos h]
  exact ⟨h.1,h.2.1,by simp,by simp,il_,jZ_,fun _=>⟨Fs_,FH_⟩,fun _=>⟨rfl,rfl,rfl⟩⟩
def jn_ (e:an_):an_:=if VEnd e then (if e.Up=true then e else if 1000≤e.Life then e else ⟨e.Number,true,e.Life+1,0,0,false,id_,iM_⟩) else mA_
theorem vL_ (e:an_):Wp (fun k=>hm_ k e) (· =jn_ e):=by
  unfold hm_ jn_
  refine Wp.bind (bV_ _) (fun _ q=> ?_);subst q
  simp only [al_,bf_]
  refine Wp.ite (fun h1=> ?_) (fun h1=>Wp.ret (by rw [if_neg h1]))
  rw [if_pos h1]
  refine Wp.bif (fun u=> ?_) (fun u=> ?_)
  ·rw [if_pos u];refine Wp.bind (f8_ e h1) (fun r q=> ?_);rw [q];exact Wp.ret rfl
  ·rw [if_neg (by simp [u])]
   refine Wp.ite (fun h2=> ?_) (fun h2=> ?_)
   ·rw [if_pos (by omega)];refine Wp.bind (f8_ e h1) (fun r q=> ?_);rw [q];exact Wp.ret rfl
   ·rw [if_neg (by omega)]
    have:=h1.2.1
    rw [aS_ (by omega) (by omega)];exact Wp.ret rfl
theorem vP_ (e:an_):Wp (fun k=>hF_ k e) (· =jn_ e):=by
  unfold hF_ jn_
  refine Wp.bind (b0_ _) (fun _ q=> ?_);subst q
  simp only [al_,bf_,fl_]
  refine Wp.ite (fun h1=> ?_) (fun h1=>Wp.ret (by rw [if_neg h1]))
  rw [if_pos h1]
  refine Wp.bif (fun u=> ?_) (fun u=> ?_)
  ·rw [if_pos u];refine Wp.bind (fj_ e h1) (fun r q=> ?_);rw [q];exact Wp.ret rfl
  ·rw [if_neg (by simp [u])]
   have:=h1.2.1
   refine Wp.ite (fun h2=> ?_) (fun h2=> ?_)
   ·rw [if_pos (by omega)];refine Wp.bind (fj_ e h1) (fun r q=> ?_);rw [q];exact Wp.ret rfl
   ·rw [if_neg (by omega)]
    rw [aS_ (by omega) (by omega)];exact Wp.ret rfl
theorem C9_ (e:an_) (h:VEnd e):VEnd (jn_ e):=by
  unfold jn_;rw [if_pos h]
  split
  ·exact h
  ·split
   ·exact h
   ·have:=h.2.1
    exact ⟨h.1,by simp only;omega,by simp,by simp,il_,jZ_,fun _=>⟨Fs_,FH_⟩,fun g=>by cases g⟩
def d8_ (e:an_):ay_:=if VEnd e then (if e.Up=true then (if (cy_ e.Take).2.2=true then ⟨0,⟨e.Number,e.Up,e.Life,e.Peer,e.Since,true,e.Send,(cy_ e.Take).1⟩,[],(cy_ e.Take).2.1⟩ else ⟨4,mA_,[],noB⟩) else ⟨2,mA_,[],noB⟩) else ⟨1,mA_,[],noB⟩
theorem tr_ (e:an_):Wp (fun k=>hq_ k e) (· =d8_ e):=by
  unfold hq_ d8_
  refine Wp.bind (bV_ _) (fun _ q=> ?_);subst q
  simp only [al_,bf_]
  refine Wp.ite (fun h1=> ?_) (fun h1=>Wp.ret (by rw [if_neg h1]))
  rw [if_pos h1]
  refine Wp.bif (fun u=> ?_) (fun u=>Wp.ret (by rw [if_neg (by simp [u])]))
  rw [if_pos u]
  refine Wp.bind (qi_ _) (fun _ q=> ?_);subst q
  refine Wp.bif (fun v=> ?_) (fun v=>Wp.ret (by rw [if_neg (by simp [v])]))
  rw [if_pos v]
  refine Wp.bind (f8_ e h1) (fun r q=> ?_);rw [q];exact Wp.ret rfl
theorem uj_ (e:an_):Wp (fun k=>hp_ k e) (· =d8_ e):=by
  unfold hp_ d8_
  refine Wp.bind (b0_ _) (fun _ q=> ?_);subst q
  simp only [al_,bf_]
  refine Wp.ite (fun h1=> ?_) (fun h1=>Wp.ret (by rw [if_neg h1]))
  rw [if_pos h1]
  refine Wp.bif (fun u=> ?_) (fun u=>Wp.ret (by rw [if_neg (by simp [u])]))
  rw [if_pos u]
  refine Wp.bind (wy_ _) (fun _ q=> ?_);subst q
  refine Wp.bif (fun v=> ?_) (fun v=>Wp.ret (by rw [if_neg (by simp [v])]))
  rw [if_pos v]
  refine Wp.bind (fj_ e h1) (fun r q=> ?_);rw [q];exact Wp.ret rfl
def gk_ (e:an_) (t:ByteArray):ay_:=if VEnd e then (if e.Up=true then (if e.Peer=0 then ⟨2,mA_,[],noB⟩ else if (mk_ e.Send t).2=0 then ⟨0,⟨e.Number,e.Up,e.Life,e.Peer,e.Since,e.Owes,(mk_ e.Send t).1,e.Take⟩,[],noB⟩ else ⟨(mk_ e.Send t).2,mA_,[],noB⟩) else ⟨2,mA_,[],noB⟩) else ⟨1,mA_,[],noB⟩
theorem tO_ (e:an_) (t:ByteArray):Wp (fun k=>hz_ k e t) (· =gk_ e t):=by
  unfold hz_ gk_
  refine Wp.bind (bV_ _) (fun _ q=> ?_);subst q
  simp only [al_,bf_,fl_,ma_]
  refine Wp.ite (fun h1=> ?_) (fun h1=>Wp.ret (by rw [if_neg h1]))
  rw [if_pos h1]
  refine Wp.bif (fun u=> ?_) (fun u=>Wp.ret (by rw [if_neg (by simp [u])]))
  rw [if_pos u]
  refine Wp.ite (fun h2=>Wp.ret (by rw [if_pos h2])) (fun h2=> ?_)
  rw [if_neg h2]
  refine Wp.bind (pL_ _ _) (fun _ q=> ?_);subst q
  refine Wp.ite (fun h3=> ?_) (fun h3=>Wp.ret (by rw [if_neg h3]))
  rw [if_pos h3]
  refine Wp.bind (f8_ e h1) (fun r q=> ?_);rw [q];exact Wp.ret rfl
theorem ux_ (e:an_) (t:ByteArray):Wp (fun k=>f9_ k e t) (· =gk_ e t):=by
  unfold f9_ gk_
  refine Wp.bind (b0_ _) (fun _ q=> ?_);subst q
  simp only [al_,bf_,fl_,ma_]
  refine Wp.ite (fun h1=> ?_) (fun h1=>Wp.ret (by rw [if_neg h1]))
  rw [if_pos h1]
  refine Wp.bif (fun u=> ?_) (fun u=>Wp.ret (by rw [if_neg (by simp [u])]))
  rw [if_pos u]
  refine Wp.ite (fun h2=>Wp.ret (by rw [if_pos h2])) (fun h2=> ?_)
  rw [if_neg h2]
  refine Wp.bind (wn_ _ _) (fun _ q=> ?_);subst q
  refine Wp.ite (fun h3=> ?_) (fun h3=>Wp.ret (by rw [if_neg h3]))
  rw [if_pos h3]
  refine Wp.bind (fj_ e h1) (fun r q=> ?_);rw [q];exact Wp.ret rfl
end Km.X
namespace Km.X
open Go Km
set_option linter.unusedVariables false
set_option linter.unusedSimpArgs false
theorem qx_:∀(t:List ag_) (i:Nat) (b:Int),∀q∈(dx_ i b t).2,b+i≤q∧q<b+i+t.length
  | [],i,b,q,h=>by simp [dx_] at h
  | x::t,i,b,q,h=>by
    simp only [dx_] at h
    split at h
    ·simp at h
    ·simp only [List.length_cons]
     rcases List.mem_append.mp h with h | h
     ·split at h
      ·simp only [List.mem_singleton] at h;omega
      ·simp at h
     ·have:=qx_ t (i+1) b q h
      omega
def iG_ (l:List ag_) (i:Int):aA_:=match l[i.toNat]? with | some x=>x.Part | none=>⟨noB,false⟩
def jg_ (n li p b:Int) (l:List ag_) (q:Int):ae_:=⟨2,n,li,p,0,0,q,(iG_ l (q-b)).Last,(iG_ l (q-b)).Text⟩
def bm_ (e:an_):aj_×List Int:=if e.Peer=0 then (e.Send,[]) else hT_ e.Send
def upS (e:an_):Int:=if e.Since<1000000 then e.Since+1 else e.Since
def a1_ (e:an_):ay_:=if VEnd e then
    (if e.Up=true then
      (if e.Owes=true∨6≤upS e then ⟨0,⟨e.Number,e.Up,e.Life,e.Peer,0,false,(bm_ e).1,e.Take⟩,(bm_ e).2.map (jg_ e.Number e.Life e.Peer (bm_ e).1.Base (bm_ e).1.Items)++[⟨1,e.Number,e.Life,e.Peer,(tkM e.Take).1,(tkM e.Take).2,0,false,noB⟩],noB⟩
      else ⟨0,⟨e.Number,e.Up,e.Life,e.Peer,upS e,e.Owes,(bm_ e).1,e.Take⟩,(bm_ e).2.map (jg_ e.Number e.Life e.Peer (bm_ e).1.Base (bm_ e).1.Items),noB⟩)
    else ⟨0,e,[],noB⟩) else ⟨1,mA_,[],noB⟩
theorem tG_ (x0 x1:Int) (x2:Bool) (x3 x4 x5:Int) (x6:Bool) (x7 x8:Int) (x9 x10:ByteArray) (n:Int) (u:Bool) (li p s:Int) (w:Bool) (b nn:Int) (o:ByteArray) (out:List ae_) (y1:List ag_) (y2:List ak_) (y3:List ByteArray) (y4:List ae_) (it:List ag_) (h:List ak_) (r:List ByteArray) (ho:out.length≤1000):
    Wp (fun k=>dI_ k x0 x1 x2 x3 x4 x5 x6 x7 x8 x9 x10 n u li p s w b nn o out y1 y2 y3 y4 it h r) (· =if w=true∨6≤s then ⟨0,⟨n,u,li,p,0,false,⟨b,it⟩,⟨nn,h,o,r⟩⟩,out++[⟨1,n,li,p,(tkM ⟨nn,h,o,r⟩).1,(tkM ⟨nn,h,o,r⟩).2,0,false,noB⟩],noB⟩ else ⟨0,⟨n,u,li,p,s,w,⟨b,it⟩,⟨nn,h,o,r⟩⟩,out,noB⟩):=by
  refine Wp.step ?_
  simp only [dI_]
  have G:w=true∨6≤s→Wp (fun k=>(eA_ k ⟨nn,h,o,r⟩).bind fun r8=>(app 80 out ([(⟨1,n,li,p,r8.1,r8.2,0,false,(⟨#[]⟩:ByteArray)⟩:ae_)]:List ae_)).bind fun l9=>
   cg_ k x0 x1 x2 x3 x4 x5 x6 x7 x8 x9 x10 n u li p 0 false b nn o l9 y1 y2 y3 y4 it h r) (· =if w=true∨6≤s then ⟨0,⟨n,u,li,p,0,false,⟨b,it⟩,⟨nn,h,o,r⟩⟩,out++[⟨1,n,li,p,(tkM ⟨nn,h,o,r⟩).1,(tkM ⟨nn,h,o,r⟩).2,0,false,noB⟩],noB⟩ else ⟨0,⟨n,u,li,p,s,w,⟨b,it⟩,⟨nn,h,o,r⟩⟩,out,noB⟩):=fun g=>by
    rw [if_pos g]
    refine Wp.bind (qr_ _) (fun _ q=> ?_);subst q
    refine Wp.opt (aQ_ (by simp;omega)) ?_
    refine Wp.step ?_
    simp only [cg_]
    exact Wp.ret rfl
  refine Wp.bif (fun g=>G (.inl g)) (fun g=> ?_)
  simp only [al_]
  refine Wp.ite (fun g2=>G (.inr g2)) (fun g2=> ?_)
  rw [if_neg (by rw [g];intro h;rcases h with h | h;cases h;omega)]
  refine Wp.step ?_
  simp only [cg_]
  exact Wp.ret (by rw [g])
theorem uA_ (x0 x1:Int) (x2:Bool) (x3 x4 x5:Int) (x6:Bool) (x7 x8:Int) (x9 x10:ByteArray) (n:Int) (u:Bool) (li p s:Int) (w:Bool) (b c nn:Int) (o:ByteArray) (y1:List ag_) (y2:List ak_) (y3:List ByteArray) (y4:List ae_) (it:List ag_) (h:List ak_) (r:List ByteArray) (hit:it.length≤60) (hb:0≤b∧b≤1000000):∀(t pre:List Int) (out:List ae_),(pre++t).length≤60→out.length≤pre.length→(∀q∈t,b≤q∧q<b+it.length)→
    Wp (fun k=>cV_ k (pre.length:Int) x0 x1 x2 x3 x4 x5 x6 x7 x8 x9 x10 n u li p s w c nn o out b (pre++t) y1 y2 y3 y4 it h r) (· =if w=true∨6≤s then ⟨0,⟨n,u,li,p,0,false,⟨c,it⟩,⟨nn,h,o,r⟩⟩,(out++t.map (jg_ n li p b it))++[⟨1,n,li,p,(tkM ⟨nn,h,o,r⟩).1,(tkM ⟨nn,h,o,r⟩).2,0,false,noB⟩],noB⟩ else ⟨0,⟨n,u,li,p,s,w,⟨c,it⟩,⟨nn,h,o,r⟩⟩,out++t.map (jg_ n li p b it),noB⟩)
  | [],pre,out,hl,ho,hq=>by
    refine Wp.step ?_
    simp only [cV_,List.append_nil,List.map_nil] at*
    simp (disch:=omega) only [al_,if_neg]
    exact tG_ _ _ _ _ _ _ _ _ _ _ _ _ _ _ _ _ _ _ _ _ _ _ _ _ _ _ _ _ (by omega)
  | q::t,pre,out,hl,ho,hq=>by
    refine Wp.step ?_
    have hl':=hl
    simp only [List.length_append,List.length_cons] at hl
    have hq1:=hq q (List.mem_cons_self ..)
    simp only [cV_]
    simp only [al_,cZ_,if_true,aI_,fo_,Option.bind_some]
    rw [aS_ (n:=q-b) (by omega) (by omega)]
    have hlt:(q-b).toNat<it.length:=by omega
    have e1:idx it (q-b)=some it[(q-b).toNat]:=by
      have:=rq_ hlt
      rwa [Int.toNat_of_nonneg (by omega)] at this
    have e2:it[(q-b).toNat]? =some it[(q-b).toNat]:=List.getElem?_eq_getElem hlt
    have e3:iG_ it (q-b)=it[(q-b).toNat].Part:=by unfold iG_;rw [e2]
    simp only [e1,e2,Option.bind_some]
    rw [←e3]
    refine Wp.opt (aQ_ (by simp;omega)) ?_
    simp (disch:=omega) only [aS_]
    have ih:=uA_ x0 x1 x2 x3 x4 x5 x6 x7 x8 x9 x10 n u li p s w b c nn o y1 y2 y3 y4 it h r hit hb t (pre++[q]) (out++[jg_ n li p b it q]) (by simpa using hl') (by simp;omega) (fun q' h'=>hq q' (List.mem_cons_of_mem _ h'))
    rw [←aX_,←bd_] at ih
    simp only [List.append_assoc,List.cons_append,List.nil_append] at ih
    simp only [List.map_cons,List.append_assoc,List.cons_append]
    exact ih
theorem vd_ (x0 x1:Int) (x2:Bool) (x3 x4 x5:Int) (x6:Bool) (x7 x8:Int) (x9 x10:ByteArray) (cd n:Int) (u:Bool) (li p s:Int) (w:Bool) (b nn:Int) (o tx:ByteArray) (out:List ae_) (y1:List ag_) (y2:List ak_) (y3:List ByteArray) (y4:List ae_) (it:List ag_) (h:List ak_) (r:List ByteArray) (ho:out.length≤1000):
    Wp (fun k=>dF_ k x0 x1 x2 x3 x4 x5 x6 x7 x8 x9 x10 cd n u li p s w b nn o tx y1 y2 y3 y4 it h r out) (· =if w=true∨6≤s then ⟨cd,⟨n,u,li,p,0,false,⟨b,it⟩,⟨nn,h,o,r⟩⟩,out++[⟨1,n,li,p,(tkM ⟨nn,h,o,r⟩).1,(tkM ⟨nn,h,o,r⟩).2,0,false,noB⟩],tx⟩ else ⟨cd,⟨n,u,li,p,s,w,⟨b,it⟩,⟨nn,h,o,r⟩⟩,out,tx⟩):=by
  refine Wp.step ?_
  simp only [dF_]
  have G:w=true∨6≤s→Wp (fun k=>(ex_ k ⟨nn,h,o,r⟩).bind fun r8=>(app 80 out ([(⟨1,n,li,p,r8.1,r8.2,0,false,(⟨#[]⟩:ByteArray)⟩:ae_)]:List ae_)).bind fun l9=>
   cb_ k x0 x1 x2 x3 x4 x5 x6 x7 x8 x9 x10 cd n u li p 0 false b nn o tx y1 y2 y3 y4 it h r l9) (· =if w=true∨6≤s then ⟨cd,⟨n,u,li,p,0,false,⟨b,it⟩,⟨nn,h,o,r⟩⟩,out++[⟨1,n,li,p,(tkM ⟨nn,h,o,r⟩).1,(tkM ⟨nn,h,o,r⟩).2,0,false,noB⟩],tx⟩ else ⟨cd,⟨n,u,li,p,s,w,⟨b,it⟩,⟨nn,h,o,r⟩⟩,out,tx⟩):=fun g=>by
    rw [if_pos g]
    refine Wp.bind (qb_ _) (fun _ q=> ?_);subst q
    refine Wp.opt (aQ_ (by simp;omega)) ?_
    refine Wp.step ?_
    simp only [cb_]
    exact Wp.ret rfl
  refine Wp.bif (fun g=>G (.inl g)) (fun g=> ?_)
  simp only [al_]
  refine Wp.ite (fun g2=>G (.inr g2)) (fun g2=> ?_)
  rw [if_neg (by rw [g];intro h;rcases h with h | h;cases h;omega)]
  refine Wp.step ?_
  simp only [cb_]
  exact Wp.ret (by rw [g])
theorem va_ (x0 x1:Int) (x2:Bool) (x3 x4 x5:Int) (x6:Bool) (x7 x8:Int) (x9 x10:ByteArray) (cd n:Int) (u:Bool) (li p s:Int) (w:Bool) (b nn:Int) (o tx:ByteArray) (y1:List ag_) (y2:List ak_) (y3:List ByteArray) (y4:List ae_) (it:List ag_) (h:List ak_) (r:List ByteArray) (hit:it.length≤60) (hb:0≤b∧b≤1000000):∀(t pre:List Int) (out:List ae_),(pre++t).length≤60→out.length≤pre.length→(∀q∈t,b≤q∧q<b+it.length)→
    Wp (fun k=>cO_ k ((pre++t).length:Int) (pre.length:Int) x0 x1 x2 x3 x4 x5 x6 x7 x8 x9 x10 cd n u li p s w b nn o tx (pre++t) y1 y2 y3 y4 it h r out) (· =if w=true∨6≤s then ⟨cd,⟨n,u,li,p,0,false,⟨b,it⟩,⟨nn,h,o,r⟩⟩,(out++t.map (jg_ n li p b it))++[⟨1,n,li,p,(tkM ⟨nn,h,o,r⟩).1,(tkM ⟨nn,h,o,r⟩).2,0,false,noB⟩],tx⟩ else ⟨cd,⟨n,u,li,p,s,w,⟨b,it⟩,⟨nn,h,o,r⟩⟩,out++t.map (jg_ n li p b it),tx⟩)
  | [],pre,out,hl,ho,hq=>by
    refine Wp.step ?_
    simp only [cO_,List.append_nil,List.map_nil] at*
    simp (disch:=omega) only [al_,if_neg]
    exact vd_ _ _ _ _ _ _ _ _ _ _ _ _ _ _ _ _ _ _ _ _ _ _ _ _ _ _ _ _ _ _ (by omega)
  | q::t,pre,out,hl,ho,hq=>by
    refine Wp.step ?_
    have hl':=hl
    simp only [List.length_append,List.length_cons] at hl
    have hq1:=hq q (List.mem_cons_self ..)
    simp only [cO_]
    simp only [al_,cZ_,if_true,aI_,fo_,Option.bind_some]
    rw [aS_ (n:=q-b) (by omega) (by omega)]
    have hlt:(q-b).toNat<it.length:=by omega
    have e1:idx it (q-b)=some it[(q-b).toNat]:=by
      have:=rq_ hlt
      rwa [Int.toNat_of_nonneg (by omega)] at this
    have e2:it[(q-b).toNat]? =some it[(q-b).toNat]:=List.getElem?_eq_getElem hlt
    have e3:iG_ it (q-b)=it[(q-b).toNat].Part:=by unfold iG_;rw [e2]
    simp only [e1,e2,Option.bind_some]
    rw [←e3]
    refine Wp.opt (aQ_ (by simp;omega)) ?_
    simp (disch:=omega) only [aS_]
    have ih:=va_ x0 x1 x2 x3 x4 x5 x6 x7 x8 x9 x10 cd n u li p s w b nn o tx y1 y2 y3 y4 it h r hit hb t (pre++[q]) (out++[jg_ n li p b it q]) (by simpa using hl') (by simp;omega) (fun q' h'=>hq q' (List.mem_cons_of_mem _ h'))
    rw [←aX_,←bd_] at ih
    simp only [List.append_assoc,List.cons_append,List.nil_append] at ih
    simp only [List.map_cons,List.append_assoc,List.cons_append]
    exact ih
theorem iD_ (s:aj_) (h:VSend s):∀q∈(hT_ s).2,(hT_ s).1.Base≤q∧q<(hT_ s).1.Base+(hT_ s).1.Items.length:=by
  unfold hT_
  rw [if_pos h]
  intro q hq
  have:=qx_ s.Items 0 s.Base q hq
  have e:=(n6_ s.Items 0 s.Base h.2.2.2).2.1
  simp only
  rw [e];omega
theorem mR_ (e:an_):Wp (fun k=>hl_ k e) (· =a1_ e):=by
  unfold hl_ a1_
  refine Wp.bind (bV_ _) (fun _ q=> ?_);subst q
  simp only [al_,bf_]
  refine Wp.ite (fun h1=> ?_) (fun h1=>Wp.ret (by rw [if_neg h1]))
  rw [if_pos h1]
  refine Wp.bind (f8_ e h1) (fun r q=> ?_);rw [q]
  refine Wp.bif (fun u=> ?_) (fun u=>Wp.ret (by rw [if_neg (by simp [u])]))
  rw [if_pos u]
  have hS:=h1.2.2.2.1
  have M:∀s:Int,s=upS e→Wp (fun k=>em_ k 0 0 false 0 0 0 false 0 0 (⟨#[]⟩:ByteArray) (⟨#[]⟩:ByteArray) e.Number e.Up e.Life e.Peer s e.Owes e.Send.Base e.Take.Next e.Take.Open ([]:List ae_) ([]:List ag_) ([]:List ak_) ([]:List ByteArray) ([]:List ae_) e.Send.Items e.Take.Held e.Take.Ready) (· =if e.Owes=true∨6≤upS e then ⟨0,⟨e.Number,e.Up,e.Life,e.Peer,0,false,(bm_ e).1,e.Take⟩,(bm_ e).2.map (jg_ e.Number e.Life e.Peer (bm_ e).1.Base (bm_ e).1.Items)++[⟨1,e.Number,e.Life,e.Peer,(tkM e.Take).1,(tkM e.Take).2,0,false,noB⟩],noB⟩
   else ⟨0,⟨e.Number,e.Up,e.Life,e.Peer,upS e,e.Owes,(bm_ e).1,e.Take⟩,(bm_ e).2.map (jg_ e.Number e.Life e.Peer (bm_ e).1.Base (bm_ e).1.Items),noB⟩):=fun s hs=>by
    subst hs
    refine Wp.step ?_
    simp only [em_,ma_]
    unfold bm_
    refine Wp.ite (fun h2=> ?_) (fun h2=> ?_)
    ·rw [if_pos h2]
     exact tG_ _ _ _ _ _ _ _ _ _ _ _ _ _ _ _ _ _ _ _ _ _ _ _ _ _ _ _ _ (by simp)
    ·rw [if_neg h2]
     refine Wp.bind (oS_ _) (fun _ q=> ?_);subst q
     obtain ⟨v1,v2⟩:=oc_ e.Send
     exact uA_ _ _ _ _ _ _ _ _ _ _ _ _ _ _ _ _ _ _ _ _ _ _ _ _ _ _ _ _ v1.1 v1.2.1 (hT_ e.Send).2 [] [] (by simpa using v2) (by simp) (iD_ e.Send h1.2.2.2.2.1)
  refine Wp.ite (fun h2=>M _ ?_) (fun h2=>M _ ?_)
  ·rw [aS_ (by omega) (by omega)];unfold upS;rw [if_pos h2]
  ·unfold upS;rw [if_neg h2]
theorem nk_ (e:an_):Wp (fun k=>ht_ k e) (· =a1_ e):=by
  unfold ht_ a1_
  refine Wp.bind (b0_ _) (fun _ q=> ?_);subst q
  simp only [al_,bf_]
  refine Wp.ite (fun h1=> ?_) (fun h1=>Wp.ret (by rw [if_neg h1]))
  rw [if_pos h1]
  refine Wp.bind (fj_ e h1) (fun r q=> ?_);rw [q]
  refine Wp.bif (fun u=> ?_) (fun u=>Wp.ret (by rw [if_neg (by simp [u])]))
  rw [if_pos u]
  have hS:=h1.2.2.2.1
  have M:∀s:Int,s=upS e→Wp (fun k=>ei_ k 0 0 false 0 0 0 false 0 0 (⟨#[]⟩:ByteArray) (⟨#[]⟩:ByteArray) 0 e.Number e.Up e.Life e.Peer s e.Owes e.Send.Base e.Take.Next e.Take.Open (⟨#[]⟩:ByteArray) ([]:List ag_) ([]:List ak_) ([]:List ByteArray) ([]:List ae_) e.Send.Items e.Take.Held e.Take.Ready ([]:List ae_)) (· =if e.Owes=true∨6≤upS e then ⟨0,⟨e.Number,e.Up,e.Life,e.Peer,0,false,(bm_ e).1,e.Take⟩,(bm_ e).2.map (jg_ e.Number e.Life e.Peer (bm_ e).1.Base (bm_ e).1.Items)++[⟨1,e.Number,e.Life,e.Peer,(tkM e.Take).1,(tkM e.Take).2,0,false,noB⟩],noB⟩
   else ⟨0,⟨e.Number,e.Up,e.Life,e.Peer,upS e,e.Owes,(bm_ e).1,e.Take⟩,(bm_ e).2.map (jg_ e.Number e.Life e.Peer (bm_ e).1.Base (bm_ e).1.Items),noB⟩):=fun s hs=>by
    subst hs
    refine Wp.step ?_
    simp only [ei_,ma_]
    unfold bm_
    refine Wp.ite (fun h2=> ?_) (fun h2=> ?_)
    ·rw [if_pos h2]
     exact vd_ _ _ _ _ _ _ _ _ _ _ _ _ _ _ _ _ _ _ _ _ _ _ _ _ _ _ _ _ _ _ (by simp)
    ·rw [if_neg h2]
     refine Wp.bind (vF_ _) (fun _ q=> ?_);subst q
     obtain ⟨v1,v2⟩:=oc_ e.Send
     exact va_ _ _ _ _ _ _ _ _ _ _ _ _ _ _ _ _ _ _ _ _ _ _ _ _ _ _ _ _ _ v1.1 v1.2.1 (hT_ e.Send).2 [] [] (by simpa using v2) (by simp) (iD_ e.Send h1.2.2.2.2.1)
  refine Wp.ite (fun h2=>M _ ?_) (fun h2=>M _ ?_)
  ·rw [aS_ (by omega) (by omega)];unfold upS;rw [if_pos h2]
  ·unfold upS;rw [if_neg h2]
theorem s2_ (e:an_) (h:VEnd e):VSend (bm_ e).1∧(bm_ e).2.length≤60:=by
  unfold bm_;split
  ·exact ⟨h.2.2.2.2.1,by simp⟩
  ·exact oc_ _
end Km.X
namespace Km.X
open Go Km
set_option linter.unusedVariables false
set_option linter.unusedSimpArgs false
end Km.X
namespace Km.X
open Go Km
set_option linter.unusedVariables false
set_option linter.unusedSimpArgs false
def DD_ (r:aa_):Prop:=(1≤r.From∧r.From≤2)∧(1≤r.A∧r.A≤1000)∧(1≤r.B∧r.B≤1000)∧r.Text.size≤200
instance (r:aa_):Decidable (DD_ r):=by unfold DD_;infer_instance
def fL_ (l:List aa_):Prop:=∀r∈l,DD_ r
instance (l:List aa_):Decidable (fL_ l):=by unfold fL_;infer_instance
def vn_ (p:ad_):Prop:=(1≤p.To∧p.To≤2)∧p.Sent.size≤100∧p.Bytes.size≤100
instance (p:ad_):Decidable (vn_ p):=by unfold vn_;infer_instance
def hY_ (l:List ad_):Prop:=∀p∈l,vn_ p
instance (l:List ad_):Decidable (hY_ l):=by unfold hY_;infer_instance
def iO_:List an_→Prop
  | [a,b]=>(VEnd a∧a.Number=1)∧(VEnd b∧b.Number=2)
  | _=>False
instance:(l:List an_)→Decidable (iO_ l)
  | [a,b]=>by unfold iO_;infer_instance
  | []=> .isFalse id
  | [_]=> .isFalse id
  | _::_::_::_=> .isFalse id
def au_ (w:ac_):Prop:=(1≤w.Width∧w.Width≤8)∧w.Key.size≤30∧w.Flight.length≤1000∧w.Given.length+w.Taken.length≤400∧iO_ w.Ends∧hY_ w.Flight∧fL_ w.Given∧fL_ w.Taken
instance (w:ac_):Decidable (au_ w):=by unfold au_;infer_instance
theorem vf_:∀{l:List an_},iO_ l→l.length=2
  | [a,b],_=>rfl
theorem all_cons {α:Type} {P:α→Prop} {x:α} {t:List α}:(∀y∈x::t,P y)↔P x∧∀y∈t,P y:=by simp
theorem uT_:∀(t pre:List aa_),(pre++t).length≤1000→Wp (fun k=>bM_ k (pre++t) (pre.length:Int)) (· =decide (fL_ t))
  | [],pre,hl=>by
    refine Wp.step ?_
    simp only [bM_,List.append_nil]
    simp (disch:=omega) only [al_,if_neg]
    exact Wp.ret (decide_eq_true fun x hx=>by simp at hx).symm
  | x::t,pre,hl=>by
    refine Wp.step ?_
    have hl':=hl
    simp only [List.length_append,List.length_cons] at hl
    simp only [bM_]
    simp only [al_,cZ_,if_true,aI_,Option.bind_some,bf_]
    have F:¬DD_ x→Wp (fun _=>some false) (· =decide (fL_ (x::t))):=fun h=>Wp.ret (decide_eq_false fun g=>h (g x (List.mem_cons_self ..))).symm
    refine Wp.bind (bX_ _ _ _) (fun _ q=> ?_);subst q
    simp only [inB,al_]
    refine Wp.ite (fun h1=> ?_) (fun h1=>F fun g=>h1 g.1)
    refine Wp.bind (bX_ _ _ _) (fun _ q=> ?_);subst q
    simp only [inB,al_]
    refine Wp.ite (fun h2=> ?_) (fun h2=>F fun g=>h2 g.2.1)
    refine Wp.bind (bX_ _ _ _) (fun _ q=> ?_);subst q
    simp only [inB,al_]
    refine Wp.ite (fun h3=> ?_) (fun h3=>F fun g=>h3 g.2.2.1)
    refine Wp.ite (fun h4=>F fun g=>by have:=g.2.2.2;omega) (fun h4=> ?_)
    simp (disch:=omega) only [aS_]
    have ih:=uT_ t (pre++[x]) (by simpa using hl')
    rw [←aX_,←bd_] at ih
    refine ih.mono fun v hv=> ?_
    rw [hv,decide_eq_decide]
    exact ⟨fun g=>all_cons.mpr ⟨⟨h1,h2,h3,by omega⟩,g⟩,fun g=>(all_cons.mp g).2⟩
theorem ov_ (l:List aa_) (h:l.length≤1000):Wp (fun k=>eY_ k l) (· =decide (fL_ l)):=uT_ l [] (by simpa using h)
theorem w4_ (kk:ByteArray) (wd:Int) (es:List an_) (fo:ByteArray) (gi ta:List aa_) (hg:gi.length≤1000) (ht:ta.length≤1000):∀(t pre:List ad_),(pre++t).length≤1000→
    Wp (fun k=>b8_ k (pre.length:Int) kk wd es (pre++t) fo gi ta) (· =decide (hY_ t∧fL_ gi∧fL_ ta))
  | [],pre,hl=>by
    refine Wp.step ?_
    simp only [b8_,List.append_nil]
    simp (disch:=omega) only [al_,if_neg]
    refine Wp.bind (ov_ gi hg) (fun _ q=> ?_);subst q
    simp only [al_]
    refine Wp.ite (fun h1=> ?_) (fun h1=>Wp.ret (decide_eq_false fun g=>h1 g.2.1).symm)
    refine Wp.bind (ov_ ta ht) (fun _ q=> ?_);subst q
    refine Wp.ret ?_
    rw [decide_eq_decide]
    exact ⟨fun g=>⟨fun x hx=>by simp at hx,h1,g⟩,fun g=>g.2.2⟩
  | x::t,pre,hl=>by
    refine Wp.step ?_
    have hl':=hl
    simp only [List.length_append,List.length_cons] at hl
    simp only [b8_]
    simp only [al_,cZ_,if_true,aI_,Option.bind_some,bf_]
    have F:¬vn_ x→Wp (fun _=>some false) (· =decide (hY_ (x::t)∧fL_ gi∧fL_ ta)):=fun h=>Wp.ret (decide_eq_false fun g=>h (g.1 x (List.mem_cons_self ..))).symm
    refine Wp.bind (bX_ _ _ _) (fun _ q=> ?_);subst q
    simp only [inB,al_]
    refine Wp.ite (fun h1=> ?_) (fun h1=>F fun g=>h1 g.1)
    refine Wp.ite (fun h2=>F fun g=>by have:=g.2.1;omega) (fun h2=> ?_)
    refine Wp.ite (fun h3=>F fun g=>by have:=g.2.2;omega) (fun h3=> ?_)
    simp (disch:=omega) only [aS_]
    have ih:=w4_ kk wd es fo gi ta hg ht t (pre++[x]) (by simpa using hl')
    rw [←aX_,←bd_] at ih
    refine ih.mono fun v hv=> ?_
    rw [hv,decide_eq_decide]
    exact ⟨fun g=>⟨all_cons.mpr ⟨⟨h1,by omega,by omega⟩,g.1⟩,g.2⟩,fun g=>⟨(all_cons.mp g.1).2,g.2⟩⟩
theorem cr_ (w:ac_) (hb:w.Given.length≤1048576∧w.Taken.length≤1048576):Wp (fun k=>bD_ k w) (· =decide (au_ w)):=by
  unfold bD_
  have F:¬au_ w→Wp (fun _=>some false) (· =decide (au_ w)):=fun h=>Wp.ret (decide_eq_false h).symm
  refine Wp.bind (bX_ _ _ _) (fun _ q=> ?_);subst q
  simp only [inB,al_,bf_,ma_]
  refine Wp.ite (fun h1=> ?_) (fun h1=>F fun g=>h1 g.1)
  refine Wp.ite (fun h2=>F fun g=>by have:=g.2.1;omega) (fun h2=> ?_)
  refine Wp.ite (fun h3=> ?_) (fun h3=>F fun g=>by have:=vf_ g.2.2.2.2.1;omega)
  refine Wp.ite (fun h4=>F fun g=>by have:=g.2.2.1;omega) (fun h4=> ?_)
  simp (disch:=omega) only [aS_]
  refine Wp.ite (fun h5=>F fun g=>by have:=g.2.2.2.1;omega) (fun h5=> ?_)
  obtain ⟨ky,wd,es,fl,fo,gi,ta⟩:=w
  match es,h3 with
  | [a,b],_=>
    refine Wp.step ?_
    have e0:idx [a,b] 0=some a:=rfl
    have e1:idx [a,b] 1=some b:=rfl
    have w1:IntKind.wrap .i64 (0+1)=1:=aS_ (by omega) (by omega)
    have w2:IntKind.wrap .i64 (1+1)=2:=aS_ (by omega) (by omega)
    have d0:(0:Int)<2:=by omega
    have d1:(1:Int)<2:=by omega
    have d2:¬(2:Int)<2:=by omega
    simp only [b6_,e0,w1,al_,Option.bind_some,if_pos d0,ma_]
    refine Wp.bind (bV_ _) (fun _ q=> ?_);subst q
    simp only [al_,bf_]
    refine Wp.ite (fun h6=> ?_) (fun h6=>F fun g=>h6 g.2.2.2.2.1.1.1)
    refine Wp.ite (fun h7=> ?_) (fun h7=>F fun g=>h7 g.2.2.2.2.1.1.2)
    refine Wp.step ?_
    simp only [b6_,e1,w2,al_,Option.bind_some,if_pos d1,ma_]
    refine Wp.bind (bV_ _) (fun _ q=> ?_);subst q
    simp only [al_,bf_]
    refine Wp.ite (fun h8=> ?_) (fun h8=>F fun g=>h8 g.2.2.2.2.1.2.1)
    refine Wp.ite (fun h9=> ?_) (fun h9=>F fun g=>h9 g.2.2.2.2.1.2.2)
    refine Wp.step ?_
    simp only [b6_,al_,if_neg d2]
    simp only at h2 h4 h5 hb
    refine Wp.mono (w4_ ky wd [a,b] fo gi ta (by omega) (by omega) fl [] (by show fl.length≤1000;omega)) fun v hv=> ?_
    rw [hv,decide_eq_decide]
    exact ⟨fun g=>⟨h1,by simp only;omega,by simp only;omega,by simp only;omega,⟨⟨h6,h7⟩,⟨h8,h9⟩⟩,g⟩,fun g=>g.2.2.2.2.2⟩
theorem pY_ (n j:Int) (xx:List (List aa_)) (R:Prop) [Decidable R] (hR:Wp (fun k=>a8_ k n (IntKind.wrap .i64 (j+1)) xx) (· =decide R)):∀(t pre:List aa_),(pre++t).length≤1000→
    Wp (fun k=>a9_ k n j (pre++t) ((pre++t).length:Int) (pre.length:Int) xx) (· =decide (fL_ t∧R))
  | [],pre,hl=>by
    refine Wp.step ?_
    simp only [a9_,List.append_nil]
    simp (disch:=omega) only [al_,if_neg]
    refine hR.mono fun v hv=> ?_
    rw [hv,decide_eq_decide]
    exact ⟨fun g=>⟨fun x hx=>by simp at hx,g⟩,fun g=>g.2⟩
  | x::t,pre,hl=>by
    refine Wp.step ?_
    have hl':=hl
    simp only [List.length_append,List.length_cons] at hl
    simp only [a9_]
    simp only [al_,cZ_,if_true,aI_,Option.bind_some,bf_,ma_]
    simp (disch:=omega) only [aS_]
    have F:¬DD_ x→Wp (fun _=>some false) (· =decide (fL_ (x::t)∧R)):=fun h=>Wp.ret (decide_eq_false fun g=>h (g.1 x (List.mem_cons_self ..))).symm
    have ih:=pY_ n j xx R hR t (pre++[x]) (by simpa using hl')
    rw [←aX_,←bd_] at ih
    have M:(1≤x.From∧x.From≤2)→Wp (fun k=>(aN_ k x.A 1 1000).bind fun r8=>
     bif r8 then (aN_ k x.B 1 1000).bind fun r9=>bif r9 then (if (x.Text.size:Int)>200 then some false else a9_ k n j (pre++x::t) ((pre++x::t).length:Int) ((pre.length:Int)+1) xx) else some false else some false) (· =decide (fL_ (x::t)∧R)):=fun h1=>by
      refine Wp.bind (lL_ _ _ _) (fun _ q=> ?_);subst q
      simp only [inB,al_]
      refine Wp.ite (fun h2=> ?_) (fun h2=>F fun g=>h2 g.2.1)
      refine Wp.bind (lL_ _ _ _) (fun _ q=> ?_);subst q
      simp only [inB,al_]
      refine Wp.ite (fun h3=> ?_) (fun h3=>F fun g=>h3 g.2.2.1)
      refine Wp.ite (fun h4=>F fun g=>by have:=g.2.2.2;omega) (fun h4=> ?_)
      refine ih.mono fun v hv=> ?_
      rw [hv,decide_eq_decide]
      exact ⟨fun g=>⟨all_cons.mpr ⟨⟨h1,h2,h3,by omega⟩,g.1⟩,g.2⟩,fun g=>⟨(all_cons.mp g.1).2,g.2⟩⟩
    refine Wp.ite (fun h=>M (by omega)) (fun h=> ?_)
    exact Wp.ite (fun h2=>M (by omega)) (fun h2=>F fun g=>by have:=g.1;omega)
theorem yc_ (gi ta:List aa_) (hg:gi.length≤1000) (ht:ta.length≤1000):Wp (fun k=>a8_ k (([gi,ta]:List (List aa_)).length:Int) 0 [gi,ta]) (· =decide (fL_ gi∧fL_ ta)):=by
  have e0:idx [gi,ta] 0=some gi:=rfl
  have e1:idx [gi,ta] 1=some ta:=rfl
  have w1:IntKind.wrap .i64 (0+1)=1:=aS_ (by omega) (by omega)
  have w2:IntKind.wrap .i64 (1+1)=2:=aS_ (by omega) (by omega)
  have d0:(0:Int)<2:=by omega
  have d1:(1:Int)<2:=by omega
  have d2:¬(2:Int)<2:=by omega
  have l2:(([gi,ta]:List (List aa_)).length:Int)=2:=rfl
  rw [l2]
  have g0:[gi,ta][Int.toNat 0]? =some gi:=rfl
  have g1:[gi,ta][Int.toNat 1]? =some ta:=rfl
  refine Wp.step ?_
  simp only [a8_,e0,g0,al_,if_pos d0,Option.bind_some]
  refine pY_ 2 0 [gi,ta] (fL_ ta) ?_ gi [] (by simpa using hg)
  rw [w1]
  refine Wp.step ?_
  simp only [a8_,e1,g1,al_,if_pos d1,Option.bind_some]
  refine (pY_ 2 1 [gi,ta] True ?_ ta [] (by simpa using ht)).mono fun v hv=> ?_
  ·rw [w2]
   refine Wp.step ?_
   simp only [a8_,al_,if_neg d2]
   exact Wp.ret rfl
  ·rw [hv,decide_eq_decide];exact ⟨fun g=>g.1,fun g=>⟨g,trivial⟩⟩
theorem w2_ (kk:ByteArray) (wd:Int) (es:List an_) (ff:List ad_) (fo:ByteArray) (gi ta:List aa_) (hg:gi.length≤1000) (ht:ta.length≤1000):∀(t pre:List ad_),(pre++t).length≤1000→
    Wp (fun k=>ba_ k (pre++t) ((pre++t).length:Int) (pre.length:Int) kk wd es ff fo gi ta) (· =decide (hY_ t∧fL_ gi∧fL_ ta))
  | [],pre,hl=>by
    refine Wp.step ?_
    simp only [ba_,List.append_nil]
    have hn:¬(pre.length:Int)<(pre.length:Int):=by omega
    simp only [al_,if_neg hn]
    refine (yc_ gi ta hg ht).mono fun v hv=> ?_
    rw [hv,decide_eq_decide]
    exact ⟨fun g=>⟨fun x hx=>by simp at hx,g⟩,fun g=>g.2⟩
  | x::t,pre,hl=>by
    refine Wp.step ?_
    have hl':=hl
    simp only [List.length_append,List.length_cons] at hl
    simp only [ba_]
    simp only [al_,cZ_,if_true,aI_,Option.bind_some,bf_,ma_]
    simp (disch:=omega) only [aS_]
    have F:¬vn_ x→Wp (fun _=>some false) (· =decide (hY_ (x::t)∧fL_ gi∧fL_ ta)):=fun h=>Wp.ret (decide_eq_false fun g=>h (g.1 x (List.mem_cons_self ..))).symm
    have ih:=w2_ kk wd es ff fo gi ta hg ht t (pre++[x]) (by simpa using hl')
    rw [←aX_,←bd_] at ih
    have M:(1≤x.To∧x.To≤2)→Wp (fun k=>if (x.Sent.size:Int)>100 then some false else if (x.Bytes.size:Int)>100 then some false else ba_ k (pre++x::t) ((pre++x::t).length:Int) ((pre.length:Int)+1) kk wd es ff fo gi ta) (· =decide (hY_ (x::t)∧fL_ gi∧fL_ ta)):=fun h1=>by
      refine Wp.ite (fun h2=>F fun g=>by have:=g.2.1;omega) (fun h2=> ?_)
      refine Wp.ite (fun h3=>F fun g=>by have:=g.2.2;omega) (fun h3=> ?_)
      refine ih.mono fun v hv=> ?_
      rw [hv,decide_eq_decide]
      exact ⟨fun g=>⟨all_cons.mpr ⟨⟨h1,by omega,by omega⟩,g.1⟩,g.2⟩,fun g=>⟨(all_cons.mp g.1).2,g.2⟩⟩
    refine Wp.ite (fun h=>M (by omega)) (fun h=> ?_)
    exact Wp.ite (fun h2=>M (by omega)) (fun h2=>F fun g=>by have:=g.1;omega)
theorem eD_ (w:ac_) (hb:w.Given.length≤1048576∧w.Taken.length≤1048576):Wp (fun k=>cx_ k w) (· =decide (au_ w)):=by
  unfold cx_
  have F:¬au_ w→Wp (fun _=>some false) (· =decide (au_ w)):=fun h=>Wp.ret (decide_eq_false h).symm
  simp only [al_,bf_,ma_]
  refine Wp.ite (fun h1=>F fun g=>by have:=g.1;omega) (fun h1=> ?_)
  refine Wp.ite (fun h1'=>F fun g=>by have:=g.1;omega) (fun h1'=> ?_)
  refine Wp.ite (fun h2=>F fun g=>by have:=g.2.1;omega) (fun h2=> ?_)
  refine Wp.ite (fun h3=> ?_) (fun h3=>F fun g=>by have:=vf_ g.2.2.2.2.1;omega)
  refine Wp.ite (fun h4=>F fun g=>by have:=g.2.2.1;omega) (fun h4=> ?_)
  simp (disch:=omega) only [aS_]
  refine Wp.ite (fun h5=>F fun g=>by have:=g.2.2.2.1;omega) (fun h5=> ?_)
  obtain ⟨ky,wd,es,fl,fo,gi,ta⟩:=w
  match es,h3 with
  | [a,b],_=>
    refine Wp.step ?_
    have e0:idx [a,b] 0=some a:=rfl
    have e1:idx [a,b] 1=some b:=rfl
    have w1:IntKind.wrap .i64 (0+1)=1:=aS_ (by omega) (by omega)
    have w2:IntKind.wrap .i64 (1+1)=2:=aS_ (by omega) (by omega)
    have d0:(0:Int)<2:=by omega
    have d1:(1:Int)<2:=by omega
    have d2:¬(2:Int)<2:=by omega
    have l2:(([a,b]:List an_).length:Int)=2:=rfl
    simp only [b5_,e0,w1,al_,Option.bind_some,l2,if_pos d0,ma_]
    refine Wp.bind (b0_ _) (fun _ q=> ?_);subst q
    simp only [al_,bf_]
    refine Wp.ite (fun h6=> ?_) (fun h6=>F fun g=>h6 g.2.2.2.2.1.1.1)
    refine Wp.ite (fun h7=> ?_) (fun h7=>F fun g=>h7 g.2.2.2.2.1.1.2)
    refine Wp.step ?_
    simp only [b5_,e1,w2,al_,Option.bind_some,if_pos d1,ma_]
    refine Wp.bind (b0_ _) (fun _ q=> ?_);subst q
    simp only [al_,bf_]
    refine Wp.ite (fun h8=> ?_) (fun h8=>F fun g=>h8 g.2.2.2.2.1.2.1)
    refine Wp.ite (fun h9=> ?_) (fun h9=>F fun g=>h9 g.2.2.2.2.1.2.2)
    refine Wp.step ?_
    simp only [b5_,al_,if_neg d2]
    simp only at h1 h1' h2 h4 h5 hb
    refine Wp.mono (w2_ ky wd [a,b] fl fo gi ta (by omega) (by omega) fl [] (by show fl.length≤1000;omega)) fun v hv=> ?_
    rw [hv,decide_eq_decide]
    exact ⟨fun g=>⟨⟨by simp only;omega,by simp only;omega⟩,by simp only;omega,by simp only;omega,by simp only;omega,⟨⟨h6,h7⟩,⟨h8,h9⟩⟩,g⟩,fun g=>g.2.2.2.2.2⟩
def vN_ (e f:an_):Prop:=e.Up=true∧e.Peer=f.Life∧e.Send.Items.length=0∧e.Take.Held.length=0∧e.Take.Open=noB∧e.Take.Ready.length=0
instance (e f:an_):Decidable (vN_ e f):=by unfold vN_;infer_instance
def Cw_:List an_→Prop
  | [a,b]=>vN_ a b∧vN_ b a
  | _=>False
instance:(l:List an_)→Decidable (Cw_ l)
  | [a,b]=>by unfold Cw_;infer_instance
  | []=> .isFalse id
  | [_]=> .isFalse id
  | _::_::_::_=> .isFalse id
def yu_ (w:ac_):Prop:=au_ w∧Cw_ w.Ends
instance (w:ac_):Decidable (yu_ w):=by unfold yu_;infer_instance
theorem ui_ {e f:an_} {R:Prop} [Decidable R] {g:Nat→Option Bool} (hR:vN_ e f→Wp g (· =decide R)) (hn:R→vN_ e f):Wp (fun k=>bif e.Up then (if e.Peer=f.Life then (if (e.Send.Items.length:Int)>0 then some false else if (e.Take.Held.length:Int)>0 then some false else
    if e.Take.Open=(⟨#[]⟩:ByteArray) then (if (e.Take.Ready.length:Int)>0 then some false else g k) else some false) else some false) else some false) (· =decide R):=by
  have F:¬vN_ e f→Wp (fun _=>some false) (· =decide R):=fun h=>Wp.ret (decide_eq_false fun g=>h (hn g)).symm
  refine Wp.bif (fun h1=> ?_) (fun h1=>F fun q=>by have:=q.1;rw [h1] at this;cases this)
  refine Wp.ite (fun h2=> ?_) (fun h2=>F fun q=>h2 q.2.1)
  refine Wp.ite (fun h3=>F fun q=>by have:=q.2.2.1;omega) (fun h3=> ?_)
  refine Wp.ite (fun h4=>F fun q=>by have:=q.2.2.2.1;omega) (fun h4=> ?_)
  refine Wp.ite (fun h5=> ?_) (fun h5=>F fun q=>h5 q.2.2.2.2.1)
  refine Wp.ite (fun h6=>F fun q=>by have:=q.2.2.2.2.2;omega) (fun h6=> ?_)
  exact hR ⟨h1,h2,by omega,by omega,h5,by omega⟩
theorem wf_ (w:ac_) (hb:w.Given.length≤1048576∧w.Taken.length≤1048576):Wp (fun k=>l0_ k w) (· =decide (yu_ w)):=by
  unfold l0_
  refine Wp.bind (eD_ w hb) (fun _ q=> ?_);subst q
  simp only [al_,bf_]
  refine Wp.ite (fun h1=> ?_) (fun h1=>Wp.ret (decide_eq_false fun g=>h1 g.1).symm)
  obtain ⟨ky,wd,es,fl,fo,gi,ta⟩:=w
  match es,h1 with
  | [a,b],h1=>
    have e0:idx [a,b] 0=some a:=rfl
    have e1:idx [a,b] 1=some b:=rfl
    have w1:IntKind.wrap .i64 (0+1)=1:=aS_ (by omega) (by omega)
    have w2:IntKind.wrap .i64 (1+1)=2:=aS_ (by omega) (by omega)
    have w3:IntKind.wrap .i64 (1-0)=1:=aS_ (by omega) (by omega)
    have w4:IntKind.wrap .i64 (1-1)=0:=aS_ (by omega) (by omega)
    have d0:(0:Int)<2:=by omega
    have d1:(1:Int)<2:=by omega
    have d2:¬(2:Int)<2:=by omega
    have l2:(([a,b]:List an_).length:Int)=2:=rfl
    refine Wp.step ?_
    simp only [fd_,e0,e1,w1,w3,l2,al_,Option.bind_some,if_pos d0,ma_,bf_,mb_]
    refine ui_ (e:=a) (f:=b) (R:=yu_ ⟨ky,wd,[a,b],fl,fo,gi,ta⟩) (fun i1=> ?_) (fun g=>g.2.1)
    refine Wp.step ?_
    simp only [fd_,e0,e1,w2,w4,al_,Option.bind_some,if_pos d1,ma_,bf_,mb_]
    refine ui_ (e:=b) (f:=a) (R:=yu_ ⟨ky,wd,[a,b],fl,fo,gi,ta⟩) (fun i2=> ?_) (fun g=>g.2.2)
    refine Wp.step ?_
    simp only [fd_,al_,if_neg d2]
    exact Wp.ret (decide_eq_true ⟨h1,i1,i2⟩).symm
  | [],h1=>exact absurd h1.2.2.2.2.1 id
  | [_],h1=>exact absurd h1.2.2.2.2.1 id
  | _::_::_::_,h1=>exact absurd h1.2.2.2.2.1 id
end Km.X
namespace Km.X
open Go Km
set_option linter.unusedVariables false
set_option linter.unusedSimpArgs false
def nw_ (q:Int) (p:aA_):List ak_→Option (List ak_)
  | []=>some [⟨q,p⟩]
  | x::t=>if x.Seq=q then none else if q<x.Seq then some (⟨q,p⟩::x::t) else (nw_ q p t).map (x:: ·)
def iS_ (t:ai_) (q:Int) (p:aA_):ai_:=
  if VTake t then
   if (t.Next≤q∧q≤t.Next+7∧q≤999999)∧p.Text.size≤20 then (match nw_ q p t.Held with | none=>t | some h=>d4_ h t.Next t.Open t.Ready)
   else t
  else iM_
def SmH (h:List ak_):Prop:=∀x∈h,x.Seq≤999999∧x.Part.Text.size≤1000
theorem tV_ (c:Int) (e:ByteArray) (h h2:List ak_) (r2:List ByteArray) (hh:List ak_) (n:Int) (o:ByteArray) (r:List ByteArray) (hl:h.length≤100) (hs:SmH h) (hn:0≤n) (ho:o.size≤200) (hr:r.length≤4):
    Wp (fun k=>dk_ k c e n o h h2 r2 hh r) (· =d4_ h n o r):=by
  refine Wp.step ?_
  simp only [dk_]
  refine Wp.bind (qd_ _ hl hs hn ho hr) (fun _ q=> ?_);subst q
  exact Wp.ret rfl
theorem B4_ (q:Int) (p:aA_) (c n1:Int) (e o1:ByteArray) (r1:List ByteArray) (h2:List ak_) (r2:List ByteArray) (hh:List ak_) (n:Int) (o:ByteArray) (r:List ByteArray) (hn:0≤n) (ho:o.size≤200) (hr:r.length≤4):∀(t pre acc:List ak_),(pre++t).length≤100→acc.length+t.length≤100→(∀x∈t,q<x.Seq)→SmH acc→SmH t→
    Wp (fun k=>bp_ k q true (pre.length:Int) n1 (pre++t) o1 r1 p.Text p.Last c e n o acc h2 r2 hh r) (· =d4_ (acc++t) n o r)
  | [],pre,acc,hl,ha,hq,hs,hs'=>by
    refine Wp.step ?_
    simp only [bp_,List.append_nil]
    have hn':¬(pre.length:Int)<(pre.length:Int):=by omega
    simp only [al_,if_neg hn',Bool.not_true,cond_false]
    exact tV_ _ _ _ _ _ _ _ _ _ (by simpa using ha) hs hn ho hr
  | x::t,pre,acc,hl,ha,hq,hs,hs'=>by
    refine Wp.step ?_
    have hl':=hl
    simp only [List.length_append,List.length_cons] at hl ha
    have hx:=hq x (List.mem_cons_self ..)
    have hne:¬x.Seq=q:=by omega
    simp only [bp_]
    simp only [al_,cZ_,if_true,aI_,Option.bind_some,fl_,if_neg hne,Bool.not_true,cond_false]
    refine Wp.step ?_
    simp only [bH_,aI_,Option.bind_some]
    refine Wp.opt (aQ_ (by simp;omega)) ?_
    simp (disch:=omega) only [aS_]
    have ih:=B4_ q p c n1 e o1 r1 h2 r2 hh n o r hn ho hr t (pre++[x]) (acc++[x]) (by simpa using hl') (by simp;omega) (fun y hy=>hq y (List.mem_cons_of_mem _ hy)) (fun y hy=>by
      rcases List.mem_append.mp hy with hy | hy
      ·exact hs y hy
      ·simp only [List.mem_singleton] at hy;subst hy;exact hs' y (List.mem_cons_self ..)) (fun y hy=>hs' y (List.mem_cons_of_mem _ hy))
    rw [←aX_,←bd_] at ih
    simp only [List.append_assoc,List.cons_append,List.nil_append] at ih
    exact ih
theorem lM_ {a:List ak_} {x:ak_} (h:SmH a) (hx:x.Seq≤999999∧x.Part.Text.size≤1000):SmH (a++[x]):=fun y hy=>by
  rcases List.mem_append.mp hy with hy | hy
  ·exact h y hy
  ·simp only [List.mem_singleton] at hy;subst hy;exact hx
theorem Af_ (q:Int) (p:aA_) (hq:q≤999999) (hp:p.Text.size≤20) (c n1:Int) (e o1:ByteArray) (r1:List ByteArray) (h2:List ak_) (r2:List ByteArray) (hh:List ak_) (n:Int) (o:ByteArray) (r:List ByteArray) (hn:0≤n) (ho:o.size≤200) (hr:r.length≤4):∀(t pre:List ak_) (b:Int),(pre++t).length≤50→WHs n1 b t→SmH pre→SmH t→
    Wp (fun k=>bp_ k q false (pre.length:Int) n1 (pre++t) o1 r1 p.Text p.Last c e n o pre h2 r2 hh r) (· =match nw_ q p t with | none=>⟨n,hh,o,r⟩ | some h=>d4_ (pre++h) n o r)
  | [],pre,b,hl,hw,hs,hs'=>by
    refine Wp.step ?_
    simp only [bp_,List.append_nil,nw_]
    rw [List.append_nil] at hl
    have hn':¬(pre.length:Int)<(pre.length:Int):=by omega
    simp only [al_,if_neg hn',Bool.not_false,cond_true]
    refine Wp.opt (aQ_ (by simp;omega)) ?_
    exact tV_ _ _ _ _ _ _ _ _ _ (by simp;omega) (lM_ hs ⟨hq,by simp only;omega⟩) hn ho hr
  | x::t,pre,b,hl,⟨hw1,hw2⟩,hs,hs'=>by
    refine Wp.step ?_
    have hl':=hl
    simp only [List.length_append,List.length_cons] at hl
    have hx:=hs' x (List.mem_cons_self ..)
    have hs2:SmH t:=fun y hy=>hs' y (List.mem_cons_of_mem _ hy)
    simp only [bp_,nw_]
    simp only [al_,cZ_,if_true,aI_,Option.bind_some,fl_,Bool.not_false,cond_true]
    refine Wp.ite (fun h1=>Wp.ret (by rw [if_pos h1])) (fun h1=> ?_)
    rw [if_neg h1]
    refine Wp.ite (fun h3=> ?_) (fun h3=> ?_)
    ·rw [if_pos (by omega)]
     refine Wp.opt (aQ_ (by simp;omega)) ?_
     refine Wp.step ?_
     simp only [bH_,aI_,Option.bind_some]
     refine Wp.opt (aQ_ (by simp;omega)) ?_
     simp (disch:=omega) only [aS_]
     have:=B4_ q p c n1 e o1 r1 h2 r2 hh n o r hn ho hr t (pre++[x]) (pre++[⟨q,p⟩]++[x]) (by simp;omega) (by simp;omega) (fun y hy=>by have:=AS_ hw2 y hy;omega) (lM_ (lM_ hs ⟨hq,by simp only;omega⟩) hx) hs2
     rw [←aX_,←bd_] at this
     simp only [List.append_assoc,List.cons_append,List.nil_append] at this⊢
     exact this
    ·rw [if_neg (by omega)]
     refine Wp.step ?_
     simp only [bH_,aI_,Option.bind_some]
     refine Wp.opt (aQ_ (by simp;omega)) ?_
     simp (disch:=omega) only [aS_]
     have ih:=Af_ q p hq hp c n1 e o1 r1 h2 r2 hh n o r hn ho hr t (pre++[x]) x.Seq (by simpa using hl') hw2 (lM_ hs hx) hs2
     rw [←aX_,←bd_] at ih
     refine ih.mono fun v hv=> ?_
     rw [hv]
     cases nw_ q p t<;>simp
theorem pc_ (t:ai_) (q:Int) (p:aA_):Wp (fun k=>fm_ k t q p) (· =iS_ t q p):=by
  unfold fm_ iS_
  refine Wp.bind (eX_ t) (fun _ e=> ?_);subst e
  simp only [bf_,al_]
  refine Wp.ite (fun h=> ?_) (fun h=>Wp.ret (by rw [if_neg h]))
  rw [if_pos h]
  have hsm:=h.small
  obtain ⟨h1,h2,h3,h4,h5,h6,h7⟩:=h
  refine Wp.bind (jC_ t (by omega) (by omega)) (fun r2 e=> ?_);rw [e]
  obtain ⟨n,hd,o,r⟩:=t
  refine Wp.bind (zI_ n q hd o r h1) (fun _ e=> ?_);subst e
  simp only [al_]
  refine Wp.ite (fun g=> ?_) (fun g=>Wp.ret (by rw [if_neg (fun w=>g w.1)]))
  refine Wp.ite (fun g2=>Wp.ret (by rw [if_neg (fun w=>by have:=w.2;omega)])) (fun g2=> ?_)
  rw [if_pos ⟨g,by omega⟩]
  exact Af_ q p g.2.2 (by omega) _ n _ o r _ _ hd n o r h1.1 h3 h4 hd [] (n-1) (by simp only at h2;simp;omega) h6 (fun y hy=>by simp at hy) hsm
theorem CO_ (pre s:List ak_) (z:ak_):∃w,cpy (pre++s++[z]) (pre.length+1) (pre.length+s.length+1) (dY_ (pre++s++[z]) pre.length (pre.length+s.length+1))=pre++w::s:=by
  have e0:dY_ (pre++s++[z]) pre.length (pre.length+s.length+1)=s++[z]:=by
    simp only [dY_]
    rw [List.take_of_length_le (by simp;omega),List.append_assoc,List.drop_left']
    rfl
  rw [e0]
  unfold cpy
  rw [show pre.length+s.length+1-(pre.length+1)=s.length by omega]
  have e1:(s++[z]).take s.length=s:=by simp
  have e2:(pre++s++[z]).drop (pre.length+1+min s.length (s++[z]).length)=[]:=by
    apply List.drop_eq_nil_of_le;simp;omega
  rw [e1,e2,List.append_nil]
  cases s with
  | nil=>exact ⟨z,by rw [List.append_nil,List.take_of_length_le (by simp)];simp⟩
  | cons w s=>exact ⟨w,by simp [List.take_append,List.take_of_length_le]⟩
theorem Cs_ (q:Int) (p:aA_) (n:Int) (o:ByteArray) (r:List ByteArray) (hn:0≤n) (ho:o.size≤200) (hr:r.length≤4) (pre s:List ak_) (hl:(pre++s).length≤50) (hs:SmH (pre++⟨q,p⟩::s)):
    Wp (fun k=>(app 32 (pre++s) ([(⟨0,(⟨(⟨#[]⟩:ByteArray),false⟩:aA_)⟩:ak_)]:List ak_)).bind fun l6=>
            (wnd l6.length (IntKind.wrap .i64 ((pre.length:Int)+1)) (l6.length:Int)).bind fun p7=>
            (wnd l6.length (pre.length:Int) (l6.length:Int)).bind fun p8=>
            (idx (cpy l6 p7.1 p7.2 (dY_ l6 p8.1 p8.2)) (pre.length:Int)).bind fun _=>
            ((cpy l6 p7.1 p7.2 (dY_ l6 p8.1 p8.2))[(Int.toNat (pre.length:Int))]?).bind fun y9=>
            (fw_ k (⟨n,((cpy l6 p7.1 p7.2 (dY_ l6 p8.1 p8.2)).set (Int.toNat (pre.length:Int)) (⟨q,p⟩:ak_)),o,r⟩:ai_)).bind fun r10=>
            some r10) (· =d4_ (pre++⟨q,p⟩::s) n o r):=by
  simp only [List.length_append] at hl
  refine Wp.opt (aQ_ (by simp;omega)) ?_
  rw [aS_ (by omega) (by omega)]
  have hN:(pre++s++[(⟨0,(⟨(⟨#[]⟩:ByteArray),false⟩:aA_)⟩:ak_)]).length=pre.length+s.length+1:=by simp;omega
  rw [hN]
  refine Wp.opt (cA_ (by omega)) ?_
  refine Wp.opt (cA_ (by omega)) ?_
  dsimp only
  simp only [show ((pre.length:Int)+1).toNat=pre.length+1 by omega,Int.toNat_natCast]
  obtain ⟨w,e⟩:=CO_ pre s (⟨0,(⟨(⟨#[]⟩:ByteArray),false⟩:aA_)⟩:ak_)
  rw [e]
  simp only [aI_,Option.bind_some]
  have e2:(pre++w::s)[pre.length]? =some w:=by simp
  have e3:(pre++w::s).set pre.length (⟨q,p⟩:ak_)=pre++⟨q,p⟩::s:=by simp
  simp only [e2,e3,Option.bind_some]
  refine Wp.bind (pQ_ ⟨n,pre++⟨q,p⟩::s,o,r⟩ (by simp;omega) hs hn ho hr) (fun _ q=> ?_);subst q
  exact Wp.ret rfl
theorem AF_ (q:Int) (p:aA_) (hq:q≤999999) (hp:p.Text.size≤20) (c:Int) (e:ByteArray) (h2:List ak_) (r2:List ByteArray) (n:Int) (o:ByteArray) (r:List ByteArray) (n1:Int) (hn:0≤n) (ho:o.size≤200) (hr:r.length≤4):∀(t pre:List ak_) (b:Int),(pre++t).length≤50→WHs n1 b t→SmH pre→SmH t→
    Wp (fun k=>cK_ k q (pre.length:Int) p.Text p.Last c e n o h2 r2 (pre++t) r) (· =match nw_ q p t with | none=>⟨n,pre++t,o,r⟩ | some h=>d4_ (pre++h) n o r)
  | [],pre,b,hl,hw,hs,hs'=>by
    refine Wp.step ?_
    simp only [cK_,nw_]
    have hn':¬(pre.length:Int)<((pre++[]).length:Int):=by simp
    simp only [al_,if_neg hn']
    exact Cs_ q p n o r hn ho hr pre [] hl (by
      intro y hy
      rcases List.mem_append.mp hy with hy | hy
      ·exact hs y hy
      ·simp only [List.mem_singleton] at hy;subst hy;exact ⟨hq,by simp only;omega⟩)
  | x::t,pre,b,hl,⟨hw1,hw2⟩,hs,hs'=>by
    refine Wp.step ?_
    have hl':=hl
    simp only [List.length_append,List.length_cons] at hl
    have hx:=hs' x (List.mem_cons_self ..)
    have hs2:SmH t:=fun y hy=>hs' y (List.mem_cons_of_mem _ hy)
    simp only [cK_,nw_]
    simp only [al_,cZ_,if_true,aI_,fo_,Option.bind_some,fl_]
    refine Wp.ite (fun h1=> ?_) (fun h1=> ?_)
    ·rw [if_neg (by omega),if_neg (by omega)]
     simp (disch:=omega) only [aS_]
     have ih:=AF_ q p hq hp c e h2 r2 n o r n1 hn ho hr t (pre++[x]) x.Seq (by simpa using hl') hw2 (lM_ hs hx) hs2
     rw [←aX_,←bd_] at ih
     refine ih.mono fun v hv=> ?_
     rw [hv]
     cases nw_ q p t<;>simp
    ·refine Wp.ite (fun h2=>Wp.ret (by rw [if_pos h2])) (fun h2=> ?_)
     rw [if_neg h2,if_pos (by omega)]
     exact Cs_ q p n o r hn ho hr pre (x::t) hl' (by
       intro y hy
       rcases List.mem_append.mp hy with hy | hy
       ·exact hs y hy
       ·rcases List.mem_cons.mp hy with rfl | hy
        ·exact ⟨hq,by simp only;omega⟩
        ·exact hs' y hy)
theorem vW_ (t:ai_) (q:Int) (p:aA_):Wp (fun k=>gF_ k t q p) (· =iS_ t q p):=by
  unfold gF_ iS_
  refine Wp.bind (e1_ t) (fun _ e=> ?_);subst e
  simp only [bf_,al_]
  refine Wp.ite (fun h=> ?_) (fun h=>Wp.ret (by rw [if_neg h]))
  rw [if_pos h]
  have hsm:=h.small
  obtain ⟨h1,h2,h3,h4,h5,h6,h7⟩:=h
  refine Wp.bind (o7_ t (by omega) (by omega)) (fun r2 e=> ?_);rw [e]
  obtain ⟨n,hd,o,r⟩:=t
  simp only at h1 h2 h3 h4
  rw [aS_ (n:=n+8) (by omega) (by omega),aS_ (n:=n+8-1) (by omega) (by omega)]
  refine Wp.bind (lL_ _ _ _) (fun _ e=> ?_);subst e
  simp only [inB,al_]
  refine Wp.ite (fun g=> ?_) (fun g=>Wp.ret (by rw [if_neg (fun w=>by have:=w.1;omega)]))
  refine Wp.ite (fun g1=>Wp.ret (by rw [if_neg (fun w=>by have:=w.1;omega)])) (fun g1=> ?_)
  refine Wp.ite (fun g2=>Wp.ret (by rw [if_neg (fun w=>by have:=w.2;omega)])) (fun g2=> ?_)
  rw [if_pos ⟨by omega,by omega⟩]
  exact AF_ q p (by omega) (by omega) _ _ _ _ n o r n h1.1 h3 h4 hd [] (n-1) (by simp;omega) h6 (fun y hy=>by simp at hy) hsm
theorem Am_ {n:Int} (q:Int) (p:aA_) (hq:q≤n+7) (hq':q≤999999) (hp:p.Text.size≤20):∀{t h:List ak_} {b:Int},b<q→WHs n b t→nw_ q p t=some h→WHs n b h
  | [],h,b,hb,hw,e=>by
    simp only [nw_,Option.some.injEq] at e;subst e
    exact ⟨⟨hb,hq,hq',hp⟩,trivial⟩
  | x::t,h,b,hb,⟨hw1,hw2⟩,e=>by
    simp only [nw_] at e
    split at e
    ·cases e
    ·split at e
     ·simp only [Option.some.injEq] at e;subst e
      exact ⟨⟨hb,hq,hq',hp⟩,⟨by omega,hw1.2⟩,hw2⟩
     ·cases ht:nw_ q p t with
      | none=>rw [ht] at e;cases e
      | some h'=>
        rw [ht] at e
        simp only [Option.map_some,Option.some.injEq] at e;subst e
        exact ⟨hw1,Am_ q p hq hq' hp (by omega) hw2 ht⟩
theorem ws_ {n:Int}:∀{l:List ak_} {b:Int},WHs n b l→b≤n+7→(l.length:Int)≤n+7-b
  | [],b,_,h=>by simp only [List.length_nil];omega
  | x::t,b,⟨h1,h2⟩,h=>by
    have:=ws_ h2 h1.2.1
    simp only [List.length_cons];omega
theorem AL_ (t:ai_) (q:Int) (p:aA_):VTake (iS_ t q p):=by
  unfold iS_
  split
  ·rename_i h
   split
   ·rename_i g
    cases ht:nw_ q p t.Held with
    | none=>exact h
    | some hh=>
      obtain ⟨h1,h2,h3,h4,h5,h6,h7⟩:=h
      have hw:=Am_ q p g.1.2.1 g.1.2.2 g.2 (by omega) h6 ht
      have hlen:=ws_ hw (by omega)
      exact mQ_ t.Next hh t.Next t.Open t.Ready (Int.le_refl _) hw (by omega) h1.1 h1.2 h3 h4 h5
   ·exact h
  ·exact jZ_
end Km.X
namespace Km.X
open Go Km
set_option linter.unusedVariables false
set_option linter.unusedSimpArgs false
def iL_ (p:ae_):Prop:=
  (1≤p.From∧p.From≤2)∧(1≤p.Mine∧p.Mine≤1000)∧(0≤p.Yours∧p.Yours≤1000)∧
  ((p.Kind=1∧(0≤p.Next∧p.Next≤1000000)∧(0≤p.Mask∧p.Mask≤255)∧p.Seq=0∧p.Last=false∧p.Part=noB)∨
   (p.Kind=2∧p.Next=0∧p.Mask=0∧(0≤p.Seq∧p.Seq≤999999)∧p.Part.size≤20))
instance (p:ae_):Decidable (iL_ p):=by unfold iL_;infer_instance
theorem eV_ (p:ae_):Wp (fun k=>bc_ k p) (· =decide (iL_ p)):=by
  unfold bc_
  have key:(p.From=1∨p.From=2)→Wp (fun k=>
    (aN_ k p.Mine 1 1000).bind fun r6=>
    bif (!r6) then
      some false
    else
      (aN_ k p.Yours 0 1000).bind fun r7=>
      bif (!r7) then
        some false
      else
        bif (p.Kind==1) then
          (aN_ k p.Next 0 1000000).bind fun r8=>
          bif r8 then
            (aN_ k p.Mask 0 255).bind fun r9=>
            bif r9 then
              bif (p.Seq==0) then
                bif (!p.Last) then
                  some (p.Part.toList==(⟨#[]⟩:ByteArray).toList)
                else
                  some false
              else
                some false
            else
              some false
          else
            some false
        else
          bif (p.Kind==2) then
            bif (p.Next==0) then
              bif (p.Mask==0) then
                (aN_ k p.Seq 0 999999).bind fun r10=>
                bif r10 then
                  some (decide ((p.Part.size:Int)≤20))
                else
                  some false
              else
                some false
            else
              some false
          else
            some false) (· =decide (iL_ p)):=by
    intro hf
    have F:∀{Q:Prop},(iL_ p→False)→false=decide (iL_ p):=fun h=>(decide_eq_false h).symm
    refine Wp.bind (lL_ _ _ _) (fun _ e=> ?_);subst e
    simp only [inB,bf_,al_,fl_,Co_]
    refine Wp.ite (fun h1=> ?_) (fun h1=>Wp.ret (F (Q:=True) fun h=>h1 h.2.1))
    refine Wp.bind (lL_ _ _ _) (fun _ e=> ?_);subst e
    simp only [inB,bf_,al_,fl_,Co_]
    refine Wp.ite (fun h2=> ?_) (fun h2=>Wp.ret (F (Q:=True) fun h=>h2 h.2.2.1))
    refine Wp.ite (fun h3=> ?_) (fun h3=> ?_)
    ·have W:iL_ p→(0≤p.Next∧p.Next≤1000000)∧(0≤p.Mask∧p.Mask≤255)∧p.Seq=0∧p.Last=false∧p.Part=noB:=fun h=>by
       rcases h.2.2.2 with h | h
       ·exact h.2
       ·omega
     refine Wp.bind (lL_ _ _ _) (fun _ e=> ?_);subst e
     simp only [inB,bf_,al_,fl_,Co_]
     refine Wp.ite (fun h4=> ?_) (fun h4=>Wp.ret (F (Q:=True) fun h=>h4 (W h).1))
     refine Wp.bind (lL_ _ _ _) (fun _ e=> ?_);subst e
     simp only [inB,bf_,al_,fl_,Co_]
     refine Wp.ite (fun h5=> ?_) (fun h5=>Wp.ret (F (Q:=True) fun h=>h5 (W h).2.1))
     refine Wp.ite (fun h6=> ?_) (fun h6=>Wp.ret (F (Q:=True) fun h=>h6 (W h).2.2.1))
     refine Wp.bif (fun h7=>Wp.ret (F (Q:=True) fun h=>by rw [(W h).2.2.2.1] at h7;cases h7)) (fun h7=> ?_)
     refine Wp.ret ?_
     rw [decide_eq_decide]
     exact ⟨fun h=>⟨by omega,h1,h2, .inl ⟨h3,h4,h5,h6,h7,h⟩⟩,fun h=>(W h).2.2.2.2⟩
    ·refine Wp.ite (fun h4=> ?_) (fun h4=>Wp.ret (F (Q:=True) fun h=>by rcases h.2.2.2 with h | h<;>omega))
     have W:iL_ p→p.Next=0∧p.Mask=0∧(0≤p.Seq∧p.Seq≤999999)∧p.Part.size≤20:=fun h=>by
       rcases h.2.2.2 with h | h
       ·omega
       ·exact h.2
     refine Wp.ite (fun h5=> ?_) (fun h5=>Wp.ret (F (Q:=True) fun h=>h5 (W h).1))
     refine Wp.ite (fun h6=> ?_) (fun h6=>Wp.ret (F (Q:=True) fun h=>h6 (W h).2.1))
     refine Wp.bind (lL_ _ _ _) (fun _ e=> ?_);subst e
     simp only [inB,bf_,al_,fl_,Co_]
     refine Wp.ite (fun h7=> ?_) (fun h7=>Wp.ret (F (Q:=True) fun h=>h7 (W h).2.2.1))
     refine Wp.ret ?_
     rw [decide_eq_decide]
     exact ⟨fun h=>⟨by omega,h1,h2, .inr ⟨h4,h5,h6,h7,by omega⟩⟩,fun h=>by have:=(W h).2.2.2;omega⟩
  simp only [ma_]
  refine Wp.ite (fun h=>key (.inl h)) (fun h=> ?_)
  refine Wp.ite (fun h=>key (.inr h)) (fun h2=>Wp.ret (decide_eq_false ?_).symm)
  intro h'
  have:=h'.1
  omega
theorem Aq_ (p:ae_) (h:1≤p.From∧p.From≤2) (k:Nat):ga_ k p=bc_ k p:=by
  have e:az_ k p.From 1 2=some true:=by
    unfold az_
    simp only [al_]
    rw [if_pos (by omega)]
    congr 1
    exact decide_eq_true h.2
  unfold ga_ bc_
  rw [e]
  have hi:∀a b c,az_ k a b c=aN_ k a b c:=fun _ _ _=>rfl
  simp only [hi,Option.bind_some,Bool.not_true,cond_false,ma_]
  by_cases h1:p.From=1
  ·rw [if_pos h1]
  ·rw [if_neg h1,if_pos (by omega)]
theorem zn_ (p:ae_):Wp (fun k=>ga_ k p) (· =decide (iL_ p)):=by
  by_cases h:1≤p.From∧p.From≤2
  ·have:(fun k=>ga_ k p)=fun k=>bc_ k p:=funext fun k=>Aq_ p h k
   rw [this];exact eV_ p
  ·unfold ga_
   refine Wp.bind (bX_ _ _ _) (fun _ e=> ?_);subst e
   rw [inB,decide_eq_false h]
   exact Wp.ret (decide_eq_false fun h'=>h h'.1).symm
def N (w:Nat) (x:Int):ByteArray:=i8_ (ek_ w x.toNat)
theorem fe_ (w:Nat) (x:Int):(N w x).size=w:=by simp [N,h7_,dy_]
theorem p8_:∀(d w i n:Nat) (tail:List Int),i+d=w→w≤8→n<2^62→tail.length+d≤100→
    Wp (fun k=>cT_ k (n:Int) (w:Int) (i8_ tail) (i:Int)) (· =i8_ (ek_ d n++tail))
  | 0,w,i,n,tail,h,hw,hn,ht=>by
    refine Wp.step ?_
    simp only [cT_]
    simp (disch:=omega) only [al_,if_neg]
    exact Wp.ret rfl
  | d+1,w,i,n,tail,h,hw,hn,ht=>by
    refine Wp.step ?_
    simp only [cT_]
    simp (disch:=omega) only [al_,if_pos,xp_,wN_,Option.bind_some,z7_,uL_,aS_,CI_]
    have ih:=p8_ d w (i+1) (n/256) (((n%256:Nat):Int)::tail) (by omega) hw (by omega) (by simp;omega)
    simpa [ek_] using ih
theorem gb_ {w:Nat} {x:Int} (hw:w≤8) (hx:0≤x∧x≤1000000):Wp (fun k=>bQ_ k x (w:Int)) (· =N w x):=by
  obtain ⟨n,rfl⟩:∃n:Nat,x=n:=⟨x.toNat,by omega⟩
  have:=p8_ w w 0 n [] (by omega) hw (by omega) (by simp;omega)
  rw [List.append_nil] at this
  exact this
theorem y9_:∀(d n:Nat) (b:List Int),d≤b.length→b.length≤8→n<2^62→Wp (fun k=>gJ_ k (n:Int) ((d:Int)-1) b) (· =i8_ (ek_ d n++b.drop d))
  | 0,n,b,hd,hb,hn=>by
    refine Wp.step ?_
    simp only [gJ_]
    simp (disch:=omega) only [al_,if_neg]
    exact Wp.ret (by simp [ek_])
  | d+1,n,b,hd,hb,hn=>by
    refine Wp.step ?_
    simp only [gJ_]
    rw [show ((d+1:Nat):Int)-1=(d:Int) by omega]
    have hlt:d<b.length:=by omega
    simp (disch:=first | omega | decide) only [al_,if_pos,F5_,F7_,Option.bind_some,F0_,aS_,wu8]
    have ih:=y9_ d (n/256) (b.set d ((n%256:Nat):Int)) (by simp;omega) (by simpa using hb) (by omega)
    rw [uS_ hlt] at ih
    rw [Int.toNat_natCast]
    exact ih
theorem u4_ {w:Nat} {x:Int} (hw:w≤8) (hx:0≤x∧x≤1000000):Wp (fun k=>ha_ k x (w:Int)) (· =N w x):=by
  obtain ⟨n,rfl⟩:∃n:Nat,x=n:=⟨x.toNat,by omega⟩
  unfold ha_
  refine Wp.opt (x:=w) (by rw [if_pos rfl];exact Di_ (by omega)) ?_
  have:=y9_ w n (List.replicate w 0) (by simp) (by simpa using hw) (by omega)
  rw [List.drop_eq_nil_of_le (by simp),List.append_nil] at this
  rw [aS_ (by omega) (by omega)]
  exact this
theorem lT_ (x y z:ByteArray):x++y++z=x++(y++z):=by
  apply ByteArray.ext;simp
def iP_ (p:ae_):ByteArray:=N 1 p.Kind++N 1 p.From++N 2 p.Mine++N 2 p.Yours
def vC_ (b:Bool):Int:=bif b then 1 else 0
def eg_ (p:ae_):ByteArray:=
  if p.Kind=1 then iP_ p++N 4 p.Next++N 1 p.Mask else iP_ p++N 4 p.Seq++N 1 (vC_ p.Last)++p.Part
theorem jL_ (p:ae_):(iP_ p).size=6:=by simp [iP_,fe_]
theorem mh_ (p:ae_) (h:iL_ p):(eg_ p).size≤31:=by
  have hs:=jL_ p
  unfold eg_
  rcases h.2.2.2 with ⟨hk1,_⟩ | ⟨hk2,_,_,_,g4⟩
  ·rw [if_pos hk1];simp [fe_,hs]
  ·rw [if_neg (by omega)];simp [fe_,hs];omega
theorem zk_ (p:ae_) (h:iL_ p):Wp (fun k=>g6_ k p) (· =eg_ p):=by
  obtain ⟨h1,h2,h3,h4⟩:=h
  have hK:0≤p.Kind∧p.Kind≤1000000:=by rcases h4 with h | h<;>omega
  unfold g6_
  refine Wp.bind (gb_ (w:=1) (by omega) hK) (fun _ e=> ?_);subst e
  refine Wp.bind (gb_ (w:=1) (by omega) (by omega)) (fun _ e=> ?_);subst e
  refine Wp.opt (bK_ (by simp [fe_])) ?_
  refine Wp.bind (gb_ (w:=2) (by omega) (by omega)) (fun _ e=> ?_);subst e
  refine Wp.opt (bK_ (by simp [fe_])) ?_
  refine Wp.bind (gb_ (w:=2) (by omega) (by omega)) (fun _ e=> ?_);subst e
  refine Wp.opt (bK_ (by simp [fe_])) ?_
  have hd:N 1 p.Kind++N 1 p.From++N 2 p.Mine++N 2 p.Yours=iP_ p:=rfl
  rw [hd]
  have hs:=jL_ p
  simp only [fl_]
  refine Wp.ite (fun hk=> ?_) (fun hk=> ?_)
  ·rcases h4 with ⟨_,g1,g2,_⟩ | ⟨hk2,_⟩
   ·refine Wp.bind (gb_ (w:=4) (by omega) (by omega)) (fun _ e=> ?_);subst e
    refine Wp.opt (bK_ (by simp [fe_,hs])) ?_
    refine Wp.bind (gb_ (w:=1) (by omega) (by omega)) (fun _ e=> ?_);subst e
    refine Wp.opt (bK_ (by simp [fe_,hs])) ?_
    exact Wp.ret (by rw [eg_,if_pos hk])
   ·omega
  ·rcases h4 with ⟨hk1,_⟩ | ⟨hk2,g1,g2,g3,g4⟩
   ·exact absurd hk1 hk
   have key:∀l,0≤l∧l≤1000000→Wp (fun k=>eQ_ k (iP_ p) l p.Kind p.From p.Mine p.Yours p.Next p.Mask p.Seq p.Last p.Part) (· =iP_ p++N 4 p.Seq++N 1 l++p.Part):=fun l hl=>by
     refine Wp.step ?_
     simp only [eQ_]
     refine Wp.bind (gb_ (w:=4) (by omega) (by omega)) (fun _ e=> ?_);subst e
     refine Wp.opt (bK_ (by simp [fe_,hs])) ?_
     refine Wp.bind (gb_ (w:=1) (by omega) hl) (fun _ e=> ?_);subst e
     refine Wp.opt (bK_ (by simp [fe_,hs])) ?_
     refine Wp.opt (bK_ (by simp [fe_,hs];omega)) ?_
     exact Wp.ret rfl
   have hb:eg_ p=iP_ p++N 4 p.Seq++N 1 (vC_ p.Last)++p.Part:=by rw [eg_,if_neg hk]
   rw [hb]
   cases hl:p.Last
   ·have:=key 0 (by omega)
    rw [hl] at this;exact this
   ·have:=key 1 (by omega)
    rw [hl] at this;exact this
def dn_ (p:ae_) (b:ByteArray) (w:Int):ByteArray:=if iL_ p∧(1≤w∧w≤8)∧b.size≤30 then y6_ (eg_ p) b w++eg_ p else noB
theorem pR_ (p:ae_) (b:ByteArray) (w:Int):Wp (fun k=>da_ k p b w) (· =dn_ p b w):=by
  unfold da_ dn_
  refine Wp.bind (zn_ p) (fun _ e=> ?_);subst e
  simp only [bf_,al_]
  refine Wp.ite (fun h1=> ?_) (fun h1=>Wp.ret (by rw [if_neg (fun h=>h1 h.1)]))
  refine Wp.bind (bX_ _ _ _) (fun _ e=> ?_);subst e
  simp only [inB,bf_,al_]
  refine Wp.ite (fun h2=> ?_) (fun h2=>Wp.ret (by rw [if_neg (fun h=>h2 h.2.1)]))
  refine Wp.ite (fun h3=>Wp.ret (by rw [if_neg (fun h=>by omega)])) (fun h3=> ?_)
  rw [if_pos ⟨h1,h2,by omega⟩]
  have hs:=mh_ p h1
  refine Wp.bind (zk_ p h1) (fun _ e=> ?_);subst e
  refine Wp.bind (x3_ _ b w (by omega)) (fun _ e=> ?_);subst e
  refine Wp.bind (zk_ p h1) (fun _ e=> ?_);subst e
  have ht:=qB_ (eg_ p) b w
  refine Wp.opt (bK_ (by omega)) ?_
  exact Wp.ret rfl
theorem qv_ (p:ae_) (b:ByteArray) (w:Int):Wp (fun k=>di_ k p b w) (· =dn_ p b w):=by
  unfold di_ dn_
  refine Wp.bind (eV_ p) (fun _ e=> ?_);subst e
  simp only [bf_,al_]
  refine Wp.ite (fun h1=> ?_) (fun h1=>Wp.ret (by rw [if_neg (fun h=>h1 h.1)]))
  refine Wp.ite (fun h2=>Wp.ret (by rw [if_neg (fun h=>by omega)])) (fun h2=> ?_)
  refine Wp.ite (fun h3=>Wp.ret (by rw [if_neg (fun h=>by omega)])) (fun h3=> ?_)
  refine Wp.ite (fun h4=>Wp.ret (by rw [if_neg (fun h=>by omega)])) (fun h4=> ?_)
  rw [if_pos ⟨h1,by omega,by omega⟩]
  have hbs:=mh_ p h1
  have ht:=qB_ (eg_ p) b w
  obtain ⟨g1,g2,g3,g4⟩:=h1
  have hK:0≤p.Kind∧p.Kind≤1000000:=by rcases g4 with h | h<;>omega
  refine Wp.bind (u4_ (w:=1) (by omega) hK) (fun _ e=> ?_);subst e
  refine Wp.bind (u4_ (w:=1) (by omega) (by omega)) (fun _ e=> ?_);subst e
  refine Wp.opt (bK_ (by simp [fe_])) ?_
  refine Wp.bind (u4_ (w:=2) (by omega) (by omega)) (fun _ e=> ?_);subst e
  refine Wp.opt (bK_ (by simp [fe_])) ?_
  refine Wp.bind (u4_ (w:=2) (by omega) (by omega)) (fun _ e=> ?_);subst e
  refine Wp.opt (bK_ (by simp [fe_])) ?_
  have hd:N 1 p.Kind++N 1 p.From++N 2 p.Mine++N 2 p.Yours=iP_ p:=rfl
  rw [hd]
  have hs:=jL_ p
  have l10:Wp (fun k=>cz_ k b w (eg_ p)) (· =y6_ (eg_ p) b w++eg_ p):=by
    refine Wp.step ?_
    simp only [cz_]
    refine Wp.bind (yB_ _ b w (by omega)) (fun _ e=> ?_);subst e
    refine Wp.opt (bK_ (by omega)) ?_
    exact Wp.ret rfl
  simp only [fl_]
  refine Wp.ite (fun hk=> ?_) (fun hk=> ?_)
  ·rcases g4 with ⟨_,q1,q2,_⟩ | ⟨hk2,_⟩
   ·refine Wp.bind (u4_ (w:=4) (by omega) (by omega)) (fun _ e=> ?_);subst e
    refine Wp.bind (u4_ (w:=1) (by omega) (by omega)) (fun _ e=> ?_);subst e
    refine Wp.opt (bK_ (by simp [fe_])) ?_
    refine Wp.opt (bK_ (by simp [fe_,hs])) ?_
    have e:iP_ p++(N 4 p.Next++N 1 p.Mask)=eg_ p:=by rw [eg_,if_pos hk,lT_]
    rw [e];exact l10
   ·omega
  ·rcases g4 with ⟨hk1,_⟩ | ⟨hk2,q1,q2,q3,q4⟩
   ·exact absurd hk1 hk
   have key:∀l,0≤l∧l≤1000000→iP_ p++N 4 p.Seq++N 1 l++p.Part=eg_ p→Wp (fun k=>cY_ k b w (iP_ p) l p.Kind p.From p.Mine p.Yours p.Next p.Mask p.Seq p.Last p.Part) (· =y6_ (eg_ p) b w++eg_ p):=fun l hl e=>by
     refine Wp.step ?_
     simp only [cY_]
     refine Wp.bind (u4_ (w:=4) (by omega) (by omega)) (fun _ e=> ?_);subst e
     refine Wp.bind (u4_ (w:=1) (by omega) hl) (fun _ e=> ?_);subst e
     refine Wp.opt (bK_ (by simp [fe_])) ?_
     refine Wp.opt (bK_ (by simp [fe_];omega)) ?_
     refine Wp.opt (bK_ (by simp [fe_,hs];omega)) ?_
     rw [show iP_ p++(N 4 p.Seq++N 1 l++p.Part)=eg_ p by rw [←e];simp only [lT_]]
     exact l10
   have hb0:eg_ p=iP_ p++N 4 p.Seq++N 1 (vC_ p.Last)++p.Part:=by rw [eg_,if_neg hk]
   cases hl:p.Last
   ·rw [hl] at hb0
    have:=key 0 (by omega) hb0.symm
    rw [hl] at this
    exact this
   ·rw [hl] at hb0
    have:=key 1 (by omega) hb0.symm
    rw [hl] at this
    exact this
theorem yg_ (p:ae_) (b:ByteArray) (w:Int):(dn_ p b w).size≤39:=by
  unfold dn_
  split
  ·rename_i h
   rw [aD_]
   have:=mh_ p h.1
   have:=qB_ (eg_ p) b w
   omega
  ·simp [d0_]
end Km.X
