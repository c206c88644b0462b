/- A part of the proof of FnApart: plain laws of these functions. There is no condition. -/
import Derived.Test.YtnhnpggoknepfaaKyPureApart3
import Derived.Test.YtnhnpggoknepfaaKxDef2
namespace Km.X
open Go Km
set_option linter.unusedVariables false
set_option linter.unusedSimpArgs false
section
variable {S:Nat} {A:Int→Int} {Gi:List aa_} {ev:Int}
def ExtK (A:Int→Int) (w w':ab_):Prop:=∃L,w'.Taken=w.Taken++L∧∀r∈L,kf r=⟨1,A 1,A 2⟩∨kf r=⟨2,A 2,A 1⟩
theorem ExtK.same {w w':ab_} (h:w'.Taken=w.Taken):ExtK A w w':=⟨[],by simp [h],fun r hr=>by cases hr⟩
theorem ExtK.trans {w x y:ab_} (h:ExtK A w x) (g:ExtK A x y):ExtK A w y:=by
  obtain ⟨L,h1,h2⟩:=h
  obtain ⟨M,g1,g2⟩:=g
  refine ⟨L++M,by rw [g1,h1,List.append_assoc],fun r hr=> ?_⟩
  rcases List.mem_append.mp hr with hr | hr
  ·exact h2 r hr
  ·exact g2 r hr
theorem vE_ (w:ab_) (p:ad_):(aV_ w p).Taken=w.Taken:=by unfold aV_;split<;>rfl
theorem ml_:∀(t:List ad_) (k:List DKey) (w:ab_),(a8_ ev t k w).1.Taken=w.Taken
  | [],k,w=>rfl
  | p::t,k,w=>by
    simp only [a8_]
    split
    ·rw [ml_ t,vE_]
    ·exact ml_ t _ _
theorem pd_ {n:Int} (hn:1≤n∧n≤2):∀(d:Nat) {w:ab_},gC_ S A Gi w→Kn A n w→ExtK A w (aS_ n d w)
  | 0,w,h,hk=>ExtK.same rfl
  | d+1,w,h,hk=>by
    simp only [aS_]
    split
    ·exact ExtK.same rfl
    ·rename_i hr
     obtain ⟨c1,c2,_⟩:=jA_ h hn
     refine ExtK.trans ?_ (pd_ hn d c1 (bN_ hn _ _ h c1 c2 hk))
     rw [sr_ h hn hr]
     refine ⟨_,rfl,fun r hr=> ?_⟩
     simp only [List.mem_singleton] at hr
     subst hr
     have hp:(af_ n w.Ends).Peer=A (3-n):=hk
     have hl:=(h.up n hn).2
     have:n=1∨n=2:=by omega
     rcases this with rfl | rfl
     ·right;simp only [kf,hp,hl];rfl
     ·left;simp only [kf,hp,hl];rfl
theorem Al_ {s:ab_×List DKey} (h:mM_ S A Gi s) (k1:Kn A 1 s.1) (k2:Kn A 2 s.1):ExtK A s.1 (aB_ ev s).1:=by
  obtain ⟨a1,a2,a3⟩:=h2_ h.core h.fl
  obtain ⟨b1,b2,b3⟩:=eI_ (ev:=ev) (aI_ s.1).Flight s.2 a1 a3
  obtain ⟨c1,c2,c3⟩:=cF_ (n:=1) (by omega) 4 b1
  have j1:=bN_ (n:=1) (by omega) _ _ h.core b1 (a2.trans b2) k1
  have j2:=bN_ (n:=2) (by omega) _ _ h.core c1 (a2.trans (b2.trans c2)) k2
  have e0:ExtK A s.1 (a8_ ev (aI_ s.1).Flight s.2 (be_ (aI_ s.1) [])).1:=ExtK.same (by rw [ml_];rfl)
  exact e0.trans ((pd_ (by omega) 4 b1 j1).trans (pd_ (by omega) 4 c1 j2))
theorem qY_:∀(d:Nat) {s:ab_×List DKey},mM_ S A Gi s→Kn A 1 s.1→Kn A 2 s.1→ExtK A s.1 (aE_ ev d s).1
  | 0,s,h,k1,k2=>ExtK.same rfl
  | d+1,s,h,k1,k2=>by
    obtain ⟨r1,r2,_⟩:=d0_ (ev:=ev) h
    exact (Al_ (ev:=ev) h k1 k2).trans (qY_ d r1 (bN_ (by omega) _ _ h.core r1.core r2 k1) (bN_ (by omega) _ _ h.core r1.core r2 k2))
theorem Dl_ (hev:1≤ev∧ev≤10) {s:ab_×List DKey} (h:mM_ S A Gi s) (k1:Kn A 1 s.1) (k2:Kn A 2 s.1) {N R:Nat} (h1:(af_ 1 s.1.Ends).Send.Items.length≤N) (h2:(af_ 2 s.1.Ends).Send.Items.length≤N) (hR:12*ev.toNat*N+1≤R):CT_ S A Gi (aE_ ev R s).1:=by
  obtain ⟨d,rfl⟩:∃d,R=12*ev.toNat*N+(d+1):=⟨R-(12*ev.toNat*N+1),by omega⟩
  rw [dN_,vT_]
  have e1:=Ct_ hev (n:=1) (by omega) N h k1 k2 h1
  have e2:=Ct_ hev (n:=2) (by omega) N h k2 k1 h2
  obtain ⟨r2,_⟩:=bS_ (ev:=ev) (12*ev.toNat*N) h
  generalize aE_ ev (12*ev.toNat*N) s=s2 at*
  obtain ⟨r3,_⟩:=bS_ (ev:=ev) d r2
  exact Ah_ r3 (aO_ (l3_ (by omega)) r2 e1 d) (aO_ (l3_ (by omega)) r2 e2 d)
theorem yH_ {w:ab_} (h:Core0 A Gi w) (h1:ha_ Gi 1 (A 1) (A 2)=[]) (h2:ha_ Gi 2 (A 2) (A 1)=[]):pot A Gi 1 (af_ 1 w.Ends)+pot A Gi 2 (af_ 2 w.Ends)≤24:=by
  have one:∀n,1≤n∧n≤2→ha_ Gi (3-n) (A (3-n)) (A n)=[]→pot A Gi n (af_ n w.Ends)≤12:=fun n hn hp=>by
    have v:=(h.ve hn).2.2.2.2.2.1
    have:=v.2.1
    have:=v.2.2.2.1
    unfold pot
    rw [hp]
    split
    ·simp only [List.length_nil];omega
    ·simp only [List.length_nil];omega
  have:=one 1 (by omega) h2
  have:=one 2 (by omega) h1
  omega
end
theorem lk_ (w:ab_) {n:Int} (hn:1≤n∧n≤2):doW w ⟨8,n,0,0,noB⟩=pI_ w n (iL_ (af_ n w.Ends)):=by
  rw [my_ (by dsimp only;omega) hn]
  rfl
theorem f1_ (w:ab_) {n:Int} (hn:1≤n∧n≤2):doW w ⟨9,n,0,0,noB⟩=pI_ w n (hf_ (af_ n w.Ends)):=by
  rw [my_ (by dsimp only;omega) hn]
  rfl
theorem j1_ {w:ab_} (hV:au_ w) {n m:Int} (hn:1≤n∧n≤2) (hm:1≤m∧m≤2) (x:am_):af_ m (pI_ w n x).Ends=if m=n then x else af_ m w.Ends:=bG_ hV.2.2.2.2.1 hn hm x
def fj_ (w:ab_) (e:Int):ab_:=doW (doW (doW w ⟨8,e,0,0,noB⟩) ⟨9,e,0,0,noB⟩) ⟨9,3-e,0,0,noB⟩
theorem B9_ {w:ab_} (hV:au_ w) (hI:WInv w) (hf:w.Forged=noB) (hl:∀n,1≤n∧n≤2→(af_ n w.Ends).Life<999) {e:Int} (he:1≤e∧e≤2):
    au_ (fj_ w e)∧WInv (fj_ w e)∧(fj_ w e).Forged=noB∧(fj_ w e).Given=w.Given∧(fj_ w e).Taken=w.Taken∧(∀n,1≤n∧n≤2→(af_ n (fj_ w e).Ends).Up=true)∧
    ∀n,1≤n∧n≤2→¬Kn (fun m=>(af_ m (fj_ w e).Ends).Life) n (fj_ w e):=by
  have hf3:1≤3-e∧3-e≤2:=by omega
  have v1:=vL_ hV ⟨8,e,0,0,noB⟩
  have v2:=vL_ v1 ⟨9,e,0,0,noB⟩
  have v3:=vL_ v2 ⟨9,3-e,0,0,noB⟩
  have f1:(doW w ⟨8,e,0,0,noB⟩).Forged=noB:=by rw [lk_ w he];exact hf
  have f2:(doW (doW w ⟨8,e,0,0,noB⟩) ⟨9,e,0,0,noB⟩).Forged=noB:=by rw [f1_ _ he];exact f1
  have f3:(fj_ w e).Forged=noB:=by unfold fj_;rw [f1_ _ hf3];exact f2
  have i1:=sF_ hV hI _ f1
  have i2:=sF_ v1 i1 _ f2
  have i3:=sF_ v2 i2 _ f3
  have ve:=(by_ hV.2.2.2.2.1 he).1
  have vf:=(by_ hV.2.2.2.2.1 hf3).1
  have le:=hl e he
  have lf:=hl (3-e) hf3
  have e1:af_ e (doW w ⟨8,e,0,0,noB⟩).Ends=iL_ (af_ e w.Ends):=by rw [lk_ w he,j1_ hV he he,if_pos rfl]
  have e1':af_ (3-e) (doW w ⟨8,e,0,0,noB⟩).Ends=af_ (3-e) w.Ends:=by rw [lk_ w he,j1_ hV he hf3,if_neg (by omega)]
  have e2:af_ e (doW (doW w ⟨8,e,0,0,noB⟩) ⟨9,e,0,0,noB⟩).Ends=⟨(af_ e w.Ends).Number,true,(af_ e w.Ends).Life+1,0,0,false,g6_,gR_⟩:=by
    rw [f1_ _ he,j1_ v1 he he,if_pos rfl,e1]
    have vf:=Ai_ _ ve
    have hfm:iL_ (af_ e w.Ends)=⟨(af_ e w.Ends).Number,false,(af_ e w.Ends).Life,0,0,false,g6_,gR_⟩:=by unfold iL_;rw [if_pos ve]
    unfold hf_
    rw [if_pos vf,hfm,if_neg (by simp),if_neg (by dsimp only;omega)]
  have e2':af_ (3-e) (doW (doW w ⟨8,e,0,0,noB⟩) ⟨9,e,0,0,noB⟩).Ends=af_ (3-e) w.Ends:=by rw [f1_ _ he,j1_ v1 he hf3,if_neg (by omega),e1']
  have e3:af_ e (fj_ w e).Ends=⟨(af_ e w.Ends).Number,true,(af_ e w.Ends).Life+1,0,0,false,g6_,gR_⟩:=by
    unfold fj_
    rw [f1_ _ hf3,j1_ v2 hf3 he,if_neg (by omega),e2]
  have e3':af_ (3-e) (fj_ w e).Ends=hf_ (af_ (3-e) w.Ends):=by
    unfold fj_
    rw [f1_ _ hf3,j1_ v2 hf3 hf3,if_pos rfl,e2']
  have upf:(hf_ (af_ (3-e) w.Ends)).Up=true:=by
    unfold hf_
    rw [if_pos vf]
    split
    ·rename_i hu;exact hu
    ·rw [if_neg (by omega)]
  have pe:=(hI.two e he).pe
  have lef:1≤(hf_ (af_ (3-e) w.Ends)).Life:=(y3_ _ vf).2.1.1
  have pf:(hf_ (af_ (3-e) w.Ends)).Peer≤(af_ e w.Ends).Life:=by
    have:=ve.2.1
    unfold hf_
    rw [if_pos vf]
    split
    ·exact pe
    ·rw [if_neg (by omega)];show 0≤_;omega
  have hcase:∀n:Int,1≤n∧n≤2→n=e∨n=3-e:=fun n hn=>by omega
  refine ⟨v3,i3,f3, ?_, ?_,fun n hn=> ?_,fun n hn=> ?_⟩
  ·unfold fj_;rw [f1_ _ hf3,f1_ _ he,lk_ w he];rfl
  ·unfold fj_;rw [f1_ _ hf3,f1_ _ he,lk_ w he];rfl
  ·rcases hcase n hn with rfl | rfl
   ·rw [e3]
   ·rw [e3'];exact upf
  ·unfold Kn
   dsimp only
   rcases hcase n hn with rfl | rfl
   ·rw [e3,e3']
    dsimp only
    omega
   ·rw [eC_,e3,e3']
    dsimp only
    omega
end Km.X
namespace Km.X
open Go Km
set_option linter.unusedVariables false
set_option linter.unusedSimpArgs false
def fB_:ByteArray:=⟨#[110,111,119]⟩
theorem DS_:nF_ fB_=[⟨fB_,true⟩]:=rfl
theorem CH_ {e a b:Int} {t:ByteArray}:∀(L:List aa_),L.map (·.Text)=[t]→(∀r∈L,kf r=⟨e,a,b⟩)→L=[⟨e,a,b,t⟩]
  | [r],tx,all=>by
    have a1:=all r (by simp)
    simp only [List.map_cons,List.map_nil,List.cons.injEq,and_true] at tx
    obtain ⟨r1,r2,r3,r4⟩:=r
    simp only [kf,DPair.mk.injEq] at a1
    dsimp only at tx
    rw [a1.1,a1.2.1,a1.2.2,tx]
  | [],tx,_=>by cases tx
  | _::_::_,tx,_=>by simp at tx
section
variable {S:Nat} {A:Int→Int} {Gi:List aa_}
theorem re_ {w:ab_} (h:Core0 A Gi w) {n:Int} (hn:1≤n∧n≤2) (hk:¬Kn A n w):ax_ Gi ⟨n,A n,A (3-n)⟩=[]:=iu_ fun r hr e=>by
  simp only [kf,DPair.mk.injEq] at e
  have hlt:=h.peer hn
  have hne:¬(af_ n w.Ends).Peer=A (3-n):=hk
  rw [←h.G] at hr
  have hul:=h.up n hn
  rcases (h.D n hn).gf r hr e.1 with g | ⟨g,g'⟩
  ·rw [hul.2] at g;omega
  ·have:=g' hul.1;omega
structure AQ_ (A:Int→Int) (Gi:List aa_) (x:ab_):Prop where
  rest:mM_ 300 A Gi (x,[])
  k1:Kn A 1 x
  k2:Kn A 2 x
  r1:ax_ Gi ⟨1,A 1,A 2⟩=[]
  r2:ax_ Gi ⟨2,A 2,A 1⟩=[]
theorem u8_ {w:ab_} (hV:au_ w) (hI:WInv w) (hr:w.Given.length+w.Taken.length≤260) (hu:∀n,1≤n∧n≤2→(af_ n w.Ends).Up=true) (hf0:w.Forged=noB)
    (hk:∀n,1≤n∧n≤2→¬Kn (fun m=>(af_ m w.Ends).Life) n w) (hf:(jl_ w 20 1).Forged=noB):AQ_ (fun m=>(af_ m w.Ends).Life) w.Given (jl_ w 20 1):=by
  have c0:Core0 (fun m=>(af_ m w.Ends).Life) w.Given w:=⟨hV,hI.two,hf0,rfl,fun n hn=>⟨hu n hn,rfl⟩⟩
  have r1:ax_ w.Given ⟨1,(af_ 1 w.Ends).Life,(af_ 2 w.Ends).Life⟩=[]:=re_ c0 (n:=1) (by omega) (hk 1 (by omega))
  have r2:ax_ w.Given ⟨2,(af_ 2 w.Ends).Life,(af_ 1 w.Ends).Life⟩=[]:=re_ c0 (n:=2) (by omega) (hk 2 (by omega))
  have hc:jl_ w 20 1=(aE_ 1 20 (w,[])).1:=by
    unfold jl_;rw [if_pos ⟨hV,by omega⟩];rfl
  rw [hc] at hf⊢
  have e20:aE_ 1 20 (w,[])=aE_ 1 19 (aB_ 1 (w,[])):=rfl
  rw [e20] at hf⊢
  have hf1:=lp_ 19 hf
  obtain ⟨d0,ht⟩:=DQ_ (A:=fun m=>(af_ m w.Ends).Life) (ev:=1) hV hI (fun n hn=>⟨hu n hn,rfl⟩) hf1
  have hp:=yH_ d0 (by unfold ha_;rw [r1];rfl) (by unfold ha_;rw [r2];rfl)
  have rest:mM_ 300 (fun m=>(af_ m w.Ends).Life) w.Given (aB_ 1 (w,[])):=⟨⟨d0,by omega,by omega⟩,wx_ _⟩
  have hk:=zr_ (ev:=1) (by omega) rest
  rw [show 3+12*(1:Int).toNat=15 from rfl] at hk
  obtain ⟨s1,m1⟩:=bS_ (ev:=1) 15 rest
  obtain ⟨s2,m2⟩:=bS_ (ev:=1) 4 s1
  have e19:aE_ 1 19 (aB_ 1 (w,[]))=aE_ 1 4 (aE_ 1 15 (aB_ 1 (w,[]))):=dN_ 15 4 _
  rw [e19]
  have j1:=aO_ (ev:=1) (bN_ (by omega)) s1 hk.1 4
  have j2:=aO_ (ev:=1) (bN_ (by omega)) s1 hk.2 4
  generalize aE_ 1 4 (aE_ 1 15 (aB_ 1 (w,[])))=s4 at s2 j1 j2
  exact ⟨⟨s2.core,s2.fl⟩,j1,j2,r1,r2⟩
theorem mC_ {x:ab_} (q:AQ_ A Gi x) {n:Int} (hn:1≤n∧n≤2):Kn A n x∧Kn A (3-n) x∧(af_ n x.Ends).Send.Items=[]∧(af_ n x.Ends).Send.Base=0∧(af_ n x.Ends).Take.Next=0∧(af_ n x.Ends).Take.Ready=[]∧ax_ Gi ⟨n,A n,A (3-n)⟩=[]:=by
  have k:Kn A n x∧Kn A (3-n) x∧ax_ Gi ⟨n,A n,A (3-n)⟩=[]∧ha_ Gi (3-n) (A (3-n)) (A n)=[]:=by
    have:n=1∨n=2:=by omega
    rcases this with rfl | rfl
    ·exact ⟨q.k1,q.k2,q.r1,by unfold ha_;show (ax_ Gi ⟨2,A 2,A 1⟩).flatMap nF_=[];rw [q.r2];rfl⟩
    ·exact ⟨q.k2,q.k1,q.r2,by unfold ha_;show (ax_ Gi ⟨1,A 1,A 2⟩).flatMap nF_=[];rw [q.r1];rfl⟩
  obtain ⟨k1,k2,k3,k4⟩:=k
  have c:Core0 A Gi x:=q.rest.core.toCore0
  obtain ⟨t1,t2,t3⟩:=zi_ c hn k1 k4
  obtain ⟨i1,i2⟩:=x0_ c hn k1
  have e:ha_ Gi n (A n) (A (3-n))=[]:=by unfold ha_;rw [k3];rfl
  rw [e] at i1
  have hb:=(c.ve hn).2.2.2.2.1.2.1.1
  simp only [List.length_nil] at i1
  exact ⟨k1,k2,List.length_eq_zero_iff.mp (by omega),by omega,t1,t3,k3⟩
theorem xF_ {x:ab_} (q:AQ_ A Gi x) {e:Int} (he:1≤e∧e≤2):doW x ⟨10,e,0,0,fB_⟩=⟨x.Key,x.Width,dl_ e (e1_ (af_ e x.Ends) fB_).End x.Ends,x.Flight,x.Forged,x.Given++[⟨e,A e,A (3-e),fB_⟩],x.Taken⟩∧(e1_ (af_ e x.Ends) fB_).Code=0∧(e1_ (af_ e x.Ends) fB_).End.Send.Items.length=1:=by
  obtain ⟨k1,k2,i1,i2,t1,t2,r⟩:=mC_ q he
  have c:Core0 A Gi x:=q.rest.core.toCore0
  have hv:=c.ve he
  have hul:=c.up e he
  have hp:=c.pos (n:=3-e) (by omega)
  have hpe:(af_ e x.Ends).Peer=A (3-e):=k1
  have hroom:=q.rest.core.room
  have hg:=c.G
  have hm:(kv_ (af_ e x.Ends).Send fB_)=(⟨0,[yl_ ⟨fB_,true⟩]⟩,0):=by
    unfold kv_
    rw [DS_,i1,i2,if_pos ⟨hv.2.2.2.2.1,by show 3≤200;omega⟩,if_pos (by simp)]
    rfl
  have hc:(e1_ (af_ e x.Ends) fB_).Code=0:=by
    unfold e1_
    rw [if_pos hv,if_pos hul.1,if_neg (by omega),hm,if_pos rfl]
  refine ⟨?_,hc, ?_⟩
  ·rw [my_ (by dsimp only;omega) he]
   show k1_ x e fB_=_
   unfold k1_
   rw [if_pos ⟨by rw [hg];dsimp only at hroom;omega,hc⟩,hul.2,hpe]
  ·rw [(jU_ hc).1,hm];rfl
theorem yb_ {x:ab_} (q:AQ_ A Gi x) {e:Int} (he:1≤e∧e≤2):au_ (doW x ⟨10,e,0,0,fB_⟩)∧CT_ 320 A (Gi++[⟨e,A e,A (3-e),fB_⟩]) (jl_ (doW x ⟨10,e,0,0,fB_⟩) 40 1)∧(jl_ (doW x ⟨10,e,0,0,fB_⟩) 40 1).Flight=[]∧
    (jl_ (doW x ⟨10,e,0,0,fB_⟩) 40 1).Taken=x.Taken++[⟨e,A e,A (3-e),fB_⟩]:=by
  have hf3:1≤3-e∧3-e≤2:=by omega
  obtain ⟨k1,k2,i1,i2,t1,t2,r⟩:=mC_ q he
  obtain ⟨k1',k2',i1',i2',t1',t2',r'⟩:=mC_ q hf3
  rw [eC_] at r'
  obtain ⟨p1,p2,p3⟩:=xF_ q he
  have c:Core0 A Gi x:=q.rest.core.toCore0
  have hV:au_ x:=c.V
  have v1:=vL_ hV ⟨10,e,0,0,fB_⟩
  have hE:=hV.2.2.2.2.1
  have hroom:=q.rest.core.room
  dsimp only at hroom
  have hge:ax_ (Gi++[⟨e,A e,A (3-e),fB_⟩]) ⟨e,A e,A (3-e)⟩=[fB_]:=by
    have ek:(⟨e,A e,A (3-e)⟩:DPair)=kf ⟨e,A e,A (3-e),fB_⟩:=rfl
    rw [bL_,if_pos ek,r];rfl
  have hgf:ax_ (Gi++[⟨e,A e,A (3-e),fB_⟩]) ⟨3-e,A (3-e),A e⟩=[]:=by
    rw [bL_,if_neg (by simp only [kf,DPair.mk.injEq];omega),r']
  have pte:ha_ (Gi++[⟨e,A e,A (3-e),fB_⟩]) e (A e) (A (3-e))=[⟨fB_,true⟩]:=by unfold ha_;rw [hge];rfl
  have ptf:ha_ (Gi++[⟨e,A e,A (3-e),fB_⟩]) (3-e) (A (3-e)) (A e)=[]:=by unfold ha_;rw [hgf];rfl
  have hx:=(jU_ p2).1
  have at_e:af_ e (doW x ⟨10,e,0,0,fB_⟩).Ends=(e1_ (af_ e x.Ends) fB_).End:=by rw [p1];exact (bG_ hE he he _).trans (if_pos rfl)
  have at_f:af_ (3-e) (doW x ⟨10,e,0,0,fB_⟩).Ends=af_ (3-e) x.Ends:=by rw [p1];exact (bG_ hE he hf3 _).trans (if_neg (by omega))
  have xG:x.Given=Gi:=c.G
  have tw:=c.pair he
  have hul:=c.up e he
  have hpe:(af_ e x.Ends).Peer=A (3-e):=k1
  have stp:=wV_ tw (c.ve he) (c.ve hf3) he p2
  rw [hul.2,hpe] at stp
  obtain ⟨a1,a2⟩:=hS_ hE he stp
  have hcase:∀n:Int,1≤n∧n≤2→n=e∨n=3-e:=fun n hn=>by omega
  have kE:Kn A e (doW x ⟨10,e,0,0,fB_⟩):=by unfold Kn;rw [at_e,hx];exact hpe
  have kF:Kn A (3-e) (doW x ⟨10,e,0,0,fB_⟩):=by unfold Kn;rw [at_f];exact k1'
  have kk:∀n,1≤n∧n≤2→Kn A n (doW x ⟨10,e,0,0,fB_⟩):=fun n hn=>by
    rcases hcase n hn with rfl | rfl
    ·exact kE
    ·exact kF
  have ups:∀n,1≤n∧n≤2→(af_ n (doW x ⟨10,e,0,0,fB_⟩).Ends).Up=true∧(af_ n (doW x ⟨10,e,0,0,fB_⟩).Ends).Life=A n:=fun n hn=>by
    rcases hcase n hn with rfl | rfl
    ·rw [at_e,hx];exact hul
    ·rw [at_f];exact c.up _ hf3
  have core0:Core0 A (Gi++[⟨e,A e,A (3-e),fB_⟩]) (doW x ⟨10,e,0,0,fB_⟩):=by
    refine ⟨v1, ?_, ?_, ?_,ups⟩
    ·rw [p1];exact a1
    ·rw [p1];exact c.F
    ·rw [p1];show x.Given++_=_;rw [xG]
  have pe:pot A (Gi++[⟨e,A e,A (3-e),fB_⟩]) e (af_ e (doW x ⟨10,e,0,0,fB_⟩).Ends)=0:=by
    unfold pot
    rw [at_e,hx,ptf]
    dsimp only
    rw [if_pos hpe,t2];simp
  have pf:pot A (Gi++[⟨e,A e,A (3-e),fB_⟩]) (3-e) (af_ (3-e) (doW x ⟨10,e,0,0,fB_⟩).Ends)≤1:=by
    unfold pot
    rw [at_f,eC_,pte,if_pos (by have:=k1';unfold Kn at this;rwa [eC_] at this),t2']
    simp only [List.length_nil,List.length_cons]
    omega
  have yT:(doW x ⟨10,e,0,0,fB_⟩).Taken=x.Taken:=by rw [p1]
  have yF:(doW x ⟨10,e,0,0,fB_⟩).Flight=[]:=by rw [p1];exact q.rest.fl
  have core:gC_ 320 A (Gi++[⟨e,A e,A (3-e),fB_⟩]) (doW x ⟨10,e,0,0,fB_⟩):=by
    refine ⟨core0, ?_,by omega⟩
    rw [yT]
    simp only [List.length_append,List.length_cons,List.length_nil]
    have:e=1∨e=2:=by omega
    rcases this with rfl | rfl
    ·have pf':pot A (Gi++[⟨1,A 1,A (3-1),fB_⟩]) 2 (af_ 2 (doW x ⟨10,1,0,0,fB_⟩).Ends)≤1:=pf
     omega
    ·have pf':pot A (Gi++[⟨2,A 2,A (3-2),fB_⟩]) 1 (af_ 1 (doW x ⟨10,2,0,0,fB_⟩).Ends)≤1:=pf
     omega
  have rest:mM_ 320 A (Gi++[⟨e,A e,A (3-e),fB_⟩]) (doW x ⟨10,e,0,0,fB_⟩,[]):=⟨core,yF⟩
  have lens:∀n,1≤n∧n≤2→(af_ n (doW x ⟨10,e,0,0,fB_⟩).Ends).Send.Items.length≤1:=fun n hn=>by
    rcases hcase n hn with rfl | rfl
    ·rw [at_e,p3];omega
    ·rw [at_f,i1'];simp
  have hc:jl_ (doW x ⟨10,e,0,0,fB_⟩) 40 1=(aE_ 1 40 (doW x ⟨10,e,0,0,fB_⟩,[])).1:=by
    unfold jl_;rw [if_pos ⟨v1,by omega⟩];rfl
  have e0:=Dl_ (ev:=1) (by omega) rest (kk 1 (by omega)) (kk 2 (by omega)) (N:=1) (R:=40) (lens 1 (by omega)) (lens 2 (by omega)) (by show 12*1*1+1≤40;omega)
  have ex:=qY_ (ev:=1) 40 rest (kk 1 (by omega)) (kk 2 (by omega))
  have fl40:(aE_ 1 40 (doW x ⟨10,e,0,0,fB_⟩,[])).1.Flight=[]:=(bS_ (ev:=1) 40 rest).1.fl
  rw [hc]
  refine ⟨v1,e0,fl40, ?_⟩
  obtain ⟨L,l1,l2⟩:=ex
  rw [l1]
  have l2':∀r∈L,kf r=⟨e,A e,A (3-e)⟩∨kf r=⟨3-e,A (3-e),A e⟩:=fun r hr=>by
    have:=l2 r hr
    have he':e=1∨e=2:=by omega
    rcases he' with rfl | rfl
    ·exact this
    ·exact this.symm
  have app:∀key,ax_ (x.Taken++L) key=ax_ x.Taken key++ax_ L key:=fun key=>by unfold ax_;rw [List.filter_append,List.map_append]
  have te:=tX_ e0 he
  have tf:=tX_ e0 hf3
  have eG:=e0.core.G
  rw [l1] at te tf
  rw [eC_] at tf
  rw [eG] at te tf
  dsimp only at te tf
  rw [yT,app,hge] at te
  rw [yT,app,hgf] at tf
  have xe:ax_ x.Taken ⟨e,A e,A (3-e)⟩=[]:=by
    obtain ⟨m,hm⟩:=(c.D e he).rt (A e) (A (3-e))
    rw [xG,r] at hm
    exact (List.append_eq_nil_iff.mp hm.symm).1
  rw [xe,List.nil_append] at te
  have Lf:ax_ L ⟨3-e,A (3-e),A e⟩=[]:=(List.append_eq_nil_iff.mp tf.symm).2
  have all:∀r∈L,kf r=⟨e,A e,A (3-e)⟩:=fun r hr=>by
    rcases l2' r hr with g | g
    ·exact g
    ·exfalso
     have:r.Text∈ax_ L ⟨3-e,A (3-e),A e⟩:=by
       unfold ax_
       exact List.mem_map.mpr ⟨r,List.mem_filter.mpr ⟨hr,by simpa using g⟩,rfl⟩
     rw [Lf] at this;cases this
  have tx:L.map (·.Text)=[fB_]:=by
    rw [te]
    unfold ax_
    rw [List.filter_eq_self.mpr (fun r hr=>by simpa using all r hr)]
  refine (congrArg (· ++L) yT).trans ?_
  show x.Taken++L=x.Taken++_
  exact congrArg (x.Taken++ ·) (CH_ L tx all)
end
theorem exact_FnApart (a:List Int) (h0:a.length≤maxLen∧∀y∈a,me_ y):∃k,iR_ k a=some true:=by
  refine Wp.exists ?_
  unfold iR_
  refine Wp.dec (fun _=>Wp.ret rfl) (fun hlen=> ?_)
  refine Wp.bind (qM_ a h0.2) (fun w hw=> ?_)
  have hV:=hw.V
  have hh:=hV.2.2.2.1
  have same:Wp (fun k=>(bo_ k w).bind fun r2=>(bq_ k w).bind fun r3=>some (r2==r3)) (· =true):=by
    refine Wp.bind (da_ w (e2_ hV)) (fun _ q=> ?_);subst q
    refine Wp.bind (dg_ w (e2_ hV)) (fun _ q=> ?_);subst q
    exact Wp.ret (by simp)
  simp only [br_,qq_]
  refine Wp.ite (fun hf=> ?_) (fun _=>same)
  rw [a0_ (n:=(w.Given.length:Int)+(w.Taken.length:Int)) (by omega) (by omega)]
  refine Wp.dec (fun _=>same) (fun hr=> ?_)
  refine Wp.opt (fD_ (by omega) (by omega)) ?_
  have hq:0≤(a.length:Int)%2∧(a.length:Int)%2≤1:=by omega
  generalize (a.length:Int)%2=q at hq
  rw [a0_ (n:=1+q) (by omega) (by omega),a0_ (n:=3-(1+q)) (by omega) (by omega),a0_ (n:=1+q-1) (by omega) (by omega),a0_ (n:=2-(1+q)) (by omega) (by omega)]
  have he:1≤1+q∧1+q≤2:=by omega
  have hl:∀n,1≤n∧n≤2→(af_ n w.Ends).Life<999:=fun n hn=>by
    have:=yi_ hw n hn
    unfold l1_ at this
    dsimp only at this
    split at this<;>omega
  obtain ⟨b1,b2,b3,b4,b5,b6,b7⟩:=B9_ hV (zY_ hw hf) hf hl he
  generalize he':1+q=e at*
  have v1:=vL_ hV ⟨8,e,0,0,noB⟩
  have v2:=vL_ v1 ⟨9,e,0,0,noB⟩
  refine Wp.bind (la_ w (e2_ hV) _) (fun x hx=> ?_)
  have hx:x=doW w ⟨8,e,0,0,noB⟩:=by rw [hx];unfold doM;rw [if_pos hV]
  subst hx
  refine Wp.bind (la_ _ (e2_ v1) _) (fun x hx=> ?_)
  have hx:x=doW (doW w ⟨8,e,0,0,noB⟩) ⟨9,e,0,0,noB⟩:=by rw [hx];unfold doM;rw [if_pos v1]
  subst hx
  refine Wp.bind (la_ _ (e2_ v2) _) (fun x hx=> ?_)
  have hx:x=fj_ w e:=by rw [hx];unfold doM fj_;rw [if_pos v2]
  subst hx
  generalize fj_ w e=x at*
  refine Wp.bind (pp_ x (e2_ b1) 20 1) (fun y hy=> ?_)
  have hyV:au_ y:=by rw [hy];exact y0_ b1 (by omega)
  refine Wp.ite (fun hfy=> ?_) (fun _=>by
    refine Wp.bind (dg_ y (e2_ hyV)) (fun _ q=> ?_);subst q
    exact Wp.ret (decide_eq_true hyV))
  have qu:=u8_ b1 b2 (by rw [b4,b5];omega) b6 b3 b7 (by rw [←hy];exact hfy)
  rw [←hy] at qu
  have hyI:WInv y:=⟨qu.rest.core.D,fun p hp=>by have:=qu.rest.fl;dsimp only at this;rw [this] at hp;cases hp⟩
  have hr1:=tZ_ hyV hyI
  refine Wp.bind (mJ_ y (e2_ hyV)) (fun _ q=> ?_);subst q
  rw [hr1]
  simp only [cond_true]
  refine Wp.bind (ud_ y (e2_ hyV)) (fun _ q=> ?_);subst q
  rw [hr1]
  simp only [cond_true]
  obtain ⟨c1,c2,c3,c4⟩:=yb_ qu he
  refine Wp.bind (la_ y (e2_ hyV) _) (fun z hz=> ?_)
  have hz:z=doW y ⟨10,e,0,0,fB_⟩:=by rw [hz];unfold doM;rw [if_pos hyV];rfl
  subst hz
  refine Wp.bind (pp_ _ (e2_ c1) 40 1) (fun u hu=> ?_)
  have huV:au_ u:=by rw [hu];exact y0_ c1 (by omega)
  rw [←hu] at c2 c3 c4
  refine Wp.ite (fun hfu=> ?_) (fun _=>by
    refine Wp.bind (dg_ u (e2_ huV)) (fun _ q=> ?_);subst q
    exact Wp.ret (decide_eq_true huV))
  obtain ⟨ea,eb,hab,_⟩:=ej_ huV.2.2.2.2.1
  have hTl:u.Taken.length=y.Taken.length+1:=by rw [c4];simp
  have hyh:=hyV.2.2.2.1
  simp only [qI_]
  refine Wp.ite (fun _=> ?_) (fun g=>absurd (by rw [hab];rfl) g)
  refine Wp.dec (fun g=>by omega) (fun _=> ?_)
  rw [a0_ (n:=(y.Taken.length:Int)+1) (by omega) (by omega)]
  refine Wp.ite (fun _=> ?_) (fun g=>absurd (by omega) g)
  have i1:idx u.Taken (y.Taken.length:Int)=some ⟨e,(af_ e x.Ends).Life,(af_ (3-e) x.Ends).Life,fB_⟩:=by rw [c4];exact aW_
  have i2:u.Taken[Int.toNat (y.Taken.length:Int)]? =some ⟨e,(af_ e x.Ends).Life,(af_ (3-e) x.Ends).Life,fB_⟩:=by rw [c4];exact fr_
  have ua:=c2.core.up
  have l1:∃x1,idx u.Ends (e-1)=some x1∧u.Ends[(e-1).toNat]? =some x1∧x1.Life=(af_ e x.Ends).Life:=by
    refine ⟨af_ e u.Ends, ?_, ?_,(ua e he).2⟩
    ·rw [hab];have:e=1∨e=2:=by omega
     rcases this with rfl | rfl<;>rfl
    ·rw [hab];have:e=1∨e=2:=by omega
     rcases this with rfl | rfl<;>rfl
  have l2:∃x2,idx u.Ends (2-e)=some x2∧u.Ends[(2-e).toNat]? =some x2∧x2.Life=(af_ (3-e) x.Ends).Life:=by
    refine ⟨af_ (3-e) u.Ends, ?_, ?_,(ua (3-e) (by omega)).2⟩
    ·rw [hab];have:e=1∨e=2:=by omega
     rcases this with rfl | rfl<;>rfl
    ·rw [hab];have:e=1∨e=2:=by omega
     rcases this with rfl | rfl<;>rfl
  obtain ⟨x1,j1,j2,j3⟩:=l1
  obtain ⟨x2,m1,m2,m3⟩:=l2
  simp only [i1,i2,j1,j2,m1,m2,Option.bind_some]
  have hr2:=tZ_ huV (AV_ c2 c3)
  refine Wp.bif (fun _=> ?_) (fun g=> ?_)
  ·refine Wp.bind (mJ_ u (e2_ huV)) (fun _ q=> ?_);subst q
   rw [hr2]
   simp only [cond_true]
   refine Wp.bind (vq_ u (e2_ huV)) (fun _ q=> ?_);subst q
   exact Wp.ret (zw_ c2)
  ·exfalso
   rw [j3,m3] at g
   simp [fB_] at g
end Km.X
