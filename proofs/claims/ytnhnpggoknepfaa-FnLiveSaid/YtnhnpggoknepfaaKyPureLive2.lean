/- A part of the proof of FnLive: plain laws of these functions. There is no condition. -/
import Derived.Test.YtnhnpggoknepfaaKyPureLive1
import Derived.Test.YtnhnpggoknepfaaKxDef1
import Derived.Test.YtnhnpggoknepfaaKxDef2
namespace Km.X
open Go Km
set_option linter.unusedVariables false
set_option linter.unusedSimpArgs false
def gR_ (e:am_) (p:ae_):aw_:=
  if p.Yours=e.Life then
   if p.Kind=1 then ⟨0,⟨e.Number,e.Up,e.Life,e.Peer,e.Since,e.Owes,ip_ e.Send p.Next p.Mask,e.Take⟩,[],noB⟩
   else ⟨0,⟨e.Number,e.Up,e.Life,e.Peer,e.Since,true,e.Send,i3_ e.Take p.Seq ⟨p.Part,p.Last⟩⟩,[],noB⟩
  else ⟨0,⟨e.Number,e.Up,e.Life,e.Peer,e.Since,true,e.Send,e.Take⟩,[],noB⟩
def j2_ (e:am_) (p:ae_):am_:=if p.Mine>e.Peer then ⟨e.Number,e.Up,e.Life,p.Mine,e.Since,true,h1_,iD_⟩ else e
def eH_ (e:am_) (p:ae_):aw_:=
  if VEnd e then
   if e.Up=true∧iH_ p∧¬p.From=e.Number∧¬p.Mine<e.Peer then gR_ (j2_ e p) p else ⟨0,e,[],noB⟩
  else ⟨1,mg_,[],noB⟩
theorem tu_ (e:am_) (p:ae_):Wp (fun k=>hf_ k e p) (· =eH_ e p):=by
  unfold hf_ eH_
  refine Wp.bind (bV_ _) (fun _ q=> ?_);subst q
  simp only [al_,bk_,fk_]
  refine Wp.ite (fun h1=> ?_) (fun h1=>Wp.ret (by rw [if_neg h1]))
  rw [if_pos h1]
  refine Wp.bind (gk_ e h1) (fun r q=> ?_);rw [q]
  refine Wp.bif (fun u=> ?_) (fun u=>Wp.ret (by rw [if_neg (fun g=>by have:=g.1;rw [u] at this;cases this)]))
  refine Wp.bind (zO_ p) (fun _ q=> ?_);subst q
  simp only [al_]
  refine Wp.ite (fun h2=> ?_) (fun h2=>Wp.ret (by rw [if_neg (fun g=>h2 g.2.1)]))
  refine Wp.ite (fun h3=>Wp.ret (by rw [if_neg (fun g=>g.2.2.1 h3)])) (fun h3=> ?_)
  refine Wp.ite (fun h4=>Wp.ret (by rw [if_neg (fun g=>g.2.2.2 h4)])) (fun h4=> ?_)
  rw [if_pos ⟨u,h2,h3,h4⟩]
  have M:∀(n:Int) (uu:Bool) (li pe si:Int) (ow:Bool) (b:Int) (it:List ag_) (nn:Int) (hd:List aj_) (o:ByteArray) (rr:List ByteArray),
   Wp (fun k=>dD_ k p.Kind p.From p.Mine p.Yours p.Next p.Mask p.Seq p.Last p.Part 0 0 false 0 0 0 false 0 0 (⟨#[]⟩:ByteArray) (⟨#[]⟩:ByteArray) n uu li pe si ow b nn o ([]:List ag_) ([]:List aj_) ([]:List ByteArray) ([]:List ae_) it hd rr) (· =gR_ ⟨n,uu,li,pe,si,ow,⟨b,it⟩,⟨nn,hd,o,rr⟩⟩ p):=by
    intro n uu li pe si ow b it nn hd o rr
    refine Wp.step ?_
    simp only [dD_,qk_,fk_,gR_]
    refine Wp.ite (fun h5=> ?_) (fun h5=>Wp.ret (by rw [if_neg h5]))
    rw [if_pos h5]
    refine Wp.ite (fun h6=> ?_) (fun h6=> ?_)
    ·rw [if_pos h6]
     refine Wp.bind (oR_ _ _ _) (fun _ q=> ?_);subst q
     exact Wp.ret rfl
    ·rw [if_neg h6]
     refine Wp.bind (oS_ _ _ _) (fun _ q=> ?_);subst q
     exact Wp.ret rfl
  unfold j2_
  refine Wp.ite (fun h5=> ?_) (fun h5=> ?_)
  ·rw [if_pos h5];exact M _ _ _ _ _ _ _ _ _ _ _ _
  ·rw [if_neg h5];exact M _ _ _ _ _ _ _ _ _ _ _ _
theorem s5_ (e:am_) (p:ae_):Wp (fun k=>hn_ k e p) (· =eH_ e p):=by
  unfold hn_ eH_
  refine Wp.bind (bZ_ _) (fun _ q=> ?_);subst q
  simp only [al_,bk_,fk_]
  refine Wp.ite (fun h1=> ?_) (fun h1=>Wp.ret (by rw [if_neg h1]))
  rw [if_pos h1]
  refine Wp.bind (fe_ e h1) (fun r q=> ?_);rw [q]
  refine Wp.bif (fun u=> ?_) (fun u=>Wp.ret (by rw [if_neg (fun g=>by have:=g.1;rw [u] at this;cases this)]))
  refine Wp.bind (eR_ p) (fun _ q=> ?_);subst q
  simp only [al_]
  refine Wp.ite (fun h2=> ?_) (fun h2=>Wp.ret (by rw [if_neg (fun g=>h2 g.2.1)]))
  refine Wp.ite (fun h3=>Wp.ret (by rw [if_neg (fun g=>g.2.2.1 h3)])) (fun h3=> ?_)
  refine Wp.ite (fun h4=>Wp.ret (by rw [if_neg (fun g=>g.2.2.2 h4)])) (fun h4=> ?_)
  rw [if_pos ⟨u,h2,h3,h4⟩]
  have M:∀(n:Int) (uu:Bool) (li pe si:Int) (ow:Bool) (b:Int) (it:List ag_) (nn:Int) (hd:List aj_) (o:ByteArray) (rr:List ByteArray),
   Wp (fun k=>ei_ k p.Kind p.From p.Mine p.Yours p.Next p.Mask p.Seq p.Last p.Part 0 0 false 0 0 0 false 0 0 (⟨#[]⟩:ByteArray) (⟨#[]⟩:ByteArray) 0 n uu li pe si ow b nn o (⟨#[]⟩:ByteArray) ([]:List ag_) ([]:List aj_) ([]:List ByteArray) ([]:List ae_) it hd rr ([]:List ae_)) (· =gR_ ⟨n,uu,li,pe,si,ow,⟨b,it⟩,⟨nn,hd,o,rr⟩⟩ p):=by
    intro n uu li pe si ow b it nn hd o rr
    refine Wp.step ?_
    simp only [ei_,qk_,fk_,gR_]
    refine Wp.ite (fun h5=> ?_) (fun h5=>Wp.ret (by rw [if_neg h5]))
    rw [if_pos h5]
    refine Wp.ite (fun h6=> ?_) (fun h6=> ?_)
    ·rw [if_pos h6]
     refine Wp.bind (vr_ _ _ _) (fun _ q=> ?_);subst q
     refine Wp.step ?_
     simp only [dN_]
     exact Wp.ret rfl
    ·rw [if_neg h6]
     refine Wp.bind (vK_ _ _ _) (fun _ q=> ?_);subst q
     refine Wp.step ?_
     simp only [dN_]
     exact Wp.ret rfl
  unfold j2_
  refine Wp.ite (fun h5=> ?_) (fun h5=> ?_)
  ·rw [if_pos h5];exact M _ _ _ _ _ _ _ _ _ _ _ _
  ·rw [if_neg h5];exact M _ _ _ _ _ _ _ _ _ _ _ _
end Km.X
namespace Km.X
open Go Km
set_option linter.unusedVariables false
set_option linter.unusedSimpArgs false
def C3_ (l:List UInt8):Int:=l.foldl (fun v c=>v*256+(c.toNat:Int)) 0
theorem u2_ {n:Nat} (h:n≤6):(256:Int)^n≤281474976710656:=by
  have:n=0∨n=1∨n=2∨n=3∨n=4∨n=5∨n=6:=by omega
  rcases this with rfl | rfl | rfl | rfl | rfl | rfl | rfl<;>decide
theorem uw_ (s:ByteArray):∀(t pre:List UInt8) (v:Int),s.data.toList=pre++t→s.size≤6→0≤v∧v<256^pre.length→
    Wp (fun k=>dT_ k s v (pre.length:Int)) (· =t.foldl (fun v c=>v*256+(c.toNat:Int)) v)
  | [],pre,v,h,hs,hv=>by
    refine Wp.step ?_
    have:=hl_ h
    simp only [List.length_nil] at this
    simp only [dT_]
    simp (disch:=omega) only [al_,if_neg]
    exact Wp.ret rfl
  | c::t,pre,v,h,hs,hv=>by
    refine Wp.step ?_
    have hl:=hl_ h
    simp only [List.length_cons] at hl
    have hp:=u2_ (n:=pre.length) (by omega)
    have hc:=c.toNat_lt
    simp only [dT_]
    simp (disch:=omega) only [al_,if_pos,n7_ h,Option.bind_some,aW_]
    have ih:=uw_ s t (pre++[c]) (v*256+(c.toNat:Int)) (by simpa using h) hs (by
      rw [List.length_append,List.length_singleton,Int.pow_succ];omega)
    rwa [←br_] at ih
theorem rZ_ (s:ByteArray) (h:s.size≤6):Wp (fun k=>fK_ k s) (· =C3_ s.data.toList):=uw_ s s.data.toList [] 0 rfl h (by decide)
theorem DS_ (n c:Nat) (h:c<256):(n*256) ||| c=n*256+c:=by
  have:=Nat.shiftLeft_add_eq_or_of_lt (a:=n) (i:=8) (b:=c) (by simpa using h)
  rw [Nat.shiftLeft_eq] at this
  simpa using this.symm
theorem xy_ (n c:Nat) (hn:n<281474976710656) (hc:c<256):wN_ .i64 ((n*256:Nat):Int) (c:Int)=((n*256+c:Nat):Int):=by
  have e:∀m:Nat,BitVec.ofInt 64 (m:Int)=BitVec.ofNat 64 m:=fun m=>by
    apply BitVec.eq_of_toNat_eq
    simp [BitVec.toNat_ofInt]
  show IntKind.wrap .i64 ((BitVec.ofInt 64 ((n*256:Nat):Int) ||| BitVec.ofInt 64 (c:Int)).toNat:Int)=_
  rw [e,e,BitVec.toNat_or,BitVec.toNat_ofNat,BitVec.toNat_ofNat,Nat.mod_eq_of_lt (by omega),Nat.mod_eq_of_lt (by omega),DS_ n c hc]
  exact aW_ (by omega) (by omega)
theorem FP_ (n:Nat) (h:n<36028797018963968):shift .shl .i64 (n:Int) 8=some ((n*256:Nat):Int):=by
  simp only [shift]
  rw [if_neg (by omega)]
  congr 1
  rw [show (Int.toNat 8)=8 from rfl,show min 8 IntKind.i64.bits=8 from rfl]
  rw [aW_ (by omega) (by omega)]
  simp
theorem wW_ (s:ByteArray):∀(t pre:List UInt8) (v:Nat),s.data.toList=pre++t→s.size≤6→(v:Int)<256^pre.length→
    Wp (fun k=>fJ_ k s (v:Int) (pre.length:Int)) (· =t.foldl (fun v c=>v*256+(c.toNat:Int)) (v:Int))
  | [],pre,v,h,hs,hv=>by
    refine Wp.step ?_
    have:=hl_ h
    simp only [List.length_nil] at this
    simp only [fJ_]
    simp (disch:=omega) only [al_,if_neg]
    exact Wp.ret rfl
  | c::t,pre,v,h,hs,hv=>by
    refine Wp.step ?_
    have hl:=hl_ h
    simp only [List.length_cons] at hl
    have hp:=u2_ (n:=pre.length) (by omega)
    have hp':=u2_ (n:=pre.length+1) (by omega)
    rw [Int.pow_succ] at hp'
    have hc:=c.toNat_lt
    simp only [fJ_]
    simp (disch:=omega) only [al_,if_pos,n7_ h,Option.bind_some,aW_,FP_,xy_]
    have ih:=wW_ s t (pre++[c]) (v*256+c.toNat) (by simpa using h) hs (by
      rw [List.length_append,List.length_singleton,Int.pow_succ];omega)
    rw [←br_] at ih
    rw [List.foldl_cons]
    have e:((v*256+c.toNat:Nat):Int)=(v:Int)*256+(c.toNat:Int):=by omega
    rw [e] at ih⊢
    exact ih
theorem wo_ (s:ByteArray) (h:s.size≤6):Wp (fun k=>jZ_ k s) (· =C3_ s.data.toList):=wW_ s s.data.toList [] 0 rfl h (by decide)
def at' (b:ByteArray) (i:Nat):UInt8:=b.data.toList.getD i 0
theorem jj_ {b:ByteArray} {i:Nat} (h:i<b.size):sZ_ b (i:Int)=some (at' b i):=by
  unfold sZ_ at'
  rw [if_neg (by omega),Int.toNat_natCast]
  have e:b[i]? =some (b[i]'h):=by simp [h]
  rw [e]
  have:b.data.toList[i]? =some (b[i]'h):=by
    rw [Array.getElem?_toList,Array.getElem?_eq_getElem (show i<b.data.size from h)];rfl
  rw [List.getD_eq_getElem?_getD,this];rfl
def v6_:ae_:=⟨0,0,0,0,0,0,0,false,noB⟩
def Aj_ (b:ByteArray) (i j:Nat):Int:=C3_ (b.extract i j).data.toList
def iM_ (b:ByteArray):ae_:=
  if ((at' b 0).toNat:Int)=1 then ⟨(at' b 0).toNat,(at' b 1).toNat,Aj_ b 2 4,Aj_ b 4 6,Aj_ b 6 10,(at' b 10).toNat,0,false,noB⟩
  else ⟨(at' b 0).toNat,(at' b 1).toNat,Aj_ b 2 4,Aj_ b 4 6,0,0,Aj_ b 6 10,(((at' b 10).toNat:Int)==1),b.extract 11 b.size⟩
def hX_ (s b:ByteArray) (w:Int):ae_×Bool:=
  if (1≤w∧w≤8)∧w+11≤s.size then (if dm_ (iM_ (s.extract w.toNat s.size)) b w=s then (iM_ (s.extract w.toNat s.size),true) else (v6_,false)) else (v6_,false)
theorem fB_ (s:ByteArray) (i j:Nat):(s.extract i j).size=min j s.size-i:=by simp
theorem wu (c:UInt8):IntKind.wrap .i64 (c.toNat:Int)=(c.toNat:Int):=by have:=c.toNat_lt;exact aW_ (by omega) (by omega)
theorem uY_ (s b:ByteArray) (w:Int) (hs:s.size≤1048576):Wp (fun k=>fw_ k s b w) (· =hX_ s b w):=by
  unfold fw_ hX_
  refine Wp.bind (bN_ _ _ _) (fun _ e=> ?_);subst e
  simp only [inB,bk_,al_]
  refine Wp.ite (fun h1=> ?_) (fun h1=>Wp.ret (by rw [if_neg (fun h=>h1 h.1)];rfl))
  rw [aW_ (by omega) (by omega)]
  refine Wp.ite (fun h2=>Wp.ret (by rw [if_neg (fun h=>by omega)];rfl)) (fun h2=> ?_)
  rw [if_pos ⟨h1,by omega⟩]
  refine Wp.opt (cy_ (by omega)) ?_
  dsimp only
  rw [Int.toNat_natCast]
  have hsz:(s.extract w.toNat s.size).size=s.size-w.toNat:=by rw [fB_];omega
  have hge:11≤(s.extract w.toNat s.size).size:=by omega
  generalize hb:s.extract w.toNat s.size=B at hsz hge⊢
  have key:∀p:ae_,Wp (fun k=>(di_ k p b w).bind fun r16=>
   bif (!(r16.toList==s.toList)) then some (v6_,false) else some (p,true)) (· =if dm_ p b w=s then (p,true) else (v6_,false)):=fun p=>by
    refine Wp.bind (ou_ p b w) (fun _ e=> ?_);subst e
    simp only [bk_,no_]
    exact Wp.ite (fun h=>Wp.ret (by rw [if_pos h])) (fun h=>Wp.ret (by rw [if_neg h]))
  have hBs:B.size≤1048576:=by omega
  refine Wp.opt (jj_ (i:=0) (by omega)) ?_
  refine Wp.opt (jj_ (i:=1) (by omega)) ?_
  refine Wp.opt (cy_ (by omega)) ?_
  refine Wp.bind (rZ_ _ (by rw [fB_];simp;omega)) (fun _ e=> ?_);subst e
  refine Wp.opt (cy_ (by omega)) ?_
  refine Wp.bind (rZ_ _ (by rw [fB_];simp;omega)) (fun _ e=> ?_);subst e
  simp only [wu,fk_]
  refine Wp.ite (fun hk=> ?_) (fun hk=> ?_)
  ·refine Wp.opt (cy_ (by omega)) ?_
   refine Wp.bind (rZ_ _ (by rw [fB_];simp;omega)) (fun _ e=> ?_);subst e
   refine Wp.opt (jj_ (i:=10) (by omega)) ?_
   refine Wp.step ?_
   simp only [cx_,wu]
   have:=key (iM_ B)
   unfold iM_ at this⊢
   rw [if_pos hk] at this⊢
   exact this
  ·refine Wp.opt (cy_ (by omega)) ?_
   refine Wp.bind (rZ_ _ (by rw [fB_];simp;omega)) (fun _ e=> ?_);subst e
   refine Wp.opt (jj_ (i:=10) (by omega)) ?_
   refine Wp.opt (cy_ (by omega)) ?_
   refine Wp.step ?_
   simp only [cx_,wu]
   have:=key (iM_ B)
   unfold iM_ at this⊢
   rw [if_neg hk] at this⊢
   exact this
theorem sK_ {p:ae_} {b s:ByteArray} {w:Int} (h:¬(iH_ p∧b.size≤30)) (hs:11≤s.size):dm_ p b w≠s:=by
  unfold dm_
  rw [if_neg (fun h'=>h ⟨h'.1,h'.2.2⟩)]
  intro e
  rw [←e] at hs
  simp [d0_] at hs
theorem vw_ (s b:ByteArray) (w:Int) (hs:s.size≤1048576):Wp (fun k=>fA_ k s b w) (· =hX_ s b w):=by
  unfold fA_ hX_
  simp only [al_]
  refine Wp.ite (fun h1=>Wp.ret (by rw [if_neg (fun h=>by omega)];rfl)) (fun h1=> ?_)
  refine Wp.ite (fun h2=>Wp.ret (by rw [if_neg (fun h=>by omega)];rfl)) (fun h2=> ?_)
  refine Wp.ite (fun h3=>Wp.ret ?_) (fun h3=> ?_)
  ·split
   ·rename_i h
    rw [if_neg (sK_ (fun h'=>by omega) (by omega))];rfl
   ·rfl
  rw [aW_ (by omega) (by omega)]
  refine Wp.ite (fun h4=>Wp.ret (by rw [if_neg (fun h=>by omega)];rfl)) (fun h4=> ?_)
  rw [if_pos ⟨by omega,by omega⟩]
  refine Wp.opt (cy_ (by omega)) ?_
  dsimp only
  rw [Int.toNat_natCast]
  have hsz:(s.extract w.toNat s.size).size=s.size-w.toNat:=by rw [fB_];omega
  have hge:11≤(s.extract w.toNat s.size).size:=by omega
  generalize hb:s.extract w.toNat s.size=B at hsz hge⊢
  have key:∀p:ae_,Wp (fun k=>(be_ k p).bind fun r15=>bif (!r15) then some (v6_,false) else (dl_ k p b w).bind fun r16=>
   bif (!(r16.toList==s.toList)) then some (v6_,false) else some (p,true)) (· =if dm_ p b w=s then (p,true) else (v6_,false)):=fun p=>by
    refine Wp.bind (eR_ p) (fun _ e=> ?_);subst e
    simp only [bk_,al_]
    refine Wp.ite (fun hf=> ?_) (fun hf=>Wp.ret (by rw [if_neg (sK_ (fun h'=>hf h'.1) (by omega))]))
    refine Wp.bind (po_ p b w) (fun _ e=> ?_);subst e
    simp only [bk_,no_]
    exact Wp.ite (fun h=>Wp.ret (by rw [if_pos h])) (fun h=>Wp.ret (by rw [if_neg h]))
  have hBs:B.size≤1048576:=by omega
  refine Wp.opt (jj_ (i:=0) (by omega)) ?_
  refine Wp.opt (jj_ (i:=1) (by omega)) ?_
  refine Wp.opt (cy_ (by omega)) ?_
  refine Wp.bind (wo_ _ (by rw [fB_];simp;omega)) (fun _ e=> ?_);subst e
  refine Wp.opt (cy_ (by omega)) ?_
  refine Wp.bind (wo_ _ (by rw [fB_];simp;omega)) (fun _ e=> ?_);subst e
  simp only [wu,fk_]
  refine Wp.ite (fun hk=> ?_) (fun hk=> ?_)
  ·refine Wp.opt (cy_ (by omega)) ?_
   refine Wp.bind (wo_ _ (by rw [fB_];simp;omega)) (fun _ e=> ?_);subst e
   refine Wp.opt (jj_ (i:=10) (by omega)) ?_
   refine Wp.step ?_
   simp only [bw_,wu]
   have:=key (iM_ B)
   unfold iM_ at this⊢
   rw [if_pos hk] at this⊢
   exact this
  ·refine Wp.ite (fun hk2=> ?_) (fun hk2=> ?_)
   ·refine Wp.opt (cy_ (by omega)) ?_
    refine Wp.bind (wo_ _ (by rw [fB_];simp;omega)) (fun _ e=> ?_);subst e
    refine Wp.opt (jj_ (i:=10) (by omega)) ?_
    refine Wp.opt (cy_ (by omega)) ?_
    refine Wp.step ?_
    simp only [bw_,wu]
    have:=key (iM_ B)
    unfold iM_ at this⊢
    rw [if_neg hk] at this⊢
    exact this
   ·refine Wp.step ?_
    simp only [bw_,wu]
    have hno:¬iH_ (iM_ B):=fun hf=>by
      have hK:(iM_ B).Kind=1∨(iM_ B).Kind=2:=by rcases hf.2.2.2 with h | h<;>omega
      unfold iM_ at hK
      rw [if_neg hk] at hK
      exact hK.elim hk hk2
    rw [if_neg (sK_ (fun h=>hno h.1) (by omega))]
    refine Wp.bind (eR_ _) (fun _ e=> ?_);subst e
    rw [decide_eq_false]
    ·exact Wp.ret rfl
    ·intro hf
     have hK:(((at' B 0).toNat:Int))=1∨(((at' B 0).toNat:Int))=2:=hf.2.2.2.elim (fun h=> .inl h.1) (fun h=> .inr h.1)
     exact hK.elim hk hk2
end Km.X
namespace Km.X
open Go Km
set_option linter.unusedVariables false
set_option linter.unusedSimpArgs false
theorem so_ {e:am_} (h:VEnd e):VEnd (a2_ e).End:=by
  obtain ⟨h1,h2,h3,h4,h5,h6,h7,h8⟩:=h
  have h:VEnd e:=⟨h1,h2,h3,h4,h5,h6,h7,h8⟩
  have hs:=(sP_ e h).1
  have hz:e.Peer=0→BA_ (bp_ e).1∧Ay_ e.Take:=fun hp=>by unfold bp_;rw [if_pos hp];exact h7 hp
  unfold a2_
  rw [if_pos h]
  split
  ·rename_i hu
   have nu:∀q:Prop,(e.Up=false→q):=fun q g=>by rw [hu] at g;cases g
   split
   ·exact ⟨h1,h2,h3,⟨by simp,by simp⟩,hs,h6,hz,nu _⟩
   ·refine ⟨h1,h2,h3, ?_,hs,h6,hz,nu _⟩
    show 0≤upS e∧upS e≤1000000
    unfold upS;split<;>omega
  ·exact h
theorem uM_ {e:am_} {p:ae_} (h:VEnd e) (hu:e.Up=true) (hf:iH_ p):VEnd (j2_ e p)∧(j2_ e p).Up=true:=by
  unfold j2_
  split
  ·refine ⟨⟨h.1,h.2.1, ?_,h.2.2.2.1,iw_,jI_,fun _=>⟨EQ_,EI_⟩,fun g=> ?_⟩,hu⟩
   ·have:=hf.2.1;have:=h.2.2.1
    show 0≤p.Mine∧p.Mine≤1000;omega
   ·change e.Up=false at g;rw [hu] at g;cases g
  ·exact ⟨h,hu⟩
theorem iR_ {e:am_} {p:ae_} (h:VEnd e) (hf:iH_ p) (hm:¬p.Mine<e.Peer):(j2_ e p).Peer=p.Mine:=by
  unfold j2_;split
  ·rfl
  ·omega
theorem CW_ {e:am_} {p:ae_} (h:VEnd e) (hu:e.Up=true) (hp:e.Peer≠0):VEnd (gR_ e p).End:=by
  obtain ⟨h1,h2,h3,h4,h5,h6,h7,h8⟩:=h
  have nu:∀q:Prop,(e.Up=false→q):=fun q g=>by rw [hu] at g;cases g
  unfold gR_
  split
  ·split
   ·exact ⟨h1,h2,h3,h4,wT_ _ _ _,h6,fun g=>absurd g hp,nu _⟩
   ·exact ⟨h1,h2,h3,h4,h5,yJ_ _ _ _,fun g=>absurd g hp,nu _⟩
  ·exact ⟨h1,h2,h3,h4,h5,h6,fun g=>absurd g hp,nu _⟩
theorem zi_ {e:am_} (p:ae_) (h:VEnd e):VEnd (eH_ e p).End:=by
  unfold eH_
  rw [if_pos h]
  split
  ·rename_i hc
   obtain ⟨g1,g2⟩:=uM_ h hc.1 hc.2.1
   refine CW_ g1 g2 ?_
   rw [iR_ h hc.2.1 hc.2.2.2]
   have:=hc.2.1.2.1;omega
  ·exact h
theorem Cs_ {e:am_} {t:ByteArray} (h:VEnd e) (hc:(go_ e t).Code=0):VEnd (go_ e t).End∧e.Up=true∧e.Peer≠0∧t.size≤200:=by
  unfold go_ at hc⊢
  rw [if_pos h] at hc⊢
  split at hc
  ·rename_i hu
   rw [if_pos hu]
   split at hc
   ·cases hc
   ·rename_i hp
    rw [if_neg hp]
    split at hc
    ·rename_i h0
     rw [if_pos h0]
     obtain ⟨h1,h2,h3,h4,h5,h6,h7,h8⟩:=h
     refine ⟨⟨h1,h2,h3,h4,w9_ _ _,h6,fun g=>absurd g hp,fun g=> ?_⟩,hu,hp, ?_⟩
     ·change e.Up=false at g;rw [hu] at g;cases g
     ·unfold md_ at h0
      split at h0
      ·rename_i hh;exact hh.2
      ·cases h0
    ·rename_i h0;exact absurd hc h0
  ·cases hc
theorem rY_ {e:am_} (h:VEnd e) (hc:(eh_ e).Code=0):VEnd (eh_ e).End∧e.Up=true∧e.Peer≠0∧(eh_ e).Text.size≤200:=by
  unfold eh_ at hc⊢
  rw [if_pos h] at hc⊢
  split at hc
  ·rename_i hu
   rw [if_pos hu]
   split at hc
   ·rename_i hr
    rw [if_pos hr]
    obtain ⟨h1,h2,h3,h4,h5,h6,h7,h8⟩:=h
    have hp:e.Peer≠0:=fun e0=>by
      have hz:=(h7 e0).2.2.2.2
      unfold cv_ at hr
      rw [if_pos h6] at hr
      split at hr
      ·cases hr
      ·rename_i s rs hrr;rw [hrr] at hz;cases hz
    refine ⟨⟨h1,h2,h3,h4,h5,(sG_ _).1,fun g=>absurd g hp,fun g=> ?_⟩,hu,hp,(sG_ _).2⟩
    change e.Up=false at g;rw [hu] at g;cases g
   ·cases hc
  ·cases hc
theorem on_ {e:am_} (h:VEnd e):(a2_ e).End.Number=e.Number:=by
  unfold a2_;rw [if_pos h];split
  ·split<;>rfl
  ·rfl
theorem tI_ {e:am_} (p:ae_) (h:VEnd e):(eH_ e p).End.Number=e.Number:=by
  unfold eH_;rw [if_pos h];split
  ·unfold gR_ j2_;repeat' split
   all_goals rfl
  ·rfl
theorem z7_ {e:am_} {t:ByteArray} (h:VEnd e) (hc:(go_ e t).Code=0):(go_ e t).End.Number=e.Number:=by
  unfold go_ at hc⊢
  rw [if_pos h] at hc⊢
  split at hc
  ·rename_i hu;rw [if_pos hu]
   split at hc
   ·cases hc
   ·rename_i hp;rw [if_neg hp]
    split at hc
    ·rename_i h0;rw [if_pos h0]
    ·rename_i h0;exact absurd hc h0
  ·cases hc
theorem y2_ {e:am_} (h:VEnd e) (hc:(eh_ e).Code=0):(eh_ e).End.Number=e.Number:=by
  unfold eh_ at hc⊢
  rw [if_pos h] at hc⊢
  split at hc
  ·rename_i hu;rw [if_pos hu]
   split at hc
   ·rename_i hr;rw [if_pos hr]
   ·cases hc
  ·cases hc
theorem yA_ {e:am_} (h:VEnd e):(lZ_ e).Number=e.Number:=by unfold lZ_;rw [if_pos h]
theorem yG_ {e:am_} (h:VEnd e):(jp_ e).Number=e.Number:=by unfold jp_;rw [if_pos h];repeat' split<;>try rfl
theorem hR_ {e:am_} (h:VEnd e):(a2_ e).Out.length≤61:=by
  have h2:=(sP_ e h).2
  unfold a2_;rw [if_pos h];split
  ·split
   ·simp;omega
   ·simp;omega
  ·simp
def sW_ (b:ByteArray) (wd to:Int) (p:ae_):ad_:=⟨to,dm_ p b wd,dm_ p b wd⟩
def wc_ (b:ByteArray) (wd to:Int) (out:List ae_) (fl:List ad_):List ad_:=fl++(out.map (sW_ b wd to)).take (1000-fl.length)
def af_ (n:Int) (l:List am_):am_:=match l with | [e,f]=>if n=1 then e else f | _=>mg_
def c4_ (n:Int) (x:am_) (l:List am_):List am_:=match l with | [e,f]=>if n=1 then [x,f] else [e,x] | l=>l
def aG_ (w:ab_):ab_:=
  ⟨w.Key,w.Width,[(a2_ (af_ 1 w.Ends)).End,(a2_ (af_ 2 w.Ends)).End],wc_ w.Key w.Width 1 (a2_ (af_ 2 w.Ends)).Out (wc_ w.Key w.Width 2 (a2_ (af_ 1 w.Ends)).Out w.Flight),w.Forged,w.Given,w.Taken⟩
def aU_ (w:ab_) (p:ad_):ab_:=
  if (hX_ p.Bytes w.Key w.Width).2=true then
   ⟨w.Key,w.Width,c4_ p.To (eH_ (af_ p.To w.Ends) (hX_ p.Bytes w.Key w.Width).1).End w.Ends,w.Flight,if¬p.Bytes=p.Sent∧w.Forged=noB then p.Bytes else w.Forged,w.Given,w.Taken⟩
  else w
def dK_ (w:ab_) (n:Int):ab_:=
  if w.Given.length+w.Taken.length<400∧(eh_ (af_ n w.Ends)).Code=0 then
   ⟨w.Key,w.Width,c4_ n (eh_ (af_ n w.Ends)).End w.Ends,w.Flight,w.Forged,w.Given,w.Taken++[⟨3-n,(af_ n w.Ends).Peer,(af_ n w.Ends).Life,(eh_ (af_ n w.Ends)).Text⟩]⟩
  else w
def mr_ (w:ab_) (n:Int) (t:ByteArray):ab_:=
  if w.Given.length+w.Taken.length<400∧(go_ (af_ n w.Ends) t).Code=0 then
   ⟨w.Key,w.Width,c4_ n (go_ (af_ n w.Ends) t).End w.Ends,w.Flight,w.Forged,w.Given++[⟨n,(af_ n w.Ends).Life,(af_ n w.Ends).Peer,t⟩],w.Taken⟩
  else w
def bg_ (w:ab_) (fl:List ad_):ab_:=⟨w.Key,w.Width,w.Ends,fl,w.Forged,w.Given,w.Taken⟩
def rO_ (w:ab_) (n:Int) (x:am_):ab_:=⟨w.Key,w.Width,c4_ n x w.Ends,w.Flight,w.Forged,w.Given,w.Taken⟩
def AQ_ (s:ByteArray) (b c:Int):ByteArray:=iP_ ((b1_ s).set b.toNat (je_ .u8 ((b1_ s).getD b.toNat 0) (IntKind.wrap .u8 (c%256))))
def iy_ (w:ab_) (v:aS_) (p:ad_):ab_:=
  if v.Kind=2 then aU_ (bg_ w (w.Flight.eraseIdx v.A.toNat)) p
  else if v.Kind=3 then (if w.Flight.length<1000 then bg_ w (w.Flight++[p]) else w)
  else if v.Kind=4 then bg_ w (w.Flight.eraseIdx v.A.toNat)
  else if v.Kind=5 then (if (0≤v.B∧v.B<p.Bytes.size)∧0≤v.C then bg_ w (w.Flight.set v.A.toNat ⟨p.To,p.Sent,AQ_ p.Bytes v.B v.C⟩) else w)
  else if v.Kind=6 then (if 0≤v.B∧v.B≤p.Bytes.size then bg_ w (w.Flight.set v.A.toNat ⟨p.To,p.Sent,p.Bytes.extract 0 v.B.toNat⟩) else w)
  else bg_ w (w.Flight.set v.A.toNat ⟨3-p.To,p.Sent,p.Bytes⟩)
def j3_ (w:ab_) (v:aS_):ab_:=
  if v.Kind=8 then rO_ w v.A (lZ_ (af_ v.A w.Ends))
  else if v.Kind=9 then rO_ w v.A (jp_ (af_ v.A w.Ends))
  else if v.Kind=10 then mr_ w v.A v.Text
  else dK_ w v.A
def doW (w:ab_) (v:aS_):ab_:=
  if v.Kind=1 then aG_ w
  else if 2≤v.Kind∧v.Kind≤7 then (if 0≤v.A then (match w.Flight[v.A.toNat]? with | some p=>iy_ w v p | none=>w) else w)
  else if (8≤v.Kind∧v.Kind≤11)∧(1≤v.A∧v.A≤2) then j3_ w v
  else w
def vM_:ab_:=⟨noB,0,[],[],noB,[],[]⟩
def doM (w:ab_) (v:aS_):ab_:=if au_ w then doW w v else vM_
theorem dG_:∀{l:List am_},iL_ l→∃e f,l=[e,f]∧VEnd e∧e.Number=1∧VEnd f∧f.Number=2
  | [a,b],h=>⟨a,b,rfl,h.1.1,h.1.2,h.2.1,h.2.2⟩
theorem nQ_ {e f:am_} (h1:VEnd e) (h2:e.Number=1) (h3:VEnd f) (h4:f.Number=2):iL_ [e,f]:=⟨⟨h1,h2⟩,⟨h3,h4⟩⟩
theorem a7_ {l:List am_} (h:iL_ l) {n:Int} (hn:1≤n∧n≤2):VEnd (af_ n l)∧(af_ n l).Number=n:=by
  obtain ⟨e,f,rfl,h1,h2,h3,h4⟩:=dG_ h
  unfold af_
  dsimp only
  split
  ·rename_i hh;exact ⟨h1,by omega⟩
  ·exact ⟨h3,by omega⟩
theorem p8_ {l:List am_} (h:iL_ l) {n:Int} (hn:1≤n∧n≤2) {x:am_} (hx:VEnd x) (hx':x.Number=n):iL_ (c4_ n x l):=by
  obtain ⟨e,f,rfl,h1,h2,h3,h4⟩:=dG_ h
  unfold c4_
  dsimp only
  split
  ·rename_i hh;exact nQ_ hx (by omega) h3 h4
  ·exact nQ_ h1 h2 hx (by omega)
theorem n3_ {b:ByteArray} {wd to:Int} {out:List ae_} {fl:List ad_} (h:fl.length≤1000):(wc_ b wd to out fl).length≤1000:=by
  unfold wc_;simp;omega
theorem BK_ {b:ByteArray} {wd to:Int} {out:List ae_} {fl:List ad_} (h:hK_ fl) (ht:1≤to∧to≤2):hK_ (wc_ b wd to out fl):=fun p hp=>by
  unfold wc_ at hp
  simp only [List.mem_append] at hp
  rcases hp with hp | hp
  ·exact h p hp
  ·have:=List.mem_of_mem_take hp
   simp only [List.mem_map] at this
   obtain ⟨q,_,rfl⟩:=this
   have:=x2_ q b wd
   exact ⟨ht,by show (dm_ q b wd).size≤100;omega,by show (dm_ q b wd).size≤100;omega⟩
theorem hH_ {w:ab_} (h:au_ w):au_ (aG_ w):=by
  obtain ⟨h1,h2,h3,h4,h5,h6,h7,h8⟩:=h
  obtain ⟨e1,e2⟩:=a7_ h5 (n:=1) (by omega)
  obtain ⟨f1,f2⟩:=a7_ h5 (n:=2) (by omega)
  exact ⟨h1,h2,n3_ (n3_ h3),h4,nQ_ (so_ e1) ((on_ e1).trans e2) (so_ f1) ((on_ f1).trans f2),BK_ (BK_ h6 (by omega)) (by omega),h7,h8⟩
theorem jM_ {w:ab_} (h:au_ w) {p:ad_} (hp:1≤p.To∧p.To≤2):au_ (aU_ w p):=by
  unfold aU_
  split
  ·obtain ⟨h1,h2,h3,h4,h5,h6,h7,h8⟩:=h
   obtain ⟨e1,e2⟩:=a7_ h5 hp
   exact ⟨h1,h2,h3,h4,p8_ h5 hp (zi_ _ e1) ((tI_ _ e1).trans e2),h6,h7,h8⟩
  ·exact h
theorem qZ_ {l:List aa_} {r:aa_} (h:fG_ l) (hr:C4_ r):fG_ (l++[r]):=fun x hx=>by
  simp only [List.mem_append,List.mem_singleton] at hx
  rcases hx with hx | rfl
  ·exact h x hx
  ·exact hr
theorem kQ_ {w:ab_} (h:au_ w) {n:Int} (hn:1≤n∧n≤2):au_ (dK_ w n):=by
  unfold dK_
  split
  ·rename_i hc
   obtain ⟨h1,h2,h3,h4,h5,h6,h7,h8⟩:=h
   obtain ⟨e1,e2⟩:=a7_ h5 hn
   obtain ⟨g1,g2,g3,g4⟩:=rY_ e1 hc.2
   have hp:=e1.2.2.1
   exact ⟨h1,h2,h3,by simp only [List.length_append,List.length_singleton];omega,p8_ h5 hn g1 ((y2_ e1 hc.2).trans e2),h6,h7,qZ_ h8 ⟨by simp only;omega,by simp only;omega,e1.2.1,g4⟩⟩
  ·exact h
theorem Cr_ {w:ab_} (h:au_ w) {n:Int} (hn:1≤n∧n≤2) (t:ByteArray):au_ (mr_ w n t):=by
  unfold mr_
  split
  ·rename_i hc
   obtain ⟨h1,h2,h3,h4,h5,h6,h7,h8⟩:=h
   obtain ⟨e1,e2⟩:=a7_ h5 hn
   obtain ⟨g1,g2,g3,g4⟩:=Cs_ e1 hc.2
   have hp:=e1.2.2.1
   exact ⟨h1,h2,h3,by simp only [List.length_append,List.length_singleton];omega,p8_ h5 hn g1 ((z7_ e1 hc.2).trans e2),h6,qZ_ h7 ⟨by simp only;omega,e1.2.1,by simp only;omega,g4⟩,h8⟩
  ·exact h
theorem vt_ {w:ab_} (h:au_ w) {n:Int} (hn:1≤n∧n≤2) {x:am_} (hx:VEnd x) (hx':x.Number=n):au_ (rO_ w n x):=by
  obtain ⟨h1,h2,h3,h4,h5,h6,h7,h8⟩:=h
  exact ⟨h1,h2,h3,h4,p8_ h5 hn hx hx',h6,h7,h8⟩
theorem g2_ {w:ab_} (h:au_ w) {fl:List ad_} (h1:fl.length≤1000) (h2:hK_ fl):au_ (bg_ w fl):=by
  obtain ⟨g1,g2,g3,g4,g5,g6,g7,g8⟩:=h
  exact ⟨g1,g2,h1,g4,g5,h2,g7,g8⟩
theorem st_ {l:List ad_} (h:hK_ l) (i:Nat):hK_ (l.eraseIdx i):=fun p hp=>h p (List.mem_of_mem_eraseIdx hp)
theorem BY_ {l:List ad_} (h:hK_ l) (i:Nat) {q:ad_} (hq:uR_ q):hK_ (l.set i q):=fun p hp=>by
  rcases List.mem_or_eq_of_mem_set hp with h' | h'
  ·exact h p h'
  ·rw [h'];exact hq
theorem yf_ (s:ByteArray) (b c:Int):(AQ_ s b c).size=s.size:=by
  unfold AQ_;rw [hN_,List.length_set];unfold b1_;simp
theorem Bm_ {w:ab_} (h:au_ w) (v:aS_):au_ (doW w v):=by
  unfold doW
  split
  ·exact hH_ h
  ·split
   ·split
    ·split
     ·rename_i p hp
      have hv:uR_ p:=h.2.2.2.2.2.1 p (List.mem_of_getElem? hp)
      have h6:=h.2.2.2.2.2.1
      have h3:=h.2.2.1
      have hel:(w.Flight.eraseIdx v.A.toNat).length≤1000:=by have:=List.length_eraseIdx_le w.Flight v.A.toNat;omega
      unfold iy_
      split
      ·exact jM_ (g2_ h hel (st_ h6 _)) hv.1
      ·split
       ·split
        ·refine g2_ h (by simp;omega) (fun q hq=> ?_)
         simp only [List.mem_append,List.mem_singleton] at hq
         rcases hq with hq | rfl
         ·exact h6 q hq
         ·exact hv
        ·exact h
       ·split
        ·exact g2_ h hel (st_ h6 _)
        ·split
         ·split
          ·exact g2_ h (by simp;omega) (BY_ h6 _ ⟨hv.1,hv.2.1,by show (AQ_ p.Bytes v.B v.C).size≤100;rw [yf_];exact hv.2.2⟩)
          ·exact h
         ·split
          ·split
           ·exact g2_ h (by simp;omega) (BY_ h6 _ ⟨hv.1,hv.2.1,by
              show (p.Bytes.extract 0 v.B.toNat).size≤100
              have:=hv.2.2
              rw [fB_];omega⟩)
           ·exact h
          ·have hvt:=hv.1
           exact g2_ h (by simp;omega) (BY_ h6 _ ⟨by show 1≤3-p.To∧3-p.To≤2;omega,hv.2.1,hv.2.2⟩)
     ·exact h
    ·exact h
   ·split
    ·rename_i hc
     have hn:=hc.2
     obtain ⟨e1,e2⟩:=a7_ h.2.2.2.2.1 hn
     unfold j3_
     split
     ·exact vt_ h hn (Ca_ _ e1) ((yA_ e1).trans e2)
     ·split
      ·exact vt_ h hn (CP_ _ e1) ((yG_ e1).trans e2)
      ·split
       ·exact Cr_ h hn _
       ·exact kQ_ h hn
    ·exact h
end Km.X
namespace Km.X
open Go Km
set_option linter.unusedVariables false
set_option linter.unusedSimpArgs false
theorem id_ {l:List am_} (h:iL_ l) {n:Int} (hn:1≤n∧n≤2):idx l (IntKind.wrap .i64 (n-1))=some (af_ n l)∧l[Int.toNat (IntKind.wrap .i64 (n-1))]? =some (af_ n l)∧∀x,l.set (Int.toNat (IntKind.wrap .i64 (n-1))) x=c4_ n x l:=by
  obtain ⟨e,f,rfl,_⟩:=dG_ h
  rw [aW_ (by omega) (by omega)]
  have hc:n=1∨n=2:=by omega
  rcases hc with rfl | rfl
  ·exact ⟨rfl,rfl,fun _=>rfl⟩
  ·exact ⟨rfl,rfl,fun _=>rfl⟩
theorem w1_ (b:ByteArray) (wd to:Int) (p:ae_) (t:List ae_) (fl:List ad_) (h:fl.length<1000):fl++((p::t).map (sW_ b wd to)).take (1000-fl.length)=(fl++[sW_ b wd to p])++(t.map (sW_ b wd to)).take (1000-(fl++[sW_ b wd to p]).length):=by
  rw [List.map_cons,show 1000-fl.length=(1000-(fl.length+1))+1 by omega,List.take_succ_cons]
  simp
theorem wz_ (b:ByteArray) (wd to:Int) (t:List ae_) (fl:List ad_) (h:¬fl.length<1000):fl++(t.map (sW_ b wd to)).take (1000-fl.length)=fl:=by
  rw [show 1000-fl.length=0 by omega];simp
theorem CF_ (K Fo:ByteArray) (W:Int) (Gi Ta:List aa_) (Es:List am_) (i n i':Int) (hi:0≤i∧i≤1) {Q:ab_→Prop}:∀(t pre:List ae_) (fl:List ad_),(pre++t).length≤1000→fl.length≤1000→
    Wp (fun k=>bn_ k n (IntKind.wrap .i64 (i'+1)) K W Fo Es (fl++(t.map (sW_ K W (2-i))).take (1000-fl.length)) Gi Ta) Q→
    Wp (fun k=>b9_ k i n i' ((pre++t).length:Int) (pre.length:Int) K W Fo (pre++t) Es fl Gi Ta) Q
  | [],pre,fl,hl,hf,h=>by
    refine Wp.step ?_
    simp only [b9_,List.append_nil]
    simp (disch:=omega) only [al_,if_neg]
    simpa using h
  | p::t,pre,fl,hl,hf,h=>by
    refine Wp.step ?_
    have hl':=hl
    simp only [List.length_append,List.length_cons] at hl
    simp only [b9_]
    simp only [al_,dd_,if_true,aT_,fW_,Option.bind_some]
    have ih:=fun (fl2:List ad_) (h2:fl2.length≤1000) (hh:Wp (fun k=>bn_ k n (IntKind.wrap .i64 (i'+1)) K W Fo Es (fl2++(t.map (sW_ K W (2-i))).take (1000-fl2.length)) Gi Ta) Q)=>CF_ K Fo W Gi Ta Es i n i' hi t (pre++[p]) fl2 (by simpa using hl') h2 hh
    simp only [←a6_,←br_] at ih
    refine Wp.ite (fun hc=> ?_) (fun hc=> ?_)
    ·refine Wp.bind (po_ p K W) (fun _ q=> ?_);subst q
     rw [aW_ (n:=2-i) (by omega) (by omega)]
     refine Wp.opt (aV_ (by simp;omega)) ?_
     refine Wp.step ?_
     simp only [cA_]
     rw [aW_ (n:=(pre.length:Int)+1) (by omega) (by omega)]
     refine ih (fl++[sW_ K W (2-i) p]) (by simp;omega) ?_
     rw [←w1_ K W (2-i) p t fl (by omega)];exact h
    ·refine Wp.step ?_
     simp only [cA_]
     rw [aW_ (n:=(pre.length:Int)+1) (by omega) (by omega)]
     refine ih fl hf ?_
     rw [wz_ _ _ _ _ _ (by omega)] at h⊢;exact h
theorem ng_ (w:ab_) (h:au_ w):Wp (fun k=>eb_ k w) (· =aG_ w):=by
  obtain ⟨K,W,Es,Fl,Fo,Gi,Ta⟩:=w
  obtain ⟨h1,h2,h3,h4,h5,h6,h7,h8⟩:=h
  obtain ⟨e,f,he,e1,e2,f1,f2⟩:=dG_ h5
  dsimp only at he;subst he
  have he1:=hR_ e1
  have hf1:=hR_ f1
  unfold eb_
  have len2:(([e,f]:List am_).length:Int)=2:=rfl
  have len2':∀x:am_,(([x,f]:List am_).length:Int)=2:=fun _=>rfl
  dsimp only
  rw [len2]
  refine Wp.step ?_
  simp only [bn_]
  have i0:∀x y:am_,idx [x,y] 0=some x:=fun _ _=>rfl
  have g0:∀x y:am_,[x,y][Int.toNat 0]? =some x:=fun _ _=>rfl
  have s0:∀x y z:am_,[x,y].set (Int.toNat 0) z=[z,y]:=fun _ _ _=>rfl
  have i1:∀x y:am_,idx [x,y] 1=some y:=fun _ _=>rfl
  have g1:∀x y:am_,[x,y][Int.toNat 1]? =some y:=fun _ _=>rfl
  have s1:∀x y z:am_,[x,y].set (Int.toNat 1) z=[x,z]:=fun _ _ _=>rfl
  simp (disch:=omega) only [al_,if_pos,i0,g0,Option.bind_some]
  refine Wp.bind (mI_ e) (fun _ q=> ?_);subst q
  rw [s0]
  refine CF_ K Fo W Gi Ta _ 0 2 0 (by omega) (a2_ e).Out [] Fl (by simp;omega) h3 ?_
  rw [aW_ (n:=(0:Int)+1) (by omega) (by omega)]
  refine Wp.step ?_
  simp only [bn_]
  simp (disch:=omega) only [al_,if_pos,Int.zero_add,i1,g1,Option.bind_some]
  refine Wp.bind (mI_ f) (fun _ q=> ?_);subst q
  rw [s1]
  have hpl:=n3_ (b:=K) (wd:=W) (to:=2) (out:=(a2_ e).Out) (show Fl.length≤1000 from h3)
  refine CF_ K Fo W Gi Ta _ 1 2 1 (by omega) (a2_ f).Out [] (wc_ K W 2 (a2_ e).Out Fl) (by simp;omega) hpl ?_
  rw [aW_ (n:=(1:Int)+1) (by omega) (by omega)]
  refine Wp.step ?_
  simp only [bn_]
  simp (disch:=omega) only [al_,if_neg]
  exact Wp.ret rfl
theorem yB_ (K Fo k1 k2 k3 Op Tx:ByteArray) (W z:Int) (c n:Int) (u:Bool) (li p s:Int) (o:Bool) (b nx:Int) (Gi Ta:List aa_) (Es E2:List am_) (F2:List ad_) (G2 T2:List aa_) (i:Int) (hi:0≤i∧i≤1) {Q:ab_→Prop}:∀(t pre:List ae_) (fl:List ad_),(pre++t).length≤1000→fl.length≤1000→
    Wp (fun k=>bU_ k (IntKind.wrap .i64 (i+1)) K W Fo k1 z k2 Es (fl++(t.map (sW_ K W (2-i))).take (1000-fl.length)) Gi Ta E2 F2 G2 T2) Q→
    Wp (fun k=>dU_ k i (pre.length:Int) K W Fo k1 z k2 c n u li p s o b nx Op Tx Es fl Gi Ta E2 F2 G2 T2 (pre++t)) Q
  | [],pre,fl,hl,hf,h=>by
    refine Wp.step ?_
    simp only [dU_,List.append_nil]
    simp (disch:=omega) only [al_,if_neg]
    simpa using h
  | q::t,pre,fl,hl,hf,h=>by
    refine Wp.step ?_
    have hl':=hl
    simp only [List.length_append,List.length_cons] at hl
    simp only [dU_]
    simp only [al_,dd_,if_true,aT_,fW_,Option.bind_some]
    have ih:=fun (fl2:List ad_) (h2:fl2.length≤1000) (hh:Wp (fun k=>bU_ k (IntKind.wrap .i64 (i+1)) K W Fo k1 z k2 Es (fl2++(t.map (sW_ K W (2-i))).take (1000-fl2.length)) Gi Ta E2 F2 G2 T2) Q)=>yB_ K Fo k1 k2 k3 Op Tx W z c n u li p s o b nx Gi Ta Es E2 F2 G2 T2 i hi t (pre++[q]) fl2 (by simpa using hl') h2 hh
    simp only [←a6_,←br_] at ih
    refine Wp.ite (fun hc=> ?_) (fun hc=> ?_)
    ·refine Wp.bind (ou_ q K W) (fun _ e=> ?_);subst e
     rw [aW_ (n:=2-i) (by omega) (by omega)]
     refine Wp.opt (aV_ (by simp;omega)) ?_
     rw [aW_ (n:=(pre.length:Int)+1) (by omega) (by omega)]
     refine ih (fl++[sW_ K W (2-i) q]) (by simp;omega) ?_
     rw [←w1_ K W (2-i) q t fl (by omega)];exact h
    ·rw [wz_ _ _ _ _ _ (by omega)] at h;exact h
theorem jc_ (w:ab_) (h:au_ w):Wp (fun k=>fX_ k w) (· =aG_ w):=by
  obtain ⟨K,W,Es,Fl,Fo,Gi,Ta⟩:=w
  obtain ⟨h1,h2,h3,h4,h5,h6,h7,h8⟩:=h
  obtain ⟨e,f,he,e1,e2,f1,f2⟩:=dG_ h5
  dsimp only at he;subst he
  have he1:=hR_ e1
  have hf1:=hR_ f1
  unfold fX_
  dsimp only
  refine Wp.step ?_
  simp only [bU_]
  have i0:∀x y:am_,idx [x,y] 0=some x:=fun _ _=>rfl
  have g0:∀x y:am_,[x,y][Int.toNat 0]? =some x:=fun _ _=>rfl
  have s0:∀x y z:am_,[x,y].set (Int.toNat 0) z=[z,y]:=fun _ _ _=>rfl
  have i1:∀x y:am_,idx [x,y] 1=some y:=fun _ _=>rfl
  have g1:∀x y:am_,[x,y][Int.toNat 1]? =some y:=fun _ _=>rfl
  have s1:∀x y z:am_,[x,y].set (Int.toNat 1) z=[x,z]:=fun _ _ _=>rfl
  simp (disch:=omega) only [al_,if_pos,i0,g0,Option.bind_some]
  refine Wp.bind (mH_ e) (fun _ q=> ?_);subst q
  rw [s0]
  refine yB_ K Fo _ _ noB _ _ W _ _ _ _ _ _ _ _ _ _ Gi Ta _ _ _ _ _ 0 (by omega) (a2_ e).Out [] Fl (by simp;omega) h3 ?_
  rw [aW_ (n:=(0:Int)+1) (by omega) (by omega)]
  refine Wp.step ?_
  simp only [bU_]
  simp (disch:=omega) only [al_,if_pos,Int.zero_add,i1,g1,Option.bind_some]
  refine Wp.bind (mH_ f) (fun _ q=> ?_);subst q
  rw [s1]
  have hpl:=n3_ (b:=K) (wd:=W) (to:=2) (out:=(a2_ e).Out) (show Fl.length≤1000 from h3)
  refine yB_ K Fo _ _ noB _ _ W _ _ _ _ _ _ _ _ _ _ Gi Ta _ _ _ _ _ 1 (by omega) (a2_ f).Out [] (wc_ K W 2 (a2_ e).Out Fl) (by simp;omega) hpl ?_
  rw [aW_ (n:=(1:Int)+1) (by omega) (by omega)]
  refine Wp.step ?_
  simp only [bU_]
  simp (disch:=omega) only [al_,if_neg]
  exact Wp.ret rfl
theorem Cg_ (K Fo B Sn By:ByteArray) (W:Int) (p:ad_) (q:ae_) (Es:List am_) (Fl:List ad_) (Gi Ta:List aa_) (h5:iL_ Es) (hp:1≤p.To∧p.To≤2):Wp (fun k=>bJ_ k K W Fo p.To p.Sent p.Bytes q.Kind q.From q.Mine q.Yours q.Next q.Mask q.Seq q.Last q.Part Es Fl Gi Ta) (· =⟨K,W,c4_ p.To (eH_ (af_ p.To Es) q).End Es,Fl,Fo,Gi,Ta⟩):=by
  refine Wp.step ?_
  simp only [bJ_]
  obtain ⟨a1,a2,a3⟩:=id_ h5 hp
  simp only [a1,a2,a3,Option.bind_some]
  refine Wp.bind (s5_ _ _) (fun _ e=> ?_);subst e
  exact Wp.ret rfl
theorem lz_ (w:ab_) (h:au_ w) (p:ad_) (hp:1≤p.To∧p.To≤2) (hs:p.Bytes.size≤100):Wp (fun k=>cJ_ k w p) (· =aU_ w p):=by
  obtain ⟨K,W,Es,Fl,Fo,Gi,Ta⟩:=w
  have h5:=h.2.2.2.2.1
  unfold cJ_ aU_
  refine Wp.bind (vw_ p.Bytes K W (by omega)) (fun _ e=> ?_);subst e
  dsimp only
  simp only [bk_]
  refine Wp.bif (fun hr=> ?_) (fun hr=>Wp.ret (by rw [if_neg (by simp [hr])]))
  rw [if_pos hr]
  simp only [no_]
  refine Wp.ite (fun hb=> ?_) (fun hb=> ?_)
  ·refine (Cg_ K Fo noB noB noB W p _ Es Fl Gi Ta h5 hp).mono fun r hr=> ?_
   rw [hr,if_neg (by simp [hb])]
  ·refine Wp.ite (fun hf=> ?_) (fun hf=> ?_)
   ·refine (Cg_ K p.Bytes noB noB noB W p _ Es Fl Gi Ta h5 hp).mono fun r hr=> ?_
    rw [hr,if_pos ⟨hb,hf⟩]
   ·refine (Cg_ K Fo noB noB noB W p _ Es Fl Gi Ta h5 hp).mono fun r hr=> ?_
    rw [hr,if_neg (fun g=>hf g.2)]
theorem wL_ (l:List ad_) (i:Nat) (h:i<l.length):l.take i++l.drop (i+1)=l.eraseIdx i:=(List.eraseIdx_eq_take_drop_succ l i).symm
theorem t6_ {α:Type} (l:List α) (i:Nat):dX_ l 0 i=l.take i:=by simp [dX_]
theorem tp_ {α:Type} (l:List α) (i:Nat):dX_ l i l.length=l.drop i:=by simp [dX_]
theorem l1_ (l:List ad_) (i:Nat) (h:i<l.length) (hl:l.length≤1000):Wp (fun k=>dR_ k l (i:Int)) (· =l.eraseIdx i):=by
  unfold dR_
  refine Wp.opt (cy_ ⟨by omega,by omega,by omega⟩) ?_
  dsimp only
  rw [Int.toNat_natCast,show Int.toNat 0=0 from rfl,t6_]
  refine Wp.opt (aV_ (by simp;omega)) ?_
  rw [aW_ (by omega) (by omega)]
  refine Wp.opt (cy_ ⟨by omega,by omega,by omega⟩) ?_
  dsimp only
  rw [Int.toNat_natCast,show Int.toNat ((i:Int)+1)=i+1 by omega,tp_]
  refine Wp.opt (aV_ (by simp;omega)) ?_
  refine Wp.ret ?_
  rw [←wL_ l i h];simp
theorem CB_ (K Fo k1 k2:ByteArray) (W z:Int) (p:ad_) (q:ae_) (Es E2:List am_) (Fl F2:List ad_) (Gi Ta G2 T2:List aa_) (h5:iL_ Es) (hp:1≤p.To∧p.To≤2):Wp (fun k=>de_ k K W Fo k1 z k2 p.To p.Sent p.Bytes q.Kind q.From q.Mine q.Yours q.Next q.Mask q.Seq q.Last q.Part Es Fl Gi Ta E2 F2 G2 T2) (· =⟨K,W,c4_ p.To (eH_ (af_ p.To Es) q).End Es,Fl,Fo,Gi,Ta⟩):=by
  refine Wp.step ?_
  simp only [de_]
  obtain ⟨a1,a2,a3⟩:=id_ h5 hp
  simp only [a1,a2,a3,Option.bind_some]
  refine Wp.bind (tu_ _ _) (fun _ e=> ?_);subst e
  exact Wp.ret rfl
theorem ie_ (w:ab_) (h:au_ w) (i:Nat) {p:ad_} (hi:w.Flight[i]? =some p):Wp (fun k=>fd_ k w (i:Int)) (· =aU_ (bg_ w (w.Flight.eraseIdx i)) p):=by
  have hv:uR_ p:=h.2.2.2.2.2.1 p (List.mem_of_getElem? hi)
  have hlt:=(List.getElem?_eq_some_iff.mp hi).1
  obtain ⟨K,W,Es,Fl,Fo,Gi,Ta⟩:=w
  have h5:=h.2.2.2.2.1
  have h3:=h.2.2.1
  dsimp only at hi hlt h3 h5
  unfold fd_ aU_ bg_
  dsimp only
  have e1:idx Fl (i:Int)=some p:=by rw [e5_];exact hi
  have e2:Fl[Int.toNat (i:Int)]? =some p:=by rw [Int.toNat_natCast];exact hi
  simp only [e1,e2,Option.bind_some]
  refine Wp.bind (l1_ Fl i hlt h3) (fun _ e=> ?_);subst e
  refine Wp.bind (uY_ p.Bytes K W (by have:=hv.2.2;omega)) (fun _ e=> ?_);subst e
  simp only [bk_]
  refine Wp.bif (fun hr=> ?_) (fun hr=>Wp.ret (by rw [if_neg (by simp [hr])]))
  rw [if_pos hr]
  simp only [no_]
  refine Wp.ite (fun hb=> ?_) (fun hb=> ?_)
  ·refine (CB_ K Fo _ _ W _ p _ Es _ _ _ Gi Ta _ _ h5 hv.1).mono fun r hr=> ?_
   rw [hr,if_neg (by simp [hb])]
  ·refine Wp.ite (fun hf=> ?_) (fun hf=> ?_)
   ·refine (CB_ K p.Bytes _ _ W _ p _ Es _ _ _ Gi Ta _ _ h5 hv.1).mono fun r hr=> ?_
    rw [hr,if_pos ⟨hb,hf⟩]
   ·refine (CB_ K Fo _ _ W _ p _ Es _ _ _ Gi Ta _ _ h5 hv.1).mono fun r hr=> ?_
    rw [hr,if_neg (fun g=>hf g.2)]
theorem wH_ {a b:Nat} (h:a+b≤400):IntKind.wrap .i64 ((a:Int)+(b:Int))=((a+b:Nat):Int):=by rw [aW_ (by omega) (by omega)];omega
theorem ne_ (w:ab_) (h:au_ w) (n:Int) (hn:1≤n∧n≤2):Wp (fun k=>d9_ k w n) (· =dK_ w n):=by
  obtain ⟨K,W,Es,Fl,Fo,Gi,Ta⟩:=w
  have h5:=h.2.2.2.2.1
  have h4:=h.2.2.2.1
  dsimp only at h4 h5
  unfold d9_ ej_ dK_
  dsimp only
  simp only [Option.bind_some,wH_ h4,al_]
  refine Wp.ite (fun hc=>Wp.ret (by rw [if_neg (by omega)])) (fun hc=> ?_)
  obtain ⟨a1,a2,a3⟩:=id_ h5 hn
  simp only [a1,a2,a3,Option.bind_some]
  refine Wp.bind (tv_ _) (fun _ e=> ?_);subst e
  simp only [fk_]
  refine Wp.ite (fun h0=> ?_) (fun h0=>Wp.ret (by rw [if_neg (fun g=>h0 g.2)]))
  rw [aW_ (n:=3-n) (by omega) (by omega)]
  refine Wp.opt (aV_ (by simp;omega)) ?_
  exact Wp.ret (by rw [if_pos ⟨by omega,h0⟩])
end Km.X
namespace Km.X
open Go Km
set_option linter.unusedVariables false
theorem mJ_ (K Fo a c:ByteArray) (W b:Int) (Es:List am_) (Fl:List ad_) (Gi Ta:List aa_) (E2:List am_) (F2:List ad_) (G2 T2:List aa_):Wp (fun k=>bd_ k K W Fo a b c Es Fl Gi Ta E2 F2 G2 T2) (· =⟨K,W,Es,Fl,Fo,Gi,Ta⟩):=by
  refine Wp.step ?_
  simp only [bd_]
  exact Wp.ret rfl
theorem BQ_ (K Fo a c:ByteArray) (W b:Int) (Es:List am_) (Fl:List ad_) (Gi Ta:List aa_) (E2:List am_) (F2:List ad_) (G2 T2:List aa_):Wp (fun k=>db_ k K W Fo a b c Es Fl Gi Ta E2 F2 G2 T2) (· =⟨K,W,Es,Fl,Fo,Gi,Ta⟩):=by
  refine Wp.step ?_
  simp only [db_]
  exact Wp.ret rfl
theorem pq_ (K Fo a c:ByteArray) (W b:Int) (Es:List am_) (Fl:List ad_) (Gi Ta:List aa_) (E2:List am_) (F2:List ad_) (G2 T2:List aa_):Wp (fun k=>ar_ k a b c K W Fo E2 F2 G2 T2 Es Fl Gi Ta) (· =⟨K,W,Es,Fl,Fo,Gi,Ta⟩):=by
  refine Wp.step ?_
  simp only [ar_]
  exact Wp.ret rfl
theorem A9_ {α:Type} {l:List α} {i:Nat} {p:α} (h:l[i]? =some p):l.set i p=l:=by
  obtain ⟨h1,h2⟩:=List.getElem?_eq_some_iff.mp h
  subst h2;exact List.set_getElem_self h1
theorem rs_ (w:ab_) (h:au_ w) (v:aS_) (hk:8≤v.Kind∧v.Kind≤11) (hn:1≤v.A∧v.A≤2):Wp (fun k=>gM_ k w v) (· =j3_ w v):=by
  obtain ⟨K,W,Es,Fl,Fo,Gi,Ta⟩:=w
  have h5:=h.2.2.2.2.1
  have h4:=h.2.2.2.1
  dsimp only at h4 h5
  obtain ⟨a1,a2,a3⟩:=id_ h5 hn
  unfold gM_ j3_
  dsimp only
  simp only [a1,a2,a3,Option.bind_some,fk_]
  refine Wp.ite (fun e=> ?_) (fun e=> ?_)
  ·refine Wp.bind (ve_ _) (fun _ e'=> ?_);subst e'
   exact (mJ_ ..).mono fun r hr=>by rw [hr,if_pos e];rfl
  rw [if_neg e]
  refine Wp.ite (fun e=> ?_) (fun e=> ?_)
  ·refine Wp.bind (v8_ _) (fun _ e'=> ?_);subst e'
   exact (mJ_ ..).mono fun r hr=>by rw [hr,if_pos e];rfl
  rw [if_neg e]
  refine Wp.ite (fun e=> ?_) (fun e=> ?_)
  ·rw [if_pos e]
   refine Wp.bind (te_ _ _) (fun _ e'=> ?_);subst e'
   simp only [wH_ h4,al_]
   unfold mr_
   dsimp only
   refine Wp.ite (fun h0=> ?_) (fun h0=> ?_)
   ·refine Wp.ite (fun h1=> ?_) (fun h1=> ?_)
    ·refine Wp.opt (aV_ (by simp;omega)) ?_
     exact (mJ_ ..).mono fun r hr=>by rw [hr,if_pos ⟨by omega,h0⟩]
    ·exact (mJ_ ..).mono fun r hr=>by rw [hr,if_neg (fun g=>by omega)]
   ·exact (mJ_ ..).mono fun r hr=>by rw [hr,if_neg (fun g=>h0 g.2)]
  rw [if_neg e]
  refine Wp.ite (fun e=> ?_) (fun e=>by omega)
  refine Wp.bind (tA_ _) (fun _ e'=> ?_);subst e'
  simp only [wH_ h4,al_]
  unfold dK_
  dsimp only
  refine Wp.ite (fun h0=> ?_) (fun h0=> ?_)
  ·refine Wp.ite (fun h1=> ?_) (fun h1=> ?_)
   ·rw [aW_ (n:=3-v.A) (by omega) (by omega)]
    refine Wp.opt (aV_ (by simp;omega)) ?_
    exact (mJ_ ..).mono fun r hr=>by rw [hr,if_pos ⟨by omega,h0⟩]
   ·exact (mJ_ ..).mono fun r hr=>by rw [hr,if_neg (fun g=>by omega)]
  ·exact (mJ_ ..).mono fun r hr=>by rw [hr,if_neg (fun g=>h0 g.2)]
theorem mW_ (K Fo a c Tx:ByteArray) (W b Kd A B C To:Int) (Sn By:ByteArray) (Es:List am_) (Fl:List ad_) (Gi Ta:List aa_) (E2:List am_) (F2:List ad_) (G2 T2:List aa_) {p:ad_} (h1:idx Fl A=some p) (h2:Fl[Int.toNat A]? =some p):Wp (fun k=>aJ_ k K W Fo Kd A B C Tx a b c To Sn By Es Fl Gi Ta E2 F2 G2 T2) (· =⟨K,W,Es,Fl.set A.toNat ⟨To,Sn,By⟩,Fo,Gi,Ta⟩):=by
  refine Wp.step ?_
  simp only [aJ_,h1,h2,Option.bind_some]
  exact Wp.ret rfl
theorem wt_ {s:ByteArray} {b:Int} (h:0≤b∧b<s.size):idx (b1_ s) b=some ((b1_ s).getD b.toNat 0)∧(b1_ s)[b.toNat]? =some ((b1_ s).getD b.toNat 0):=by
  have hl:b.toNat<(b1_ s).length:=by
    have:(b1_ s).length=s.size:=by unfold b1_;rw [List.length_map,Array.length_toList];rfl
    omega
  have e:(b1_ s)[b.toNat]? =some ((b1_ s).getD b.toNat 0):=by rw [List.getD_eq_getElem?_getD,List.getElem?_eq_getElem hl];rfl
  refine ⟨?_,e⟩
  have:=e5_ (b1_ s) b.toNat
  rw [Int.toNat_of_nonneg h.1] at this
  rw [this,e]
theorem sF_ (w:ab_) (h:au_ w) (v:aS_) (hk:2≤v.Kind∧v.Kind≤7) (h0:0≤v.A) {p:ad_} (hp:w.Flight[v.A.toNat]? =some p):Wp (fun k=>gv_ k w v) (· =iy_ w v p):=by
  have hv:uR_ p:=h.2.2.2.2.2.1 p (List.mem_of_getElem? hp)
  have hlt:=(List.getElem?_eq_some_iff.mp hp).1
  have hb:=ie_ w h v.A.toNat hp
  have hwo:=l1_ w.Flight v.A.toNat hlt h.2.2.1
  have hix:idx w.Flight v.A=some p:=by have:=e5_ w.Flight v.A.toNat;rw [Int.toNat_of_nonneg h0] at this;rw [this,hp]
  rw [Int.toNat_of_nonneg h0] at hb hwo
  obtain ⟨K,W,Es,Fl,Fo,Gi,Ta⟩:=w
  have h3:=h.2.2.1
  dsimp only at hp hlt h3 hwo hix
  unfold gv_ iy_
  dsimp only
  simp only [hix,hp,Option.bind_some,fk_]
  refine Wp.ite (fun e=> ?_) (fun e=> ?_)
  ·refine Wp.bind hb (fun _ e'=> ?_);subst e'
   exact Wp.ret (by rw [if_pos e])
  rw [if_neg e]
  refine Wp.ite (fun e4=> ?_) (fun e4=> ?_)
  ·refine Wp.bind hwo (fun _ e'=> ?_);subst e'
   exact Wp.ret (by rw [if_neg (by omega),if_pos e4];rfl)
  refine Wp.ite (fun e=> ?_) (fun e=> ?_)
  ·rw [if_pos e]
   refine Wp.dec (fun hl=> ?_) (fun hl=> ?_)
   ·refine Wp.opt (aV_ (by simp;omega)) ?_
    exact (BQ_ ..).mono fun r hr=>by rw [hr,if_pos (by omega)];rfl
   ·exact (BQ_ ..).mono fun r hr=>by rw [hr,if_neg (by omega)]
  rw [if_neg e,if_neg e4]
  have same:Fl.set v.A.toNat ⟨p.To,p.Sent,p.Bytes⟩=Fl:=A9_ hp
  refine Wp.ite (fun e=> ?_) (fun e=> ?_)
  ·rw [if_pos e]
   refine Wp.dec (fun h1=> ?_) (fun h1=> ?_)
   ·refine Wp.dec (fun h2=> ?_) (fun h2=> ?_)
    ·refine Wp.dec (fun h3=> ?_) (fun h3=> ?_)
     ·obtain ⟨b1,b2⟩:=wt_ (s:=p.Bytes) (b:=v.B) ⟨h1,h2⟩
      simp only [b1,b2,Option.bind_some]
      refine Wp.opt (fP_ h3 (by omega)) ?_
      exact (mW_ (h1:=hix) (h2:=hp) ..).mono fun r hr=>by rw [hr,if_pos ⟨⟨h1,h2⟩,h3⟩];rfl
     ·exact (mW_ (h1:=hix) (h2:=hp) ..).mono fun r hr=>by rw [hr,if_neg (fun g=>h3 g.2),same]
    ·exact (mW_ (h1:=hix) (h2:=hp) ..).mono fun r hr=>by rw [hr,if_neg (fun g=>h2 g.1.2),same]
   ·exact (mW_ (h1:=hix) (h2:=hp) ..).mono fun r hr=>by rw [hr,if_neg (fun g=>h1 g.1.1),same]
  rw [if_neg e]
  refine Wp.ite (fun e=> ?_) (fun e=> ?_)
  ·rw [if_pos e]
   refine Wp.dec (fun h1=> ?_) (fun h1=> ?_)
   ·refine Wp.dec (fun h2=> ?_) (fun h2=> ?_)
    ·refine Wp.opt (cy_ ⟨by omega,h1,h2⟩) ?_
     exact (mW_ (h1:=hix) (h2:=hp) ..).mono fun r hr=>by rw [hr,if_pos ⟨h1,h2⟩];rfl
    ·exact (mW_ (h1:=hix) (h2:=hp) ..).mono fun r hr=>by rw [hr,if_neg (fun g=>h2 g.2),same]
   ·exact (mW_ (h1:=hix) (h2:=hp) ..).mono fun r hr=>by rw [hr,if_neg (fun g=>h1 g.1),same]
  rw [if_neg e]
  refine Wp.ite (fun e=> ?_) (fun e=>by omega)
  have:=hv.1
  exact (mW_ (h1:=hix) (h2:=hp) ..).mono fun r hr=>by rw [hr,aW_ (n:=3-p.To) (by omega) (by omega)];rfl
theorem l2_ {w:ab_} {v:aS_} {p:ad_} (hk:2≤v.Kind∧v.Kind≤7) (h0:0≤v.A) (hp:w.Flight[v.A.toNat]? =some p):doW w v=iy_ w v p:=by
  unfold doW;rw [if_neg (by omega),if_pos hk,if_pos h0,hp]
theorem kA_ {w:ab_} {v:aS_} (hk:2≤v.Kind∧v.Kind≤7) (h0:¬(0≤v.A∧v.A<w.Flight.length)):doW w v=w:=by
  unfold doW;rw [if_neg (by omega),if_pos hk]
  split
  ·rename_i h;rw [List.getElem?_eq_none (by omega)]
  ·rfl
theorem sv_ {w:ab_} {v:aS_} (hk:8≤v.Kind∧v.Kind≤11) (h0:1≤v.A∧v.A≤2):doW w v=j3_ w v:=by
  unfold doW;rw [if_neg (by omega),if_neg (by omega),if_pos ⟨hk,h0⟩]
theorem n4_ {w:ab_} {v:aS_} (hk:¬(1≤v.Kind∧v.Kind≤11)∨(8≤v.Kind∧¬(1≤v.A∧v.A≤2))):doW w v=w:=by
  unfold doW;rw [if_neg (by omega),if_neg (by omega),if_neg (by omega)]
theorem mh_ (w:ab_) (h:au_ w) (v:aS_):Wp (fun k=>hU_ k w v) (· =doW w v):=by
  have h3:=h.2.2.1
  unfold hU_
  simp only [fk_]
  refine Wp.ite (fun e=> ?_) (fun e=> ?_)
  ·refine Wp.bind (jc_ w h) (fun _ e'=> ?_);subst e'
   exact Wp.ret (by unfold doW;rw [if_pos e])
  refine Wp.bind (bN_ _ _ _) (fun _ e'=> ?_);subst e'
  refine Wp.bif (fun hb=> ?_) (fun hb=> ?_)
  ·simp only [Bool.and_eq_true,decide_eq_true_eq] at hb
   refine Wp.bind (bN_ _ _ _) (fun _ e'=> ?_);subst e'
   rw [aW_ (n:=(w.Flight.length:Int)-1) (by omega) (by omega)]
   refine Wp.bif (fun ha=> ?_) (fun ha=> ?_)
   ·simp only [Bool.and_eq_true,decide_eq_true_eq] at ha
    have hg:w.Flight[v.A.toNat]? =some (w.Flight[v.A.toNat]'(by omega)):=List.getElem?_eq_getElem (by omega)
    refine Wp.bind (sF_ w h v hb ha.1 hg) (fun _ e'=> ?_);subst e'
    exact Wp.ret (l2_ hb ha.1 hg).symm
   ·simp only [Bool.and_eq_false_iff,decide_eq_false_iff_not] at ha
    refine Wp.bind (bN_ _ _ _) (fun _ e'=> ?_);subst e'
    refine Wp.bif (fun h8=> ?_) (fun h8=>Wp.ret (kA_ hb (by omega)).symm)
    simp only [Bool.and_eq_true,decide_eq_true_eq] at h8
    omega
  ·simp only [Bool.and_eq_false_iff,decide_eq_false_iff_not] at hb
   refine Wp.bind (bN_ _ _ _) (fun _ e'=> ?_);subst e'
   refine Wp.bif (fun h8=> ?_) (fun h8=> ?_)
   ·simp only [Bool.and_eq_true,decide_eq_true_eq] at h8
    refine Wp.bind (bN_ _ _ _) (fun _ e'=> ?_);subst e'
    refine Wp.bif (fun ha=> ?_) (fun ha=> ?_)
    ·simp only [Bool.and_eq_true,decide_eq_true_eq] at ha
     refine Wp.bind (rs_ w h v h8 ha) (fun _ e'=> ?_);subst e'
     exact Wp.ret (sv_ h8 ha).symm
    ·simp only [Bool.and_eq_false_iff,decide_eq_false_iff_not] at ha
     exact Wp.ret (n4_ (.inr ⟨h8.1,by omega⟩)).symm
   ·simp only [Bool.and_eq_false_iff,decide_eq_false_iff_not] at h8
    exact Wp.ret (n4_ (.inl (by omega))).symm
theorem us_ (K Fo K' Fo' a c:ByteArray) (W W' b:Int) (Fl Fl':List ad_) (Gi Ta Gi' Ta':List aa_) (E2:List am_) (F2:List ad_) (G2 T2:List aa_) (hf:Fl.length≤1000) (hg:Gi.length≤1000) (ht:Ta.length≤1000):∀(t pre:List am_),(pre++t).length≤1000→(∀e∈t,VEnd e)→
    Wp (fun k=>dW_ k (pre.length:Int) K W (pre++t) Fl Fo Gi Ta a b c K' W' Fl' Fo' Gi' Ta' E2 F2 G2 T2 pre) (· =⟨K',W',pre++t,Fl,Fo',Gi,Ta⟩)
  | [],pre,hl,hv=>by
    refine Wp.step ?_
    simp only [dW_]
    simp only [List.append_nil] at hl⊢
    simp (disch:=omega) only [al_,if_neg]
    refine Wp.opt (aV_ (by simp;omega)) ?_
    refine Wp.opt (aV_ (by simp;omega)) ?_
    refine Wp.opt (aV_ (by simp;omega)) ?_
    exact Wp.ret (by simp)
  | e::t,pre,hl,hv=>by
    refine Wp.step ?_
    simp only [dW_]
    simp only [al_]
    simp only [List.length_append,List.length_cons] at hl
    refine Wp.ite (fun _=> ?_) (fun hx=>absurd (by simp;omega) hx)
    simp only [aT_,Option.bind_some]
    refine Wp.bind (gk_ e (hv e (by simp))) (fun _ e'=> ?_);have e'':=e'.symm;subst e''
    refine Wp.opt (aV_ (by simp;omega)) ?_
    rw [aW_ (n:=(pre.length:Int)+1) (by omega) (by omega)]
    have:=us_ K Fo K' Fo' a c W W' b Fl Fl' Gi Ta Gi' Ta' E2 F2 G2 T2 hf hg ht t (pre++[e]) (by simp;omega) (fun x hx=>hv x (by simp [hx]))
    simpa using this
theorem jn_ (w:ab_) (h:au_ w):Wp (fun k=>en_ k w) (· =w):=by
  obtain ⟨K,W,Es,Fl,Fo,Gi,Ta⟩:=w
  have h5:=h.2.2.2.2.1
  have h4:=h.2.2.2.1
  have h3:=h.2.2.1
  dsimp only at h3 h4 h5
  obtain ⟨e,f,rfl,a1,_,a2,_⟩:=dG_ h5
  unfold en_
  have:=us_ K Fo K Fo noB noB W W 0 Fl Fl Gi Ta Gi Ta [] [] [] [] (by omega) (by omega) (by omega) [e,f] [] (by simp) (by simp [a1,a2])
  simpa using this
theorem m1_ (w:ab_) (h:au_ w):Wp (fun k=>eL_ k w) (· =w):=by
  obtain ⟨K,W,Es,Fl,Fo,Gi,Ta⟩:=w
  have h5:=h.2.2.2.2.1
  have h4:=h.2.2.2.1
  have h3:=h.2.2.1
  dsimp only at h3 h4 h5
  obtain ⟨e,f,rfl,a1,_,a2,_⟩:=dG_ h5
  unfold eL_
  refine Wp.opt (aV_ (by simp)) ?_
  refine Wp.step ?_
  simp only [ct_]
  simp only [List.nil_append,List.length_cons,List.length_nil,al_]
  refine Wp.ite (fun _=> ?_) (fun hx=>by omega)
  refine Wp.opt (x:=e) rfl ?_
  refine Wp.opt (x:=e) rfl ?_
  refine Wp.bind (fe_ e a1) (fun _ e'=> ?_);have e'':=e'.symm;subst e''
  refine Wp.opt (x:=e) rfl ?_
  refine Wp.opt (x:=e) rfl ?_
  rw [show IntKind.wrap .i64 (0+1)=1 by rfl]
  refine Wp.step ?_
  simp only [ct_,al_]
  refine Wp.ite (fun _=> ?_) (fun hx=>by omega)
  refine Wp.opt (x:=f) rfl ?_
  refine Wp.opt (x:=f) rfl ?_
  refine Wp.bind (fe_ f a2) (fun _ e'=> ?_);have e'':=e'.symm;subst e''
  refine Wp.opt (x:=f) rfl ?_
  refine Wp.opt (x:=f) rfl ?_
  rw [show IntKind.wrap .i64 (1+1)=2 by rfl]
  refine Wp.step ?_
  simp only [ct_,al_]
  refine Wp.ite (fun hx=>by omega) (fun _=> ?_)
  refine Wp.opt (aV_ (by simp;omega)) ?_
  refine Wp.opt (aV_ (by simp;omega)) ?_
  refine Wp.opt (aV_ (by simp;omega)) ?_
  exact Wp.ret (by rfl)
end Km.X
namespace Km.X
open Go Km
set_option linter.unusedVariables false
theorem ja_ {R:Type} (x:Option R):Km.both x x=x:=by unfold Km.both;rw [if_pos rfl]
theorem u7_ {e:am_} {t:ByteArray} (hc:(go_ e t).Code=0):(go_ e t).End.Life=e.Life∧(go_ e t).End.Peer=e.Peer:=by
  unfold go_ at hc⊢
  split
  ·rename_i h1;rw [if_pos h1] at hc
   split
   ·rename_i h2;rw [if_pos h2] at hc
    split
    ·rename_i h3;rw [if_pos h3] at hc;cases hc
    ·rename_i h3;rw [if_neg h3] at hc
     split
     ·exact ⟨rfl,rfl⟩
     ·rename_i h4;rw [if_neg h4] at hc;exact absurd hc h4
   ·rename_i h2;rw [if_neg h2] at hc;cases hc
  ·rename_i h1;rw [if_neg h1] at hc;cases hc
section
variable (K Fo t1 t2 Tx:ByteArray) (W z Kd A B C:Int) (Es:List am_) (Fl:List ad_) (Gi Ta:List aa_) (E2:List am_) (F2:List ad_) (G2 T2:List aa_)
theorem y9_ (h:au_ ⟨K,W,Es,Fl,Fo,Gi,Ta⟩) (hk:Kd=2∨Kd=4):Wp (fun k=>gX_ k (decide (0≤A∧A<(Fl.length:Int))) Kd A B C Tx t1 z t2 K W Fo E2 F2 G2 T2 Es Fl Gi Ta) (· =doW ⟨K,W,Es,Fl,Fo,Gi,Ta⟩ ⟨Kd,A,B,C,Tx⟩):=by
  have h3:=h.2.2.1
  dsimp only at h3
  refine Wp.step ?_
  simp only [gX_]
  refine Wp.dec (fun hx=> ?_) (fun hx=> ?_)
  ·have hg:Fl[A.toNat]? =some (Fl[A.toNat]'(by omega)):=List.getElem?_eq_getElem (by omega)
   generalize Fl[A.toNat]'(by omega)=p at hg
   have hv:uR_ p:=h.2.2.2.2.2.1 p (List.mem_of_getElem? hg)
   have hix:idx Fl A=some p:=by have:=e5_ Fl A.toNat;rw [Int.toNat_of_nonneg hx.1] at this;rw [this,hg]
   simp only [hix,hg,Option.bind_some,if_true]
   refine Wp.opt (cy_ ⟨by omega,by omega,by omega⟩) ?_
   rw [aW_ (n:=A+1) (by omega) (by omega)]
   refine Wp.opt (cy_ ⟨by omega,by omega,by omega⟩) ?_
   dsimp only
   rw [show Int.toNat 0=0 from rfl,t6_,show Int.toNat (A+1)=A.toNat+1 by omega,Int.toNat_natCast,tp_]
   refine Wp.opt (aV_ (by simp;omega)) ?_
   rw [wL_ Fl A.toNat (by omega),l2_ (p:=p) (by dsimp only;omega) hx.1 hg]
   unfold iy_
   dsimp only
   simp only [fk_]
   refine Wp.ite (fun e=> ?_) (fun e=> ?_)
   ·rw [if_pos e]
    refine Wp.bind (lz_ ⟨K,W,Es,Fl.eraseIdx A.toNat,Fo,Gi,Ta⟩ (g2_ h (by have:=List.length_eraseIdx_le Fl A.toNat;omega) (st_ h.2.2.2.2.2.1 _)) p hv.1 (by have:=hv.2.2;omega)) (fun r e'=> ?_)
    exact (pq_ ..).mono fun x hr=>by rw [hr,e'];rfl
   ·rw [if_neg e,if_neg (by omega),if_pos (by omega)]
    exact (pq_ ..).mono fun x hr=>by rw [hr];rfl
  ·exact (pq_ ..).mono fun x hr=>by rw [hr,kA_ (by dsimp only;omega) hx]
theorem Cd_ (h:au_ ⟨K,W,Es,Fl,Fo,Gi,Ta⟩) (hk:Kd≠1∧Kd≠2∧Kd≠4):Wp (fun k=>iv_ k (decide (1≤A∧A≤2)) (decide (0≤A∧A<(Fl.length:Int))) Kd Kd A B C Tx t1 z t2 K W Fo E2 F2 G2 T2 Es Fl Gi Ta) (· =doW ⟨K,W,Es,Fl,Fo,Gi,Ta⟩ ⟨Kd,A,B,C,Tx⟩):=by
  have h3:=h.2.2.1
  have h4:=h.2.2.2.1
  have h5:=h.2.2.2.2.1
  dsimp only at h3 h4 h5
  have none_ok:∀(Q:Prop),(1≤Kd→Kd≤11→(8≤Kd∧¬(1≤A∧A≤2))∨(Kd≤7∧¬(0≤A∧A<(Fl.length:Int))))→Wp (fun k=>ar_ k t1 z t2 K W Fo E2 F2 G2 T2 Es Fl Gi Ta) (· =doW ⟨K,W,Es,Fl,Fo,Gi,Ta⟩ ⟨Kd,A,B,C,Tx⟩):=fun _ hq=>by
    refine (pq_ ..).mono fun x hr=> ?_
    rw [hr]
    by_cases h1:1≤Kd∧Kd≤11
    ·rcases hq h1.1 h1.2 with ⟨h8,hn⟩ | ⟨h7,hn⟩
     ·rw [n4_ (.inr ⟨h8,hn⟩)]
     ·rw [kA_ (by dsimp only;omega) hn]
    ·rw [n4_ (.inl h1)]
  have par:∀p,Fl[A.toNat]? =some p→idx Fl A=some p→2≤Kd∧Kd≤7→0≤A→∀y,iy_ ⟨K,W,Es,Fl,Fo,Gi,Ta⟩ ⟨Kd,A,B,C,Tx⟩ p=y→∀Fl',bg_ ⟨K,W,Es,Fl,Fo,Gi,Ta⟩ Fl'=y→Wp (fun k=>ar_ k t1 z t2 K W Fo E2 F2 G2 T2 Es Fl' Gi Ta) (· =doW ⟨K,W,Es,Fl,Fo,Gi,Ta⟩ ⟨Kd,A,B,C,Tx⟩):=fun p hp hi hk2 h0 y hy Fl' hF=>by
    refine (pq_ ..).mono fun x hr=> ?_
    rw [hr,l2_ (p:=p) hk2 h0 hp,hy,←hF];rfl
  have hin:0≤A∧A<(Fl.length:Int)→∃p,Fl[A.toNat]? =some p∧idx Fl A=some p∧uR_ p:=fun hx=>by
    have hg:Fl[A.toNat]? =some (Fl[A.toNat]'(by omega)):=List.getElem?_eq_getElem (by omega)
    refine ⟨_,hg, ?_,h.2.2.2.2.2.1 _ (List.mem_of_getElem? hg)⟩
    have:=e5_ Fl A.toNat
    rw [Int.toNat_of_nonneg hx.1] at this;rw [this,hg]
  refine Wp.step ?_
  simp only [iv_,fk_]
  refine Wp.ite (fun e=> ?_) (fun e3=> ?_)
  ·refine Wp.dec (fun hx=> ?_) (fun hx=>none_ok True (by omega))
   obtain ⟨p,hp,hi,hv⟩:=hin hx
   refine Wp.dec (fun hl=> ?_) (fun hl=> ?_)
   ·simp only [hi,hp,Option.bind_some]
    refine Wp.opt (aV_ (by simp;omega)) ?_
    exact par p hp hi (by omega) hx.1 _ (by unfold iy_;dsimp only;rw [if_neg (by omega),if_pos e,if_pos (by omega)]) _ rfl
   ·exact par p hp hi (by omega) hx.1 _ (by unfold iy_;dsimp only;rw [if_neg (by omega),if_pos e,if_neg (by omega)];rfl) _ rfl
  refine Wp.ite (fun e=> ?_) (fun e5=> ?_)
  ·refine Wp.dec (fun hx=> ?_) (fun hx=>none_ok True (by omega))
   obtain ⟨p,hp,hi,hv⟩:=hin hx
   have u:¬((0≤B∧B<(p.Bytes.size:Int))∧0≤C)→iy_ ⟨K,W,Es,Fl,Fo,Gi,Ta⟩ ⟨Kd,A,B,C,Tx⟩ p=⟨K,W,Es,Fl,Fo,Gi,Ta⟩:=fun hn=>by
     unfold iy_;dsimp only;rw [if_neg (by omega),if_neg (by omega),if_neg (by omega),if_pos e,if_neg hn]
   refine Wp.dec (fun h1=> ?_) (fun h1=>par p hp hi (by omega) hx.1 _ (u (by omega)) _ rfl)
   refine Wp.dec (fun h2=> ?_) (fun h2=>par p hp hi (by omega) hx.1 _ (u (by omega)) _ rfl)
   simp only [hi,hp,Option.bind_some]
   refine Wp.dec (fun h3=> ?_) (fun h3=>par p hp hi (by omega) hx.1 _ (u (by omega)) _ rfl)
   obtain ⟨b1,b2⟩:=wt_ (s:=p.Bytes) (b:=B) ⟨h2,h3⟩
   simp only [b1,b2,Option.bind_some]
   refine Wp.opt (fP_ h1 (by omega)) ?_
   exact par p hp hi (by omega) hx.1 _ (by unfold iy_;dsimp only;rw [if_neg (by omega),if_neg (by omega),if_neg (by omega),if_pos e,if_pos ⟨⟨h2,h3⟩,h1⟩];rfl) _ rfl
  refine Wp.ite (fun e=> ?_) (fun e6=> ?_)
  ·refine Wp.dec (fun hx=> ?_) (fun hx=>none_ok True (by omega))
   obtain ⟨p,hp,hi,hv⟩:=hin hx
   have u:¬(0≤B∧B≤(p.Bytes.size:Int))→iy_ ⟨K,W,Es,Fl,Fo,Gi,Ta⟩ ⟨Kd,A,B,C,Tx⟩ p=⟨K,W,Es,Fl,Fo,Gi,Ta⟩:=fun hn=>by
     unfold iy_;dsimp only;rw [if_neg (by omega),if_neg (by omega),if_neg (by omega),if_neg (by omega),if_pos e,if_neg hn]
   refine Wp.dec (fun h1=> ?_) (fun h1=>par p hp hi (by omega) hx.1 _ (u (by omega)) _ rfl)
   simp only [hi,hp,Option.bind_some]
   refine Wp.dec (fun h2=> ?_) (fun h2=>par p hp hi (by omega) hx.1 _ (u (by omega)) _ rfl)
   refine Wp.opt (cy_ ⟨by omega,h1,h2⟩) ?_
   exact par p hp hi (by omega) hx.1 _ (by unfold iy_;dsimp only;rw [if_neg (by omega),if_neg (by omega),if_neg (by omega),if_neg (by omega),if_pos e,if_pos ⟨h1,h2⟩];rfl) _ rfl
  refine Wp.ite (fun e=> ?_) (fun e7=> ?_)
  ·refine Wp.dec (fun hx=> ?_) (fun hx=>none_ok True (by omega))
   obtain ⟨p,hp,hi,hv⟩:=hin hx
   simp only [hi,hp,Option.bind_some]
   have:=hv.1
   rw [aW_ (n:=3-p.To) (by omega) (by omega)]
   exact par p hp hi (by omega) hx.1 _ (by unfold iy_;dsimp only;rw [if_neg (by omega),if_neg (by omega),if_neg (by omega),if_neg (by omega),if_neg (by omega)]) _ rfl
  have en:(8≤Kd∧Kd≤11)→(1≤A∧A≤2)→∀y:ab_,j3_ ⟨K,W,Es,Fl,Fo,Gi,Ta⟩ ⟨Kd,A,B,C,Tx⟩=y→Wp (fun k=>ar_ k t1 z t2 y.Key y.Width y.Forged E2 F2 G2 T2 y.Ends y.Flight y.Given y.Taken) (· =doW ⟨K,W,Es,Fl,Fo,Gi,Ta⟩ ⟨Kd,A,B,C,Tx⟩):=fun hk2 hn y hy=>by
    refine (pq_ ..).mono fun x hr=> ?_
    rw [hr,sv_ hk2 hn,hy]
  refine Wp.ite (fun e=> ?_) (fun e8=> ?_)
  ·refine Wp.dec (fun hx=> ?_) (fun hx=>none_ok True (by omega))
   obtain ⟨a1,a2,a3⟩:=id_ h5 hx
   simp only [a1,a2,a3,Option.bind_some]
   refine Wp.bind (vQ_ _) (fun r e'=> ?_)
   exact en (by omega) hx ⟨K,W,c4_ A r Es,Fl,Fo,Gi,Ta⟩ (by unfold j3_;dsimp only;rw [if_pos e,e'];rfl)
  refine Wp.ite (fun e=> ?_) (fun e9=> ?_)
  ·refine Wp.dec (fun hx=> ?_) (fun hx=>none_ok True (by omega))
   obtain ⟨a1,a2,a3⟩:=id_ h5 hx
   simp only [a1,a2,a3,Option.bind_some]
   refine Wp.bind (vO_ _) (fun r e'=> ?_)
   exact en (by omega) hx ⟨K,W,c4_ A r Es,Fl,Fo,Gi,Ta⟩ (by unfold j3_;dsimp only;rw [if_neg e8,if_pos e,e'];rfl)
  refine Wp.ite (fun e=> ?_) (fun e10=> ?_)
  ·refine Wp.dec (fun hx=> ?_) (fun hx=>none_ok True (by omega))
   obtain ⟨a1,a2,a3⟩:=id_ h5 hx
   have pu:∀y,mr_ ⟨K,W,Es,Fl,Fo,Gi,Ta⟩ A Tx=y→j3_ ⟨K,W,Es,Fl,Fo,Gi,Ta⟩ ⟨Kd,A,B,C,Tx⟩=y:=fun y hy=>by
     unfold j3_;dsimp only;rw [if_neg e8,if_neg e9,if_pos e];exact hy
   unfold ej_
   simp only [Option.bind_some,ja_,wH_ h4]
   refine Wp.not (fun hc=> ?_) (fun hc=> ?_)
   ·have hc:=of_decide_eq_false hc
    simp only [a1,a2,a3,Option.bind_some]
    refine Wp.bind (ul_ _ _) (fun r e'=> ?_);subst e'
    refine Wp.ite (fun h0=> ?_) (fun h0=> ?_)
    ·refine Wp.opt (aV_ (by simp;omega)) ?_
     obtain ⟨l1,l2⟩:=u7_ h0
     rw [l1,l2]
     exact en (by omega) hx ⟨K,W,c4_ A (go_ (af_ A Es) Tx).End Es,Fl,Fo,Gi++[⟨A,(af_ A Es).Life,(af_ A Es).Peer,Tx⟩],Ta⟩ (pu _ (by unfold mr_;dsimp only;rw [if_pos ⟨by omega,h0⟩]))
    ·exact en (by omega) hx ⟨K,W,Es,Fl,Fo,Gi,Ta⟩ (pu _ (by unfold mr_;dsimp only;rw [if_neg (fun g=>h0 g.2)]))
   ·have hc:=of_decide_eq_true hc
    exact en (by omega) hx ⟨K,W,Es,Fl,Fo,Gi,Ta⟩ (pu _ (by unfold mr_;dsimp only;rw [if_neg (fun g=>by omega)]))
  refine Wp.ite (fun e=> ?_) (fun e11=>none_ok True (by omega))
  refine Wp.dec (fun hx=> ?_) (fun hx=>none_ok True (by omega))
  refine Wp.bind (ne_ ⟨K,W,Es,Fl,Fo,Gi,Ta⟩ h A hx) (fun r e'=> ?_)
  exact en (by omega) hx r (by unfold j3_;dsimp only;rw [if_neg e8,if_neg e9,if_neg e10,e'])
theorem BN_ (h:au_ ⟨K,W,Es,Fl,Fo,Gi,Ta⟩):Wp (fun k=>h7_ k (decide (1≤A∧A≤2)) (decide (0≤A∧A<(Fl.length:Int))) Kd A B C Tx t1 z t2 K W Fo E2 F2 G2 T2 Es Fl Gi Ta) (· =doW ⟨K,W,Es,Fl,Fo,Gi,Ta⟩ ⟨Kd,A,B,C,Tx⟩):=by
  refine Wp.step ?_
  simp only [h7_,fk_]
  refine Wp.ite (fun e=> ?_) (fun e1=> ?_)
  ·refine Wp.bind (ng_ ⟨K,W,Es,Fl,Fo,Gi,Ta⟩ h) (fun r e'=> ?_)
   exact (pq_ ..).mono fun x hr=>by rw [hr,e'];unfold doW;rw [if_pos e]
  refine Wp.ite (fun e=>y9_ _ _ _ _ _ _ _ _ _ _ _ _ _ _ _ _ _ _ _ h (.inl e)) (fun e2=> ?_)
  refine Wp.ite (fun e=>y9_ _ _ _ _ _ _ _ _ _ _ _ _ _ _ _ _ _ _ _ h (.inr e)) (fun e4=> ?_)
  exact Cd_ _ _ _ _ _ _ _ _ _ _ _ _ _ _ _ _ _ _ _ h ⟨e1,e2,e4⟩
theorem BU_ (h:au_ ⟨K,W,Es,Fl,Fo,Gi,Ta⟩):Wp (fun k=>hW_ k (decide (1≤A∧A≤2)) Kd A B C Tx t1 z t2 K W Fo E2 F2 G2 T2 Es Fl Gi Ta) (· =doW ⟨K,W,Es,Fl,Fo,Gi,Ta⟩ ⟨Kd,A,B,C,Tx⟩):=by
  refine Wp.step ?_
  simp only [hW_]
  refine Wp.dec (fun hx=> ?_) (fun hx=> ?_)
  ·have:=BN_ K Fo t1 t2 Tx W z Kd A B C Es Fl Gi Ta E2 F2 G2 T2 h
   rw [show decide (0≤A∧A<(Fl.length:Int))=decide (A<(Fl.length:Int)) from decide_eq_decide.mpr ⟨fun g=>g.2,fun g=>⟨hx,g⟩⟩] at this
   exact this
  ·have:=BN_ K Fo t1 t2 Tx W z Kd A B C Es Fl Gi Ta E2 F2 G2 T2 h
   rw [show decide (0≤A∧A<(Fl.length:Int))=false from decide_eq_false (fun g=>hx g.1)] at this
   exact this
end
theorem tG_ (w:ab_) (hb:w.Given.length≤1048576∧w.Taken.length≤1048576) (v:aS_):Wp (fun k=>oz_ k w v) (· =doM w v):=by
  unfold oz_ doM
  refine Wp.bind (df_ w hb) (fun _ e=> ?_);subst e
  refine Wp.not (fun h=> ?_) (fun h=> ?_)
  ·exact Wp.ret (by rw [if_neg (of_decide_eq_false h)];rfl)
  ·have hv:=of_decide_eq_true h
   rw [if_pos hv]
   refine Wp.bind (m1_ w hv) (fun _ e=> ?_);have e'':=e.symm;subst e''
   simp only [fk_]
   refine Wp.ite (fun e=> ?_) (fun e=> ?_)
   ·have:=BU_ w.Key w.Forged noB noB v.Text w.Width 0 v.Kind v.A v.B v.C w.Ends w.Flight w.Given w.Taken [] [] [] [] hv
    rw [show decide (1≤v.A∧v.A≤2)=true from decide_eq_true (by omega)] at this
    exact this
   ·have:=BU_ w.Key w.Forged noB noB v.Text w.Width 0 v.Kind v.A v.B v.C w.Ends w.Flight w.Given w.Taken [] [] [] [] hv
    rw [show decide (1≤v.A∧v.A≤2)=(v.A==2) by rw [Bool.eq_iff_iff];simp;omega] at this
    exact this
end Km.X
namespace Km.X
open Go Km
set_option linter.unusedVariables false
set_option linter.unusedSimpArgs false
theorem eq_pair_iff {x y:DPair}:bc_ x y=true↔x=y:=⟨mA_,fun h=>by subst h;simp [bc_]⟩
instance:DecidableEq DPair:=fun x y=>decidable_of_iff _ eq_pair_iff
def mget {β:Type} (key:DPair):List (DPair×β)→Option β
  | []=>none
  | (a,b)::l=>if a=key then some b else mget key l
theorem gK_ {β:Type} {key:DPair}:∀{l:List (DPair×β)} {i:Nat},a4_ (bc_ key) l i=none→mget key l=none
  | [],_,_=>rfl
  | (a,b)::l,i,h=>by
    simp only [a4_] at h
    split at h
    ·cases h
    ·rename_i hq
     simp only [mget]
     rw [if_neg (fun e=>by subst e;rw [eq_pair_iff.mpr rfl] at hq;cases hq)]
     exact gK_ h
theorem gJ_ {β:Type} {key:DPair}:∀{l:List (DPair×β)} {i j:Nat} {b:β},a4_ (bc_ key) l i=some (j,b)→∃d,j=i+d∧l[d]? =some (key,b)∧mget key l=some b∧∀v key',mget key' (l.set d (key,v))=if key'=key then some v else mget key' l
  | [],_,_,_,h=>by cases h
  | (a,c)::l,i,j,b,h=>by
    simp only [a4_] at h
    split at h
    ·rename_i hq
     have:=mA_ hq;subst this
     cases h
     refine ⟨0,rfl,rfl,by simp only [mget,if_true],fun v key'=> ?_⟩
     simp only [List.set_cons_zero,mget]
     by_cases e:key=key'
     ·subst e;simp
     ·rw [if_neg e,if_neg e,if_neg (fun g=>e g.symm)]
    ·rename_i hq
     have hne:a≠key:=fun e=>by subst e;rw [eq_pair_iff.mpr rfl] at hq;cases hq
     obtain ⟨d,e1,e2,e3,e4⟩:=gJ_ h
     refine ⟨d+1,by omega,e2,by simp only [mget];rw [if_neg hne,e3],fun v key'=> ?_⟩
     simp only [List.set_cons_succ,mget,e4]
     by_cases e:a=key'
     ·subst e;rw [if_pos rfl,if_neg hne,if_pos rfl]
     ·rw [if_neg e,if_neg e]
theorem kU_ {β:Type} {key key':DPair} {v:β}:∀(l:List (DPair×β)),mget key l=none→mget key' (l++[(key,v)])=if key'=key then some v else mget key' l
  | [],_=>by
    simp only [List.nil_append,mget]
    by_cases e:key=key'
    ·subst e;simp
    ·rw [if_neg e,if_neg (fun g=>e g.symm)]
  | (a,b)::l,h=>by
    simp only [mget] at h
    split at h
    ·cases h
    ·rename_i hne
     simp only [List.cons_append,mget,kU_ l h]
     by_cases e:a=key'
     ·subst e;rw [if_pos rfl,if_neg hne,if_pos rfl]
     ·rw [if_neg e,if_neg e]
theorem r4_ {α:Type} (l:List α) (x y:α):(l++[x]).set l.length y=l++[y]:=by simp
theorem wC_ {β:Type} {l:List (DPair×β)} {d:Nat} {key:DPair} {b:β} (h:l[d]? =some (key,b)):(l.modify d fun e=>(e.1,b))=l:=by
  obtain ⟨h1,h2⟩:=List.getElem?_eq_some_iff.mp h
  apply List.ext_getElem?
  intro i
  rw [List.getElem?_modify]
  by_cases e:d=i
  ·subst e;rw [h];simp
  ·cases l[i]? <;>simp [e]
def kf (r:aa_):DPair:=⟨r.From,r.A,r.B⟩
def aD_ (l:List aa_) (key:DPair):List ByteArray:=(l.filter (fun r=>decide (kf r=key))).map (·.Text)
theorem bx_ (l:List aa_) (r:aa_) (key:DPair):aD_ (l++[r]) key=if key=kf r then aD_ l key++[r.Text] else aD_ l key:=by
  unfold aD_
  rw [List.filter_append,List.map_append]
  by_cases e:kf r=key
  ·subst e;simp
  ·rw [if_neg (fun g=>e g.symm)];simp [e]
theorem ik_ (l:List aa_) (r:aa_) (key:DPair):aD_ (r::l) key=if kf r=key then r.Text::aD_ l key else aD_ l key:=by
  unfold aD_
  by_cases e:kf r=key
  ·simp [e]
  ·simp [e]
theorem fa_ (l:List aa_) (key:DPair):(aD_ l key).length≤l.length:=by
  unfold aD_;rw [List.length_map];exact List.length_filter_le _ _
def h0_ (G:List aa_):List aa_→List aa_→Bool
  | _,[]=>true
  | pre,r::t=>decide ((aD_ G (kf r))[(aD_ pre (kf r)).length]? =some r.Text)&&h0_ G (pre++[r]) t
def ra_ (w:ab_):Bool:=decide (au_ w)&&h0_ w.Given [] w.Taken
def yu_ (th:Bool) (n:Int) (t:List aa_) (x:aa_):Bool:=th || decide (0≤n∧(aD_ t (kf x))[n.toNat]? =some x.Text)
theorem Fq_ (K Fo:ByteArray) (W i:Int) (Es:List am_) (Fl:List ad_) (Ta:List aa_) (x:aa_) (Q:Bool→Prop) (G:List aa_) (hG:G.length≤1000):∀(t pre:List aa_) (n:Int) (th:Bool),pre++t=G→(-(pre.length:Int)≤n∧n≤1000)→
    (yu_ th n t x=true→Wp (fun k=>dp_ k (IntKind.wrap .i64 (i+1)) K W Es Fl Fo G Ta) Q)→(yu_ th n t x=false→Q false)→
    Wp (fun k=>cY_ k i n th (pre.length:Int) K W Es Fl Fo G Ta x.From x.A x.B x.Text) Q
  | [],pre,n,th,he,hn,go,no=>by
    have he':pre=G:=by simpa using he
    refine Wp.step ?_
    simp only [cY_]
    refine Wp.dec (fun h=>by rw [←he'] at h;omega) (fun _=> ?_)
    have e:yu_ th n [] x=th:=by simp [yu_,aD_]
    refine Wp.not (fun h=> ?_) (fun h=>go (by rw [e,h]))
    exact Wp.ret (no (by rw [e,h]))
  | y::t,pre,n,th,he,hn,go,no=>by
    have hl:pre.length+(y::t).length≤1000:=by rw [←List.length_append,he];exact hG
    simp only [List.length_cons] at hl
    refine Wp.step ?_
    simp only [cY_]
    refine Wp.dec (fun _=> ?_) (fun h=>absurd (by rw [←he];simp;omega) h)
    rw [show idx G (pre.length:Int)=some y by rw [←he];exact aT_]
    simp only [Option.bind_some,fk_]
    have nx:∀(m:Int) (b:Bool),(n-1≤m∧m≤n)→yu_ b m t x=yu_ th n (y::t) x→Wp (fun k=>bF_ k i m b (pre.length:Int) K W Es Fl Fo G Ta x.From x.A x.B x.Text) Q:=fun m b hm hs=>by
      refine Wp.step ?_
      simp only [bF_]
      rw [aW_ (n:=(pre.length:Int)+1) (by omega) (by omega)]
      have:=Fq_ K Fo W i Es Fl Ta x Q G hG t (pre++[y]) m b (by rw [←he];simp) (by simp;omega) (fun h=>go (hs▸h)) (fun h=>no (hs▸h))
      rw [show ((pre++[y]).length:Int)=(pre.length:Int)+1 by simp] at this
      exact this
    have other:kf y≠kf x→Wp (fun k=>bF_ k i n th (pre.length:Int) K W Es Fl Fo G Ta x.From x.A x.B x.Text) Q:=fun hne=>by
      refine nx n th (by omega) ?_
      simp only [yu_,ik_,if_neg hne]
    refine Wp.ite (fun e1=> ?_) (fun e1=>other (fun g=>e1 (congrArg DPair.f g)))
    refine Wp.ite (fun e2=> ?_) (fun e2=>other (fun g=>e2 (congrArg DPair.a g)))
    refine Wp.ite (fun e3=> ?_) (fun e3=>other (fun g=>e3 (congrArg DPair.b g)))
    have hk:kf y=kf x:=by simp [kf,e1,e2,e3]
    rw [aW_ (n:=n-1) (by omega) (by omega)]
    refine Wp.bif (fun h=> ?_) (fun h=> ?_)
    ·exact nx _ _ (by omega) (by simp [yu_,h])
    ·refine Wp.ite (fun h0=> ?_) (fun h0=> ?_)
     ·rw [Cz_]
      refine nx _ _ (by omega) ?_
      subst h0
      simp only [yu_,h,ik_,if_pos hk]
      simp
     ·refine nx _ _ (by omega) ?_
      simp only [yu_,h,ik_,if_pos hk,Bool.false_or]
      apply decide_eq_decide.mpr
      constructor
      ·rintro ⟨h1,h2⟩
       refine ⟨by omega, ?_⟩
       rw [show n.toNat=(n-1).toNat+1 by omega,List.getElem?_cons_succ];exact h2
      ·rintro ⟨h1,h2⟩
       refine ⟨by omega, ?_⟩
       rw [show n.toNat=(n-1).toNat+1 by omega,List.getElem?_cons_succ] at h2;exact h2
theorem sr9 (K Fo:ByteArray) (W i:Int) (Es:List am_) (Fl:List ad_) (G:List aa_) (x:aa_) (Q:Bool→Prop) (Ta:List aa_) (hT:Ta.length≤1000):∀(p2 p1 rest:List aa_),p1++p2++rest=Ta→i=((p1++p2).length:Int)→
    Wp (fun k=>cY_ k i ((aD_ (p1++p2) (kf x)).length:Int) false 0 K W Es Fl Fo G Ta x.From x.A x.B x.Text) Q→
    Wp (fun k=>eD_ k i ((aD_ p1 (kf x)).length:Int) (p1.length:Int) K W Es Fl Fo G Ta x.From x.A x.B x.Text) Q
  | [],p1,rest,he,hi,go=>by
    simp only [List.append_nil] at hi go
    refine Wp.step ?_
    simp only [eD_]
    refine Wp.dec (fun h=>by omega) (fun _=>go)
  | y::p2,p1,rest,he,hi,go=>by
    have hl:p1.length+(p2.length+1)+rest.length≤1000:=by
      have:(p1++(y::p2)++rest).length≤1000:=by rw [he];exact hT
      simp at this;omega
    refine Wp.step ?_
    simp only [eD_]
    refine Wp.dec (fun _=> ?_) (fun h=>absurd (by rw [hi];simp;omega) h)
    rw [show idx Ta (p1.length:Int)=some y by rw [←he,List.append_assoc];exact aT_]
    simp only [Option.bind_some,fk_]
    have hlen:=fa_ p1 (kf x)
    have nx:Wp (fun k=>cp_ k i ((aD_ (p1++[y]) (kf x)).length:Int) (p1.length:Int) K W Es Fl Fo G Ta x.From x.A x.B x.Text) Q:=by
      refine Wp.step ?_
      simp only [cp_]
      rw [aW_ (n:=(p1.length:Int)+1) (by omega) (by omega)]
      have:=sr9 K Fo W i Es Fl G x Q Ta hT p2 (p1++[y]) rest (by rw [←he];simp) (by rw [hi];simp) (by simpa using go)
      rw [show ((p1++[y]).length:Int)=(p1.length:Int)+1 by simp] at this
      exact this
    have other:kf y≠kf x→Wp (fun k=>cp_ k i ((aD_ p1 (kf x)).length:Int) (p1.length:Int) K W Es Fl Fo G Ta x.From x.A x.B x.Text) Q:=fun hne=>by
      rw [bx_,if_neg (fun g=>hne g.symm)] at nx;exact nx
    refine Wp.ite (fun e1=> ?_) (fun e1=>other (fun g=>e1 (congrArg DPair.f g)))
    refine Wp.ite (fun e2=> ?_) (fun e2=>other (fun g=>e2 (congrArg DPair.a g)))
    refine Wp.ite (fun e3=> ?_) (fun e3=>other (fun g=>e3 (congrArg DPair.b g)))
    have hk:kf x=kf y:=by simp [kf,e1,e2,e3]
    rw [aW_ (n:=((aD_ p1 (kf x)).length:Int)+1) (by omega) (by omega)]
    rw [bx_,if_pos hk,List.length_append] at nx
    exact nx
theorem sr4 (K Fo:ByteArray) (W:Int) (Es:List am_) (Fl:List ad_) (G Ta:List aa_) (hG:G.length≤1000) (hT:Ta.length≤1000):∀(t pre:List aa_),pre++t=Ta→Wp (fun k=>dp_ k (pre.length:Int) K W Es Fl Fo G Ta) (· =h0_ G pre t)
  | [],pre,he=>by
    have he':pre=Ta:=by simpa using he
    refine Wp.step ?_
    simp only [dp_]
    refine Wp.dec (fun h=>by rw [←he'] at h;omega) (fun _=>Wp.ret rfl)
  | x::t,pre,he=>by
    have hl:pre.length+(t.length+1)≤1000:=by
      have:(pre++(x::t)).length≤1000:=by rw [he];exact hT
      simpa using this
    refine Wp.step ?_
    simp only [dp_]
    refine Wp.dec (fun _=> ?_) (fun h=>absurd (by rw [←he];simp;omega) h)
    rw [show idx Ta (pre.length:Int)=some x by rw [←he];exact aT_]
    simp only [Option.bind_some]
    have hlen:=fa_ pre (kf x)
    refine sr9 K Fo W (pre.length:Int) Es Fl G x _ Ta hT pre [] (x::t) (by simpa using he) (by simp) ?_
    simp only [List.nil_append]
    refine Fq_ K Fo W (pre.length:Int) Es Fl Ta x _ G hG G [] _ false rfl (by simp;omega) (fun hs=> ?_) (fun hs=> ?_)
    ·rw [aW_ (n:=(pre.length:Int)+1) (by omega) (by omega)]
     have:=sr4 K Fo W Es Fl G Ta hG hT t (pre++[x]) (by rw [←he];simp)
     rw [show ((pre++[x]).length:Int)=(pre.length:Int)+1 by simp] at this
     refine this.mono fun r hr=> ?_
     rw [hr]
     simp only [yu_,Bool.false_or,decide_eq_true_eq,Int.toNat_natCast] at hs
     simp only [h0_,decide_eq_true hs.2,Bool.true_and]
    ·simp only [yu_,Bool.false_or,decide_eq_false_iff_not,Int.toNat_natCast] at hs
     simp only [h0_]
     rw [decide_eq_false (fun g=>hs ⟨by omega,g⟩)];rfl
theorem ue_ (w:ab_) (hb:w.Given.length≤1048576∧w.Taken.length≤1048576):Wp (fun k=>jN_ k w) (· =ra_ w):=by
  unfold jN_ ra_
  refine Wp.bind (eq_ w hb) (fun _ e=> ?_);subst e
  refine Wp.not (fun h=>Wp.ret (by rw [h];rfl)) (fun h=> ?_)
  have hv:=of_decide_eq_true h
  have h4:=hv.2.2.2.1
  rw [h]
  exact sr4 w.Key w.Forged w.Width w.Ends w.Flight w.Given w.Taken (by omega) (by omega) w.Taken [] rfl
end Km.X
namespace Km.X
open Go Km
set_option linter.unusedVariables false
set_option linter.unusedSimpArgs false
theorem Wp.optK {α R:Type} {o:Option α} {A:Nat→Option R} {B:Nat→α→Option R} {Q:R→Prop} (h0:o=none→Wp A Q) (h1:∀p,o=some p→Wp (fun k=>B k p) Q):Wp (fun k=>Km.optK o (A k) (B k)) Q:=by
  cases o with
  | none=>exact h0 rfl
  | some p=>exact h1 p rfl
theorem mY_ {β:Type} {key:DPair} {v:β}:∀{l:List (DPair×β)} {i:Nat},a4_ (bc_ key) l i=none→a4_ (bc_ key) (l++[(key,v)]) i=some (i+l.length,v)
  | [],i,_=>by simp only [List.nil_append,a4_,eq_pair_iff.mpr rfl];rfl
  | (a,b)::l,i,h=>by
    simp only [a4_] at h
    split at h
    ·cases h
    ·rename_i hq
     simp only [List.cons_append,a4_,hq]
     rw [mY_ h];simp;omega
def Ej_ (m:List (DPair×List ByteArray)) (pre:List aa_):Prop:=∀key,(mget key m).getD []=aD_ pre key
def AtI (m:List (DPair×Int)) (pre:List aa_):Prop:=∀key,(mget key m).getD 0=((aD_ pre key).length:Int)
theorem ir5 (K Fo:ByteArray) (W:Int) (Es:List am_) (Fl:List ad_) (G Ta:List aa_) (hG:G.length≤1000) (Q:Bool→Prop):∀(t pre:List aa_) (m:List (DPair×List ByteArray)),pre++t=G→Ej_ m pre→
    (∀m,Ej_ m G→Wp (fun k=>aO_ k Ta (Ta.length:Int) 0 m []) Q)→
    Wp (fun k=>cW_ k G (G.length:Int) (pre.length:Int) K W Es Fl Fo G Ta m) Q
  | [],pre,m,he,hi,go=>by
    have he':pre=G:=by simpa using he
    refine Wp.step ?_
    simp only [cW_]
    refine Wp.dec (fun h=>by rw [he'] at h;omega) (fun _=> ?_)
    exact go m (he'▸hi)
  | x::t,pre,m,he,hi,go=>by
    have hl:pre.length+(t.length+1)≤1000:=by
      have:(pre++(x::t)).length≤1000:=by rw [he];exact hG
      simpa using this
    refine Wp.step ?_
    simp only [cW_]
    refine Wp.dec (fun _=> ?_) (fun h=>absurd (by rw [←he];simp;omega) h)
    rw [show idx G (pre.length:Int)=some x by rw [←he];exact aT_]
    simp only [Option.bind_some]
    have hk:(⟨x.From,x.A,x.B⟩:DPair)=kf x:=rfl
    rw [hk,aW_ (n:=(pre.length:Int)+1) (by omega) (by omega)]
    have hlen:=fa_ pre (kf x)
    have nx:∀m',Ej_ m' (pre++[x])→Wp (fun k=>cW_ k G (G.length:Int) ((pre.length:Int)+1) K W Es Fl Fo G Ta m') Q:=fun m' h'=>by
      have:=ir5 K Fo W Es Fl G Ta hG Q t (pre++[x]) m' (by rw [←he];simp) h' go
      rw [show ((pre++[x]).length:Int)=(pre.length:Int)+1 by simp] at this
      exact this
    refine Wp.optK (fun h0=> ?_) (fun p h1=> ?_)
    ·have hn:=gK_ h0
     refine Wp.opt (aV_ (by simp)) ?_
     refine Wp.opt (x:=(kf x,[])) (by rw [e5_];simp) ?_
     dsimp only
     rw [Int.toNat_natCast,r4_]
     refine nx _ (fun key=> ?_)
     rw [kU_ m hn,bx_]
     by_cases e:key=kf x
     ·subst e
      rw [if_pos rfl,if_pos rfl,←hi,hn];rfl
     ·rw [if_neg e,if_neg e,hi]
    ·obtain ⟨j,b⟩:=p
     obtain ⟨d,e1,e2,e3,e4⟩:=gJ_ h1
     rw [Nat.zero_add] at e1;subst e1
     have hb:=hi (kf x)
     rw [e3] at hb
     simp only [Option.getD_some] at hb
     subst hb
     refine Wp.opt (aV_ (by simp;omega)) ?_
     dsimp only
     rw [Int.toNat_natCast,show Nat.beq j j=true by simp,e5_,e2]
     simp only [cond_true,Option.bind_some]
     refine nx _ (fun key=> ?_)
     rw [e4,bx_]
     by_cases e:key=kf x
     ·rw [if_pos e,if_pos e,e];rfl
     ·rw [if_neg e,if_neg e,hi]
theorem Fz_ (Ta:List aa_) (x:aa_) (Q:Bool→Prop) (i c:Int) (x3:List (DPair×List ByteArray)) (x4:List (DPair×Int)) (hc:(mget (kf x) x4).getD 0=c) (hcb:0≤c∧c≤1000)
    (go:∀m,(∀key,(mget key m).getD 0=if key=kf x then c+1 else (mget key x4).getD 0)→Wp (fun k=>aO_ k Ta (Ta.length:Int) (IntKind.wrap .i64 (i+1)) x3 m) Q):
    Wp (fun k=>a1_ k Ta (Ta.length:Int) i x3 x4 x.From x.A x.B) Q:=by
  refine Wp.step ?_
  simp only [a1_]
  rw [show (⟨x.From,x.A,x.B⟩:DPair)=kf x from rfl]
  cases h4:a4_ (bc_ (kf x)) x4 0 with
  | none=>
    have hn:=gK_ h4
    rw [hn] at hc
    simp only [Option.getD_none] at hc
    subst hc
    simp only [Km.optK,mY_ h4,Nat.zero_add,e5_,Int.toNat_natCast,r4_]
    simp only [List.getElem?_append_right (Nat.le_refl _),Nat.sub_self,List.getElem?_cons_zero,Option.bind_some,ja_]
    rw [aW_ (n:=0+1) (by omega) (by omega)]
    refine go _ (fun key=> ?_)
    rw [kU_ x4 hn]
    by_cases e:key=kf x
    ·rw [if_pos e,if_pos e];rfl
    ·rw [if_neg e,if_neg e]
  | some p=>
    obtain ⟨j,b⟩:=p
    obtain ⟨d,e1,e2,e3,e4⟩:=gJ_ h4
    rw [Nat.zero_add] at e1;subst e1
    rw [e3] at hc
    simp only [Option.getD_some] at hc
    subst hc
    simp only [Km.optK,e5_,e2,Option.bind_some,Int.toNat_natCast,ja_]
    rw [aW_ (n:=b+1) (by omega) (by omega)]
    refine go _ (fun key=> ?_)
    rw [e4]
    by_cases e:key=kf x
    ·rw [if_pos e,if_pos e];rfl
    ·rw [if_neg e,if_neg e]
theorem Fs_ (G Ta:List aa_) (hG:G.length≤1000) (hT:Ta.length≤1000) (x3:List (DPair×List ByteArray)) (h3:Ej_ x3 G):∀(t pre:List aa_) (x4:List (DPair×Int)),pre++t=Ta→AtI x4 pre→Wp (fun k=>aO_ k Ta (Ta.length:Int) (pre.length:Int) x3 x4) (· =h0_ G pre t)
  | [],pre,x4,he,hi=>by
    have he':pre=Ta:=by simpa using he
    refine Wp.step ?_
    simp only [aO_]
    refine Wp.dec (fun h=>by rw [he'] at h;omega) (fun _=>Wp.ret rfl)
  | x::t,pre,x4,he,hi=>by
    have hl:pre.length+(t.length+1)≤1000:=by
      have:(pre++(x::t)).length≤1000:=by rw [he];exact hT
      simpa using this
    have hlen:=fa_ pre (kf x)
    have hglen:=fa_ G (kf x)
    have hc:=hi (kf x)
    have hg:=h3 (kf x)
    have nx:∀c:Int,((aD_ pre (kf x)).length:Int)=c→(aD_ G (kf x))[c.toNat]? =some x.Text→Wp (fun k=>a1_ k Ta (Ta.length:Int) (pre.length:Int) x3 x4 x.From x.A x.B) (· =h0_ G pre (x::t)):=fun c hcc hx=>by
      refine Fz_ Ta x _ (pre.length:Int) c x3 x4 (by rw [hc,hcc]) (by omega) (fun m hm=> ?_)
      rw [aW_ (n:=(pre.length:Int)+1) (by omega) (by omega)]
      have:=Fs_ G Ta hG hT x3 h3 t (pre++[x]) m (by rw [←he];simp) (fun key=>by
        rw [hm,bx_]
        by_cases e:key=kf x
        ·rw [if_pos e,if_pos e,e,List.length_append,←hcc];rfl
        ·rw [if_neg e,if_neg e,hi])
      rw [show ((pre++[x]).length:Int)=(pre.length:Int)+1 by simp] at this
      refine this.mono fun r hr=> ?_
      rw [hr]
      simp only [h0_]
      rw [show (aD_ pre (kf x)).length=c.toNat by omega,hx];simp
    have no:∀c:Int,((aD_ pre (kf x)).length:Int)=c→¬(aD_ G (kf x))[c.toNat]? =some x.Text→false=h0_ G pre (x::t):=fun c hcc hx=>by
      simp only [h0_]
      rw [decide_eq_false (by rw [show (aD_ pre (kf x)).length=c.toNat by omega];exact hx)];rfl
    refine Wp.step ?_
    simp only [aO_]
    refine Wp.dec (fun _=> ?_) (fun h=>absurd (by rw [←he];simp;omega) h)
    rw [show idx Ta (pre.length:Int)=some x by rw [←he];exact aT_]
    simp only [Option.bind_some]
    rw [show (⟨x.From,x.A,x.B⟩:DPair)=kf x from rfl]
    have fin:∀(g:List ByteArray) (c:Int),aD_ G (kf x)=g→((aD_ pre (kf x)).length:Int)=c→¬(c≥(g.length:Int))→Wp (fun k=>(idx g c).bind fun _=>(g[c.toNat]?).bind fun y=>bif (!(y.toList==x.Text.toList)) then some false else a1_ k Ta (Ta.length:Int) (pre.length:Int) x3 x4 x.From x.A x.B) (· =h0_ G pre (x::t)):=fun g c hgg hcc hlt=>by
      have hx:g[c.toNat]? =some (g[c.toNat]'(by omega)):=List.getElem?_eq_getElem (by omega)
      generalize g[c.toNat]'(by omega)=y at hx
      have hx':idx g c=some y:=by have:=e5_ g c.toNat;rw [Int.toNat_of_nonneg (by omega)] at this;rw [this,hx]
      refine Wp.opt hx' (Wp.opt hx ?_)
      simp only [bk_,no_]
      refine Wp.ite (fun e=>nx c hcc (by rw [hgg,hx,e])) (fun e=>Wp.ret (no c hcc (by rw [hgg,hx];simpa using e)))
    cases h4:a4_ (bc_ (kf x)) x4 0 with
    | none=>
      rw [gK_ h4] at hc
      simp only [Option.getD_none] at hc
      cases h5:a4_ (bc_ (kf x)) x3 0 with
      | none=>
        rw [gK_ h5] at hg
        simp only [Option.getD_none] at hg
        simp only [Km.optK]
        refine Wp.dec (fun _=>Wp.ret (no 0 hc.symm (by rw [←hg];simp))) (fun h=>absurd (by simp) h)
      | some p=>
        obtain ⟨j,b⟩:=p
        obtain ⟨d,e1,e2,e3,e4⟩:=gJ_ h5
        rw [Nat.zero_add] at e1;subst e1
        rw [e3] at hg
        simp only [Option.getD_some] at hg
        simp only [Km.optK,wC_ e2,h5]
        refine Wp.dec (fun h=>Wp.ret (no 0 hc.symm (by rw [←hg,List.getElem?_eq_none (by omega)];simp))) (fun h=>fin b 0 hg.symm hc.symm h)
    | some q=>
      obtain ⟨jq,c⟩:=q
      obtain ⟨dq,f1,f2,f3,f4⟩:=gJ_ h4
      rw [f3] at hc
      simp only [Option.getD_some] at hc
      cases h5:a4_ (bc_ (kf x)) x3 0 with
      | none=>
        rw [gK_ h5] at hg
        simp only [Option.getD_none] at hg
        simp only [Km.optK]
        refine Wp.dec (fun _=>Wp.ret (no c hc.symm (by rw [←hg];simp))) (fun h=>absurd (by simp;omega) h)
      | some p=>
        obtain ⟨j,b⟩:=p
        obtain ⟨d,e1,e2,e3,e4⟩:=gJ_ h5
        rw [Nat.zero_add] at e1;subst e1
        rw [e3] at hg
        simp only [Option.getD_some] at hg
        simp only [Km.optK,wC_ e2,h5]
        refine Wp.dec (fun h=>Wp.ret (no c hc.symm (by rw [←hg,List.getElem?_eq_none (by omega)];simp))) (fun h=>fin b c hg.symm hc.symm h)
theorem uB_ (w:ab_) (hb:w.Given.length≤1048576∧w.Taken.length≤1048576):Wp (fun k=>jS_ k w) (· =ra_ w):=by
  unfold jS_ ra_
  refine Wp.bind (df_ w hb) (fun _ e=> ?_);subst e
  refine Wp.not (fun h=>Wp.ret (by rw [h];rfl)) (fun h=> ?_)
  have hv:=of_decide_eq_true h
  have h4:=hv.2.2.2.1
  rw [h]
  exact ir5 w.Key w.Forged w.Width w.Ends w.Flight w.Given w.Taken (by omega) _ w.Given [] [] rfl (fun key=>rfl) (fun m hm=>Fs_ w.Given w.Taken (by omega) (by omega) m hm w.Taken [] [] rfl (fun key=>rfl))
end Km.X
namespace Km.X
open Go Km
set_option linter.unusedVariables false
set_option linter.unusedSimpArgs false
theorem eq_key_iff {x y:DKey}:eN_ x y=true↔x=y:=⟨o3_,fun h=>by subst h;simp [eN_]⟩
instance:DecidableEq DKey:=fun x y=>decidable_of_iff _ eq_key_iff
def pk (p:ad_):DKey:=⟨p.To,p.Bytes⟩
def cn_ (h:List DKey) (key:DKey):Nat:=(h.filter (fun x=>decide (x=key))).length
theorem g4_ (h:List DKey) (a key:DKey):cn_ (h++[a]) key=if key=a then cn_ h key+1 else cn_ h key:=by
  unfold cn_
  rw [List.filter_append,List.length_append]
  by_cases e:a=key
  ·subst e;simp
  ·rw [if_neg (fun g=>e g.symm)];simp [e]
theorem tW_ (h:List DKey) (key:DKey):cn_ h key≤h.length:=List.length_filter_le _ _
def tk_ {β:Type} (key:DKey):List (DKey×β)→Option β
  | []=>none
  | (a,b)::l=>if a=key then some b else tk_ key l
theorem rf_ {β:Type} {key:DKey}:∀{l:List (DKey×β)} {i:Nat},a4_ (eN_ key) l i=none→tk_ key l=none
  | [],_,_=>rfl
  | (a,b)::l,i,h=>by
    simp only [a4_] at h
    split at h
    ·cases h
    ·rename_i hq
     simp only [tk_]
     rw [if_neg (fun e=>by subst e;rw [eq_key_iff.mpr rfl] at hq;cases hq)]
     exact rf_ h
theorem rt_ {β:Type} {key:DKey}:∀{l:List (DKey×β)} {i j:Nat} {b:β},a4_ (eN_ key) l i=some (j,b)→∃d,j=i+d∧l[d]? =some (key,b)∧tk_ key l=some b∧(∀v key',tk_ key' (l.set d (key,v))=if key'=key then some v else tk_ key' l)∧∀v i,a4_ (eN_ key) (l.set d (key,v)) i=some (i+d,v)
  | [],_,_,_,h=>by cases h
  | (a,c)::l,i,j,b,h=>by
    simp only [a4_] at h
    split at h
    ·rename_i hq
     have:=o3_ hq;subst this
     cases h
     refine ⟨0,rfl,rfl,by simp only [tk_,if_true],fun v key'=> ?_,fun v i=> ?_⟩
     ·simp only [List.set_cons_zero,tk_]
      by_cases e:key=key'
      ·subst e;simp
      ·rw [if_neg e,if_neg e,if_neg (fun g=>e g.symm)]
     ·simp only [List.set_cons_zero,a4_,eq_key_iff.mpr rfl];rfl
    ·rename_i hq
     have hne:a≠key:=fun e=>by subst e;rw [eq_key_iff.mpr rfl] at hq;cases hq
     obtain ⟨d,e1,e2,e3,e4,e5⟩:=rt_ h
     refine ⟨d+1,by omega,e2,by simp only [tk_];rw [if_neg hne,e3],fun v key'=> ?_,fun v i=> ?_⟩
     ·simp only [List.set_cons_succ,tk_,e4]
      by_cases e:a=key'
      ·subst e;rw [if_pos rfl,if_neg hne,if_pos rfl]
      ·rw [if_neg e,if_neg e]
     ·simp only [List.set_cons_succ,a4_,hq]
      rw [e5];simp;omega
theorem od_ {β:Type} {key key':DKey} {v:β}:∀(l:List (DKey×β)),tk_ key l=none→tk_ key' (l++[(key,v)])=if key'=key then some v else tk_ key' l
  | [],_=>by
    simp only [List.nil_append,tk_]
    by_cases e:key=key'
    ·subst e;simp
    ·rw [if_neg e,if_neg (fun g=>e g.symm)]
  | (a,b)::l,h=>by
    simp only [tk_] at h
    split at h
    ·cases h
    ·rename_i hne
     simp only [List.cons_append,tk_,od_ l h]
     by_cases e:a=key'
     ·subst e;rw [if_pos rfl,if_neg hne,if_pos rfl]
     ·rw [if_neg e,if_neg e]
theorem iV_ {β:Type} {key:DKey} {v:β}:∀{l:List (DKey×β)} {i:Nat},a4_ (eN_ key) l i=none→a4_ (eN_ key) (l++[(key,v)]) i=some (i+l.length,v)
  | [],i,_=>by simp only [List.nil_append,a4_,eq_key_iff.mpr rfl];rfl
  | (a,b)::l,i,h=>by
    simp only [a4_] at h
    split at h
    ·cases h
    ·rename_i hq
     simp only [List.cons_append,a4_,hq]
     rw [iV_ h];simp;omega
def bf_ (ev:Int):List ad_→List DKey→ab_→ab_×List DKey
  | [],h,w=>(w,h)
  | p::t,h,w=>bf_ ev t (h++[pk p]) (if ((cn_ h (pk p):Int)+1)%ev=0 then aU_ w p else w)
def aQ_ (n:Int):Nat→ab_→ab_
  | 0,w=>w
  | d+1,w=>if (af_ n w.Ends).Take.Ready=[] then w else aQ_ n d (dK_ w n)
def aB_ (ev:Int) (s:ab_×List DKey):ab_×List DKey:=
  (aQ_ 2 4 (aQ_ 1 4 (bf_ ev (aG_ s.1).Flight s.2 (bg_ (aG_ s.1) [])).1),(bf_ ev (aG_ s.1).Flight s.2 (bg_ (aG_ s.1) [])).2)
def aX_ (ev:Int):Nat→ab_×List DKey→ab_×List DKey
  | 0,s=>s
  | d+1,s=>aX_ ev d (aB_ ev s)
def il_ (w:ab_) (n ev:Int):ab_:=if au_ w∧(1≤ev∧ev≤10) then (aX_ ev (min n 5000).toNat (w,[])).1 else vM_
theorem uf_ (ev:Int):∀(t:List ad_) (h:List DKey) (w:ab_),(bf_ ev t h w).2.length=h.length+t.length
  | [],h,w=>rfl
  | p::t,h,w=>by simp only [bf_,uf_ ev t];simp;omega
theorem pg_ (ev:Int):∀(t:List ad_) (h:List DKey) (w:ab_),au_ w→hK_ t→au_ (bf_ ev t h w).1
  | [],h,w,hw,_=>hw
  | p::t,h,w,hw,ht=>by
    simp only [bf_]
    refine pg_ ev t _ _ ?_ (fun x hx=>ht x (by simp [hx]))
    split
    ·exact jM_ hw (ht p (by simp)).1
    ·exact hw
theorem jP_ {n:Int} (hn:1≤n∧n≤2):∀(d:Nat) (w:ab_),au_ w→au_ (aQ_ n d w)
  | 0,w,h=>h
  | d+1,w,h=>by
    simp only [aQ_]
    split
    ·exact h
    ·exact jP_ hn d _ (kQ_ h hn)
theorem lt_ {w:ab_} (h:au_ w):au_ (bg_ w []):=g2_ h (by simp) (fun p hp=>by cases hp)
theorem rR_ {ev:Int} {s:ab_×List DKey} (h:au_ s.1):au_ (aB_ ev s).1:=
  jP_ (by omega) 4 _ (jP_ (by omega) 4 _ (pg_ ev _ _ _ (lt_ (hH_ h)) (hH_ h).2.2.2.2.2.1))
theorem rj_ {ev:Int} {s:ab_×List DKey} (h:au_ s.1):(aB_ ev s).2.length≤s.2.length+1000:=by
  unfold aB_
  dsimp only
  rw [uf_]
  have:=(hH_ h).2.2.1
  omega
theorem tQ_ {ev:Int}:∀(d:Nat) (s:ab_×List DKey),au_ s.1→au_ (aX_ ev d s).1
  | 0,s,h=>h
  | d+1,s,h=>tQ_ d _ (rR_ h)
theorem CZ_ {w:ab_} (h:au_ w) {n ev:Int} (he:1≤ev∧ev≤10):au_ (il_ w n ev):=by
  unfold il_;rw [if_pos ⟨h,he⟩];exact tQ_ _ _ h
def DN_ (m:List (DKey×Int)) (h:List DKey):Prop:=∀key,(tk_ key m).getD 0=(cn_ h key:Int)
section
variable (a b:ByteArray) (z:Int) (E2:List am_) (F2:List ad_) (G2 T2:List aa_) (Q:ab_→Prop) (r ev:Int)
theorem FA_ (hev:1≤ev∧ev≤10) (len i:Int) (m:List (DKey×Int)) (p:ad_) (L:List ad_) (w:ab_) (hw:au_ w) (hp:uR_ p) (c:Nat) (hm:a4_ (eN_ (pk p)) m 0=none∧c=0∨∃j,a4_ (eN_ (pk p)) m 0=some (j,(c:Int)))
    (go:∀w',w'=(if (c:Int)%ev=0 then aU_ w p else w)→Wp (fun k=>dt_ k r ev len (IntKind.wrap .i64 (i+1)) a z b w'.Key w'.Width w'.Forged m L E2 F2 G2 T2 w'.Ends w'.Flight w'.Given w'.Taken) Q):
    Wp (fun k=>bs_ k r ev len i a z b w.Key w.Width w.Forged m p.To p.Sent p.Bytes p.To p.Bytes L E2 F2 G2 T2 w.Ends w.Flight w.Given w.Taken) Q:=by
  have l19:∀w',w'=(if (c:Int)%ev=0 then aU_ w p else w)→Wp (fun k=>dv_ k r ev len i a z b w'.Key w'.Width w'.Forged m L E2 F2 G2 T2 w'.Ends w'.Flight w'.Given w'.Taken) Q:=fun w' e=>by
    refine Wp.step ?_
    simp only [dv_]
    exact go w' e
  refine Wp.step ?_
  simp only [bs_]
  rw [show (⟨p.To,p.Bytes⟩:DKey)=pk p from rfl]
  have br:=lz_ w hw p hp.1 (by have:=hp.2.2;omega)
  rcases hm with ⟨hm,hc⟩ | ⟨j,hm⟩
  ·subst hc
   simp only [hm,Km.optK]
   refine Wp.opt (fP_ (by omega) (by omega)) ?_
   simp only [fk_]
   refine Wp.ite (fun e=> ?_) (fun e=> ?_)
   ·refine Wp.bind br (fun x hx=> ?_)
    exact l19 x (by rw [if_pos (by simp),hx])
   ·exact l19 w (absurd (Int.zero_emod ev) e)
  ·simp only [hm,Km.optK]
   refine Wp.opt (fP_ (by omega) (by omega)) ?_
   simp only [fk_]
   refine Wp.ite (fun e=> ?_) (fun e=> ?_)
   ·refine Wp.bind br (fun x hx=> ?_)
    exact l19 x (by rw [if_pos e,hx])
   ·exact l19 w (by rw [if_neg e])
theorem Fr_ (hev:1≤ev∧ev≤10) (L:List ad_) (hL:L.length≤1000):∀(t pre:List ad_) (m:List (DKey×Int)) (h:List DKey) (w:ab_),pre++t=L→au_ w→hK_ t→DN_ m h→h.length+t.length≤10000000→
    (∀m',DN_ m' (bf_ ev t h w).2→Wp (fun k=>cj_ k r ev 1 a z b (bf_ ev t h w).1.Key (bf_ ev t h w).1.Width (bf_ ev t h w).1.Forged m' E2 F2 G2 T2 (bf_ ev t h w).1.Ends (bf_ ev t h w).1.Flight (bf_ ev t h w).1.Given (bf_ ev t h w).1.Taken) Q)→
    Wp (fun k=>dt_ k r ev (L.length:Int) (pre.length:Int) a z b w.Key w.Width w.Forged m L E2 F2 G2 T2 w.Ends w.Flight w.Given w.Taken) Q
  | [],pre,m,h,w,he,hw,ht,hm,hh,go=>by
    have he':pre=L:=by simpa using he
    refine Wp.step ?_
    simp only [dt_]
    refine Wp.dec (fun g=>by rw [he'] at g;omega) (fun _=>go m hm)
  | p::t,pre,m,h,w,he,hw,ht,hm,hh,go=>by
    have hl:pre.length+(t.length+1)≤1000:=by
      have:(pre++(p::t)).length≤1000:=by rw [he];exact hL
      simpa using this
    simp only [List.length_cons] at hh
    have hc:=tW_ h (pk p)
    have nx:∀(m':List (DKey×Int)),DN_ m' (h++[pk p])→(∃j,a4_ (eN_ (pk p)) m' 0=some (j,((cn_ h (pk p)+1:Nat):Int)))→Wp (fun k=>bs_ k r ev (L.length:Int) (pre.length:Int) a z b w.Key w.Width w.Forged m' p.To p.Sent p.Bytes p.To p.Bytes L E2 F2 G2 T2 w.Ends w.Flight w.Given w.Taken) Q:=fun m' h' hf=>by
      refine FA_ a b z E2 F2 G2 T2 Q r ev hev (L.length:Int) (pre.length:Int) m' p L w hw (ht p (by simp)) (cn_ h (pk p)+1) (.inr hf) (fun w' e=> ?_)
      rw [aW_ (n:=(pre.length:Int)+1) (by omega) (by omega)]
      have hw':au_ w':=by
        rw [e];split
        ·exact jM_ hw (ht p (by simp)).1
        ·exact hw
      have:=Fr_ hev L hL t (pre++[p]) m' (h++[pk p]) w' (by rw [←he];simp) hw' (fun x hx=>ht x (by simp [hx])) h' (by simp;omega) (by
        have e2:bf_ ev t (h++[pk p]) w'=bf_ ev (p::t) h w:=by simp only [bf_];rw [e];push_cast;rfl
        rw [e2];exact go)
      rw [show ((pre++[p]).length:Int)=(pre.length:Int)+1 by simp] at this
      exact this
    refine Wp.step ?_
    simp only [dt_]
    refine Wp.dec (fun _=> ?_) (fun g=>absurd (by rw [←he];simp;omega) g)
    rw [show idx L (pre.length:Int)=some p by rw [←he];exact aT_,show L[Int.toNat (pre.length:Int)]? =some p by rw [←he,Int.toNat_natCast];simp]
    simp only [Option.bind_some]
    rw [show (⟨p.To,p.Bytes⟩:DKey)=pk p from rfl]
    have hmp:=hm (pk p)
    cases h4:a4_ (eN_ (pk p)) m 0 with
    | none=>
      have hn:=rf_ h4
      rw [hn] at hmp
      simp only [Option.getD_none] at hmp
      have hz:cn_ h (pk p)=0:=by omega
      simp only [Km.optK,iV_ h4,Nat.zero_add,e5_,Int.toNat_natCast,r4_]
      simp only [List.getElem?_append_right (Nat.le_refl _),Nat.sub_self,List.getElem?_cons_zero,Option.bind_some,ja_]
      rw [aW_ (n:=0+1) (by omega) (by omega)]
      refine nx _ (fun key=> ?_) ⟨_,by rw [iV_ h4,hz];rfl⟩
      rw [od_ m hn,g4_]
      by_cases e:key=pk p
      ·rw [if_pos e,if_pos e,e,hz];rfl
      ·rw [if_neg e,if_neg e,hm]
    | some q=>
      obtain ⟨j,c⟩:=q
      obtain ⟨d,e1,e2,e3,e4,e5⟩:=rt_ h4
      rw [Nat.zero_add] at e1;subst e1
      rw [e3] at hmp
      simp only [Option.getD_some] at hmp
      subst hmp
      simp only [Km.optK,e5_,e2,Option.bind_some,Int.toNat_natCast,ja_]
      rw [aW_ (n:=(cn_ h (pk p):Int)+1) (by omega) (by omega)]
      refine nx _ (fun key=> ?_) ⟨_,by rw [e5];rfl⟩
      rw [e4,g4_]
      by_cases e:key=pk p
      ·rw [if_pos e,if_pos e,e];rfl
      ·rw [if_neg e,if_neg e,hm]
theorem EX_ (m:List (DKey×Int)) (n:Int) (hn:1≤n∧n≤2):∀(d:Nat) (i:Int) (w:ab_),i+d=4→0≤i→au_ w→
    (Wp (fun k=>cj_ k r ev (IntKind.wrap .i64 (n+1)) a z b (aQ_ n d w).Key (aQ_ n d w).Width (aQ_ n d w).Forged m E2 F2 G2 T2 (aQ_ n d w).Ends (aQ_ n d w).Flight (aQ_ n d w).Given (aQ_ n d w).Taken) Q)→
    Wp (fun k=>ep_ k r ev n i a z b w.Key w.Width w.Forged m E2 F2 G2 T2 w.Ends w.Flight w.Given w.Taken) Q
  | 0,i,w,hi,h0,hw,go=>by
    refine Wp.step ?_
    simp only [ep_]
    refine Wp.dec (fun g=>by omega) (fun _=>go)
  | d+1,i,w,hi,h0,hw,go=>by
    refine Wp.step ?_
    simp only [ep_]
    refine Wp.dec (fun _=> ?_) (fun g=>by omega)
    obtain ⟨a1,a2,a3⟩:=id_ hw.2.2.2.2.1 hn
    simp only [a1,a2,Option.bind_some]
    simp only [aQ_] at go
    refine Wp.dec (fun g=> ?_) (fun g=> ?_)
    ·rw [if_neg (fun e=>by rw [e] at g;simp at g)] at go
     refine Wp.bind (ne_ w hw n hn) (fun x hx=> ?_);subst hx
     rw [aW_ (n:=i+1) (by omega) (by omega)]
     exact EX_ m n hn d (i+1) (dK_ w n) (by omega) (by omega) (kQ_ hw hn) go
    ·rw [if_pos (by apply List.eq_nil_of_length_eq_zero;omega)] at go
     exact go
theorem ic7 (hev:1≤ev∧ev≤10):∀(d:Nat) (m:List (DKey×Int)) (s:ab_×List DKey),au_ s.1→DN_ m s.2→s.2.length+1000*d≤9000000→d≤9000→
    Wp (fun k=>dn_ k (d:Int) ev a z b s.1.Key s.1.Width s.1.Forged m E2 F2 G2 T2 s.1.Ends s.1.Flight s.1.Given s.1.Taken) (· =(aX_ ev d s).1)
  | 0,m,s,hs,hm,hl,hd=>by
    refine Wp.step ?_
    simp only [dn_]
    refine Wp.dec (fun g=>by omega) (fun _=>Wp.ret rfl)
  | d+1,m,s,hs,hm,hl,hd=>by
    refine Wp.step ?_
    simp only [dn_]
    refine Wp.dec (fun _=> ?_) (fun g=>by omega)
    refine Wp.bind (ng_ s.1 hs) (fun x hx=> ?_);subst hx
    have ht:=hH_ hs
    have htl:=ht.2.2.1
    refine Fr_ a b z E2 F2 G2 T2 _ ((d+1:Nat):Int) ev hev (aG_ s.1).Flight htl (aG_ s.1).Flight [] m s.2 (bg_ (aG_ s.1) []) rfl (lt_ ht) ht.2.2.2.2.2.1 hm (by omega) (fun m' hm'=> ?_)
    have hf:=pg_ ev (aG_ s.1).Flight s.2 (bg_ (aG_ s.1) []) (lt_ ht) ht.2.2.2.2.2.1
    refine Wp.step ?_
    simp only [cj_]
    refine Wp.dec (fun _=> ?_) (fun g=>by omega)
    refine EX_ a b z E2 F2 G2 T2 _ ((d+1:Nat):Int) ev m' 1 (by omega) 4 0 _ (by omega) (by omega) hf ?_
    rw [show IntKind.wrap .i64 (1+1)=2 by rfl]
    refine Wp.step ?_
    simp only [cj_]
    refine Wp.dec (fun _=> ?_) (fun g=>by omega)
    refine EX_ a b z E2 F2 G2 T2 _ ((d+1:Nat):Int) ev m' 2 (by omega) 4 0 _ (by omega) (by omega) (jP_ (by omega) 4 _ hf) ?_
    rw [show IntKind.wrap .i64 (2+1)=3 by rfl]
    refine Wp.step ?_
    simp only [cj_]
    refine Wp.dec (fun g=>by omega) (fun _=> ?_)
    rw [aW_ (n:=((d+1:Nat):Int)-1) (by omega) (by omega),show ((d+1:Nat):Int)-1=(d:Int) by omega]
    have hlen:=rj_ (ev:=ev) hs
    exact ic7 hev d m' (aB_ ev s) (rR_ hs) hm' (by omega) (by omega)
end
theorem u3_ (w:ab_) (hb:w.Given.length≤1048576∧w.Taken.length≤1048576) (n ev:Int):Wp (fun k=>lM_ k w n ev) (· =il_ w n ev):=by
  unfold lM_ il_
  refine Wp.bind (df_ w hb) (fun _ e=> ?_);subst e
  refine Wp.not (fun h=>Wp.ret (by rw [if_neg (fun g=>of_decide_eq_false h g.1)];rfl)) (fun h=> ?_)
  have hv:=of_decide_eq_true h
  refine Wp.dec (fun h=>Wp.ret (by rw [if_neg (fun g=>by omega)];rfl)) (fun h1=> ?_)
  refine Wp.dec (fun h=>Wp.ret (by rw [if_neg (fun g=>by omega)];rfl)) (fun h2=> ?_)
  rw [if_pos ⟨hv,by omega⟩]
  refine Wp.bind (m1_ w hv) (fun _ e=> ?_);have e'':=e.symm;subst e''
  have hm:DN_ [] []:=fun key=>rfl
  refine Wp.dec (fun h=> ?_) (fun h=> ?_)
  ·rw [show min n 5000=5000 by omega]
   exact ic7 noB noB 0 [] [] [] [] ev (by omega) 5000 [] (w,[]) hv hm (by simp) (by omega)
  ·by_cases h0:0≤n
   ·have:=ic7 noB noB 0 [] [] [] [] ev (by omega) n.toNat [] (w,[]) hv hm (by simp;omega) (by omega)
    rw [show min n 5000=n by omega]
    rw [Int.toNat_of_nonneg h0] at this
    exact this
   ·rw [show (min n 5000).toNat=0 by omega]
    refine Wp.step ?_
    simp only [dn_]
    refine Wp.dec (fun g=>by omega) (fun _=>Wp.ret rfl)
end Km.X
namespace Km.X
open Go Km
set_option linter.unusedVariables false
set_option linter.unusedSimpArgs false
def vl_ (c:aI_):DKey:=⟨c.to,c.bytes⟩
def lQ_ (key:DKey):List aI_→Int
  | []=>0
  | c::l=>if vl_ c=key then c.n else lQ_ key l
def Dg_ (S:List aI_) (h:List DKey):Prop:=∀key,lQ_ key S=(cn_ h key:Int)
theorem jB_ {key:DKey} {l:List aI_}:∀{pre:List aI_},(∀c∈pre,vl_ c≠key)→lQ_ key (pre++l)=lQ_ key l
  | [],_=>rfl
  | c::pre,h=>by
    simp only [List.cons_append,lQ_]
    rw [if_neg (h c (by simp)),jB_ (fun x hx=>h x (by simp [hx]))]
theorem sm_ {key:DKey} {l l':List aI_} (h:lQ_ key l=lQ_ key l'):∀(pre:List aI_),lQ_ key (pre++l)=lQ_ key (pre++l')
  | []=>h
  | c::pre=>by
    simp only [List.cons_append,lQ_]
    rw [sm_ h pre]
theorem set_mid {α:Type} (pre t:List α) (y y':α):(pre++y::t).set pre.length y'=pre++y'::t:=by simp
theorem ok_ (ev:Int) (hev:1≤ev∧ev≤10) (p:ad_) (S:List aI_) (hS:S.length≤20000000) (hb:0≤lQ_ (pk p) S∧lQ_ (pk p) S≤20000000):∀(t pre:List aI_),pre++t=S→(∀c∈pre,vl_ c≠pk p)→
    Wp (fun k=>bG_ k ev (pre.length:Int) S p.To p.Sent p.Bytes) (fun r=>r.2=decide ((lQ_ (pk p) S+1)%ev=0)∧(∀key,lQ_ key r.1=if key=pk p then lQ_ (pk p) S+1 else lQ_ key S)∧r.1.length≤S.length+1)
  | [],pre,he,hn=>by
    have he':pre=S:=by simpa using he
    refine Wp.step ?_
    simp only [bG_]
    refine Wp.dec (fun g=>by rw [he'] at g;omega) (fun _=> ?_)
    refine Wp.opt (aV_ (by simp;omega)) ?_
    have h0:lQ_ (pk p) S=0:=by rw [←he,jB_ hn];rfl
    refine Wp.ret ⟨?_,fun key=> ?_,by simp⟩
    ·dsimp only
     rw [h0,Bool.eq_iff_iff]
     simp only [beq_iff_eq,decide_eq_true_eq]
     constructor
     ·intro e;subst e;rfl
     ·intro e
      by_cases h1:ev=1
      ·exact h1
      ·rw [Int.emod_eq_of_lt (by omega) (by omega)] at e;omega
    ·by_cases e:key=pk p
     ·rw [if_pos e,e,h0,←he',jB_ hn]
      simp [lQ_,vl_,pk]
     ·rw [if_neg e]
      have:lQ_ key ([(⟨p.To,p.Bytes,1⟩:aI_)])=lQ_ key []:=by
        simp only [lQ_];rw [if_neg (fun g=>e g.symm)]
      have:=sm_ this S
      simpa using this
  | y::t,pre,he,hn=>by
    have hl:pre.length+(t.length+1)≤20000000:=by
      have:(pre++(y::t)).length≤20000000:=by rw [he];exact hS
      simpa using this
    refine Wp.step ?_
    simp only [bG_]
    refine Wp.dec (fun _=> ?_) (fun g=>absurd (by rw [←he];simp;omega) g)
    have i1:idx S (pre.length:Int)=some y:=by rw [←he];exact aT_
    have i2:S[Int.toNat (pre.length:Int)]? =some y:=by rw [←he,Int.toNat_natCast];simp
    simp only [i1,i2,Option.bind_some,fk_,no_]
    have nx:vl_ y≠pk p→Wp (fun k=>bG_ k ev (IntKind.wrap .i64 ((pre.length:Int)+1)) S p.To p.Sent p.Bytes) (fun r=>r.2=decide ((lQ_ (pk p) S+1)%ev=0)∧(∀key,lQ_ key r.1=if key=pk p then lQ_ (pk p) S+1 else lQ_ key S)∧r.1.length≤S.length+1):=fun hne=>by
      rw [aW_ (n:=(pre.length:Int)+1) (by omega) (by omega)]
      have:=ok_ ev hev p S hS hb t (pre++[y]) (by rw [←he];simp) (fun c hc=>by
        simp only [List.mem_append,List.mem_cons,List.not_mem_nil,or_false] at hc
        rcases hc with hc | rfl
        ·exact hn c hc
        ·exact hne)
      rw [show ((pre++[y]).length:Int)=(pre.length:Int)+1 by simp] at this
      exact this
    refine Wp.ite (fun e1=> ?_) (fun e1=>nx (fun g=>e1 (congrArg DKey.to g)))
    refine Wp.ite (fun e2=> ?_) (fun e2=>nx (fun g=>e2 (congrArg DKey.bytes g)))
    have hk:vl_ y=pk p:=by simp [vl_,pk,e1,e2]
    have hy:lQ_ (pk p) S=y.n:=by rw [←he,jB_ hn];simp only [lQ_];rw [if_pos hk]
    rw [aW_ (n:=y.n+1) (by omega) (by omega)]
    have es:∀y':aI_,S.set (Int.toNat (pre.length:Int)) y'=pre++y'::t:=fun y'=>by rw [Int.toNat_natCast,←he];exact set_mid pre t y y'
    simp only [es]
    have j1:∀y':aI_,idx (pre++y'::t) (pre.length:Int)=some y':=fun y'=>aT_
    have j2:∀y':aI_,(pre++y'::t)[Int.toNat (pre.length:Int)]? =some y':=fun y'=>by rw [Int.toNat_natCast];simp
    simp only [j1,j2,Option.bind_some]
    refine Wp.opt (fP_ (by omega) (by omega)) ?_
    refine Wp.ret ⟨?_,fun key=> ?_,by rw [←he];simp⟩
    ·dsimp only
     rw [hy,Bool.eq_iff_iff];simp
    ·dsimp only
     by_cases e:key=pk p
     ·rw [if_pos e,e,hy,jB_ hn]
      simp only [lQ_]
      rw [if_pos (by rw [←hk];rfl)]
     ·rw [if_neg e,←he]
      apply sm_
      simp only [lQ_]
      rw [if_neg (fun g=>e (by rw [←g,←hk];rfl)),if_neg (fun g=>e (by rw [←g,←hk]))]
theorem zV_ (ev:Int) (hev:1≤ev∧ev≤10) (p:ad_) (S:List aI_) (h:List DKey) (hc:Dg_ S h) (hS:S.length≤h.length) (hh:h.length≤10000000):Wp (fun k=>gA_ k S p ev) (fun r=>r.2=decide (((cn_ h (pk p):Int)+1)%ev=0)∧Dg_ r.1 (h++[pk p])∧r.1.length≤(h++[pk p]).length):=by
  unfold gA_
  have hk:=tW_ h (pk p)
  have hb:=hc (pk p)
  refine (ok_ ev hev p S (by omega) (by omega) S [] rfl (fun c hc=>by cases hc)).mono fun r hr=> ?_
  refine ⟨by rw [hr.1,hb],fun key=> ?_,by have:=hr.2.2;simp;omega⟩
  rw [hr.2.1,g4_]
  by_cases e:key=pk p
  ·rw [if_pos e,if_pos e,hb,e];rfl
  ·rw [if_neg e,if_neg e,hc]
theorem is_ (w:ab_) (fl:List ad_) (p:ad_):aU_ (bg_ w fl) p=bg_ (aU_ w p) fl:=by
  unfold aU_
  by_cases h:(hX_ p.Bytes w.Key w.Width).2=true
  ·rw [if_pos (show (hX_ p.Bytes (bg_ w fl).Key (bg_ w fl).Width).2=true from h),if_pos h];rfl
  ·rw [if_neg (show¬(hX_ p.Bytes (bg_ w fl).Key (bg_ w fl).Width).2=true from h),if_neg h]
theorem A8_ (w:ab_) (p:ad_):(aU_ w p).Flight=w.Flight:=by unfold aU_;split<;>rfl
theorem lv_ (ev:Int):∀(t:List ad_) (h:List DKey) (w:ab_),(bf_ ev t h w).1.Flight=w.Flight
  | [],h,w=>rfl
  | p::t,h,w=>by
    simp only [bf_,lv_ ev t]
    split
    ·exact A8_ w p
    ·rfl
theorem rG_ (w:ab_) (n:Int) (x y:Int) (t:ByteArray):j3_ w ⟨11,n,x,y,t⟩=dK_ w n:=by
  unfold j3_;dsimp only;rw [if_neg (by omega),if_neg (by omega),if_neg (by omega)]
section
variable (a b:ByteArray) (z:Int) (E2:List am_) (F2:List ad_) (G2 T2:List aa_) (Q:ab_→Prop) (r ev i:Int)
theorem sc9 (hev:1≤ev∧ev≤10):∀(t:List ad_) (S:List aI_) (h:List DKey) (w:ab_),au_ w→hK_ t→t.length≤1000→Dg_ S h→S.length≤h.length→h.length+t.length≤10000000→
    (∀S',Dg_ S' (bf_ ev t h w).2→S'.length≤(bf_ ev t h w).2.length→Wp (fun k=>cl_ k r ev i 1 a z b (bf_ ev t h w).1.Key (bf_ ev t h w).1.Width (bf_ ev t h w).1.Forged S' E2 F2 G2 T2 (bf_ ev t h w).1.Ends [] (bf_ ev t h w).1.Given (bf_ ev t h w).1.Taken) Q)→
    Wp (fun k=>d5_ k r ev i a z b w.Key w.Width w.Forged S E2 F2 G2 T2 w.Ends t w.Given w.Taken) Q
  | [],S,h,w,hw,ht,hl,hc,hS,hh,go=>by
    refine Wp.step ?_
    simp only [d5_]
    refine Wp.dec (fun g=>by simp at g) (fun _=>go S hc hS)
  | p::t,S,h,w,hw,ht,hl,hc,hS,hh,go=>by
    simp only [List.length_cons] at hl hh
    refine Wp.step ?_
    simp only [d5_]
    refine Wp.dec (fun _=> ?_) (fun g=>absurd (by simp) g)
    rw [show idx (p::t) 0=some p from rfl,show (p::t)[Int.toNat 0]? =some p from rfl]
    simp only [Option.bind_some]
    have hwf:au_ (bg_ w (p::t)):=g2_ hw (by simp;omega) ht
    refine Wp.bind (zV_ ev hev p S h hc hS (by omega)) ?_
    rintro ⟨S',ps⟩ ⟨e1,e2,e3⟩
    dsimp only at e1 e2 e3⊢
    simp only [bf_] at go
    refine Wp.bif (fun hp=> ?_) (fun hp=> ?_)
    ·rw [hp] at e1
     rw [if_pos (of_decide_eq_true e1.symm)] at go
     have hb:=ie_ (bg_ w (p::t)) hwf 0 (p:=p) rfl
     refine Wp.bind hb (fun x hx=> ?_)
     have hx':x=bg_ (aU_ w p) t:=by rw [hx,←is_];rfl
     subst hx'
     exact sc9 hev t S' (h++[pk p]) (aU_ w p) (jM_ hw (ht p (by simp)).1) (fun x hx=>ht x (by simp [hx])) (by omega) e2 e3 (by simp;omega) go
    ·rw [hp] at e1
     rw [if_neg (of_decide_eq_false e1.symm)] at go
     refine Wp.bind (l1_ (p::t) 0 (by simp) (by simp;omega)) (fun x hx=> ?_)
     have hx':x=t:=hx
     subst hx'
     exact sc9 hev x S' (h++[pk p]) w hw (fun x hx=>ht x (by simp [hx])) (by omega) e2 e3 (by simp;omega) go
theorem Fh_ (S:List aI_) (n:Int) (hn:1≤n∧n≤2):∀(d:Nat) (j:Int) (w:ab_),j+d=4→0≤j→au_ w→
    (Wp (fun k=>cl_ k r ev i (IntKind.wrap .i64 (n+1)) a z b (aQ_ n d w).Key (aQ_ n d w).Width (aQ_ n d w).Forged S E2 F2 G2 T2 (aQ_ n d w).Ends (aQ_ n d w).Flight (aQ_ n d w).Given (aQ_ n d w).Taken) Q)→
    Wp (fun k=>et_ k r ev i n j a z b w.Key w.Width w.Forged S E2 F2 G2 T2 w.Ends w.Flight w.Given w.Taken) Q
  | 0,j,w,hi,h0,hw,go=>by
    refine Wp.step ?_
    simp only [et_]
    refine Wp.dec (fun g=>by omega) (fun _=>go)
  | d+1,j,w,hi,h0,hw,go=>by
    refine Wp.step ?_
    simp only [et_]
    refine Wp.dec (fun _=> ?_) (fun g=>by omega)
    obtain ⟨a1,a2,a3⟩:=id_ hw.2.2.2.2.1 hn
    simp only [a1,a2,Option.bind_some]
    simp only [aQ_] at go
    refine Wp.dec (fun g=> ?_) (fun g=> ?_)
    ·rw [if_neg (fun e=>by rw [e] at g;simp at g)] at go
     refine Wp.bind (rs_ w hw ⟨11,n,0,0,noB⟩ (by dsimp only;omega) hn) (fun x hx=> ?_)
     rw [rG_] at hx;subst hx
     rw [aW_ (n:=j+1) (by omega) (by omega)]
     exact Fh_ S n hn d (j+1) (dK_ w n) (by omega) (by omega) (kQ_ hw hn) go
    ·rw [if_pos (by apply List.eq_nil_of_length_eq_zero;omega)] at go
     exact go
theorem sc6 (hev:1≤ev∧ev≤10):∀(d:Nat) (i:Int) (S:List aI_) (s:ab_×List DKey),d=(min r 5000-i).toNat→0≤i∧i≤5000→au_ s.1→Dg_ S s.2→S.length≤s.2.length→s.2.length+1000*d≤9000000→
    Wp (fun k=>fg_ k r ev i a z b s.1.Key s.1.Width s.1.Forged S E2 F2 G2 T2 s.1.Ends s.1.Flight s.1.Given s.1.Taken) (· =(aX_ ev d s).1)
  | 0,i,S,s,hd,hi,hs,hm,hS,hl=>by
    refine Wp.step ?_
    simp only [fg_]
    have cp:Wp (fun k=>(en_ k s.1).bind fun x=>some x) (· =(aX_ ev 0 s).1):=by
      refine Wp.bind (jn_ s.1 hs) (fun x hx=> ?_)
      exact Wp.ret hx
    refine Wp.dec (fun g=> ?_) (fun _=>cp)
    refine Wp.dec (fun g=>by omega) (fun _=>cp)
  | d+1,i,S,s,hd,hi,hs,hm,hS,hl=>by
    refine Wp.step ?_
    simp only [fg_]
    refine Wp.dec (fun _=> ?_) (fun g=>by omega)
    refine Wp.dec (fun _=> ?_) (fun g=>by omega)
    refine Wp.bind (jc_ s.1 hs) (fun x hx=> ?_);subst hx
    have ht:=hH_ hs
    have htl:=ht.2.2.1
    refine sc9 a b z E2 F2 G2 T2 _ r ev i hev (aG_ s.1).Flight S s.2 (bg_ (aG_ s.1) []) (lt_ ht) ht.2.2.2.2.2.1 htl hm hS (by omega) (fun S' hm' hS'=> ?_)
    have hf:=pg_ ev (aG_ s.1).Flight s.2 (bg_ (aG_ s.1) []) (lt_ ht) ht.2.2.2.2.2.1
    have hfl:(bf_ ev (aG_ s.1).Flight s.2 (bg_ (aG_ s.1) [])).1.Flight=[]:=lv_ ev _ _ _
    generalize hX:bf_ ev (aG_ s.1).Flight s.2 (bg_ (aG_ s.1) [])=X at hf hfl hm' hS'⊢
    rw [←hfl]
    refine Wp.step ?_
    simp only [cl_]
    refine Wp.dec (fun _=> ?_) (fun g=>by omega)
    refine Fh_ a b z E2 F2 G2 T2 _ r ev i S' 1 (by omega) 4 0 _ (by omega) (by omega) hf ?_
    rw [show IntKind.wrap .i64 (1+1)=2 by rfl]
    refine Wp.step ?_
    simp only [cl_]
    refine Wp.dec (fun _=> ?_) (fun g=>by omega)
    refine Fh_ a b z E2 F2 G2 T2 _ r ev i S' 2 (by omega) 4 0 _ (by omega) (by omega) (jP_ (by omega) 4 _ hf) ?_
    rw [show IntKind.wrap .i64 (2+1)=3 by rfl]
    refine Wp.step ?_
    simp only [cl_]
    refine Wp.dec (fun g=>by omega) (fun _=> ?_)
    rw [aW_ (n:=i+1) (by omega) (by omega)]
    have hlen:=rj_ (ev:=ev) hs
    subst hX
    exact sc6 hev d (i+1) S' (aB_ ev s) (by omega) (by omega) (rR_ hs) hm' hS' (by omega)
end
theorem vf_ (w:ab_) (hb:w.Given.length≤1048576∧w.Taken.length≤1048576) (n ev:Int):Wp (fun k=>lX_ k w n ev) (· =il_ w n ev):=by
  unfold lX_ il_
  refine Wp.bind (eq_ w hb) (fun _ e=> ?_);subst e
  refine Wp.not (fun h=>Wp.ret (by rw [if_neg (fun g=>of_decide_eq_false h g.1)];rfl)) (fun h=> ?_)
  have hv:=of_decide_eq_true h
  refine Wp.bind (bN_ _ _ _) (fun _ e=> ?_);subst e
  refine Wp.not (fun h=> ?_) (fun h=> ?_)
  ·simp only [Bool.and_eq_false_iff,decide_eq_false_iff_not] at h
   exact Wp.ret (by rw [if_neg (fun g=>by omega)];rfl)
  simp only [Bool.and_eq_true,decide_eq_true_eq] at h
  rw [if_pos ⟨hv,h⟩]
  refine Wp.bind (jn_ w hv) (fun _ e=> ?_);have e'':=e.symm;subst e''
  exact sc6 noB noB 0 [] [] [] [] n ev h (min n 5000).toNat 0 [] (w,[]) (by omega) (by omega) hv (fun key=>rfl) (by simp) (by simp;omega)
end Km.X
namespace Km.X
open Go Km
set_option linter.unusedVariables false
set_option linter.unusedSimpArgs false
def ed_:List az_→ByteArray→List ByteArray→List ByteArray×ByteArray×Bool
  | [],o,out=>(out,o,true)
  | p::ps,o,out=>if 20<p.Text.size∨200<o.size+p.Text.size then ([],noB,false) else if p.Last then ed_ ps noB (out++[o++p.Text]) else ed_ ps (o++p.Text) out
theorem rK_:∀(t:List az_) (o:ByteArray) (out:List ByteArray),o.size≤200→(∀y∈out,y.size≤200)→((ed_ t o out).1.length≤out.length+t.length)∧(∀y∈(ed_ t o out).1,y.size≤200)∧(ed_ t o out).2.1.size≤200
  | [],o,out,ho,hout=>⟨by simp [ed_],hout,ho⟩
  | x::t,o,out,ho,hout=>by
    simp only [ed_]
    split
    ·exact ⟨by simp,fun y hy=>by simp at hy,by simp [d0_]⟩
    ·rename_i h
     split
     ·have:=rK_ t noB (out++[o++x.Text]) (by simp [d0_]) (fun y hy=>by
        simp only [List.mem_append,List.mem_singleton] at hy
        rcases hy with hy | rfl
        ·exact hout y hy
        ·rw [aC_];omega)
      refine ⟨?_,this.2⟩
      have h1:=this.1
      simp only [List.length_append,List.length_cons,List.length_nil] at h1⊢
      omega
     ·have:=rK_ t (o++x.Text) out (by rw [aC_];omega) hout
      refine ⟨?_,this.2⟩
      have h1:=this.1
      simp only [List.length_cons] at h1⊢
      omega
end Km.X
namespace Km.X
open Go Km
set_option linter.unusedVariables false
set_option linter.unusedSimpArgs false
theorem rc_ {y:Int} (h:mt_ y):0≤y∧y≤255:=by
  unfold mt_ at h
  simp [Lit.wf,IntKind.min,IntKind.max,IntKind.signed,IntKind.bits] at h
  omega
def Rd (n:Int) (r:as_):Prop:=r.b.length≤2000∧(∀y∈r.b,0≤y∧y≤255)∧0≤r.p∧r.p≤n
theorem Rd.mono {n m:Int} {r:as_} (h:Rd n r) (hm:n≤m):Rd m r:=⟨h.1,h.2.1,h.2.2.1,by have:=h.2.2.2;omega⟩
theorem Dm_ (n m:Nat) (hn:n<2^62) (hm:m<2^62):je_ .i64 (n:Int) (m:Int)=((n^^^m:Nat):Int):=by
  have e:∀m:Nat,BitVec.ofInt 64 (m:Int)=BitVec.ofNat 64 m:=fun m=>by
    apply BitVec.eq_of_toNat_eq
    simp [BitVec.toNat_ofInt]
  have hx:=Nat.xor_lt_two_pow hn hm
  show IntKind.wrap .i64 ((BitVec.ofInt 64 ((n:Nat):Int)^^^BitVec.ofInt 64 ((m:Nat):Int)).toNat:Int)=_
  rw [e,e,BitVec.toNat_xor,BitVec.toNat_ofNat,BitVec.toNat_ofNat,Nat.mod_eq_of_lt (by omega),Nat.mod_eq_of_lt (by omega)]
  exact aW_ (by omega) (by omega)
theorem vh_ {xs:List Int} {i:Int} (h:0≤i) (h':i<xs.length):∃y∈xs,idx xs i=some y:=by
  have hlt:i.toNat<xs.length:=by omega
  have:=s0_ hlt
  rw [Int.toNat_of_nonneg h] at this
  exact ⟨_,List.getElem_mem hlt,this⟩
theorem cE_ (r:as_) (n a:Int) (h:Rd n r) (hn:n≤1000000) (ha:1≤a∧a≤1000000):Wp (fun k=>ah_ k r a) (fun v=>(0≤v.1∧v.1<a)∧Rd (n+1) v.2):=by
  obtain ⟨h1,h2,h3,h4⟩:=h
  have R1:Rd (n+1) ⟨r.b,r.p+1⟩:=⟨h1,h2,by simp only;omega,by simp only;omega⟩
  unfold ah_
  rw [aW_ (n:=r.p+1) (by omega) (by omega),aW_ (n:=r.p+1-1) (by omega) (by omega),show r.p+1-1=r.p by omega]
  simp only [al_,fk_]
  refine Wp.ite (fun h=>by omega) (fun _=> ?_)
  refine Wp.ite (fun h=>Wp.ret ⟨⟨by omega,by omega⟩,R1⟩) (fun h5=> ?_)
  refine Wp.ite (fun h6=> ?_) (fun h6=> ?_)
  ·obtain ⟨y,hy,e⟩:=vh_ h3 h6
   have hy:=h2 y hy
   refine Wp.opt e ?_
   rw [aW_ (by omega) (by omega)]
   refine Wp.opt (fP_ (by omega) (by omega)) ?_
   exact Wp.ret ⟨⟨Int.emod_nonneg _ (by omega),Int.emod_lt_of_pos _ (by omega)⟩,R1⟩
  ·refine Wp.opt (fP_ h3 (by omega)) ?_
   obtain ⟨y,hy,e⟩:=vh_ (xs:=r.b) (Int.emod_nonneg r.p (b:=r.b.length) (by omega)) (Int.emod_lt_of_pos _ (by omega))
   have hy:=h2 y hy
   refine Wp.opt e ?_
   rw [aW_ (n:=r.p*7) (by omega) (by omega),aW_ (n:=r.p*7+3) (by omega) (by omega)]
   refine Wp.opt (fP_ (by omega) (by omega)) ?_
   obtain ⟨z,hz,e⟩:=vh_ (xs:=r.b) (Int.emod_nonneg (r.p*7+3) (b:=r.b.length) (by omega)) (Int.emod_lt_of_pos _ (by omega))
   have hz:=h2 z hz
   refine Wp.opt e ?_
   refine Wp.opt (oP_ h3 (by omega)) ?_
   have hd0:0≤r.p/(r.b.length:Int):=Int.ediv_nonneg h3 (by omega)
   have hd1:r.p/(r.b.length:Int)≤r.p:=Int.ediv_le_self _ h3
   generalize r.p/(r.b.length:Int)=d at*
   rw [aW_ (n:=y) (by omega) (by omega),aW_ (n:=z) (by omega) (by omega),aW_ (n:=d) (by omega) (by omega),aW_ (n:=y*131) (by omega) (by omega),aW_ (n:=z*1117) (by omega) (by omega),aW_ (n:=r.p*29) (by omega) (by omega),aW_ (n:=d*53) (by omega) (by omega),aW_ (n:=y*131+z*1117) (by omega) (by omega),aW_ (n:=y*131+z*1117+r.p*29) (by omega) (by omega),aW_ (n:=y*131+z*1117+r.p*29+d*53) (by omega) (by omega)]
   have hv:0≤y*131+z*1117+r.p*29+d*53∧y*131+z*1117+r.p*29+d*53≤1000000000:=by omega
   generalize y*131+z*1117+r.p*29+d*53=v at*
   refine Wp.opt (oP_ hv.1 (by omega)) ?_
   rw [aW_ (n:=v/64) (by omega) (by omega)]
   obtain ⟨m,rfl⟩:=Int.eq_ofNat_of_zero_le hv.1
   rw [show ((m:Int)/64)=((m/64:Nat):Int) by omega,Dm_ _ _ (by omega) (by omega)]
   refine Wp.opt (fP_ (by omega) (by omega)) ?_
   exact Wp.ret ⟨⟨Int.emod_nonneg _ (by omega),Int.emod_lt_of_pos _ (by omega)⟩,R1⟩
theorem BZ_ (a:List Int) (h:∀y∈a,mt_ y):Wp (fun k=>ir_ k a) (Rd 0):=by
  unfold ir_
  simp only [al_]
  refine Wp.ite (fun h1=> ?_) (fun h1=> ?_)
  ·refine Wp.opt (cy_ (by omega)) ?_
   refine Wp.step ?_
   simp only [eJ_]
   refine Wp.ret ⟨by simp [dX_];omega,fun y hy=>rc_ (h y ?_),by simp,by simp⟩
   simp only [dX_] at hy
   exact List.mem_of_mem_take (List.mem_of_mem_drop hy)
  ·refine Wp.step ?_
   simp only [eJ_]
   exact Wp.ret ⟨by simp only;omega,fun y hy=>rc_ (h y hy),by simp,by simp⟩
theorem tX_:∀(n:Nat) (s acc:ByteArray),n≤1000000→acc.size+s.size*n≤1000000→Wp (fun k=>c2_ k s (n:Int) acc) (fun r=>r.size=acc.size+s.size*n)
  | 0,s,acc,hn,h=>by
    refine Wp.step ?_
    simp only [c2_]
    simp (disch:=omega) only [al_,if_neg]
    exact Wp.ret (by simp)
  | n+1,s,acc,hn,h=>by
    have hs:s.size≤s.size*(n+1):=Nat.le_mul_of_pos_right _ (by omega)
    have hle:(s++s).size*((n+1)/2)+s.size*((n+1)%2)=s.size*(n+1):=by
      rw [aC_]
      have:=Nat.div_add_mod (n+1) 2
      calc (s.size+s.size)*((n+1)/2)+s.size*((n+1)%2)=s.size*(2*((n+1)/2)+(n+1)%2):=by rw [Nat.mul_add,←Nat.two_mul,Nat.mul_comm 2 s.size,Nat.mul_assoc]
        _=s.size*(n+1):=by rw [this]
    have G:∀acc':ByteArray,acc'.size=acc.size+s.size*((n+1)%2)→Wp (fun k=>eG_ k s ((n+1:Nat):Int) acc') (fun r=>r.size=acc.size+s.size*(n+1)):=fun acc' h'=>by
      refine Wp.step ?_
      simp only [eG_]
      refine Wp.opt (bL_ (by omega)) ?_
      refine Wp.opt (oP_ (by omega) (by omega)) ?_
      rw [aW_ (by omega) (by omega),show ((n+1:Nat):Int)/2=(((n+1)/2:Nat):Int) by omega]
      exact (tX_ ((n+1)/2) (s++s) acc' (by omega) (by omega)).mono fun r hr=>by rw [hr];omega
    refine Wp.step ?_
    simp only [c2_]
    simp (disch:=omega) only [al_,if_pos,fk_]
    refine Wp.opt (fP_ (by omega) (by omega)) ?_
    refine Wp.ite (fun h1=> ?_) (fun h1=> ?_)
    ·have e:(n+1)%2=1:=by omega
     refine Wp.opt (bL_ (by omega)) ?_
     exact G _ (by rw [aC_,e];omega)
    ·have e:(n+1)%2=0:=by omega
     exact G _ (by rw [e];omega)
theorem pL_ (s:ByteArray) (n:Int) (B:Nat) (hB:B≤1000000) (h:s.size*n.toNat≤B) (hn1:n≤1000000):Wp (fun k=>ef_ k s n) (fun r=>r.size≤B):=by
  unfold ef_
  by_cases hn:0≤n
  ·have e0:(⟨#[]⟩:ByteArray).size=0:=rfl
   have:=tX_ n.toNat s (⟨#[]⟩:ByteArray) (by omega) (by rw [e0];omega)
   rw [Int.toNat_of_nonneg hn] at this
   exact this.mono fun r hr=>by rw [hr,e0];omega
  ·refine Wp.step ?_
   simp only [c2_]
   simp (disch:=omega) only [al_,if_neg]
   exact Wp.ret (Nat.zero_le _)
theorem mS_:∀(d:Nat) (n:Int) (r:as_) (s:ByteArray),Rd n r→n+d≤900000→s.size+d≤100→Wp (fun k=>b3_ k s (d:Int) r.b r.p) (fun v=>v.1.size≤s.size+d∧Rd (n+d) v.2)
  | 0,n,r,s,h,hn,hs=>by
    refine Wp.step ?_
    simp only [b3_]
    simp (disch:=omega) only [al_,if_neg]
    exact Wp.ret ⟨by simp,by simpa using h⟩
  | d+1,n,r,s,h,hn,hs=>by
    refine Wp.step ?_
    simp only [b3_]
    simp (disch:=omega) only [al_,if_pos]
    refine Wp.bind (cE_ r n 5 h (by omega) (by omega)) ?_
    rintro ⟨q,r'⟩ ⟨hq,hr'⟩
    have e5:(⟨#[97,98,99,100,32]⟩:ByteArray).size=5:=rfl
    simp only at hq
    dsimp only
    refine Wp.opt (cy_ (by rw [e5];omega)) ?_
    dsimp only
    refine Wp.opt (cy_ (by simp only [ByteArray.size_extract,e5];omega)) ?_
    dsimp only
    refine Wp.opt (bL_ (by simp only [ByteArray.size_extract,e5];omega)) ?_
    rw [aW_ (by omega) (by omega),show ((d+1:Nat):Int)-1=(d:Int) by omega]
    have hsz:∀u:ByteArray,(s++u.extract (0:Int).toNat (1:Int).toNat).size≤s.size+1:=fun u=>by
      rw [aC_,ByteArray.size_extract];omega
    have hz:=hsz ((⟨#[97,98,99,100,32]⟩:ByteArray).extract q.toNat (((⟨#[97,98,99,100,32]⟩:ByteArray).size:Int)).toNat)
    exact (mS_ d (n+1) r' _ hr' (by omega) (by omega)).mono fun v hv=>⟨by omega,hv.2.mono (by omega)⟩
theorem rh_ (r:as_) (n:Int) (h:Rd n r) (hn:0≤n∧n≤800000):Wp (fun k=>c3_ k r) (fun v=>v.1.size≤190∧Rd (n+40) v.2):=by
  unfold c3_
  refine Wp.bind (cE_ r n 8 h (by omega) (by omega)) ?_
  rintro ⟨q,r1⟩ ⟨hq,h1⟩
  simp only at hq
  simp only [fk_]
  refine Wp.ite (fun _=>Wp.ret ⟨Nat.zero_le _,h1.mono (by omega)⟩) (fun _=> ?_)
  refine Wp.ite (fun _=> ?_) (fun _=> ?_)
  ·refine Wp.bind (cE_ r1 _ 5 h1 (by omega) (by omega)) ?_
   rintro ⟨q2,r2⟩ ⟨hq2,h2⟩
   refine Wp.bind (cE_ r2 _ 3 h2 (by omega) (by omega)) ?_
   rintro ⟨q3,r3⟩ ⟨hq3,h3⟩
   refine Wp.bind (cE_ r3 _ 2 h3 (by omega) (by omega)) ?_
   rintro ⟨q4,r4⟩ ⟨hq4,h4⟩
   refine Wp.bind (cE_ r4 _ 2 h4 (by omega) (by omega)) ?_
   rintro ⟨q5,r5⟩ ⟨hq5,h5⟩
   simp only at hq2 hq3 hq4 hq5⊢
   have hm:0≤q4*q5∧q4*q5≤1:=by
     have:q4=0∨q4=1:=by omega
     rcases this with rfl | rfl<;>omega
   generalize q4*q5=m at*
   simp (disch:=omega) only [aW_]
   refine Wp.bind (pL_ _ _ 190 (by omega) (by show 1*_≤190;omega) (by omega)) (fun u hu=> ?_)
   exact Wp.ret ⟨hu,h5.mono (by omega)⟩
  refine Wp.ite (fun _=> ?_) (fun _=> ?_)
  ·refine Wp.bind (cE_ r1 _ 19 h1 (by omega) (by omega)) ?_
   rintro ⟨q2,r2⟩ ⟨hq2,h2⟩
   simp only at hq2⊢
   simp (disch:=omega) only [aW_]
   refine Wp.bind (pL_ _ _ 190 (by omega) (by show 10*_≤190;omega) (by omega)) (fun u hu=> ?_)
   exact Wp.ret ⟨hu,h2.mono (by omega)⟩
  refine Wp.ite (fun _=>Wp.ret ⟨by show 2≤190;omega,h1.mono (by omega)⟩) (fun _=> ?_)
  refine Wp.bind (cE_ r1 _ 30 h1 (by omega) (by omega)) ?_
  rintro ⟨q2,r2⟩ ⟨hq2,h2⟩
  simp only at hq2⊢
  simp (disch:=omega) only [aW_]
  have:=mS_ (1+q2).toNat _ r2 (⟨#[]⟩:ByteArray) h2 (by omega) (by show 0+_≤100;omega)
  rw [Int.toNat_of_nonneg (by omega)] at this
  exact this.mono fun v hv=>⟨by have:=hv.1;have e0:(⟨#[]⟩:ByteArray).size=0:=rfl;rw [e0] at this;omega,hv.2.mono (by omega)⟩
theorem pZ_ (a b c:ByteArray):a++b++c=a++(b++c):=by
  apply ByteArray.ext;apply Array.ext';simp
theorem AF_ (s:ByteArray) (i:Nat) (h:i≤s.size):s.extract 0 i++s.extract i s.size=s:=by
  apply ByteArray.ext
  simp only [ByteArray.data_append,ByteArray.data_extract]
  apply Array.ext'
  have:i≤s.data.toList.length:=h
  simp [Array.toList_extract,List.extract]
  exact List.take_of_length_le (by show s.size≤max i s.size;omega)
theorem r3_ (s:ByteArray):noB++s=s:=by
  apply ByteArray.ext;apply Array.ext';simp [noB]
theorem wM_:∀(n:Nat) (s o:ByteArray) (rest:List az_) (out:List ByteArray),s.size≤20*n→0<n→o.size+s.size≤200→ed_ (zZ_ n s++rest) o out=ed_ rest noB (out++[o++s])
  | 0,s,o,rest,out,h,h0,hs=>by omega
  | n+1,s,o,rest,out,h,h0,hs=>by
    simp only [zZ_]
    split
    ·rename_i h1
     simp only [List.cons_append,ed_]
     rw [if_neg (by rw [ByteArray.size_extract];omega)]
     simp only [Bool.false_eq_true,if_false]
     rw [wM_ n (s.extract 20 s.size) (o++s.extract 0 20) rest out (by rw [ByteArray.size_extract];omega) (by omega) (by rw [aC_,ByteArray.size_extract,ByteArray.size_extract];omega),pZ_,AF_ s 20 (by omega)]
    ·simp only [List.cons_append,List.nil_append,ed_]
     rw [if_neg (by omega)]
     simp
def Ah_ (s:ByteArray):List ByteArray:=if s.size≤200 then [s] else []
theorem y6_ (s:ByteArray) (rest:List az_) (out:List ByteArray):ed_ (qn_ s++rest) noB out=ed_ rest noB (out++Ah_ s):=by
  unfold qn_ Ah_
  split
  ·rw [if_neg (by omega)];simp
  ·rw [if_pos (by omega),wM_ 10 s noB rest out (by omega) (by omega) (by rw [d0_];omega),r3_]
theorem pe_:∀(t pre:List ByteArray),(pre++t).length≤1048576→Wp (fun k=>dS_ k (pre++t) (pre++t) (pre.length:Int)) (· =true)
  | [],pre,hl=>by
    refine Wp.step ?_
    simp only [dS_,List.append_nil]
    simp (disch:=omega) only [al_,if_neg]
    exact Wp.ret rfl
  | x::t,pre,hl=>by
    refine Wp.step ?_
    have hl':=hl
    simp only [List.length_append,List.length_cons] at hl
    simp only [dS_]
    simp only [al_,dd_,if_true,aT_,Option.bind_some,bk_,no_]
    simp (disch:=omega) only [aW_]
    have ih:=pe_ t (pre++[x]) (by simpa using hl')
    rw [←a6_,←br_] at ih
    exact ih
theorem yw_ (l:List ByteArray) (h:l.length≤1048576):Wp (fun k=>ih_ k l l) (· =true):=by
  unfold ih_
  simp only [qk_,if_true]
  exact pe_ l [] (by simpa using h)
end Km.X
namespace Km.X
open Go Km
set_option linter.unusedVariables false
set_option linter.unusedSimpArgs false
theorem uI_ {R:Type} (x:Option R):Km.both x x=x:=by unfold Km.both;rw [if_pos rfl]
theorem l7_ {α:Type} {xs:List α} {i:Int} (h:0≤i) (h':i<xs.length):∃y∈xs,idx xs i=some y∧xs[i.toNat]? =some y:=by
  have hlt:i.toNat<xs.length:=by omega
  have:=s0_ hlt
  rw [Int.toNat_of_nonneg h] at this
  exact ⟨_,List.getElem_mem hlt,this,List.getElem?_eq_getElem hlt⟩
def DSd (n:Int) (v:ak_×as_):Prop:=VSend v.1∧Rd n v.2
theorem d18 (n:Int) (r:as_) (c b:Int) (e xs:List ag_) (h:VSend ⟨b,xs⟩) (hr:Rd n r):Wp (fun k=>ek_ k r.b r.p c b e xs) (DSd n):=by
  refine Wp.step ?_
  simp only [ek_]
  refine Wp.bind (h6_ ⟨b,xs⟩ (by have:=h.1;simp only at this⊢;omega)) (fun r2 q=> ?_);rw [q]
  exact Wp.ret ⟨h,hr⟩
theorem d16 (n:Int) (r:as_) (c b m:Int) (e:List ag_) (hm:m≤60) (hr:Rd n r):∀(d:Nat) (xs:List ag_),VSend ⟨b,xs⟩→d=(m-xs.length).toNat→Wp (fun k=>d7_ k m r.b r.p c b e xs) (DSd n)
  | 0,xs,h,hd=>by
    refine Wp.step ?_
    simp only [d7_]
    simp (disch:=omega) only [al_,if_neg]
    exact d18 n r c b e xs h hr
  | d+1,xs,h,hd=>by
    refine Wp.step ?_
    simp only [d7_]
    obtain ⟨h1,h2,h3,h4⟩:=h
    simp only at h1 h2 h3
    simp (disch:=omega) only [al_,if_pos,aW_]
    refine Wp.ite (fun hb=> ?_) (fun hb=>d18 n r c b e xs ⟨h1,h2,h3,h4⟩ hr)
    refine Wp.opt (aV_ (by simp;omega)) ?_
    refine d16 n r c b m e hm hr d _ ⟨by simp;omega,h2,by simp;omega,kx_ h4 ⟨⟨?_,by simp,fun _=>rfl,fun h=>by simp at h⟩,trivial⟩⟩ (by simp;omega)
    show 1≤20
    omega
theorem d3:∀(d:Nat) (n:Int) (r:as_) (c b:Int) (e xs:List ag_),VSend ⟨b,xs⟩→Rd n r→0≤n→n+60*d≤500000→Wp (fun k=>f7_ k (d:Int) r.b r.p c b e xs) (DSd (n+60*d+10))
  | 0,n,r,c,b,e,xs,h,hr,hn0,hn=>by
    refine Wp.step ?_
    simp only [f7_]
    simp (disch:=omega) only [al_,if_neg,fk_]
    refine Wp.bind (cE_ r n 12 hr (by omega) (by omega)) ?_
    rintro ⟨q,r1⟩ ⟨hq,hr1⟩
    simp only
    refine Wp.ite (fun _=> ?_) (fun _=>d18 _ r1 c b e xs h (hr1.mono (by omega)))
    refine Wp.bind (cE_ r1 _ 3 hr1 (by omega) (by omega)) ?_
    rintro ⟨q2,r2⟩ ⟨hq2,hr2⟩
    simp only at hq2⊢
    rw [aW_ (by omega) (by omega)]
    exact d16 _ r2 c b _ e (by omega) (hr2.mono (by omega)) _ xs h rfl
  | d+1,n,r,c,b,e,xs,h,hr,hn0,hn=>by
    refine Wp.step ?_
    simp only [f7_,uI_]
    have hpos:((d+1:Nat):Int)>0:=by omega
    simp only [al_,if_pos hpos]
    have N4:∀(n':Int) (r':as_) (b':Int) (xs':List ag_),VSend ⟨b',xs'⟩→Rd n' r'→n'≤n+60→Wp (fun k=>f1_ k ((d+1:Nat):Int) r'.b r'.p c b' e xs') (DSd (n+60*(d+1:Nat)+10)):=fun n' r' b' xs' hv hr' hn'=>by
      refine Wp.step ?_
      simp only [f1_]
      rw [aW_ (by omega) (by omega),show ((d+1:Nat):Int)-1=(d:Int) by omega]
      exact (d3 d (n+60) r' c b' e xs' hv (hr'.mono hn') (by omega) (by omega)).mono fun v hv=>⟨hv.1,hv.2.mono (by omega)⟩
    have N9:∀(j:Nat) (n':Int) (r':as_) (b':Int) (xs':List ag_),j≤10→VSend ⟨b',xs'⟩→Rd n' r'→n'≤n+50→Wp (fun k=>eM_ k ((d+1:Nat):Int) (j:Int) r'.b r'.p c b' e xs') (DSd (n+60*(d+1:Nat)+10)):=by
      intro j
      induction j with
      | zero=>
        intro n' r' b' xs' hj hv hr' hn'
        refine Wp.step ?_
        simp only [eM_]
        simp (disch:=omega) only [al_,if_neg,fk_]
        refine Wp.bind (cE_ r' n' 3 hr' (by omega) (by omega)) ?_
        rintro ⟨q,r1⟩ ⟨hq,hr1⟩
        simp only
        refine Wp.ite (fun _=> ?_) (fun _=>N4 _ r1 b' xs' hv hr1 (by omega))
        refine Wp.bind (cE_ r1 _ 4 hr1 (by omega) (by omega)) ?_
        rintro ⟨q2,r2⟩ ⟨hq2,hr2⟩
        refine Wp.bind (cE_ r2 _ 256 hr2 (by omega) (by omega)) ?_
        rintro ⟨q3,r3⟩ ⟨hq3,hr3⟩
        refine Wp.bind (oR_ _ _ _) (fun _ q=> ?_);subst q
        exact N4 _ r3 _ _ (wT_ _ _ _) hr3 (by omega)
      | succ j ih=>
        intro n' r' b' xs' hj hv hr' hn'
        refine Wp.step ?_
        simp only [eM_]
        have hpos:((j+1:Nat):Int)>0:=by omega
        simp only [al_,if_pos hpos]
        refine Wp.bind (o5_ _) (fun _ q=> ?_);subst q
        rw [aW_ (by omega) (by omega),show ((j+1:Nat):Int)-1=(j:Int) by omega]
        exact ih n' r' _ _ (by omega) (n2_ _).1 hr' hn'
    have N8:∀(n':Int) (r':as_) (b':Int) (xs':List ag_),VSend ⟨b',xs'⟩→Rd n' r'→n'≤n+45→Wp (fun k=>cm_ k ((d+1:Nat):Int) r'.b r'.p c b' e xs') (DSd (n+60*(d+1:Nat)+10)):=fun n' r' b' xs' hv hr' hn'=>by
      refine Wp.step ?_
      simp only [cm_]
      refine Wp.bind (cE_ r' n' 6 hr' (by omega) (by omega)) ?_
      rintro ⟨q,r1⟩ ⟨hq,hr1⟩
      simp only at hq⊢
      have:=N9 q.toNat _ r1 b' xs' (by omega) hv hr1 (by omega)
      rwa [Int.toNat_of_nonneg hq.1] at this
    refine Wp.bind (rh_ r n hr (by omega)) ?_
    rintro ⟨u,r1⟩ ⟨hu,hr1⟩
    refine Wp.bind (pR_ _ _) (fun _ q=> ?_);subst q
    simp only [fk_]
    exact Wp.ite (fun _=>N8 _ r1 _ _ (w9_ _ _) hr1 (by omega)) (fun _=>N8 _ r1 _ _ h hr1 (by omega))
def tf_ (n:Int) (v:ak_×as_):Prop:=Rd n v.2
theorem p21 (n:Int) (r:as_) (c b:Int) (e xs:List ag_) (hr:Rd n r):Wp (fun k=>bv_ k r.b r.p c b e xs) (tf_ n):=by
  refine Wp.step ?_
  simp only [bv_]
  exact Wp.ret hr
theorem p19 (n:Int) (r:as_) (c b m:Int) (e:List ag_) (hm:m≤100) (hr:Rd n r):∀(d:Nat) (xs:List ag_),xs.length≤200→d=(m-xs.length).toNat→Wp (fun k=>dJ_ k m r.b r.p c b e xs) (tf_ n)
  | 0,xs,h,hd=>by
    refine Wp.step ?_
    simp only [dJ_]
    simp (disch:=omega) only [al_,if_neg]
    exact p21 n r c b e xs hr
  | d+1,xs,h,hd=>by
    refine Wp.step ?_
    simp only [dJ_]
    simp (disch:=omega) only [al_,if_pos]
    refine Wp.opt (aV_ (by simp;omega)) ?_
    exact p19 n r c b m e hm hr d _ (by simp;omega) (by simp;omega)
theorem p6 (n:Int) (r:as_) (c b:Int) (e:List ag_) (hr:Rd n r) (hn:n≤900000):∀(d:Nat) (xs:List ag_),xs.length≤200→d=9-xs.length→Wp (fun k=>em_ k r.b r.p c b e xs) (tf_ (n+1))
  | 0,xs,h,hd=>by
    refine Wp.step ?_
    simp only [em_]
    simp (disch:=omega) only [al_,if_neg]
    refine Wp.bind (cE_ r n 2 hr (by omega) (by omega)) ?_
    rintro ⟨q,r1⟩ ⟨hq,hr1⟩
    obtain ⟨y,_,e1,e2⟩:=l7_ (xs:=xs) (i:=8) (by omega) (by omega)
    simp only [e1,e2,Option.bind_some]
    exact p21 _ r1 c b e _ hr1
  | d+1,xs,h,hd=>by
    refine Wp.step ?_
    simp only [em_]
    simp (disch:=omega) only [al_,if_pos]
    refine Wp.opt (aV_ (by simp;omega)) ?_
    exact p6 n r c b e hr hn d _ (by simp;omega) (by simp;omega)
theorem p4 (n:Int) (r:as_) (c b:Int) (e xs:List ag_) (hr:Rd n r) (hn:n≤890000) (hx:0<xs.length∧xs.length≤100):Wp (fun k=>i7_ k r.b r.p c b e xs) (tf_ (n+10)):=by
  have L:∀(n':Int) (r':as_) (b':Int) (xs':List ag_),Rd n' r'→n'≤n+10→Wp (fun k=>bv_ k r'.b r'.p c b' e xs') (tf_ (n+10)):=fun n' r' b' xs' h h'=>p21 _ r' c b' e xs' (h.mono h')
  refine Wp.step ?_
  simp only [i7_,uI_]
  refine Wp.bind (cE_ r n (xs.length:Int) hr (by omega) (by omega)) ?_
  rintro ⟨q,r1⟩ ⟨hq,hr1⟩
  refine Wp.bind (cE_ r1 _ 6 hr1 (by omega) (by omega)) ?_
  rintro ⟨q2,r2⟩ ⟨hq2,hr2⟩
  simp only at hq hq2
  obtain ⟨y,_,e1,e2⟩:=l7_ (xs:=xs) hq.1 hq.2
  simp only [e1,e2,Option.bind_some,fk_]
  refine Wp.ite (fun _=> ?_) (fun _=> ?_)
  ·refine Wp.bind (cE_ r2 _ 3 hr2 (by omega) (by omega)) ?_
   rintro ⟨q3,r3⟩ ⟨hq3,hr3⟩
   simp only at hq3
   obtain ⟨z,_,f1,f2⟩:=l7_ (xs:=([(-1),1000000,1000001]:List Int)) hq3.1 (by simp;omega)
   simp only [f1,f2,Option.bind_some]
   exact L _ r3 _ _ hr3 (by omega)
  refine Wp.ite (fun _=> ?_) (fun _=> ?_)
  ·refine Wp.bind (cE_ r2 _ 5 hr2 (by omega) (by omega)) ?_
   rintro ⟨q3,r3⟩ ⟨hq3,hr3⟩
   simp only at hq3
   obtain ⟨z,_,f1,f2⟩:=l7_ (xs:=([(-2),(-1),0,3,4]:List Int)) hq3.1 (by simp;omega)
   simp only [f1,f2,Option.bind_some]
   exact L _ r3 _ _ hr3 (by omega)
  refine Wp.ite (fun _=>L _ r2 _ _ hr2 (by omega)) (fun _=> ?_)
  refine Wp.ite (fun _=> ?_) (fun _=> ?_)
  ·refine Wp.bind (cE_ r2 _ 2 hr2 (by omega) (by omega)) ?_
   rintro ⟨q3,r3⟩ ⟨hq3,hr3⟩
   simp only at hq3⊢
   rw [aW_ (by omega) (by omega)]
   refine Wp.bind (pL_ _ _ 100 (by omega) (by show 1*_≤100;omega) (by omega)) (fun u hu=> ?_)
   exact L _ r3 _ _ hr3 (by omega)
  refine Wp.ite (fun _=> ?_) (fun _=> ?_)
  ·refine Wp.bind (cE_ r2 _ 2 hr2 (by omega) (by omega)) ?_
   rintro ⟨q3,r3⟩ ⟨hq3,hr3⟩
   simp only at hq3⊢
   rw [aW_ (by omega) (by omega)]
   exact p19 _ r3 c b _ e (by omega) (hr3.mono (by omega)) _ xs (by omega) rfl
  ·exact (p6 _ r2 c b e hr2 (by omega) _ xs (by omega) rfl).mono fun v hv=>Rd.mono hv (by omega)
end Km.X
namespace Km.X
open Go Km
set_option linter.unusedVariables false
set_option linter.unusedSimpArgs false
def dl (b:ByteArray):List UInt8:=b.data.toList
theorem jb_ (a b:ByteArray):dl (a++b)=dl a++dl b:=by unfold dl;rw [ByteArray.data_append,Array.toList_append]
theorem BV_ {a b:ByteArray} (h:dl a=dl b):a=b:=by
  apply ByteArray.ext;apply Array.ext';exact h
theorem zy_ (b:ByteArray):(dl b).length=b.size:=by unfold dl;rw [Array.length_toList];rfl
theorem Cj_ (bs:List Int):dl (iP_ bs)=bs.map fun n=>UInt8.ofNat n.toNat:=by
  induction bs with
  | nil=>rfl
  | cons b bs ih=>
    rw [←tc_,jb_,ih]
    rfl
theorem ru_ (b:ByteArray) (i j:Nat):dl (b.extract i j)=(dl b).extract i j:=by
  simp [dl]
def dg (w n:Nat):List UInt8:=(d3_ w n).map fun n=>UInt8.ofNat n.toNat
theorem un_ (w n:Nat):(dg w n).length=w:=by simp [dg,du_]
theorem Ei_ (w:Nat) (x:Int):dl (N w x)=dg w x.toNat:=by rw [N,Cj_];rfl
theorem n8_ (m:Nat):(UInt8.ofNat ((m%256:Nat):Int).toNat).toNat=m%256:=by
  rw [Int.toNat_natCast,UInt8.toNat_ofNat'];omega
theorem wy_:∀(w n:Nat),n<256^w→C3_ (dg w n)=(n:Int)
  | 0,n,h=>by
    have:n=0:=by simpa using h
    subst this;rfl
  | w+1,n,h=>by
    have ih:=wy_ w (n/256) (by rw [Nat.pow_succ] at h;omega)
    unfold C3_ dg at*
    simp only [d3_,List.map_append,List.foldl_append,ih]
    simp only [List.map_cons,List.map_nil,List.foldl_cons,List.foldl_nil,n8_]
    omega
theorem dg1 (n:Nat):dg 1 n=[UInt8.ofNat ((n%256:Nat):Int).toNat]:=rfl
theorem vS_ {b:ByteArray} {l:List UInt8} (h:dl b=l) (i:Nat):at' b i=l.getD i 0:=by unfold at';rw [←h];rfl
theorem qd_ {b:ByteArray} {l:List UInt8} (h:dl b=l) (i j:Nat):Aj_ b i j=C3_ (l.extract i j):=by
  unfold Aj_;rw [←h,←ru_];rfl
theorem sa_ (a:Nat) (w n:Nat) (l r:List UInt8) (h:l.length=a):(l++(dg w n++r)).extract a (a+w)=dg w n:=by
  rw [List.extract_eq_take_drop,List.drop_left' h,show a+w-a=w by omega,List.take_left' (un_ w n)]
theorem pS_ (a:Nat) (n:Nat) (l r:List UInt8) (h:l.length=a):(l++(dg 1 n++r)).getD a 0=UInt8.ofNat ((n%256:Nat):Int).toNat:=by
  rw [List.getD_eq_getElem?_getD,List.getElem?_append_right (by omega),h,Nat.sub_self,dg1];rfl
theorem pK_ (b:ByteArray) (i:Nat):dl (b.extract i b.size)=(dl b).drop i:=by
  rw [ru_,List.extract_eq_take_drop,List.take_of_length_le]
  simp [zy_]
theorem yN_ (p:ae_) (h:iH_ p):iM_ (ec_ p)=p:=by
  obtain ⟨k,fr,mi,yo,ne,ma,se,la,pa⟩:=p
  obtain ⟨h1,h2,h3,h4⟩:=h
  dsimp only at h1 h2 h3 h4
  have hk:k=1∨k=2:=by rcases h4 with h | h<;>omega
  have hfr:((fr.toNat%256:Nat):Int)=fr:=by omega
  have hd:∀rest,dl (iK_ ⟨k,fr,mi,yo,ne,ma,se,la,pa⟩++rest)=dg 1 k.toNat++(dg 1 fr.toNat++(dg 2 mi.toNat++(dg 2 yo.toNat++dl rest))):=fun rest=>by
    simp only [iK_,jb_,Ei_,List.append_assoc]
  have len:∀w n,(dg w n).length=w:=un_
  have main:∀(b:ByteArray) (x y:Nat) (tail:List UInt8),dl b=dg 1 k.toNat++(dg 1 fr.toNat++(dg 2 mi.toNat++(dg 2 yo.toNat++(dg 4 x++(dg 1 y++tail)))))→
   ((at' b 0).toNat:Int)=k∧((at' b 1).toNat:Int)=fr∧Aj_ b 2 4=mi∧Aj_ b 4 6=yo∧(x<256^4→Aj_ b 6 10=(x:Int))∧((at' b 10).toNat:Int)=((y%256:Nat):Int)∧(dl b).drop 11=tail:=fun b x y tail hb=>by
    refine ⟨?_, ?_, ?_, ?_,fun hx=> ?_, ?_, ?_⟩
    ·rw [vS_ hb]
     have:=pS_ 0 k.toNat [] (dg 1 fr.toNat++(dg 2 mi.toNat++(dg 2 yo.toNat++(dg 4 x++(dg 1 y++tail))))) rfl
     rw [List.nil_append] at this
     rw [this,n8_];omega
    ·rw [vS_ hb,pS_ 1 fr.toNat (dg 1 k.toNat) _ (len _ _),n8_];omega
    ·rw [qd_ hb]
     have e:dg 1 k.toNat++(dg 1 fr.toNat++(dg 2 mi.toNat++(dg 2 yo.toNat++(dg 4 x++(dg 1 y++tail)))))=(dg 1 k.toNat++dg 1 fr.toNat)++(dg 2 mi.toNat++(dg 2 yo.toNat++(dg 4 x++(dg 1 y++tail)))):=by simp
     rw [e,sa_ 2 2 mi.toNat _ _ (by simp [len]),wy_ 2 _ (by have:(256:Nat)^2=65536:=rfl;omega)];omega
    ·rw [qd_ hb]
     have e:dg 1 k.toNat++(dg 1 fr.toNat++(dg 2 mi.toNat++(dg 2 yo.toNat++(dg 4 x++(dg 1 y++tail)))))=(dg 1 k.toNat++dg 1 fr.toNat++dg 2 mi.toNat)++(dg 2 yo.toNat++(dg 4 x++(dg 1 y++tail))):=by simp
     rw [e,sa_ 4 2 yo.toNat _ _ (by simp [len]),wy_ 2 _ (by have:(256:Nat)^2=65536:=rfl;omega)];omega
    ·rw [qd_ hb]
     have e:dg 1 k.toNat++(dg 1 fr.toNat++(dg 2 mi.toNat++(dg 2 yo.toNat++(dg 4 x++(dg 1 y++tail)))))=(dg 1 k.toNat++dg 1 fr.toNat++dg 2 mi.toNat++dg 2 yo.toNat)++(dg 4 x++(dg 1 y++tail)):=by simp
     rw [e,sa_ 6 4 x _ _ (by simp [len]),wy_ 4 _ hx]
    ·have e:dg 1 k.toNat++(dg 1 fr.toNat++(dg 2 mi.toNat++(dg 2 yo.toNat++(dg 4 x++(dg 1 y++tail)))))=(dg 1 k.toNat++dg 1 fr.toNat++dg 2 mi.toNat++dg 2 yo.toNat++dg 4 x)++(dg 1 y++tail):=by simp
     rw [vS_ hb,e,pS_ 10 y _ _ (by simp [len]),n8_]
    ·rw [hb]
     have e:dg 1 k.toNat++(dg 1 fr.toNat++(dg 2 mi.toNat++(dg 2 yo.toNat++(dg 4 x++(dg 1 y++tail)))))=(dg 1 k.toNat++dg 1 fr.toNat++dg 2 mi.toNat++dg 2 yo.toNat++dg 4 x++dg 1 y)++tail:=by simp
     rw [e,List.drop_left' (by simp [len])]
  have p4:(256:Nat)^4=4294967296:=rfl
  rcases h4 with ⟨k1,g1,g2,g3,g4,g5⟩ | ⟨k2,g1,g2,g3,g4⟩
  ·have hb:dl (ec_ ⟨k,fr,mi,yo,ne,ma,se,la,pa⟩)=dg 1 k.toNat++(dg 1 fr.toNat++(dg 2 mi.toNat++(dg 2 yo.toNat++(dg 4 ne.toNat++(dg 1 ma.toNat++[]))))):=by
     unfold ec_;rw [if_pos k1,lL_,hd,jb_,Ei_,Ei_,List.append_nil]
   obtain ⟨a1,a2,a3,a4,a5,a6,a7⟩:=main _ _ _ _ hb
   unfold iM_
   rw [if_pos (by rw [a1];exact k1),a1,a2,a3,a4,a5 (by omega),a6]
   subst g3;subst g4;subst g5
   congr 1<;>omega
  ·have hb:dl (ec_ ⟨k,fr,mi,yo,ne,ma,se,la,pa⟩)=dg 1 k.toNat++(dg 1 fr.toNat++(dg 2 mi.toNat++(dg 2 yo.toNat++(dg 4 se.toNat++(dg 1 (v4_ la).toNat++dl pa))))):=by
     unfold ec_;rw [if_neg (by show¬k=1;omega)]
     rw [show iK_ ⟨k,fr,mi,yo,ne,ma,se,la,pa⟩++N 4 se++N 1 (v4_ la)++pa=iK_ ⟨k,fr,mi,yo,ne,ma,se,la,pa⟩++(N 4 se++(N 1 (v4_ la)++pa)) by rw [lL_,lL_],hd]
     simp only [jb_,Ei_]
   obtain ⟨a1,a2,a3,a4,a5,a6,a7⟩:=main _ _ _ _ hb
   unfold iM_
   rw [if_neg (by rw [a1];omega),a1,a2,a3,a4,a5 (by omega),a6]
   have epa:(ec_ ⟨k,fr,mi,yo,ne,ma,se,la,pa⟩).extract 11 (ec_ ⟨k,fr,mi,yo,ne,ma,se,la,pa⟩).size=pa:=BV_ (by rw [pK_,a7])
   rw [epa]
   have ela:(((((v4_ la).toNat%256:Nat):Int))==1)=la:=by cases la<;>rfl
   rw [ela]
   subst g1;subst g2
   congr 1;omega
theorem zc_ (a b:ByteArray) (w:Int) (hw:1≤w∧w≤8) (hb:b.size≤30):(yt_ a b w).size=w.toNat:=by
  unfold yt_;rw [if_neg (by omega),hN_,du_]
theorem A0_ (p:ae_) (h:iH_ p):11≤(ec_ p).size:=by
  have hs:=jU_ p
  unfold ec_
  split<;>simp [e7_,hs]<;>omega
theorem zT_ {p:ae_} {b:ByteArray} {w:Int} (h:iH_ p) (hw:1≤w∧w≤8) (hb:b.size≤30):dm_ p b w=yt_ (ec_ p) b w++ec_ p:=by
  unfold dm_;rw [if_pos ⟨h,hw,hb⟩]
theorem yD_ {p:ae_} {b:ByteArray} {w:Int} (h:iH_ p) (hw:1≤w∧w≤8) (hb:b.size≤30):(dm_ p b w).size=w.toNat+(ec_ p).size:=by
  rw [zT_ h hw hb,aC_,zc_ _ _ _ hw hb]
theorem As_ {p:ae_} {b:ByteArray} {w:Int} (h:iH_ p) (hw:1≤w∧w≤8) (hb:b.size≤30):(dm_ p b w).extract w.toNat (dm_ p b w).size=ec_ p:=by
  apply BV_
  rw [pK_,zT_ h hw hb,jb_,List.drop_left']
  rw [zy_,zc_ _ _ _ hw hb]
theorem lO_ {p:ae_} {b:ByteArray} {w:Int} (h:iH_ p) (hw:1≤w∧w≤8) (hb:b.size≤30):hX_ (dm_ p b w) b w=(p,true):=by
  unfold hX_
  have:=A0_ p h
  rw [if_pos ⟨hw,by rw [yD_ h hw hb];omega⟩,As_ h hw hb,yN_ p h,if_pos rfl]
theorem xz_ {s b:ByteArray} {w:Int} (h:(hX_ s b w).2=true):dm_ (hX_ s b w).1 b w=s∧iH_ (hX_ s b w).1∧(1≤w∧w≤8)∧w+11≤s.size∧b.size≤30:=by
  unfold hX_ at h⊢
  split at h
  ·rename_i hc
   rw [if_pos hc]
   split at h
   ·rename_i hf
    rw [if_pos hf]
    refine ⟨hf, ?_⟩
    have:¬¬(iH_ (iM_ (s.extract w.toNat s.size))∧b.size≤30):=fun hn=>sK_ (s:=s) hn (by omega) hf
    have:=Classical.not_not.mp this
    exact ⟨this.1,hc.1,hc.2,this.2⟩
   ·cases h
  ·cases h
theorem wr_ {p q:ae_} {b:ByteArray} {w:Int} (hp:iH_ p) (hq:iH_ q) (hw:1≤w∧w≤8) (hb:b.size≤30) (h:dm_ p b w=dm_ q b w):p=q:=by
  have h1:=lO_ hp hw hb
  rw [h,lO_ hq hw hb] at h1
  exact (Prod.mk.inj h1).1.symm
end Km.X
namespace Km.X
open Go Km
set_option linter.unusedVariables false
set_option linter.unusedSimpArgs false
theorem Wp.pick {R:Type} {Q:R→Prop} {g:Nat→Int×as_→Option R} {r:as_} {n a:Int} (h:Rd n r) (hn:n≤1000000) (ha:1≤a∧a≤1000000) (H:∀q r',0≤q→q<a→Rd (n+1) r'→Wp (fun k=>g k (q,r')) Q):Wp (fun k=>(ah_ k r a).bind (g k)) Q:=
  Wp.bind (cE_ r n a h hn ha) (fun v hv=>H v.1 v.2 hv.1.1 hv.1.2 hv.2)
theorem Wp.from {R α:Type} {Q:R→Prop} {xs:List α} {i:Int} {g:Nat→α→Option R} (h0:0≤i) (h1:i<xs.length) (H:∀y∈xs,Wp (fun k=>g k y) Q):Wp (fun k=>(idx xs i).bind (g k)) Q:=by
  obtain ⟨y,hy,e,_⟩:=l7_ h0 h1
  exact Wp.opt e (H y hy)
theorem Wp.from2 {R α:Type} {Q:R→Prop} {xs:List α} {i:Int} {g:Nat→α→Option R} (h0:0≤i) (h1:i<xs.length) (H:∀y∈xs,Wp (fun k=>g k y) Q):Wp (fun k=>(idx xs i).bind fun _=>(xs[i.toNat]?).bind (g k)) Q:=by
  obtain ⟨y,hy,e,e'⟩:=l7_ h0 h1
  exact Wp.opt e (Wp.opt e' (H y hy))
theorem DU_ (r:as_) (n:Int) (h:Rd n r) (hn:n≤900000):Wp (fun k=>jG_ k r) (fun v=>v.1.size≤30∧Rd (n+1) v.2):=by
  unfold jG_
  refine Wp.bind (pL_ _ _ 30 (by omega) (by show 1*30≤30;omega) (by omega)) (fun m hm=> ?_)
  refine Wp.pick h (by omega) (by omega) (fun q r' q0 q1 h'=> ?_)
  dsimp only
  refine Wp.from2 q0 (by simp;omega) (fun y hy=> ?_)
  refine Wp.ret ⟨?_,h'⟩
  simp only [List.mem_cons,List.not_mem_nil,or_false] at hy
  rcases hy with rfl | rfl | rfl | rfl
  ·exact (by decide:(3:Nat)≤30)
  ·exact (by decide:(1:Nat)≤30)
  ·exact (by decide:(0:Nat)≤30)
  ·exact hm
theorem A3_ (r:as_) (n:Int) (h:Rd n r) (hn:n≤900000):Wp (fun k=>hC_ k r) (fun v=>(1≤v.1∧v.1≤8)∧Rd (n+1) v.2):=by
  unfold hC_
  refine Wp.pick h (by omega) (by omega) (fun q r' q0 q1 h'=> ?_)
  dsimp only
  refine Wp.from q0 (by simp;omega) (fun y hy=> ?_)
  refine Wp.ret ⟨?_,h'⟩
  simp only [List.mem_cons,List.not_mem_nil,or_false] at hy
  omega
end Km.X
namespace Km.X
open Go Km
set_option linter.unusedVariables false
set_option linter.unusedSimpArgs false
def Bj_ (b:ByteArray) (wd:Int):ab_:=if (1≤wd∧wd≤8)∧b.size≤30 then ⟨b,wd,[yK_ 1,yK_ 2],[],noB,[],[]⟩ else vM_
theorem vD_ (b:ByteArray) (wd:Int):Wp (fun k=>gC_ k b wd) (· =Bj_ b wd):=by
  unfold gC_ Bj_
  refine Wp.bind (bN_ _ _ _) (fun _ e=> ?_);subst e
  refine Wp.not (fun h=> ?_) (fun h=> ?_)
  ·simp only [Bool.and_eq_false_iff,decide_eq_false_iff_not] at h
   exact Wp.ret (by rw [if_neg (fun g=>by omega)];rfl)
  simp only [Bool.and_eq_true,decide_eq_true_eq] at h
  refine Wp.dec (fun h1=>Wp.ret (by rw [if_neg (fun g=>by omega)];rfl)) (fun h1=> ?_)
  refine Wp.bind (rD_ 1) (fun _ e=> ?_);subst e
  refine Wp.bind (rD_ 2) (fun _ e=> ?_);subst e
  exact Wp.ret (by rw [if_pos ⟨h,by omega⟩])
theorem newE_V:VEnd (yK_ 1)∧VEnd (yK_ 2):=by decide
theorem DG_ {b:ByteArray} {wd:Int} (hb:b.size≤30) (hw:1≤wd∧wd≤8):au_ (Bj_ b wd):=by
  unfold Bj_
  rw [if_pos ⟨hw,hb⟩]
  exact ⟨hw,hb,by simp,by simp,nQ_ newE_V.1 rfl newE_V.2 rfl,(fun p hp=>by cases hp),(fun p hp=>by cases hp),(fun p hp=>by cases hp)⟩
inductive Reach:Nat→Nat→ab_→Prop
  | new {b:ByteArray} {wd:Int}:b.size≤30→(1≤wd∧wd≤8)→Reach 0 0 (Bj_ b wd)
  | step {n m:Nat} {w:ab_} (v:aS_):Reach n m w→Reach (n+if v.Kind=8 then 1 else 0) (m+1) (doW w v)
  | more {n m n' m':Nat} {w:ab_}:n≤n'→m≤m'→Reach n m w→Reach n' m' w
theorem Reach.V {n m:Nat} {w:ab_} (h:Reach n m w):au_ w:=by
  induction h with
  | new h1 h2=>exact DG_ h1 h2
  | step v _ ih=>exact Bm_ ih v
  | more _ _ _ ih=>exact ih
theorem Reach.go {n m:Nat} {w:ab_} (h:Reach n m w) {v:aS_} (hv:v.Kind≠8):Reach n (m+1) (doW w v):=by
  have:=Reach.step v h
  rw [if_neg hv] at this
  exact this
theorem wO_ (w:ab_) (x y z:Int) (t:ByteArray):doW w ⟨1,x,y,z,t⟩=aG_ w:=by unfold doW;rw [if_pos rfl]
theorem Bv_ (w:ab_) {n:Int} (hn:1≤n∧n≤2) (y z:Int) (t:ByteArray):doW w ⟨11,n,y,z,t⟩=dK_ w n:=by
  rw [sv_ (by dsimp only;omega) hn,rG_]
theorem xG_ (w:ab_) (p:ad_) (t:List ad_):doW (bg_ w (p::t)) ⟨2,0,0,0,noB⟩=bg_ (aU_ w p) t:=by
  rw [l2_ (p:=p) (by dsimp only;omega) (by dsimp only;omega) rfl,←is_]
  rfl
theorem zf_ (w:ab_) (p:ad_) (t:List ad_):doW (bg_ w (p::t)) ⟨4,0,0,0,noB⟩=bg_ w t:=by
  rw [l2_ (p:=p) (by dsimp only;omega) (by dsimp only;omega) rfl]
  rfl
theorem ts_ (w:ab_) (h:w.Flight=[]):bg_ w []=w:=by rw [←h];rfl
theorem q2_ {n:Nat} (ev:Int):∀(t:List ad_) (h:List DKey) (w:ab_) (m:Nat),Reach n m (bg_ w t)→Reach n (m+t.length) (bg_ (bf_ ev t h w).1 [])
  | [],h,w,m,hr=>hr
  | p::t,h,w,m,hr=>by
    simp only [bf_]
    rw [show m+(p::t).length=(m+1)+t.length by simp;omega]
    apply q2_ ev t
    split
    ·rw [←xG_];exact hr.go (by simp)
    ·rw [←zf_ w p t];exact hr.go (by simp)
theorem kw_ {n:Nat} {m:Int} (hm:1≤m∧m≤2):∀(d:Nat) (w:ab_) (s:Nat),Reach n s w→Reach n (s+d) (aQ_ m d w)
  | 0,w,s,h=>h
  | d+1,w,s,h=>by
    simp only [aQ_]
    split
    ·exact .more (Nat.le_refl _) (by omega) h
    ·rw [show s+(d+1)=(s+1)+d by omega]
     apply kw_ hm d
     rw [←Bv_ w hm 0 0 noB];exact h.go (by simp)
theorem vL_ {n m:Nat} {ev:Int} {s:ab_×List DKey} (h:Reach n m s.1):Reach n (m+1009) (aB_ ev s).1:=by
  have hl:=(hH_ h.V).2.2.1
  have h1:Reach n (m+1) (aG_ s.1):=by rw [←wO_ s.1 0 0 0 noB];exact h.go (by simp)
  have h2:=q2_ ev (aG_ s.1).Flight s.2 (bg_ (aG_ s.1) []) _ h1
  have h3:bg_ (bf_ ev (aG_ s.1).Flight s.2 (bg_ (aG_ s.1) [])).1 []=(bf_ ev (aG_ s.1).Flight s.2 (bg_ (aG_ s.1) [])).1:=by
    have:=lv_ ev (aG_ s.1).Flight s.2 (bg_ (aG_ s.1) [])
    rw [show ([]:List ad_)=(bf_ ev (aG_ s.1).Flight s.2 (bg_ (aG_ s.1) [])).1.Flight from this.symm]
    rw [this]
    exact ts_ _ this
  rw [h3] at h2
  exact .more (Nat.le_refl _) (by omega) (kw_ (by omega) 4 _ _ (kw_ (by omega) 4 _ _ h2))
theorem mZ_ {n:Nat} {ev:Int}:∀(d:Nat) (s:ab_×List DKey) (m:Nat),Reach n m s.1→Reach n (m+1009*d) (aX_ ev d s).1
  | 0,s,m,h=>h
  | d+1,s,m,h=> .more (Nat.le_refl _) (by omega) (mZ_ d _ _ (vL_ h))
theorem xo_ {n s:Nat} {w:ab_} (h:Reach n s w) (m ev:Int) (he:1≤ev∧ev≤10):Reach n (s+1009*m.toNat) (il_ w m ev):=by
  unfold il_
  rw [if_pos ⟨h.V,he⟩]
  exact .more (Nat.le_refl _) (by have:(min m 5000).toNat≤m.toNat:=by omega
                                  have:=Nat.mul_le_mul_left 1009 this
                                  omega) (mZ_ _ _ _ h)
theorem hL_ {w:ab_} (h:au_ w):w.Given.length≤1048576∧w.Taken.length≤1048576:=by
  have:=h.2.2.2.1;omega
def EvP (n:Int) (v:aS_×as_):Prop:=(v.1.Text.size≤190∧(1≤v.1.Kind∧v.1.Kind≤11))∧Rd n v.2
theorem Fu_ (a m:Int) (r:as_) (h:Rd m r):Wp (fun k=>dH_ k a r.b r.p 0 0 0 0 noB) (EvP m):=by
  refine Wp.step ?_
  simp only [dH_]
  exact Wp.ret ⟨⟨Nat.zero_le _,by dsimp only;omega⟩,h⟩
theorem Ft_ (a m:Int) (r:as_) (h:Rd m r):Wp (fun k=>dC_ k a r.b r.p 0 0 0 0 noB) (EvP m):=by
  refine Wp.step ?_
  simp only [dC_]
  exact Wp.ret ⟨⟨Nat.zero_le _,by dsimp only;omega⟩,h⟩
theorem FH_ (a e kk n m:Int) (r:as_) (h:Rd n r) (hn:n≤900000) (hm:n+2≤m):Wp (fun k=>eV_ k a e kk r.b r.p 0 0 0 0 noB) (EvP m):=by
  refine Wp.step ?_
  simp only [eV_,fk_]
  refine Wp.ite (fun _=> ?_) (fun _=> ?_)
  ·refine Wp.pick h (by omega) (by omega) (fun q r' q0 q1 h'=> ?_)
   refine Wp.pick h' (by omega) (by omega) (fun q r' q0 q1 h'=> ?_)
   exact Wp.ret ⟨⟨Nat.zero_le _,by dsimp only;omega⟩,h'.mono (by omega)⟩
  refine Wp.ite (fun _=> ?_) (fun _=> ?_)
  ·refine Wp.pick h (by omega) (by omega) (fun q r' q0 q1 h'=> ?_)
   exact Wp.ret ⟨⟨Nat.zero_le _,by dsimp only;omega⟩,h'.mono (by omega)⟩
  refine Wp.ite (fun _=> ?_) (fun _=> ?_)
  ·exact Wp.ret ⟨⟨Nat.zero_le _,by dsimp only;omega⟩,h.mono (by omega)⟩
  refine Wp.ite (fun _=> ?_) (fun _=> ?_)
  ·exact Wp.ret ⟨⟨Nat.zero_le _,by dsimp only;omega⟩,h.mono (by omega)⟩
  ·exact Wp.ret ⟨⟨Nat.zero_le _,by dsimp only;omega⟩,h.mono (by omega)⟩
theorem ev5 (a kk n m:Int) (r:as_) (h:Rd n r) (hn:0≤n∧n≤700000) (hm:n+45≤m):Wp (fun k=>ea_ k kk a r.b r.p 0 0 0 0 noB) (EvP m):=by
  refine Wp.step ?_
  simp only [ea_]
  refine Wp.pick h (by omega) (by omega) (fun q r1 q0 q1 h1=> ?_)
  simp only [al_,fk_]
  refine Wp.ite (fun _=> ?_) (fun _=> ?_)
  ·exact Wp.ret ⟨⟨Nat.zero_le _,by dsimp only;omega⟩,h1.mono (by omega)⟩
  refine Wp.ite (fun _=> ?_) (fun _=> ?_)
  ·exact Wp.ret ⟨⟨Nat.zero_le _,by dsimp only;omega⟩,h1.mono (by omega)⟩
  refine Wp.ite (fun _=> ?_) (fun _=> ?_)
  ·refine Wp.bind (rh_ r1 _ h1 (by omega)) (fun v hv=> ?_)
   exact Wp.ret ⟨⟨hv.1,by dsimp only;omega⟩,hv.2.mono (by omega)⟩
  refine Wp.ite (fun _=> ?_) (fun _=> ?_)
  ·exact Wp.ret ⟨⟨Nat.zero_le _,by dsimp only;omega⟩,h1.mono (by omega)⟩
  refine Wp.ite (fun _=>Fu_ _ _ r1 (h1.mono (by omega))) (fun _=> ?_)
  refine Wp.ite (fun _=>Fu_ _ _ r1 (h1.mono (by omega))) (fun _=> ?_)
  refine Wp.step ?_
  simp only [gp_,fk_]
  refine Wp.ite (fun _=>Ft_ _ _ r1 (h1.mono (by omega))) (fun _=> ?_)
  refine Wp.ite (fun _=>Ft_ _ _ r1 (h1.mono (by omega))) (fun _=> ?_)
  exact FH_ _ _ _ _ _ r1 h1 (by omega) (by omega)
theorem xH_ (r:as_) (n:Int) (h:Rd n r) (hn:0≤n∧n≤600000):Wp (fun k=>hB_ k r) (EvP (n+50)):=by
  unfold hB_
  refine Wp.pick h (by omega) (by omega) (fun q1 r1 q10 q11 h1=> ?_)
  refine Wp.pick h1 (by omega) (by omega) (fun q2 r2 q20 q21 h2=> ?_)
  refine Wp.pick h2 (by omega) (by omega) (fun q3 r3 q30 q31 h3=> ?_)
  simp only [fk_]
  refine Wp.ite (fun _=> ?_) (fun _=> ?_)
  ·refine Wp.pick h3 (by omega) (by omega) (fun q4 r4 q40 q41 h4=> ?_)
   exact ev5 _ _ _ _ r4 h4 (by omega) (by omega)
  ·exact ev5 _ _ _ _ r3 h3 (by omega) (by omega)
def C0_ (f s:Nat) (n:Int) (v:ab_×as_):Prop:=Reach f s v.1∧Rd n v.2
theorem zb_ {f g s u:Nat} {n m:Int} {v:ab_×as_} (h:C0_ f s n v) (hf:f≤g) (hs:s≤u) (hn:n≤m):C0_ g u m v:=⟨.more hf hs h.1,h.2.mono hn⟩
section
variable (a b:ByteArray) (z:Int) (E2:List am_) (F2:List ad_) (G2 T2:List aa_)
theorem E6_ (x0 x1:Int) (f s:Nat) (n:Int) (r:as_) (w:ab_) (hw:Reach f s w) (hr:Rd n r) (hn:n≤900000) (Q:ab_×as_→Prop)
    (go:∀w' r',Reach f (s+2) w'→Rd (n+1) r'→Wp (fun k=>bi_ k x0 (IntKind.wrap .i64 (x1+1)) r'.b r'.p a z b w'.Key w'.Width w'.Forged E2 F2 G2 T2 w'.Ends w'.Flight w'.Given w'.Taken) Q):
    Wp (fun k=>b2_ k x0 x1 r.b r.p a z b w.Key w.Width w.Forged E2 F2 G2 T2 w.Ends w.Flight w.Given w.Taken) Q:=by
  have l7:∀w' r',Reach f (s+2) w'→Rd (n+1) r'→Wp (fun k=>c7_ k x0 x1 r'.b r'.p a z b w'.Key w'.Width w'.Forged E2 F2 G2 T2 w'.Ends w'.Flight w'.Given w'.Taken) Q:=fun w' r' h1 h2=>by
    refine Wp.step ?_
    simp only [c7_]
    exact go w' r' h1 h2
  refine Wp.step ?_
  simp only [b2_]
  refine Wp.pick hr (by omega) (by omega) (fun q r1 q0 q1 h1=> ?_)
  simp only [fk_]
  refine Wp.ite (fun _=> ?_) (fun _=>l7 w r1 (.more (Nat.le_refl _) (by omega) hw) h1)
  refine Wp.bind (mh_ w hw.V _) (fun _ e=> ?_);subst e
  have h2:Reach f (s+1) (doW w ⟨9,1,0,0,noB⟩):=hw.go (by simp)
  refine Wp.bind (mh_ _ h2.V _) (fun _ e=> ?_);subst e
  exact l7 _ r1 (h2.go (by simp)) h1
theorem Fp_ (x0 x1:Int) (f s:Nat) (n:Int) (r:as_) (hr:Rd n r) (hn:n≤900000) (Q:ab_×as_→Prop)
    (go:∀w' r',Reach f (s+7) w'→Rd (n+1) r'→Wp (fun k=>bi_ k x0 (IntKind.wrap .i64 (x1+1)) r'.b r'.p a z b w'.Key w'.Width w'.Forged E2 F2 G2 T2 w'.Ends w'.Flight w'.Given w'.Taken) Q):
    ∀(d:Nat) (w:ab_) (u:Nat),u+d≤s+5→d≤100→Reach f u w→Wp (fun k=>b5_ k x0 x1 (d:Int) r.b r.p a z b w.Key w.Width w.Forged E2 F2 G2 T2 w.Ends w.Flight w.Given w.Taken) Q
  | 0,w,u,hu,hd,hw=>by
    refine Wp.step ?_
    simp only [b5_]
    exact Wp.dec (fun g=>by omega) (fun _=>E6_ a b z E2 F2 G2 T2 x0 x1 f u n r w hw hr hn Q (fun w' r' h1 h2=>go w' r' (.more (Nat.le_refl _) (by omega) h1) h2))
  | d+1,w,u,hu,hd,hw=>by
    refine Wp.step ?_
    simp only [b5_]
    refine Wp.dec (fun _=> ?_) (fun g=>by omega)
    refine Wp.dec (fun g=> ?_) (fun _=>E6_ a b z E2 F2 G2 T2 x0 x1 f u n r w hw hr hn Q (fun w' r' h1 h2=>go w' r' (.more (Nat.le_refl _) (by omega) h1) h2))
    obtain ⟨p,hp⟩:∃p,w.Flight[0]? =some p:=⟨w.Flight[0]'(by omega),List.getElem?_eq_getElem (by omega)⟩
    refine Wp.bind (ie_ w hw.V 0 hp) (fun x hx=> ?_)
    have hx':Reach f (u+1) x:=by
      rw [hx]
      have:=hw.go (v:=⟨2,0,0,0,noB⟩) (by simp)
      rw [l2_ (p:=p) (by dsimp only;omega) (by dsimp only;omega) hp] at this
      exact this
    rw [aW_ (n:=((d+1:Nat):Int)-1) (by omega) (by omega),show ((d+1:Nat):Int)-1=(d:Int) by omega]
    exact Fp_ x0 x1 f s n r hr hn Q go d x (u+1) (by omega) (by omega) hx'
theorem rc6 (x0:Int) (hx0:x0≤49):∀(d:Nat) (x1:Int) (f s:Nat) (n:Int) (r:as_) (w:ab_),d=(x0-x1).toNat→0≤x1→Reach f s w→Rd n r→0≤n→n+60*d≤500000→
    Wp (fun k=>bi_ k x0 x1 r.b r.p a z b w.Key w.Width w.Forged E2 F2 G2 T2 w.Ends w.Flight w.Given w.Taken) (C0_ (f+d) (s+9*d) (n+60*d))
  | 0,x1,f,s,n,r,w,hd,h0,hw,hr,hn0,hn=>by
    refine Wp.step ?_
    simp only [bi_]
    refine Wp.dec (fun g=>by omega) (fun _=> ?_)
    refine Wp.bind (jn_ w hw.V) (fun x hx=> ?_);rw [hx]
    exact Wp.ret ⟨hw,hr.mono (by omega)⟩
  | d+1,x1,f,s,n,r,w,hd,h0,hw,hr,hn0,hn=>by
    refine Wp.step ?_
    simp only [bi_]
    refine Wp.dec (fun _=> ?_) (fun g=>by omega)
    refine Wp.bind (xH_ r n hr (by omega)) ?_
    rintro ⟨v,r1⟩ ⟨hv,h1⟩
    dsimp only at hv h1⊢
    refine Wp.bind (mh_ w hw.V v) (fun _ e=> ?_);subst e
    have hw1:Reach (f+1) (s+1) (doW w v):= .more (by split<;>omega) (Nat.le_refl _) (Reach.step v hw)
    have nx:∀(m:Int),m≤n+59→∀w' r',Reach (f+1) (s+9) w'→Rd (m+1) r'→Wp (fun k=>bi_ k x0 (IntKind.wrap .i64 (x1+1)) r'.b r'.p a z b w'.Key w'.Width w'.Forged E2 F2 G2 T2 w'.Ends w'.Flight w'.Given w'.Taken) (C0_ (f+(d+1)) (s+9*(d+1)) (n+60*((d+1:Nat):Int))):=fun m hm w' r' h2 h3=>by
      rw [aW_ (n:=x1+1) (by omega) (by omega)]
      refine (rc6 x0 hx0 d (x1+1) (f+1) (s+9) (n+60) r' w' (by omega) (by omega) h2 (h3.mono (by omega)) (by omega) (by omega)).mono fun v hv=>zb_ hv (by omega) (by omega) (by omega)
    refine Wp.pick h1 (by omega) (by omega) (fun q r2 q0 q1 h2=> ?_)
    simp only [fk_]
    refine Wp.ite (fun _=> ?_) (fun _=>E6_ a b z E2 F2 G2 T2 x0 x1 (f+1) (s+1) _ r2 _ hw1 h2 (by omega) _ (fun w' r' h1 h2=>nx _ (by omega) w' r' (.more (Nat.le_refl _) (by omega) h1) h2))
    refine Wp.bind (jc_ _ hw1.V) (fun _ e=> ?_);subst e
    have hw2:Reach (f+1) (s+2) (aG_ (doW w v)):=by rw [←wO_ _ 0 0 0 noB];exact hw1.go (by simp)
    refine Wp.pick h2 (by omega) (by omega) (fun q r3 q0 q1 h3=> ?_)
    dsimp only
    have:=Fp_ a b z E2 F2 G2 T2 x0 x1 (f+1) (s+2) _ r3 h3 (by omega) _ (fun w' r' h1 h2=>nx _ (by omega) w' r' (.more (Nat.le_refl _) (by omega) h1) h2) q.toNat (aG_ (doW w v)) (s+2) (by omega) (by omega) hw2
    rw [Int.toNat_of_nonneg q0] at this
    exact this
end
theorem uF_ (r:as_) (n:Int) (h:Rd n r) (hn:0≤n∧n≤400000):Wp (fun k=>f8_ k r) (C0_ 49 11000 (n+3000)):=by
  unfold f8_
  refine Wp.bind (DU_ r n h (by omega)) (fun ky hk=> ?_)
  refine Wp.bind (A3_ ky.2 _ hk.2 (by omega)) (fun wd hw=> ?_)
  refine Wp.bind (vD_ _ _) (fun _ e=> ?_);subst e
  have hr0:Reach 0 0 (Bj_ ky.1 wd.1):= .new hk.1 hw.1
  have l4:∀(m:Int) w r',m≤n+10→Reach 0 10090 w→Rd m r'→0≤m→Wp (fun k=>da_ k r'.b r'.p noB 0 noB w.Key w.Width w.Forged [] [] [] [] w.Ends w.Flight w.Given w.Taken) (C0_ 49 11000 (n+3000)):=fun m w r' hm h1 h2 h0=>by
    refine Wp.step ?_
    simp only [da_]
    refine Wp.pick h2 (by omega) (by omega) (fun q r1 q0 q1 h3=> ?_)
    dsimp only
    exact (rc6 noB noB 0 [] [] [] [] q (by omega) q.toNat 0 0 10090 (m+1) r1 w (by omega) (by omega) h1 h3 (by omega) (by omega)).mono fun v hv=>zb_ hv (by omega) (by omega) (by omega)
  refine Wp.pick hw.2 (by omega) (by omega) (fun q r1 q0 q1 h1=> ?_)
  dsimp only
  refine Wp.dec (fun _=> ?_) (fun _=>l4 _ _ r1 (by omega) (.more (Nat.le_refl _) (by omega) hr0) h1 (by omega))
  refine Wp.pick h1 (by omega) (by omega) (fun q r2 q0 q1 h2=> ?_)
  dsimp only
  refine Wp.bind (vf_ _ (hL_ hr0.V) _ _) (fun _ e=> ?_);subst e
  exact l4 _ _ r2 (by omega) (.more (Nat.le_refl _) (by rw [aW_ (by omega) (by omega)];omega) (xo_ hr0 _ 1 (by omega))) h2 (by omega)
theorem qu_ (a:List Int) (h:∀y∈a,mt_ y):Wp (fun k=>eU_ k a) (Reach 49 11000):=by
  unfold eU_
  refine Wp.bind (BZ_ a h) (fun r h0=> ?_)
  refine Wp.bind (uF_ r 0 h0 (by omega)) (fun v hv=> ?_)
  exact Wp.ret hv.1
end Km.X
namespace Km.X
open Go Km
set_option linter.unusedVariables false
set_option linter.unusedSimpArgs false
def DTk (m:Int) (v:ai_×as_):Prop:=VTake v.1∧Rd m v.2
theorem BW_ {t:ai_} (h:VTake t):t.Held.length≤1048576∧t.Ready.length≤1048576:=by have:=h.2.1;have:=h.2.2.2.1;omega
theorem t3 (e:ByteArray) (c:Int) (g:ByteArray) (y:List aj_) (z:List ByteArray):∀(d:Nat) (n:Int) (r:as_) (t:ai_),VTake t→Rd n r→n+10*d≤800000→
    Wp (fun k=>f3_ k (d:Int) r.b r.p c e t.Next t.Open y z t.Held t.Ready) (DTk (n+10*d))
  | 0,n,r,t,ht,hr,hn=>by
    refine Wp.step ?_
    simp only [f3_]
    refine Wp.dec (fun g=>by omega) (fun _=> ?_)
    refine Wp.bind (jd_ t (BW_ ht).1 (BW_ ht).2) (fun x hx=> ?_);rw [hx]
    exact Wp.ret ⟨ht,hr.mono (by omega)⟩
  | d+1,n,r,t,ht,hr,hn=>by
    have hn0:0≤n:=by have:=hr.2.2;omega
    have l4:∀(t':ai_) (r':as_),VTake t'→Rd (n+10) r'→Wp (fun k=>f5_ k ((d+1:Nat):Int) r'.b r'.p c e t'.Next t'.Open y z t'.Held t'.Ready) (DTk (n+10*((d+1:Nat):Int))):=fun t' r' h1 h2=>by
      refine Wp.step ?_
      simp only [f5_]
      rw [aW_ (n:=((d+1:Nat):Int)-1) (by omega) (by omega),show ((d+1:Nat):Int)-1=(d:Int) by omega]
      exact (t3 e c g y z d (n+10) r' t' h1 h2 (by omega)).mono fun v hv=>⟨hv.1,hv.2.mono (by omega)⟩
    have l9:∀(q:Int) (r':as_),Rd (n+5) r'→Wp (fun k=>f4_ k ((d+1:Nat):Int) q r'.b r'.p c e t.Next t.Open y z t.Held t.Ready) (DTk (n+10*((d+1:Nat):Int))):=fun q r' h2=>by
      refine Wp.step ?_
      simp only [f4_]
      refine Wp.pick h2 (by omega) (by omega) (fun q1 r1 q10 q11 h1=> ?_)
      dsimp only
      refine Wp.from q10 (by simp;omega) (fun u hu=> ?_)
      simp only [List.mem_cons,List.not_mem_nil,or_false] at hu
      refine Wp.bind (pL_ _ _ 20 (by omega) (by show 1*_≤20;omega) (by omega)) (fun m hm=> ?_)
      refine Wp.pick h1 (by omega) (by omega) (fun q2 r2 q20 q21 h3=> ?_)
      refine Wp.bind (oS_ t _ _) (fun x hx=> ?_)
      exact l4 x r2 (by rw [hx];exact yJ_ _ _ _) (h3.mono (by omega))
    refine Wp.step ?_
    simp only [f3_]
    refine Wp.dec (fun _=> ?_) (fun g=>by omega)
    refine Wp.pick hr (by omega) (by omega) (fun q1 r1 q10 q11 h1=> ?_)
    simp only [fk_]
    refine Wp.ite (fun _=> ?_) (fun _=> ?_)
    ·refine Wp.bind (p7_ t) (fun x hx=> ?_)
     exact l4 x.1 r1 (by rw [hx];exact (sG_ t).1) (h1.mono (by omega))
    ·refine Wp.pick h1 (by omega) (by omega) (fun q2 r2 q20 q21 h2=> ?_)
     dsimp only
     refine Wp.ite (fun _=> ?_) (fun _=>l9 _ r2 (h2.mono (by omega)))
     refine Wp.pick h2 (by omega) (by omega) (fun q3 r3 q30 q31 h3=> ?_)
     exact l9 _ r3 (h3.mono (by omega))
theorem t20 (m:Int) (r:as_) (c n:Int) (e o:ByteArray) (y:List aj_) (z:List ByteArray) (h:List aj_) (s:List ByteArray) (hr:Rd m r):Wp (fun k=>gq_ k r.b r.p c e n o y z h s) (fun v=>Rd m v.2):=by
  refine Wp.step ?_
  simp only [gq_]
  exact Wp.ret hr
theorem t15 (m x0:Int) (r:as_) (c n:Int) (e o:ByteArray) (y:List aj_) (z:List ByteArray) (h:List aj_) (hr:Rd m r) (hx:x0≤100):∀(d:Nat) (s:List ByteArray),d=(x0-s.length).toNat→s.length≤1000→Wp (fun k=>eS_ k x0 r.b r.p c e n o y z h s) (fun v=>Rd m v.2)
  | 0,s,hd,hs=>by
    refine Wp.step ?_
    simp only [eS_]
    exact Wp.dec (fun g=>by omega) (fun _=>t20 m r c n e o y z h s hr)
  | d+1,s,hd,hs=>by
    refine Wp.step ?_
    simp only [eS_]
    refine Wp.dec (fun _=> ?_) (fun g=>by omega)
    refine Wp.opt (aV_ (by simp;omega)) ?_
    exact t15 m x0 r c n e o y z h hr hx d (s++[noB]) (by simp;omega) (by simp;omega)
theorem e9 (m:Int) (r:as_) (hr:Rd m r) (a:Int) (b:Bool) (c d e:Int) (f:Bool) (g h:Int) (i:ByteArray) (a':Int) (b':Bool) (c' d' e':Int) (f':Bool) (g':Int) (l1:List ag_) (h':Int) (l2:List aj_) (i':ByteArray) (l3:List ByteArray) (l4:List ag_) (l5:List aj_) (l6:List ByteArray):
    Wp (fun k=>lV_ k r.b r.p a b c d e f g h i a' b' c' d' e' f' g' l1 h' l2 i' l3 l4 l5 l6) (fun v=>Rd m v.2):=by
  refine Wp.step ?_
  simp only [lV_]
  exact Wp.ret hr
end Km.X
namespace Km.X
open Go Km
set_option linter.unusedVariables false
set_option linter.unusedSimpArgs false
end Km.X
