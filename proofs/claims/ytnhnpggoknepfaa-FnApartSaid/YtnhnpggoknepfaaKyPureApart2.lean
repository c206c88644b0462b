/- A part of the proof of FnApart: plain laws of these functions. There is no condition. -/
import Derived.Test.YtnhnpggoknepfaaKyPureApart1
import Derived.Test.YtnhnpggoknepfaaKxDef1
import Derived.Test.YtnhnpggoknepfaaKxDef2
namespace Km.X
open Go Km
set_option linter.unusedVariables false
set_option linter.unusedSimpArgs false
def hd_ (e:am_) (p:ae_):aw_:=
  if p.Yours=e.Life then
   if p.Kind=1 then ⟨0,⟨e.Number,e.Up,e.Life,e.Peer,e.Since,e.Owes,iq_ e.Send p.Next p.Mask,e.Take⟩,[],noB⟩
   else ⟨0,⟨e.Number,e.Up,e.Life,e.Peer,e.Since,true,e.Send,jk_ e.Take p.Seq ⟨p.Part,p.Last⟩⟩,[],noB⟩
  else ⟨0,⟨e.Number,e.Up,e.Life,e.Peer,e.Since,true,e.Send,e.Take⟩,[],noB⟩
def kU_ (e:am_) (p:ae_):am_:=if p.Mine>e.Peer then ⟨e.Number,e.Up,e.Life,p.Mine,e.Since,true,g6_,gR_⟩ else e
def fg_ (e:am_) (p:ae_):aw_:=
  if VEnd e then
   if e.Up=true∧iH_ p∧¬p.From=e.Number∧¬p.Mine<e.Peer then hd_ (kU_ e p) p else ⟨0,e,[],noB⟩
  else ⟨1,mv_,[],noB⟩
theorem tG_ (e:am_) (p:ae_):Wp (fun k=>hn_ k e p) (· =fg_ e p):=by
  unfold hn_ fg_
  refine Wp.bind (bZ_ _) (fun _ q=> ?_);subst q
  simp only [al_,br_,fl_]
  refine Wp.ite (fun h1=> ?_) (fun h1=>Wp.ret (by rw [if_neg h1]))
  rw [if_pos h1]
  refine Wp.bind (gc_ e h1) (fun r q=> ?_);rw [q]
  refine Wp.bif (fun u=> ?_) (fun u=>Wp.ret (by rw [if_neg (fun g=>by have:=g.1;rw [u] at this;cases this)]))
  refine Wp.bind (z9_ p) (fun _ q=> ?_);subst q
  simp only [al_]
  refine Wp.ite (fun h2=> ?_) (fun h2=>Wp.ret (by rw [if_neg (fun g=>h2 g.2.1)]))
  refine Wp.ite (fun h3=>Wp.ret (by rw [if_neg (fun g=>g.2.2.1 h3)])) (fun h3=> ?_)
  refine Wp.ite (fun h4=>Wp.ret (by rw [if_neg (fun g=>g.2.2.2 h4)])) (fun h4=> ?_)
  rw [if_pos ⟨u,h2,h3,h4⟩]
  have M:∀(n:Int) (uu:Bool) (li pe si:Int) (ow:Bool) (b:Int) (it:List ag_) (nn:Int) (hd:List aj_) (o:ByteArray) (rr:List ByteArray),
   Wp (fun k=>dD_ k p.Kind p.From p.Mine p.Yours p.Next p.Mask p.Seq p.Last p.Part 0 0 false 0 0 0 false 0 0 (⟨#[]⟩:ByteArray) (⟨#[]⟩:ByteArray) n uu li pe si ow b nn o ([]:List ag_) ([]:List aj_) ([]:List ByteArray) ([]:List ae_) it hd rr) (· =hd_ ⟨n,uu,li,pe,si,ow,⟨b,it⟩,⟨nn,hd,o,rr⟩⟩ p):=by
    intro n uu li pe si ow b it nn hd o rr
    refine Wp.step ?_
    simp only [dD_,qI_,fl_,hd_]
    refine Wp.ite (fun h5=> ?_) (fun h5=>Wp.ret (by rw [if_neg h5]))
    rw [if_pos h5]
    refine Wp.ite (fun h6=> ?_) (fun h6=> ?_)
    ·rw [if_pos h6]
     refine Wp.bind (pl_ _ _ _) (fun _ q=> ?_);subst q
     exact Wp.ret rfl
    ·rw [if_neg h6]
     refine Wp.bind (oE_ _ _ _) (fun _ q=> ?_);subst q
     exact Wp.ret rfl
  unfold kU_
  refine Wp.ite (fun h5=> ?_) (fun h5=> ?_)
  ·rw [if_pos h5];exact M _ _ _ _ _ _ _ _ _ _ _ _
  ·rw [if_neg h5];exact M _ _ _ _ _ _ _ _ _ _ _ _
theorem ug_ (e:am_) (p:ae_):Wp (fun k=>hA_ k e p) (· =fg_ e p):=by
  unfold hA_ fg_
  refine Wp.bind (b4_ _) (fun _ q=> ?_);subst q
  simp only [al_,br_,fl_]
  refine Wp.ite (fun h1=> ?_) (fun h1=>Wp.ret (by rw [if_neg h1]))
  rw [if_pos h1]
  refine Wp.bind (e7_ e h1) (fun r q=> ?_);rw [q]
  refine Wp.bif (fun u=> ?_) (fun u=>Wp.ret (by rw [if_neg (fun g=>by have:=g.1;rw [u] at this;cases this)]))
  refine Wp.bind (eD_ p) (fun _ q=> ?_);subst q
  simp only [al_]
  refine Wp.ite (fun h2=> ?_) (fun h2=>Wp.ret (by rw [if_neg (fun g=>h2 g.2.1)]))
  refine Wp.ite (fun h3=>Wp.ret (by rw [if_neg (fun g=>g.2.2.1 h3)])) (fun h3=> ?_)
  refine Wp.ite (fun h4=>Wp.ret (by rw [if_neg (fun g=>g.2.2.2 h4)])) (fun h4=> ?_)
  rw [if_pos ⟨u,h2,h3,h4⟩]
  have M:∀(n:Int) (uu:Bool) (li pe si:Int) (ow:Bool) (b:Int) (it:List ag_) (nn:Int) (hd:List aj_) (o:ByteArray) (rr:List ByteArray),
   Wp (fun k=>d2_ k p.Kind p.From p.Mine p.Yours p.Next p.Mask p.Seq p.Last p.Part 0 0 false 0 0 0 false 0 0 (⟨#[]⟩:ByteArray) (⟨#[]⟩:ByteArray) 0 n uu li pe si ow b nn o (⟨#[]⟩:ByteArray) ([]:List ag_) ([]:List aj_) ([]:List ByteArray) ([]:List ae_) it hd rr ([]:List ae_)) (· =hd_ ⟨n,uu,li,pe,si,ow,⟨b,it⟩,⟨nn,hd,o,rr⟩⟩ p):=by
    intro n uu li pe si ow b it nn hd o rr
    refine Wp.step ?_
    simp only [d2_,qI_,fl_,hd_]
    refine Wp.ite (fun h5=> ?_) (fun h5=>Wp.ret (by rw [if_neg h5]))
    rw [if_pos h5]
    refine Wp.ite (fun h6=> ?_) (fun h6=> ?_)
    ·rw [if_pos h6]
     refine Wp.bind (uR_ _ _ _) (fun _ q=> ?_);subst q
     refine Wp.step ?_
     simp only [dK_]
     exact Wp.ret rfl
    ·rw [if_neg h6]
     refine Wp.bind (uY_ _ _ _) (fun _ q=> ?_);subst q
     refine Wp.step ?_
     simp only [dK_]
     exact Wp.ret rfl
  unfold kU_
  refine Wp.ite (fun h5=> ?_) (fun h5=> ?_)
  ·rw [if_pos h5];exact M _ _ _ _ _ _ _ _ _ _ _ _
  ·rw [if_neg h5];exact M _ _ _ _ _ _ _ _ _ _ _ _
end Km.X
namespace Km.X
open Go Km
set_option linter.unusedVariables false
set_option linter.unusedSimpArgs false
def CR_ (l:List UInt8):Int:=l.foldl (fun v c=>v*256+(c.toNat:Int)) 0
theorem vG_ {n:Nat} (h:n≤6):(256:Int)^n≤281474976710656:=by
  have:n=0∨n=1∨n=2∨n=3∨n=4∨n=5∨n=6:=by omega
  rcases this with rfl | rfl | rfl | rfl | rfl | rfl | rfl<;>decide
theorem sV_ (s:ByteArray):∀(t pre:List UInt8) (v:Int),s.data.toList=pre++t→s.size≤6→0≤v∧v<256^pre.length→
    Wp (fun k=>dP_ k s v (pre.length:Int)) (· =t.foldl (fun v c=>v*256+(c.toNat:Int)) v)
  | [],pre,v,h,hs,hv=>by
    refine Wp.step ?_
    have:=hD_ h
    simp only [List.length_nil] at this
    simp only [dP_]
    simp (disch:=omega) only [al_,if_neg]
    exact Wp.ret rfl
  | c::t,pre,v,h,hs,hv=>by
    refine Wp.step ?_
    have hl:=hD_ h
    simp only [List.length_cons] at hl
    have hp:=vG_ (n:=pre.length) (by omega)
    have hc:=c.toNat_lt
    simp only [dP_]
    simp (disch:=omega) only [al_,if_pos,n0_ h,Option.bind_some,a0_]
    have ih:=sV_ s t (pre++[c]) (v*256+(c.toNat:Int)) (by simpa using h) hs (by
      rw [List.length_append,List.length_singleton,Int.pow_succ];omega)
    rwa [←bw_] at ih
theorem si_ (s:ByteArray) (h:s.size≤6):Wp (fun k=>fI_ k s) (· =CR_ s.data.toList):=sV_ s s.data.toList [] 0 rfl h (by decide)
theorem DP_ (n c:Nat) (h:c<256):(n*256) ||| c=n*256+c:=by
  have:=Nat.shiftLeft_add_eq_or_of_lt (a:=n) (i:=8) (b:=c) (by simpa using h)
  rw [Nat.shiftLeft_eq] at this
  simpa using this.symm
theorem xX_ (n c:Nat) (hn:n<281474976710656) (hc:c<256):wn_ .i64 ((n*256:Nat):Int) (c:Int)=((n*256+c:Nat):Int):=by
  have e:∀m:Nat,BitVec.ofInt 64 (m:Int)=BitVec.ofNat 64 m:=fun m=>by
    apply BitVec.eq_of_toNat_eq
    simp [BitVec.toNat_ofInt]
  show IntKind.wrap .i64 ((BitVec.ofInt 64 ((n*256:Nat):Int) ||| BitVec.ofInt 64 (c:Int)).toNat:Int)=_
  rw [e,e,BitVec.toNat_or,BitVec.toNat_ofNat,BitVec.toNat_ofNat,Nat.mod_eq_of_lt (by omega),Nat.mod_eq_of_lt (by omega),DP_ n c hc]
  exact a0_ (by omega) (by omega)
theorem FC_ (n:Nat) (h:n<36028797018963968):shift .shl .i64 (n:Int) 8=some ((n*256:Nat):Int):=by
  simp only [shift]
  rw [if_neg (by omega)]
  congr 1
  rw [show (Int.toNat 8)=8 from rfl,show min 8 IntKind.i64.bits=8 from rfl]
  rw [a0_ (by omega) (by omega)]
  simp
theorem wF_ (s:ByteArray):∀(t pre:List UInt8) (v:Nat),s.data.toList=pre++t→s.size≤6→(v:Int)<256^pre.length→
    Wp (fun k=>fT_ k s (v:Int) (pre.length:Int)) (· =t.foldl (fun v c=>v*256+(c.toNat:Int)) (v:Int))
  | [],pre,v,h,hs,hv=>by
    refine Wp.step ?_
    have:=hD_ h
    simp only [List.length_nil] at this
    simp only [fT_]
    simp (disch:=omega) only [al_,if_neg]
    exact Wp.ret rfl
  | c::t,pre,v,h,hs,hv=>by
    refine Wp.step ?_
    have hl:=hD_ h
    simp only [List.length_cons] at hl
    have hp:=vG_ (n:=pre.length) (by omega)
    have hp':=vG_ (n:=pre.length+1) (by omega)
    rw [Int.pow_succ] at hp'
    have hc:=c.toNat_lt
    simp only [fT_]
    simp (disch:=omega) only [al_,if_pos,n0_ h,Option.bind_some,a0_,FC_,xX_]
    have ih:=wF_ s t (pre++[c]) (v*256+c.toNat) (by simpa using h) hs (by
      rw [List.length_append,List.length_singleton,Int.pow_succ];omega)
    rw [←bw_] at ih
    rw [List.foldl_cons]
    have e:((v*256+c.toNat:Nat):Int)=(v:Int)*256+(c.toNat:Int):=by omega
    rw [e] at ih⊢
    exact ih
theorem wW_ (s:ByteArray) (h:s.size≤6):Wp (fun k=>jJ_ k s) (· =CR_ s.data.toList):=wF_ s s.data.toList [] 0 rfl h (by decide)
def at' (b:ByteArray) (i:Nat):UInt8:=b.data.toList.getD i 0
theorem i4_ {b:ByteArray} {i:Nat} (h:i<b.size):sN_ b (i:Int)=some (at' b i):=by
  unfold sN_ at'
  rw [if_neg (by omega),Int.toNat_natCast]
  have e:b[i]? =some (b[i]'h):=by simp [h]
  rw [e]
  have:b.data.toList[i]? =some (b[i]'h):=by
    rw [Array.getElem?_toList,Array.getElem?_eq_getElem (show i<b.data.size from h)];rfl
  rw [List.getD_eq_getElem?_getD,this];rfl
def vW_:ae_:=⟨0,0,0,0,0,0,0,false,noB⟩
def yB_ (b:ByteArray) (i j:Nat):Int:=CR_ (b.extract i j).data.toList
def iM_ (b:ByteArray):ae_:=
  if ((at' b 0).toNat:Int)=1 then ⟨(at' b 0).toNat,(at' b 1).toNat,yB_ b 2 4,yB_ b 4 6,yB_ b 6 10,(at' b 10).toNat,0,false,noB⟩
  else ⟨(at' b 0).toNat,(at' b 1).toNat,yB_ b 2 4,yB_ b 4 6,0,0,yB_ b 6 10,(((at' b 10).toNat:Int)==1),b.extract 11 b.size⟩
def h4_ (s b:ByteArray) (w:Int):ae_×Bool:=
  if (1≤w∧w≤8)∧w+11≤s.size then (if dk_ (iM_ (s.extract w.toNat s.size)) b w=s then (iM_ (s.extract w.toNat s.size),true) else (vW_,false)) else (vW_,false)
theorem fz_ (s:ByteArray) (i j:Nat):(s.extract i j).size=min j s.size-i:=by simp
theorem wu (c:UInt8):IntKind.wrap .i64 (c.toNat:Int)=(c.toNat:Int):=by have:=c.toNat_lt;exact a0_ (by omega) (by omega)
theorem uF_ (s b:ByteArray) (w:Int) (hs:s.size≤1048576):Wp (fun k=>fA_ k s b w) (· =h4_ s b w):=by
  unfold fA_ h4_
  refine Wp.bind (bQ_ _ _ _) (fun _ e=> ?_);subst e
  simp only [inB,br_,al_]
  refine Wp.ite (fun h1=> ?_) (fun h1=>Wp.ret (by rw [if_neg (fun h=>h1 h.1)];rfl))
  rw [a0_ (by omega) (by omega)]
  refine Wp.ite (fun h2=>Wp.ret (by rw [if_neg (fun h=>by omega)];rfl)) (fun h2=> ?_)
  rw [if_pos ⟨h1,by omega⟩]
  refine Wp.opt (cz_ (by omega)) ?_
  dsimp only
  rw [Int.toNat_natCast]
  have hsz:(s.extract w.toNat s.size).size=s.size-w.toNat:=by rw [fz_];omega
  have hge:11≤(s.extract w.toNat s.size).size:=by omega
  generalize hb:s.extract w.toNat s.size=B at hsz hge⊢
  have key:∀p:ae_,Wp (fun k=>(dd_ k p b w).bind fun r16=>
   bif (!(r16.toList==s.toList)) then some (vW_,false) else some (p,true)) (· =if dk_ p b w=s then (p,true) else (vW_,false)):=fun p=>by
    refine Wp.bind (p1_ p b w) (fun _ e=> ?_);subst e
    simp only [br_,qq_]
    exact Wp.ite (fun h=>Wp.ret (by rw [if_pos h])) (fun h=>Wp.ret (by rw [if_neg h]))
  have hBs:B.size≤1048576:=by omega
  refine Wp.opt (i4_ (i:=0) (by omega)) ?_
  refine Wp.opt (i4_ (i:=1) (by omega)) ?_
  refine Wp.opt (cz_ (by omega)) ?_
  refine Wp.bind (si_ _ (by rw [fz_];simp;omega)) (fun _ e=> ?_);subst e
  refine Wp.opt (cz_ (by omega)) ?_
  refine Wp.bind (si_ _ (by rw [fz_];simp;omega)) (fun _ e=> ?_);subst e
  simp only [wu,fl_]
  refine Wp.ite (fun hk=> ?_) (fun hk=> ?_)
  ·refine Wp.opt (cz_ (by omega)) ?_
   refine Wp.bind (si_ _ (by rw [fz_];simp;omega)) (fun _ e=> ?_);subst e
   refine Wp.opt (i4_ (i:=10) (by omega)) ?_
   refine Wp.step ?_
   simp only [cA_,wu]
   have:=key (iM_ B)
   unfold iM_ at this⊢
   rw [if_pos hk] at this⊢
   exact this
  ·refine Wp.opt (cz_ (by omega)) ?_
   refine Wp.bind (si_ _ (by rw [fz_];simp;omega)) (fun _ e=> ?_);subst e
   refine Wp.opt (i4_ (i:=10) (by omega)) ?_
   refine Wp.opt (cz_ (by omega)) ?_
   refine Wp.step ?_
   simp only [cA_,wu]
   have:=key (iM_ B)
   unfold iM_ at this⊢
   rw [if_neg hk] at this⊢
   exact this
theorem sw_ {p:ae_} {b s:ByteArray} {w:Int} (h:¬(iH_ p∧b.size≤30)) (hs:11≤s.size):dk_ p b w≠s:=by
  unfold dk_
  rw [if_neg (fun h'=>h ⟨h'.1,h'.2.2⟩)]
  intro e
  rw [←e] at hs
  simp [dX_] at hs
theorem uI_ (s b:ByteArray) (w:Int) (hs:s.size≤1048576):Wp (fun k=>fv_ k s b w) (· =h4_ s b w):=by
  unfold fv_ h4_
  simp only [al_]
  refine Wp.ite (fun h1=>Wp.ret (by rw [if_neg (fun h=>by omega)];rfl)) (fun h1=> ?_)
  refine Wp.ite (fun h2=>Wp.ret (by rw [if_neg (fun h=>by omega)];rfl)) (fun h2=> ?_)
  refine Wp.ite (fun h3=>Wp.ret ?_) (fun h3=> ?_)
  ·split
   ·rename_i h
    rw [if_neg (sw_ (fun h'=>by omega) (by omega))];rfl
   ·rfl
  rw [a0_ (by omega) (by omega)]
  refine Wp.ite (fun h4=>Wp.ret (by rw [if_neg (fun h=>by omega)];rfl)) (fun h4=> ?_)
  rw [if_pos ⟨by omega,by omega⟩]
  refine Wp.opt (cz_ (by omega)) ?_
  dsimp only
  rw [Int.toNat_natCast]
  have hsz:(s.extract w.toNat s.size).size=s.size-w.toNat:=by rw [fz_];omega
  have hge:11≤(s.extract w.toNat s.size).size:=by omega
  generalize hb:s.extract w.toNat s.size=B at hsz hge⊢
  have key:∀p:ae_,Wp (fun k=>(bd_ k p).bind fun r15=>bif (!r15) then some (vW_,false) else (c9_ k p b w).bind fun r16=>
   bif (!(r16.toList==s.toList)) then some (vW_,false) else some (p,true)) (· =if dk_ p b w=s then (p,true) else (vW_,false)):=fun p=>by
    refine Wp.bind (eD_ p) (fun _ e=> ?_);subst e
    simp only [br_,al_]
    refine Wp.ite (fun hf=> ?_) (fun hf=>Wp.ret (by rw [if_neg (sw_ (fun h'=>hf h'.1) (by omega))]))
    refine Wp.bind (oC_ p b w) (fun _ e=> ?_);subst e
    simp only [br_,qq_]
    exact Wp.ite (fun h=>Wp.ret (by rw [if_pos h])) (fun h=>Wp.ret (by rw [if_neg h]))
  have hBs:B.size≤1048576:=by omega
  refine Wp.opt (i4_ (i:=0) (by omega)) ?_
  refine Wp.opt (i4_ (i:=1) (by omega)) ?_
  refine Wp.opt (cz_ (by omega)) ?_
  refine Wp.bind (wW_ _ (by rw [fz_];simp;omega)) (fun _ e=> ?_);subst e
  refine Wp.opt (cz_ (by omega)) ?_
  refine Wp.bind (wW_ _ (by rw [fz_];simp;omega)) (fun _ e=> ?_);subst e
  simp only [wu,fl_]
  refine Wp.ite (fun hk=> ?_) (fun hk=> ?_)
  ·refine Wp.opt (cz_ (by omega)) ?_
   refine Wp.bind (wW_ _ (by rw [fz_];simp;omega)) (fun _ e=> ?_);subst e
   refine Wp.opt (i4_ (i:=10) (by omega)) ?_
   refine Wp.step ?_
   simp only [bx_,wu]
   have:=key (iM_ B)
   unfold iM_ at this⊢
   rw [if_pos hk] at this⊢
   exact this
  ·refine Wp.ite (fun hk2=> ?_) (fun hk2=> ?_)
   ·refine Wp.opt (cz_ (by omega)) ?_
    refine Wp.bind (wW_ _ (by rw [fz_];simp;omega)) (fun _ e=> ?_);subst e
    refine Wp.opt (i4_ (i:=10) (by omega)) ?_
    refine Wp.opt (cz_ (by omega)) ?_
    refine Wp.step ?_
    simp only [bx_,wu]
    have:=key (iM_ B)
    unfold iM_ at this⊢
    rw [if_neg hk] at this⊢
    exact this
   ·refine Wp.step ?_
    simp only [bx_,wu]
    have hno:¬iH_ (iM_ B):=fun hf=>by
      have hK:(iM_ B).Kind=1∨(iM_ B).Kind=2:=by rcases hf.2.2.2 with h | h<;>omega
      unfold iM_ at hK
      rw [if_neg hk] at hK
      exact hK.elim hk hk2
    rw [if_neg (sw_ (fun h=>hno h.1) (by omega))]
    refine Wp.bind (eD_ _) (fun _ e=> ?_);subst e
    rw [decide_eq_false]
    ·exact Wp.ret rfl
    ·intro hf
     have hK:(((at' B 0).toNat:Int))=1∨(((at' B 0).toNat:Int))=2:=hf.2.2.2.elim (fun h=> .inl h.1) (fun h=> .inr h.1)
     exact hK.elim hk hk2
end Km.X
namespace Km.X
open Go Km
set_option linter.unusedVariables false
set_option linter.unusedSimpArgs false
theorem sa_ {e:am_} (h:VEnd e):VEnd (a2_ e).End:=by
  obtain ⟨h1,h2,h3,h4,h5,h6,h7,h8⟩:=h
  have h:VEnd e:=⟨h1,h2,h3,h4,h5,h6,h7,h8⟩
  have hs:=(sy_ e h).1
  have hz:e.Peer=0→Bw_ (bn_ e).1∧Ao_ e.Take:=fun hp=>by unfold bn_;rw [if_pos hp];exact h7 hp
  unfold a2_
  rw [if_pos h]
  split
  ·rename_i hu
   have nu:∀q:Prop,(e.Up=false→q):=fun q g=>by rw [hu] at g;cases g
   split
   ·exact ⟨h1,h2,h3,⟨by simp,by simp⟩,hs,h6,hz,nu _⟩
   ·refine ⟨h1,h2,h3, ?_,hs,h6,hz,nu _⟩
    show 0≤upS e∧upS e≤1000000
    unfold upS;split<;>omega
  ·exact h
theorem wi_ {e:am_} {p:ae_} (h:VEnd e) (hu:e.Up=true) (hf:iH_ p):VEnd (kU_ e p)∧(kU_ e p).Up=true:=by
  unfold kU_
  split
  ·refine ⟨⟨h.1,h.2.1, ?_,h.2.2.2.1,id_,jT_,fun _=>⟨Ec_,EB_⟩,fun g=> ?_⟩,hu⟩
   ·have:=hf.2.1;have:=h.2.2.1
    show 0≤p.Mine∧p.Mine≤1000;omega
   ·change e.Up=false at g;rw [hu] at g;cases g
  ·exact ⟨h,hu⟩
theorem i0_ {e:am_} {p:ae_} (h:VEnd e) (hf:iH_ p) (hm:¬p.Mine<e.Peer):(kU_ e p).Peer=p.Mine:=by
  unfold kU_;split
  ·rfl
  ·omega
theorem BK_ {e:am_} {p:ae_} (h:VEnd e) (hu:e.Up=true) (hp:e.Peer≠0):VEnd (hd_ e p).End:=by
  obtain ⟨h1,h2,h3,h4,h5,h6,h7,h8⟩:=h
  have nu:∀q:Prop,(e.Up=false→q):=fun q g=>by rw [hu] at g;cases g
  unfold hd_
  split
  ·split
   ·exact ⟨h1,h2,h3,h4,wK_ _ _ _,h6,fun g=>absurd g hp,nu _⟩
   ·exact ⟨h1,h2,h3,h4,h5,zu_ _ _ _,fun g=>absurd g hp,nu _⟩
  ·exact ⟨h1,h2,h3,h4,h5,h6,fun g=>absurd g hp,nu _⟩
theorem zh_ {e:am_} (p:ae_) (h:VEnd e):VEnd (fg_ e p).End:=by
  unfold fg_
  rw [if_pos h]
  split
  ·rename_i hc
   obtain ⟨g1,g2⟩:=wi_ h hc.1 hc.2.1
   refine BK_ g1 g2 ?_
   rw [i0_ h hc.2.1 hc.2.2.2]
   have:=hc.2.1.2.1;omega
  ·exact h
theorem Cn_ {e:am_} {t:ByteArray} (h:VEnd e) (hc:(e1_ e t).Code=0):VEnd (e1_ e t).End∧e.Up=true∧e.Peer≠0∧t.size≤200:=by
  unfold e1_ at hc⊢
  rw [if_pos h] at hc⊢
  split at hc
  ·rename_i hu
   rw [if_pos hu]
   split at hc
   ·cases hc
   ·rename_i hp
    rw [if_neg hp]
    split at hc
    ·rename_i h0
     rw [if_pos h0]
     obtain ⟨h1,h2,h3,h4,h5,h6,h7,h8⟩:=h
     refine ⟨⟨h1,h2,h3,h4,wd_ _ _,h6,fun g=>absurd g hp,fun g=> ?_⟩,hu,hp, ?_⟩
     ·change e.Up=false at g;rw [hu] at g;cases g
     ·unfold kv_ at h0
      split at h0
      ·rename_i hh;exact hh.2
      ·cases h0
    ·rename_i h0;exact absurd hc h0
  ·cases hc
theorem sp_ {e:am_} (h:VEnd e) (hc:(eb_ e).Code=0):VEnd (eb_ e).End∧e.Up=true∧e.Peer≠0∧(eb_ e).Text.size≤200:=by
  unfold eb_ at hc⊢
  rw [if_pos h] at hc⊢
  split at hc
  ·rename_i hu
   rw [if_pos hu]
   split at hc
   ·rename_i hr
    rw [if_pos hr]
    obtain ⟨h1,h2,h3,h4,h5,h6,h7,h8⟩:=h
    have hp:e.Peer≠0:=fun e0=>by
      have hz:=(h7 e0).2.2.2.2
      unfold cB_ at hr
      rw [if_pos h6] at hr
      split at hr
      ·cases hr
      ·rename_i s rs hrr;rw [hrr] at hz;cases hz
    refine ⟨⟨h1,h2,h3,h4,h5,(sc_ _).1,fun g=>absurd g hp,fun g=> ?_⟩,hu,hp,(sc_ _).2⟩
    change e.Up=false at g;rw [hu] at g;cases g
   ·cases hc
  ·cases hc
theorem qd_ {e:am_} (h:VEnd e):(a2_ e).End.Number=e.Number:=by
  unfold a2_;rw [if_pos h];split
  ·split<;>rfl
  ·rfl
theorem t9_ {e:am_} (p:ae_) (h:VEnd e):(fg_ e p).End.Number=e.Number:=by
  unfold fg_;rw [if_pos h];split
  ·unfold hd_ kU_;repeat' split
   all_goals rfl
  ·rfl
theorem yC_ {e:am_} {t:ByteArray} (h:VEnd e) (hc:(e1_ e t).Code=0):(e1_ e t).End.Number=e.Number:=by
  unfold e1_ at hc⊢
  rw [if_pos h] at hc⊢
  split at hc
  ·rename_i hu;rw [if_pos hu]
   split at hc
   ·cases hc
   ·rename_i hp;rw [if_neg hp]
    split at hc
    ·rename_i h0;rw [if_pos h0]
    ·rename_i h0;exact absurd hc h0
  ·cases hc
theorem z1_ {e:am_} (h:VEnd e) (hc:(eb_ e).Code=0):(eb_ e).End.Number=e.Number:=by
  unfold eb_ at hc⊢
  rw [if_pos h] at hc⊢
  split at hc
  ·rename_i hu;rw [if_pos hu]
   split at hc
   ·rename_i hr;rw [if_pos hr]
   ·cases hc
  ·cases hc
theorem Aj_ {e:am_} (h:VEnd e):(iL_ e).Number=e.Number:=by unfold iL_;rw [if_pos h]
theorem yU_ {e:am_} (h:VEnd e):(hf_ e).Number=e.Number:=by unfold hf_;rw [if_pos h];repeat' split<;>try rfl
theorem h3_ {e:am_} (h:VEnd e):(a2_ e).Out.length≤61:=by
  have h2:=(sy_ e h).2
  unfold a2_;rw [if_pos h];split
  ·split
   ·simp;omega
   ·simp;omega
  ·simp
def sP_ (b:ByteArray) (wd to:Int) (p:ae_):ad_:=⟨to,dk_ p b wd,dk_ p b wd⟩
def vy_ (b:ByteArray) (wd to:Int) (out:List ae_) (fl:List ad_):List ad_:=fl++(out.map (sP_ b wd to)).take (1000-fl.length)
def af_ (n:Int) (l:List am_):am_:=match l with | [e,f]=>if n=1 then e else f | _=>mv_
def dl_ (n:Int) (x:am_) (l:List am_):List am_:=match l with | [e,f]=>if n=1 then [x,f] else [e,x] | l=>l
def aI_ (w:ab_):ab_:=
  ⟨w.Key,w.Width,[(a2_ (af_ 1 w.Ends)).End,(a2_ (af_ 2 w.Ends)).End],vy_ w.Key w.Width 1 (a2_ (af_ 2 w.Ends)).Out (vy_ w.Key w.Width 2 (a2_ (af_ 1 w.Ends)).Out w.Flight),w.Forged,w.Given,w.Taken⟩
def aV_ (w:ab_) (p:ad_):ab_:=
  if (h4_ p.Bytes w.Key w.Width).2=true then
   ⟨w.Key,w.Width,dl_ p.To (fg_ (af_ p.To w.Ends) (h4_ p.Bytes w.Key w.Width).1).End w.Ends,w.Flight,if¬p.Bytes=p.Sent∧w.Forged=noB then p.Bytes else w.Forged,w.Given,w.Taken⟩
  else w
def dU_ (w:ab_) (n:Int):ab_:=
  if w.Given.length+w.Taken.length<400∧(eb_ (af_ n w.Ends)).Code=0 then
   ⟨w.Key,w.Width,dl_ n (eb_ (af_ n w.Ends)).End w.Ends,w.Flight,w.Forged,w.Given,w.Taken++[⟨3-n,(af_ n w.Ends).Peer,(af_ n w.Ends).Life,(eb_ (af_ n w.Ends)).Text⟩]⟩
  else w
def k1_ (w:ab_) (n:Int) (t:ByteArray):ab_:=
  if w.Given.length+w.Taken.length<400∧(e1_ (af_ n w.Ends) t).Code=0 then
   ⟨w.Key,w.Width,dl_ n (e1_ (af_ n w.Ends) t).End w.Ends,w.Flight,w.Forged,w.Given++[⟨n,(af_ n w.Ends).Life,(af_ n w.Ends).Peer,t⟩],w.Taken⟩
  else w
def be_ (w:ab_) (fl:List ad_):ab_:=⟨w.Key,w.Width,w.Ends,fl,w.Forged,w.Given,w.Taken⟩
def pI_ (w:ab_) (n:Int) (x:am_):ab_:=⟨w.Key,w.Width,dl_ n x w.Ends,w.Flight,w.Forged,w.Given,w.Taken⟩
def AL_ (s:ByteArray) (b c:Int):ByteArray:=jb_ ((b0_ s).set b.toNat (iP_ .u8 ((b0_ s).getD b.toNat 0) (IntKind.wrap .u8 (c%256))))
def if_ (w:ab_) (v:aT_) (p:ad_):ab_:=
  if v.Kind=2 then aV_ (be_ w (w.Flight.eraseIdx v.A.toNat)) p
  else if v.Kind=3 then (if w.Flight.length<1000 then be_ w (w.Flight++[p]) else w)
  else if v.Kind=4 then be_ w (w.Flight.eraseIdx v.A.toNat)
  else if v.Kind=5 then (if (0≤v.B∧v.B<p.Bytes.size)∧0≤v.C then be_ w (w.Flight.set v.A.toNat ⟨p.To,p.Sent,AL_ p.Bytes v.B v.C⟩) else w)
  else if v.Kind=6 then (if 0≤v.B∧v.B≤p.Bytes.size then be_ w (w.Flight.set v.A.toNat ⟨p.To,p.Sent,p.Bytes.extract 0 v.B.toNat⟩) else w)
  else be_ w (w.Flight.set v.A.toNat ⟨3-p.To,p.Sent,p.Bytes⟩)
def j5_ (w:ab_) (v:aT_):ab_:=
  if v.Kind=8 then pI_ w v.A (iL_ (af_ v.A w.Ends))
  else if v.Kind=9 then pI_ w v.A (hf_ (af_ v.A w.Ends))
  else if v.Kind=10 then k1_ w v.A v.Text
  else dU_ w v.A
def doW (w:ab_) (v:aT_):ab_:=
  if v.Kind=1 then aI_ w
  else if 2≤v.Kind∧v.Kind≤7 then (if 0≤v.A then (match w.Flight[v.A.toNat]? with | some p=>if_ w v p | none=>w) else w)
  else if (8≤v.Kind∧v.Kind≤11)∧(1≤v.A∧v.A≤2) then j5_ w v
  else w
def vc_:ab_:=⟨noB,0,[],[],noB,[],[]⟩
def doM (w:ab_) (v:aT_):ab_:=if au_ w then doW w v else vc_
theorem ej_:∀{l:List am_},iO_ l→∃e f,l=[e,f]∧VEnd e∧e.Number=1∧VEnd f∧f.Number=2
  | [a,b],h=>⟨a,b,rfl,h.1.1,h.1.2,h.2.1,h.2.2⟩
theorem n5_ {e f:am_} (h1:VEnd e) (h2:e.Number=1) (h3:VEnd f) (h4:f.Number=2):iO_ [e,f]:=⟨⟨h1,h2⟩,⟨h3,h4⟩⟩
theorem by_ {l:List am_} (h:iO_ l) {n:Int} (hn:1≤n∧n≤2):VEnd (af_ n l)∧(af_ n l).Number=n:=by
  obtain ⟨e,f,rfl,h1,h2,h3,h4⟩:=ej_ h
  unfold af_
  dsimp only
  split
  ·rename_i hh;exact ⟨h1,by omega⟩
  ·exact ⟨h3,by omega⟩
theorem p3_ {l:List am_} (h:iO_ l) {n:Int} (hn:1≤n∧n≤2) {x:am_} (hx:VEnd x) (hx':x.Number=n):iO_ (dl_ n x l):=by
  obtain ⟨e,f,rfl,h1,h2,h3,h4⟩:=ej_ h
  unfold dl_
  dsimp only
  split
  ·rename_i hh;exact n5_ hx (by omega) h3 h4
  ·exact n5_ h1 h2 hx (by omega)
theorem n8_ {b:ByteArray} {wd to:Int} {out:List ae_} {fl:List ad_} (h:fl.length≤1000):(vy_ b wd to out fl).length≤1000:=by
  unfold vy_;simp;omega
theorem BI_ {b:ByteArray} {wd to:Int} {out:List ae_} {fl:List ad_} (h:ib_ fl) (ht:1≤to∧to≤2):ib_ (vy_ b wd to out fl):=fun p hp=>by
  unfold vy_ at hp
  simp only [List.mem_append] at hp
  rcases hp with hp | hp
  ·exact h p hp
  ·have:=List.mem_of_mem_take hp
   simp only [List.mem_map] at this
   obtain ⟨q,_,rfl⟩:=this
   have:=w7_ q b wd
   exact ⟨ht,by show (dk_ q b wd).size≤100;omega,by show (dk_ q b wd).size≤100;omega⟩
theorem ik_ {w:ab_} (h:au_ w):au_ (aI_ w):=by
  obtain ⟨h1,h2,h3,h4,h5,h6,h7,h8⟩:=h
  obtain ⟨e1,e2⟩:=by_ h5 (n:=1) (by omega)
  obtain ⟨f1,f2⟩:=by_ h5 (n:=2) (by omega)
  exact ⟨h1,h2,n8_ (n8_ h3),h4,n5_ (sa_ e1) ((qd_ e1).trans e2) (sa_ f1) ((qd_ f1).trans f2),BI_ (BI_ h6 (by omega)) (by omega),h7,h8⟩
theorem lm_ {w:ab_} (h:au_ w) {p:ad_} (hp:1≤p.To∧p.To≤2):au_ (aV_ w p):=by
  unfold aV_
  split
  ·obtain ⟨h1,h2,h3,h4,h5,h6,h7,h8⟩:=h
   obtain ⟨e1,e2⟩:=by_ h5 hp
   exact ⟨h1,h2,h3,h4,p3_ h5 hp (zh_ _ e1) ((t9_ _ e1).trans e2),h6,h7,h8⟩
  ·exact h
theorem qZ_ {l:List aa_} {r:aa_} (h:fE_ l) (hr:CN_ r):fE_ (l++[r]):=fun x hx=>by
  simp only [List.mem_append,List.mem_singleton] at hx
  rcases hx with hx | rfl
  ·exact h x hx
  ·exact hr
theorem mf_ {w:ab_} (h:au_ w) {n:Int} (hn:1≤n∧n≤2):au_ (dU_ w n):=by
  unfold dU_
  split
  ·rename_i hc
   obtain ⟨h1,h2,h3,h4,h5,h6,h7,h8⟩:=h
   obtain ⟨e1,e2⟩:=by_ h5 hn
   obtain ⟨g1,g2,g3,g4⟩:=sp_ e1 hc.2
   have hp:=e1.2.2.1
   exact ⟨h1,h2,h3,by simp only [List.length_append,List.length_singleton];omega,p3_ h5 hn g1 ((z1_ e1 hc.2).trans e2),h6,h7,qZ_ h8 ⟨by simp only;omega,by simp only;omega,e1.2.1,g4⟩⟩
  ·exact h
theorem BW_ {w:ab_} (h:au_ w) {n:Int} (hn:1≤n∧n≤2) (t:ByteArray):au_ (k1_ w n t):=by
  unfold k1_
  split
  ·rename_i hc
   obtain ⟨h1,h2,h3,h4,h5,h6,h7,h8⟩:=h
   obtain ⟨e1,e2⟩:=by_ h5 hn
   obtain ⟨g1,g2,g3,g4⟩:=Cn_ e1 hc.2
   have hp:=e1.2.2.1
   exact ⟨h1,h2,h3,by simp only [List.length_append,List.length_singleton];omega,p3_ h5 hn g1 ((yC_ e1 hc.2).trans e2),h6,qZ_ h7 ⟨by simp only;omega,e1.2.1,by simp only;omega,g4⟩,h8⟩
  ·exact h
theorem vx_ {w:ab_} (h:au_ w) {n:Int} (hn:1≤n∧n≤2) {x:am_} (hx:VEnd x) (hx':x.Number=n):au_ (pI_ w n x):=by
  obtain ⟨h1,h2,h3,h4,h5,h6,h7,h8⟩:=h
  exact ⟨h1,h2,h3,h4,p3_ h5 hn hx hx',h6,h7,h8⟩
theorem gS_ {w:ab_} (h:au_ w) {fl:List ad_} (h1:fl.length≤1000) (h2:ib_ fl):au_ (be_ w fl):=by
  obtain ⟨g1,g2,g3,g4,g5,g6,g7,g8⟩:=h
  exact ⟨g1,g2,h1,g4,g5,h2,g7,g8⟩
theorem r5_ {l:List ad_} (h:ib_ l) (i:Nat):ib_ (l.eraseIdx i):=fun p hp=>h p (List.mem_of_mem_eraseIdx hp)
theorem CI_ {l:List ad_} (h:ib_ l) (i:Nat) {q:ad_} (hq:vj_ q):ib_ (l.set i q):=fun p hp=>by
  rcases List.mem_or_eq_of_mem_set hp with h' | h'
  ·exact h p h'
  ·rw [h'];exact hq
theorem x4_ (s:ByteArray) (b c:Int):(AL_ s b c).size=s.size:=by
  unfold AL_;rw [h1_,List.length_set];unfold b0_;simp
theorem vL_ {w:ab_} (h:au_ w) (v:aT_):au_ (doW w v):=by
  unfold doW
  split
  ·exact ik_ h
  ·split
   ·split
    ·split
     ·rename_i p hp
      have hv:vj_ p:=h.2.2.2.2.2.1 p (List.mem_of_getElem? hp)
      have h6:=h.2.2.2.2.2.1
      have h3:=h.2.2.1
      have hel:(w.Flight.eraseIdx v.A.toNat).length≤1000:=by have:=List.length_eraseIdx_le w.Flight v.A.toNat;omega
      unfold if_
      split
      ·exact lm_ (gS_ h hel (r5_ h6 _)) hv.1
      ·split
       ·split
        ·refine gS_ h (by simp;omega) (fun q hq=> ?_)
         simp only [List.mem_append,List.mem_singleton] at hq
         rcases hq with hq | rfl
         ·exact h6 q hq
         ·exact hv
        ·exact h
       ·split
        ·exact gS_ h hel (r5_ h6 _)
        ·split
         ·split
          ·exact gS_ h (by simp;omega) (CI_ h6 _ ⟨hv.1,hv.2.1,by show (AL_ p.Bytes v.B v.C).size≤100;rw [x4_];exact hv.2.2⟩)
          ·exact h
         ·split
          ·split
           ·exact gS_ h (by simp;omega) (CI_ h6 _ ⟨hv.1,hv.2.1,by
              show (p.Bytes.extract 0 v.B.toNat).size≤100
              have:=hv.2.2
              rw [fz_];omega⟩)
           ·exact h
          ·have hvt:=hv.1
           exact gS_ h (by simp;omega) (CI_ h6 _ ⟨by show 1≤3-p.To∧3-p.To≤2;omega,hv.2.1,hv.2.2⟩)
     ·exact h
    ·exact h
   ·split
    ·rename_i hc
     have hn:=hc.2
     obtain ⟨e1,e2⟩:=by_ h.2.2.2.2.1 hn
     unfold j5_
     split
     ·exact vx_ h hn (Ai_ _ e1) ((Aj_ e1).trans e2)
     ·split
      ·exact vx_ h hn (y3_ _ e1) ((yU_ e1).trans e2)
      ·split
       ·exact BW_ h hn _
       ·exact mf_ h hn
    ·exact h
end Km.X
namespace Km.X
open Go Km
set_option linter.unusedVariables false
set_option linter.unusedSimpArgs false
theorem ir_ {l:List am_} (h:iO_ l) {n:Int} (hn:1≤n∧n≤2):idx l (IntKind.wrap .i64 (n-1))=some (af_ n l)∧l[Int.toNat (IntKind.wrap .i64 (n-1))]? =some (af_ n l)∧∀x,l.set (Int.toNat (IntKind.wrap .i64 (n-1))) x=dl_ n x l:=by
  obtain ⟨e,f,rfl,_⟩:=ej_ h
  rw [a0_ (by omega) (by omega)]
  have hc:n=1∨n=2:=by omega
  rcases hc with rfl | rfl
  ·exact ⟨rfl,rfl,fun _=>rfl⟩
  ·exact ⟨rfl,rfl,fun _=>rfl⟩
theorem wz_ (b:ByteArray) (wd to:Int) (p:ae_) (t:List ae_) (fl:List ad_) (h:fl.length<1000):fl++((p::t).map (sP_ b wd to)).take (1000-fl.length)=(fl++[sP_ b wd to p])++(t.map (sP_ b wd to)).take (1000-(fl++[sP_ b wd to p]).length):=by
  rw [List.map_cons,show 1000-fl.length=(1000-(fl.length+1))+1 by omega,List.take_succ_cons]
  simp
theorem wj_ (b:ByteArray) (wd to:Int) (t:List ae_) (fl:List ad_) (h:¬fl.length<1000):fl++(t.map (sP_ b wd to)).take (1000-fl.length)=fl:=by
  rw [show 1000-fl.length=0 by omega];simp
theorem Cq_ (K Fo:ByteArray) (W:Int) (Gi Ta:List aa_) (Es:List am_) (i n i':Int) (hi:0≤i∧i≤1) {Q:ab_→Prop}:∀(t pre:List ae_) (fl:List ad_),(pre++t).length≤1000→fl.length≤1000→
    Wp (fun k=>bk_ k n (IntKind.wrap .i64 (i'+1)) K W Fo Es (fl++(t.map (sP_ K W (2-i))).take (1000-fl.length)) Gi Ta) Q→
    Wp (fun k=>cd_ k i n i' ((pre++t).length:Int) (pre.length:Int) K W Fo (pre++t) Es fl Gi Ta) Q
  | [],pre,fl,hl,hf,h=>by
    refine Wp.step ?_
    simp only [cd_,List.append_nil]
    simp (disch:=omega) only [al_,if_neg]
    simpa using h
  | p::t,pre,fl,hl,hf,h=>by
    refine Wp.step ?_
    have hl':=hl
    simp only [List.length_append,List.length_cons] at hl
    simp only [cd_]
    simp only [al_,do_,if_true,aW_,fr_,Option.bind_some]
    have ih:=fun (fl2:List ad_) (h2:fl2.length≤1000) (hh:Wp (fun k=>bk_ k n (IntKind.wrap .i64 (i'+1)) K W Fo Es (fl2++(t.map (sP_ K W (2-i))).take (1000-fl2.length)) Gi Ta) Q)=>Cq_ K Fo W Gi Ta Es i n i' hi t (pre++[p]) fl2 (by simpa using hl') h2 hh
    simp only [←bh_,←bw_] at ih
    refine Wp.ite (fun hc=> ?_) (fun hc=> ?_)
    ·refine Wp.bind (oC_ p K W) (fun _ q=> ?_);subst q
     rw [a0_ (n:=2-i) (by omega) (by omega)]
     refine Wp.opt (aX_ (by simp;omega)) ?_
     refine Wp.step ?_
     simp only [cy_]
     rw [a0_ (n:=(pre.length:Int)+1) (by omega) (by omega)]
     refine ih (fl++[sP_ K W (2-i) p]) (by simp;omega) ?_
     rw [←wz_ K W (2-i) p t fl (by omega)];exact h
    ·refine Wp.step ?_
     simp only [cy_]
     rw [a0_ (n:=(pre.length:Int)+1) (by omega) (by omega)]
     refine ih fl hf ?_
     rw [wj_ _ _ _ _ _ (by omega)] at h⊢;exact h
theorem mL_ (w:ab_) (h:au_ w):Wp (fun k=>eg_ k w) (· =aI_ w):=by
  obtain ⟨K,W,Es,Fl,Fo,Gi,Ta⟩:=w
  obtain ⟨h1,h2,h3,h4,h5,h6,h7,h8⟩:=h
  obtain ⟨e,f,he,e1,e2,f1,f2⟩:=ej_ h5
  dsimp only at he;subst he
  have he1:=h3_ e1
  have hf1:=h3_ f1
  unfold eg_
  have len2:(([e,f]:List am_).length:Int)=2:=rfl
  have len2':∀x:am_,(([x,f]:List am_).length:Int)=2:=fun _=>rfl
  dsimp only
  rw [len2]
  refine Wp.step ?_
  simp only [bk_]
  have i0:∀x y:am_,idx [x,y] 0=some x:=fun _ _=>rfl
  have g0:∀x y:am_,[x,y][Int.toNat 0]? =some x:=fun _ _=>rfl
  have s0:∀x y z:am_,[x,y].set (Int.toNat 0) z=[z,y]:=fun _ _ _=>rfl
  have i1:∀x y:am_,idx [x,y] 1=some y:=fun _ _=>rfl
  have g1:∀x y:am_,[x,y][Int.toNat 1]? =some y:=fun _ _=>rfl
  have s1:∀x y z:am_,[x,y].set (Int.toNat 1) z=[x,z]:=fun _ _ _=>rfl
  simp (disch:=omega) only [al_,if_pos,i0,g0,Option.bind_some]
  refine Wp.bind (ng_ e) (fun _ q=> ?_);subst q
  rw [s0]
  refine Cq_ K Fo W Gi Ta _ 0 2 0 (by omega) (a2_ e).Out [] Fl (by simp;omega) h3 ?_
  rw [a0_ (n:=(0:Int)+1) (by omega) (by omega)]
  refine Wp.step ?_
  simp only [bk_]
  simp (disch:=omega) only [al_,if_pos,Int.zero_add,i1,g1,Option.bind_some]
  refine Wp.bind (ng_ f) (fun _ q=> ?_);subst q
  rw [s1]
  have hpl:=n8_ (b:=K) (wd:=W) (to:=2) (out:=(a2_ e).Out) (show Fl.length≤1000 from h3)
  refine Cq_ K Fo W Gi Ta _ 1 2 1 (by omega) (a2_ f).Out [] (vy_ K W 2 (a2_ e).Out Fl) (by simp;omega) hpl ?_
  rw [a0_ (n:=(1:Int)+1) (by omega) (by omega)]
  refine Wp.step ?_
  simp only [bk_]
  simp (disch:=omega) only [al_,if_neg]
  exact Wp.ret rfl
theorem zf_ (K Fo k1 k2 k3 Op Tx:ByteArray) (W z:Int) (c n:Int) (u:Bool) (li p s:Int) (o:Bool) (b nx:Int) (Gi Ta:List aa_) (Es E2:List am_) (F2:List ad_) (G2 T2:List aa_) (i:Int) (hi:0≤i∧i≤1) {Q:ab_→Prop}:∀(t pre:List ae_) (fl:List ad_),(pre++t).length≤1000→fl.length≤1000→
    Wp (fun k=>bT_ k (IntKind.wrap .i64 (i+1)) K W Fo k1 z k2 Es (fl++(t.map (sP_ K W (2-i))).take (1000-fl.length)) Gi Ta E2 F2 G2 T2) Q→
    Wp (fun k=>dR_ k i (pre.length:Int) K W Fo k1 z k2 c n u li p s o b nx Op Tx Es fl Gi Ta E2 F2 G2 T2 (pre++t)) Q
  | [],pre,fl,hl,hf,h=>by
    refine Wp.step ?_
    simp only [dR_,List.append_nil]
    simp (disch:=omega) only [al_,if_neg]
    simpa using h
  | q::t,pre,fl,hl,hf,h=>by
    refine Wp.step ?_
    have hl':=hl
    simp only [List.length_append,List.length_cons] at hl
    simp only [dR_]
    simp only [al_,do_,if_true,aW_,fr_,Option.bind_some]
    have ih:=fun (fl2:List ad_) (h2:fl2.length≤1000) (hh:Wp (fun k=>bT_ k (IntKind.wrap .i64 (i+1)) K W Fo k1 z k2 Es (fl2++(t.map (sP_ K W (2-i))).take (1000-fl2.length)) Gi Ta E2 F2 G2 T2) Q)=>zf_ K Fo k1 k2 k3 Op Tx W z c n u li p s o b nx Gi Ta Es E2 F2 G2 T2 i hi t (pre++[q]) fl2 (by simpa using hl') h2 hh
    simp only [←bh_,←bw_] at ih
    refine Wp.ite (fun hc=> ?_) (fun hc=> ?_)
    ·refine Wp.bind (p1_ q K W) (fun _ e=> ?_);subst e
     rw [a0_ (n:=2-i) (by omega) (by omega)]
     refine Wp.opt (aX_ (by simp;omega)) ?_
     rw [a0_ (n:=(pre.length:Int)+1) (by omega) (by omega)]
     refine ih (fl++[sP_ K W (2-i) q]) (by simp;omega) ?_
     rw [←wz_ K W (2-i) q t fl (by omega)];exact h
    ·rw [wj_ _ _ _ _ _ (by omega)] at h;exact h
theorem iU_ (w:ab_) (h:au_ w):Wp (fun k=>fW_ k w) (· =aI_ w):=by
  obtain ⟨K,W,Es,Fl,Fo,Gi,Ta⟩:=w
  obtain ⟨h1,h2,h3,h4,h5,h6,h7,h8⟩:=h
  obtain ⟨e,f,he,e1,e2,f1,f2⟩:=ej_ h5
  dsimp only at he;subst he
  have he1:=h3_ e1
  have hf1:=h3_ f1
  unfold fW_
  dsimp only
  refine Wp.step ?_
  simp only [bT_]
  have i0:∀x y:am_,idx [x,y] 0=some x:=fun _ _=>rfl
  have g0:∀x y:am_,[x,y][Int.toNat 0]? =some x:=fun _ _=>rfl
  have s0:∀x y z:am_,[x,y].set (Int.toNat 0) z=[z,y]:=fun _ _ _=>rfl
  have i1:∀x y:am_,idx [x,y] 1=some y:=fun _ _=>rfl
  have g1:∀x y:am_,[x,y][Int.toNat 1]? =some y:=fun _ _=>rfl
  have s1:∀x y z:am_,[x,y].set (Int.toNat 1) z=[x,z]:=fun _ _ _=>rfl
  simp (disch:=omega) only [al_,if_pos,i0,g0,Option.bind_some]
  refine Wp.bind (nf_ e) (fun _ q=> ?_);subst q
  rw [s0]
  refine zf_ K Fo _ _ noB _ _ W _ _ _ _ _ _ _ _ _ _ Gi Ta _ _ _ _ _ 0 (by omega) (a2_ e).Out [] Fl (by simp;omega) h3 ?_
  rw [a0_ (n:=(0:Int)+1) (by omega) (by omega)]
  refine Wp.step ?_
  simp only [bT_]
  simp (disch:=omega) only [al_,if_pos,Int.zero_add,i1,g1,Option.bind_some]
  refine Wp.bind (nf_ f) (fun _ q=> ?_);subst q
  rw [s1]
  have hpl:=n8_ (b:=K) (wd:=W) (to:=2) (out:=(a2_ e).Out) (show Fl.length≤1000 from h3)
  refine zf_ K Fo _ _ noB _ _ W _ _ _ _ _ _ _ _ _ _ Gi Ta _ _ _ _ _ 1 (by omega) (a2_ f).Out [] (vy_ K W 2 (a2_ e).Out Fl) (by simp;omega) hpl ?_
  rw [a0_ (n:=(1:Int)+1) (by omega) (by omega)]
  refine Wp.step ?_
  simp only [bT_]
  simp (disch:=omega) only [al_,if_neg]
  exact Wp.ret rfl
theorem Ch_ (K Fo B Sn By:ByteArray) (W:Int) (p:ad_) (q:ae_) (Es:List am_) (Fl:List ad_) (Gi Ta:List aa_) (h5:iO_ Es) (hp:1≤p.To∧p.To≤2):Wp (fun k=>bR_ k K W Fo p.To p.Sent p.Bytes q.Kind q.From q.Mine q.Yours q.Next q.Mask q.Seq q.Last q.Part Es Fl Gi Ta) (· =⟨K,W,dl_ p.To (fg_ (af_ p.To Es) q).End Es,Fl,Fo,Gi,Ta⟩):=by
  refine Wp.step ?_
  simp only [bR_]
  obtain ⟨a1,a2,a3⟩:=ir_ h5 hp
  simp only [a1,a2,a3,Option.bind_some]
  refine Wp.bind (ug_ _ _) (fun _ e=> ?_);subst e
  exact Wp.ret rfl
theorem lU_ (w:ab_) (h:au_ w) (p:ad_) (hp:1≤p.To∧p.To≤2) (hs:p.Bytes.size≤100):Wp (fun k=>cH_ k w p) (· =aV_ w p):=by
  obtain ⟨K,W,Es,Fl,Fo,Gi,Ta⟩:=w
  have h5:=h.2.2.2.2.1
  unfold cH_ aV_
  refine Wp.bind (uI_ p.Bytes K W (by omega)) (fun _ e=> ?_);subst e
  dsimp only
  simp only [br_]
  refine Wp.bif (fun hr=> ?_) (fun hr=>Wp.ret (by rw [if_neg (by simp [hr])]))
  rw [if_pos hr]
  simp only [qq_]
  refine Wp.ite (fun hb=> ?_) (fun hb=> ?_)
  ·refine (Ch_ K Fo noB noB noB W p _ Es Fl Gi Ta h5 hp).mono fun r hr=> ?_
   rw [hr,if_neg (by simp [hb])]
  ·refine Wp.ite (fun hf=> ?_) (fun hf=> ?_)
   ·refine (Ch_ K p.Bytes noB noB noB W p _ Es Fl Gi Ta h5 hp).mono fun r hr=> ?_
    rw [hr,if_pos ⟨hb,hf⟩]
   ·refine (Ch_ K Fo noB noB noB W p _ Es Fl Gi Ta h5 hp).mono fun r hr=> ?_
    rw [hr,if_neg (fun g=>hf g.2)]
theorem wf_ (l:List ad_) (i:Nat) (h:i<l.length):l.take i++l.drop (i+1)=l.eraseIdx i:=(List.eraseIdx_eq_take_drop_succ l i).symm
theorem uo_ {α:Type} (l:List α) (i:Nat):dT_ l 0 i=l.take i:=by simp [dT_]
theorem tJ_ {α:Type} (l:List α) (i:Nat):dT_ l i l.length=l.drop i:=by simp [dT_]
theorem mm_ (l:List ad_) (i:Nat) (h:i<l.length) (hl:l.length≤1000):Wp (fun k=>dM_ k l (i:Int)) (· =l.eraseIdx i):=by
  unfold dM_
  refine Wp.opt (cz_ ⟨by omega,by omega,by omega⟩) ?_
  dsimp only
  rw [Int.toNat_natCast,show Int.toNat 0=0 from rfl,uo_]
  refine Wp.opt (aX_ (by simp;omega)) ?_
  rw [a0_ (by omega) (by omega)]
  refine Wp.opt (cz_ ⟨by omega,by omega,by omega⟩) ?_
  dsimp only
  rw [Int.toNat_natCast,show Int.toNat ((i:Int)+1)=i+1 by omega,tJ_]
  refine Wp.opt (aX_ (by simp;omega)) ?_
  refine Wp.ret ?_
  rw [←wf_ l i h];simp
theorem B3_ (K Fo k1 k2:ByteArray) (W z:Int) (p:ad_) (q:ae_) (Es E2:List am_) (Fl F2:List ad_) (Gi Ta G2 T2:List aa_) (h5:iO_ Es) (hp:1≤p.To∧p.To≤2):Wp (fun k=>dc_ k K W Fo k1 z k2 p.To p.Sent p.Bytes q.Kind q.From q.Mine q.Yours q.Next q.Mask q.Seq q.Last q.Part Es Fl Gi Ta E2 F2 G2 T2) (· =⟨K,W,dl_ p.To (fg_ (af_ p.To Es) q).End Es,Fl,Fo,Gi,Ta⟩):=by
  refine Wp.step ?_
  simp only [dc_]
  obtain ⟨a1,a2,a3⟩:=ir_ h5 hp
  simp only [a1,a2,a3,Option.bind_some]
  refine Wp.bind (tG_ _ _) (fun _ e=> ?_);subst e
  exact Wp.ret rfl
theorem iv_ (w:ab_) (h:au_ w) (i:Nat) {p:ad_} (hi:w.Flight[i]? =some p):Wp (fun k=>e6_ k w (i:Int)) (· =aV_ (be_ w (w.Flight.eraseIdx i)) p):=by
  have hv:vj_ p:=h.2.2.2.2.2.1 p (List.mem_of_getElem? hi)
  have hlt:=(List.getElem?_eq_some_iff.mp hi).1
  obtain ⟨K,W,Es,Fl,Fo,Gi,Ta⟩:=w
  have h5:=h.2.2.2.2.1
  have h3:=h.2.2.1
  dsimp only at hi hlt h3 h5
  unfold e6_ aV_ be_
  dsimp only
  have e1:idx Fl (i:Int)=some p:=by rw [e3_];exact hi
  have e2:Fl[Int.toNat (i:Int)]? =some p:=by rw [Int.toNat_natCast];exact hi
  simp only [e1,e2,Option.bind_some]
  refine Wp.bind (mm_ Fl i hlt h3) (fun _ e=> ?_);subst e
  refine Wp.bind (uF_ p.Bytes K W (by have:=hv.2.2;omega)) (fun _ e=> ?_);subst e
  simp only [br_]
  refine Wp.bif (fun hr=> ?_) (fun hr=>Wp.ret (by rw [if_neg (by simp [hr])]))
  rw [if_pos hr]
  simp only [qq_]
  refine Wp.ite (fun hb=> ?_) (fun hb=> ?_)
  ·refine (B3_ K Fo _ _ W _ p _ Es _ _ _ Gi Ta _ _ h5 hv.1).mono fun r hr=> ?_
   rw [hr,if_neg (by simp [hb])]
  ·refine Wp.ite (fun hf=> ?_) (fun hf=> ?_)
   ·refine (B3_ K p.Bytes _ _ W _ p _ Es _ _ _ Gi Ta _ _ h5 hv.1).mono fun r hr=> ?_
    rw [hr,if_pos ⟨hb,hf⟩]
   ·refine (B3_ K Fo _ _ W _ p _ Es _ _ _ Gi Ta _ _ h5 hv.1).mono fun r hr=> ?_
    rw [hr,if_neg (fun g=>hf g.2)]
theorem v7_ {a b:Nat} (h:a+b≤400):IntKind.wrap .i64 ((a:Int)+(b:Int))=((a+b:Nat):Int):=by rw [a0_ (by omega) (by omega)];omega
theorem nh_ (w:ab_) (h:au_ w) (n:Int) (hn:1≤n∧n≤2):Wp (fun k=>em_ k w n) (· =dU_ w n):=by
  obtain ⟨K,W,Es,Fl,Fo,Gi,Ta⟩:=w
  have h5:=h.2.2.2.2.1
  have h4:=h.2.2.2.1
  dsimp only at h4 h5
  unfold em_ ek_ dU_
  dsimp only
  simp only [Option.bind_some,v7_ h4,al_]
  refine Wp.ite (fun hc=>Wp.ret (by rw [if_neg (by omega)])) (fun hc=> ?_)
  obtain ⟨a1,a2,a3⟩:=ir_ h5 hn
  simp only [a1,a2,a3,Option.bind_some]
  refine Wp.bind (s6_ _) (fun _ e=> ?_);subst e
  simp only [fl_]
  refine Wp.ite (fun h0=> ?_) (fun h0=>Wp.ret (by rw [if_neg (fun g=>h0 g.2)]))
  rw [a0_ (n:=3-n) (by omega) (by omega)]
  refine Wp.opt (aX_ (by simp;omega)) ?_
  exact Wp.ret (by rw [if_pos ⟨by omega,h0⟩])
end Km.X
namespace Km.X
open Go Km
set_option linter.unusedVariables false
theorem mI_ (K Fo a c:ByteArray) (W b:Int) (Es:List am_) (Fl:List ad_) (Gi Ta:List aa_) (E2:List am_) (F2:List ad_) (G2 T2:List aa_):Wp (fun k=>bc_ k K W Fo a b c Es Fl Gi Ta E2 F2 G2 T2) (· =⟨K,W,Es,Fl,Fo,Gi,Ta⟩):=by
  refine Wp.step ?_
  simp only [bc_]
  exact Wp.ret rfl
theorem BH_ (K Fo a c:ByteArray) (W b:Int) (Es:List am_) (Fl:List ad_) (Gi Ta:List aa_) (E2:List am_) (F2:List ad_) (G2 T2:List aa_):Wp (fun k=>de_ k K W Fo a b c Es Fl Gi Ta E2 F2 G2 T2) (· =⟨K,W,Es,Fl,Fo,Gi,Ta⟩):=by
  refine Wp.step ?_
  simp only [de_]
  exact Wp.ret rfl
theorem p2_ (K Fo a c:ByteArray) (W b:Int) (Es:List am_) (Fl:List ad_) (Gi Ta:List aa_) (E2:List am_) (F2:List ad_) (G2 T2:List aa_):Wp (fun k=>ar_ k a b c K W Fo E2 F2 G2 T2 Es Fl Gi Ta) (· =⟨K,W,Es,Fl,Fo,Gi,Ta⟩):=by
  refine Wp.step ?_
  simp only [ar_]
  exact Wp.ret rfl
theorem AZ_ {α:Type} {l:List α} {i:Nat} {p:α} (h:l[i]? =some p):l.set i p=l:=by
  obtain ⟨h1,h2⟩:=List.getElem?_eq_some_iff.mp h
  subst h2;exact List.set_getElem_self h1
theorem qT_ (w:ab_) (h:au_ w) (v:aT_) (hk:8≤v.Kind∧v.Kind≤11) (hn:1≤v.A∧v.A≤2):Wp (fun k=>gJ_ k w v) (· =j5_ w v):=by
  obtain ⟨K,W,Es,Fl,Fo,Gi,Ta⟩:=w
  have h5:=h.2.2.2.2.1
  have h4:=h.2.2.2.1
  dsimp only at h4 h5
  obtain ⟨a1,a2,a3⟩:=ir_ h5 hn
  unfold gJ_ j5_
  dsimp only
  simp only [a1,a2,a3,Option.bind_some,fl_]
  refine Wp.ite (fun e=> ?_) (fun e=> ?_)
  ·refine Wp.bind (vu_ _) (fun _ e'=> ?_);subst e'
   exact (mI_ ..).mono fun r hr=>by rw [hr,if_pos e];rfl
  rw [if_neg e]
  refine Wp.ite (fun e=> ?_) (fun e=> ?_)
  ·refine Wp.bind (vw_ _) (fun _ e'=> ?_);subst e'
   exact (mI_ ..).mono fun r hr=>by rw [hr,if_pos e];rfl
  rw [if_neg e]
  refine Wp.ite (fun e=> ?_) (fun e=> ?_)
  ·rw [if_pos e]
   refine Wp.bind (tY_ _ _) (fun _ e'=> ?_);subst e'
   simp only [v7_ h4,al_]
   unfold k1_
   dsimp only
   refine Wp.ite (fun h0=> ?_) (fun h0=> ?_)
   ·refine Wp.ite (fun h1=> ?_) (fun h1=> ?_)
    ·refine Wp.opt (aX_ (by simp;omega)) ?_
     exact (mI_ ..).mono fun r hr=>by rw [hr,if_pos ⟨by omega,h0⟩]
    ·exact (mI_ ..).mono fun r hr=>by rw [hr,if_neg (fun g=>by omega)]
   ·exact (mI_ ..).mono fun r hr=>by rw [hr,if_neg (fun g=>h0 g.2)]
  rw [if_neg e]
  refine Wp.ite (fun e=> ?_) (fun e=>by omega)
  refine Wp.bind (te_ _) (fun _ e'=> ?_);subst e'
  simp only [v7_ h4,al_]
  unfold dU_
  dsimp only
  refine Wp.ite (fun h0=> ?_) (fun h0=> ?_)
  ·refine Wp.ite (fun h1=> ?_) (fun h1=> ?_)
   ·rw [a0_ (n:=3-v.A) (by omega) (by omega)]
    refine Wp.opt (aX_ (by simp;omega)) ?_
    exact (mI_ ..).mono fun r hr=>by rw [hr,if_pos ⟨by omega,h0⟩]
   ·exact (mI_ ..).mono fun r hr=>by rw [hr,if_neg (fun g=>by omega)]
  ·exact (mI_ ..).mono fun r hr=>by rw [hr,if_neg (fun g=>h0 g.2)]
theorem m8_ (K Fo a c Tx:ByteArray) (W b Kd A B C To:Int) (Sn By:ByteArray) (Es:List am_) (Fl:List ad_) (Gi Ta:List aa_) (E2:List am_) (F2:List ad_) (G2 T2:List aa_) {p:ad_} (h1:idx Fl A=some p) (h2:Fl[Int.toNat A]? =some p):Wp (fun k=>aL_ k K W Fo Kd A B C Tx a b c To Sn By Es Fl Gi Ta E2 F2 G2 T2) (· =⟨K,W,Es,Fl.set A.toNat ⟨To,Sn,By⟩,Fo,Gi,Ta⟩):=by
  refine Wp.step ?_
  simp only [aL_,h1,h2,Option.bind_some]
  exact Wp.ret rfl
theorem w0_ {s:ByteArray} {b:Int} (h:0≤b∧b<s.size):idx (b0_ s) b=some ((b0_ s).getD b.toNat 0)∧(b0_ s)[b.toNat]? =some ((b0_ s).getD b.toNat 0):=by
  have hl:b.toNat<(b0_ s).length:=by
    have:(b0_ s).length=s.size:=by unfold b0_;rw [List.length_map,Array.length_toList];rfl
    omega
  have e:(b0_ s)[b.toNat]? =some ((b0_ s).getD b.toNat 0):=by rw [List.getD_eq_getElem?_getD,List.getElem?_eq_getElem hl];rfl
  refine ⟨?_,e⟩
  have:=e3_ (b0_ s) b.toNat
  rw [Int.toNat_of_nonneg h.1] at this
  rw [this,e]
theorem se_ (w:ab_) (h:au_ w) (v:aT_) (hk:2≤v.Kind∧v.Kind≤7) (h0:0≤v.A) {p:ad_} (hp:w.Flight[v.A.toNat]? =some p):Wp (fun k=>gA_ k w v) (· =if_ w v p):=by
  have hv:vj_ p:=h.2.2.2.2.2.1 p (List.mem_of_getElem? hp)
  have hlt:=(List.getElem?_eq_some_iff.mp hp).1
  have hb:=iv_ w h v.A.toNat hp
  have hwo:=mm_ w.Flight v.A.toNat hlt h.2.2.1
  have hix:idx w.Flight v.A=some p:=by have:=e3_ w.Flight v.A.toNat;rw [Int.toNat_of_nonneg h0] at this;rw [this,hp]
  rw [Int.toNat_of_nonneg h0] at hb hwo
  obtain ⟨K,W,Es,Fl,Fo,Gi,Ta⟩:=w
  have h3:=h.2.2.1
  dsimp only at hp hlt h3 hwo hix
  unfold gA_ if_
  dsimp only
  simp only [hix,hp,Option.bind_some,fl_]
  refine Wp.ite (fun e=> ?_) (fun e=> ?_)
  ·refine Wp.bind hb (fun _ e'=> ?_);subst e'
   exact Wp.ret (by rw [if_pos e])
  rw [if_neg e]
  refine Wp.ite (fun e4=> ?_) (fun e4=> ?_)
  ·refine Wp.bind hwo (fun _ e'=> ?_);subst e'
   exact Wp.ret (by rw [if_neg (by omega),if_pos e4];rfl)
  refine Wp.ite (fun e=> ?_) (fun e=> ?_)
  ·rw [if_pos e]
   refine Wp.dec (fun hl=> ?_) (fun hl=> ?_)
   ·refine Wp.opt (aX_ (by simp;omega)) ?_
    exact (BH_ ..).mono fun r hr=>by rw [hr,if_pos (by omega)];rfl
   ·exact (BH_ ..).mono fun r hr=>by rw [hr,if_neg (by omega)]
  rw [if_neg e,if_neg e4]
  have same:Fl.set v.A.toNat ⟨p.To,p.Sent,p.Bytes⟩=Fl:=AZ_ hp
  refine Wp.ite (fun e=> ?_) (fun e=> ?_)
  ·rw [if_pos e]
   refine Wp.dec (fun h1=> ?_) (fun h1=> ?_)
   ·refine Wp.dec (fun h2=> ?_) (fun h2=> ?_)
    ·refine Wp.dec (fun h3=> ?_) (fun h3=> ?_)
     ·obtain ⟨b1,b2⟩:=w0_ (s:=p.Bytes) (b:=v.B) ⟨h1,h2⟩
      simp only [b1,b2,Option.bind_some]
      refine Wp.opt (fD_ h3 (by omega)) ?_
      exact (m8_ (h1:=hix) (h2:=hp) ..).mono fun r hr=>by rw [hr,if_pos ⟨⟨h1,h2⟩,h3⟩];rfl
     ·exact (m8_ (h1:=hix) (h2:=hp) ..).mono fun r hr=>by rw [hr,if_neg (fun g=>h3 g.2),same]
    ·exact (m8_ (h1:=hix) (h2:=hp) ..).mono fun r hr=>by rw [hr,if_neg (fun g=>h2 g.1.2),same]
   ·exact (m8_ (h1:=hix) (h2:=hp) ..).mono fun r hr=>by rw [hr,if_neg (fun g=>h1 g.1.1),same]
  rw [if_neg e]
  refine Wp.ite (fun e=> ?_) (fun e=> ?_)
  ·rw [if_pos e]
   refine Wp.dec (fun h1=> ?_) (fun h1=> ?_)
   ·refine Wp.dec (fun h2=> ?_) (fun h2=> ?_)
    ·refine Wp.opt (cz_ ⟨by omega,h1,h2⟩) ?_
     exact (m8_ (h1:=hix) (h2:=hp) ..).mono fun r hr=>by rw [hr,if_pos ⟨h1,h2⟩];rfl
    ·exact (m8_ (h1:=hix) (h2:=hp) ..).mono fun r hr=>by rw [hr,if_neg (fun g=>h2 g.2),same]
   ·exact (m8_ (h1:=hix) (h2:=hp) ..).mono fun r hr=>by rw [hr,if_neg (fun g=>h1 g.1),same]
  rw [if_neg e]
  refine Wp.ite (fun e=> ?_) (fun e=>by omega)
  have:=hv.1
  exact (m8_ (h1:=hix) (h2:=hp) ..).mono fun r hr=>by rw [hr,a0_ (n:=3-p.To) (by omega) (by omega)];rfl
theorem ms_ {w:ab_} {v:aT_} {p:ad_} (hk:2≤v.Kind∧v.Kind≤7) (h0:0≤v.A) (hp:w.Flight[v.A.toNat]? =some p):doW w v=if_ w v p:=by
  unfold doW;rw [if_neg (by omega),if_pos hk,if_pos h0,hp]
theorem kY_ {w:ab_} {v:aT_} (hk:2≤v.Kind∧v.Kind≤7) (h0:¬(0≤v.A∧v.A<w.Flight.length)):doW w v=w:=by
  unfold doW;rw [if_neg (by omega),if_pos hk]
  split
  ·rename_i h;rw [List.getElem?_eq_none (by omega)]
  ·rfl
theorem my_ {w:ab_} {v:aT_} (hk:8≤v.Kind∧v.Kind≤11) (h0:1≤v.A∧v.A≤2):doW w v=j5_ w v:=by
  unfold doW;rw [if_neg (by omega),if_neg (by omega),if_pos ⟨hk,h0⟩]
theorem nR_ {w:ab_} {v:aT_} (hk:¬(1≤v.Kind∧v.Kind≤11)∨(8≤v.Kind∧¬(1≤v.A∧v.A≤2))):doW w v=w:=by
  unfold doW;rw [if_neg (by omega),if_neg (by omega),if_neg (by omega)]
theorem l4_ (w:ab_) (h:au_ w) (v:aT_):Wp (fun k=>hV_ k w v) (· =doW w v):=by
  have h3:=h.2.2.1
  unfold hV_
  simp only [fl_]
  refine Wp.ite (fun e=> ?_) (fun e=> ?_)
  ·refine Wp.bind (iU_ w h) (fun _ e'=> ?_);subst e'
   exact Wp.ret (by unfold doW;rw [if_pos e])
  refine Wp.bind (bQ_ _ _ _) (fun _ e'=> ?_);subst e'
  refine Wp.bif (fun hb=> ?_) (fun hb=> ?_)
  ·simp only [Bool.and_eq_true,decide_eq_true_eq] at hb
   refine Wp.bind (bQ_ _ _ _) (fun _ e'=> ?_);subst e'
   rw [a0_ (n:=(w.Flight.length:Int)-1) (by omega) (by omega)]
   refine Wp.bif (fun ha=> ?_) (fun ha=> ?_)
   ·simp only [Bool.and_eq_true,decide_eq_true_eq] at ha
    have hg:w.Flight[v.A.toNat]? =some (w.Flight[v.A.toNat]'(by omega)):=List.getElem?_eq_getElem (by omega)
    refine Wp.bind (se_ w h v hb ha.1 hg) (fun _ e'=> ?_);subst e'
    exact Wp.ret (ms_ hb ha.1 hg).symm
   ·simp only [Bool.and_eq_false_iff,decide_eq_false_iff_not] at ha
    refine Wp.bind (bQ_ _ _ _) (fun _ e'=> ?_);subst e'
    refine Wp.bif (fun h8=> ?_) (fun h8=>Wp.ret (kY_ hb (by omega)).symm)
    simp only [Bool.and_eq_true,decide_eq_true_eq] at h8
    omega
  ·simp only [Bool.and_eq_false_iff,decide_eq_false_iff_not] at hb
   refine Wp.bind (bQ_ _ _ _) (fun _ e'=> ?_);subst e'
   refine Wp.bif (fun h8=> ?_) (fun h8=> ?_)
   ·simp only [Bool.and_eq_true,decide_eq_true_eq] at h8
    refine Wp.bind (bQ_ _ _ _) (fun _ e'=> ?_);subst e'
    refine Wp.bif (fun ha=> ?_) (fun ha=> ?_)
    ·simp only [Bool.and_eq_true,decide_eq_true_eq] at ha
     refine Wp.bind (qT_ w h v h8 ha) (fun _ e'=> ?_);subst e'
     exact Wp.ret (my_ h8 ha).symm
    ·simp only [Bool.and_eq_false_iff,decide_eq_false_iff_not] at ha
     exact Wp.ret (nR_ (.inr ⟨h8.1,by omega⟩)).symm
   ·simp only [Bool.and_eq_false_iff,decide_eq_false_iff_not] at h8
    exact Wp.ret (nR_ (.inl (by omega))).symm
theorem t5_ (K Fo K' Fo' a c:ByteArray) (W W' b:Int) (Fl Fl':List ad_) (Gi Ta Gi' Ta':List aa_) (E2:List am_) (F2:List ad_) (G2 T2:List aa_) (hf:Fl.length≤1000) (hg:Gi.length≤1000) (ht:Ta.length≤1000):∀(t pre:List am_),(pre++t).length≤1000→(∀e∈t,VEnd e)→
    Wp (fun k=>dS_ k (pre.length:Int) K W (pre++t) Fl Fo Gi Ta a b c K' W' Fl' Fo' Gi' Ta' E2 F2 G2 T2 pre) (· =⟨K',W',pre++t,Fl,Fo',Gi,Ta⟩)
  | [],pre,hl,hv=>by
    refine Wp.step ?_
    simp only [dS_]
    simp only [List.append_nil] at hl⊢
    simp (disch:=omega) only [al_,if_neg]
    refine Wp.opt (aX_ (by simp;omega)) ?_
    refine Wp.opt (aX_ (by simp;omega)) ?_
    refine Wp.opt (aX_ (by simp;omega)) ?_
    exact Wp.ret (by simp)
  | e::t,pre,hl,hv=>by
    refine Wp.step ?_
    simp only [dS_]
    simp only [al_]
    simp only [List.length_append,List.length_cons] at hl
    refine Wp.ite (fun _=> ?_) (fun hx=>absurd (by simp;omega) hx)
    simp only [aW_,Option.bind_some]
    refine Wp.bind (gc_ e (hv e (by simp))) (fun _ e'=> ?_);have e'':=e'.symm;subst e''
    refine Wp.opt (aX_ (by simp;omega)) ?_
    rw [a0_ (n:=(pre.length:Int)+1) (by omega) (by omega)]
    have:=t5_ K Fo K' Fo' a c W W' b Fl Fl' Gi Ta Gi' Ta' E2 F2 G2 T2 hf hg ht t (pre++[e]) (by simp;omega) (fun x hx=>hv x (by simp [hx]))
    simpa using this
theorem jd_ (w:ab_) (h:au_ w):Wp (fun k=>ei_ k w) (· =w):=by
  obtain ⟨K,W,Es,Fl,Fo,Gi,Ta⟩:=w
  have h5:=h.2.2.2.2.1
  have h4:=h.2.2.2.1
  have h3:=h.2.2.1
  dsimp only at h3 h4 h5
  obtain ⟨e,f,rfl,a1,_,a2,_⟩:=ej_ h5
  unfold ei_
  have:=t5_ K Fo K Fo noB noB W W 0 Fl Fl Gi Ta Gi Ta [] [] [] [] (by omega) (by omega) (by omega) [e,f] [] (by simp) (by simp [a1,a2])
  simpa using this
theorem nb_ (w:ab_) (h:au_ w):Wp (fun k=>eG_ k w) (· =w):=by
  obtain ⟨K,W,Es,Fl,Fo,Gi,Ta⟩:=w
  have h5:=h.2.2.2.2.1
  have h4:=h.2.2.2.1
  have h3:=h.2.2.1
  dsimp only at h3 h4 h5
  obtain ⟨e,f,rfl,a1,_,a2,_⟩:=ej_ h5
  unfold eG_
  refine Wp.opt (aX_ (by simp)) ?_
  refine Wp.step ?_
  simp only [cu_]
  simp only [List.nil_append,List.length_cons,List.length_nil,al_]
  refine Wp.ite (fun _=> ?_) (fun hx=>by omega)
  refine Wp.opt (x:=e) rfl ?_
  refine Wp.opt (x:=e) rfl ?_
  refine Wp.bind (e7_ e a1) (fun _ e'=> ?_);have e'':=e'.symm;subst e''
  refine Wp.opt (x:=e) rfl ?_
  refine Wp.opt (x:=e) rfl ?_
  rw [show IntKind.wrap .i64 (0+1)=1 by rfl]
  refine Wp.step ?_
  simp only [cu_,al_]
  refine Wp.ite (fun _=> ?_) (fun hx=>by omega)
  refine Wp.opt (x:=f) rfl ?_
  refine Wp.opt (x:=f) rfl ?_
  refine Wp.bind (e7_ f a2) (fun _ e'=> ?_);have e'':=e'.symm;subst e''
  refine Wp.opt (x:=f) rfl ?_
  refine Wp.opt (x:=f) rfl ?_
  rw [show IntKind.wrap .i64 (1+1)=2 by rfl]
  refine Wp.step ?_
  simp only [cu_,al_]
  refine Wp.ite (fun hx=>by omega) (fun _=> ?_)
  refine Wp.opt (aX_ (by simp;omega)) ?_
  refine Wp.opt (aX_ (by simp;omega)) ?_
  refine Wp.opt (aX_ (by simp;omega)) ?_
  exact Wp.ret (by rfl)
end Km.X
namespace Km.X
open Go Km
set_option linter.unusedVariables false
theorem jn_ {R:Type} (x:Option R):Km.both x x=x:=by unfold Km.both;rw [if_pos rfl]
theorem uH_ {e:am_} {t:ByteArray} (hc:(e1_ e t).Code=0):(e1_ e t).End.Life=e.Life∧(e1_ e t).End.Peer=e.Peer:=by
  unfold e1_ at hc⊢
  split
  ·rename_i h1;rw [if_pos h1] at hc
   split
   ·rename_i h2;rw [if_pos h2] at hc
    split
    ·rename_i h3;rw [if_pos h3] at hc;cases hc
    ·rename_i h3;rw [if_neg h3] at hc
     split
     ·exact ⟨rfl,rfl⟩
     ·rename_i h4;rw [if_neg h4] at hc;exact absurd hc h4
   ·rename_i h2;rw [if_neg h2] at hc;cases hc
  ·rename_i h1;rw [if_neg h1] at hc;cases hc
section
variable (K Fo t1 t2 Tx:ByteArray) (W z Kd A B C:Int) (Es:List am_) (Fl:List ad_) (Gi Ta:List aa_) (E2:List am_) (F2:List ad_) (G2 T2:List aa_)
theorem yF_ (h:au_ ⟨K,W,Es,Fl,Fo,Gi,Ta⟩) (hk:Kd=2∨Kd=4):Wp (fun k=>gN_ k (decide (0≤A∧A<(Fl.length:Int))) Kd A B C Tx t1 z t2 K W Fo E2 F2 G2 T2 Es Fl Gi Ta) (· =doW ⟨K,W,Es,Fl,Fo,Gi,Ta⟩ ⟨Kd,A,B,C,Tx⟩):=by
  have h3:=h.2.2.1
  dsimp only at h3
  refine Wp.step ?_
  simp only [gN_]
  refine Wp.dec (fun hx=> ?_) (fun hx=> ?_)
  ·have hg:Fl[A.toNat]? =some (Fl[A.toNat]'(by omega)):=List.getElem?_eq_getElem (by omega)
   generalize Fl[A.toNat]'(by omega)=p at hg
   have hv:vj_ p:=h.2.2.2.2.2.1 p (List.mem_of_getElem? hg)
   have hix:idx Fl A=some p:=by have:=e3_ Fl A.toNat;rw [Int.toNat_of_nonneg hx.1] at this;rw [this,hg]
   simp only [hix,hg,Option.bind_some,if_true]
   refine Wp.opt (cz_ ⟨by omega,by omega,by omega⟩) ?_
   rw [a0_ (n:=A+1) (by omega) (by omega)]
   refine Wp.opt (cz_ ⟨by omega,by omega,by omega⟩) ?_
   dsimp only
   rw [show Int.toNat 0=0 from rfl,uo_,show Int.toNat (A+1)=A.toNat+1 by omega,Int.toNat_natCast,tJ_]
   refine Wp.opt (aX_ (by simp;omega)) ?_
   rw [wf_ Fl A.toNat (by omega),ms_ (p:=p) (by dsimp only;omega) hx.1 hg]
   unfold if_
   dsimp only
   simp only [fl_]
   refine Wp.ite (fun e=> ?_) (fun e=> ?_)
   ·rw [if_pos e]
    refine Wp.bind (lU_ ⟨K,W,Es,Fl.eraseIdx A.toNat,Fo,Gi,Ta⟩ (gS_ h (by have:=List.length_eraseIdx_le Fl A.toNat;omega) (r5_ h.2.2.2.2.2.1 _)) p hv.1 (by have:=hv.2.2;omega)) (fun r e'=> ?_)
    exact (p2_ ..).mono fun x hr=>by rw [hr,e'];rfl
   ·rw [if_neg e,if_neg (by omega),if_pos (by omega)]
    exact (p2_ ..).mono fun x hr=>by rw [hr];rfl
  ·exact (p2_ ..).mono fun x hr=>by rw [hr,kY_ (by dsimp only;omega) hx]
theorem Cs_ (h:au_ ⟨K,W,Es,Fl,Fo,Gi,Ta⟩) (hk:Kd≠1∧Kd≠2∧Kd≠4):Wp (fun k=>is_ k (decide (1≤A∧A≤2)) (decide (0≤A∧A<(Fl.length:Int))) Kd Kd A B C Tx t1 z t2 K W Fo E2 F2 G2 T2 Es Fl Gi Ta) (· =doW ⟨K,W,Es,Fl,Fo,Gi,Ta⟩ ⟨Kd,A,B,C,Tx⟩):=by
  have h3:=h.2.2.1
  have h4:=h.2.2.2.1
  have h5:=h.2.2.2.2.1
  dsimp only at h3 h4 h5
  have none_ok:∀(Q:Prop),(1≤Kd→Kd≤11→(8≤Kd∧¬(1≤A∧A≤2))∨(Kd≤7∧¬(0≤A∧A<(Fl.length:Int))))→Wp (fun k=>ar_ k t1 z t2 K W Fo E2 F2 G2 T2 Es Fl Gi Ta) (· =doW ⟨K,W,Es,Fl,Fo,Gi,Ta⟩ ⟨Kd,A,B,C,Tx⟩):=fun _ hq=>by
    refine (p2_ ..).mono fun x hr=> ?_
    rw [hr]
    by_cases h1:1≤Kd∧Kd≤11
    ·rcases hq h1.1 h1.2 with ⟨h8,hn⟩ | ⟨h7,hn⟩
     ·rw [nR_ (.inr ⟨h8,hn⟩)]
     ·rw [kY_ (by dsimp only;omega) hn]
    ·rw [nR_ (.inl h1)]
  have par:∀p,Fl[A.toNat]? =some p→idx Fl A=some p→2≤Kd∧Kd≤7→0≤A→∀y,if_ ⟨K,W,Es,Fl,Fo,Gi,Ta⟩ ⟨Kd,A,B,C,Tx⟩ p=y→∀Fl',be_ ⟨K,W,Es,Fl,Fo,Gi,Ta⟩ Fl'=y→Wp (fun k=>ar_ k t1 z t2 K W Fo E2 F2 G2 T2 Es Fl' Gi Ta) (· =doW ⟨K,W,Es,Fl,Fo,Gi,Ta⟩ ⟨Kd,A,B,C,Tx⟩):=fun p hp hi hk2 h0 y hy Fl' hF=>by
    refine (p2_ ..).mono fun x hr=> ?_
    rw [hr,ms_ (p:=p) hk2 h0 hp,hy,←hF];rfl
  have hin:0≤A∧A<(Fl.length:Int)→∃p,Fl[A.toNat]? =some p∧idx Fl A=some p∧vj_ p:=fun hx=>by
    have hg:Fl[A.toNat]? =some (Fl[A.toNat]'(by omega)):=List.getElem?_eq_getElem (by omega)
    refine ⟨_,hg, ?_,h.2.2.2.2.2.1 _ (List.mem_of_getElem? hg)⟩
    have:=e3_ Fl A.toNat
    rw [Int.toNat_of_nonneg hx.1] at this;rw [this,hg]
  refine Wp.step ?_
  simp only [is_,fl_]
  refine Wp.ite (fun e=> ?_) (fun e3=> ?_)
  ·refine Wp.dec (fun hx=> ?_) (fun hx=>none_ok True (by omega))
   obtain ⟨p,hp,hi,hv⟩:=hin hx
   refine Wp.dec (fun hl=> ?_) (fun hl=> ?_)
   ·simp only [hi,hp,Option.bind_some]
    refine Wp.opt (aX_ (by simp;omega)) ?_
    exact par p hp hi (by omega) hx.1 _ (by unfold if_;dsimp only;rw [if_neg (by omega),if_pos e,if_pos (by omega)]) _ rfl
   ·exact par p hp hi (by omega) hx.1 _ (by unfold if_;dsimp only;rw [if_neg (by omega),if_pos e,if_neg (by omega)];rfl) _ rfl
  refine Wp.ite (fun e=> ?_) (fun e5=> ?_)
  ·refine Wp.dec (fun hx=> ?_) (fun hx=>none_ok True (by omega))
   obtain ⟨p,hp,hi,hv⟩:=hin hx
   have u:¬((0≤B∧B<(p.Bytes.size:Int))∧0≤C)→if_ ⟨K,W,Es,Fl,Fo,Gi,Ta⟩ ⟨Kd,A,B,C,Tx⟩ p=⟨K,W,Es,Fl,Fo,Gi,Ta⟩:=fun hn=>by
     unfold if_;dsimp only;rw [if_neg (by omega),if_neg (by omega),if_neg (by omega),if_pos e,if_neg hn]
   refine Wp.dec (fun h1=> ?_) (fun h1=>par p hp hi (by omega) hx.1 _ (u (by omega)) _ rfl)
   refine Wp.dec (fun h2=> ?_) (fun h2=>par p hp hi (by omega) hx.1 _ (u (by omega)) _ rfl)
   simp only [hi,hp,Option.bind_some]
   refine Wp.dec (fun h3=> ?_) (fun h3=>par p hp hi (by omega) hx.1 _ (u (by omega)) _ rfl)
   obtain ⟨b1,b2⟩:=w0_ (s:=p.Bytes) (b:=B) ⟨h2,h3⟩
   simp only [b1,b2,Option.bind_some]
   refine Wp.opt (fD_ h1 (by omega)) ?_
   exact par p hp hi (by omega) hx.1 _ (by unfold if_;dsimp only;rw [if_neg (by omega),if_neg (by omega),if_neg (by omega),if_pos e,if_pos ⟨⟨h2,h3⟩,h1⟩];rfl) _ rfl
  refine Wp.ite (fun e=> ?_) (fun e6=> ?_)
  ·refine Wp.dec (fun hx=> ?_) (fun hx=>none_ok True (by omega))
   obtain ⟨p,hp,hi,hv⟩:=hin hx
   have u:¬(0≤B∧B≤(p.Bytes.size:Int))→if_ ⟨K,W,Es,Fl,Fo,Gi,Ta⟩ ⟨Kd,A,B,C,Tx⟩ p=⟨K,W,Es,Fl,Fo,Gi,Ta⟩:=fun hn=>by
     unfold if_;dsimp only;rw [if_neg (by omega),if_neg (by omega),if_neg (by omega),if_neg (by omega),if_pos e,if_neg hn]
   refine Wp.dec (fun h1=> ?_) (fun h1=>par p hp hi (by omega) hx.1 _ (u (by omega)) _ rfl)
   simp only [hi,hp,Option.bind_some]
   refine Wp.dec (fun h2=> ?_) (fun h2=>par p hp hi (by omega) hx.1 _ (u (by omega)) _ rfl)
   refine Wp.opt (cz_ ⟨by omega,h1,h2⟩) ?_
   exact par p hp hi (by omega) hx.1 _ (by unfold if_;dsimp only;rw [if_neg (by omega),if_neg (by omega),if_neg (by omega),if_neg (by omega),if_pos e,if_pos ⟨h1,h2⟩];rfl) _ rfl
  refine Wp.ite (fun e=> ?_) (fun e7=> ?_)
  ·refine Wp.dec (fun hx=> ?_) (fun hx=>none_ok True (by omega))
   obtain ⟨p,hp,hi,hv⟩:=hin hx
   simp only [hi,hp,Option.bind_some]
   have:=hv.1
   rw [a0_ (n:=3-p.To) (by omega) (by omega)]
   exact par p hp hi (by omega) hx.1 _ (by unfold if_;dsimp only;rw [if_neg (by omega),if_neg (by omega),if_neg (by omega),if_neg (by omega),if_neg (by omega)]) _ rfl
  have en:(8≤Kd∧Kd≤11)→(1≤A∧A≤2)→∀y:ab_,j5_ ⟨K,W,Es,Fl,Fo,Gi,Ta⟩ ⟨Kd,A,B,C,Tx⟩=y→Wp (fun k=>ar_ k t1 z t2 y.Key y.Width y.Forged E2 F2 G2 T2 y.Ends y.Flight y.Given y.Taken) (· =doW ⟨K,W,Es,Fl,Fo,Gi,Ta⟩ ⟨Kd,A,B,C,Tx⟩):=fun hk2 hn y hy=>by
    refine (p2_ ..).mono fun x hr=> ?_
    rw [hr,my_ hk2 hn,hy]
  refine Wp.ite (fun e=> ?_) (fun e8=> ?_)
  ·refine Wp.dec (fun hx=> ?_) (fun hx=>none_ok True (by omega))
   obtain ⟨a1,a2,a3⟩:=ir_ h5 hx
   simp only [a1,a2,a3,Option.bind_some]
   refine Wp.bind (vg_ _) (fun r e'=> ?_)
   exact en (by omega) hx ⟨K,W,dl_ A r Es,Fl,Fo,Gi,Ta⟩ (by unfold j5_;dsimp only;rw [if_pos e,e'];rfl)
  refine Wp.ite (fun e=> ?_) (fun e9=> ?_)
  ·refine Wp.dec (fun hx=> ?_) (fun hx=>none_ok True (by omega))
   obtain ⟨a1,a2,a3⟩:=ir_ h5 hx
   simp only [a1,a2,a3,Option.bind_some]
   refine Wp.bind (uG_ _) (fun r e'=> ?_)
   exact en (by omega) hx ⟨K,W,dl_ A r Es,Fl,Fo,Gi,Ta⟩ (by unfold j5_;dsimp only;rw [if_neg e8,if_pos e,e'];rfl)
  refine Wp.ite (fun e=> ?_) (fun e10=> ?_)
  ·refine Wp.dec (fun hx=> ?_) (fun hx=>none_ok True (by omega))
   obtain ⟨a1,a2,a3⟩:=ir_ h5 hx
   have pu:∀y,k1_ ⟨K,W,Es,Fl,Fo,Gi,Ta⟩ A Tx=y→j5_ ⟨K,W,Es,Fl,Fo,Gi,Ta⟩ ⟨Kd,A,B,C,Tx⟩=y:=fun y hy=>by
     unfold j5_;dsimp only;rw [if_neg e8,if_neg e9,if_pos e];exact hy
   unfold ek_
   simp only [Option.bind_some,jn_,v7_ h4]
   refine Wp.not (fun hc=> ?_) (fun hc=> ?_)
   ·have hc:=of_decide_eq_false hc
    simp only [a1,a2,a3,Option.bind_some]
    refine Wp.bind (ti_ _ _) (fun r e'=> ?_);subst e'
    refine Wp.ite (fun h0=> ?_) (fun h0=> ?_)
    ·refine Wp.opt (aX_ (by simp;omega)) ?_
     obtain ⟨l1,l2⟩:=uH_ h0
     rw [l1,l2]
     exact en (by omega) hx ⟨K,W,dl_ A (e1_ (af_ A Es) Tx).End Es,Fl,Fo,Gi++[⟨A,(af_ A Es).Life,(af_ A Es).Peer,Tx⟩],Ta⟩ (pu _ (by unfold k1_;dsimp only;rw [if_pos ⟨by omega,h0⟩]))
    ·exact en (by omega) hx ⟨K,W,Es,Fl,Fo,Gi,Ta⟩ (pu _ (by unfold k1_;dsimp only;rw [if_neg (fun g=>h0 g.2)]))
   ·have hc:=of_decide_eq_true hc
    exact en (by omega) hx ⟨K,W,Es,Fl,Fo,Gi,Ta⟩ (pu _ (by unfold k1_;dsimp only;rw [if_neg (fun g=>by omega)]))
  refine Wp.ite (fun e=> ?_) (fun e11=>none_ok True (by omega))
  refine Wp.dec (fun hx=> ?_) (fun hx=>none_ok True (by omega))
  refine Wp.bind (nh_ ⟨K,W,Es,Fl,Fo,Gi,Ta⟩ h A hx) (fun r e'=> ?_)
  exact en (by omega) hx r (by unfold j5_;dsimp only;rw [if_neg e8,if_neg e9,if_neg e10,e'])
theorem BC_ (h:au_ ⟨K,W,Es,Fl,Fo,Gi,Ta⟩):Wp (fun k=>h6_ k (decide (1≤A∧A≤2)) (decide (0≤A∧A<(Fl.length:Int))) Kd A B C Tx t1 z t2 K W Fo E2 F2 G2 T2 Es Fl Gi Ta) (· =doW ⟨K,W,Es,Fl,Fo,Gi,Ta⟩ ⟨Kd,A,B,C,Tx⟩):=by
  refine Wp.step ?_
  simp only [h6_,fl_]
  refine Wp.ite (fun e=> ?_) (fun e1=> ?_)
  ·refine Wp.bind (mL_ ⟨K,W,Es,Fl,Fo,Gi,Ta⟩ h) (fun r e'=> ?_)
   exact (p2_ ..).mono fun x hr=>by rw [hr,e'];unfold doW;rw [if_pos e]
  refine Wp.ite (fun e=>yF_ _ _ _ _ _ _ _ _ _ _ _ _ _ _ _ _ _ _ _ h (.inl e)) (fun e2=> ?_)
  refine Wp.ite (fun e=>yF_ _ _ _ _ _ _ _ _ _ _ _ _ _ _ _ _ _ _ _ h (.inr e)) (fun e4=> ?_)
  exact Cs_ _ _ _ _ _ _ _ _ _ _ _ _ _ _ _ _ _ _ _ h ⟨e1,e2,e4⟩
theorem BB_ (h:au_ ⟨K,W,Es,Fl,Fo,Gi,Ta⟩):Wp (fun k=>h7_ k (decide (1≤A∧A≤2)) Kd A B C Tx t1 z t2 K W Fo E2 F2 G2 T2 Es Fl Gi Ta) (· =doW ⟨K,W,Es,Fl,Fo,Gi,Ta⟩ ⟨Kd,A,B,C,Tx⟩):=by
  refine Wp.step ?_
  simp only [h7_]
  refine Wp.dec (fun hx=> ?_) (fun hx=> ?_)
  ·have:=BC_ K Fo t1 t2 Tx W z Kd A B C Es Fl Gi Ta E2 F2 G2 T2 h
   rw [show decide (0≤A∧A<(Fl.length:Int))=decide (A<(Fl.length:Int)) from decide_eq_decide.mpr ⟨fun g=>g.2,fun g=>⟨hx,g⟩⟩] at this
   exact this
  ·have:=BC_ K Fo t1 t2 Tx W z Kd A B C Es Fl Gi Ta E2 F2 G2 T2 h
   rw [show decide (0≤A∧A<(Fl.length:Int))=false from decide_eq_false (fun g=>hx g.1)] at this
   exact this
end
theorem la_ (w:ab_) (hb:w.Given.length≤1048576∧w.Taken.length≤1048576) (v:aT_):Wp (fun k=>k5_ k w v) (· =doM w v):=by
  unfold k5_ doM
  refine Wp.bind (da_ w hb) (fun _ e=> ?_);subst e
  refine Wp.not (fun h=> ?_) (fun h=> ?_)
  ·exact Wp.ret (by rw [if_neg (of_decide_eq_false h)];rfl)
  ·have hv:=of_decide_eq_true h
   rw [if_pos hv]
   refine Wp.bind (nb_ w hv) (fun _ e=> ?_);have e'':=e.symm;subst e''
   simp only [fl_]
   refine Wp.ite (fun e=> ?_) (fun e=> ?_)
   ·have:=BB_ w.Key w.Forged noB noB v.Text w.Width 0 v.Kind v.A v.B v.C w.Ends w.Flight w.Given w.Taken [] [] [] [] hv
    rw [show decide (1≤v.A∧v.A≤2)=true from decide_eq_true (by omega)] at this
    exact this
   ·have:=BB_ w.Key w.Forged noB noB v.Text w.Width 0 v.Kind v.A v.B v.C w.Ends w.Flight w.Given w.Taken [] [] [] [] hv
    rw [show decide (1≤v.A∧v.A≤2)=(v.A==2) by rw [Bool.eq_iff_iff];simp;omega] at this
    exact this
end Km.X
namespace Km.X
open Go Km
set_option linter.unusedVariables false
set_option linter.unusedSimpArgs false
theorem eq_pair_iff {x y:DPair}:a7_ x y=true↔x=y:=⟨mt_,fun h=>by subst h;simp [a7_]⟩
instance:DecidableEq DPair:=fun x y=>decidable_of_iff _ eq_pair_iff
def mget {β:Type} (key:DPair):List (DPair×β)→Option β
  | []=>none
  | (a,b)::l=>if a=key then some b else mget key l
theorem gL_ {β:Type} {key:DPair}:∀{l:List (DPair×β)} {i:Nat},a4_ (a7_ key) l i=none→mget key l=none
  | [],_,_=>rfl
  | (a,b)::l,i,h=>by
    simp only [a4_] at h
    split at h
    ·cases h
    ·rename_i hq
     simp only [mget]
     rw [if_neg (fun e=>by subst e;rw [eq_pair_iff.mpr rfl] at hq;cases hq)]
     exact gL_ h
theorem gH_ {β:Type} {key:DPair}:∀{l:List (DPair×β)} {i j:Nat} {b:β},a4_ (a7_ key) l i=some (j,b)→∃d,j=i+d∧l[d]? =some (key,b)∧mget key l=some b∧∀v key',mget key' (l.set d (key,v))=if key'=key then some v else mget key' l
  | [],_,_,_,h=>by cases h
  | (a,c)::l,i,j,b,h=>by
    simp only [a4_] at h
    split at h
    ·rename_i hq
     have:=mt_ hq;subst this
     cases h
     refine ⟨0,rfl,rfl,by simp only [mget,if_true],fun v key'=> ?_⟩
     simp only [List.set_cons_zero,mget]
     by_cases e:key=key'
     ·subst e;simp
     ·rw [if_neg e,if_neg e,if_neg (fun g=>e g.symm)]
    ·rename_i hq
     have hne:a≠key:=fun e=>by subst e;rw [eq_pair_iff.mpr rfl] at hq;cases hq
     obtain ⟨d,e1,e2,e3,e4⟩:=gH_ h
     refine ⟨d+1,by omega,e2,by simp only [mget];rw [if_neg hne,e3],fun v key'=> ?_⟩
     simp only [List.set_cons_succ,mget,e4]
     by_cases e:a=key'
     ·subst e;rw [if_pos rfl,if_neg hne,if_pos rfl]
     ·rw [if_neg e,if_neg e]
theorem k0_ {β:Type} {key key':DPair} {v:β}:∀(l:List (DPair×β)),mget key l=none→mget key' (l++[(key,v)])=if key'=key then some v else mget key' l
  | [],_=>by
    simp only [List.nil_append,mget]
    by_cases e:key=key'
    ·subst e;simp
    ·rw [if_neg e,if_neg (fun g=>e g.symm)]
  | (a,b)::l,h=>by
    simp only [mget] at h
    split at h
    ·cases h
    ·rename_i hne
     simp only [List.cons_append,mget,k0_ l h]
     by_cases e:a=key'
     ·subst e;rw [if_pos rfl,if_neg hne,if_pos rfl]
     ·rw [if_neg e,if_neg e]
theorem rV_ {α:Type} (l:List α) (x y:α):(l++[x]).set l.length y=l++[y]:=by simp
theorem wc_ {β:Type} {l:List (DPair×β)} {d:Nat} {key:DPair} {b:β} (h:l[d]? =some (key,b)):(l.modify d fun e=>(e.1,b))=l:=by
  obtain ⟨h1,h2⟩:=List.getElem?_eq_some_iff.mp h
  apply List.ext_getElem?
  intro i
  rw [List.getElem?_modify]
  by_cases e:d=i
  ·subst e;rw [h];simp
  ·cases l[i]? <;>simp [e]
def kf (r:aa_):DPair:=⟨r.From,r.A,r.B⟩
def ax_ (l:List aa_) (key:DPair):List ByteArray:=(l.filter (fun r=>decide (kf r=key))).map (·.Text)
theorem bL_ (l:List aa_) (r:aa_) (key:DPair):ax_ (l++[r]) key=if key=kf r then ax_ l key++[r.Text] else ax_ l key:=by
  unfold ax_
  rw [List.filter_append,List.map_append]
  by_cases e:kf r=key
  ·subst e;simp
  ·rw [if_neg (fun g=>e g.symm)];simp [e]
theorem in_ (l:List aa_) (r:aa_) (key:DPair):ax_ (r::l) key=if kf r=key then r.Text::ax_ l key else ax_ l key:=by
  unfold ax_
  by_cases e:kf r=key
  ·simp [e]
  ·simp [e]
theorem gI_ (l:List aa_) (key:DPair):(ax_ l key).length≤l.length:=by
  unfold ax_;rw [List.length_map];exact List.length_filter_le _ _
def hO_ (G:List aa_):List aa_→List aa_→Bool
  | _,[]=>true
  | pre,r::t=>decide ((ax_ G (kf r))[(ax_ pre (kf r)).length]? =some r.Text)&&hO_ G (pre++[r]) t
def qS_ (w:ab_):Bool:=decide (au_ w)&&hO_ w.Given [] w.Taken
def ym_ (th:Bool) (n:Int) (t:List aa_) (x:aa_):Bool:=th || decide (0≤n∧(ax_ t (kf x))[n.toNat]? =some x.Text)
theorem Fg_ (K Fo:ByteArray) (W i:Int) (Es:List am_) (Fl:List ad_) (Ta:List aa_) (x:aa_) (Q:Bool→Prop) (G:List aa_) (hG:G.length≤1000):∀(t pre:List aa_) (n:Int) (th:Bool),pre++t=G→(-(pre.length:Int)≤n∧n≤1000)→
    (ym_ th n t x=true→Wp (fun k=>ds_ k (IntKind.wrap .i64 (i+1)) K W Es Fl Fo G Ta) Q)→(ym_ th n t x=false→Q false)→
    Wp (fun k=>c4_ k i n th (pre.length:Int) K W Es Fl Fo G Ta x.From x.A x.B x.Text) Q
  | [],pre,n,th,he,hn,go,no=>by
    have he':pre=G:=by simpa using he
    refine Wp.step ?_
    simp only [c4_]
    refine Wp.dec (fun h=>by rw [←he'] at h;omega) (fun _=> ?_)
    have e:ym_ th n [] x=th:=by simp [ym_,ax_]
    refine Wp.not (fun h=> ?_) (fun h=>go (by rw [e,h]))
    exact Wp.ret (no (by rw [e,h]))
  | y::t,pre,n,th,he,hn,go,no=>by
    have hl:pre.length+(y::t).length≤1000:=by rw [←List.length_append,he];exact hG
    simp only [List.length_cons] at hl
    refine Wp.step ?_
    simp only [c4_]
    refine Wp.dec (fun _=> ?_) (fun h=>absurd (by rw [←he];simp;omega) h)
    rw [show idx G (pre.length:Int)=some y by rw [←he];exact aW_]
    simp only [Option.bind_some,fl_]
    have nx:∀(m:Int) (b:Bool),(n-1≤m∧m≤n)→ym_ b m t x=ym_ th n (y::t) x→Wp (fun k=>bE_ k i m b (pre.length:Int) K W Es Fl Fo G Ta x.From x.A x.B x.Text) Q:=fun m b hm hs=>by
      refine Wp.step ?_
      simp only [bE_]
      rw [a0_ (n:=(pre.length:Int)+1) (by omega) (by omega)]
      have:=Fg_ K Fo W i Es Fl Ta x Q G hG t (pre++[y]) m b (by rw [←he];simp) (by simp;omega) (fun h=>go (hs▸h)) (fun h=>no (hs▸h))
      rw [show ((pre++[y]).length:Int)=(pre.length:Int)+1 by simp] at this
      exact this
    have other:kf y≠kf x→Wp (fun k=>bE_ k i n th (pre.length:Int) K W Es Fl Fo G Ta x.From x.A x.B x.Text) Q:=fun hne=>by
      refine nx n th (by omega) ?_
      simp only [ym_,in_,if_neg hne]
    refine Wp.ite (fun e1=> ?_) (fun e1=>other (fun g=>e1 (congrArg DPair.f g)))
    refine Wp.ite (fun e2=> ?_) (fun e2=>other (fun g=>e2 (congrArg DPair.a g)))
    refine Wp.ite (fun e3=> ?_) (fun e3=>other (fun g=>e3 (congrArg DPair.b g)))
    have hk:kf y=kf x:=by simp [kf,e1,e2,e3]
    rw [a0_ (n:=n-1) (by omega) (by omega)]
    refine Wp.bif (fun h=> ?_) (fun h=> ?_)
    ·exact nx _ _ (by omega) (by simp [ym_,h])
    ·refine Wp.ite (fun h0=> ?_) (fun h0=> ?_)
     ·rw [BX_]
      refine nx _ _ (by omega) ?_
      subst h0
      simp only [ym_,h,in_,if_pos hk]
      simp
     ·refine nx _ _ (by omega) ?_
      simp only [ym_,h,in_,if_pos hk,Bool.false_or]
      apply decide_eq_decide.mpr
      constructor
      ·rintro ⟨h1,h2⟩
       refine ⟨by omega, ?_⟩
       rw [show n.toNat=(n-1).toNat+1 by omega,List.getElem?_cons_succ];exact h2
      ·rintro ⟨h1,h2⟩
       refine ⟨by omega, ?_⟩
       rw [show n.toNat=(n-1).toNat+1 by omega,List.getElem?_cons_succ] at h2;exact h2
theorem sr9 (K Fo:ByteArray) (W i:Int) (Es:List am_) (Fl:List ad_) (G:List aa_) (x:aa_) (Q:Bool→Prop) (Ta:List aa_) (hT:Ta.length≤1000):∀(p2 p1 rest:List aa_),p1++p2++rest=Ta→i=((p1++p2).length:Int)→
    Wp (fun k=>c4_ k i ((ax_ (p1++p2) (kf x)).length:Int) false 0 K W Es Fl Fo G Ta x.From x.A x.B x.Text) Q→
    Wp (fun k=>eu_ k i ((ax_ p1 (kf x)).length:Int) (p1.length:Int) K W Es Fl Fo G Ta x.From x.A x.B x.Text) Q
  | [],p1,rest,he,hi,go=>by
    simp only [List.append_nil] at hi go
    refine Wp.step ?_
    simp only [eu_]
    refine Wp.dec (fun h=>by omega) (fun _=>go)
  | y::p2,p1,rest,he,hi,go=>by
    have hl:p1.length+(p2.length+1)+rest.length≤1000:=by
      have:(p1++(y::p2)++rest).length≤1000:=by rw [he];exact hT
      simp at this;omega
    refine Wp.step ?_
    simp only [eu_]
    refine Wp.dec (fun _=> ?_) (fun h=>absurd (by rw [hi];simp;omega) h)
    rw [show idx Ta (p1.length:Int)=some y by rw [←he,List.append_assoc];exact aW_]
    simp only [Option.bind_some,fl_]
    have hlen:=gI_ p1 (kf x)
    have nx:Wp (fun k=>cp_ k i ((ax_ (p1++[y]) (kf x)).length:Int) (p1.length:Int) K W Es Fl Fo G Ta x.From x.A x.B x.Text) Q:=by
      refine Wp.step ?_
      simp only [cp_]
      rw [a0_ (n:=(p1.length:Int)+1) (by omega) (by omega)]
      have:=sr9 K Fo W i Es Fl G x Q Ta hT p2 (p1++[y]) rest (by rw [←he];simp) (by rw [hi];simp) (by simpa using go)
      rw [show ((p1++[y]).length:Int)=(p1.length:Int)+1 by simp] at this
      exact this
    have other:kf y≠kf x→Wp (fun k=>cp_ k i ((ax_ p1 (kf x)).length:Int) (p1.length:Int) K W Es Fl Fo G Ta x.From x.A x.B x.Text) Q:=fun hne=>by
      rw [bL_,if_neg (fun g=>hne g.symm)] at nx;exact nx
    refine Wp.ite (fun e1=> ?_) (fun e1=>other (fun g=>e1 (congrArg DPair.f g)))
    refine Wp.ite (fun e2=> ?_) (fun e2=>other (fun g=>e2 (congrArg DPair.a g)))
    refine Wp.ite (fun e3=> ?_) (fun e3=>other (fun g=>e3 (congrArg DPair.b g)))
    have hk:kf x=kf y:=by simp [kf,e1,e2,e3]
    rw [a0_ (n:=((ax_ p1 (kf x)).length:Int)+1) (by omega) (by omega)]
    rw [bL_,if_pos hk,List.length_append] at nx
    exact nx
theorem sr4 (K Fo:ByteArray) (W:Int) (Es:List am_) (Fl:List ad_) (G Ta:List aa_) (hG:G.length≤1000) (hT:Ta.length≤1000):∀(t pre:List aa_),pre++t=Ta→Wp (fun k=>ds_ k (pre.length:Int) K W Es Fl Fo G Ta) (· =hO_ G pre t)
  | [],pre,he=>by
    have he':pre=Ta:=by simpa using he
    refine Wp.step ?_
    simp only [ds_]
    refine Wp.dec (fun h=>by rw [←he'] at h;omega) (fun _=>Wp.ret rfl)
  | x::t,pre,he=>by
    have hl:pre.length+(t.length+1)≤1000:=by
      have:(pre++(x::t)).length≤1000:=by rw [he];exact hT
      simpa using this
    refine Wp.step ?_
    simp only [ds_]
    refine Wp.dec (fun _=> ?_) (fun h=>absurd (by rw [←he];simp;omega) h)
    rw [show idx Ta (pre.length:Int)=some x by rw [←he];exact aW_]
    simp only [Option.bind_some]
    have hlen:=gI_ pre (kf x)
    refine sr9 K Fo W (pre.length:Int) Es Fl G x _ Ta hT pre [] (x::t) (by simpa using he) (by simp) ?_
    simp only [List.nil_append]
    refine Fg_ K Fo W (pre.length:Int) Es Fl Ta x _ G hG G [] _ false rfl (by simp;omega) (fun hs=> ?_) (fun hs=> ?_)
    ·rw [a0_ (n:=(pre.length:Int)+1) (by omega) (by omega)]
     have:=sr4 K Fo W Es Fl G Ta hG hT t (pre++[x]) (by rw [←he];simp)
     rw [show ((pre++[x]).length:Int)=(pre.length:Int)+1 by simp] at this
     refine this.mono fun r hr=> ?_
     rw [hr]
     simp only [ym_,Bool.false_or,decide_eq_true_eq,Int.toNat_natCast] at hs
     simp only [hO_,decide_eq_true hs.2,Bool.true_and]
    ·simp only [ym_,Bool.false_or,decide_eq_false_iff_not,Int.toNat_natCast] at hs
     simp only [hO_]
     rw [decide_eq_false (fun g=>hs ⟨by omega,g⟩)];rfl
theorem ud_ (w:ab_) (hb:w.Given.length≤1048576∧w.Taken.length≤1048576):Wp (fun k=>jZ_ k w) (· =qS_ w):=by
  unfold jZ_ qS_
  refine Wp.bind (dg_ w hb) (fun _ e=> ?_);subst e
  refine Wp.not (fun h=>Wp.ret (by rw [h];rfl)) (fun h=> ?_)
  have hv:=of_decide_eq_true h
  have h4:=hv.2.2.2.1
  rw [h]
  exact sr4 w.Key w.Forged w.Width w.Ends w.Flight w.Given w.Taken (by omega) (by omega) w.Taken [] rfl
end Km.X
namespace Km.X
open Go Km
set_option linter.unusedVariables false
set_option linter.unusedSimpArgs false
theorem Wp.optK {α R:Type} {o:Option α} {A:Nat→Option R} {B:Nat→α→Option R} {Q:R→Prop} (h0:o=none→Wp A Q) (h1:∀p,o=some p→Wp (fun k=>B k p) Q):Wp (fun k=>Km.optK o (A k) (B k)) Q:=by
  cases o with
  | none=>exact h0 rfl
  | some p=>exact h1 p rfl
theorem m9_ {β:Type} {key:DPair} {v:β}:∀{l:List (DPair×β)} {i:Nat},a4_ (a7_ key) l i=none→a4_ (a7_ key) (l++[(key,v)]) i=some (i+l.length,v)
  | [],i,_=>by simp only [List.nil_append,a4_,eq_pair_iff.mpr rfl];rfl
  | (a,b)::l,i,h=>by
    simp only [a4_] at h
    split at h
    ·cases h
    ·rename_i hq
     simp only [List.cons_append,a4_,hq]
     rw [m9_ h];simp;omega
def D3_ (m:List (DPair×List ByteArray)) (pre:List aa_):Prop:=∀key,(mget key m).getD []=ax_ pre key
def AtI (m:List (DPair×Int)) (pre:List aa_):Prop:=∀key,(mget key m).getD 0=((ax_ pre key).length:Int)
theorem ir5 (K Fo:ByteArray) (W:Int) (Es:List am_) (Fl:List ad_) (G Ta:List aa_) (hG:G.length≤1000) (Q:Bool→Prop):∀(t pre:List aa_) (m:List (DPair×List ByteArray)),pre++t=G→D3_ m pre→
    (∀m,D3_ m G→Wp (fun k=>aQ_ k Ta (Ta.length:Int) 0 m []) Q)→
    Wp (fun k=>cU_ k G (G.length:Int) (pre.length:Int) K W Es Fl Fo G Ta m) Q
  | [],pre,m,he,hi,go=>by
    have he':pre=G:=by simpa using he
    refine Wp.step ?_
    simp only [cU_]
    refine Wp.dec (fun h=>by rw [he'] at h;omega) (fun _=> ?_)
    exact go m (he'▸hi)
  | x::t,pre,m,he,hi,go=>by
    have hl:pre.length+(t.length+1)≤1000:=by
      have:(pre++(x::t)).length≤1000:=by rw [he];exact hG
      simpa using this
    refine Wp.step ?_
    simp only [cU_]
    refine Wp.dec (fun _=> ?_) (fun h=>absurd (by rw [←he];simp;omega) h)
    rw [show idx G (pre.length:Int)=some x by rw [←he];exact aW_]
    simp only [Option.bind_some]
    have hk:(⟨x.From,x.A,x.B⟩:DPair)=kf x:=rfl
    rw [hk,a0_ (n:=(pre.length:Int)+1) (by omega) (by omega)]
    have hlen:=gI_ pre (kf x)
    have nx:∀m',D3_ m' (pre++[x])→Wp (fun k=>cU_ k G (G.length:Int) ((pre.length:Int)+1) K W Es Fl Fo G Ta m') Q:=fun m' h'=>by
      have:=ir5 K Fo W Es Fl G Ta hG Q t (pre++[x]) m' (by rw [←he];simp) h' go
      rw [show ((pre++[x]).length:Int)=(pre.length:Int)+1 by simp] at this
      exact this
    refine Wp.optK (fun h0=> ?_) (fun p h1=> ?_)
    ·have hn:=gL_ h0
     refine Wp.opt (aX_ (by simp)) ?_
     refine Wp.opt (x:=(kf x,[])) (by rw [e3_];simp) ?_
     dsimp only
     rw [Int.toNat_natCast,rV_]
     refine nx _ (fun key=> ?_)
     rw [k0_ m hn,bL_]
     by_cases e:key=kf x
     ·subst e
      rw [if_pos rfl,if_pos rfl,←hi,hn];rfl
     ·rw [if_neg e,if_neg e,hi]
    ·obtain ⟨j,b⟩:=p
     obtain ⟨d,e1,e2,e3,e4⟩:=gH_ h1
     rw [Nat.zero_add] at e1;subst e1
     have hb:=hi (kf x)
     rw [e3] at hb
     simp only [Option.getD_some] at hb
     subst hb
     refine Wp.opt (aX_ (by simp;omega)) ?_
     dsimp only
     rw [Int.toNat_natCast,show Nat.beq j j=true by simp,e3_,e2]
     simp only [cond_true,Option.bind_some]
     refine nx _ (fun key=> ?_)
     rw [e4,bL_]
     by_cases e:key=kf x
     ·rw [if_pos e,if_pos e,e];rfl
     ·rw [if_neg e,if_neg e,hi]
theorem FA_ (Ta:List aa_) (x:aa_) (Q:Bool→Prop) (i c:Int) (x3:List (DPair×List ByteArray)) (x4:List (DPair×Int)) (hc:(mget (kf x) x4).getD 0=c) (hcb:0≤c∧c≤1000)
    (go:∀m,(∀key,(mget key m).getD 0=if key=kf x then c+1 else (mget key x4).getD 0)→Wp (fun k=>aQ_ k Ta (Ta.length:Int) (IntKind.wrap .i64 (i+1)) x3 m) Q):
    Wp (fun k=>a1_ k Ta (Ta.length:Int) i x3 x4 x.From x.A x.B) Q:=by
  refine Wp.step ?_
  simp only [a1_]
  rw [show (⟨x.From,x.A,x.B⟩:DPair)=kf x from rfl]
  cases h4:a4_ (a7_ (kf x)) x4 0 with
  | none=>
    have hn:=gL_ h4
    rw [hn] at hc
    simp only [Option.getD_none] at hc
    subst hc
    simp only [Km.optK,m9_ h4,Nat.zero_add,e3_,Int.toNat_natCast,rV_]
    simp only [List.getElem?_append_right (Nat.le_refl _),Nat.sub_self,List.getElem?_cons_zero,Option.bind_some,jn_]
    rw [a0_ (n:=0+1) (by omega) (by omega)]
    refine go _ (fun key=> ?_)
    rw [k0_ x4 hn]
    by_cases e:key=kf x
    ·rw [if_pos e,if_pos e];rfl
    ·rw [if_neg e,if_neg e]
  | some p=>
    obtain ⟨j,b⟩:=p
    obtain ⟨d,e1,e2,e3,e4⟩:=gH_ h4
    rw [Nat.zero_add] at e1;subst e1
    rw [e3] at hc
    simp only [Option.getD_some] at hc
    subst hc
    simp only [Km.optK,e3_,e2,Option.bind_some,Int.toNat_natCast,jn_]
    rw [a0_ (n:=b+1) (by omega) (by omega)]
    refine go _ (fun key=> ?_)
    rw [e4]
    by_cases e:key=kf x
    ·rw [if_pos e,if_pos e];rfl
    ·rw [if_neg e,if_neg e]
theorem E9_ (G Ta:List aa_) (hG:G.length≤1000) (hT:Ta.length≤1000) (x3:List (DPair×List ByteArray)) (h3:D3_ x3 G):∀(t pre:List aa_) (x4:List (DPair×Int)),pre++t=Ta→AtI x4 pre→Wp (fun k=>aQ_ k Ta (Ta.length:Int) (pre.length:Int) x3 x4) (· =hO_ G pre t)
  | [],pre,x4,he,hi=>by
    have he':pre=Ta:=by simpa using he
    refine Wp.step ?_
    simp only [aQ_]
    refine Wp.dec (fun h=>by rw [he'] at h;omega) (fun _=>Wp.ret rfl)
  | x::t,pre,x4,he,hi=>by
    have hl:pre.length+(t.length+1)≤1000:=by
      have:(pre++(x::t)).length≤1000:=by rw [he];exact hT
      simpa using this
    have hlen:=gI_ pre (kf x)
    have hglen:=gI_ G (kf x)
    have hc:=hi (kf x)
    have hg:=h3 (kf x)
    have nx:∀c:Int,((ax_ pre (kf x)).length:Int)=c→(ax_ G (kf x))[c.toNat]? =some x.Text→Wp (fun k=>a1_ k Ta (Ta.length:Int) (pre.length:Int) x3 x4 x.From x.A x.B) (· =hO_ G pre (x::t)):=fun c hcc hx=>by
      refine FA_ Ta x _ (pre.length:Int) c x3 x4 (by rw [hc,hcc]) (by omega) (fun m hm=> ?_)
      rw [a0_ (n:=(pre.length:Int)+1) (by omega) (by omega)]
      have:=E9_ G Ta hG hT x3 h3 t (pre++[x]) m (by rw [←he];simp) (fun key=>by
        rw [hm,bL_]
        by_cases e:key=kf x
        ·rw [if_pos e,if_pos e,e,List.length_append,←hcc];rfl
        ·rw [if_neg e,if_neg e,hi])
      rw [show ((pre++[x]).length:Int)=(pre.length:Int)+1 by simp] at this
      refine this.mono fun r hr=> ?_
      rw [hr]
      simp only [hO_]
      rw [show (ax_ pre (kf x)).length=c.toNat by omega,hx];simp
    have no:∀c:Int,((ax_ pre (kf x)).length:Int)=c→¬(ax_ G (kf x))[c.toNat]? =some x.Text→false=hO_ G pre (x::t):=fun c hcc hx=>by
      simp only [hO_]
      rw [decide_eq_false (by rw [show (ax_ pre (kf x)).length=c.toNat by omega];exact hx)];rfl
    refine Wp.step ?_
    simp only [aQ_]
    refine Wp.dec (fun _=> ?_) (fun h=>absurd (by rw [←he];simp;omega) h)
    rw [show idx Ta (pre.length:Int)=some x by rw [←he];exact aW_]
    simp only [Option.bind_some]
    rw [show (⟨x.From,x.A,x.B⟩:DPair)=kf x from rfl]
    have fin:∀(g:List ByteArray) (c:Int),ax_ G (kf x)=g→((ax_ pre (kf x)).length:Int)=c→¬(c≥(g.length:Int))→Wp (fun k=>(idx g c).bind fun _=>(g[c.toNat]?).bind fun y=>bif (!(y.toList==x.Text.toList)) then some false else a1_ k Ta (Ta.length:Int) (pre.length:Int) x3 x4 x.From x.A x.B) (· =hO_ G pre (x::t)):=fun g c hgg hcc hlt=>by
      have hx:g[c.toNat]? =some (g[c.toNat]'(by omega)):=List.getElem?_eq_getElem (by omega)
      generalize g[c.toNat]'(by omega)=y at hx
      have hx':idx g c=some y:=by have:=e3_ g c.toNat;rw [Int.toNat_of_nonneg (by omega)] at this;rw [this,hx]
      refine Wp.opt hx' (Wp.opt hx ?_)
      simp only [br_,qq_]
      refine Wp.ite (fun e=>nx c hcc (by rw [hgg,hx,e])) (fun e=>Wp.ret (no c hcc (by rw [hgg,hx];simpa using e)))
    cases h4:a4_ (a7_ (kf x)) x4 0 with
    | none=>
      rw [gL_ h4] at hc
      simp only [Option.getD_none] at hc
      cases h5:a4_ (a7_ (kf x)) x3 0 with
      | none=>
        rw [gL_ h5] at hg
        simp only [Option.getD_none] at hg
        simp only [Km.optK]
        refine Wp.dec (fun _=>Wp.ret (no 0 hc.symm (by rw [←hg];simp))) (fun h=>absurd (by simp) h)
      | some p=>
        obtain ⟨j,b⟩:=p
        obtain ⟨d,e1,e2,e3,e4⟩:=gH_ h5
        rw [Nat.zero_add] at e1;subst e1
        rw [e3] at hg
        simp only [Option.getD_some] at hg
        simp only [Km.optK,wc_ e2,h5]
        refine Wp.dec (fun h=>Wp.ret (no 0 hc.symm (by rw [←hg,List.getElem?_eq_none (by omega)];simp))) (fun h=>fin b 0 hg.symm hc.symm h)
    | some q=>
      obtain ⟨jq,c⟩:=q
      obtain ⟨dq,f1,f2,f3,f4⟩:=gH_ h4
      rw [f3] at hc
      simp only [Option.getD_some] at hc
      cases h5:a4_ (a7_ (kf x)) x3 0 with
      | none=>
        rw [gL_ h5] at hg
        simp only [Option.getD_none] at hg
        simp only [Km.optK]
        refine Wp.dec (fun _=>Wp.ret (no c hc.symm (by rw [←hg];simp))) (fun h=>absurd (by simp;omega) h)
      | some p=>
        obtain ⟨j,b⟩:=p
        obtain ⟨d,e1,e2,e3,e4⟩:=gH_ h5
        rw [Nat.zero_add] at e1;subst e1
        rw [e3] at hg
        simp only [Option.getD_some] at hg
        simp only [Km.optK,wc_ e2,h5]
        refine Wp.dec (fun h=>Wp.ret (no c hc.symm (by rw [←hg,List.getElem?_eq_none (by omega)];simp))) (fun h=>fin b c hg.symm hc.symm h)
theorem mJ_ (w:ab_) (hb:w.Given.length≤1048576∧w.Taken.length≤1048576):Wp (fun k=>hZ_ k w) (· =qS_ w):=by
  unfold hZ_ qS_
  refine Wp.bind (da_ w hb) (fun _ e=> ?_);subst e
  refine Wp.not (fun h=>Wp.ret (by rw [h];rfl)) (fun h=> ?_)
  have hv:=of_decide_eq_true h
  have h4:=hv.2.2.2.1
  rw [h]
  exact ir5 w.Key w.Forged w.Width w.Ends w.Flight w.Given w.Taken (by omega) _ w.Given [] [] rfl (fun key=>rfl) (fun m hm=>E9_ w.Given w.Taken (by omega) (by omega) m hm w.Taken [] [] rfl (fun key=>rfl))
end Km.X
namespace Km.X
open Go Km
set_option linter.unusedVariables false
set_option linter.unusedSimpArgs false
theorem eq_key_iff {x y:DKey}:eM_ x y=true↔x=y:=⟨pg_,fun h=>by subst h;simp [eM_]⟩
instance:DecidableEq DKey:=fun x y=>decidable_of_iff _ eq_key_iff
def pk (p:ad_):DKey:=⟨p.To,p.Bytes⟩
def cr_ (h:List DKey) (key:DKey):Nat:=(h.filter (fun x=>decide (x=key))).length
theorem gZ_ (h:List DKey) (a key:DKey):cr_ (h++[a]) key=if key=a then cr_ h key+1 else cr_ h key:=by
  unfold cr_
  rw [List.filter_append,List.length_append]
  by_cases e:a=key
  ·subst e;simp
  ·rw [if_neg (fun g=>e g.symm)];simp [e]
theorem sU_ (h:List DKey) (key:DKey):cr_ h key≤h.length:=List.length_filter_le _ _
def sY_ {β:Type} (key:DKey):List (DKey×β)→Option β
  | []=>none
  | (a,b)::l=>if a=key then some b else sY_ key l
theorem rp_ {β:Type} {key:DKey}:∀{l:List (DKey×β)} {i:Nat},a4_ (eM_ key) l i=none→sY_ key l=none
  | [],_,_=>rfl
  | (a,b)::l,i,h=>by
    simp only [a4_] at h
    split at h
    ·cases h
    ·rename_i hq
     simp only [sY_]
     rw [if_neg (fun e=>by subst e;rw [eq_key_iff.mpr rfl] at hq;cases hq)]
     exact rp_ h
theorem rd_ {β:Type} {key:DKey}:∀{l:List (DKey×β)} {i j:Nat} {b:β},a4_ (eM_ key) l i=some (j,b)→∃d,j=i+d∧l[d]? =some (key,b)∧sY_ key l=some b∧(∀v key',sY_ key' (l.set d (key,v))=if key'=key then some v else sY_ key' l)∧∀v i,a4_ (eM_ key) (l.set d (key,v)) i=some (i+d,v)
  | [],_,_,_,h=>by cases h
  | (a,c)::l,i,j,b,h=>by
    simp only [a4_] at h
    split at h
    ·rename_i hq
     have:=pg_ hq;subst this
     cases h
     refine ⟨0,rfl,rfl,by simp only [sY_,if_true],fun v key'=> ?_,fun v i=> ?_⟩
     ·simp only [List.set_cons_zero,sY_]
      by_cases e:key=key'
      ·subst e;simp
      ·rw [if_neg e,if_neg e,if_neg (fun g=>e g.symm)]
     ·simp only [List.set_cons_zero,a4_,eq_key_iff.mpr rfl];rfl
    ·rename_i hq
     have hne:a≠key:=fun e=>by subst e;rw [eq_key_iff.mpr rfl] at hq;cases hq
     obtain ⟨d,e1,e2,e3,e4,e5⟩:=rd_ h
     refine ⟨d+1,by omega,e2,by simp only [sY_];rw [if_neg hne,e3],fun v key'=> ?_,fun v i=> ?_⟩
     ·simp only [List.set_cons_succ,sY_,e4]
      by_cases e:a=key'
      ·subst e;rw [if_pos rfl,if_neg hne,if_pos rfl]
      ·rw [if_neg e,if_neg e]
     ·simp only [List.set_cons_succ,a4_,hq]
      rw [e5];simp;omega
theorem pJ_ {β:Type} {key key':DKey} {v:β}:∀(l:List (DKey×β)),sY_ key l=none→sY_ key' (l++[(key,v)])=if key'=key then some v else sY_ key' l
  | [],_=>by
    simp only [List.nil_append,sY_]
    by_cases e:key=key'
    ·subst e;simp
    ·rw [if_neg e,if_neg (fun g=>e g.symm)]
  | (a,b)::l,h=>by
    simp only [sY_] at h
    split at h
    ·cases h
    ·rename_i hne
     simp only [List.cons_append,sY_,pJ_ l h]
     by_cases e:a=key'
     ·subst e;rw [if_pos rfl,if_neg hne,if_pos rfl]
     ·rw [if_neg e,if_neg e]
theorem ju_ {β:Type} {key:DKey} {v:β}:∀{l:List (DKey×β)} {i:Nat},a4_ (eM_ key) l i=none→a4_ (eM_ key) (l++[(key,v)]) i=some (i+l.length,v)
  | [],i,_=>by simp only [List.nil_append,a4_,eq_key_iff.mpr rfl];rfl
  | (a,b)::l,i,h=>by
    simp only [a4_] at h
    split at h
    ·cases h
    ·rename_i hq
     simp only [List.cons_append,a4_,hq]
     rw [ju_ h];simp;omega
def a8_ (ev:Int):List ad_→List DKey→ab_→ab_×List DKey
  | [],h,w=>(w,h)
  | p::t,h,w=>a8_ ev t (h++[pk p]) (if ((cr_ h (pk p):Int)+1)%ev=0 then aV_ w p else w)
def aS_ (n:Int):Nat→ab_→ab_
  | 0,w=>w
  | d+1,w=>if (af_ n w.Ends).Take.Ready=[] then w else aS_ n d (dU_ w n)
def aB_ (ev:Int) (s:ab_×List DKey):ab_×List DKey:=
  (aS_ 2 4 (aS_ 1 4 (a8_ ev (aI_ s.1).Flight s.2 (be_ (aI_ s.1) [])).1),(a8_ ev (aI_ s.1).Flight s.2 (be_ (aI_ s.1) [])).2)
def aE_ (ev:Int):Nat→ab_×List DKey→ab_×List DKey
  | 0,s=>s
  | d+1,s=>aE_ ev d (aB_ ev s)
def jl_ (w:ab_) (n ev:Int):ab_:=if au_ w∧(1≤ev∧ev≤10) then (aE_ ev (min n 5000).toNat (w,[])).1 else vc_
theorem sS_ (ev:Int):∀(t:List ad_) (h:List DKey) (w:ab_),(a8_ ev t h w).2.length=h.length+t.length
  | [],h,w=>rfl
  | p::t,h,w=>by simp only [a8_,sS_ ev t];simp;omega
theorem sk_ (ev:Int):∀(t:List ad_) (h:List DKey) (w:ab_),au_ w→ib_ t→au_ (a8_ ev t h w).1
  | [],h,w,hw,_=>hw
  | p::t,h,w,hw,ht=>by
    simp only [a8_]
    refine sk_ ev t _ _ ?_ (fun x hx=>ht x (by simp [hx]))
    split
    ·exact lm_ hw (ht p (by simp)).1
    ·exact hw
theorem lN_ {n:Int} (hn:1≤n∧n≤2):∀(d:Nat) (w:ab_),au_ w→au_ (aS_ n d w)
  | 0,w,h=>h
  | d+1,w,h=>by
    simp only [aS_]
    split
    ·exact h
    ·exact lN_ hn d _ (mf_ h hn)
theorem pK_ {w:ab_} (h:au_ w):au_ (be_ w []):=gS_ h (by simp) (fun p hp=>by cases hp)
theorem sd_ {ev:Int} {s:ab_×List DKey} (h:au_ s.1):au_ (aB_ ev s).1:=
  lN_ (by omega) 4 _ (lN_ (by omega) 4 _ (sk_ ev _ _ _ (pK_ (ik_ h)) (ik_ h).2.2.2.2.2.1))
theorem ru_ {ev:Int} {s:ab_×List DKey} (h:au_ s.1):(aB_ ev s).2.length≤s.2.length+1000:=by
  unfold aB_
  dsimp only
  rw [sS_]
  have:=(ik_ h).2.2.1
  omega
theorem tg_ {ev:Int}:∀(d:Nat) (s:ab_×List DKey),au_ s.1→au_ (aE_ ev d s).1
  | 0,s,h=>h
  | d+1,s,h=>tg_ d _ (sd_ h)
theorem y0_ {w:ab_} (h:au_ w) {n ev:Int} (he:1≤ev∧ev≤10):au_ (jl_ w n ev):=by
  unfold jl_;rw [if_pos ⟨h,he⟩];exact tg_ _ _ h
def D0_ (m:List (DKey×Int)) (h:List DKey):Prop:=∀key,(sY_ key m).getD 0=(cr_ h key:Int)
section
variable (a b:ByteArray) (z:Int) (E2:List am_) (F2:List ad_) (G2 T2:List aa_) (Q:ab_→Prop) (r ev:Int)
theorem Fj_ (hev:1≤ev∧ev≤10) (len i:Int) (m:List (DKey×Int)) (p:ad_) (L:List ad_) (w:ab_) (hw:au_ w) (hp:vj_ p) (c:Nat) (hm:a4_ (eM_ (pk p)) m 0=none∧c=0∨∃j,a4_ (eM_ (pk p)) m 0=some (j,(c:Int)))
    (go:∀w',w'=(if (c:Int)%ev=0 then aV_ w p else w)→Wp (fun k=>dq_ k r ev len (IntKind.wrap .i64 (i+1)) a z b w'.Key w'.Width w'.Forged m L E2 F2 G2 T2 w'.Ends w'.Flight w'.Given w'.Taken) Q):
    Wp (fun k=>bu_ k r ev len i a z b w.Key w.Width w.Forged m p.To p.Sent p.Bytes p.To p.Bytes L E2 F2 G2 T2 w.Ends w.Flight w.Given w.Taken) Q:=by
  have l19:∀w',w'=(if (c:Int)%ev=0 then aV_ w p else w)→Wp (fun k=>dw_ k r ev len i a z b w'.Key w'.Width w'.Forged m L E2 F2 G2 T2 w'.Ends w'.Flight w'.Given w'.Taken) Q:=fun w' e=>by
    refine Wp.step ?_
    simp only [dw_]
    exact go w' e
  refine Wp.step ?_
  simp only [bu_]
  rw [show (⟨p.To,p.Bytes⟩:DKey)=pk p from rfl]
  have br:=lU_ w hw p hp.1 (by have:=hp.2.2;omega)
  rcases hm with ⟨hm,hc⟩ | ⟨j,hm⟩
  ·subst hc
   simp only [hm,Km.optK]
   refine Wp.opt (fD_ (by omega) (by omega)) ?_
   simp only [fl_]
   refine Wp.ite (fun e=> ?_) (fun e=> ?_)
   ·refine Wp.bind br (fun x hx=> ?_)
    exact l19 x (by rw [if_pos (by simp),hx])
   ·exact l19 w (absurd (Int.zero_emod ev) e)
  ·simp only [hm,Km.optK]
   refine Wp.opt (fD_ (by omega) (by omega)) ?_
   simp only [fl_]
   refine Wp.ite (fun e=> ?_) (fun e=> ?_)
   ·refine Wp.bind br (fun x hx=> ?_)
    exact l19 x (by rw [if_pos e,hx])
   ·exact l19 w (by rw [if_neg e])
theorem E8_ (hev:1≤ev∧ev≤10) (L:List ad_) (hL:L.length≤1000):∀(t pre:List ad_) (m:List (DKey×Int)) (h:List DKey) (w:ab_),pre++t=L→au_ w→ib_ t→D0_ m h→h.length+t.length≤10000000→
    (∀m',D0_ m' (a8_ ev t h w).2→Wp (fun k=>co_ k r ev 1 a z b (a8_ ev t h w).1.Key (a8_ ev t h w).1.Width (a8_ ev t h w).1.Forged m' E2 F2 G2 T2 (a8_ ev t h w).1.Ends (a8_ ev t h w).1.Flight (a8_ ev t h w).1.Given (a8_ ev t h w).1.Taken) Q)→
    Wp (fun k=>dq_ k r ev (L.length:Int) (pre.length:Int) a z b w.Key w.Width w.Forged m L E2 F2 G2 T2 w.Ends w.Flight w.Given w.Taken) Q
  | [],pre,m,h,w,he,hw,ht,hm,hh,go=>by
    have he':pre=L:=by simpa using he
    refine Wp.step ?_
    simp only [dq_]
    refine Wp.dec (fun g=>by rw [he'] at g;omega) (fun _=>go m hm)
  | p::t,pre,m,h,w,he,hw,ht,hm,hh,go=>by
    have hl:pre.length+(t.length+1)≤1000:=by
      have:(pre++(p::t)).length≤1000:=by rw [he];exact hL
      simpa using this
    simp only [List.length_cons] at hh
    have hc:=sU_ h (pk p)
    have nx:∀(m':List (DKey×Int)),D0_ m' (h++[pk p])→(∃j,a4_ (eM_ (pk p)) m' 0=some (j,((cr_ h (pk p)+1:Nat):Int)))→Wp (fun k=>bu_ k r ev (L.length:Int) (pre.length:Int) a z b w.Key w.Width w.Forged m' p.To p.Sent p.Bytes p.To p.Bytes L E2 F2 G2 T2 w.Ends w.Flight w.Given w.Taken) Q:=fun m' h' hf=>by
      refine Fj_ a b z E2 F2 G2 T2 Q r ev hev (L.length:Int) (pre.length:Int) m' p L w hw (ht p (by simp)) (cr_ h (pk p)+1) (.inr hf) (fun w' e=> ?_)
      rw [a0_ (n:=(pre.length:Int)+1) (by omega) (by omega)]
      have hw':au_ w':=by
        rw [e];split
        ·exact lm_ hw (ht p (by simp)).1
        ·exact hw
      have:=E8_ hev L hL t (pre++[p]) m' (h++[pk p]) w' (by rw [←he];simp) hw' (fun x hx=>ht x (by simp [hx])) h' (by simp;omega) (by
        have e2:a8_ ev t (h++[pk p]) w'=a8_ ev (p::t) h w:=by simp only [a8_];rw [e];push_cast;rfl
        rw [e2];exact go)
      rw [show ((pre++[p]).length:Int)=(pre.length:Int)+1 by simp] at this
      exact this
    refine Wp.step ?_
    simp only [dq_]
    refine Wp.dec (fun _=> ?_) (fun g=>absurd (by rw [←he];simp;omega) g)
    rw [show idx L (pre.length:Int)=some p by rw [←he];exact aW_,show L[Int.toNat (pre.length:Int)]? =some p by rw [←he,Int.toNat_natCast];simp]
    simp only [Option.bind_some]
    rw [show (⟨p.To,p.Bytes⟩:DKey)=pk p from rfl]
    have hmp:=hm (pk p)
    cases h4:a4_ (eM_ (pk p)) m 0 with
    | none=>
      have hn:=rp_ h4
      rw [hn] at hmp
      simp only [Option.getD_none] at hmp
      have hz:cr_ h (pk p)=0:=by omega
      simp only [Km.optK,ju_ h4,Nat.zero_add,e3_,Int.toNat_natCast,rV_]
      simp only [List.getElem?_append_right (Nat.le_refl _),Nat.sub_self,List.getElem?_cons_zero,Option.bind_some,jn_]
      rw [a0_ (n:=0+1) (by omega) (by omega)]
      refine nx _ (fun key=> ?_) ⟨_,by rw [ju_ h4,hz];rfl⟩
      rw [pJ_ m hn,gZ_]
      by_cases e:key=pk p
      ·rw [if_pos e,if_pos e,e,hz];rfl
      ·rw [if_neg e,if_neg e,hm]
    | some q=>
      obtain ⟨j,c⟩:=q
      obtain ⟨d,e1,e2,e3,e4,e5⟩:=rd_ h4
      rw [Nat.zero_add] at e1;subst e1
      rw [e3] at hmp
      simp only [Option.getD_some] at hmp
      subst hmp
      simp only [Km.optK,e3_,e2,Option.bind_some,Int.toNat_natCast,jn_]
      rw [a0_ (n:=(cr_ h (pk p):Int)+1) (by omega) (by omega)]
      refine nx _ (fun key=> ?_) ⟨_,by rw [e5];rfl⟩
      rw [e4,gZ_]
      by_cases e:key=pk p
      ·rw [if_pos e,if_pos e,e];rfl
      ·rw [if_neg e,if_neg e,hm]
theorem ED_ (m:List (DKey×Int)) (n:Int) (hn:1≤n∧n≤2):∀(d:Nat) (i:Int) (w:ab_),i+d=4→0≤i→au_ w→
    (Wp (fun k=>co_ k r ev (IntKind.wrap .i64 (n+1)) a z b (aS_ n d w).Key (aS_ n d w).Width (aS_ n d w).Forged m E2 F2 G2 T2 (aS_ n d w).Ends (aS_ n d w).Flight (aS_ n d w).Given (aS_ n d w).Taken) Q)→
    Wp (fun k=>es_ k r ev n i a z b w.Key w.Width w.Forged m E2 F2 G2 T2 w.Ends w.Flight w.Given w.Taken) Q
  | 0,i,w,hi,h0,hw,go=>by
    refine Wp.step ?_
    simp only [es_]
    refine Wp.dec (fun g=>by omega) (fun _=>go)
  | d+1,i,w,hi,h0,hw,go=>by
    refine Wp.step ?_
    simp only [es_]
    refine Wp.dec (fun _=> ?_) (fun g=>by omega)
    obtain ⟨a1,a2,a3⟩:=ir_ hw.2.2.2.2.1 hn
    simp only [a1,a2,Option.bind_some]
    simp only [aS_] at go
    refine Wp.dec (fun g=> ?_) (fun g=> ?_)
    ·rw [if_neg (fun e=>by rw [e] at g;simp at g)] at go
     refine Wp.bind (nh_ w hw n hn) (fun x hx=> ?_);subst hx
     rw [a0_ (n:=i+1) (by omega) (by omega)]
     exact ED_ m n hn d (i+1) (dU_ w n) (by omega) (by omega) (mf_ hw hn) go
    ·rw [if_pos (by apply List.eq_nil_of_length_eq_zero;omega)] at go
     exact go
theorem ic7 (hev:1≤ev∧ev≤10):∀(d:Nat) (m:List (DKey×Int)) (s:ab_×List DKey),au_ s.1→D0_ m s.2→s.2.length+1000*d≤9000000→d≤9000→
    Wp (fun k=>dn_ k (d:Int) ev a z b s.1.Key s.1.Width s.1.Forged m E2 F2 G2 T2 s.1.Ends s.1.Flight s.1.Given s.1.Taken) (· =(aE_ ev d s).1)
  | 0,m,s,hs,hm,hl,hd=>by
    refine Wp.step ?_
    simp only [dn_]
    refine Wp.dec (fun g=>by omega) (fun _=>Wp.ret rfl)
  | d+1,m,s,hs,hm,hl,hd=>by
    refine Wp.step ?_
    simp only [dn_]
    refine Wp.dec (fun _=> ?_) (fun g=>by omega)
    refine Wp.bind (mL_ s.1 hs) (fun x hx=> ?_);subst hx
    have ht:=ik_ hs
    have htl:=ht.2.2.1
    refine E8_ a b z E2 F2 G2 T2 _ ((d+1:Nat):Int) ev hev (aI_ s.1).Flight htl (aI_ s.1).Flight [] m s.2 (be_ (aI_ s.1) []) rfl (pK_ ht) ht.2.2.2.2.2.1 hm (by omega) (fun m' hm'=> ?_)
    have hf:=sk_ ev (aI_ s.1).Flight s.2 (be_ (aI_ s.1) []) (pK_ ht) ht.2.2.2.2.2.1
    refine Wp.step ?_
    simp only [co_]
    refine Wp.dec (fun _=> ?_) (fun g=>by omega)
    refine ED_ a b z E2 F2 G2 T2 _ ((d+1:Nat):Int) ev m' 1 (by omega) 4 0 _ (by omega) (by omega) hf ?_
    rw [show IntKind.wrap .i64 (1+1)=2 by rfl]
    refine Wp.step ?_
    simp only [co_]
    refine Wp.dec (fun _=> ?_) (fun g=>by omega)
    refine ED_ a b z E2 F2 G2 T2 _ ((d+1:Nat):Int) ev m' 2 (by omega) 4 0 _ (by omega) (by omega) (lN_ (by omega) 4 _ hf) ?_
    rw [show IntKind.wrap .i64 (2+1)=3 by rfl]
    refine Wp.step ?_
    simp only [co_]
    refine Wp.dec (fun g=>by omega) (fun _=> ?_)
    rw [a0_ (n:=((d+1:Nat):Int)-1) (by omega) (by omega),show ((d+1:Nat):Int)-1=(d:Int) by omega]
    have hlen:=ru_ (ev:=ev) hs
    exact ic7 hev d m' (aB_ ev s) (sd_ hs) hm' (by omega) (by omega)
end
theorem pp_ (w:ab_) (hb:w.Given.length≤1048576∧w.Taken.length≤1048576) (n ev:Int):Wp (fun k=>i1_ k w n ev) (· =jl_ w n ev):=by
  unfold i1_ jl_
  refine Wp.bind (da_ w hb) (fun _ e=> ?_);subst e
  refine Wp.not (fun h=>Wp.ret (by rw [if_neg (fun g=>of_decide_eq_false h g.1)];rfl)) (fun h=> ?_)
  have hv:=of_decide_eq_true h
  refine Wp.dec (fun h=>Wp.ret (by rw [if_neg (fun g=>by omega)];rfl)) (fun h1=> ?_)
  refine Wp.dec (fun h=>Wp.ret (by rw [if_neg (fun g=>by omega)];rfl)) (fun h2=> ?_)
  rw [if_pos ⟨hv,by omega⟩]
  refine Wp.bind (nb_ w hv) (fun _ e=> ?_);have e'':=e.symm;subst e''
  have hm:D0_ [] []:=fun key=>rfl
  refine Wp.dec (fun h=> ?_) (fun h=> ?_)
  ·rw [show min n 5000=5000 by omega]
   exact ic7 noB noB 0 [] [] [] [] ev (by omega) 5000 [] (w,[]) hv hm (by simp) (by omega)
  ·by_cases h0:0≤n
   ·have:=ic7 noB noB 0 [] [] [] [] ev (by omega) n.toNat [] (w,[]) hv hm (by simp;omega) (by omega)
    rw [show min n 5000=n by omega]
    rw [Int.toNat_of_nonneg h0] at this
    exact this
   ·rw [show (min n 5000).toNat=0 by omega]
    refine Wp.step ?_
    simp only [dn_]
    refine Wp.dec (fun g=>by omega) (fun _=>Wp.ret rfl)
end Km.X
namespace Km.X
open Go Km
set_option linter.unusedVariables false
set_option linter.unusedSimpArgs false
def u6_ (c:aJ_):DKey:=⟨c.to,c.bytes⟩
def lx_ (key:DKey):List aJ_→Int
  | []=>0
  | c::l=>if u6_ c=key then c.n else lx_ key l
def DO_ (S:List aJ_) (h:List DKey):Prop:=∀key,lx_ key S=(cr_ h key:Int)
theorem jz_ {key:DKey} {l:List aJ_}:∀{pre:List aJ_},(∀c∈pre,u6_ c≠key)→lx_ key (pre++l)=lx_ key l
  | [],_=>rfl
  | c::pre,h=>by
    simp only [List.cons_append,lx_]
    rw [if_neg (h c (by simp)),jz_ (fun x hx=>h x (by simp [hx]))]
theorem rU_ {key:DKey} {l l':List aJ_} (h:lx_ key l=lx_ key l'):∀(pre:List aJ_),lx_ key (pre++l)=lx_ key (pre++l')
  | []=>h
  | c::pre=>by
    simp only [List.cons_append,lx_]
    rw [rU_ h pre]
theorem set_mid {α:Type} (pre t:List α) (y y':α):(pre++y::t).set pre.length y'=pre++y'::t:=by simp
theorem pN_ (ev:Int) (hev:1≤ev∧ev≤10) (p:ad_) (S:List aJ_) (hS:S.length≤20000000) (hb:0≤lx_ (pk p) S∧lx_ (pk p) S≤20000000):∀(t pre:List aJ_),pre++t=S→(∀c∈pre,u6_ c≠pk p)→
    Wp (fun k=>bI_ k ev (pre.length:Int) S p.To p.Sent p.Bytes) (fun r=>r.2=decide ((lx_ (pk p) S+1)%ev=0)∧(∀key,lx_ key r.1=if key=pk p then lx_ (pk p) S+1 else lx_ key S)∧r.1.length≤S.length+1)
  | [],pre,he,hn=>by
    have he':pre=S:=by simpa using he
    refine Wp.step ?_
    simp only [bI_]
    refine Wp.dec (fun g=>by rw [he'] at g;omega) (fun _=> ?_)
    refine Wp.opt (aX_ (by simp;omega)) ?_
    have h0:lx_ (pk p) S=0:=by rw [←he,jz_ hn];rfl
    refine Wp.ret ⟨?_,fun key=> ?_,by simp⟩
    ·dsimp only
     rw [h0,Bool.eq_iff_iff]
     simp only [beq_iff_eq,decide_eq_true_eq]
     constructor
     ·intro e;subst e;rfl
     ·intro e
      by_cases h1:ev=1
      ·exact h1
      ·rw [Int.emod_eq_of_lt (by omega) (by omega)] at e;omega
    ·by_cases e:key=pk p
     ·rw [if_pos e,e,h0,←he',jz_ hn]
      simp [lx_,u6_,pk]
     ·rw [if_neg e]
      have:lx_ key ([(⟨p.To,p.Bytes,1⟩:aJ_)])=lx_ key []:=by
        simp only [lx_];rw [if_neg (fun g=>e g.symm)]
      have:=rU_ this S
      simpa using this
  | y::t,pre,he,hn=>by
    have hl:pre.length+(t.length+1)≤20000000:=by
      have:(pre++(y::t)).length≤20000000:=by rw [he];exact hS
      simpa using this
    refine Wp.step ?_
    simp only [bI_]
    refine Wp.dec (fun _=> ?_) (fun g=>absurd (by rw [←he];simp;omega) g)
    have i1:idx S (pre.length:Int)=some y:=by rw [←he];exact aW_
    have i2:S[Int.toNat (pre.length:Int)]? =some y:=by rw [←he,Int.toNat_natCast];simp
    simp only [i1,i2,Option.bind_some,fl_,qq_]
    have nx:u6_ y≠pk p→Wp (fun k=>bI_ k ev (IntKind.wrap .i64 ((pre.length:Int)+1)) S p.To p.Sent p.Bytes) (fun r=>r.2=decide ((lx_ (pk p) S+1)%ev=0)∧(∀key,lx_ key r.1=if key=pk p then lx_ (pk p) S+1 else lx_ key S)∧r.1.length≤S.length+1):=fun hne=>by
      rw [a0_ (n:=(pre.length:Int)+1) (by omega) (by omega)]
      have:=pN_ ev hev p S hS hb t (pre++[y]) (by rw [←he];simp) (fun c hc=>by
        simp only [List.mem_append,List.mem_cons,List.not_mem_nil,or_false] at hc
        rcases hc with hc | rfl
        ·exact hn c hc
        ·exact hne)
      rw [show ((pre++[y]).length:Int)=(pre.length:Int)+1 by simp] at this
      exact this
    refine Wp.ite (fun e1=> ?_) (fun e1=>nx (fun g=>e1 (congrArg DKey.to g)))
    refine Wp.ite (fun e2=> ?_) (fun e2=>nx (fun g=>e2 (congrArg DKey.bytes g)))
    have hk:u6_ y=pk p:=by simp [u6_,pk,e1,e2]
    have hy:lx_ (pk p) S=y.n:=by rw [←he,jz_ hn];simp only [lx_];rw [if_pos hk]
    rw [a0_ (n:=y.n+1) (by omega) (by omega)]
    have es:∀y':aJ_,S.set (Int.toNat (pre.length:Int)) y'=pre++y'::t:=fun y'=>by rw [Int.toNat_natCast,←he];exact set_mid pre t y y'
    simp only [es]
    have j1:∀y':aJ_,idx (pre++y'::t) (pre.length:Int)=some y':=fun y'=>aW_
    have j2:∀y':aJ_,(pre++y'::t)[Int.toNat (pre.length:Int)]? =some y':=fun y'=>by rw [Int.toNat_natCast];simp
    simp only [j1,j2,Option.bind_some]
    refine Wp.opt (fD_ (by omega) (by omega)) ?_
    refine Wp.ret ⟨?_,fun key=> ?_,by rw [←he];simp⟩
    ·dsimp only
     rw [hy,Bool.eq_iff_iff];simp
    ·dsimp only
     by_cases e:key=pk p
     ·rw [if_pos e,e,hy,jz_ hn]
      simp only [lx_]
      rw [if_pos (by rw [←hk];rfl)]
     ·rw [if_neg e,←he]
      apply rU_
      simp only [lx_]
      rw [if_neg (fun g=>e (by rw [←g,←hk];rfl)),if_neg (fun g=>e (by rw [←g,←hk]))]
theorem yA_ (ev:Int) (hev:1≤ev∧ev≤10) (p:ad_) (S:List aJ_) (h:List DKey) (hc:DO_ S h) (hS:S.length≤h.length) (hh:h.length≤10000000):Wp (fun k=>gw_ k S p ev) (fun r=>r.2=decide (((cr_ h (pk p):Int)+1)%ev=0)∧DO_ r.1 (h++[pk p])∧r.1.length≤(h++[pk p]).length):=by
  unfold gw_
  have hk:=sU_ h (pk p)
  have hb:=hc (pk p)
  refine (pN_ ev hev p S (by omega) (by omega) S [] rfl (fun c hc=>by cases hc)).mono fun r hr=> ?_
  refine ⟨by rw [hr.1,hb],fun key=> ?_,by have:=hr.2.2;simp;omega⟩
  rw [hr.2.1,gZ_]
  by_cases e:key=pk p
  ·rw [if_pos e,if_pos e,hb,e];rfl
  ·rw [if_neg e,if_neg e,hc]
theorem ii_ (w:ab_) (fl:List ad_) (p:ad_):aV_ (be_ w fl) p=be_ (aV_ w p) fl:=by
  unfold aV_
  by_cases h:(h4_ p.Bytes w.Key w.Width).2=true
  ·rw [if_pos (show (h4_ p.Bytes (be_ w fl).Key (be_ w fl).Width).2=true from h),if_pos h];rfl
  ·rw [if_neg (show¬(h4_ p.Bytes (be_ w fl).Key (be_ w fl).Width).2=true from h),if_neg h]
theorem Bl_ (w:ab_) (p:ad_):(aV_ w p).Flight=w.Flight:=by unfold aV_;split<;>rfl
theorem lW_ (ev:Int):∀(t:List ad_) (h:List DKey) (w:ab_),(a8_ ev t h w).1.Flight=w.Flight
  | [],h,w=>rfl
  | p::t,h,w=>by
    simp only [a8_,lW_ ev t]
    split
    ·exact Bl_ w p
    ·rfl
theorem q2_ (w:ab_) (n:Int) (x y:Int) (t:ByteArray):j5_ w ⟨11,n,x,y,t⟩=dU_ w n:=by
  unfold j5_;dsimp only;rw [if_neg (by omega),if_neg (by omega),if_neg (by omega)]
section
variable (a b:ByteArray) (z:Int) (E2:List am_) (F2:List ad_) (G2 T2:List aa_) (Q:ab_→Prop) (r ev i:Int)
theorem sc9 (hev:1≤ev∧ev≤10):∀(t:List ad_) (S:List aJ_) (h:List DKey) (w:ab_),au_ w→ib_ t→t.length≤1000→DO_ S h→S.length≤h.length→h.length+t.length≤10000000→
    (∀S',DO_ S' (a8_ ev t h w).2→S'.length≤(a8_ ev t h w).2.length→Wp (fun k=>cm_ k r ev i 1 a z b (a8_ ev t h w).1.Key (a8_ ev t h w).1.Width (a8_ ev t h w).1.Forged S' E2 F2 G2 T2 (a8_ ev t h w).1.Ends [] (a8_ ev t h w).1.Given (a8_ ev t h w).1.Taken) Q)→
    Wp (fun k=>d6_ k r ev i a z b w.Key w.Width w.Forged S E2 F2 G2 T2 w.Ends t w.Given w.Taken) Q
  | [],S,h,w,hw,ht,hl,hc,hS,hh,go=>by
    refine Wp.step ?_
    simp only [d6_]
    refine Wp.dec (fun g=>by simp at g) (fun _=>go S hc hS)
  | p::t,S,h,w,hw,ht,hl,hc,hS,hh,go=>by
    simp only [List.length_cons] at hl hh
    refine Wp.step ?_
    simp only [d6_]
    refine Wp.dec (fun _=> ?_) (fun g=>absurd (by simp) g)
    rw [show idx (p::t) 0=some p from rfl,show (p::t)[Int.toNat 0]? =some p from rfl]
    simp only [Option.bind_some]
    have hwf:au_ (be_ w (p::t)):=gS_ hw (by simp;omega) ht
    refine Wp.bind (yA_ ev hev p S h hc hS (by omega)) ?_
    rintro ⟨S',ps⟩ ⟨e1,e2,e3⟩
    dsimp only at e1 e2 e3⊢
    simp only [a8_] at go
    refine Wp.bif (fun hp=> ?_) (fun hp=> ?_)
    ·rw [hp] at e1
     rw [if_pos (of_decide_eq_true e1.symm)] at go
     have hb:=iv_ (be_ w (p::t)) hwf 0 (p:=p) rfl
     refine Wp.bind hb (fun x hx=> ?_)
     have hx':x=be_ (aV_ w p) t:=by rw [hx,←ii_];rfl
     subst hx'
     exact sc9 hev t S' (h++[pk p]) (aV_ w p) (lm_ hw (ht p (by simp)).1) (fun x hx=>ht x (by simp [hx])) (by omega) e2 e3 (by simp;omega) go
    ·rw [hp] at e1
     rw [if_neg (of_decide_eq_false e1.symm)] at go
     refine Wp.bind (mm_ (p::t) 0 (by simp) (by simp;omega)) (fun x hx=> ?_)
     have hx':x=t:=hx
     subst hx'
     exact sc9 hev x S' (h++[pk p]) w hw (fun x hx=>ht x (by simp [hx])) (by omega) e2 e3 (by simp;omega) go
theorem Ez_ (S:List aJ_) (n:Int) (hn:1≤n∧n≤2):∀(d:Nat) (j:Int) (w:ab_),j+d=4→0≤j→au_ w→
    (Wp (fun k=>cm_ k r ev i (IntKind.wrap .i64 (n+1)) a z b (aS_ n d w).Key (aS_ n d w).Width (aS_ n d w).Forged S E2 F2 G2 T2 (aS_ n d w).Ends (aS_ n d w).Flight (aS_ n d w).Given (aS_ n d w).Taken) Q)→
    Wp (fun k=>eA_ k r ev i n j a z b w.Key w.Width w.Forged S E2 F2 G2 T2 w.Ends w.Flight w.Given w.Taken) Q
  | 0,j,w,hi,h0,hw,go=>by
    refine Wp.step ?_
    simp only [eA_]
    refine Wp.dec (fun g=>by omega) (fun _=>go)
  | d+1,j,w,hi,h0,hw,go=>by
    refine Wp.step ?_
    simp only [eA_]
    refine Wp.dec (fun _=> ?_) (fun g=>by omega)
    obtain ⟨a1,a2,a3⟩:=ir_ hw.2.2.2.2.1 hn
    simp only [a1,a2,Option.bind_some]
    simp only [aS_] at go
    refine Wp.dec (fun g=> ?_) (fun g=> ?_)
    ·rw [if_neg (fun e=>by rw [e] at g;simp at g)] at go
     refine Wp.bind (qT_ w hw ⟨11,n,0,0,noB⟩ (by dsimp only;omega) hn) (fun x hx=> ?_)
     rw [q2_] at hx;subst hx
     rw [a0_ (n:=j+1) (by omega) (by omega)]
     exact Ez_ S n hn d (j+1) (dU_ w n) (by omega) (by omega) (mf_ hw hn) go
    ·rw [if_pos (by apply List.eq_nil_of_length_eq_zero;omega)] at go
     exact go
theorem sc6 (hev:1≤ev∧ev≤10):∀(d:Nat) (i:Int) (S:List aJ_) (s:ab_×List DKey),d=(min r 5000-i).toNat→0≤i∧i≤5000→au_ s.1→DO_ S s.2→S.length≤s.2.length→s.2.length+1000*d≤9000000→
    Wp (fun k=>fa_ k r ev i a z b s.1.Key s.1.Width s.1.Forged S E2 F2 G2 T2 s.1.Ends s.1.Flight s.1.Given s.1.Taken) (· =(aE_ ev d s).1)
  | 0,i,S,s,hd,hi,hs,hm,hS,hl=>by
    refine Wp.step ?_
    simp only [fa_]
    have cp:Wp (fun k=>(ei_ k s.1).bind fun x=>some x) (· =(aE_ ev 0 s).1):=by
      refine Wp.bind (jd_ s.1 hs) (fun x hx=> ?_)
      exact Wp.ret hx
    refine Wp.dec (fun g=> ?_) (fun _=>cp)
    refine Wp.dec (fun g=>by omega) (fun _=>cp)
  | d+1,i,S,s,hd,hi,hs,hm,hS,hl=>by
    refine Wp.step ?_
    simp only [fa_]
    refine Wp.dec (fun _=> ?_) (fun g=>by omega)
    refine Wp.dec (fun _=> ?_) (fun g=>by omega)
    refine Wp.bind (iU_ s.1 hs) (fun x hx=> ?_);subst hx
    have ht:=ik_ hs
    have htl:=ht.2.2.1
    refine sc9 a b z E2 F2 G2 T2 _ r ev i hev (aI_ s.1).Flight S s.2 (be_ (aI_ s.1) []) (pK_ ht) ht.2.2.2.2.2.1 htl hm hS (by omega) (fun S' hm' hS'=> ?_)
    have hf:=sk_ ev (aI_ s.1).Flight s.2 (be_ (aI_ s.1) []) (pK_ ht) ht.2.2.2.2.2.1
    have hfl:(a8_ ev (aI_ s.1).Flight s.2 (be_ (aI_ s.1) [])).1.Flight=[]:=lW_ ev _ _ _
    generalize hX:a8_ ev (aI_ s.1).Flight s.2 (be_ (aI_ s.1) [])=X at hf hfl hm' hS'⊢
    rw [←hfl]
    refine Wp.step ?_
    simp only [cm_]
    refine Wp.dec (fun _=> ?_) (fun g=>by omega)
    refine Ez_ a b z E2 F2 G2 T2 _ r ev i S' 1 (by omega) 4 0 _ (by omega) (by omega) hf ?_
    rw [show IntKind.wrap .i64 (1+1)=2 by rfl]
    refine Wp.step ?_
    simp only [cm_]
    refine Wp.dec (fun _=> ?_) (fun g=>by omega)
    refine Ez_ a b z E2 F2 G2 T2 _ r ev i S' 2 (by omega) 4 0 _ (by omega) (by omega) (lN_ (by omega) 4 _ hf) ?_
    rw [show IntKind.wrap .i64 (2+1)=3 by rfl]
    refine Wp.step ?_
    simp only [cm_]
    refine Wp.dec (fun g=>by omega) (fun _=> ?_)
    rw [a0_ (n:=i+1) (by omega) (by omega)]
    have hlen:=ru_ (ev:=ev) hs
    subst hX
    exact sc6 hev d (i+1) S' (aB_ ev s) (by omega) (by omega) (sd_ hs) hm' hS' (by omega)
end
theorem u3_ (w:ab_) (hb:w.Given.length≤1048576∧w.Taken.length≤1048576) (n ev:Int):Wp (fun k=>lY_ k w n ev) (· =jl_ w n ev):=by
  unfold lY_ jl_
  refine Wp.bind (dg_ w hb) (fun _ e=> ?_);subst e
  refine Wp.not (fun h=>Wp.ret (by rw [if_neg (fun g=>of_decide_eq_false h g.1)];rfl)) (fun h=> ?_)
  have hv:=of_decide_eq_true h
  refine Wp.bind (bQ_ _ _ _) (fun _ e=> ?_);subst e
  refine Wp.not (fun h=> ?_) (fun h=> ?_)
  ·simp only [Bool.and_eq_false_iff,decide_eq_false_iff_not] at h
   exact Wp.ret (by rw [if_neg (fun g=>by omega)];rfl)
  simp only [Bool.and_eq_true,decide_eq_true_eq] at h
  rw [if_pos ⟨hv,h⟩]
  refine Wp.bind (jd_ w hv) (fun _ e=> ?_);have e'':=e.symm;subst e''
  exact sc6 noB noB 0 [] [] [] [] n ev h (min n 5000).toNat 0 [] (w,[]) (by omega) (by omega) hv (fun key=>rfl) (by simp) (by simp;omega)
end Km.X
namespace Km.X
open Go Km
set_option linter.unusedVariables false
set_option linter.unusedSimpArgs false
def d1_:List az_→ByteArray→List ByteArray→List ByteArray×ByteArray×Bool
  | [],o,out=>(out,o,true)
  | p::ps,o,out=>if 20<p.Text.size∨200<o.size+p.Text.size then ([],noB,false) else if p.Last then d1_ ps noB (out++[o++p.Text]) else d1_ ps (o++p.Text) out
theorem rN_:∀(t:List az_) (o:ByteArray) (out:List ByteArray),o.size≤200→(∀y∈out,y.size≤200)→((d1_ t o out).1.length≤out.length+t.length)∧(∀y∈(d1_ t o out).1,y.size≤200)∧(d1_ t o out).2.1.size≤200
  | [],o,out,ho,hout=>⟨by simp [d1_],hout,ho⟩
  | x::t,o,out,ho,hout=>by
    simp only [d1_]
    split
    ·exact ⟨by simp,fun y hy=>by simp at hy,by simp [dX_]⟩
    ·rename_i h
     split
     ·have:=rN_ t noB (out++[o++x.Text]) (by simp [dX_]) (fun y hy=>by
        simp only [List.mem_append,List.mem_singleton] at hy
        rcases hy with hy | rfl
        ·exact hout y hy
        ·rw [aD_];omega)
      refine ⟨?_,this.2⟩
      have h1:=this.1
      simp only [List.length_append,List.length_cons,List.length_nil] at h1⊢
      omega
     ·have:=rN_ t (o++x.Text) out (by rw [aD_];omega) hout
      refine ⟨?_,this.2⟩
      have h1:=this.1
      simp only [List.length_cons] at h1⊢
      omega
end Km.X
namespace Km.X
open Go Km
set_option linter.unusedVariables false
set_option linter.unusedSimpArgs false
theorem q4_ {y:Int} (h:me_ y):0≤y∧y≤255:=by
  unfold me_ at h
  simp [Lit.wf,IntKind.min,IntKind.max,IntKind.signed,IntKind.bits] at h
  omega
def Rd (n:Int) (r:as_):Prop:=r.b.length≤2000∧(∀y∈r.b,0≤y∧y≤255)∧0≤r.p∧r.p≤n
theorem Rd.mono {n m:Int} {r:as_} (h:Rd n r) (hm:n≤m):Rd m r:=⟨h.1,h.2.1,h.2.2.1,by have:=h.2.2.2;omega⟩
theorem Dc_ (n m:Nat) (hn:n<2^62) (hm:m<2^62):iP_ .i64 (n:Int) (m:Int)=((n^^^m:Nat):Int):=by
  have e:∀m:Nat,BitVec.ofInt 64 (m:Int)=BitVec.ofNat 64 m:=fun m=>by
    apply BitVec.eq_of_toNat_eq
    simp [BitVec.toNat_ofInt]
  have hx:=Nat.xor_lt_two_pow hn hm
  show IntKind.wrap .i64 ((BitVec.ofInt 64 ((n:Nat):Int)^^^BitVec.ofInt 64 ((m:Nat):Int)).toNat:Int)=_
  rw [e,e,BitVec.toNat_xor,BitVec.toNat_ofNat,BitVec.toNat_ofNat,Nat.mod_eq_of_lt (by omega),Nat.mod_eq_of_lt (by omega)]
  exact a0_ (by omega) (by omega)
theorem vM_ {xs:List Int} {i:Int} (h:0≤i) (h':i<xs.length):∃y∈xs,idx xs i=some y:=by
  have hlt:i.toNat<xs.length:=by omega
  have:=tU_ hlt
  rw [Int.toNat_of_nonneg h] at this
  exact ⟨_,List.getElem_mem hlt,this⟩
theorem cE_ (r:as_) (n a:Int) (h:Rd n r) (hn:n≤1000000) (ha:1≤a∧a≤1000000):Wp (fun k=>ah_ k r a) (fun v=>(0≤v.1∧v.1<a)∧Rd (n+1) v.2):=by
  obtain ⟨h1,h2,h3,h4⟩:=h
  have R1:Rd (n+1) ⟨r.b,r.p+1⟩:=⟨h1,h2,by simp only;omega,by simp only;omega⟩
  unfold ah_
  rw [a0_ (n:=r.p+1) (by omega) (by omega),a0_ (n:=r.p+1-1) (by omega) (by omega),show r.p+1-1=r.p by omega]
  simp only [al_,fl_]
  refine Wp.ite (fun h=>by omega) (fun _=> ?_)
  refine Wp.ite (fun h=>Wp.ret ⟨⟨by omega,by omega⟩,R1⟩) (fun h5=> ?_)
  refine Wp.ite (fun h6=> ?_) (fun h6=> ?_)
  ·obtain ⟨y,hy,e⟩:=vM_ h3 h6
   have hy:=h2 y hy
   refine Wp.opt e ?_
   rw [a0_ (by omega) (by omega)]
   refine Wp.opt (fD_ (by omega) (by omega)) ?_
   exact Wp.ret ⟨⟨Int.emod_nonneg _ (by omega),Int.emod_lt_of_pos _ (by omega)⟩,R1⟩
  ·refine Wp.opt (fD_ h3 (by omega)) ?_
   obtain ⟨y,hy,e⟩:=vM_ (xs:=r.b) (Int.emod_nonneg r.p (b:=r.b.length) (by omega)) (Int.emod_lt_of_pos _ (by omega))
   have hy:=h2 y hy
   refine Wp.opt e ?_
   rw [a0_ (n:=r.p*7) (by omega) (by omega),a0_ (n:=r.p*7+3) (by omega) (by omega)]
   refine Wp.opt (fD_ (by omega) (by omega)) ?_
   obtain ⟨z,hz,e⟩:=vM_ (xs:=r.b) (Int.emod_nonneg (r.p*7+3) (b:=r.b.length) (by omega)) (Int.emod_lt_of_pos _ (by omega))
   have hz:=h2 z hz
   refine Wp.opt e ?_
   refine Wp.opt (oA_ h3 (by omega)) ?_
   have hd0:0≤r.p/(r.b.length:Int):=Int.ediv_nonneg h3 (by omega)
   have hd1:r.p/(r.b.length:Int)≤r.p:=Int.ediv_le_self _ h3
   generalize r.p/(r.b.length:Int)=d at*
   rw [a0_ (n:=y) (by omega) (by omega),a0_ (n:=z) (by omega) (by omega),a0_ (n:=d) (by omega) (by omega),a0_ (n:=y*131) (by omega) (by omega),a0_ (n:=z*1117) (by omega) (by omega),a0_ (n:=r.p*29) (by omega) (by omega),a0_ (n:=d*53) (by omega) (by omega),a0_ (n:=y*131+z*1117) (by omega) (by omega),a0_ (n:=y*131+z*1117+r.p*29) (by omega) (by omega),a0_ (n:=y*131+z*1117+r.p*29+d*53) (by omega) (by omega)]
   have hv:0≤y*131+z*1117+r.p*29+d*53∧y*131+z*1117+r.p*29+d*53≤1000000000:=by omega
   generalize y*131+z*1117+r.p*29+d*53=v at*
   refine Wp.opt (oA_ hv.1 (by omega)) ?_
   rw [a0_ (n:=v/64) (by omega) (by omega)]
   obtain ⟨m,rfl⟩:=Int.eq_ofNat_of_zero_le hv.1
   rw [show ((m:Int)/64)=((m/64:Nat):Int) by omega,Dc_ _ _ (by omega) (by omega)]
   refine Wp.opt (fD_ (by omega) (by omega)) ?_
   exact Wp.ret ⟨⟨Int.emod_nonneg _ (by omega),Int.emod_lt_of_pos _ (by omega)⟩,R1⟩
theorem BT_ (a:List Int) (h:∀y∈a,me_ y):Wp (fun k=>iz_ k a) (Rd 0):=by
  unfold iz_
  simp only [al_]
  refine Wp.ite (fun h1=> ?_) (fun h1=> ?_)
  ·refine Wp.opt (cz_ (by omega)) ?_
   refine Wp.step ?_
   simp only [eJ_]
   refine Wp.ret ⟨by simp [dT_];omega,fun y hy=>q4_ (h y ?_),by simp,by simp⟩
   simp only [dT_] at hy
   exact List.mem_of_mem_take (List.mem_of_mem_drop hy)
  ·refine Wp.step ?_
   simp only [eJ_]
   exact Wp.ret ⟨by simp only;omega,fun y hy=>q4_ (h y hy),by simp,by simp⟩
theorem t6_:∀(n:Nat) (s acc:ByteArray),n≤1000000→acc.size+s.size*n≤1000000→Wp (fun k=>cZ_ k s (n:Int) acc) (fun r=>r.size=acc.size+s.size*n)
  | 0,s,acc,hn,h=>by
    refine Wp.step ?_
    simp only [cZ_]
    simp (disch:=omega) only [al_,if_neg]
    exact Wp.ret (by simp)
  | n+1,s,acc,hn,h=>by
    have hs:s.size≤s.size*(n+1):=Nat.le_mul_of_pos_right _ (by omega)
    have hle:(s++s).size*((n+1)/2)+s.size*((n+1)%2)=s.size*(n+1):=by
      rw [aD_]
      have:=Nat.div_add_mod (n+1) 2
      calc (s.size+s.size)*((n+1)/2)+s.size*((n+1)%2)=s.size*(2*((n+1)/2)+(n+1)%2):=by rw [Nat.mul_add,←Nat.two_mul,Nat.mul_comm 2 s.size,Nat.mul_assoc]
        _=s.size*(n+1):=by rw [this]
    have G:∀acc':ByteArray,acc'.size=acc.size+s.size*((n+1)%2)→Wp (fun k=>eF_ k s ((n+1:Nat):Int) acc') (fun r=>r.size=acc.size+s.size*(n+1)):=fun acc' h'=>by
      refine Wp.step ?_
      simp only [eF_]
      refine Wp.opt (bM_ (by omega)) ?_
      refine Wp.opt (oA_ (by omega) (by omega)) ?_
      rw [a0_ (by omega) (by omega),show ((n+1:Nat):Int)/2=(((n+1)/2:Nat):Int) by omega]
      exact (t6_ ((n+1)/2) (s++s) acc' (by omega) (by omega)).mono fun r hr=>by rw [hr];omega
    refine Wp.step ?_
    simp only [cZ_]
    simp (disch:=omega) only [al_,if_pos,fl_]
    refine Wp.opt (fD_ (by omega) (by omega)) ?_
    refine Wp.ite (fun h1=> ?_) (fun h1=> ?_)
    ·have e:(n+1)%2=1:=by omega
     refine Wp.opt (bM_ (by omega)) ?_
     exact G _ (by rw [aD_,e];omega)
    ·have e:(n+1)%2=0:=by omega
     exact G _ (by rw [e];omega)
theorem oq_ (s:ByteArray) (n:Int) (B:Nat) (hB:B≤1000000) (h:s.size*n.toNat≤B) (hn1:n≤1000000):Wp (fun k=>d7_ k s n) (fun r=>r.size≤B):=by
  unfold d7_
  by_cases hn:0≤n
  ·have e0:(⟨#[]⟩:ByteArray).size=0:=rfl
   have:=t6_ n.toNat s (⟨#[]⟩:ByteArray) (by omega) (by rw [e0];omega)
   rw [Int.toNat_of_nonneg hn] at this
   exact this.mono fun r hr=>by rw [hr,e0];omega
  ·refine Wp.step ?_
   simp only [cZ_]
   simp (disch:=omega) only [al_,if_neg]
   exact Wp.ret (Nat.zero_le _)
theorem mH_:∀(d:Nat) (n:Int) (r:as_) (s:ByteArray),Rd n r→n+d≤900000→s.size+d≤100→Wp (fun k=>b7_ k s (d:Int) r.b r.p) (fun v=>v.1.size≤s.size+d∧Rd (n+d) v.2)
  | 0,n,r,s,h,hn,hs=>by
    refine Wp.step ?_
    simp only [b7_]
    simp (disch:=omega) only [al_,if_neg]
    exact Wp.ret ⟨by simp,by simpa using h⟩
  | d+1,n,r,s,h,hn,hs=>by
    refine Wp.step ?_
    simp only [b7_]
    simp (disch:=omega) only [al_,if_pos]
    refine Wp.bind (cE_ r n 5 h (by omega) (by omega)) ?_
    rintro ⟨q,r'⟩ ⟨hq,hr'⟩
    have e5:(⟨#[97,98,99,100,32]⟩:ByteArray).size=5:=rfl
    simp only at hq
    dsimp only
    refine Wp.opt (cz_ (by rw [e5];omega)) ?_
    dsimp only
    refine Wp.opt (cz_ (by simp only [ByteArray.size_extract,e5];omega)) ?_
    dsimp only
    refine Wp.opt (bM_ (by simp only [ByteArray.size_extract,e5];omega)) ?_
    rw [a0_ (by omega) (by omega),show ((d+1:Nat):Int)-1=(d:Int) by omega]
    have hsz:∀u:ByteArray,(s++u.extract (0:Int).toNat (1:Int).toNat).size≤s.size+1:=fun u=>by
      rw [aD_,ByteArray.size_extract];omega
    have hz:=hsz ((⟨#[97,98,99,100,32]⟩:ByteArray).extract q.toNat (((⟨#[97,98,99,100,32]⟩:ByteArray).size:Int)).toNat)
    exact (mH_ d (n+1) r' _ hr' (by omega) (by omega)).mono fun v hv=>⟨by omega,hv.2.mono (by omega)⟩
theorem rc_ (r:as_) (n:Int) (h:Rd n r) (hn:0≤n∧n≤800000):Wp (fun k=>cY_ k r) (fun v=>v.1.size≤190∧Rd (n+40) v.2):=by
  unfold cY_
  refine Wp.bind (cE_ r n 8 h (by omega) (by omega)) ?_
  rintro ⟨q,r1⟩ ⟨hq,h1⟩
  simp only at hq
  simp only [fl_]
  refine Wp.ite (fun _=>Wp.ret ⟨Nat.zero_le _,h1.mono (by omega)⟩) (fun _=> ?_)
  refine Wp.ite (fun _=> ?_) (fun _=> ?_)
  ·refine Wp.bind (cE_ r1 _ 5 h1 (by omega) (by omega)) ?_
   rintro ⟨q2,r2⟩ ⟨hq2,h2⟩
   refine Wp.bind (cE_ r2 _ 3 h2 (by omega) (by omega)) ?_
   rintro ⟨q3,r3⟩ ⟨hq3,h3⟩
   refine Wp.bind (cE_ r3 _ 2 h3 (by omega) (by omega)) ?_
   rintro ⟨q4,r4⟩ ⟨hq4,h4⟩
   refine Wp.bind (cE_ r4 _ 2 h4 (by omega) (by omega)) ?_
   rintro ⟨q5,r5⟩ ⟨hq5,h5⟩
   simp only at hq2 hq3 hq4 hq5⊢
   have hm:0≤q4*q5∧q4*q5≤1:=by
     have:q4=0∨q4=1:=by omega
     rcases this with rfl | rfl<;>omega
   generalize q4*q5=m at*
   simp (disch:=omega) only [a0_]
   refine Wp.bind (oq_ _ _ 190 (by omega) (by show 1*_≤190;omega) (by omega)) (fun u hu=> ?_)
   exact Wp.ret ⟨hu,h5.mono (by omega)⟩
  refine Wp.ite (fun _=> ?_) (fun _=> ?_)
  ·refine Wp.bind (cE_ r1 _ 19 h1 (by omega) (by omega)) ?_
   rintro ⟨q2,r2⟩ ⟨hq2,h2⟩
   simp only at hq2⊢
   simp (disch:=omega) only [a0_]
   refine Wp.bind (oq_ _ _ 190 (by omega) (by show 10*_≤190;omega) (by omega)) (fun u hu=> ?_)
   exact Wp.ret ⟨hu,h2.mono (by omega)⟩
  refine Wp.ite (fun _=>Wp.ret ⟨by show 2≤190;omega,h1.mono (by omega)⟩) (fun _=> ?_)
  refine Wp.bind (cE_ r1 _ 30 h1 (by omega) (by omega)) ?_
  rintro ⟨q2,r2⟩ ⟨hq2,h2⟩
  simp only at hq2⊢
  simp (disch:=omega) only [a0_]
  have:=mH_ (1+q2).toNat _ r2 (⟨#[]⟩:ByteArray) h2 (by omega) (by show 0+_≤100;omega)
  rw [Int.toNat_of_nonneg (by omega)] at this
  exact this.mono fun v hv=>⟨by have:=hv.1;have e0:(⟨#[]⟩:ByteArray).size=0:=rfl;rw [e0] at this;omega,hv.2.mono (by omega)⟩
theorem pB_ (a b c:ByteArray):a++b++c=a++(b++c):=by
  apply ByteArray.ext;apply Array.ext';simp
theorem AW_ (s:ByteArray) (i:Nat) (h:i≤s.size):s.extract 0 i++s.extract i s.size=s:=by
  apply ByteArray.ext
  simp only [ByteArray.data_append,ByteArray.data_extract]
  apply Array.ext'
  have:i≤s.data.toList.length:=h
  simp [Array.toList_extract,List.extract]
  exact List.take_of_length_le (by show s.size≤max i s.size;omega)
theorem sb_ (s:ByteArray):noB++s=s:=by
  apply ByteArray.ext;apply Array.ext';simp [noB]
theorem wG_:∀(n:Nat) (s o:ByteArray) (rest:List az_) (out:List ByteArray),s.size≤20*n→0<n→o.size+s.size≤200→d1_ (zq_ n s++rest) o out=d1_ rest noB (out++[o++s])
  | 0,s,o,rest,out,h,h0,hs=>by omega
  | n+1,s,o,rest,out,h,h0,hs=>by
    simp only [zq_]
    split
    ·rename_i h1
     simp only [List.cons_append,d1_]
     rw [if_neg (by rw [ByteArray.size_extract];omega)]
     simp only [Bool.false_eq_true,if_false]
     rw [wG_ n (s.extract 20 s.size) (o++s.extract 0 20) rest out (by rw [ByteArray.size_extract];omega) (by omega) (by rw [aD_,ByteArray.size_extract,ByteArray.size_extract];omega),pB_,AW_ s 20 (by omega)]
    ·simp only [List.cons_append,List.nil_append,d1_]
     rw [if_neg (by omega)]
     simp
def yy_ (s:ByteArray):List ByteArray:=if s.size≤200 then [s] else []
theorem zm_ (s:ByteArray) (rest:List az_) (out:List ByteArray):d1_ (nF_ s++rest) noB out=d1_ rest noB (out++yy_ s):=by
  unfold nF_ yy_
  split
  ·rw [if_neg (by omega)];simp
  ·rw [if_pos (by omega),wG_ 10 s noB rest out (by omega) (by omega) (by rw [dX_];omega),sb_]
end Km.X
namespace Km.X
open Go Km
set_option linter.unusedVariables false
set_option linter.unusedSimpArgs false
theorem s8_ {R:Type} (x:Option R):Km.both x x=x:=by unfold Km.both;rw [if_pos rfl]
theorem l5_ {α:Type} {xs:List α} {i:Int} (h:0≤i) (h':i<xs.length):∃y∈xs,idx xs i=some y∧xs[i.toNat]? =some y:=by
  have hlt:i.toNat<xs.length:=by omega
  have:=tU_ hlt
  rw [Int.toNat_of_nonneg h] at this
  exact ⟨_,List.getElem_mem hlt,this,List.getElem?_eq_getElem hlt⟩
def DSd (n:Int) (v:ak_×as_):Prop:=VSend v.1∧Rd n v.2
theorem d18 (n:Int) (r:as_) (c b:Int) (e xs:List ag_) (h:VSend ⟨b,xs⟩) (hr:Rd n r):Wp (fun k=>el_ k r.b r.p c b e xs) (DSd n):=by
  refine Wp.step ?_
  simp only [el_]
  refine Wp.bind (h9_ ⟨b,xs⟩ (by have:=h.1;simp only at this⊢;omega)) (fun r2 q=> ?_);rw [q]
  exact Wp.ret ⟨h,hr⟩
theorem d16 (n:Int) (r:as_) (c b m:Int) (e:List ag_) (hm:m≤60) (hr:Rd n r):∀(d:Nat) (xs:List ag_),VSend ⟨b,xs⟩→d=(m-xs.length).toNat→Wp (fun k=>d5_ k m r.b r.p c b e xs) (DSd n)
  | 0,xs,h,hd=>by
    refine Wp.step ?_
    simp only [d5_]
    simp (disch:=omega) only [al_,if_neg]
    exact d18 n r c b e xs h hr
  | d+1,xs,h,hd=>by
    refine Wp.step ?_
    simp only [d5_]
    obtain ⟨h1,h2,h3,h4⟩:=h
    simp only at h1 h2 h3
    simp (disch:=omega) only [al_,if_pos,a0_]
    refine Wp.ite (fun hb=> ?_) (fun hb=>d18 n r c b e xs ⟨h1,h2,h3,h4⟩ hr)
    refine Wp.opt (aX_ (by simp;omega)) ?_
    refine d16 n r c b m e hm hr d _ ⟨by simp;omega,h2,by simp;omega,kX_ h4 ⟨⟨?_,by simp,fun _=>rfl,fun h=>by simp at h⟩,trivial⟩⟩ (by simp;omega)
    show 1≤20
    omega
theorem d3:∀(d:Nat) (n:Int) (r:as_) (c b:Int) (e xs:List ag_),VSend ⟨b,xs⟩→Rd n r→0≤n→n+60*d≤500000→Wp (fun k=>f3_ k (d:Int) r.b r.p c b e xs) (DSd (n+60*d+10))
  | 0,n,r,c,b,e,xs,h,hr,hn0,hn=>by
    refine Wp.step ?_
    simp only [f3_]
    simp (disch:=omega) only [al_,if_neg,fl_]
    refine Wp.bind (cE_ r n 12 hr (by omega) (by omega)) ?_
    rintro ⟨q,r1⟩ ⟨hq,hr1⟩
    simp only
    refine Wp.ite (fun _=> ?_) (fun _=>d18 _ r1 c b e xs h (hr1.mono (by omega)))
    refine Wp.bind (cE_ r1 _ 3 hr1 (by omega) (by omega)) ?_
    rintro ⟨q2,r2⟩ ⟨hq2,hr2⟩
    simp only at hq2⊢
    rw [a0_ (by omega) (by omega)]
    exact d16 _ r2 c b _ e (by omega) (hr2.mono (by omega)) _ xs h rfl
  | d+1,n,r,c,b,e,xs,h,hr,hn0,hn=>by
    refine Wp.step ?_
    simp only [f3_,s8_]
    have hpos:((d+1:Nat):Int)>0:=by omega
    simp only [al_,if_pos hpos]
    have N4:∀(n':Int) (r':as_) (b':Int) (xs':List ag_),VSend ⟨b',xs'⟩→Rd n' r'→n'≤n+60→Wp (fun k=>f4_ k ((d+1:Nat):Int) r'.b r'.p c b' e xs') (DSd (n+60*(d+1:Nat)+10)):=fun n' r' b' xs' hv hr' hn'=>by
      refine Wp.step ?_
      simp only [f4_]
      rw [a0_ (by omega) (by omega),show ((d+1:Nat):Int)-1=(d:Int) by omega]
      exact (d3 d (n+60) r' c b' e xs' hv (hr'.mono hn') (by omega) (by omega)).mono fun v hv=>⟨hv.1,hv.2.mono (by omega)⟩
    have N9:∀(j:Nat) (n':Int) (r':as_) (b':Int) (xs':List ag_),j≤10→VSend ⟨b',xs'⟩→Rd n' r'→n'≤n+50→Wp (fun k=>eK_ k ((d+1:Nat):Int) (j:Int) r'.b r'.p c b' e xs') (DSd (n+60*(d+1:Nat)+10)):=by
      intro j
      induction j with
      | zero=>
        intro n' r' b' xs' hj hv hr' hn'
        refine Wp.step ?_
        simp only [eK_]
        simp (disch:=omega) only [al_,if_neg,fl_]
        refine Wp.bind (cE_ r' n' 3 hr' (by omega) (by omega)) ?_
        rintro ⟨q,r1⟩ ⟨hq,hr1⟩
        simp only
        refine Wp.ite (fun _=> ?_) (fun _=>N4 _ r1 b' xs' hv hr1 (by omega))
        refine Wp.bind (cE_ r1 _ 4 hr1 (by omega) (by omega)) ?_
        rintro ⟨q2,r2⟩ ⟨hq2,hr2⟩
        refine Wp.bind (cE_ r2 _ 256 hr2 (by omega) (by omega)) ?_
        rintro ⟨q3,r3⟩ ⟨hq3,hr3⟩
        refine Wp.bind (pl_ _ _ _) (fun _ q=> ?_);subst q
        exact N4 _ r3 _ _ (wK_ _ _ _) hr3 (by omega)
      | succ j ih=>
        intro n' r' b' xs' hj hv hr' hn'
        refine Wp.step ?_
        simp only [eK_]
        have hpos:((j+1:Nat):Int)>0:=by omega
        simp only [al_,if_pos hpos]
        refine Wp.bind (oS_ _) (fun _ q=> ?_);subst q
        rw [a0_ (by omega) (by omega),show ((j+1:Nat):Int)-1=(j:Int) by omega]
        exact ih n' r' _ _ (by omega) (od_ _).1 hr' hn'
    have N8:∀(n':Int) (r':as_) (b':Int) (xs':List ag_),VSend ⟨b',xs'⟩→Rd n' r'→n'≤n+45→Wp (fun k=>cq_ k ((d+1:Nat):Int) r'.b r'.p c b' e xs') (DSd (n+60*(d+1:Nat)+10)):=fun n' r' b' xs' hv hr' hn'=>by
      refine Wp.step ?_
      simp only [cq_]
      refine Wp.bind (cE_ r' n' 6 hr' (by omega) (by omega)) ?_
      rintro ⟨q,r1⟩ ⟨hq,hr1⟩
      simp only at hq⊢
      have:=N9 q.toNat _ r1 b' xs' (by omega) hv hr1 (by omega)
      rwa [Int.toNat_of_nonneg hq.1] at this
    refine Wp.bind (rc_ r n hr (by omega)) ?_
    rintro ⟨u,r1⟩ ⟨hu,hr1⟩
    refine Wp.bind (oX_ _ _) (fun _ q=> ?_);subst q
    simp only [fl_]
    exact Wp.ite (fun _=>N8 _ r1 _ _ (wd_ _ _) hr1 (by omega)) (fun _=>N8 _ r1 _ _ h hr1 (by omega))
def sT_ (n:Int) (v:ak_×as_):Prop:=Rd n v.2
theorem p21 (n:Int) (r:as_) (c b:Int) (e xs:List ag_) (hr:Rd n r):Wp (fun k=>bv_ k r.b r.p c b e xs) (sT_ n):=by
  refine Wp.step ?_
  simp only [bv_]
  exact Wp.ret hr
theorem p19 (n:Int) (r:as_) (c b m:Int) (e:List ag_) (hm:m≤100) (hr:Rd n r):∀(d:Nat) (xs:List ag_),xs.length≤200→d=(m-xs.length).toNat→Wp (fun k=>dJ_ k m r.b r.p c b e xs) (sT_ n)
  | 0,xs,h,hd=>by
    refine Wp.step ?_
    simp only [dJ_]
    simp (disch:=omega) only [al_,if_neg]
    exact p21 n r c b e xs hr
  | d+1,xs,h,hd=>by
    refine Wp.step ?_
    simp only [dJ_]
    simp (disch:=omega) only [al_,if_pos]
    refine Wp.opt (aX_ (by simp;omega)) ?_
    exact p19 n r c b m e hm hr d _ (by simp;omega) (by simp;omega)
theorem p6 (n:Int) (r:as_) (c b:Int) (e:List ag_) (hr:Rd n r) (hn:n≤900000):∀(d:Nat) (xs:List ag_),xs.length≤200→d=9-xs.length→Wp (fun k=>ec_ k r.b r.p c b e xs) (sT_ (n+1))
  | 0,xs,h,hd=>by
    refine Wp.step ?_
    simp only [ec_]
    simp (disch:=omega) only [al_,if_neg]
    refine Wp.bind (cE_ r n 2 hr (by omega) (by omega)) ?_
    rintro ⟨q,r1⟩ ⟨hq,hr1⟩
    obtain ⟨y,_,e1,e2⟩:=l5_ (xs:=xs) (i:=8) (by omega) (by omega)
    simp only [e1,e2,Option.bind_some]
    exact p21 _ r1 c b e _ hr1
  | d+1,xs,h,hd=>by
    refine Wp.step ?_
    simp only [ec_]
    simp (disch:=omega) only [al_,if_pos]
    refine Wp.opt (aX_ (by simp;omega)) ?_
    exact p6 n r c b e hr hn d _ (by simp;omega) (by simp;omega)
theorem p4 (n:Int) (r:as_) (c b:Int) (e xs:List ag_) (hr:Rd n r) (hn:n≤890000) (hx:0<xs.length∧xs.length≤100):Wp (fun k=>jx_ k r.b r.p c b e xs) (sT_ (n+10)):=by
  have L:∀(n':Int) (r':as_) (b':Int) (xs':List ag_),Rd n' r'→n'≤n+10→Wp (fun k=>bv_ k r'.b r'.p c b' e xs') (sT_ (n+10)):=fun n' r' b' xs' h h'=>p21 _ r' c b' e xs' (h.mono h')
  refine Wp.step ?_
  simp only [jx_,s8_]
  refine Wp.bind (cE_ r n (xs.length:Int) hr (by omega) (by omega)) ?_
  rintro ⟨q,r1⟩ ⟨hq,hr1⟩
  refine Wp.bind (cE_ r1 _ 6 hr1 (by omega) (by omega)) ?_
  rintro ⟨q2,r2⟩ ⟨hq2,hr2⟩
  simp only at hq hq2
  obtain ⟨y,_,e1,e2⟩:=l5_ (xs:=xs) hq.1 hq.2
  simp only [e1,e2,Option.bind_some,fl_]
  refine Wp.ite (fun _=> ?_) (fun _=> ?_)
  ·refine Wp.bind (cE_ r2 _ 3 hr2 (by omega) (by omega)) ?_
   rintro ⟨q3,r3⟩ ⟨hq3,hr3⟩
   simp only at hq3
   obtain ⟨z,_,f1,f2⟩:=l5_ (xs:=([(-1),1000000,1000001]:List Int)) hq3.1 (by simp;omega)
   simp only [f1,f2,Option.bind_some]
   exact L _ r3 _ _ hr3 (by omega)
  refine Wp.ite (fun _=> ?_) (fun _=> ?_)
  ·refine Wp.bind (cE_ r2 _ 5 hr2 (by omega) (by omega)) ?_
   rintro ⟨q3,r3⟩ ⟨hq3,hr3⟩
   simp only at hq3
   obtain ⟨z,_,f1,f2⟩:=l5_ (xs:=([(-2),(-1),0,3,4]:List Int)) hq3.1 (by simp;omega)
   simp only [f1,f2,Option.bind_some]
   exact L _ r3 _ _ hr3 (by omega)
  refine Wp.ite (fun _=>L _ r2 _ _ hr2 (by omega)) (fun _=> ?_)
  refine Wp.ite (fun _=> ?_) (fun _=> ?_)
  ·refine Wp.bind (cE_ r2 _ 2 hr2 (by omega) (by omega)) ?_
   rintro ⟨q3,r3⟩ ⟨hq3,hr3⟩
   simp only at hq3⊢
   rw [a0_ (by omega) (by omega)]
   refine Wp.bind (oq_ _ _ 100 (by omega) (by show 1*_≤100;omega) (by omega)) (fun u hu=> ?_)
   exact L _ r3 _ _ hr3 (by omega)
  refine Wp.ite (fun _=> ?_) (fun _=> ?_)
  ·refine Wp.bind (cE_ r2 _ 2 hr2 (by omega) (by omega)) ?_
   rintro ⟨q3,r3⟩ ⟨hq3,hr3⟩
   simp only at hq3⊢
   rw [a0_ (by omega) (by omega)]
   exact p19 _ r3 c b _ e (by omega) (hr3.mono (by omega)) _ xs (by omega) rfl
  ·exact (p6 _ r2 c b e hr2 (by omega) _ xs (by omega) rfl).mono fun v hv=>Rd.mono hv (by omega)
end Km.X
namespace Km.X
open Go Km
set_option linter.unusedVariables false
set_option linter.unusedSimpArgs false
def dl (b:ByteArray):List UInt8:=b.data.toList
theorem jj_ (a b:ByteArray):dl (a++b)=dl a++dl b:=by unfold dl;rw [ByteArray.data_append,Array.toList_append]
theorem Bz_ {a b:ByteArray} (h:dl a=dl b):a=b:=by
  apply ByteArray.ext;apply Array.ext';exact h
theorem zF_ (b:ByteArray):(dl b).length=b.size:=by unfold dl;rw [Array.length_toList];rfl
theorem Cy_ (bs:List Int):dl (jb_ bs)=bs.map fun n=>UInt8.ofNat n.toNat:=by
  induction bs with
  | nil=>rfl
  | cons b bs ih=>
    rw [←s5_,jj_,ih]
    rfl
theorem q0_ (b:ByteArray) (i j:Nat):dl (b.extract i j)=(dl b).extract i j:=by
  simp [dl]
def dg (w n:Nat):List UInt8:=(ef_ w n).map fun n=>UInt8.ofNat n.toNat
theorem uz_ (w n:Nat):(dg w n).length=w:=by simp [dg,dz_]
theorem D5_ (w:Nat) (x:Int):dl (N w x)=dg w x.toNat:=by rw [N,Cy_];rfl
theorem nV_ (m:Nat):(UInt8.ofNat ((m%256:Nat):Int).toNat).toNat=m%256:=by
  rw [Int.toNat_natCast,UInt8.toNat_ofNat'];omega
theorem v8_:∀(w n:Nat),n<256^w→CR_ (dg w n)=(n:Int)
  | 0,n,h=>by
    have:n=0:=by simpa using h
    subst this;rfl
  | w+1,n,h=>by
    have ih:=v8_ w (n/256) (by rw [Nat.pow_succ] at h;omega)
    unfold CR_ dg at*
    simp only [ef_,List.map_append,List.foldl_append,ih]
    simp only [List.map_cons,List.map_nil,List.foldl_cons,List.foldl_nil,nV_]
    omega
theorem dg1 (n:Nat):dg 1 n=[UInt8.ofNat ((n%256:Nat):Int).toNat]:=rfl
theorem vR_ {b:ByteArray} {l:List UInt8} (h:dl b=l) (i:Nat):at' b i=l.getD i 0:=by unfold at';rw [←h];rfl
theorem pm_ {b:ByteArray} {l:List UInt8} (h:dl b=l) (i j:Nat):yB_ b i j=CR_ (l.extract i j):=by
  unfold yB_;rw [←h,←q0_];rfl
theorem sq_ (a:Nat) (w n:Nat) (l r:List UInt8) (h:l.length=a):(l++(dg w n++r)).extract a (a+w)=dg w n:=by
  rw [List.extract_eq_take_drop,List.drop_left' h,show a+w-a=w by omega,List.take_left' (uz_ w n)]
theorem pv_ (a:Nat) (n:Nat) (l r:List UInt8) (h:l.length=a):(l++(dg 1 n++r)).getD a 0=UInt8.ofNat ((n%256:Nat):Int).toNat:=by
  rw [List.getD_eq_getElem?_getD,List.getElem?_append_right (by omega),h,Nat.sub_self,dg1];rfl
theorem ph_ (b:ByteArray) (i:Nat):dl (b.extract i b.size)=(dl b).drop i:=by
  rw [q0_,List.extract_eq_take_drop,List.take_of_length_le]
  simp [zF_]
theorem zn_ (p:ae_) (h:iH_ p):iM_ (ed_ p)=p:=by
  obtain ⟨k,fr,mi,yo,ne,ma,se,la,pa⟩:=p
  obtain ⟨h1,h2,h3,h4⟩:=h
  dsimp only at h1 h2 h3 h4
  have hk:k=1∨k=2:=by rcases h4 with h | h<;>omega
  have hfr:((fr.toNat%256:Nat):Int)=fr:=by omega
  have hd:∀rest,dl (iN_ ⟨k,fr,mi,yo,ne,ma,se,la,pa⟩++rest)=dg 1 k.toNat++(dg 1 fr.toNat++(dg 2 mi.toNat++(dg 2 yo.toNat++dl rest))):=fun rest=>by
    simp only [iN_,jj_,D5_,List.append_assoc]
  have len:∀w n,(dg w n).length=w:=uz_
  have main:∀(b:ByteArray) (x y:Nat) (tail:List UInt8),dl b=dg 1 k.toNat++(dg 1 fr.toNat++(dg 2 mi.toNat++(dg 2 yo.toNat++(dg 4 x++(dg 1 y++tail)))))→
   ((at' b 0).toNat:Int)=k∧((at' b 1).toNat:Int)=fr∧yB_ b 2 4=mi∧yB_ b 4 6=yo∧(x<256^4→yB_ b 6 10=(x:Int))∧((at' b 10).toNat:Int)=((y%256:Nat):Int)∧(dl b).drop 11=tail:=fun b x y tail hb=>by
    refine ⟨?_, ?_, ?_, ?_,fun hx=> ?_, ?_, ?_⟩
    ·rw [vR_ hb]
     have:=pv_ 0 k.toNat [] (dg 1 fr.toNat++(dg 2 mi.toNat++(dg 2 yo.toNat++(dg 4 x++(dg 1 y++tail))))) rfl
     rw [List.nil_append] at this
     rw [this,nV_];omega
    ·rw [vR_ hb,pv_ 1 fr.toNat (dg 1 k.toNat) _ (len _ _),nV_];omega
    ·rw [pm_ hb]
     have e:dg 1 k.toNat++(dg 1 fr.toNat++(dg 2 mi.toNat++(dg 2 yo.toNat++(dg 4 x++(dg 1 y++tail)))))=(dg 1 k.toNat++dg 1 fr.toNat)++(dg 2 mi.toNat++(dg 2 yo.toNat++(dg 4 x++(dg 1 y++tail)))):=by simp
     rw [e,sq_ 2 2 mi.toNat _ _ (by simp [len]),v8_ 2 _ (by have:(256:Nat)^2=65536:=rfl;omega)];omega
    ·rw [pm_ hb]
     have e:dg 1 k.toNat++(dg 1 fr.toNat++(dg 2 mi.toNat++(dg 2 yo.toNat++(dg 4 x++(dg 1 y++tail)))))=(dg 1 k.toNat++dg 1 fr.toNat++dg 2 mi.toNat)++(dg 2 yo.toNat++(dg 4 x++(dg 1 y++tail))):=by simp
     rw [e,sq_ 4 2 yo.toNat _ _ (by simp [len]),v8_ 2 _ (by have:(256:Nat)^2=65536:=rfl;omega)];omega
    ·rw [pm_ hb]
     have e:dg 1 k.toNat++(dg 1 fr.toNat++(dg 2 mi.toNat++(dg 2 yo.toNat++(dg 4 x++(dg 1 y++tail)))))=(dg 1 k.toNat++dg 1 fr.toNat++dg 2 mi.toNat++dg 2 yo.toNat)++(dg 4 x++(dg 1 y++tail)):=by simp
     rw [e,sq_ 6 4 x _ _ (by simp [len]),v8_ 4 _ hx]
    ·have e:dg 1 k.toNat++(dg 1 fr.toNat++(dg 2 mi.toNat++(dg 2 yo.toNat++(dg 4 x++(dg 1 y++tail)))))=(dg 1 k.toNat++dg 1 fr.toNat++dg 2 mi.toNat++dg 2 yo.toNat++dg 4 x)++(dg 1 y++tail):=by simp
     rw [vR_ hb,e,pv_ 10 y _ _ (by simp [len]),nV_]
    ·rw [hb]
     have e:dg 1 k.toNat++(dg 1 fr.toNat++(dg 2 mi.toNat++(dg 2 yo.toNat++(dg 4 x++(dg 1 y++tail)))))=(dg 1 k.toNat++dg 1 fr.toNat++dg 2 mi.toNat++dg 2 yo.toNat++dg 4 x++dg 1 y)++tail:=by simp
     rw [e,List.drop_left' (by simp [len])]
  have p4:(256:Nat)^4=4294967296:=rfl
  rcases h4 with ⟨k1,g1,g2,g3,g4,g5⟩ | ⟨k2,g1,g2,g3,g4⟩
  ·have hb:dl (ed_ ⟨k,fr,mi,yo,ne,ma,se,la,pa⟩)=dg 1 k.toNat++(dg 1 fr.toNat++(dg 2 mi.toNat++(dg 2 yo.toNat++(dg 4 ne.toNat++(dg 1 ma.toNat++[]))))):=by
     unfold ed_;rw [if_pos k1,lM_,hd,jj_,D5_,D5_,List.append_nil]
   obtain ⟨a1,a2,a3,a4,a5,a6,a7⟩:=main _ _ _ _ hb
   unfold iM_
   rw [if_pos (by rw [a1];exact k1),a1,a2,a3,a4,a5 (by omega),a6]
   subst g3;subst g4;subst g5
   congr 1<;>omega
  ·have hb:dl (ed_ ⟨k,fr,mi,yo,ne,ma,se,la,pa⟩)=dg 1 k.toNat++(dg 1 fr.toNat++(dg 2 mi.toNat++(dg 2 yo.toNat++(dg 4 se.toNat++(dg 1 (vS_ la).toNat++dl pa))))):=by
     unfold ed_;rw [if_neg (by show¬k=1;omega)]
     rw [show iN_ ⟨k,fr,mi,yo,ne,ma,se,la,pa⟩++N 4 se++N 1 (vS_ la)++pa=iN_ ⟨k,fr,mi,yo,ne,ma,se,la,pa⟩++(N 4 se++(N 1 (vS_ la)++pa)) by rw [lM_,lM_],hd]
     simp only [jj_,D5_]
   obtain ⟨a1,a2,a3,a4,a5,a6,a7⟩:=main _ _ _ _ hb
   unfold iM_
   rw [if_neg (by rw [a1];omega),a1,a2,a3,a4,a5 (by omega),a6]
   have epa:(ed_ ⟨k,fr,mi,yo,ne,ma,se,la,pa⟩).extract 11 (ed_ ⟨k,fr,mi,yo,ne,ma,se,la,pa⟩).size=pa:=Bz_ (by rw [ph_,a7])
   rw [epa]
   have ela:(((((vS_ la).toNat%256:Nat):Int))==1)=la:=by cases la<;>rfl
   rw [ela]
   subst g1;subst g2
   congr 1;omega
theorem z0_ (a b:ByteArray) (w:Int) (hw:1≤w∧w≤8) (hb:b.size≤30):(yj_ a b w).size=w.toNat:=by
  unfold yj_;rw [if_neg (by omega),h1_,dz_]
theorem AX_ (p:ae_) (h:iH_ p):11≤(ed_ p).size:=by
  have hs:=jM_ p
  unfold ed_
  split<;>simp [fb_,hs]<;>omega
theorem zE_ {p:ae_} {b:ByteArray} {w:Int} (h:iH_ p) (hw:1≤w∧w≤8) (hb:b.size≤30):dk_ p b w=yj_ (ed_ p) b w++ed_ p:=by
  unfold dk_;rw [if_pos ⟨h,hw,hb⟩]
theorem y7_ {p:ae_} {b:ByteArray} {w:Int} (h:iH_ p) (hw:1≤w∧w≤8) (hb:b.size≤30):(dk_ p b w).size=w.toNat+(ed_ p).size:=by
  rw [zE_ h hw hb,aD_,z0_ _ _ _ hw hb]
theorem yQ_ {p:ae_} {b:ByteArray} {w:Int} (h:iH_ p) (hw:1≤w∧w≤8) (hb:b.size≤30):(dk_ p b w).extract w.toNat (dk_ p b w).size=ed_ p:=by
  apply Bz_
  rw [ph_,zE_ h hw hb,jj_,List.drop_left']
  rw [zF_,z0_ _ _ _ hw hb]
theorem lG_ {p:ae_} {b:ByteArray} {w:Int} (h:iH_ p) (hw:1≤w∧w≤8) (hb:b.size≤30):h4_ (dk_ p b w) b w=(p,true):=by
  unfold h4_
  have:=AX_ p h
  rw [if_pos ⟨hw,by rw [y7_ h hw hb];omega⟩,yQ_ h hw hb,zn_ p h,if_pos rfl]
theorem xe_ {s b:ByteArray} {w:Int} (h:(h4_ s b w).2=true):dk_ (h4_ s b w).1 b w=s∧iH_ (h4_ s b w).1∧(1≤w∧w≤8)∧w+11≤s.size∧b.size≤30:=by
  unfold h4_ at h⊢
  split at h
  ·rename_i hc
   rw [if_pos hc]
   split at h
   ·rename_i hf
    rw [if_pos hf]
    refine ⟨hf, ?_⟩
    have:¬¬(iH_ (iM_ (s.extract w.toNat s.size))∧b.size≤30):=fun hn=>sw_ (s:=s) hn (by omega) hf
    have:=Classical.not_not.mp this
    exact ⟨this.1,hc.1,hc.2,this.2⟩
   ·cases h
  ·cases h
theorem wp_ {p q:ae_} {b:ByteArray} {w:Int} (hp:iH_ p) (hq:iH_ q) (hw:1≤w∧w≤8) (hb:b.size≤30) (h:dk_ p b w=dk_ q b w):p=q:=by
  have h1:=lG_ hp hw hb
  rw [h,lG_ hq hw hb] at h1
  exact (Prod.mk.inj h1).1.symm
end Km.X
namespace Km.X
open Go Km
set_option linter.unusedVariables false
set_option linter.unusedSimpArgs false
theorem Wp.pick {R:Type} {Q:R→Prop} {g:Nat→Int×as_→Option R} {r:as_} {n a:Int} (h:Rd n r) (hn:n≤1000000) (ha:1≤a∧a≤1000000) (H:∀q r',0≤q→q<a→Rd (n+1) r'→Wp (fun k=>g k (q,r')) Q):Wp (fun k=>(ah_ k r a).bind (g k)) Q:=
  Wp.bind (cE_ r n a h hn ha) (fun v hv=>H v.1 v.2 hv.1.1 hv.1.2 hv.2)
theorem Wp.from {R α:Type} {Q:R→Prop} {xs:List α} {i:Int} {g:Nat→α→Option R} (h0:0≤i) (h1:i<xs.length) (H:∀y∈xs,Wp (fun k=>g k y) Q):Wp (fun k=>(idx xs i).bind (g k)) Q:=by
  obtain ⟨y,hy,e,_⟩:=l5_ h0 h1
  exact Wp.opt e (H y hy)
theorem Wp.from2 {R α:Type} {Q:R→Prop} {xs:List α} {i:Int} {g:Nat→α→Option R} (h0:0≤i) (h1:i<xs.length) (H:∀y∈xs,Wp (fun k=>g k y) Q):Wp (fun k=>(idx xs i).bind fun _=>(xs[i.toNat]?).bind (g k)) Q:=by
  obtain ⟨y,hy,e,e'⟩:=l5_ h0 h1
  exact Wp.opt e (Wp.opt e' (H y hy))
theorem C7_ (r:as_) (n:Int) (h:Rd n r) (hn:n≤900000):Wp (fun k=>jR_ k r) (fun v=>v.1.size≤30∧Rd (n+1) v.2):=by
  unfold jR_
  refine Wp.bind (oq_ _ _ 30 (by omega) (by show 1*30≤30;omega) (by omega)) (fun m hm=> ?_)
  refine Wp.pick h (by omega) (by omega) (fun q r' q0 q1 h'=> ?_)
  dsimp only
  refine Wp.from2 q0 (by simp;omega) (fun y hy=> ?_)
  refine Wp.ret ⟨?_,h'⟩
  simp only [List.mem_cons,List.not_mem_nil,or_false] at hy
  rcases hy with rfl | rfl | rfl | rfl
  ·exact (by decide:(3:Nat)≤30)
  ·exact (by decide:(1:Nat)≤30)
  ·exact (by decide:(0:Nat)≤30)
  ·exact hm
theorem AN_ (r:as_) (n:Int) (h:Rd n r) (hn:n≤900000):Wp (fun k=>hE_ k r) (fun v=>(1≤v.1∧v.1≤8)∧Rd (n+1) v.2):=by
  unfold hE_
  refine Wp.pick h (by omega) (by omega) (fun q r' q0 q1 h'=> ?_)
  dsimp only
  refine Wp.from q0 (by simp;omega) (fun y hy=> ?_)
  refine Wp.ret ⟨?_,h'⟩
  simp only [List.mem_cons,List.not_mem_nil,or_false] at hy
  omega
end Km.X
namespace Km.X
open Go Km
set_option linter.unusedVariables false
set_option linter.unusedSimpArgs false
def Aw_ (b:ByteArray) (wd:Int):ab_:=if (1≤wd∧wd≤8)∧b.size≤30 then ⟨b,wd,[zQ_ 1,zQ_ 2],[],noB,[],[]⟩ else vc_
theorem uJ_ (b:ByteArray) (wd:Int):Wp (fun k=>gE_ k b wd) (· =Aw_ b wd):=by
  unfold gE_ Aw_
  refine Wp.bind (bQ_ _ _ _) (fun _ e=> ?_);subst e
  refine Wp.not (fun h=> ?_) (fun h=> ?_)
  ·simp only [Bool.and_eq_false_iff,decide_eq_false_iff_not] at h
   exact Wp.ret (by rw [if_neg (fun g=>by omega)];rfl)
  simp only [Bool.and_eq_true,decide_eq_true_eq] at h
  refine Wp.dec (fun h1=>Wp.ret (by rw [if_neg (fun g=>by omega)];rfl)) (fun h1=> ?_)
  refine Wp.bind (rr_ 1) (fun _ e=> ?_);subst e
  refine Wp.bind (rr_ 2) (fun _ e=> ?_);subst e
  exact Wp.ret (by rw [if_pos ⟨h,by omega⟩])
theorem newE_V:VEnd (zQ_ 1)∧VEnd (zQ_ 2):=by decide
theorem Dx_ {b:ByteArray} {wd:Int} (hb:b.size≤30) (hw:1≤wd∧wd≤8):au_ (Aw_ b wd):=by
  unfold Aw_
  rw [if_pos ⟨hw,hb⟩]
  exact ⟨hw,hb,by simp,by simp,n5_ newE_V.1 rfl newE_V.2 rfl,(fun p hp=>by cases hp),(fun p hp=>by cases hp),(fun p hp=>by cases hp)⟩
inductive Reach:Nat→Nat→ab_→Prop
  | new {b:ByteArray} {wd:Int}:b.size≤30→(1≤wd∧wd≤8)→Reach 0 0 (Aw_ b wd)
  | step {n m:Nat} {w:ab_} (v:aT_):Reach n m w→Reach (n+if v.Kind=8 then 1 else 0) (m+1) (doW w v)
  | more {n m n' m':Nat} {w:ab_}:n≤n'→m≤m'→Reach n m w→Reach n' m' w
theorem Reach.V {n m:Nat} {w:ab_} (h:Reach n m w):au_ w:=by
  induction h with
  | new h1 h2=>exact Dx_ h1 h2
  | step v _ ih=>exact vL_ ih v
  | more _ _ _ ih=>exact ih
theorem Reach.go {n m:Nat} {w:ab_} (h:Reach n m w) {v:aT_} (hv:v.Kind≠8):Reach n (m+1) (doW w v):=by
  have:=Reach.step v h
  rw [if_neg hv] at this
  exact this
theorem wC_ (w:ab_) (x y z:Int) (t:ByteArray):doW w ⟨1,x,y,z,t⟩=aI_ w:=by unfold doW;rw [if_pos rfl]
theorem Au_ (w:ab_) {n:Int} (hn:1≤n∧n≤2) (y z:Int) (t:ByteArray):doW w ⟨11,n,y,z,t⟩=dU_ w n:=by
  rw [my_ (by dsimp only;omega) hn,q2_]
theorem xK_ (w:ab_) (p:ad_) (t:List ad_):doW (be_ w (p::t)) ⟨2,0,0,0,noB⟩=be_ (aV_ w p) t:=by
  rw [ms_ (p:=p) (by dsimp only;omega) (by dsimp only;omega) rfl,←ii_]
  rfl
theorem z4_ (w:ab_) (p:ad_) (t:List ad_):doW (be_ w (p::t)) ⟨4,0,0,0,noB⟩=be_ w t:=by
  rw [ms_ (p:=p) (by dsimp only;omega) (by dsimp only;omega) rfl]
  rfl
theorem tF_ (w:ab_) (h:w.Flight=[]):be_ w []=w:=by rw [←h];rfl
theorem rg_ {n:Nat} (ev:Int):∀(t:List ad_) (h:List DKey) (w:ab_) (m:Nat),Reach n m (be_ w t)→Reach n (m+t.length) (be_ (a8_ ev t h w).1 [])
  | [],h,w,m,hr=>hr
  | p::t,h,w,m,hr=>by
    simp only [a8_]
    rw [show m+(p::t).length=(m+1)+t.length by simp;omega]
    apply rg_ ev t
    split
    ·rw [←xK_];exact hr.go (by simp)
    ·rw [←z4_ w p t];exact hr.go (by simp)
theorem kC_ {n:Nat} {m:Int} (hm:1≤m∧m≤2):∀(d:Nat) (w:ab_) (s:Nat),Reach n s w→Reach n (s+d) (aS_ m d w)
  | 0,w,s,h=>h
  | d+1,w,s,h=>by
    simp only [aS_]
    split
    ·exact .more (Nat.le_refl _) (by omega) h
    ·rw [show s+(d+1)=(s+1)+d by omega]
     apply kC_ hm d
     rw [←Au_ w hm 0 0 noB];exact h.go (by simp)
theorem uU_ {n m:Nat} {ev:Int} {s:ab_×List DKey} (h:Reach n m s.1):Reach n (m+1009) (aB_ ev s).1:=by
  have hl:=(ik_ h.V).2.2.1
  have h1:Reach n (m+1) (aI_ s.1):=by rw [←wC_ s.1 0 0 0 noB];exact h.go (by simp)
  have h2:=rg_ ev (aI_ s.1).Flight s.2 (be_ (aI_ s.1) []) _ h1
  have h3:be_ (a8_ ev (aI_ s.1).Flight s.2 (be_ (aI_ s.1) [])).1 []=(a8_ ev (aI_ s.1).Flight s.2 (be_ (aI_ s.1) [])).1:=by
    have:=lW_ ev (aI_ s.1).Flight s.2 (be_ (aI_ s.1) [])
    rw [show ([]:List ad_)=(a8_ ev (aI_ s.1).Flight s.2 (be_ (aI_ s.1) [])).1.Flight from this.symm]
    rw [this]
    exact tF_ _ this
  rw [h3] at h2
  exact .more (Nat.le_refl _) (by omega) (kC_ (by omega) 4 _ _ (kC_ (by omega) 4 _ _ h2))
theorem mQ_ {n:Nat} {ev:Int}:∀(d:Nat) (s:ab_×List DKey) (m:Nat),Reach n m s.1→Reach n (m+1009*d) (aE_ ev d s).1
  | 0,s,m,h=>h
  | d+1,s,m,h=> .more (Nat.le_refl _) (by omega) (mQ_ d _ _ (uU_ h))
theorem xL_ {n s:Nat} {w:ab_} (h:Reach n s w) (m ev:Int) (he:1≤ev∧ev≤10):Reach n (s+1009*m.toNat) (jl_ w m ev):=by
  unfold jl_
  rw [if_pos ⟨h.V,he⟩]
  exact .more (Nat.le_refl _) (by have:(min m 5000).toNat≤m.toNat:=by omega
                                  have:=Nat.mul_le_mul_left 1009 this
                                  omega) (mQ_ _ _ _ h)
theorem e2_ {w:ab_} (h:au_ w):w.Given.length≤1048576∧w.Taken.length≤1048576:=by
  have:=h.2.2.2.1;omega
def EvP (n:Int) (v:aT_×as_):Prop:=(v.1.Text.size≤190∧(1≤v.1.Kind∧v.1.Kind≤11))∧Rd n v.2
theorem Ff_ (a m:Int) (r:as_) (h:Rd m r):Wp (fun k=>dB_ k a r.b r.p 0 0 0 0 noB) (EvP m):=by
  refine Wp.step ?_
  simp only [dB_]
  exact Wp.ret ⟨⟨Nat.zero_le _,by dsimp only;omega⟩,h⟩
theorem Fe_ (a m:Int) (r:as_) (h:Rd m r):Wp (fun k=>dL_ k a r.b r.p 0 0 0 0 noB) (EvP m):=by
  refine Wp.step ?_
  simp only [dL_]
  exact Wp.ret ⟨⟨Nat.zero_le _,by dsimp only;omega⟩,h⟩
theorem Fr_ (a e kk n m:Int) (r:as_) (h:Rd n r) (hn:n≤900000) (hm:n+2≤m):Wp (fun k=>eW_ k a e kk r.b r.p 0 0 0 0 noB) (EvP m):=by
  refine Wp.step ?_
  simp only [eW_,fl_]
  refine Wp.ite (fun _=> ?_) (fun _=> ?_)
  ·refine Wp.pick h (by omega) (by omega) (fun q r' q0 q1 h'=> ?_)
   refine Wp.pick h' (by omega) (by omega) (fun q r' q0 q1 h'=> ?_)
   exact Wp.ret ⟨⟨Nat.zero_le _,by dsimp only;omega⟩,h'.mono (by omega)⟩
  refine Wp.ite (fun _=> ?_) (fun _=> ?_)
  ·refine Wp.pick h (by omega) (by omega) (fun q r' q0 q1 h'=> ?_)
   exact Wp.ret ⟨⟨Nat.zero_le _,by dsimp only;omega⟩,h'.mono (by omega)⟩
  refine Wp.ite (fun _=> ?_) (fun _=> ?_)
  ·exact Wp.ret ⟨⟨Nat.zero_le _,by dsimp only;omega⟩,h.mono (by omega)⟩
  refine Wp.ite (fun _=> ?_) (fun _=> ?_)
  ·exact Wp.ret ⟨⟨Nat.zero_le _,by dsimp only;omega⟩,h.mono (by omega)⟩
  ·exact Wp.ret ⟨⟨Nat.zero_le _,by dsimp only;omega⟩,h.mono (by omega)⟩
theorem ev5 (a kk n m:Int) (r:as_) (h:Rd n r) (hn:0≤n∧n≤700000) (hm:n+45≤m):Wp (fun k=>ee_ k kk a r.b r.p 0 0 0 0 noB) (EvP m):=by
  refine Wp.step ?_
  simp only [ee_]
  refine Wp.pick h (by omega) (by omega) (fun q r1 q0 q1 h1=> ?_)
  simp only [al_,fl_]
  refine Wp.ite (fun _=> ?_) (fun _=> ?_)
  ·exact Wp.ret ⟨⟨Nat.zero_le _,by dsimp only;omega⟩,h1.mono (by omega)⟩
  refine Wp.ite (fun _=> ?_) (fun _=> ?_)
  ·exact Wp.ret ⟨⟨Nat.zero_le _,by dsimp only;omega⟩,h1.mono (by omega)⟩
  refine Wp.ite (fun _=> ?_) (fun _=> ?_)
  ·refine Wp.bind (rc_ r1 _ h1 (by omega)) (fun v hv=> ?_)
   exact Wp.ret ⟨⟨hv.1,by dsimp only;omega⟩,hv.2.mono (by omega)⟩
  refine Wp.ite (fun _=> ?_) (fun _=> ?_)
  ·exact Wp.ret ⟨⟨Nat.zero_le _,by dsimp only;omega⟩,h1.mono (by omega)⟩
  refine Wp.ite (fun _=>Ff_ _ _ r1 (h1.mono (by omega))) (fun _=> ?_)
  refine Wp.ite (fun _=>Ff_ _ _ r1 (h1.mono (by omega))) (fun _=> ?_)
  refine Wp.step ?_
  simp only [gl_,fl_]
  refine Wp.ite (fun _=>Fe_ _ _ r1 (h1.mono (by omega))) (fun _=> ?_)
  refine Wp.ite (fun _=>Fe_ _ _ r1 (h1.mono (by omega))) (fun _=> ?_)
  exact Fr_ _ _ _ _ _ r1 h1 (by omega) (by omega)
theorem xH_ (r:as_) (n:Int) (h:Rd n r) (hn:0≤n∧n≤600000):Wp (fun k=>hg_ k r) (EvP (n+50)):=by
  unfold hg_
  refine Wp.pick h (by omega) (by omega) (fun q1 r1 q10 q11 h1=> ?_)
  refine Wp.pick h1 (by omega) (by omega) (fun q2 r2 q20 q21 h2=> ?_)
  refine Wp.pick h2 (by omega) (by omega) (fun q3 r3 q30 q31 h3=> ?_)
  simp only [fl_]
  refine Wp.ite (fun _=> ?_) (fun _=> ?_)
  ·refine Wp.pick h3 (by omega) (by omega) (fun q4 r4 q40 q41 h4=> ?_)
   exact ev5 _ _ _ _ r4 h4 (by omega) (by omega)
  ·exact ev5 _ _ _ _ r3 h3 (by omega) (by omega)
def CL_ (f s:Nat) (n:Int) (v:ab_×as_):Prop:=Reach f s v.1∧Rd n v.2
theorem yN_ {f g s u:Nat} {n m:Int} {v:ab_×as_} (h:CL_ f s n v) (hf:f≤g) (hs:s≤u) (hn:n≤m):CL_ g u m v:=⟨.more hf hs h.1,h.2.mono hn⟩
section
variable (a b:ByteArray) (z:Int) (E2:List am_) (F2:List ad_) (G2 T2:List aa_)
theorem Er_ (x0 x1:Int) (f s:Nat) (n:Int) (r:as_) (w:ab_) (hw:Reach f s w) (hr:Rd n r) (hn:n≤900000) (Q:ab_×as_→Prop)
    (go:∀w' r',Reach f (s+2) w'→Rd (n+1) r'→Wp (fun k=>bf_ k x0 (IntKind.wrap .i64 (x1+1)) r'.b r'.p a z b w'.Key w'.Width w'.Forged E2 F2 G2 T2 w'.Ends w'.Flight w'.Given w'.Taken) Q):
    Wp (fun k=>b9_ k x0 x1 r.b r.p a z b w.Key w.Width w.Forged E2 F2 G2 T2 w.Ends w.Flight w.Given w.Taken) Q:=by
  have l7:∀w' r',Reach f (s+2) w'→Rd (n+1) r'→Wp (fun k=>df_ k x0 x1 r'.b r'.p a z b w'.Key w'.Width w'.Forged E2 F2 G2 T2 w'.Ends w'.Flight w'.Given w'.Taken) Q:=fun w' r' h1 h2=>by
    refine Wp.step ?_
    simp only [df_]
    exact go w' r' h1 h2
  refine Wp.step ?_
  simp only [b9_]
  refine Wp.pick hr (by omega) (by omega) (fun q r1 q0 q1 h1=> ?_)
  simp only [fl_]
  refine Wp.ite (fun _=> ?_) (fun _=>l7 w r1 (.more (Nat.le_refl _) (by omega) hw) h1)
  refine Wp.bind (l4_ w hw.V _) (fun _ e=> ?_);subst e
  have h2:Reach f (s+1) (doW w ⟨9,1,0,0,noB⟩):=hw.go (by simp)
  refine Wp.bind (l4_ _ h2.V _) (fun _ e=> ?_);subst e
  exact l7 _ r1 (h2.go (by simp)) h1
theorem E6_ (x0 x1:Int) (f s:Nat) (n:Int) (r:as_) (hr:Rd n r) (hn:n≤900000) (Q:ab_×as_→Prop)
    (go:∀w' r',Reach f (s+7) w'→Rd (n+1) r'→Wp (fun k=>bf_ k x0 (IntKind.wrap .i64 (x1+1)) r'.b r'.p a z b w'.Key w'.Width w'.Forged E2 F2 G2 T2 w'.Ends w'.Flight w'.Given w'.Taken) Q):
    ∀(d:Nat) (w:ab_) (u:Nat),u+d≤s+5→d≤100→Reach f u w→Wp (fun k=>cc_ k x0 x1 (d:Int) r.b r.p a z b w.Key w.Width w.Forged E2 F2 G2 T2 w.Ends w.Flight w.Given w.Taken) Q
  | 0,w,u,hu,hd,hw=>by
    refine Wp.step ?_
    simp only [cc_]
    exact Wp.dec (fun g=>by omega) (fun _=>Er_ a b z E2 F2 G2 T2 x0 x1 f u n r w hw hr hn Q (fun w' r' h1 h2=>go w' r' (.more (Nat.le_refl _) (by omega) h1) h2))
  | d+1,w,u,hu,hd,hw=>by
    refine Wp.step ?_
    simp only [cc_]
    refine Wp.dec (fun _=> ?_) (fun g=>by omega)
    refine Wp.dec (fun g=> ?_) (fun _=>Er_ a b z E2 F2 G2 T2 x0 x1 f u n r w hw hr hn Q (fun w' r' h1 h2=>go w' r' (.more (Nat.le_refl _) (by omega) h1) h2))
    obtain ⟨p,hp⟩:∃p,w.Flight[0]? =some p:=⟨w.Flight[0]'(by omega),List.getElem?_eq_getElem (by omega)⟩
    refine Wp.bind (iv_ w hw.V 0 hp) (fun x hx=> ?_)
    have hx':Reach f (u+1) x:=by
      rw [hx]
      have:=hw.go (v:=⟨2,0,0,0,noB⟩) (by simp)
      rw [ms_ (p:=p) (by dsimp only;omega) (by dsimp only;omega) hp] at this
      exact this
    rw [a0_ (n:=((d+1:Nat):Int)-1) (by omega) (by omega),show ((d+1:Nat):Int)-1=(d:Int) by omega]
    exact E6_ x0 x1 f s n r hr hn Q go d x (u+1) (by omega) (by omega) hx'
theorem rc6 (x0:Int) (hx0:x0≤49):∀(d:Nat) (x1:Int) (f s:Nat) (n:Int) (r:as_) (w:ab_),d=(x0-x1).toNat→0≤x1→Reach f s w→Rd n r→0≤n→n+60*d≤500000→
    Wp (fun k=>bf_ k x0 x1 r.b r.p a z b w.Key w.Width w.Forged E2 F2 G2 T2 w.Ends w.Flight w.Given w.Taken) (CL_ (f+d) (s+9*d) (n+60*d))
  | 0,x1,f,s,n,r,w,hd,h0,hw,hr,hn0,hn=>by
    refine Wp.step ?_
    simp only [bf_]
    refine Wp.dec (fun g=>by omega) (fun _=> ?_)
    refine Wp.bind (jd_ w hw.V) (fun x hx=> ?_);rw [hx]
    exact Wp.ret ⟨hw,hr.mono (by omega)⟩
  | d+1,x1,f,s,n,r,w,hd,h0,hw,hr,hn0,hn=>by
    refine Wp.step ?_
    simp only [bf_]
    refine Wp.dec (fun _=> ?_) (fun g=>by omega)
    refine Wp.bind (xH_ r n hr (by omega)) ?_
    rintro ⟨v,r1⟩ ⟨hv,h1⟩
    dsimp only at hv h1⊢
    refine Wp.bind (l4_ w hw.V v) (fun _ e=> ?_);subst e
    have hw1:Reach (f+1) (s+1) (doW w v):= .more (by split<;>omega) (Nat.le_refl _) (Reach.step v hw)
    have nx:∀(m:Int),m≤n+59→∀w' r',Reach (f+1) (s+9) w'→Rd (m+1) r'→Wp (fun k=>bf_ k x0 (IntKind.wrap .i64 (x1+1)) r'.b r'.p a z b w'.Key w'.Width w'.Forged E2 F2 G2 T2 w'.Ends w'.Flight w'.Given w'.Taken) (CL_ (f+(d+1)) (s+9*(d+1)) (n+60*((d+1:Nat):Int))):=fun m hm w' r' h2 h3=>by
      rw [a0_ (n:=x1+1) (by omega) (by omega)]
      refine (rc6 x0 hx0 d (x1+1) (f+1) (s+9) (n+60) r' w' (by omega) (by omega) h2 (h3.mono (by omega)) (by omega) (by omega)).mono fun v hv=>yN_ hv (by omega) (by omega) (by omega)
    refine Wp.pick h1 (by omega) (by omega) (fun q r2 q0 q1 h2=> ?_)
    simp only [fl_]
    refine Wp.ite (fun _=> ?_) (fun _=>Er_ a b z E2 F2 G2 T2 x0 x1 (f+1) (s+1) _ r2 _ hw1 h2 (by omega) _ (fun w' r' h1 h2=>nx _ (by omega) w' r' (.more (Nat.le_refl _) (by omega) h1) h2))
    refine Wp.bind (iU_ _ hw1.V) (fun _ e=> ?_);subst e
    have hw2:Reach (f+1) (s+2) (aI_ (doW w v)):=by rw [←wC_ _ 0 0 0 noB];exact hw1.go (by simp)
    refine Wp.pick h2 (by omega) (by omega) (fun q r3 q0 q1 h3=> ?_)
    dsimp only
    have:=E6_ a b z E2 F2 G2 T2 x0 x1 (f+1) (s+2) _ r3 h3 (by omega) _ (fun w' r' h1 h2=>nx _ (by omega) w' r' (.more (Nat.le_refl _) (by omega) h1) h2) q.toNat (aI_ (doW w v)) (s+2) (by omega) (by omega) hw2
    rw [Int.toNat_of_nonneg q0] at this
    exact this
end
theorem uf_ (r:as_) (n:Int) (h:Rd n r) (hn:0≤n∧n≤400000):Wp (fun k=>fZ_ k r) (CL_ 49 11000 (n+3000)):=by
  unfold fZ_
  refine Wp.bind (C7_ r n h (by omega)) (fun ky hk=> ?_)
  refine Wp.bind (AN_ ky.2 _ hk.2 (by omega)) (fun wd hw=> ?_)
  refine Wp.bind (uJ_ _ _) (fun _ e=> ?_);subst e
  have hr0:Reach 0 0 (Aw_ ky.1 wd.1):= .new hk.1 hw.1
  have l4:∀(m:Int) w r',m≤n+10→Reach 0 10090 w→Rd m r'→0≤m→Wp (fun k=>dj_ k r'.b r'.p noB 0 noB w.Key w.Width w.Forged [] [] [] [] w.Ends w.Flight w.Given w.Taken) (CL_ 49 11000 (n+3000)):=fun m w r' hm h1 h2 h0=>by
    refine Wp.step ?_
    simp only [dj_]
    refine Wp.pick h2 (by omega) (by omega) (fun q r1 q0 q1 h3=> ?_)
    dsimp only
    exact (rc6 noB noB 0 [] [] [] [] q (by omega) q.toNat 0 0 10090 (m+1) r1 w (by omega) (by omega) h1 h3 (by omega) (by omega)).mono fun v hv=>yN_ hv (by omega) (by omega) (by omega)
  refine Wp.pick hw.2 (by omega) (by omega) (fun q r1 q0 q1 h1=> ?_)
  dsimp only
  refine Wp.dec (fun _=> ?_) (fun _=>l4 _ _ r1 (by omega) (.more (Nat.le_refl _) (by omega) hr0) h1 (by omega))
  refine Wp.pick h1 (by omega) (by omega) (fun q r2 q0 q1 h2=> ?_)
  dsimp only
  refine Wp.bind (u3_ _ (e2_ hr0.V) _ _) (fun _ e=> ?_);subst e
  exact l4 _ _ r2 (by omega) (.more (Nat.le_refl _) (by rw [a0_ (by omega) (by omega)];omega) (xL_ hr0 _ 1 (by omega))) h2 (by omega)
theorem qM_ (a:List Int) (h:∀y∈a,me_ y):Wp (fun k=>eT_ k a) (Reach 49 11000):=by
  unfold eT_
  refine Wp.bind (BT_ a h) (fun r h0=> ?_)
  refine Wp.bind (uf_ r 0 h0 (by omega)) (fun v hv=> ?_)
  exact Wp.ret hv.1
end Km.X
namespace Km.X
open Go Km
set_option linter.unusedVariables false
set_option linter.unusedSimpArgs false
def DTk (m:Int) (v:ai_×as_):Prop:=VTake v.1∧Rd m v.2
theorem Bs_ {t:ai_} (h:VTake t):t.Held.length≤1048576∧t.Ready.length≤1048576:=by have:=h.2.1;have:=h.2.2.2.1;omega
theorem t3 (e:ByteArray) (c:Int) (g:ByteArray) (y:List aj_) (z:List ByteArray):∀(d:Nat) (n:Int) (r:as_) (t:ai_),VTake t→Rd n r→n+10*d≤800000→
    Wp (fun k=>f7_ k (d:Int) r.b r.p c e t.Next t.Open y z t.Held t.Ready) (DTk (n+10*d))
  | 0,n,r,t,ht,hr,hn=>by
    refine Wp.step ?_
    simp only [f7_]
    refine Wp.dec (fun g=>by omega) (fun _=> ?_)
    refine Wp.bind (jw_ t (Bs_ ht).1 (Bs_ ht).2) (fun x hx=> ?_);rw [hx]
    exact Wp.ret ⟨ht,hr.mono (by omega)⟩
  | d+1,n,r,t,ht,hr,hn=>by
    have hn0:0≤n:=by have:=hr.2.2;omega
    have l4:∀(t':ai_) (r':as_),VTake t'→Rd (n+10) r'→Wp (fun k=>f6_ k ((d+1:Nat):Int) r'.b r'.p c e t'.Next t'.Open y z t'.Held t'.Ready) (DTk (n+10*((d+1:Nat):Int))):=fun t' r' h1 h2=>by
      refine Wp.step ?_
      simp only [f6_]
      rw [a0_ (n:=((d+1:Nat):Int)-1) (by omega) (by omega),show ((d+1:Nat):Int)-1=(d:Int) by omega]
      exact (t3 e c g y z d (n+10) r' t' h1 h2 (by omega)).mono fun v hv=>⟨hv.1,hv.2.mono (by omega)⟩
    have l9:∀(q:Int) (r':as_),Rd (n+5) r'→Wp (fun k=>f2_ k ((d+1:Nat):Int) q r'.b r'.p c e t.Next t.Open y z t.Held t.Ready) (DTk (n+10*((d+1:Nat):Int))):=fun q r' h2=>by
      refine Wp.step ?_
      simp only [f2_]
      refine Wp.pick h2 (by omega) (by omega) (fun q1 r1 q10 q11 h1=> ?_)
      dsimp only
      refine Wp.from q10 (by simp;omega) (fun u hu=> ?_)
      simp only [List.mem_cons,List.not_mem_nil,or_false] at hu
      refine Wp.bind (oq_ _ _ 20 (by omega) (by show 1*_≤20;omega) (by omega)) (fun m hm=> ?_)
      refine Wp.pick h1 (by omega) (by omega) (fun q2 r2 q20 q21 h3=> ?_)
      refine Wp.bind (oE_ t _ _) (fun x hx=> ?_)
      exact l4 x r2 (by rw [hx];exact zu_ _ _ _) (h3.mono (by omega))
    refine Wp.step ?_
    simp only [f7_]
    refine Wp.dec (fun _=> ?_) (fun g=>by omega)
    refine Wp.pick hr (by omega) (by omega) (fun q1 r1 q10 q11 h1=> ?_)
    simp only [fl_]
    refine Wp.ite (fun _=> ?_) (fun _=> ?_)
    ·refine Wp.bind (ou_ t) (fun x hx=> ?_)
     exact l4 x.1 r1 (by rw [hx];exact (sc_ t).1) (h1.mono (by omega))
    ·refine Wp.pick h1 (by omega) (by omega) (fun q2 r2 q20 q21 h2=> ?_)
     dsimp only
     refine Wp.ite (fun _=> ?_) (fun _=>l9 _ r2 (h2.mono (by omega)))
     refine Wp.pick h2 (by omega) (by omega) (fun q3 r3 q30 q31 h3=> ?_)
     exact l9 _ r3 (h3.mono (by omega))
theorem t20 (m:Int) (r:as_) (c n:Int) (e o:ByteArray) (y:List aj_) (z:List ByteArray) (h:List aj_) (s:List ByteArray) (hr:Rd m r):Wp (fun k=>gn_ k r.b r.p c e n o y z h s) (fun v=>Rd m v.2):=by
  refine Wp.step ?_
  simp only [gn_]
  exact Wp.ret hr
theorem t15 (m x0:Int) (r:as_) (c n:Int) (e o:ByteArray) (y:List aj_) (z:List ByteArray) (h:List aj_) (hr:Rd m r) (hx:x0≤100):∀(d:Nat) (s:List ByteArray),d=(x0-s.length).toNat→s.length≤1000→Wp (fun k=>eR_ k x0 r.b r.p c e n o y z h s) (fun v=>Rd m v.2)
  | 0,s,hd,hs=>by
    refine Wp.step ?_
    simp only [eR_]
    exact Wp.dec (fun g=>by omega) (fun _=>t20 m r c n e o y z h s hr)
  | d+1,s,hd,hs=>by
    refine Wp.step ?_
    simp only [eR_]
    refine Wp.dec (fun _=> ?_) (fun g=>by omega)
    refine Wp.opt (aX_ (by simp;omega)) ?_
    exact t15 m x0 r c n e o y z h hr hx d (s++[noB]) (by simp;omega) (by simp;omega)
theorem e20 (m:Int) (r:as_) (hr:Rd m r) (a:Int) (b:Bool) (c d e:Int) (f:Bool) (g h:Int) (i:ByteArray) (a':Int) (b':Bool) (c' d' e':Int) (f':Bool) (g' h':Int) (i':ByteArray) (l1:List ag_) (l2:List aj_) (l3:List ByteArray) (l4:List ag_) (l5:List aj_) (l6:List ByteArray):
    Wp (fun k=>iJ_ k r.b r.p a b c d e f g h i a' b' c' d' e' f' g' h' i' l1 l2 l3 l4 l5 l6) (fun v=>Rd m v.2):=by
  refine Wp.step ?_
  simp only [iJ_]
  exact Wp.ret hr
theorem e9 (m:Int) (r:as_) (hr:Rd m r) (a:Int) (b:Bool) (c d e:Int) (f:Bool) (g h:Int) (i:ByteArray) (a':Int) (b':Bool) (c' d' e':Int) (f':Bool) (g':Int) (l1:List ag_) (h':Int) (l2:List aj_) (i':ByteArray) (l3:List ByteArray) (l4:List ag_) (l5:List aj_) (l6:List ByteArray):
    Wp (fun k=>k8_ k r.b r.p a b c d e f g h i a' b' c' d' e' f' g' l1 h' l2 i' l3 l4 l5 l6) (fun v=>Rd m v.2):=by
  refine Wp.step ?_
  simp only [k8_]
  exact Wp.ret hr
end Km.X
namespace Km.X
open Go Km
set_option linter.unusedVariables false
set_option linter.unusedSimpArgs false
end Km.X
