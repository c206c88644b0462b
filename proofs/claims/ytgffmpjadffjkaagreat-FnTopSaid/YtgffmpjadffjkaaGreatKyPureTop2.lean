/- A part of the proof of FnTop: plain laws of these functions. There is no condition. -/
import Derived.Test.YtgffmpjadffjkaaGreatKyPureTop1
import Derived.Test.YtgffmpjadffjkaaGreatKxDef2
namespace Km.X
open Go Km
set_option linter.unusedVariables false
set_option linter.unusedSimpArgs false
def gZ_ (e:an_) (p:ae_):ay_:=
  if p.Yours=e.Life then
   if p.Kind=1 then ⟨0,⟨e.Number,e.Up,e.Life,e.Peer,e.Since,e.Owes,ir_ e.Send p.Next p.Mask,e.Take⟩,[],noB⟩
   else ⟨0,⟨e.Number,e.Up,e.Life,e.Peer,e.Since,true,e.Send,iS_ e.Take p.Seq ⟨p.Part,p.Last⟩⟩,[],noB⟩
  else ⟨0,⟨e.Number,e.Up,e.Life,e.Peer,e.Since,true,e.Send,e.Take⟩,[],noB⟩
def jM_ (e:an_) (p:ae_):an_:=if p.Mine>e.Peer then ⟨e.Number,e.Up,e.Life,p.Mine,e.Since,true,id_,iM_⟩ else e
def eL_ (e:an_) (p:ae_):ay_:=
  if VEnd e then
   if e.Up=true∧iL_ p∧¬p.From=e.Number∧¬p.Mine<e.Peer then gZ_ (jM_ e p) p else ⟨0,e,[],noB⟩
  else ⟨1,mA_,[],noB⟩
theorem tN_ (e:an_) (p:ae_):Wp (fun k=>ho_ k e p) (· =eL_ e p):=by
  unfold ho_ eL_
  refine Wp.bind (bV_ _) (fun _ q=> ?_);subst q
  simp only [al_,bf_,fl_]
  refine Wp.ite (fun h1=> ?_) (fun h1=>Wp.ret (by rw [if_neg h1]))
  rw [if_pos h1]
  refine Wp.bind (f8_ e h1) (fun r q=> ?_);rw [q]
  refine Wp.bif (fun u=> ?_) (fun u=>Wp.ret (by rw [if_neg (fun g=>by have:=g.1;rw [u] at this;cases this)]))
  refine Wp.bind (zn_ p) (fun _ q=> ?_);subst q
  simp only [al_]
  refine Wp.ite (fun h2=> ?_) (fun h2=>Wp.ret (by rw [if_neg (fun g=>h2 g.2.1)]))
  refine Wp.ite (fun h3=>Wp.ret (by rw [if_neg (fun g=>g.2.2.1 h3)])) (fun h3=> ?_)
  refine Wp.ite (fun h4=>Wp.ret (by rw [if_neg (fun g=>g.2.2.2 h4)])) (fun h4=> ?_)
  rw [if_pos ⟨u,h2,h3,h4⟩]
  have M:∀(n:Int) (uu:Bool) (li pe si:Int) (ow:Bool) (b:Int) (it:List ag_) (nn:Int) (hd:List ak_) (o:ByteArray) (rr:List ByteArray),
   Wp (fun k=>dE_ k p.Kind p.From p.Mine p.Yours p.Next p.Mask p.Seq p.Last p.Part 0 0 false 0 0 0 false 0 0 (⟨#[]⟩:ByteArray) (⟨#[]⟩:ByteArray) n uu li pe si ow b nn o ([]:List ag_) ([]:List ak_) ([]:List ByteArray) ([]:List ae_) it hd rr) (· =gZ_ ⟨n,uu,li,pe,si,ow,⟨b,it⟩,⟨nn,hd,o,rr⟩⟩ p):=by
    intro n uu li pe si ow b it nn hd o rr
    refine Wp.step ?_
    simp only [dE_,ma_,fl_,gZ_]
    refine Wp.ite (fun h5=> ?_) (fun h5=>Wp.ret (by rw [if_neg h5]))
    rw [if_pos h5]
    refine Wp.ite (fun h6=> ?_) (fun h6=> ?_)
    ·rw [if_pos h6]
     refine Wp.bind (p7_ _ _ _) (fun _ q=> ?_);subst q
     exact Wp.ret rfl
    ·rw [if_neg h6]
     refine Wp.bind (pc_ _ _ _) (fun _ q=> ?_);subst q
     exact Wp.ret rfl
  unfold jM_
  refine Wp.ite (fun h5=> ?_) (fun h5=> ?_)
  ·rw [if_pos h5];exact M _ _ _ _ _ _ _ _ _ _ _ _
  ·rw [if_neg h5];exact M _ _ _ _ _ _ _ _ _ _ _ _
theorem u2_ (e:an_) (p:ae_):Wp (fun k=>hs_ k e p) (· =eL_ e p):=by
  unfold hs_ eL_
  refine Wp.bind (b0_ _) (fun _ q=> ?_);subst q
  simp only [al_,bf_,fl_]
  refine Wp.ite (fun h1=> ?_) (fun h1=>Wp.ret (by rw [if_neg h1]))
  rw [if_pos h1]
  refine Wp.bind (fj_ e h1) (fun r q=> ?_);rw [q]
  refine Wp.bif (fun u=> ?_) (fun u=>Wp.ret (by rw [if_neg (fun g=>by have:=g.1;rw [u] at this;cases this)]))
  refine Wp.bind (eV_ p) (fun _ q=> ?_);subst q
  simp only [al_]
  refine Wp.ite (fun h2=> ?_) (fun h2=>Wp.ret (by rw [if_neg (fun g=>h2 g.2.1)]))
  refine Wp.ite (fun h3=>Wp.ret (by rw [if_neg (fun g=>g.2.2.1 h3)])) (fun h3=> ?_)
  refine Wp.ite (fun h4=>Wp.ret (by rw [if_neg (fun g=>g.2.2.2 h4)])) (fun h4=> ?_)
  rw [if_pos ⟨u,h2,h3,h4⟩]
  have M:∀(n:Int) (uu:Bool) (li pe si:Int) (ow:Bool) (b:Int) (it:List ag_) (nn:Int) (hd:List ak_) (o:ByteArray) (rr:List ByteArray),
   Wp (fun k=>ef_ k p.Kind p.From p.Mine p.Yours p.Next p.Mask p.Seq p.Last p.Part 0 0 false 0 0 0 false 0 0 (⟨#[]⟩:ByteArray) (⟨#[]⟩:ByteArray) 0 n uu li pe si ow b nn o (⟨#[]⟩:ByteArray) ([]:List ag_) ([]:List ak_) ([]:List ByteArray) ([]:List ae_) it hd rr ([]:List ae_)) (· =gZ_ ⟨n,uu,li,pe,si,ow,⟨b,it⟩,⟨nn,hd,o,rr⟩⟩ p):=by
    intro n uu li pe si ow b it nn hd o rr
    refine Wp.step ?_
    simp only [ef_,ma_,fl_,gZ_]
    refine Wp.ite (fun h5=> ?_) (fun h5=>Wp.ret (by rw [if_neg h5]))
    rw [if_pos h5]
    refine Wp.ite (fun h6=> ?_) (fun h6=> ?_)
    ·rw [if_pos h6]
     refine Wp.bind (vJ_ _ _ _) (fun _ q=> ?_);subst q
     refine Wp.step ?_
     simp only [dO_]
     exact Wp.ret rfl
    ·rw [if_neg h6]
     refine Wp.bind (vW_ _ _ _) (fun _ q=> ?_);subst q
     refine Wp.step ?_
     simp only [dO_]
     exact Wp.ret rfl
  unfold jM_
  refine Wp.ite (fun h5=> ?_) (fun h5=> ?_)
  ·rw [if_pos h5];exact M _ _ _ _ _ _ _ _ _ _ _ _
  ·rw [if_neg h5];exact M _ _ _ _ _ _ _ _ _ _ _ _
end Km.X
namespace Km.X
open Go Km
set_option linter.unusedVariables false
set_option linter.unusedSimpArgs false
def Dw_ (l:List UInt8):Int:=l.foldl (fun v c=>v*256+(c.toNat:Int)) 0
theorem wb_ {n:Nat} (h:n≤6):(256:Int)^n≤281474976710656:=by
  have:n=0∨n=1∨n=2∨n=3∨n=4∨n=5∨n=6:=by omega
  rcases this with rfl | rfl | rfl | rfl | rfl | rfl | rfl<;>decide
theorem tU_ (s:ByteArray):∀(t pre:List UInt8) (v:Int),s.data.toList=pre++t→s.size≤6→0≤v∧v<256^pre.length→
    Wp (fun k=>dT_ k s v (pre.length:Int)) (· =t.foldl (fun v c=>v*256+(c.toNat:Int)) v)
  | [],pre,v,h,hs,hv=>by
    refine Wp.step ?_
    have:=hv_ h
    simp only [List.length_nil] at this
    simp only [dT_]
    simp (disch:=omega) only [al_,if_neg]
    exact Wp.ret rfl
  | c::t,pre,v,h,hs,hv=>by
    refine Wp.step ?_
    have hl:=hv_ h
    simp only [List.length_cons] at hl
    have hp:=wb_ (n:=pre.length) (by omega)
    have hc:=c.toNat_lt
    simp only [dT_]
    simp (disch:=omega) only [al_,if_pos,of_ h,Option.bind_some,aS_]
    have ih:=tU_ s t (pre++[c]) (v*256+(c.toNat:Int)) (by simpa using h) hs (by
      rw [List.length_append,List.length_singleton,Int.pow_succ];omega)
    rwa [←bd_] at ih
theorem sV_ (s:ByteArray) (h:s.size≤6):Wp (fun k=>fT_ k s) (· =Dw_ s.data.toList):=tU_ s s.data.toList [] 0 rfl h (by decide)
theorem EF_ (n c:Nat) (h:c<256):(n*256) ||| c=n*256+c:=by
  have:=Nat.shiftLeft_add_eq_or_of_lt (a:=n) (i:=8) (b:=c) (by simpa using h)
  rw [Nat.shiftLeft_eq] at this
  simpa using this.symm
theorem yH_ (n c:Nat) (hn:n<281474976710656) (hc:c<256):xe_ .i64 ((n*256:Nat):Int) (c:Int)=((n*256+c:Nat):Int):=by
  have e:∀m:Nat,BitVec.ofInt 64 (m:Int)=BitVec.ofNat 64 m:=fun m=>by
    apply BitVec.eq_of_toNat_eq
    simp [BitVec.toNat_ofInt]
  show IntKind.wrap .i64 ((BitVec.ofInt 64 ((n*256:Nat):Int) ||| BitVec.ofInt 64 (c:Int)).toNat:Int)=_
  rw [e,e,BitVec.toNat_or,BitVec.toNat_ofNat,BitVec.toNat_ofNat,Nat.mod_eq_of_lt (by omega),Nat.mod_eq_of_lt (by omega),EF_ n c hc]
  exact aS_ (by omega) (by omega)
theorem Gf_ (n:Nat) (h:n<36028797018963968):shift .shl .i64 (n:Int) 8=some ((n*256:Nat):Int):=by
  simp only [shift]
  rw [if_neg (by omega)]
  congr 1
  rw [show (Int.toNat 8)=8 from rfl,show min 8 IntKind.i64.bits=8 from rfl]
  rw [aS_ (by omega) (by omega)]
  simp
theorem wK_ (s:ByteArray):∀(t pre:List UInt8) (v:Nat),s.data.toList=pre++t→s.size≤6→(v:Int)<256^pre.length→
    Wp (fun k=>fZ_ k s (v:Int) (pre.length:Int)) (· =t.foldl (fun v c=>v*256+(c.toNat:Int)) (v:Int))
  | [],pre,v,h,hs,hv=>by
    refine Wp.step ?_
    have:=hv_ h
    simp only [List.length_nil] at this
    simp only [fZ_]
    simp (disch:=omega) only [al_,if_neg]
    exact Wp.ret rfl
  | c::t,pre,v,h,hs,hv=>by
    refine Wp.step ?_
    have hl:=hv_ h
    simp only [List.length_cons] at hl
    have hp:=wb_ (n:=pre.length) (by omega)
    have hp':=wb_ (n:=pre.length+1) (by omega)
    rw [Int.pow_succ] at hp'
    have hc:=c.toNat_lt
    simp only [fZ_]
    simp (disch:=omega) only [al_,if_pos,of_ h,Option.bind_some,aS_,Gf_,yH_]
    have ih:=wK_ s t (pre++[c]) (v*256+c.toNat) (by simpa using h) hs (by
      rw [List.length_append,List.length_singleton,Int.pow_succ];omega)
    rw [←bd_] at ih
    rw [List.foldl_cons]
    have e:((v*256+c.toNat:Nat):Int)=(v:Int)*256+(c.toNat:Int):=by omega
    rw [e] at ih⊢
    exact ih
theorem xl_ (s:ByteArray) (h:s.size≤6):Wp (fun k=>j0_ k s) (· =Dw_ s.data.toList):=wK_ s s.data.toList [] 0 rfl h (by decide)
def at' (b:ByteArray) (i:Nat):UInt8:=b.data.toList.getD i 0
theorem js_ {b:ByteArray} {i:Nat} (h:i<b.size):tl_ b (i:Int)=some (at' b i):=by
  unfold tl_ at'
  rw [if_neg (by omega),Int.toNat_natCast]
  have e:b[i]? =some (b[i]'h):=by simp [h]
  rw [e]
  have:b.data.toList[i]? =some (b[i]'h):=by
    rw [Array.getElem?_toList,Array.getElem?_eq_getElem (show i<b.data.size from h)];rfl
  rw [List.getD_eq_getElem?_getD,this];rfl
def vz_:ae_:=⟨0,0,0,0,0,0,0,false,noB⟩
def zi_ (b:ByteArray) (i j:Nat):Int:=Dw_ (b.extract i j).data.toList
def iN_ (b:ByteArray):ae_:=
  if ((at' b 0).toNat:Int)=1 then ⟨(at' b 0).toNat,(at' b 1).toNat,zi_ b 2 4,zi_ b 4 6,zi_ b 6 10,(at' b 10).toNat,0,false,noB⟩
  else ⟨(at' b 0).toNat,(at' b 1).toNat,zi_ b 2 4,zi_ b 4 6,0,0,zi_ b 6 10,(((at' b 10).toNat:Int)==1),b.extract 11 b.size⟩
def hd_ (s b:ByteArray) (w:Int):ae_×Bool:=
  if (1≤w∧w≤8)∧w+11≤s.size then (if dn_ (iN_ (s.extract w.toNat s.size)) b w=s then (iN_ (s.extract w.toNat s.size),true) else (vz_,false)) else (vz_,false)
theorem fy_ (s:ByteArray) (i j:Nat):(s.extract i j).size=min j s.size-i:=by simp
theorem wu (c:UInt8):IntKind.wrap .i64 (c.toNat:Int)=(c.toNat:Int):=by have:=c.toNat_lt;exact aS_ (by omega) (by omega)
theorem p0_ (s b:ByteArray) (w:Int) (hs:s.size≤1048576):Wp (fun k=>en_ k s b w) (· =hd_ s b w):=by
  unfold en_ hd_
  refine Wp.bind (bX_ _ _ _) (fun _ e=> ?_);subst e
  simp only [inB,bf_,al_]
  refine Wp.ite (fun h1=> ?_) (fun h1=>Wp.ret (by rw [if_neg (fun h=>h1 h.1)];rfl))
  rw [aS_ (by omega) (by omega)]
  refine Wp.ite (fun h2=>Wp.ret (by rw [if_neg (fun h=>by omega)];rfl)) (fun h2=> ?_)
  rw [if_pos ⟨h1,by omega⟩]
  refine Wp.opt (cA_ (by omega)) ?_
  dsimp only
  rw [Int.toNat_natCast]
  have hsz:(s.extract w.toNat s.size).size=s.size-w.toNat:=by rw [fy_];omega
  have hge:11≤(s.extract w.toNat s.size).size:=by omega
  generalize hb:s.extract w.toNat s.size=B at hsz hge⊢
  have key:∀p:ae_,Wp (fun k=>(da_ k p b w).bind fun r16=>
   bif (!(r16.toList==s.toList)) then some (vz_,false) else some (p,true)) (· =if dn_ p b w=s then (p,true) else (vz_,false)):=fun p=>by
    refine Wp.bind (pR_ p b w) (fun _ e=> ?_);subst e
    simp only [bf_,mb_]
    exact Wp.ite (fun h=>Wp.ret (by rw [if_pos h])) (fun h=>Wp.ret (by rw [if_neg h]))
  have hBs:B.size≤1048576:=by omega
  refine Wp.opt (js_ (i:=0) (by omega)) ?_
  refine Wp.opt (js_ (i:=1) (by omega)) ?_
  refine Wp.opt (cA_ (by omega)) ?_
  refine Wp.bind (sV_ _ (by rw [fy_];simp;omega)) (fun _ e=> ?_);subst e
  refine Wp.opt (cA_ (by omega)) ?_
  refine Wp.bind (sV_ _ (by rw [fy_];simp;omega)) (fun _ e=> ?_);subst e
  simp only [wu,fl_]
  refine Wp.ite (fun hk=> ?_) (fun hk=> ?_)
  ·refine Wp.opt (cA_ (by omega)) ?_
   refine Wp.bind (sV_ _ (by rw [fy_];simp;omega)) (fun _ e=> ?_);subst e
   refine Wp.opt (js_ (i:=10) (by omega)) ?_
   refine Wp.step ?_
   simp only [cD_,wu]
   have:=key (iN_ B)
   unfold iN_ at this⊢
   rw [if_pos hk] at this⊢
   exact this
  ·refine Wp.opt (cA_ (by omega)) ?_
   refine Wp.bind (sV_ _ (by rw [fy_];simp;omega)) (fun _ e=> ?_);subst e
   refine Wp.opt (js_ (i:=10) (by omega)) ?_
   refine Wp.opt (cA_ (by omega)) ?_
   refine Wp.step ?_
   simp only [cD_,wu]
   have:=key (iN_ B)
   unfold iN_ at this⊢
   rw [if_neg hk] at this⊢
   exact this
theorem s3_ {p:ae_} {b s:ByteArray} {w:Int} (h:¬(iL_ p∧b.size≤30)) (hs:11≤s.size):dn_ p b w≠s:=by
  unfold dn_
  rw [if_neg (fun h'=>h ⟨h'.1,h'.2.2⟩)]
  intro e
  rw [←e] at hs
  simp [d0_] at hs
theorem v6_ (s b:ByteArray) (w:Int) (hs:s.size≤1048576):Wp (fun k=>fu_ k s b w) (· =hd_ s b w):=by
  unfold fu_ hd_
  simp only [al_]
  refine Wp.ite (fun h1=>Wp.ret (by rw [if_neg (fun h=>by omega)];rfl)) (fun h1=> ?_)
  refine Wp.ite (fun h2=>Wp.ret (by rw [if_neg (fun h=>by omega)];rfl)) (fun h2=> ?_)
  refine Wp.ite (fun h3=>Wp.ret ?_) (fun h3=> ?_)
  ·split
   ·rename_i h
    rw [if_neg (s3_ (fun h'=>by omega) (by omega))];rfl
   ·rfl
  rw [aS_ (by omega) (by omega)]
  refine Wp.ite (fun h4=>Wp.ret (by rw [if_neg (fun h=>by omega)];rfl)) (fun h4=> ?_)
  rw [if_pos ⟨by omega,by omega⟩]
  refine Wp.opt (cA_ (by omega)) ?_
  dsimp only
  rw [Int.toNat_natCast]
  have hsz:(s.extract w.toNat s.size).size=s.size-w.toNat:=by rw [fy_];omega
  have hge:11≤(s.extract w.toNat s.size).size:=by omega
  generalize hb:s.extract w.toNat s.size=B at hsz hge⊢
  have key:∀p:ae_,Wp (fun k=>(bc_ k p).bind fun r15=>bif (!r15) then some (vz_,false) else (di_ k p b w).bind fun r16=>
   bif (!(r16.toList==s.toList)) then some (vz_,false) else some (p,true)) (· =if dn_ p b w=s then (p,true) else (vz_,false)):=fun p=>by
    refine Wp.bind (eV_ p) (fun _ e=> ?_);subst e
    simp only [bf_,al_]
    refine Wp.ite (fun hf=> ?_) (fun hf=>Wp.ret (by rw [if_neg (s3_ (fun h'=>hf h'.1) (by omega))]))
    refine Wp.bind (qv_ p b w) (fun _ e=> ?_);subst e
    simp only [bf_,mb_]
    exact Wp.ite (fun h=>Wp.ret (by rw [if_pos h])) (fun h=>Wp.ret (by rw [if_neg h]))
  have hBs:B.size≤1048576:=by omega
  refine Wp.opt (js_ (i:=0) (by omega)) ?_
  refine Wp.opt (js_ (i:=1) (by omega)) ?_
  refine Wp.opt (cA_ (by omega)) ?_
  refine Wp.bind (xl_ _ (by rw [fy_];simp;omega)) (fun _ e=> ?_);subst e
  refine Wp.opt (cA_ (by omega)) ?_
  refine Wp.bind (xl_ _ (by rw [fy_];simp;omega)) (fun _ e=> ?_);subst e
  simp only [wu,fl_]
  refine Wp.ite (fun hk=> ?_) (fun hk=> ?_)
  ·refine Wp.opt (cA_ (by omega)) ?_
   refine Wp.bind (xl_ _ (by rw [fy_];simp;omega)) (fun _ e=> ?_);subst e
   refine Wp.opt (js_ (i:=10) (by omega)) ?_
   refine Wp.step ?_
   simp only [bu_,wu]
   have:=key (iN_ B)
   unfold iN_ at this⊢
   rw [if_pos hk] at this⊢
   exact this
  ·refine Wp.ite (fun hk2=> ?_) (fun hk2=> ?_)
   ·refine Wp.opt (cA_ (by omega)) ?_
    refine Wp.bind (xl_ _ (by rw [fy_];simp;omega)) (fun _ e=> ?_);subst e
    refine Wp.opt (js_ (i:=10) (by omega)) ?_
    refine Wp.opt (cA_ (by omega)) ?_
    refine Wp.step ?_
    simp only [bu_,wu]
    have:=key (iN_ B)
    unfold iN_ at this⊢
    rw [if_neg hk] at this⊢
    exact this
   ·refine Wp.step ?_
    simp only [bu_,wu]
    have hno:¬iL_ (iN_ B):=fun hf=>by
      have hK:(iN_ B).Kind=1∨(iN_ B).Kind=2:=by rcases hf.2.2.2 with h | h<;>omega
      unfold iN_ at hK
      rw [if_neg hk] at hK
      exact hK.elim hk hk2
    rw [if_neg (s3_ (fun h=>hno h.1) (by omega))]
    refine Wp.bind (eV_ _) (fun _ e=> ?_);subst e
    rw [decide_eq_false]
    ·exact Wp.ret rfl
    ·intro hf
     have hK:(((at' B 0).toNat:Int))=1∨(((at' B 0).toNat:Int))=2:=hf.2.2.2.elim (fun h=> .inl h.1) (fun h=> .inr h.1)
     exact hK.elim hk hk2
end Km.X
namespace Km.X
open Go Km
set_option linter.unusedVariables false
set_option linter.unusedSimpArgs false
theorem sw_ {e:an_} (h:VEnd e):VEnd (a1_ e).End:=by
  obtain ⟨h1,h2,h3,h4,h5,h6,h7,h8⟩:=h
  have h:VEnd e:=⟨h1,h2,h3,h4,h5,h6,h7,h8⟩
  have hs:=(s2_ e h).1
  have hz:e.Peer=0→Cq_ (bm_ e).1∧A1_ e.Take:=fun hp=>by unfold bm_;rw [if_pos hp];exact h7 hp
  unfold a1_
  rw [if_pos h]
  split
  ·rename_i hu
   have nu:∀q:Prop,(e.Up=false→q):=fun q g=>by rw [hu] at g;cases g
   split
   ·exact ⟨h1,h2,h3,⟨by simp,by simp⟩,hs,h6,hz,nu _⟩
   ·refine ⟨h1,h2,h3, ?_,hs,h6,hz,nu _⟩
    show 0≤upS e∧upS e≤1000000
    unfold upS;split<;>omega
  ·exact h
theorem vk_ {e:an_} {p:ae_} (h:VEnd e) (hu:e.Up=true) (hf:iL_ p):VEnd (jM_ e p)∧(jM_ e p).Up=true:=by
  unfold jM_
  split
  ·refine ⟨⟨h.1,h.2.1, ?_,h.2.2.2.1,il_,jZ_,fun _=>⟨Fs_,FH_⟩,fun g=> ?_⟩,hu⟩
   ·have:=hf.2.1;have:=h.2.2.1
    show 0≤p.Mine∧p.Mine≤1000;omega
   ·change e.Up=false at g;rw [hu] at g;cases g
  ·exact ⟨h,hu⟩
theorem iU_ {e:an_} {p:ae_} (h:VEnd e) (hf:iL_ p) (hm:¬p.Mine<e.Peer):(jM_ e p).Peer=p.Mine:=by
  unfold jM_;split
  ·rfl
  ·omega
theorem CK_ {e:an_} {p:ae_} (h:VEnd e) (hu:e.Up=true) (hp:e.Peer≠0):VEnd (gZ_ e p).End:=by
  obtain ⟨h1,h2,h3,h4,h5,h6,h7,h8⟩:=h
  have nu:∀q:Prop,(e.Up=false→q):=fun q g=>by rw [hu] at g;cases g
  unfold gZ_
  split
  ·split
   ·exact ⟨h1,h2,h3,h4,xt_ _ _ _,h6,fun g=>absurd g hp,nu _⟩
   ·exact ⟨h1,h2,h3,h4,h5,AL_ _ _ _,fun g=>absurd g hp,nu _⟩
  ·exact ⟨h1,h2,h3,h4,h5,h6,fun g=>absurd g hp,nu _⟩
theorem zM_ {e:an_} (p:ae_) (h:VEnd e):VEnd (eL_ e p).End:=by
  unfold eL_
  rw [if_pos h]
  split
  ·rename_i hc
   obtain ⟨g1,g2⟩:=vk_ h hc.1 hc.2.1
   refine CK_ g1 g2 ?_
   rw [iU_ h hc.2.1 hc.2.2.2]
   have:=hc.2.1.2.1;omega
  ·exact h
theorem CG_ {e:an_} {t:ByteArray} (h:VEnd e) (hc:(gk_ e t).Code=0):VEnd (gk_ e t).End∧e.Up=true∧e.Peer≠0∧t.size≤200:=by
  unfold gk_ at hc⊢
  rw [if_pos h] at hc⊢
  split at hc
  ·rename_i hu
   rw [if_pos hu]
   split at hc
   ·cases hc
   ·rename_i hp
    rw [if_neg hp]
    split at hc
    ·rename_i h0
     rw [if_pos h0]
     obtain ⟨h1,h2,h3,h4,h5,h6,h7,h8⟩:=h
     refine ⟨⟨h1,h2,h3,h4,xN_ _ _,h6,fun g=>absurd g hp,fun g=> ?_⟩,hu,hp, ?_⟩
     ·change e.Up=false at g;rw [hu] at g;cases g
     ·unfold mk_ at h0
      split at h0
      ·rename_i hh;exact hh.2
      ·cases h0
    ·rename_i h0;exact absurd hc h0
  ·cases hc
theorem sq_ {e:an_} (h:VEnd e) (hc:(d8_ e).Code=0):VEnd (d8_ e).End∧e.Up=true∧e.Peer≠0∧(d8_ e).Text.size≤200:=by
  unfold d8_ at hc⊢
  rw [if_pos h] at hc⊢
  split at hc
  ·rename_i hu
   rw [if_pos hu]
   split at hc
   ·rename_i hr
    rw [if_pos hr]
    obtain ⟨h1,h2,h3,h4,h5,h6,h7,h8⟩:=h
    have hp:e.Peer≠0:=fun e0=>by
      have hz:=(h7 e0).2.2.2.2
      unfold cy_ at hr
      rw [if_pos h6] at hr
      split at hr
      ·cases hr
      ·rename_i s rs hrr;rw [hrr] at hz;cases hz
    refine ⟨⟨h1,h2,h3,h4,h5,(s1_ _).1,fun g=>absurd g hp,fun g=> ?_⟩,hu,hp,(s1_ _).2⟩
    change e.Up=false at g;rw [hu] at g;cases g
   ·cases hc
  ·cases hc
theorem oH_ {e:an_} (h:VEnd e):(a1_ e).End.Number=e.Number:=by
  unfold a1_;rw [if_pos h];split
  ·split<;>rfl
  ·rfl
theorem tP_ {e:an_} (p:ae_) (h:VEnd e):(eL_ e p).End.Number=e.Number:=by
  unfold eL_;rw [if_pos h];split
  ·unfold gZ_ jM_;repeat' split
   all_goals rfl
  ·rfl
theorem Ag_ {e:an_} {t:ByteArray} (h:VEnd e) (hc:(gk_ e t).Code=0):(gk_ e t).End.Number=e.Number:=by
  unfold gk_ at hc⊢
  rw [if_pos h] at hc⊢
  split at hc
  ·rename_i hu;rw [if_pos hu]
   split at hc
   ·cases hc
   ·rename_i hp;rw [if_neg hp]
    split at hc
    ·rename_i h0;rw [if_pos h0]
    ·rename_i h0;exact absurd hc h0
  ·cases hc
theorem zt_ {e:an_} (h:VEnd e) (hc:(d8_ e).Code=0):(d8_ e).End.Number=e.Number:=by
  unfold d8_ at hc⊢
  rw [if_pos h] at hc⊢
  split at hc
  ·rename_i hu;rw [if_pos hu]
   split at hc
   ·rename_i hr;rw [if_pos hr]
   ·cases hc
  ·cases hc
theorem AJ_ {e:an_} (h:VEnd e):(lt_ e).Number=e.Number:=by unfold lt_;rw [if_pos h]
theorem zX_ {e:an_} (h:VEnd e):(jn_ e).Number=e.Number:=by unfold jn_;rw [if_pos h];repeat' split<;>try rfl
theorem ib_ {e:an_} (h:VEnd e):(a1_ e).Out.length≤61:=by
  have h2:=(s2_ e h).2
  unfold a1_;rw [if_pos h];split
  ·split
   ·simp;omega
   ·simp;omega
  ·simp
def to_ (b:ByteArray) (wd to:Int) (p:ae_):ad_:=⟨to,dn_ p b wd,dn_ p b wd⟩
def v1_ (b:ByteArray) (wd to:Int) (out:List ae_) (fl:List ad_):List ad_:=fl++(out.map (to_ b wd to)).take (1000-fl.length)
def af_ (n:Int) (l:List an_):an_:=match l with | [e,f]=>if n=1 then e else f | _=>mA_
def c1_ (n:Int) (x:an_) (l:List an_):List an_:=match l with | [e,f]=>if n=1 then [x,f] else [e,x] | l=>l
def aZ_ (w:ac_):ac_:=
  ⟨w.Key,w.Width,[(a1_ (af_ 1 w.Ends)).End,(a1_ (af_ 2 w.Ends)).End],v1_ w.Key w.Width 1 (a1_ (af_ 2 w.Ends)).Out (v1_ w.Key w.Width 2 (a1_ (af_ 1 w.Ends)).Out w.Flight),w.Forged,w.Given,w.Taken⟩
def aT_ (w:ac_) (p:ad_):ac_:=
  if (hd_ p.Bytes w.Key w.Width).2=true then
   ⟨w.Key,w.Width,c1_ p.To (eL_ (af_ p.To w.Ends) (hd_ p.Bytes w.Key w.Width).1).End w.Ends,w.Flight,if¬p.Bytes=p.Sent∧w.Forged=noB then p.Bytes else w.Forged,w.Given,w.Taken⟩
  else w
def eb_ (w:ac_) (n:Int):ac_:=
  if w.Given.length+w.Taken.length<400∧(d8_ (af_ n w.Ends)).Code=0 then
   ⟨w.Key,w.Width,c1_ n (d8_ (af_ n w.Ends)).End w.Ends,w.Flight,w.Forged,w.Given,w.Taken++[⟨3-n,(af_ n w.Ends).Peer,(af_ n w.Ends).Life,(d8_ (af_ n w.Ends)).Text⟩]⟩
  else w
def mx_ (w:ac_) (n:Int) (t:ByteArray):ac_:=
  if w.Given.length+w.Taken.length<400∧(gk_ (af_ n w.Ends) t).Code=0 then
   ⟨w.Key,w.Width,c1_ n (gk_ (af_ n w.Ends) t).End w.Ends,w.Flight,w.Forged,w.Given++[⟨n,(af_ n w.Ends).Life,(af_ n w.Ends).Peer,t⟩],w.Taken⟩
  else w
def cd_ (w:ac_) (fl:List ad_):ac_:=⟨w.Key,w.Width,w.Ends,fl,w.Forged,w.Given,w.Taken⟩
def r6_ (w:ac_) (n:Int) (x:an_):ac_:=⟨w.Key,w.Width,c1_ n x w.Ends,w.Flight,w.Forged,w.Given,w.Taken⟩
def BF_ (s:ByteArray) (b c:Int):ByteArray:=i8_ ((bY_ s).set b.toNat (iZ_ .u8 ((bY_ s).getD b.toNat 0) (IntKind.wrap .u8 (c%256))))
def hS_ (w:ac_) (v:as_) (p:ad_):ac_:=
  if v.Kind=2 then aT_ (cd_ w (w.Flight.eraseIdx v.A.toNat)) p
  else if v.Kind=3 then (if w.Flight.length<1000 then cd_ w (w.Flight++[p]) else w)
  else if v.Kind=4 then cd_ w (w.Flight.eraseIdx v.A.toNat)
  else if v.Kind=5 then (if (0≤v.B∧v.B<p.Bytes.size)∧0≤v.C then cd_ w (w.Flight.set v.A.toNat ⟨p.To,p.Sent,BF_ p.Bytes v.B v.C⟩) else w)
  else if v.Kind=6 then (if 0≤v.B∧v.B≤p.Bytes.size then cd_ w (w.Flight.set v.A.toNat ⟨p.To,p.Sent,p.Bytes.extract 0 v.B.toNat⟩) else w)
  else cd_ w (w.Flight.set v.A.toNat ⟨3-p.To,p.Sent,p.Bytes⟩)
def kU_ (w:ac_) (v:as_):ac_:=
  if v.Kind=8 then r6_ w v.A (lt_ (af_ v.A w.Ends))
  else if v.Kind=9 then r6_ w v.A (jn_ (af_ v.A w.Ends))
  else if v.Kind=10 then mx_ w v.A v.Text
  else eb_ w v.A
def doW (w:ac_) (v:as_):ac_:=
  if v.Kind=1 then aZ_ w
  else if 2≤v.Kind∧v.Kind≤7 then (if 0≤v.A then (match w.Flight[v.A.toNat]? with | some p=>hS_ w v p | none=>w) else w)
  else if (8≤v.Kind∧v.Kind≤11)∧(1≤v.A∧v.A≤2) then kU_ w v
  else w
def hP_:ac_:=⟨noB,0,[],[],noB,[],[]⟩
def doM (w:ac_) (v:as_):ac_:=if au_ w then doW w v else hP_
theorem df_:∀{l:List an_},iO_ l→∃e f,l=[e,f]∧VEnd e∧e.Number=1∧VEnd f∧f.Number=2
  | [a,b],h=>⟨a,b,rfl,h.1.1,h.1.2,h.2.1,h.2.2⟩
theorem og_ {e f:an_} (h1:VEnd e) (h2:e.Number=1) (h3:VEnd f) (h4:f.Number=2):iO_ [e,f]:=⟨⟨h1,h2⟩,⟨h3,h4⟩⟩
theorem a6_ {l:List an_} (h:iO_ l) {n:Int} (hn:1≤n∧n≤2):VEnd (af_ n l)∧(af_ n l).Number=n:=by
  obtain ⟨e,f,rfl,h1,h2,h3,h4⟩:=df_ h
  unfold af_
  dsimp only
  split
  ·rename_i hh;exact ⟨h1,by omega⟩
  ·exact ⟨h3,by omega⟩
theorem pG_ {l:List an_} (h:iO_ l) {n:Int} (hn:1≤n∧n≤2) {x:an_} (hx:VEnd x) (hx':x.Number=n):iO_ (c1_ n x l):=by
  obtain ⟨e,f,rfl,h1,h2,h3,h4⟩:=df_ h
  unfold c1_
  dsimp only
  split
  ·rename_i hh;exact og_ hx (by omega) h3 h4
  ·exact og_ h1 h2 hx (by omega)
theorem oo_ {b:ByteArray} {wd to:Int} {out:List ae_} {fl:List ad_} (h:fl.length≤1000):(v1_ b wd to out fl).length≤1000:=by
  unfold v1_;simp;omega
theorem Ci_ {b:ByteArray} {wd to:Int} {out:List ae_} {fl:List ad_} (h:hY_ fl) (ht:1≤to∧to≤2):hY_ (v1_ b wd to out fl):=fun p hp=>by
  unfold v1_ at hp
  simp only [List.mem_append] at hp
  rcases hp with hp | hp
  ·exact h p hp
  ·have:=List.mem_of_mem_take hp
   simp only [List.mem_map] at this
   obtain ⟨q,_,rfl⟩:=this
   have:=yg_ q b wd
   exact ⟨ht,by show (dn_ q b wd).size≤100;omega,by show (dn_ q b wd).size≤100;omega⟩
theorem jD_ {w:ac_} (h:au_ w):au_ (aZ_ w):=by
  obtain ⟨h1,h2,h3,h4,h5,h6,h7,h8⟩:=h
  obtain ⟨e1,e2⟩:=a6_ h5 (n:=1) (by omega)
  obtain ⟨f1,f2⟩:=a6_ h5 (n:=2) (by omega)
  exact ⟨h1,h2,oo_ (oo_ h3),h4,og_ (sw_ e1) ((oH_ e1).trans e2) (sw_ f1) ((oH_ f1).trans f2),Ci_ (Ci_ h6 (by omega)) (by omega),h7,h8⟩
theorem lr_ {w:ac_} (h:au_ w) {p:ad_} (hp:1≤p.To∧p.To≤2):au_ (aT_ w p):=by
  unfold aT_
  split
  ·obtain ⟨h1,h2,h3,h4,h5,h6,h7,h8⟩:=h
   obtain ⟨e1,e2⟩:=a6_ h5 hp
   exact ⟨h1,h2,h3,h4,pG_ h5 hp (zM_ _ e1) ((tP_ _ e1).trans e2),h6,h7,h8⟩
  ·exact h
theorem rp_ {l:List aa_} {r:aa_} (h:fL_ l) (hr:DD_ r):fL_ (l++[r]):=fun x hx=>by
  simp only [List.mem_append,List.mem_singleton] at hx
  rcases hx with hx | rfl
  ·exact h x hx
  ·exact hr
theorem mv_ {w:ac_} (h:au_ w) {n:Int} (hn:1≤n∧n≤2):au_ (eb_ w n):=by
  unfold eb_
  split
  ·rename_i hc
   obtain ⟨h1,h2,h3,h4,h5,h6,h7,h8⟩:=h
   obtain ⟨e1,e2⟩:=a6_ h5 hn
   obtain ⟨g1,g2,g3,g4⟩:=sq_ e1 hc.2
   have hp:=e1.2.2.1
   exact ⟨h1,h2,h3,by simp only [List.length_append,List.length_singleton];omega,pG_ h5 hn g1 ((zt_ e1 hc.2).trans e2),h6,h7,rp_ h8 ⟨by simp only;omega,by simp only;omega,e1.2.1,g4⟩⟩
  ·exact h
theorem CY_ {w:ac_} (h:au_ w) {n:Int} (hn:1≤n∧n≤2) (t:ByteArray):au_ (mx_ w n t):=by
  unfold mx_
  split
  ·rename_i hc
   obtain ⟨h1,h2,h3,h4,h5,h6,h7,h8⟩:=h
   obtain ⟨e1,e2⟩:=a6_ h5 hn
   obtain ⟨g1,g2,g3,g4⟩:=CG_ e1 hc.2
   have hp:=e1.2.2.1
   exact ⟨h1,h2,h3,by simp only [List.length_append,List.length_singleton];omega,pG_ h5 hn g1 ((Ag_ e1 hc.2).trans e2),h6,rp_ h7 ⟨by simp only;omega,e1.2.1,by simp only;omega,g4⟩,h8⟩
  ·exact h
theorem vE_ {w:ac_} (h:au_ w) {n:Int} (hn:1≤n∧n≤2) {x:an_} (hx:VEnd x) (hx':x.Number=n):au_ (r6_ w n x):=by
  obtain ⟨h1,h2,h3,h4,h5,h6,h7,h8⟩:=h
  exact ⟨h1,h2,h3,h4,pG_ h5 hn hx hx',h6,h7,h8⟩
theorem hO_ {w:ac_} (h:au_ w) {fl:List ad_} (h1:fl.length≤1000) (h2:hY_ fl):au_ (cd_ w fl):=by
  obtain ⟨g1,g2,g3,g4,g5,g6,g7,g8⟩:=h
  exact ⟨g1,g2,h1,g4,g5,h2,g7,g8⟩
theorem so_ {l:List ad_} (h:hY_ l) (i:Nat):hY_ (l.eraseIdx i):=fun p hp=>h p (List.mem_of_mem_eraseIdx hp)
theorem Dd_ {l:List ad_} (h:hY_ l) (i:Nat) {q:ad_} (hq:vn_ q):hY_ (l.set i q):=fun p hp=>by
  rcases List.mem_or_eq_of_mem_set hp with h' | h'
  ·exact h p h'
  ·rw [h'];exact hq
theorem xU_ (s:ByteArray) (b c:Int):(BF_ s b c).size=s.size:=by
  unfold BF_;rw [h7_,List.length_set];unfold bY_;simp
theorem yK_ {w:ac_} (h:au_ w) (v:as_):au_ (doW w v):=by
  unfold doW
  split
  ·exact jD_ h
  ·split
   ·split
    ·split
     ·rename_i p hp
      have hv:vn_ p:=h.2.2.2.2.2.1 p (List.mem_of_getElem? hp)
      have h6:=h.2.2.2.2.2.1
      have h3:=h.2.2.1
      have hel:(w.Flight.eraseIdx v.A.toNat).length≤1000:=by have:=List.length_eraseIdx_le w.Flight v.A.toNat;omega
      unfold hS_
      split
      ·exact lr_ (hO_ h hel (so_ h6 _)) hv.1
      ·split
       ·split
        ·refine hO_ h (by simp;omega) (fun q hq=> ?_)
         simp only [List.mem_append,List.mem_singleton] at hq
         rcases hq with hq | rfl
         ·exact h6 q hq
         ·exact hv
        ·exact h
       ·split
        ·exact hO_ h hel (so_ h6 _)
        ·split
         ·split
          ·exact hO_ h (by simp;omega) (Dd_ h6 _ ⟨hv.1,hv.2.1,by show (BF_ p.Bytes v.B v.C).size≤100;rw [xU_];exact hv.2.2⟩)
          ·exact h
         ·split
          ·split
           ·exact hO_ h (by simp;omega) (Dd_ h6 _ ⟨hv.1,hv.2.1,by
              show (p.Bytes.extract 0 v.B.toNat).size≤100
              have:=hv.2.2
              rw [fy_];omega⟩)
           ·exact h
          ·have hvt:=hv.1
           exact hO_ h (by simp;omega) (Dd_ h6 _ ⟨by show 1≤3-p.To∧3-p.To≤2;omega,hv.2.1,hv.2.2⟩)
     ·exact h
    ·exact h
   ·split
    ·rename_i hc
     have hn:=hc.2
     obtain ⟨e1,e2⟩:=a6_ h.2.2.2.2.1 hn
     unfold kU_
     split
     ·exact vE_ h hn (De_ _ e1) ((AJ_ e1).trans e2)
     ·split
      ·exact vE_ h hn (C9_ _ e1) ((zX_ e1).trans e2)
      ·split
       ·exact CY_ h hn _
       ·exact mv_ h hn
    ·exact h
end Km.X
namespace Km.X
open Go Km
set_option linter.unusedVariables false
set_option linter.unusedSimpArgs false
theorem jJ_ {l:List an_} (h:iO_ l) {n:Int} (hn:1≤n∧n≤2):idx l (IntKind.wrap .i64 (n-1))=some (af_ n l)∧l[Int.toNat (IntKind.wrap .i64 (n-1))]? =some (af_ n l)∧∀x,l.set (Int.toNat (IntKind.wrap .i64 (n-1))) x=c1_ n x l:=by
  obtain ⟨e,f,rfl,_⟩:=df_ h
  rw [aS_ (by omega) (by omega)]
  have hc:n=1∨n=2:=by omega
  rcases hc with rfl | rfl
  ·exact ⟨rfl,rfl,fun _=>rfl⟩
  ·exact ⟨rfl,rfl,fun _=>rfl⟩
theorem xK_ (b:ByteArray) (wd to:Int) (p:ae_) (t:List ae_) (fl:List ad_) (h:fl.length<1000):fl++((p::t).map (to_ b wd to)).take (1000-fl.length)=(fl++[to_ b wd to p])++(t.map (to_ b wd to)).take (1000-(fl++[to_ b wd to p]).length):=by
  rw [List.map_cons,show 1000-fl.length=(1000-(fl.length+1))+1 by omega,List.take_succ_cons]
  simp
theorem wP_ (b:ByteArray) (wd to:Int) (t:List ae_) (fl:List ad_) (h:¬fl.length<1000):fl++(t.map (to_ b wd to)).take (1000-fl.length)=fl:=by
  rw [show 1000-fl.length=0 by omega];simp
theorem Cu_ (K Fo:ByteArray) (W:Int) (Gi Ta:List aa_) (Es:List an_) (i n i':Int) (hi:0≤i∧i≤1) {Q:ac_→Prop}:∀(t pre:List ae_) (fl:List ad_),(pre++t).length≤1000→fl.length≤1000→
    Wp (fun k=>bl_ k n (IntKind.wrap .i64 (i'+1)) K W Fo Es (fl++(t.map (to_ K W (2-i))).take (1000-fl.length)) Gi Ta) Q→
    Wp (fun k=>b3_ k i n i' ((pre++t).length:Int) (pre.length:Int) K W Fo (pre++t) Es fl Gi Ta) Q
  | [],pre,fl,hl,hf,h=>by
    refine Wp.step ?_
    simp only [b3_,List.append_nil]
    simp (disch:=omega) only [al_,if_neg]
    simpa using h
  | p::t,pre,fl,hl,hf,h=>by
    refine Wp.step ?_
    have hl':=hl
    simp only [List.length_append,List.length_cons] at hl
    simp only [b3_]
    simp only [al_,cZ_,if_true,aI_,fo_,Option.bind_some]
    have ih:=fun (fl2:List ad_) (h2:fl2.length≤1000) (hh:Wp (fun k=>bl_ k n (IntKind.wrap .i64 (i'+1)) K W Fo Es (fl2++(t.map (to_ K W (2-i))).take (1000-fl2.length)) Gi Ta) Q)=>Cu_ K Fo W Gi Ta Es i n i' hi t (pre++[p]) fl2 (by simpa using hl') h2 hh
    simp only [←aX_,←bd_] at ih
    refine Wp.ite (fun hc=> ?_) (fun hc=> ?_)
    ·refine Wp.bind (qv_ p K W) (fun _ q=> ?_);subst q
     rw [aS_ (n:=2-i) (by omega) (by omega)]
     refine Wp.opt (aQ_ (by simp;omega)) ?_
     refine Wp.step ?_
     simp only [cB_]
     rw [aS_ (n:=(pre.length:Int)+1) (by omega) (by omega)]
     refine ih (fl++[to_ K W (2-i) p]) (by simp;omega) ?_
     rw [←xK_ K W (2-i) p t fl (by omega)];exact h
    ·refine Wp.step ?_
     simp only [cB_]
     rw [aS_ (n:=(pre.length:Int)+1) (by omega) (by omega)]
     refine ih fl hf ?_
     rw [wP_ _ _ _ _ _ (by omega)] at h⊢;exact h
theorem nd_ (w:ac_) (h:au_ w):Wp (fun k=>ee_ k w) (· =aZ_ w):=by
  obtain ⟨K,W,Es,Fl,Fo,Gi,Ta⟩:=w
  obtain ⟨h1,h2,h3,h4,h5,h6,h7,h8⟩:=h
  obtain ⟨e,f,he,e1,e2,f1,f2⟩:=df_ h5
  dsimp only at he;subst he
  have he1:=ib_ e1
  have hf1:=ib_ f1
  unfold ee_
  have len2:(([e,f]:List an_).length:Int)=2:=rfl
  have len2':∀x:an_,(([x,f]:List an_).length:Int)=2:=fun _=>rfl
  dsimp only
  rw [len2]
  refine Wp.step ?_
  simp only [bl_]
  have i0:∀x y:an_,idx [x,y] 0=some x:=fun _ _=>rfl
  have g0:∀x y:an_,[x,y][Int.toNat 0]? =some x:=fun _ _=>rfl
  have s0:∀x y z:an_,[x,y].set (Int.toNat 0) z=[z,y]:=fun _ _ _=>rfl
  have i1:∀x y:an_,idx [x,y] 1=some y:=fun _ _=>rfl
  have g1:∀x y:an_,[x,y][Int.toNat 1]? =some y:=fun _ _=>rfl
  have s1:∀x y z:an_,[x,y].set (Int.toNat 1) z=[x,z]:=fun _ _ _=>rfl
  simp (disch:=omega) only [al_,if_pos,i0,g0,Option.bind_some]
  refine Wp.bind (nk_ e) (fun _ q=> ?_);subst q
  rw [s0]
  refine Cu_ K Fo W Gi Ta _ 0 2 0 (by omega) (a1_ e).Out [] Fl (by simp;omega) h3 ?_
  rw [aS_ (n:=(0:Int)+1) (by omega) (by omega)]
  refine Wp.step ?_
  simp only [bl_]
  simp (disch:=omega) only [al_,if_pos,Int.zero_add,i1,g1,Option.bind_some]
  refine Wp.bind (nk_ f) (fun _ q=> ?_);subst q
  rw [s1]
  have hpl:=oo_ (b:=K) (wd:=W) (to:=2) (out:=(a1_ e).Out) (show Fl.length≤1000 from h3)
  refine Cu_ K Fo W Gi Ta _ 1 2 1 (by omega) (a1_ f).Out [] (v1_ K W 2 (a1_ e).Out Fl) (by simp;omega) hpl ?_
  rw [aS_ (n:=(1:Int)+1) (by omega) (by omega)]
  refine Wp.step ?_
  simp only [bl_]
  simp (disch:=omega) only [al_,if_neg]
  exact Wp.ret rfl
theorem Ac_ (K Fo k1 k2 k3 Op Tx:ByteArray) (W z:Int) (c n:Int) (u:Bool) (li p s:Int) (o:Bool) (b nx:Int) (Gi Ta:List aa_) (Es E2:List an_) (F2:List ad_) (G2 T2:List aa_) (i:Int) (hi:0≤i∧i≤1) {Q:ac_→Prop}:∀(t pre:List ae_) (fl:List ad_),(pre++t).length≤1000→fl.length≤1000→
    Wp (fun k=>bN_ k (IntKind.wrap .i64 (i+1)) K W Fo k1 z k2 Es (fl++(t.map (to_ K W (2-i))).take (1000-fl.length)) Gi Ta E2 F2 G2 T2) Q→
    Wp (fun k=>dW_ k i (pre.length:Int) K W Fo k1 z k2 c n u li p s o b nx Op Tx Es fl Gi Ta E2 F2 G2 T2 (pre++t)) Q
  | [],pre,fl,hl,hf,h=>by
    refine Wp.step ?_
    simp only [dW_,List.append_nil]
    simp (disch:=omega) only [al_,if_neg]
    simpa using h
  | q::t,pre,fl,hl,hf,h=>by
    refine Wp.step ?_
    have hl':=hl
    simp only [List.length_append,List.length_cons] at hl
    simp only [dW_]
    simp only [al_,cZ_,if_true,aI_,fo_,Option.bind_some]
    have ih:=fun (fl2:List ad_) (h2:fl2.length≤1000) (hh:Wp (fun k=>bN_ k (IntKind.wrap .i64 (i+1)) K W Fo k1 z k2 Es (fl2++(t.map (to_ K W (2-i))).take (1000-fl2.length)) Gi Ta E2 F2 G2 T2) Q)=>Ac_ K Fo k1 k2 k3 Op Tx W z c n u li p s o b nx Gi Ta Es E2 F2 G2 T2 i hi t (pre++[q]) fl2 (by simpa using hl') h2 hh
    simp only [←aX_,←bd_] at ih
    refine Wp.ite (fun hc=> ?_) (fun hc=> ?_)
    ·refine Wp.bind (pR_ q K W) (fun _ e=> ?_);subst e
     rw [aS_ (n:=2-i) (by omega) (by omega)]
     refine Wp.opt (aQ_ (by simp;omega)) ?_
     rw [aS_ (n:=(pre.length:Int)+1) (by omega) (by omega)]
     refine ih (fl++[to_ K W (2-i) q]) (by simp;omega) ?_
     rw [←xK_ K W (2-i) q t fl (by omega)];exact h
    ·rw [wP_ _ _ _ _ _ (by omega)] at h;exact h
theorem tH_ (w:ac_) (h:au_ w):Wp (fun k=>iA_ k w) (· =aZ_ w):=by
  obtain ⟨K,W,Es,Fl,Fo,Gi,Ta⟩:=w
  obtain ⟨h1,h2,h3,h4,h5,h6,h7,h8⟩:=h
  obtain ⟨e,f,he,e1,e2,f1,f2⟩:=df_ h5
  dsimp only at he;subst he
  have he1:=ib_ e1
  have hf1:=ib_ f1
  unfold iA_
  dsimp only
  refine Wp.step ?_
  simp only [bN_]
  have i0:∀x y:an_,idx [x,y] 0=some x:=fun _ _=>rfl
  have g0:∀x y:an_,[x,y][Int.toNat 0]? =some x:=fun _ _=>rfl
  have s0:∀x y z:an_,[x,y].set (Int.toNat 0) z=[z,y]:=fun _ _ _=>rfl
  have i1:∀x y:an_,idx [x,y] 1=some y:=fun _ _=>rfl
  have g1:∀x y:an_,[x,y][Int.toNat 1]? =some y:=fun _ _=>rfl
  have s1:∀x y z:an_,[x,y].set (Int.toNat 1) z=[x,z]:=fun _ _ _=>rfl
  simp (disch:=omega) only [al_,if_pos,i0,g0,Option.bind_some]
  refine Wp.bind (mR_ e) (fun _ q=> ?_);subst q
  rw [s0]
  refine Ac_ K Fo _ _ noB _ _ W _ _ _ _ _ _ _ _ _ _ Gi Ta _ _ _ _ _ 0 (by omega) (a1_ e).Out [] Fl (by simp;omega) h3 ?_
  rw [aS_ (n:=(0:Int)+1) (by omega) (by omega)]
  refine Wp.step ?_
  simp only [bN_]
  simp (disch:=omega) only [al_,if_pos,Int.zero_add,i1,g1,Option.bind_some]
  refine Wp.bind (mR_ f) (fun _ q=> ?_);subst q
  rw [s1]
  have hpl:=oo_ (b:=K) (wd:=W) (to:=2) (out:=(a1_ e).Out) (show Fl.length≤1000 from h3)
  refine Ac_ K Fo _ _ noB _ _ W _ _ _ _ _ _ _ _ _ _ Gi Ta _ _ _ _ _ 1 (by omega) (a1_ f).Out [] (v1_ K W 2 (a1_ e).Out Fl) (by simp;omega) hpl ?_
  rw [aS_ (n:=(1:Int)+1) (by omega) (by omega)]
  refine Wp.step ?_
  simp only [bN_]
  simp (disch:=omega) only [al_,if_neg]
  exact Wp.ret rfl
theorem Dr_ (K Fo B Sn By:ByteArray) (W:Int) (p:ad_) (q:ae_) (Es:List an_) (Fl:List ad_) (Gi Ta:List aa_) (h5:iO_ Es) (hp:1≤p.To∧p.To≤2):Wp (fun k=>bL_ k K W Fo p.To p.Sent p.Bytes q.Kind q.From q.Mine q.Yours q.Next q.Mask q.Seq q.Last q.Part Es Fl Gi Ta) (· =⟨K,W,c1_ p.To (eL_ (af_ p.To Es) q).End Es,Fl,Fo,Gi,Ta⟩):=by
  refine Wp.step ?_
  simp only [bL_]
  obtain ⟨a1,a2,a3⟩:=jJ_ h5 hp
  simp only [a1,a2,a3,Option.bind_some]
  refine Wp.bind (u2_ _ _) (fun _ e=> ?_);subst e
  exact Wp.ret rfl
theorem l9_ (w:ac_) (h:au_ w) (p:ad_) (hp:1≤p.To∧p.To≤2) (hs:p.Bytes.size≤100):Wp (fun k=>cJ_ k w p) (· =aT_ w p):=by
  obtain ⟨K,W,Es,Fl,Fo,Gi,Ta⟩:=w
  have h5:=h.2.2.2.2.1
  unfold cJ_ aT_
  refine Wp.bind (v6_ p.Bytes K W (by omega)) (fun _ e=> ?_);subst e
  dsimp only
  simp only [bf_]
  refine Wp.bif (fun hr=> ?_) (fun hr=>Wp.ret (by rw [if_neg (by simp [hr])]))
  rw [if_pos hr]
  simp only [mb_]
  refine Wp.ite (fun hb=> ?_) (fun hb=> ?_)
  ·refine (Dr_ K Fo noB noB noB W p _ Es Fl Gi Ta h5 hp).mono fun r hr=> ?_
   rw [hr,if_neg (by simp [hb])]
  ·refine Wp.ite (fun hf=> ?_) (fun hf=> ?_)
   ·refine (Dr_ K p.Bytes noB noB noB W p _ Es Fl Gi Ta h5 hp).mono fun r hr=> ?_
    rw [hr,if_pos ⟨hb,hf⟩]
   ·refine (Dr_ K Fo noB noB noB W p _ Es Fl Gi Ta h5 hp).mono fun r hr=> ?_
    rw [hr,if_neg (fun g=>hf g.2)]
theorem xb_ (l:List ad_) (i:Nat) (h:i<l.length):l.take i++l.drop (i+1)=l.eraseIdx i:=(List.eraseIdx_eq_take_drop_succ l i).symm
theorem t7_ {α:Type} (l:List α) (i:Nat):dY_ l 0 i=l.take i:=by simp [dY_]
theorem uU_ {α:Type} (l:List α) (i:Nat):dY_ l i l.length=l.drop i:=by simp [dY_]
theorem rd_ (l:List ad_) (i:Nat) (h:i<l.length) (hl:l.length≤1000):Wp (fun k=>eU_ k l (i:Int)) (· =l.eraseIdx i):=by
  unfold eU_
  refine Wp.opt (cA_ ⟨by omega,by omega,by omega⟩) ?_
  dsimp only
  rw [Int.toNat_natCast,show Int.toNat 0=0 from rfl,t7_]
  refine Wp.opt (aQ_ (by simp;omega)) ?_
  rw [aS_ (by omega) (by omega)]
  refine Wp.opt (cA_ ⟨by omega,by omega,by omega⟩) ?_
  dsimp only
  rw [Int.toNat_natCast,show Int.toNat ((i:Int)+1)=i+1 by omega,uU_]
  refine Wp.opt (aQ_ (by simp;omega)) ?_
  refine Wp.ret ?_
  rw [←xb_ l i h];simp
theorem Db_ (K Fo k1 k2:ByteArray) (W z:Int) (p:ad_) (q:ae_) (Es E2:List an_) (Fl F2:List ad_) (Gi Ta G2 T2:List aa_) (h5:iO_ Es) (hp:1≤p.To∧p.To≤2):Wp (fun k=>dd_ k K W Fo k1 z k2 p.To p.Sent p.Bytes q.Kind q.From q.Mine q.Yours q.Next q.Mask q.Seq q.Last q.Part Es Fl Gi Ta E2 F2 G2 T2) (· =⟨K,W,c1_ p.To (eL_ (af_ p.To Es) q).End Es,Fl,Fo,Gi,Ta⟩):=by
  refine Wp.step ?_
  simp only [dd_]
  obtain ⟨a1,a2,a3⟩:=jJ_ h5 hp
  simp only [a1,a2,a3,Option.bind_some]
  refine Wp.bind (tN_ _ _) (fun _ e=> ?_);subst e
  exact Wp.ret rfl
theorem sR_ (w:ac_) (h:au_ w) (i:Nat) {p:ad_} (hi:w.Flight[i]? =some p):Wp (fun k=>hH_ k w (i:Int)) (· =aT_ (cd_ w (w.Flight.eraseIdx i)) p):=by
  have hv:vn_ p:=h.2.2.2.2.2.1 p (List.mem_of_getElem? hi)
  have hlt:=(List.getElem?_eq_some_iff.mp hi).1
  obtain ⟨K,W,Es,Fl,Fo,Gi,Ta⟩:=w
  have h5:=h.2.2.2.2.1
  have h3:=h.2.2.1
  dsimp only at hi hlt h3 h5
  unfold hH_ aT_ cd_
  dsimp only
  have e1:idx Fl (i:Int)=some p:=by rw [e5_];exact hi
  have e2:Fl[Int.toNat (i:Int)]? =some p:=by rw [Int.toNat_natCast];exact hi
  simp only [e1,e2,Option.bind_some]
  refine Wp.bind (rd_ Fl i hlt h3) (fun _ e=> ?_);subst e
  refine Wp.bind (p0_ p.Bytes K W (by have:=hv.2.2;omega)) (fun _ e=> ?_);subst e
  simp only [bf_]
  refine Wp.bif (fun hr=> ?_) (fun hr=>Wp.ret (by rw [if_neg (by simp [hr])]))
  rw [if_pos hr]
  simp only [mb_]
  refine Wp.ite (fun hb=> ?_) (fun hb=> ?_)
  ·refine (Db_ K Fo _ _ W _ p _ Es _ _ _ Gi Ta _ _ h5 hv.1).mono fun r hr=> ?_
   rw [hr,if_neg (by simp [hb])]
  ·refine Wp.ite (fun hf=> ?_) (fun hf=> ?_)
   ·refine (Db_ K p.Bytes _ _ W _ p _ Es _ _ _ Gi Ta _ _ h5 hv.1).mono fun r hr=> ?_
    rw [hr,if_pos ⟨hb,hf⟩]
   ·refine (Db_ K Fo _ _ W _ p _ Es _ _ _ Gi Ta _ _ h5 hv.1).mono fun r hr=> ?_
    rw [hr,if_neg (fun g=>hf g.2)]
theorem w9_ {a b:Nat} (h:a+b≤400):IntKind.wrap .i64 ((a:Int)+(b:Int))=((a+b:Nat):Int):=by rw [aS_ (by omega) (by omega)];omega
theorem ne_ (w:ac_) (h:au_ w) (n:Int) (hn:1≤n∧n≤2):Wp (fun k=>ea_ k w n) (· =eb_ w n):=by
  obtain ⟨K,W,Es,Fl,Fo,Gi,Ta⟩:=w
  have h5:=h.2.2.2.2.1
  have h4:=h.2.2.2.1
  dsimp only at h4 h5
  unfold ea_ d6_ eb_
  dsimp only
  simp only [Option.bind_some,w9_ h4,al_]
  refine Wp.ite (fun hc=>Wp.ret (by rw [if_neg (by omega)])) (fun hc=> ?_)
  obtain ⟨a1,a2,a3⟩:=jJ_ h5 hn
  simp only [a1,a2,a3,Option.bind_some]
  refine Wp.bind (uj_ _) (fun _ e=> ?_);subst e
  simp only [fl_]
  refine Wp.ite (fun h0=> ?_) (fun h0=>Wp.ret (by rw [if_neg (fun g=>h0 g.2)]))
  rw [aS_ (n:=3-n) (by omega) (by omega)]
  refine Wp.opt (aQ_ (by simp;omega)) ?_
  exact Wp.ret (by rw [if_pos ⟨by omega,h0⟩])
end Km.X
namespace Km.X
open Go Km
set_option linter.unusedVariables false
theorem mT_ (K Fo a c:ByteArray) (W b:Int) (Es:List an_) (Fl:List ad_) (Gi Ta:List aa_) (E2:List an_) (F2:List ad_) (G2 T2:List aa_):Wp (fun k=>bb_ k K W Fo a b c Es Fl Gi Ta E2 F2 G2 T2) (· =⟨K,W,Es,Fl,Fo,Gi,Ta⟩):=by
  refine Wp.step ?_
  simp only [bb_]
  exact Wp.ret rfl
theorem Cb_ (K Fo a c:ByteArray) (W b:Int) (Es:List an_) (Fl:List ad_) (Gi Ta:List aa_) (E2:List an_) (F2:List ad_) (G2 T2:List aa_):Wp (fun k=>dc_ k K W Fo a b c Es Fl Gi Ta E2 F2 G2 T2) (· =⟨K,W,Es,Fl,Fo,Gi,Ta⟩):=by
  refine Wp.step ?_
  simp only [dc_]
  exact Wp.ret rfl
theorem oN_ (K Fo a c:ByteArray) (W b:Int) (Es:List an_) (Fl:List ad_) (Gi Ta:List aa_) (E2:List an_) (F2:List ad_) (G2 T2:List aa_):Wp (fun k=>ar_ k a b c K W Fo E2 F2 G2 T2 Es Fl Gi Ta) (· =⟨K,W,Es,Fl,Fo,Gi,Ta⟩):=by
  refine Wp.step ?_
  simp only [ar_]
  exact Wp.ret rfl
theorem Bn_ {α:Type} {l:List α} {i:Nat} {p:α} (h:l[i]? =some p):l.set i p=l:=by
  obtain ⟨h1,h2⟩:=List.getElem?_eq_some_iff.mp h
  subst h2;exact List.set_getElem_self h1
theorem x6_ (w:ac_) (h:au_ w) (v:as_) (hk:8≤v.Kind∧v.Kind≤11) (hn:1≤v.A∧v.A≤2):Wp (fun k=>if_ k w v) (· =kU_ w v):=by
  obtain ⟨K,W,Es,Fl,Fo,Gi,Ta⟩:=w
  have h5:=h.2.2.2.2.1
  have h4:=h.2.2.2.1
  dsimp only at h4 h5
  obtain ⟨a1,a2,a3⟩:=jJ_ h5 hn
  unfold if_ kU_
  dsimp only
  simp only [a1,a2,a3,Option.bind_some,fl_]
  refine Wp.ite (fun e=> ?_) (fun e=> ?_)
  ·refine Wp.bind (vX_ _) (fun _ e'=> ?_);subst e'
   exact (mT_ ..).mono fun r hr=>by rw [hr,if_pos e];rfl
  rw [if_neg e]
  refine Wp.ite (fun e=> ?_) (fun e=> ?_)
  ·refine Wp.bind (vL_ _) (fun _ e'=> ?_);subst e'
   exact (mT_ ..).mono fun r hr=>by rw [hr,if_pos e];rfl
  rw [if_neg e]
  refine Wp.ite (fun e=> ?_) (fun e=> ?_)
  ·rw [if_pos e]
   refine Wp.bind (tO_ _ _) (fun _ e'=> ?_);subst e'
   simp only [w9_ h4,al_]
   unfold mx_
   dsimp only
   refine Wp.ite (fun h0=> ?_) (fun h0=> ?_)
   ·refine Wp.ite (fun h1=> ?_) (fun h1=> ?_)
    ·refine Wp.opt (aQ_ (by simp;omega)) ?_
     exact (mT_ ..).mono fun r hr=>by rw [hr,if_pos ⟨by omega,h0⟩]
    ·exact (mT_ ..).mono fun r hr=>by rw [hr,if_neg (fun g=>by omega)]
   ·exact (mT_ ..).mono fun r hr=>by rw [hr,if_neg (fun g=>h0 g.2)]
  rw [if_neg e]
  refine Wp.ite (fun e=> ?_) (fun e=>by omega)
  refine Wp.bind (tr_ _) (fun _ e'=> ?_);subst e'
  simp only [w9_ h4,al_]
  unfold eb_
  dsimp only
  refine Wp.ite (fun h0=> ?_) (fun h0=> ?_)
  ·refine Wp.ite (fun h1=> ?_) (fun h1=> ?_)
   ·rw [aS_ (n:=3-v.A) (by omega) (by omega)]
    refine Wp.opt (aQ_ (by simp;omega)) ?_
    exact (mT_ ..).mono fun r hr=>by rw [hr,if_pos ⟨by omega,h0⟩]
   ·exact (mT_ ..).mono fun r hr=>by rw [hr,if_neg (fun g=>by omega)]
  ·exact (mT_ ..).mono fun r hr=>by rw [hr,if_neg (fun g=>h0 g.2)]
theorem ng_ (K Fo a c Tx:ByteArray) (W b Kd A B C To:Int) (Sn By:ByteArray) (Es:List an_) (Fl:List ad_) (Gi Ta:List aa_) (E2:List an_) (F2:List ad_) (G2 T2:List aa_) {p:ad_} (h1:idx Fl A=some p) (h2:Fl[Int.toNat A]? =some p):Wp (fun k=>aJ_ k K W Fo Kd A B C Tx a b c To Sn By Es Fl Gi Ta E2 F2 G2 T2) (· =⟨K,W,Es,Fl.set A.toNat ⟨To,Sn,By⟩,Fo,Gi,Ta⟩):=by
  refine Wp.step ?_
  simp only [aJ_,h1,h2,Option.bind_some]
  exact Wp.ret rfl
theorem wU_ {s:ByteArray} {b:Int} (h:0≤b∧b<s.size):idx (bY_ s) b=some ((bY_ s).getD b.toNat 0)∧(bY_ s)[b.toNat]? =some ((bY_ s).getD b.toNat 0):=by
  have hl:b.toNat<(bY_ s).length:=by
    have:(bY_ s).length=s.size:=by unfold bY_;rw [List.length_map,Array.length_toList];rfl
    omega
  have e:(bY_ s)[b.toNat]? =some ((bY_ s).getD b.toNat 0):=by rw [List.getD_eq_getElem?_getD,List.getElem?_eq_getElem hl];rfl
  refine ⟨?_,e⟩
  have:=e5_ (bY_ s) b.toNat
  rw [Int.toNat_of_nonneg h.1] at this
  rw [this,e]
theorem sF_ (w:ac_) (h:au_ w) (v:as_) (hk:2≤v.Kind∧v.Kind≤7) (h0:0≤v.A) {p:ad_} (hp:w.Flight[v.A.toNat]? =some p):Wp (fun k=>gx_ k w v) (· =hS_ w v p):=by
  have hv:vn_ p:=h.2.2.2.2.2.1 p (List.mem_of_getElem? hp)
  have hlt:=(List.getElem?_eq_some_iff.mp hp).1
  have hb:=sR_ w h v.A.toNat hp
  have hwo:=rd_ w.Flight v.A.toNat hlt h.2.2.1
  have hix:idx w.Flight v.A=some p:=by have:=e5_ w.Flight v.A.toNat;rw [Int.toNat_of_nonneg h0] at this;rw [this,hp]
  rw [Int.toNat_of_nonneg h0] at hb hwo
  obtain ⟨K,W,Es,Fl,Fo,Gi,Ta⟩:=w
  have h3:=h.2.2.1
  dsimp only at hp hlt h3 hwo hix
  unfold gx_ hS_
  dsimp only
  simp only [hix,hp,Option.bind_some,fl_]
  refine Wp.ite (fun e=> ?_) (fun e=> ?_)
  ·refine Wp.bind hb (fun _ e'=> ?_);subst e'
   exact Wp.ret (by rw [if_pos e])
  rw [if_neg e]
  refine Wp.ite (fun e4=> ?_) (fun e4=> ?_)
  ·refine Wp.bind hwo (fun _ e'=> ?_);subst e'
   exact Wp.ret (by rw [if_neg (by omega),if_pos e4];rfl)
  refine Wp.ite (fun e=> ?_) (fun e=> ?_)
  ·rw [if_pos e]
   refine Wp.dec (fun hl=> ?_) (fun hl=> ?_)
   ·refine Wp.opt (aQ_ (by simp;omega)) ?_
    exact (Cb_ ..).mono fun r hr=>by rw [hr,if_pos (by omega)];rfl
   ·exact (Cb_ ..).mono fun r hr=>by rw [hr,if_neg (by omega)]
  rw [if_neg e,if_neg e4]
  have same:Fl.set v.A.toNat ⟨p.To,p.Sent,p.Bytes⟩=Fl:=Bn_ hp
  refine Wp.ite (fun e=> ?_) (fun e=> ?_)
  ·rw [if_pos e]
   refine Wp.dec (fun h1=> ?_) (fun h1=> ?_)
   ·refine Wp.dec (fun h2=> ?_) (fun h2=> ?_)
    ·refine Wp.dec (fun h3=> ?_) (fun h3=> ?_)
     ·obtain ⟨b1,b2⟩:=wU_ (s:=p.Bytes) (b:=v.B) ⟨h1,h2⟩
      simp only [b1,b2,Option.bind_some]
      refine Wp.opt (gj_ h3 (by omega)) ?_
      exact (ng_ (h1:=hix) (h2:=hp) ..).mono fun r hr=>by rw [hr,if_pos ⟨⟨h1,h2⟩,h3⟩];rfl
     ·exact (ng_ (h1:=hix) (h2:=hp) ..).mono fun r hr=>by rw [hr,if_neg (fun g=>h3 g.2),same]
    ·exact (ng_ (h1:=hix) (h2:=hp) ..).mono fun r hr=>by rw [hr,if_neg (fun g=>h2 g.1.2),same]
   ·exact (ng_ (h1:=hix) (h2:=hp) ..).mono fun r hr=>by rw [hr,if_neg (fun g=>h1 g.1.1),same]
  rw [if_neg e]
  refine Wp.ite (fun e=> ?_) (fun e=> ?_)
  ·rw [if_pos e]
   refine Wp.dec (fun h1=> ?_) (fun h1=> ?_)
   ·refine Wp.dec (fun h2=> ?_) (fun h2=> ?_)
    ·refine Wp.opt (cA_ ⟨by omega,h1,h2⟩) ?_
     exact (ng_ (h1:=hix) (h2:=hp) ..).mono fun r hr=>by rw [hr,if_pos ⟨h1,h2⟩];rfl
    ·exact (ng_ (h1:=hix) (h2:=hp) ..).mono fun r hr=>by rw [hr,if_neg (fun g=>h2 g.2),same]
   ·exact (ng_ (h1:=hix) (h2:=hp) ..).mono fun r hr=>by rw [hr,if_neg (fun g=>h1 g.1),same]
  rw [if_neg e]
  refine Wp.ite (fun e=> ?_) (fun e=>by omega)
  have:=hv.1
  exact (ng_ (h1:=hix) (h2:=hp) ..).mono fun r hr=>by rw [hr,aS_ (n:=3-p.To) (by omega) (by omega)];rfl
theorem r5_ {w:ac_} {v:as_} {p:ad_} (hk:2≤v.Kind∧v.Kind≤7) (h0:0≤v.A) (hp:w.Flight[v.A.toNat]? =some p):doW w v=hS_ w v p:=by
  unfold doW;rw [if_neg (by omega),if_pos hk,if_pos h0,hp]
theorem kN_ {w:ac_} {v:as_} (hk:2≤v.Kind∧v.Kind≤7) (h0:¬(0≤v.A∧v.A<w.Flight.length)):doW w v=w:=by
  unfold doW;rw [if_neg (by omega),if_pos hk]
  split
  ·rename_i h;rw [List.getElem?_eq_none (by omega)]
  ·rfl
theorem wp_ {w:ac_} {v:as_} (hk:8≤v.Kind∧v.Kind≤11) (h0:1≤v.A∧v.A≤2):doW w v=kU_ w v:=by
  unfold doW;rw [if_neg (by omega),if_neg (by omega),if_pos ⟨hk,h0⟩]
theorem n7_ {w:ac_} {v:as_} (hk:¬(1≤v.Kind∧v.Kind≤11)∨(8≤v.Kind∧¬(1≤v.A∧v.A≤2))):doW w v=w:=by
  unfold doW;rw [if_neg (by omega),if_neg (by omega),if_neg (by omega)]
theorem y4_ (w:ac_) (h:au_ w) (v:as_):Wp (fun k=>ln_ k w v) (· =doW w v):=by
  have h3:=h.2.2.1
  unfold ln_
  simp only [fl_]
  refine Wp.ite (fun e=> ?_) (fun e=> ?_)
  ·refine Wp.bind (tH_ w h) (fun _ e'=> ?_);subst e'
   exact Wp.ret (by unfold doW;rw [if_pos e])
  refine Wp.bind (bX_ _ _ _) (fun _ e'=> ?_);subst e'
  refine Wp.bif (fun hb=> ?_) (fun hb=> ?_)
  ·simp only [Bool.and_eq_true,decide_eq_true_eq] at hb
   refine Wp.bind (bX_ _ _ _) (fun _ e'=> ?_);subst e'
   rw [aS_ (n:=(w.Flight.length:Int)-1) (by omega) (by omega)]
   refine Wp.bif (fun ha=> ?_) (fun ha=> ?_)
   ·simp only [Bool.and_eq_true,decide_eq_true_eq] at ha
    have hg:w.Flight[v.A.toNat]? =some (w.Flight[v.A.toNat]'(by omega)):=List.getElem?_eq_getElem (by omega)
    refine Wp.bind (sF_ w h v hb ha.1 hg) (fun _ e'=> ?_);subst e'
    exact Wp.ret (r5_ hb ha.1 hg).symm
   ·simp only [Bool.and_eq_false_iff,decide_eq_false_iff_not] at ha
    refine Wp.bind (bX_ _ _ _) (fun _ e'=> ?_);subst e'
    refine Wp.bif (fun h8=> ?_) (fun h8=>Wp.ret (kN_ hb (by omega)).symm)
    simp only [Bool.and_eq_true,decide_eq_true_eq] at h8
    omega
  ·simp only [Bool.and_eq_false_iff,decide_eq_false_iff_not] at hb
   refine Wp.bind (bX_ _ _ _) (fun _ e'=> ?_);subst e'
   refine Wp.bif (fun h8=> ?_) (fun h8=> ?_)
   ·simp only [Bool.and_eq_true,decide_eq_true_eq] at h8
    refine Wp.bind (bX_ _ _ _) (fun _ e'=> ?_);subst e'
    refine Wp.bif (fun ha=> ?_) (fun ha=> ?_)
    ·simp only [Bool.and_eq_true,decide_eq_true_eq] at ha
     refine Wp.bind (x6_ w h v h8 ha) (fun _ e'=> ?_);subst e'
     exact Wp.ret (wp_ h8 ha).symm
    ·simp only [Bool.and_eq_false_iff,decide_eq_false_iff_not] at ha
     exact Wp.ret (n7_ (.inr ⟨h8.1,by omega⟩)).symm
   ·simp only [Bool.and_eq_false_iff,decide_eq_false_iff_not] at h8
    exact Wp.ret (n7_ (.inl (by omega))).symm
theorem uP_ (K Fo K' Fo' a c:ByteArray) (W W' b:Int) (Fl Fl':List ad_) (Gi Ta Gi' Ta':List aa_) (E2:List an_) (F2:List ad_) (G2 T2:List aa_) (hf:Fl.length≤1000) (hg:Gi.length≤1000) (ht:Ta.length≤1000):∀(t pre:List an_),(pre++t).length≤1000→(∀e∈t,VEnd e)→
    Wp (fun k=>dV_ k (pre.length:Int) K W (pre++t) Fl Fo Gi Ta a b c K' W' Fl' Fo' Gi' Ta' E2 F2 G2 T2 pre) (· =⟨K',W',pre++t,Fl,Fo',Gi,Ta⟩)
  | [],pre,hl,hv=>by
    refine Wp.step ?_
    simp only [dV_]
    simp only [List.append_nil] at hl⊢
    simp (disch:=omega) only [al_,if_neg]
    refine Wp.opt (aQ_ (by simp;omega)) ?_
    refine Wp.opt (aQ_ (by simp;omega)) ?_
    refine Wp.opt (aQ_ (by simp;omega)) ?_
    exact Wp.ret (by simp)
  | e::t,pre,hl,hv=>by
    refine Wp.step ?_
    simp only [dV_]
    simp only [al_]
    simp only [List.length_append,List.length_cons] at hl
    refine Wp.ite (fun _=> ?_) (fun hx=>absurd (by simp;omega) hx)
    simp only [aI_,Option.bind_some]
    refine Wp.bind (f8_ e (hv e (by simp))) (fun _ e'=> ?_);have e'':=e'.symm;subst e''
    refine Wp.opt (aQ_ (by simp;omega)) ?_
    rw [aS_ (n:=(pre.length:Int)+1) (by omega) (by omega)]
    have:=uP_ K Fo K' Fo' a c W W' b Fl Fl' Gi Ta Gi' Ta' E2 F2 G2 T2 hf hg ht t (pre++[e]) (by simp;omega) (fun x hx=>hv x (by simp [hx]))
    simpa using this
theorem mV_ (w:ac_) (h:au_ w):Wp (fun k=>g4_ k w) (· =w):=by
  obtain ⟨K,W,Es,Fl,Fo,Gi,Ta⟩:=w
  have h5:=h.2.2.2.2.1
  have h4:=h.2.2.2.1
  have h3:=h.2.2.1
  dsimp only at h3 h4 h5
  obtain ⟨e,f,rfl,a1,_,a2,_⟩:=df_ h5
  unfold g4_
  have:=uP_ K Fo K Fo noB noB W W 0 Fl Fl Gi Ta Gi Ta [] [] [] [] (by omega) (by omega) (by omega) [e,f] [] (by simp) (by simp [a1,a2])
  simpa using this
theorem nt_ (w:ac_) (h:au_ w):Wp (fun k=>eN_ k w) (· =w):=by
  obtain ⟨K,W,Es,Fl,Fo,Gi,Ta⟩:=w
  have h5:=h.2.2.2.2.1
  have h4:=h.2.2.2.1
  have h3:=h.2.2.1
  dsimp only at h3 h4 h5
  obtain ⟨e,f,rfl,a1,_,a2,_⟩:=df_ h5
  unfold eN_
  refine Wp.opt (aQ_ (by simp)) ?_
  refine Wp.step ?_
  simp only [cs_]
  simp only [List.nil_append,List.length_cons,List.length_nil,al_]
  refine Wp.ite (fun _=> ?_) (fun hx=>by omega)
  refine Wp.opt (x:=e) rfl ?_
  refine Wp.opt (x:=e) rfl ?_
  refine Wp.bind (fj_ e a1) (fun _ e'=> ?_);have e'':=e'.symm;subst e''
  refine Wp.opt (x:=e) rfl ?_
  refine Wp.opt (x:=e) rfl ?_
  rw [show IntKind.wrap .i64 (0+1)=1 by rfl]
  refine Wp.step ?_
  simp only [cs_,al_]
  refine Wp.ite (fun _=> ?_) (fun hx=>by omega)
  refine Wp.opt (x:=f) rfl ?_
  refine Wp.opt (x:=f) rfl ?_
  refine Wp.bind (fj_ f a2) (fun _ e'=> ?_);have e'':=e'.symm;subst e''
  refine Wp.opt (x:=f) rfl ?_
  refine Wp.opt (x:=f) rfl ?_
  rw [show IntKind.wrap .i64 (1+1)=2 by rfl]
  refine Wp.step ?_
  simp only [cs_,al_]
  refine Wp.ite (fun hx=>by omega) (fun _=> ?_)
  refine Wp.opt (aQ_ (by simp;omega)) ?_
  refine Wp.opt (aQ_ (by simp;omega)) ?_
  refine Wp.opt (aQ_ (by simp;omega)) ?_
  exact Wp.ret (by rfl)
theorem u0_ (w:ac_) (hb:w.Given.length≤1048576∧w.Taken.length≤1048576) (v:as_):Wp (fun k=>qt_ k w v) (· =doM w v):=by
  unfold qt_ doM
  refine Wp.bind (cr_ w hb) (fun _ e=> ?_);subst e
  refine Wp.not (fun h=> ?_) (fun h=> ?_)
  ·exact Wp.ret (by rw [if_neg (of_decide_eq_false h)];rfl)
  ·have hv:=of_decide_eq_true h
   rw [if_pos hv]
   refine Wp.bind (mV_ w hv) (fun _ e=> ?_);have e'':=e.symm;subst e''
   refine Wp.bind (y4_ w hv v) (fun _ e=> ?_);subst e
   refine Wp.bind (mV_ _ (yK_ hv v)) (fun _ e=> ?_);subst e
   exact Wp.ret rfl
end Km.X
namespace Km.X
open Go Km
set_option linter.unusedVariables false
theorem i2_ {R:Type} (x:Option R):Km.both x x=x:=by unfold Km.both;rw [if_pos rfl]
theorem we_ {e:an_} {t:ByteArray} (hc:(gk_ e t).Code=0):(gk_ e t).End.Life=e.Life∧(gk_ e t).End.Peer=e.Peer:=by
  unfold gk_ at hc⊢
  split
  ·rename_i h1;rw [if_pos h1] at hc
   split
   ·rename_i h2;rw [if_pos h2] at hc
    split
    ·rename_i h3;rw [if_pos h3] at hc;cases hc
    ·rename_i h3;rw [if_neg h3] at hc
     split
     ·exact ⟨rfl,rfl⟩
     ·rename_i h4;rw [if_neg h4] at hc;exact absurd hc h4
   ·rename_i h2;rw [if_neg h2] at hc;cases hc
  ·rename_i h1;rw [if_neg h1] at hc;cases hc
section
variable (K Fo t1 t2 Tx:ByteArray) (W z Kd A B C:Int) (Es:List an_) (Fl:List ad_) (Gi Ta:List aa_) (E2:List an_) (F2:List ad_) (G2 T2:List aa_)
theorem zg_ (h:au_ ⟨K,W,Es,Fl,Fo,Gi,Ta⟩) (hk:Kd=2∨Kd=4):Wp (fun k=>g2_ k (decide (0≤A∧A<(Fl.length:Int))) Kd A B C Tx t1 z t2 K W Fo E2 F2 G2 T2 Es Fl Gi Ta) (· =doW ⟨K,W,Es,Fl,Fo,Gi,Ta⟩ ⟨Kd,A,B,C,Tx⟩):=by
  have h3:=h.2.2.1
  dsimp only at h3
  refine Wp.step ?_
  simp only [g2_]
  refine Wp.dec (fun hx=> ?_) (fun hx=> ?_)
  ·have hg:Fl[A.toNat]? =some (Fl[A.toNat]'(by omega)):=List.getElem?_eq_getElem (by omega)
   generalize Fl[A.toNat]'(by omega)=p at hg
   have hv:vn_ p:=h.2.2.2.2.2.1 p (List.mem_of_getElem? hg)
   have hix:idx Fl A=some p:=by have:=e5_ Fl A.toNat;rw [Int.toNat_of_nonneg hx.1] at this;rw [this,hg]
   simp only [hix,hg,Option.bind_some,if_true]
   refine Wp.opt (cA_ ⟨by omega,by omega,by omega⟩) ?_
   rw [aS_ (n:=A+1) (by omega) (by omega)]
   refine Wp.opt (cA_ ⟨by omega,by omega,by omega⟩) ?_
   dsimp only
   rw [show Int.toNat 0=0 from rfl,t7_,show Int.toNat (A+1)=A.toNat+1 by omega,Int.toNat_natCast,uU_]
   refine Wp.opt (aQ_ (by simp;omega)) ?_
   rw [xb_ Fl A.toNat (by omega),r5_ (p:=p) (by dsimp only;omega) hx.1 hg]
   unfold hS_
   dsimp only
   simp only [fl_]
   refine Wp.ite (fun e=> ?_) (fun e=> ?_)
   ·rw [if_pos e]
    refine Wp.bind (l9_ ⟨K,W,Es,Fl.eraseIdx A.toNat,Fo,Gi,Ta⟩ (hO_ h (by have:=List.length_eraseIdx_le Fl A.toNat;omega) (so_ h.2.2.2.2.2.1 _)) p hv.1 (by have:=hv.2.2;omega)) (fun r e'=> ?_)
    exact (oN_ ..).mono fun x hr=>by rw [hr,e'];rfl
   ·rw [if_neg e,if_neg (by omega),if_pos (by omega)]
    exact (oN_ ..).mono fun x hr=>by rw [hr];rfl
  ·exact (oN_ ..).mono fun x hr=>by rw [hr,kN_ (by dsimp only;omega) hx]
theorem Cy_ (h:au_ ⟨K,W,Es,Fl,Fo,Gi,Ta⟩) (hk:Kd≠1∧Kd≠2∧Kd≠4):Wp (fun k=>iC_ k (decide (1≤A∧A≤2)) (decide (0≤A∧A<(Fl.length:Int))) Kd Kd A B C Tx t1 z t2 K W Fo E2 F2 G2 T2 Es Fl Gi Ta) (· =doW ⟨K,W,Es,Fl,Fo,Gi,Ta⟩ ⟨Kd,A,B,C,Tx⟩):=by
  have h3:=h.2.2.1
  have h4:=h.2.2.2.1
  have h5:=h.2.2.2.2.1
  dsimp only at h3 h4 h5
  have none_ok:∀(Q:Prop),(1≤Kd→Kd≤11→(8≤Kd∧¬(1≤A∧A≤2))∨(Kd≤7∧¬(0≤A∧A<(Fl.length:Int))))→Wp (fun k=>ar_ k t1 z t2 K W Fo E2 F2 G2 T2 Es Fl Gi Ta) (· =doW ⟨K,W,Es,Fl,Fo,Gi,Ta⟩ ⟨Kd,A,B,C,Tx⟩):=fun _ hq=>by
    refine (oN_ ..).mono fun x hr=> ?_
    rw [hr]
    by_cases h1:1≤Kd∧Kd≤11
    ·rcases hq h1.1 h1.2 with ⟨h8,hn⟩ | ⟨h7,hn⟩
     ·rw [n7_ (.inr ⟨h8,hn⟩)]
     ·rw [kN_ (by dsimp only;omega) hn]
    ·rw [n7_ (.inl h1)]
  have par:∀p,Fl[A.toNat]? =some p→idx Fl A=some p→2≤Kd∧Kd≤7→0≤A→∀y,hS_ ⟨K,W,Es,Fl,Fo,Gi,Ta⟩ ⟨Kd,A,B,C,Tx⟩ p=y→∀Fl',cd_ ⟨K,W,Es,Fl,Fo,Gi,Ta⟩ Fl'=y→Wp (fun k=>ar_ k t1 z t2 K W Fo E2 F2 G2 T2 Es Fl' Gi Ta) (· =doW ⟨K,W,Es,Fl,Fo,Gi,Ta⟩ ⟨Kd,A,B,C,Tx⟩):=fun p hp hi hk2 h0 y hy Fl' hF=>by
    refine (oN_ ..).mono fun x hr=> ?_
    rw [hr,r5_ (p:=p) hk2 h0 hp,hy,←hF];rfl
  have hin:0≤A∧A<(Fl.length:Int)→∃p,Fl[A.toNat]? =some p∧idx Fl A=some p∧vn_ p:=fun hx=>by
    have hg:Fl[A.toNat]? =some (Fl[A.toNat]'(by omega)):=List.getElem?_eq_getElem (by omega)
    refine ⟨_,hg, ?_,h.2.2.2.2.2.1 _ (List.mem_of_getElem? hg)⟩
    have:=e5_ Fl A.toNat
    rw [Int.toNat_of_nonneg hx.1] at this;rw [this,hg]
  refine Wp.step ?_
  simp only [iC_,fl_]
  refine Wp.ite (fun e=> ?_) (fun e3=> ?_)
  ·refine Wp.dec (fun hx=> ?_) (fun hx=>none_ok True (by omega))
   obtain ⟨p,hp,hi,hv⟩:=hin hx
   refine Wp.dec (fun hl=> ?_) (fun hl=> ?_)
   ·simp only [hi,hp,Option.bind_some]
    refine Wp.opt (aQ_ (by simp;omega)) ?_
    exact par p hp hi (by omega) hx.1 _ (by unfold hS_;dsimp only;rw [if_neg (by omega),if_pos e,if_pos (by omega)]) _ rfl
   ·exact par p hp hi (by omega) hx.1 _ (by unfold hS_;dsimp only;rw [if_neg (by omega),if_pos e,if_neg (by omega)];rfl) _ rfl
  refine Wp.ite (fun e=> ?_) (fun e5=> ?_)
  ·refine Wp.dec (fun hx=> ?_) (fun hx=>none_ok True (by omega))
   obtain ⟨p,hp,hi,hv⟩:=hin hx
   have u:¬((0≤B∧B<(p.Bytes.size:Int))∧0≤C)→hS_ ⟨K,W,Es,Fl,Fo,Gi,Ta⟩ ⟨Kd,A,B,C,Tx⟩ p=⟨K,W,Es,Fl,Fo,Gi,Ta⟩:=fun hn=>by
     unfold hS_;dsimp only;rw [if_neg (by omega),if_neg (by omega),if_neg (by omega),if_pos e,if_neg hn]
   refine Wp.dec (fun h1=> ?_) (fun h1=>par p hp hi (by omega) hx.1 _ (u (by omega)) _ rfl)
   refine Wp.dec (fun h2=> ?_) (fun h2=>par p hp hi (by omega) hx.1 _ (u (by omega)) _ rfl)
   simp only [hi,hp,Option.bind_some]
   refine Wp.dec (fun h3=> ?_) (fun h3=>par p hp hi (by omega) hx.1 _ (u (by omega)) _ rfl)
   obtain ⟨b1,b2⟩:=wU_ (s:=p.Bytes) (b:=B) ⟨h2,h3⟩
   simp only [b1,b2,Option.bind_some]
   refine Wp.opt (gj_ h1 (by omega)) ?_
   exact par p hp hi (by omega) hx.1 _ (by unfold hS_;dsimp only;rw [if_neg (by omega),if_neg (by omega),if_neg (by omega),if_pos e,if_pos ⟨⟨h2,h3⟩,h1⟩];rfl) _ rfl
  refine Wp.ite (fun e=> ?_) (fun e6=> ?_)
  ·refine Wp.dec (fun hx=> ?_) (fun hx=>none_ok True (by omega))
   obtain ⟨p,hp,hi,hv⟩:=hin hx
   have u:¬(0≤B∧B≤(p.Bytes.size:Int))→hS_ ⟨K,W,Es,Fl,Fo,Gi,Ta⟩ ⟨Kd,A,B,C,Tx⟩ p=⟨K,W,Es,Fl,Fo,Gi,Ta⟩:=fun hn=>by
     unfold hS_;dsimp only;rw [if_neg (by omega),if_neg (by omega),if_neg (by omega),if_neg (by omega),if_pos e,if_neg hn]
   refine Wp.dec (fun h1=> ?_) (fun h1=>par p hp hi (by omega) hx.1 _ (u (by omega)) _ rfl)
   simp only [hi,hp,Option.bind_some]
   refine Wp.dec (fun h2=> ?_) (fun h2=>par p hp hi (by omega) hx.1 _ (u (by omega)) _ rfl)
   refine Wp.opt (cA_ ⟨by omega,h1,h2⟩) ?_
   exact par p hp hi (by omega) hx.1 _ (by unfold hS_;dsimp only;rw [if_neg (by omega),if_neg (by omega),if_neg (by omega),if_neg (by omega),if_pos e,if_pos ⟨h1,h2⟩];rfl) _ rfl
  refine Wp.ite (fun e=> ?_) (fun e7=> ?_)
  ·refine Wp.dec (fun hx=> ?_) (fun hx=>none_ok True (by omega))
   obtain ⟨p,hp,hi,hv⟩:=hin hx
   simp only [hi,hp,Option.bind_some]
   have:=hv.1
   rw [aS_ (n:=3-p.To) (by omega) (by omega)]
   exact par p hp hi (by omega) hx.1 _ (by unfold hS_;dsimp only;rw [if_neg (by omega),if_neg (by omega),if_neg (by omega),if_neg (by omega),if_neg (by omega)]) _ rfl
  have en:(8≤Kd∧Kd≤11)→(1≤A∧A≤2)→∀y:ac_,kU_ ⟨K,W,Es,Fl,Fo,Gi,Ta⟩ ⟨Kd,A,B,C,Tx⟩=y→Wp (fun k=>ar_ k t1 z t2 y.Key y.Width y.Forged E2 F2 G2 T2 y.Ends y.Flight y.Given y.Taken) (· =doW ⟨K,W,Es,Fl,Fo,Gi,Ta⟩ ⟨Kd,A,B,C,Tx⟩):=fun hk2 hn y hy=>by
    refine (oN_ ..).mono fun x hr=> ?_
    rw [hr,wp_ hk2 hn,hy]
  refine Wp.ite (fun e=> ?_) (fun e8=> ?_)
  ·refine Wp.dec (fun hx=> ?_) (fun hx=>none_ok True (by omega))
   obtain ⟨a1,a2,a3⟩:=jJ_ h5 hx
   simp only [a1,a2,a3,Option.bind_some]
   refine Wp.bind (wl_ _) (fun r e'=> ?_)
   exact en (by omega) hx ⟨K,W,c1_ A r Es,Fl,Fo,Gi,Ta⟩ (by unfold kU_;dsimp only;rw [if_pos e,e'];rfl)
  refine Wp.ite (fun e=> ?_) (fun e9=> ?_)
  ·refine Wp.dec (fun hx=> ?_) (fun hx=>none_ok True (by omega))
   obtain ⟨a1,a2,a3⟩:=jJ_ h5 hx
   simp only [a1,a2,a3,Option.bind_some]
   refine Wp.bind (vP_ _) (fun r e'=> ?_)
   exact en (by omega) hx ⟨K,W,c1_ A r Es,Fl,Fo,Gi,Ta⟩ (by unfold kU_;dsimp only;rw [if_neg e8,if_pos e,e'];rfl)
  refine Wp.ite (fun e=> ?_) (fun e10=> ?_)
  ·refine Wp.dec (fun hx=> ?_) (fun hx=>none_ok True (by omega))
   obtain ⟨a1,a2,a3⟩:=jJ_ h5 hx
   have pu:∀y,mx_ ⟨K,W,Es,Fl,Fo,Gi,Ta⟩ A Tx=y→kU_ ⟨K,W,Es,Fl,Fo,Gi,Ta⟩ ⟨Kd,A,B,C,Tx⟩=y:=fun y hy=>by
     unfold kU_;dsimp only;rw [if_neg e8,if_neg e9,if_pos e];exact hy
   unfold d6_
   simp only [Option.bind_some,i2_,w9_ h4]
   refine Wp.not (fun hc=> ?_) (fun hc=> ?_)
   ·have hc:=of_decide_eq_false hc
    simp only [a1,a2,a3,Option.bind_some]
    refine Wp.bind (ux_ _ _) (fun r e'=> ?_);subst e'
    refine Wp.ite (fun h0=> ?_) (fun h0=> ?_)
    ·refine Wp.opt (aQ_ (by simp;omega)) ?_
     obtain ⟨l1,l2⟩:=we_ h0
     rw [l1,l2]
     exact en (by omega) hx ⟨K,W,c1_ A (gk_ (af_ A Es) Tx).End Es,Fl,Fo,Gi++[⟨A,(af_ A Es).Life,(af_ A Es).Peer,Tx⟩],Ta⟩ (pu _ (by unfold mx_;dsimp only;rw [if_pos ⟨by omega,h0⟩]))
    ·exact en (by omega) hx ⟨K,W,Es,Fl,Fo,Gi,Ta⟩ (pu _ (by unfold mx_;dsimp only;rw [if_neg (fun g=>h0 g.2)]))
   ·have hc:=of_decide_eq_true hc
    exact en (by omega) hx ⟨K,W,Es,Fl,Fo,Gi,Ta⟩ (pu _ (by unfold mx_;dsimp only;rw [if_neg (fun g=>by omega)]))
  refine Wp.ite (fun e=> ?_) (fun e11=>none_ok True (by omega))
  refine Wp.dec (fun hx=> ?_) (fun hx=>none_ok True (by omega))
  refine Wp.bind (ne_ ⟨K,W,Es,Fl,Fo,Gi,Ta⟩ h A hx) (fun r e'=> ?_)
  exact en (by omega) hx r (by unfold kU_;dsimp only;rw [if_neg e8,if_neg e9,if_neg e10,e'])
theorem Cl_ (h:au_ ⟨K,W,Es,Fl,Fo,Gi,Ta⟩):Wp (fun k=>h5_ k (decide (1≤A∧A≤2)) (decide (0≤A∧A<(Fl.length:Int))) Kd A B C Tx t1 z t2 K W Fo E2 F2 G2 T2 Es Fl Gi Ta) (· =doW ⟨K,W,Es,Fl,Fo,Gi,Ta⟩ ⟨Kd,A,B,C,Tx⟩):=by
  refine Wp.step ?_
  simp only [h5_,fl_]
  refine Wp.ite (fun e=> ?_) (fun e1=> ?_)
  ·refine Wp.bind (nd_ ⟨K,W,Es,Fl,Fo,Gi,Ta⟩ h) (fun r e'=> ?_)
   exact (oN_ ..).mono fun x hr=>by rw [hr,e'];unfold doW;rw [if_pos e]
  refine Wp.ite (fun e=>zg_ _ _ _ _ _ _ _ _ _ _ _ _ _ _ _ _ _ _ _ h (.inl e)) (fun e2=> ?_)
  refine Wp.ite (fun e=>zg_ _ _ _ _ _ _ _ _ _ _ _ _ _ _ _ _ _ _ _ h (.inr e)) (fun e4=> ?_)
  exact Cy_ _ _ _ _ _ _ _ _ _ _ _ _ _ _ _ _ _ _ _ h ⟨e1,e2,e4⟩
theorem Cf_ (h:au_ ⟨K,W,Es,Fl,Fo,Gi,Ta⟩):Wp (fun k=>hW_ k (decide (1≤A∧A≤2)) Kd A B C Tx t1 z t2 K W Fo E2 F2 G2 T2 Es Fl Gi Ta) (· =doW ⟨K,W,Es,Fl,Fo,Gi,Ta⟩ ⟨Kd,A,B,C,Tx⟩):=by
  refine Wp.step ?_
  simp only [hW_]
  refine Wp.dec (fun hx=> ?_) (fun hx=> ?_)
  ·have:=Cl_ K Fo t1 t2 Tx W z Kd A B C Es Fl Gi Ta E2 F2 G2 T2 h
   rw [show decide (0≤A∧A<(Fl.length:Int))=decide (A<(Fl.length:Int)) from decide_eq_decide.mpr ⟨fun g=>g.2,fun g=>⟨hx,g⟩⟩] at this
   exact this
  ·have:=Cl_ K Fo t1 t2 Tx W z Kd A B C Es Fl Gi Ta E2 F2 G2 T2 h
   rw [show decide (0≤A∧A<(Fl.length:Int))=false from decide_eq_false (fun g=>hx g.1)] at this
   exact this
end
theorem li_ (w:ac_) (hb:w.Given.length≤1048576∧w.Taken.length≤1048576) (v:as_):Wp (fun k=>kQ_ k w v) (· =doM w v):=by
  unfold kQ_ doM
  refine Wp.bind (eD_ w hb) (fun _ e=> ?_);subst e
  refine Wp.not (fun h=> ?_) (fun h=> ?_)
  ·exact Wp.ret (by rw [if_neg (of_decide_eq_false h)];rfl)
  ·have hv:=of_decide_eq_true h
   rw [if_pos hv]
   refine Wp.bind (nt_ w hv) (fun _ e=> ?_);have e'':=e.symm;subst e''
   simp only [fl_]
   refine Wp.ite (fun e=> ?_) (fun e=> ?_)
   ·have:=Cf_ w.Key w.Forged noB noB v.Text w.Width 0 v.Kind v.A v.B v.C w.Ends w.Flight w.Given w.Taken [] [] [] [] hv
    rw [show decide (1≤v.A∧v.A≤2)=true from decide_eq_true (by omega)] at this
    exact this
   ·have:=Cf_ w.Key w.Forged noB noB v.Text w.Width 0 v.Kind v.A v.B v.C w.Ends w.Flight w.Given w.Taken [] [] [] [] hv
    rw [show decide (1≤v.A∧v.A≤2)=(v.A==2) by rw [Bool.eq_iff_iff];simp;omega] at this
    exact this
end Km.X
namespace Km.X
open Go Km
set_option linter.unusedVariables false
set_option linter.unusedSimpArgs false
theorem eq_pair_iff {x y:DPair}:a7_ x y=true↔x=y:=⟨mf_,fun h=>by subst h;simp [a7_]⟩
instance:DecidableEq DPair:=fun x y=>decidable_of_iff _ eq_pair_iff
def mget {β:Type} (key:DPair):List (DPair×β)→Option β
  | []=>none
  | (a,b)::l=>if a=key then some b else mget key l
theorem gL_ {β:Type} {key:DPair}:∀{l:List (DPair×β)} {i:Nat},a3_ (a7_ key) l i=none→mget key l=none
  | [],_,_=>rfl
  | (a,b)::l,i,h=>by
    simp only [a3_] at h
    split at h
    ·cases h
    ·rename_i hq
     simp only [mget]
     rw [if_neg (fun e=>by subst e;rw [eq_pair_iff.mpr rfl] at hq;cases hq)]
     exact gL_ h
theorem gK_ {β:Type} {key:DPair}:∀{l:List (DPair×β)} {i j:Nat} {b:β},a3_ (a7_ key) l i=some (j,b)→∃d,j=i+d∧l[d]? =some (key,b)∧mget key l=some b∧∀v key',mget key' (l.set d (key,v))=if key'=key then some v else mget key' l
  | [],_,_,_,h=>by cases h
  | (a,c)::l,i,j,b,h=>by
    simp only [a3_] at h
    split at h
    ·rename_i hq
     have:=mf_ hq;subst this
     cases h
     refine ⟨0,rfl,rfl,by simp only [mget,if_true],fun v key'=> ?_⟩
     simp only [List.set_cons_zero,mget]
     by_cases e:key=key'
     ·subst e;simp
     ·rw [if_neg e,if_neg e,if_neg (fun g=>e g.symm)]
    ·rename_i hq
     have hne:a≠key:=fun e=>by subst e;rw [eq_pair_iff.mpr rfl] at hq;cases hq
     obtain ⟨d,e1,e2,e3,e4⟩:=gK_ h
     refine ⟨d+1,by omega,e2,by simp only [mget];rw [if_neg hne,e3],fun v key'=> ?_⟩
     simp only [List.set_cons_succ,mget,e4]
     by_cases e:a=key'
     ·subst e;rw [if_pos rfl,if_neg hne,if_pos rfl]
     ·rw [if_neg e,if_neg e]
theorem k6_ {β:Type} {key key':DPair} {v:β}:∀(l:List (DPair×β)),mget key l=none→mget key' (l++[(key,v)])=if key'=key then some v else mget key' l
  | [],_=>by
    simp only [List.nil_append,mget]
    by_cases e:key=key'
    ·subst e;simp
    ·rw [if_neg e,if_neg (fun g=>e g.symm)]
  | (a,b)::l,h=>by
    simp only [mget] at h
    split at h
    ·cases h
    ·rename_i hne
     simp only [List.cons_append,mget,k6_ l h]
     by_cases e:a=key'
     ·subst e;rw [if_pos rfl,if_neg hne,if_pos rfl]
     ·rw [if_neg e,if_neg e]
theorem sv_ {α:Type} (l:List α) (x y:α):(l++[x]).set l.length y=l++[y]:=by simp
theorem wL_ {β:Type} {l:List (DPair×β)} {d:Nat} {key:DPair} {b:β} (h:l[d]? =some (key,b)):(l.modify d fun e=>(e.1,b))=l:=by
  obtain ⟨h1,h2⟩:=List.getElem?_eq_some_iff.mp h
  apply List.ext_getElem?
  intro i
  rw [List.getElem?_modify]
  by_cases e:d=i
  ·subst e;rw [h];simp
  ·cases l[i]? <;>simp [e]
def kf (r:aa_):DPair:=⟨r.From,r.A,r.B⟩
def aE_ (l:List aa_) (key:DPair):List ByteArray:=(l.filter (fun r=>decide (kf r=key))).map (·.Text)
theorem bt_ (l:List aa_) (r:aa_) (key:DPair):aE_ (l++[r]) key=if key=kf r then aE_ l key++[r.Text] else aE_ l key:=by
  unfold aE_
  rw [List.filter_append,List.map_append]
  by_cases e:kf r=key
  ·subst e;simp
  ·rw [if_neg (fun g=>e g.symm)];simp [e]
theorem is_ (l:List aa_) (r:aa_) (key:DPair):aE_ (r::l) key=if kf r=key then r.Text::aE_ l key else aE_ l key:=by
  unfold aE_
  by_cases e:kf r=key
  ·simp [e]
  ·simp [e]
theorem fg_ (l:List aa_) (key:DPair):(aE_ l key).length≤l.length:=by
  unfold aE_;rw [List.length_map];exact List.length_filter_le _ _
def ic_ (G:List aa_):List aa_→List aa_→Bool
  | _,[]=>true
  | pre,r::t=>decide ((aE_ G (kf r))[(aE_ pre (kf r)).length]? =some r.Text)&&ic_ G (pre++[r]) t
def rQ_ (w:ac_):Bool:=decide (au_ w)&&ic_ w.Given [] w.Taken
def y7_ (th:Bool) (n:Int) (t:List aa_) (x:aa_):Bool:=th || decide (0≤n∧(aE_ t (kf x))[n.toNat]? =some x.Text)
theorem Ga_ (K Fo:ByteArray) (W i:Int) (Es:List an_) (Fl:List ad_) (Ta:List aa_) (x:aa_) (Q:Bool→Prop) (G:List aa_) (hG:G.length≤1000):∀(t pre:List aa_) (n:Int) (th:Bool),pre++t=G→(-(pre.length:Int)≤n∧n≤1000)→
    (y7_ th n t x=true→Wp (fun k=>du_ k (IntKind.wrap .i64 (i+1)) K W Es Fl Fo G Ta) Q)→(y7_ th n t x=false→Q false)→
    Wp (fun k=>c4_ k i n th (pre.length:Int) K W Es Fl Fo G Ta x.From x.A x.B x.Text) Q
  | [],pre,n,th,he,hn,go,no=>by
    have he':pre=G:=by simpa using he
    refine Wp.step ?_
    simp only [c4_]
    refine Wp.dec (fun h=>by rw [←he'] at h;omega) (fun _=> ?_)
    have e:y7_ th n [] x=th:=by simp [y7_,aE_]
    refine Wp.not (fun h=> ?_) (fun h=>go (by rw [e,h]))
    exact Wp.ret (no (by rw [e,h]))
  | y::t,pre,n,th,he,hn,go,no=>by
    have hl:pre.length+(y::t).length≤1000:=by rw [←List.length_append,he];exact hG
    simp only [List.length_cons] at hl
    refine Wp.step ?_
    simp only [c4_]
    refine Wp.dec (fun _=> ?_) (fun h=>absurd (by rw [←he];simp;omega) h)
    rw [show idx G (pre.length:Int)=some y by rw [←he];exact aI_]
    simp only [Option.bind_some,fl_]
    have nx:∀(m:Int) (b:Bool),(n-1≤m∧m≤n)→y7_ b m t x=y7_ th n (y::t) x→Wp (fun k=>bC_ k i m b (pre.length:Int) K W Es Fl Fo G Ta x.From x.A x.B x.Text) Q:=fun m b hm hs=>by
      refine Wp.step ?_
      simp only [bC_]
      rw [aS_ (n:=(pre.length:Int)+1) (by omega) (by omega)]
      have:=Ga_ K Fo W i Es Fl Ta x Q G hG t (pre++[y]) m b (by rw [←he];simp) (by simp;omega) (fun h=>go (hs▸h)) (fun h=>no (hs▸h))
      rw [show ((pre++[y]).length:Int)=(pre.length:Int)+1 by simp] at this
      exact this
    have other:kf y≠kf x→Wp (fun k=>bC_ k i n th (pre.length:Int) K W Es Fl Fo G Ta x.From x.A x.B x.Text) Q:=fun hne=>by
      refine nx n th (by omega) ?_
      simp only [y7_,is_,if_neg hne]
    refine Wp.ite (fun e1=> ?_) (fun e1=>other (fun g=>e1 (congrArg DPair.f g)))
    refine Wp.ite (fun e2=> ?_) (fun e2=>other (fun g=>e2 (congrArg DPair.a g)))
    refine Wp.ite (fun e3=> ?_) (fun e3=>other (fun g=>e3 (congrArg DPair.b g)))
    have hk:kf y=kf x:=by simp [kf,e1,e2,e3]
    rw [aS_ (n:=n-1) (by omega) (by omega)]
    refine Wp.bif (fun h=> ?_) (fun h=> ?_)
    ·exact nx _ _ (by omega) (by simp [y7_,h])
    ·refine Wp.ite (fun h0=> ?_) (fun h0=> ?_)
     ·rw [Co_]
      refine nx _ _ (by omega) ?_
      subst h0
      simp only [y7_,h,is_,if_pos hk]
      simp
     ·refine nx _ _ (by omega) ?_
      simp only [y7_,h,is_,if_pos hk,Bool.false_or]
      apply decide_eq_decide.mpr
      constructor
      ·rintro ⟨h1,h2⟩
       refine ⟨by omega, ?_⟩
       rw [show n.toNat=(n-1).toNat+1 by omega,List.getElem?_cons_succ];exact h2
      ·rintro ⟨h1,h2⟩
       refine ⟨by omega, ?_⟩
       rw [show n.toNat=(n-1).toNat+1 by omega,List.getElem?_cons_succ] at h2;exact h2
theorem sr9 (K Fo:ByteArray) (W i:Int) (Es:List an_) (Fl:List ad_) (G:List aa_) (x:aa_) (Q:Bool→Prop) (Ta:List aa_) (hT:Ta.length≤1000):∀(p2 p1 rest:List aa_),p1++p2++rest=Ta→i=((p1++p2).length:Int)→
    Wp (fun k=>c4_ k i ((aE_ (p1++p2) (kf x)).length:Int) false 0 K W Es Fl Fo G Ta x.From x.A x.B x.Text) Q→
    Wp (fun k=>eq_ k i ((aE_ p1 (kf x)).length:Int) (p1.length:Int) K W Es Fl Fo G Ta x.From x.A x.B x.Text) Q
  | [],p1,rest,he,hi,go=>by
    simp only [List.append_nil] at hi go
    refine Wp.step ?_
    simp only [eq_]
    refine Wp.dec (fun h=>by omega) (fun _=>go)
  | y::p2,p1,rest,he,hi,go=>by
    have hl:p1.length+(p2.length+1)+rest.length≤1000:=by
      have:(p1++(y::p2)++rest).length≤1000:=by rw [he];exact hT
      simp at this;omega
    refine Wp.step ?_
    simp only [eq_]
    refine Wp.dec (fun _=> ?_) (fun h=>absurd (by rw [hi];simp;omega) h)
    rw [show idx Ta (p1.length:Int)=some y by rw [←he,List.append_assoc];exact aI_]
    simp only [Option.bind_some,fl_]
    have hlen:=fg_ p1 (kf x)
    have nx:Wp (fun k=>cp_ k i ((aE_ (p1++[y]) (kf x)).length:Int) (p1.length:Int) K W Es Fl Fo G Ta x.From x.A x.B x.Text) Q:=by
      refine Wp.step ?_
      simp only [cp_]
      rw [aS_ (n:=(p1.length:Int)+1) (by omega) (by omega)]
      have:=sr9 K Fo W i Es Fl G x Q Ta hT p2 (p1++[y]) rest (by rw [←he];simp) (by rw [hi];simp) (by simpa using go)
      rw [show ((p1++[y]).length:Int)=(p1.length:Int)+1 by simp] at this
      exact this
    have other:kf y≠kf x→Wp (fun k=>cp_ k i ((aE_ p1 (kf x)).length:Int) (p1.length:Int) K W Es Fl Fo G Ta x.From x.A x.B x.Text) Q:=fun hne=>by
      rw [bt_,if_neg (fun g=>hne g.symm)] at nx;exact nx
    refine Wp.ite (fun e1=> ?_) (fun e1=>other (fun g=>e1 (congrArg DPair.f g)))
    refine Wp.ite (fun e2=> ?_) (fun e2=>other (fun g=>e2 (congrArg DPair.a g)))
    refine Wp.ite (fun e3=> ?_) (fun e3=>other (fun g=>e3 (congrArg DPair.b g)))
    have hk:kf x=kf y:=by simp [kf,e1,e2,e3]
    rw [aS_ (n:=((aE_ p1 (kf x)).length:Int)+1) (by omega) (by omega)]
    rw [bt_,if_pos hk,List.length_append] at nx
    exact nx
theorem sr4 (K Fo:ByteArray) (W:Int) (Es:List an_) (Fl:List ad_) (G Ta:List aa_) (hG:G.length≤1000) (hT:Ta.length≤1000):∀(t pre:List aa_),pre++t=Ta→Wp (fun k=>du_ k (pre.length:Int) K W Es Fl Fo G Ta) (· =ic_ G pre t)
  | [],pre,he=>by
    have he':pre=Ta:=by simpa using he
    refine Wp.step ?_
    simp only [du_]
    refine Wp.dec (fun h=>by rw [←he'] at h;omega) (fun _=>Wp.ret rfl)
  | x::t,pre,he=>by
    have hl:pre.length+(t.length+1)≤1000:=by
      have:(pre++(x::t)).length≤1000:=by rw [he];exact hT
      simpa using this
    refine Wp.step ?_
    simp only [du_]
    refine Wp.dec (fun _=> ?_) (fun h=>absurd (by rw [←he];simp;omega) h)
    rw [show idx Ta (pre.length:Int)=some x by rw [←he];exact aI_]
    simp only [Option.bind_some]
    have hlen:=fg_ pre (kf x)
    refine sr9 K Fo W (pre.length:Int) Es Fl G x _ Ta hT pre [] (x::t) (by simpa using he) (by simp) ?_
    simp only [List.nil_append]
    refine Ga_ K Fo W (pre.length:Int) Es Fl Ta x _ G hG G [] _ false rfl (by simp;omega) (fun hs=> ?_) (fun hs=> ?_)
    ·rw [aS_ (n:=(pre.length:Int)+1) (by omega) (by omega)]
     have:=sr4 K Fo W Es Fl G Ta hG hT t (pre++[x]) (by rw [←he];simp)
     rw [show ((pre++[x]).length:Int)=(pre.length:Int)+1 by simp] at this
     refine this.mono fun r hr=> ?_
     rw [hr]
     simp only [y7_,Bool.false_or,decide_eq_true_eq,Int.toNat_natCast] at hs
     simp only [ic_,decide_eq_true hs.2,Bool.true_and]
    ·simp only [y7_,Bool.false_or,decide_eq_false_iff_not,Int.toNat_natCast] at hs
     simp only [ic_]
     rw [decide_eq_false (fun g=>hs ⟨by omega,g⟩)];rfl
theorem uv_ (w:ac_) (hb:w.Given.length≤1048576∧w.Taken.length≤1048576):Wp (fun k=>j1_ k w) (· =rQ_ w):=by
  unfold j1_ rQ_
  refine Wp.bind (cr_ w hb) (fun _ e=> ?_);subst e
  refine Wp.not (fun h=>Wp.ret (by rw [h];rfl)) (fun h=> ?_)
  have hv:=of_decide_eq_true h
  have h4:=hv.2.2.2.1
  rw [h]
  exact sr4 w.Key w.Forged w.Width w.Ends w.Flight w.Given w.Taken (by omega) (by omega) w.Taken [] rfl
end Km.X
namespace Km.X
open Go Km
set_option linter.unusedVariables false
set_option linter.unusedSimpArgs false
theorem Wp.optK {α R:Type} {o:Option α} {A:Nat→Option R} {B:Nat→α→Option R} {Q:R→Prop} (h0:o=none→Wp A Q) (h1:∀p,o=some p→Wp (fun k=>B k p) Q):Wp (fun k=>Km.optK o (A k) (B k)) Q:=by
  cases o with
  | none=>exact h0 rfl
  | some p=>exact h1 p rfl
theorem mX_ {β:Type} {key:DPair} {v:β}:∀{l:List (DPair×β)} {i:Nat},a3_ (a7_ key) l i=none→a3_ (a7_ key) (l++[(key,v)]) i=some (i+l.length,v)
  | [],i,_=>by simp only [List.nil_append,a3_,eq_pair_iff.mpr rfl];rfl
  | (a,b)::l,i,h=>by
    simp only [a3_] at h
    split at h
    ·cases h
    ·rename_i hq
     simp only [List.cons_append,a3_,hq]
     rw [mX_ h];simp;omega
def EW_ (m:List (DPair×List ByteArray)) (pre:List aa_):Prop:=∀key,(mget key m).getD []=aE_ pre key
def AtI (m:List (DPair×Int)) (pre:List aa_):Prop:=∀key,(mget key m).getD 0=((aE_ pre key).length:Int)
theorem ir5 (K Fo:ByteArray) (W:Int) (Es:List an_) (Fl:List ad_) (G Ta:List aa_) (hG:G.length≤1000) (Q:Bool→Prop):∀(t pre:List aa_) (m:List (DPair×List ByteArray)),pre++t=G→EW_ m pre→
    (∀m,EW_ m G→Wp (fun k=>aO_ k Ta (Ta.length:Int) 0 m []) Q)→
    Wp (fun k=>cX_ k G (G.length:Int) (pre.length:Int) K W Es Fl Fo G Ta m) Q
  | [],pre,m,he,hi,go=>by
    have he':pre=G:=by simpa using he
    refine Wp.step ?_
    simp only [cX_]
    refine Wp.dec (fun h=>by rw [he'] at h;omega) (fun _=> ?_)
    exact go m (he'▸hi)
  | x::t,pre,m,he,hi,go=>by
    have hl:pre.length+(t.length+1)≤1000:=by
      have:(pre++(x::t)).length≤1000:=by rw [he];exact hG
      simpa using this
    refine Wp.step ?_
    simp only [cX_]
    refine Wp.dec (fun _=> ?_) (fun h=>absurd (by rw [←he];simp;omega) h)
    rw [show idx G (pre.length:Int)=some x by rw [←he];exact aI_]
    simp only [Option.bind_some]
    have hk:(⟨x.From,x.A,x.B⟩:DPair)=kf x:=rfl
    rw [hk,aS_ (n:=(pre.length:Int)+1) (by omega) (by omega)]
    have hlen:=fg_ pre (kf x)
    have nx:∀m',EW_ m' (pre++[x])→Wp (fun k=>cX_ k G (G.length:Int) ((pre.length:Int)+1) K W Es Fl Fo G Ta m') Q:=fun m' h'=>by
      have:=ir5 K Fo W Es Fl G Ta hG Q t (pre++[x]) m' (by rw [←he];simp) h' go
      rw [show ((pre++[x]).length:Int)=(pre.length:Int)+1 by simp] at this
      exact this
    refine Wp.optK (fun h0=> ?_) (fun p h1=> ?_)
    ·have hn:=gL_ h0
     refine Wp.opt (aQ_ (by simp)) ?_
     refine Wp.opt (x:=(kf x,[])) (by rw [e5_];simp) ?_
     dsimp only
     rw [Int.toNat_natCast,sv_]
     refine nx _ (fun key=> ?_)
     rw [k6_ m hn,bt_]
     by_cases e:key=kf x
     ·subst e
      rw [if_pos rfl,if_pos rfl,←hi,hn];rfl
     ·rw [if_neg e,if_neg e,hi]
    ·obtain ⟨j,b⟩:=p
     obtain ⟨d,e1,e2,e3,e4⟩:=gK_ h1
     rw [Nat.zero_add] at e1;subst e1
     have hb:=hi (kf x)
     rw [e3] at hb
     simp only [Option.getD_some] at hb
     subst hb
     refine Wp.opt (aQ_ (by simp;omega)) ?_
     dsimp only
     rw [Int.toNat_natCast,show Nat.beq j j=true by simp,e5_,e2]
     simp only [cond_true,Option.bind_some]
     refine nx _ (fun key=> ?_)
     rw [e4,bt_]
     by_cases e:key=kf x
     ·rw [if_pos e,if_pos e,e];rfl
     ·rw [if_neg e,if_neg e,hi]
theorem Go_ (Ta:List aa_) (x:aa_) (Q:Bool→Prop) (i c:Int) (x3:List (DPair×List ByteArray)) (x4:List (DPair×Int)) (hc:(mget (kf x) x4).getD 0=c) (hcb:0≤c∧c≤1000)
    (go:∀m,(∀key,(mget key m).getD 0=if key=kf x then c+1 else (mget key x4).getD 0)→Wp (fun k=>aO_ k Ta (Ta.length:Int) (IntKind.wrap .i64 (i+1)) x3 m) Q):
    Wp (fun k=>a0_ k Ta (Ta.length:Int) i x3 x4 x.From x.A x.B) Q:=by
  refine Wp.step ?_
  simp only [a0_]
  rw [show (⟨x.From,x.A,x.B⟩:DPair)=kf x from rfl]
  cases h4:a3_ (a7_ (kf x)) x4 0 with
  | none=>
    have hn:=gL_ h4
    rw [hn] at hc
    simp only [Option.getD_none] at hc
    subst hc
    simp only [Km.optK,mX_ h4,Nat.zero_add,e5_,Int.toNat_natCast,sv_]
    simp only [List.getElem?_append_right (Nat.le_refl _),Nat.sub_self,List.getElem?_cons_zero,Option.bind_some,i2_]
    rw [aS_ (n:=0+1) (by omega) (by omega)]
    refine go _ (fun key=> ?_)
    rw [k6_ x4 hn]
    by_cases e:key=kf x
    ·rw [if_pos e,if_pos e];rfl
    ·rw [if_neg e,if_neg e]
  | some p=>
    obtain ⟨j,b⟩:=p
    obtain ⟨d,e1,e2,e3,e4⟩:=gK_ h4
    rw [Nat.zero_add] at e1;subst e1
    rw [e3] at hc
    simp only [Option.getD_some] at hc
    subst hc
    simp only [Km.optK,e5_,e2,Option.bind_some,Int.toNat_natCast,i2_]
    rw [aS_ (n:=b+1) (by omega) (by omega)]
    refine go _ (fun key=> ?_)
    rw [e4]
    by_cases e:key=kf x
    ·rw [if_pos e,if_pos e];rfl
    ·rw [if_neg e,if_neg e]
theorem FZ_ (G Ta:List aa_) (hG:G.length≤1000) (hT:Ta.length≤1000) (x3:List (DPair×List ByteArray)) (h3:EW_ x3 G):∀(t pre:List aa_) (x4:List (DPair×Int)),pre++t=Ta→AtI x4 pre→Wp (fun k=>aO_ k Ta (Ta.length:Int) (pre.length:Int) x3 x4) (· =ic_ G pre t)
  | [],pre,x4,he,hi=>by
    have he':pre=Ta:=by simpa using he
    refine Wp.step ?_
    simp only [aO_]
    refine Wp.dec (fun h=>by rw [he'] at h;omega) (fun _=>Wp.ret rfl)
  | x::t,pre,x4,he,hi=>by
    have hl:pre.length+(t.length+1)≤1000:=by
      have:(pre++(x::t)).length≤1000:=by rw [he];exact hT
      simpa using this
    have hlen:=fg_ pre (kf x)
    have hglen:=fg_ G (kf x)
    have hc:=hi (kf x)
    have hg:=h3 (kf x)
    have nx:∀c:Int,((aE_ pre (kf x)).length:Int)=c→(aE_ G (kf x))[c.toNat]? =some x.Text→Wp (fun k=>a0_ k Ta (Ta.length:Int) (pre.length:Int) x3 x4 x.From x.A x.B) (· =ic_ G pre (x::t)):=fun c hcc hx=>by
      refine Go_ Ta x _ (pre.length:Int) c x3 x4 (by rw [hc,hcc]) (by omega) (fun m hm=> ?_)
      rw [aS_ (n:=(pre.length:Int)+1) (by omega) (by omega)]
      have:=FZ_ G Ta hG hT x3 h3 t (pre++[x]) m (by rw [←he];simp) (fun key=>by
        rw [hm,bt_]
        by_cases e:key=kf x
        ·rw [if_pos e,if_pos e,e,List.length_append,←hcc];rfl
        ·rw [if_neg e,if_neg e,hi])
      rw [show ((pre++[x]).length:Int)=(pre.length:Int)+1 by simp] at this
      refine this.mono fun r hr=> ?_
      rw [hr]
      simp only [ic_]
      rw [show (aE_ pre (kf x)).length=c.toNat by omega,hx];simp
    have no:∀c:Int,((aE_ pre (kf x)).length:Int)=c→¬(aE_ G (kf x))[c.toNat]? =some x.Text→false=ic_ G pre (x::t):=fun c hcc hx=>by
      simp only [ic_]
      rw [decide_eq_false (by rw [show (aE_ pre (kf x)).length=c.toNat by omega];exact hx)];rfl
    refine Wp.step ?_
    simp only [aO_]
    refine Wp.dec (fun _=> ?_) (fun h=>absurd (by rw [←he];simp;omega) h)
    rw [show idx Ta (pre.length:Int)=some x by rw [←he];exact aI_]
    simp only [Option.bind_some]
    rw [show (⟨x.From,x.A,x.B⟩:DPair)=kf x from rfl]
    have fin:∀(g:List ByteArray) (c:Int),aE_ G (kf x)=g→((aE_ pre (kf x)).length:Int)=c→¬(c≥(g.length:Int))→Wp (fun k=>(idx g c).bind fun _=>(g[c.toNat]?).bind fun y=>bif (!(y.toList==x.Text.toList)) then some false else a0_ k Ta (Ta.length:Int) (pre.length:Int) x3 x4 x.From x.A x.B) (· =ic_ G pre (x::t)):=fun g c hgg hcc hlt=>by
      have hx:g[c.toNat]? =some (g[c.toNat]'(by omega)):=List.getElem?_eq_getElem (by omega)
      generalize g[c.toNat]'(by omega)=y at hx
      have hx':idx g c=some y:=by have:=e5_ g c.toNat;rw [Int.toNat_of_nonneg (by omega)] at this;rw [this,hx]
      refine Wp.opt hx' (Wp.opt hx ?_)
      simp only [bf_,mb_]
      refine Wp.ite (fun e=>nx c hcc (by rw [hgg,hx,e])) (fun e=>Wp.ret (no c hcc (by rw [hgg,hx];simpa using e)))
    cases h4:a3_ (a7_ (kf x)) x4 0 with
    | none=>
      rw [gL_ h4] at hc
      simp only [Option.getD_none] at hc
      cases h5:a3_ (a7_ (kf x)) x3 0 with
      | none=>
        rw [gL_ h5] at hg
        simp only [Option.getD_none] at hg
        simp only [Km.optK]
        refine Wp.dec (fun _=>Wp.ret (no 0 hc.symm (by rw [←hg];simp))) (fun h=>absurd (by simp) h)
      | some p=>
        obtain ⟨j,b⟩:=p
        obtain ⟨d,e1,e2,e3,e4⟩:=gK_ h5
        rw [Nat.zero_add] at e1;subst e1
        rw [e3] at hg
        simp only [Option.getD_some] at hg
        simp only [Km.optK,wL_ e2,h5]
        refine Wp.dec (fun h=>Wp.ret (no 0 hc.symm (by rw [←hg,List.getElem?_eq_none (by omega)];simp))) (fun h=>fin b 0 hg.symm hc.symm h)
    | some q=>
      obtain ⟨jq,c⟩:=q
      obtain ⟨dq,f1,f2,f3,f4⟩:=gK_ h4
      rw [f3] at hc
      simp only [Option.getD_some] at hc
      cases h5:a3_ (a7_ (kf x)) x3 0 with
      | none=>
        rw [gL_ h5] at hg
        simp only [Option.getD_none] at hg
        simp only [Km.optK]
        refine Wp.dec (fun _=>Wp.ret (no c hc.symm (by rw [←hg];simp))) (fun h=>absurd (by simp;omega) h)
      | some p=>
        obtain ⟨j,b⟩:=p
        obtain ⟨d,e1,e2,e3,e4⟩:=gK_ h5
        rw [Nat.zero_add] at e1;subst e1
        rw [e3] at hg
        simp only [Option.getD_some] at hg
        simp only [Km.optK,wL_ e2,h5]
        refine Wp.dec (fun h=>Wp.ret (no c hc.symm (by rw [←hg,List.getElem?_eq_none (by omega)];simp))) (fun h=>fin b c hg.symm hc.symm h)
theorem mW_ (w:ac_) (hb:w.Given.length≤1048576∧w.Taken.length≤1048576):Wp (fun k=>ie_ k w) (· =rQ_ w):=by
  unfold ie_ rQ_
  refine Wp.bind (eD_ w hb) (fun _ e=> ?_);subst e
  refine Wp.not (fun h=>Wp.ret (by rw [h];rfl)) (fun h=> ?_)
  have hv:=of_decide_eq_true h
  have h4:=hv.2.2.2.1
  rw [h]
  exact ir5 w.Key w.Forged w.Width w.Ends w.Flight w.Given w.Taken (by omega) _ w.Given [] [] rfl (fun key=>rfl) (fun m hm=>FZ_ w.Given w.Taken (by omega) (by omega) m hm w.Taken [] [] rfl (fun key=>rfl))
end Km.X
namespace Km.X
open Go Km
set_option linter.unusedVariables false
set_option linter.unusedSimpArgs false
theorem eq_key_iff {x y:DKey}:eT_ x y=true↔x=y:=⟨o0_,fun h=>by subst h;simp [eT_]⟩
instance:DecidableEq DKey:=fun x y=>decidable_of_iff _ eq_key_iff
def pk (p:ad_):DKey:=⟨p.To,p.Bytes⟩
def cG_ (h:List DKey) (key:DKey):Nat:=(h.filter (fun x=>decide (x=key))).length
theorem iE_ (h:List DKey) (a key:DKey):cG_ (h++[a]) key=if key=a then cG_ h key+1 else cG_ h key:=by
  unfold cG_
  rw [List.filter_append,List.length_append]
  by_cases e:a=key
  ·subst e;simp
  ·rw [if_neg (fun g=>e g.symm)];simp [e]
theorem z8_ (h:List DKey) (key:DKey):cG_ h key≤h.length:=List.length_filter_le _ _
def ty_ {β:Type} (key:DKey):List (DKey×β)→Option β
  | []=>none
  | (a,b)::l=>if a=key then some b else ty_ key l
theorem rf_ {β:Type} {key:DKey}:∀{l:List (DKey×β)} {i:Nat},a3_ (eT_ key) l i=none→ty_ key l=none
  | [],_,_=>rfl
  | (a,b)::l,i,h=>by
    simp only [a3_] at h
    split at h
    ·cases h
    ·rename_i hq
     simp only [ty_]
     rw [if_neg (fun e=>by subst e;rw [eq_key_iff.mpr rfl] at hq;cases hq)]
     exact rf_ h
theorem rw_ {β:Type} {key:DKey}:∀{l:List (DKey×β)} {i j:Nat} {b:β},a3_ (eT_ key) l i=some (j,b)→∃d,j=i+d∧l[d]? =some (key,b)∧ty_ key l=some b∧(∀v key',ty_ key' (l.set d (key,v))=if key'=key then some v else ty_ key' l)∧∀v i,a3_ (eT_ key) (l.set d (key,v)) i=some (i+d,v)
  | [],_,_,_,h=>by cases h
  | (a,c)::l,i,j,b,h=>by
    simp only [a3_] at h
    split at h
    ·rename_i hq
     have:=o0_ hq;subst this
     cases h
     refine ⟨0,rfl,rfl,by simp only [ty_,if_true],fun v key'=> ?_,fun v i=> ?_⟩
     ·simp only [List.set_cons_zero,ty_]
      by_cases e:key=key'
      ·subst e;simp
      ·rw [if_neg e,if_neg e,if_neg (fun g=>e g.symm)]
     ·simp only [List.set_cons_zero,a3_,eq_key_iff.mpr rfl];rfl
    ·rename_i hq
     have hne:a≠key:=fun e=>by subst e;rw [eq_key_iff.mpr rfl] at hq;cases hq
     obtain ⟨d,e1,e2,e3,e4,e5⟩:=rw_ h
     refine ⟨d+1,by omega,e2,by simp only [ty_];rw [if_neg hne,e3],fun v key'=> ?_,fun v i=> ?_⟩
     ·simp only [List.set_cons_succ,ty_,e4]
      by_cases e:a=key'
      ·subst e;rw [if_pos rfl,if_neg hne,if_pos rfl]
      ·rw [if_neg e,if_neg e]
     ·simp only [List.set_cons_succ,a3_,hq]
      rw [e5];simp;omega
theorem oZ_ {β:Type} {key key':DKey} {v:β}:∀(l:List (DKey×β)),ty_ key l=none→ty_ key' (l++[(key,v)])=if key'=key then some v else ty_ key' l
  | [],_=>by
    simp only [List.nil_append,ty_]
    by_cases e:key=key'
    ·subst e;simp
    ·rw [if_neg e,if_neg (fun g=>e g.symm)]
  | (a,b)::l,h=>by
    simp only [ty_] at h
    split at h
    ·cases h
    ·rename_i hne
     simp only [List.cons_append,ty_,oZ_ l h]
     by_cases e:a=key'
     ·subst e;rw [if_pos rfl,if_neg hne,if_pos rfl]
     ·rw [if_neg e,if_neg e]
theorem ji_ {β:Type} {key:DKey} {v:β}:∀{l:List (DKey×β)} {i:Nat},a3_ (eT_ key) l i=none→a3_ (eT_ key) (l++[(key,v)]) i=some (i+l.length,v)
  | [],i,_=>by simp only [List.nil_append,a3_,eq_key_iff.mpr rfl];rfl
  | (a,b)::l,i,h=>by
    simp only [a3_] at h
    split at h
    ·cases h
    ·rename_i hq
     simp only [List.cons_append,a3_,hq]
     rw [ji_ h];simp;omega
def bR_ (ev:Int):List ad_→List DKey→ac_→ac_×List DKey
  | [],h,w=>(w,h)
  | p::t,h,w=>bR_ ev t (h++[pk p]) (if ((cG_ h (pk p):Int)+1)%ev=0 then aT_ w p else w)
def a5_ (n:Int):Nat→ac_→ac_
  | 0,w=>w
  | d+1,w=>if (af_ n w.Ends).Take.Ready=[] then w else a5_ n d (eb_ w n)
def aC_ (ev:Int) (s:ac_×List DKey):ac_×List DKey:=
  (a5_ 2 4 (a5_ 1 4 (bR_ ev (aZ_ s.1).Flight s.2 (cd_ (aZ_ s.1) [])).1),(bR_ ev (aZ_ s.1).Flight s.2 (cd_ (aZ_ s.1) [])).2)
def a2_ (ev:Int):Nat→ac_×List DKey→ac_×List DKey
  | 0,s=>s
  | d+1,s=>a2_ ev d (aC_ ev s)
def kX_ (w:ac_) (n ev:Int):ac_:=if au_ w∧(1≤ev∧ev≤10) then (a2_ ev (min n 5000).toNat (w,[])).1 else hP_
theorem uX_ (ev:Int):∀(t:List ad_) (h:List DKey) (w:ac_),(bR_ ev t h w).2.length=h.length+t.length
  | [],h,w=>rfl
  | p::t,h,w=>by simp only [bR_,uX_ ev t];simp;omega
theorem s8_ (ev:Int):∀(t:List ad_) (h:List DKey) (w:ac_),au_ w→hY_ t→au_ (bR_ ev t h w).1
  | [],h,w,hw,_=>hw
  | p::t,h,w,hw,ht=>by
    simp only [bR_]
    refine s8_ ev t _ _ ?_ (fun x hx=>ht x (by simp [hx]))
    split
    ·exact lr_ hw (ht p (by simp)).1
    ·exact hw
theorem lm_ {n:Int} (hn:1≤n∧n≤2):∀(d:Nat) (w:ac_),au_ w→au_ (a5_ n d w)
  | 0,w,h=>h
  | d+1,w,h=>by
    simp only [a5_]
    split
    ·exact h
    ·exact lm_ hn d _ (mv_ h hn)
theorem pX_ {w:ac_} (h:au_ w):au_ (cd_ w []):=hO_ h (by simp) (fun p hp=>by cases hp)
theorem xM_ {ev:Int} {s:ac_×List DKey} (h:au_ s.1):au_ (aC_ ev s).1:=
  lm_ (by omega) 4 _ (lm_ (by omega) 4 _ (s8_ ev _ _ _ (pX_ (jD_ h)) (jD_ h).2.2.2.2.2.1))
theorem yv_ {ev:Int} {s:ac_×List DKey} (h:au_ s.1):(aC_ ev s).2.length≤s.2.length+1000:=by
  unfold aC_
  dsimp only
  rw [uX_]
  have:=(jD_ h).2.2.1
  omega
theorem tY_ {ev:Int}:∀(d:Nat) (s:ac_×List DKey),au_ s.1→au_ (a2_ ev d s).1
  | 0,s,h=>h
  | d+1,s,h=>tY_ d _ (xM_ h)
theorem CQ_ {w:ac_} (h:au_ w) {n ev:Int} (he:1≤ev∧ev≤10):au_ (kX_ w n ev):=by
  unfold kX_;rw [if_pos ⟨h,he⟩];exact tY_ _ _ h
def Eq_ (m:List (DKey×Int)) (h:List DKey):Prop:=∀key,(ty_ key m).getD 0=(cG_ h key:Int)
section
variable (a b:ByteArray) (z:Int) (E2:List an_) (F2:List ad_) (G2 T2:List aa_) (Q:ac_→Prop) (r ev:Int)
theorem Gg_ (hev:1≤ev∧ev≤10) (len i:Int) (m:List (DKey×Int)) (p:ad_) (L:List ad_) (w:ac_) (hw:au_ w) (hp:vn_ p) (c:Nat) (hm:a3_ (eT_ (pk p)) m 0=none∧c=0∨∃j,a3_ (eT_ (pk p)) m 0=some (j,(c:Int)))
    (go:∀w',w'=(if (c:Int)%ev=0 then aT_ w p else w)→Wp (fun k=>dr_ k r ev len (IntKind.wrap .i64 (i+1)) a z b w'.Key w'.Width w'.Forged m L E2 F2 G2 T2 w'.Ends w'.Flight w'.Given w'.Taken) Q):
    Wp (fun k=>br_ k r ev len i a z b w.Key w.Width w.Forged m p.To p.Sent p.Bytes p.To p.Bytes L E2 F2 G2 T2 w.Ends w.Flight w.Given w.Taken) Q:=by
  have l19:∀w',w'=(if (c:Int)%ev=0 then aT_ w p else w)→Wp (fun k=>ds_ k r ev len i a z b w'.Key w'.Width w'.Forged m L E2 F2 G2 T2 w'.Ends w'.Flight w'.Given w'.Taken) Q:=fun w' e=>by
    refine Wp.step ?_
    simp only [ds_]
    exact go w' e
  refine Wp.step ?_
  simp only [br_]
  rw [show (⟨p.To,p.Bytes⟩:DKey)=pk p from rfl]
  have br:=l9_ w hw p hp.1 (by have:=hp.2.2;omega)
  rcases hm with ⟨hm,hc⟩ | ⟨j,hm⟩
  ·subst hc
   simp only [hm,Km.optK]
   refine Wp.opt (gj_ (by omega) (by omega)) ?_
   simp only [fl_]
   refine Wp.ite (fun e=> ?_) (fun e=> ?_)
   ·refine Wp.bind br (fun x hx=> ?_)
    exact l19 x (by rw [if_pos (by simp),hx])
   ·exact l19 w (absurd (Int.zero_emod ev) e)
  ·simp only [hm,Km.optK]
   refine Wp.opt (gj_ (by omega) (by omega)) ?_
   simp only [fl_]
   refine Wp.ite (fun e=> ?_) (fun e=> ?_)
   ·refine Wp.bind br (fun x hx=> ?_)
    exact l19 x (by rw [if_pos e,hx])
   ·exact l19 w (by rw [if_neg e])
theorem Gc_ (hev:1≤ev∧ev≤10) (L:List ad_) (hL:L.length≤1000):∀(t pre:List ad_) (m:List (DKey×Int)) (h:List DKey) (w:ac_),pre++t=L→au_ w→hY_ t→Eq_ m h→h.length+t.length≤10000000→
    (∀m',Eq_ m' (bR_ ev t h w).2→Wp (fun k=>ck_ k r ev 1 a z b (bR_ ev t h w).1.Key (bR_ ev t h w).1.Width (bR_ ev t h w).1.Forged m' E2 F2 G2 T2 (bR_ ev t h w).1.Ends (bR_ ev t h w).1.Flight (bR_ ev t h w).1.Given (bR_ ev t h w).1.Taken) Q)→
    Wp (fun k=>dr_ k r ev (L.length:Int) (pre.length:Int) a z b w.Key w.Width w.Forged m L E2 F2 G2 T2 w.Ends w.Flight w.Given w.Taken) Q
  | [],pre,m,h,w,he,hw,ht,hm,hh,go=>by
    have he':pre=L:=by simpa using he
    refine Wp.step ?_
    simp only [dr_]
    refine Wp.dec (fun g=>by rw [he'] at g;omega) (fun _=>go m hm)
  | p::t,pre,m,h,w,he,hw,ht,hm,hh,go=>by
    have hl:pre.length+(t.length+1)≤1000:=by
      have:(pre++(p::t)).length≤1000:=by rw [he];exact hL
      simpa using this
    simp only [List.length_cons] at hh
    have hc:=z8_ h (pk p)
    have nx:∀(m':List (DKey×Int)),Eq_ m' (h++[pk p])→(∃j,a3_ (eT_ (pk p)) m' 0=some (j,((cG_ h (pk p)+1:Nat):Int)))→Wp (fun k=>br_ k r ev (L.length:Int) (pre.length:Int) a z b w.Key w.Width w.Forged m' p.To p.Sent p.Bytes p.To p.Bytes L E2 F2 G2 T2 w.Ends w.Flight w.Given w.Taken) Q:=fun m' h' hf=>by
      refine Gg_ a b z E2 F2 G2 T2 Q r ev hev (L.length:Int) (pre.length:Int) m' p L w hw (ht p (by simp)) (cG_ h (pk p)+1) (.inr hf) (fun w' e=> ?_)
      rw [aS_ (n:=(pre.length:Int)+1) (by omega) (by omega)]
      have hw':au_ w':=by
        rw [e];split
        ·exact lr_ hw (ht p (by simp)).1
        ·exact hw
      have:=Gc_ hev L hL t (pre++[p]) m' (h++[pk p]) w' (by rw [←he];simp) hw' (fun x hx=>ht x (by simp [hx])) h' (by simp;omega) (by
        have e2:bR_ ev t (h++[pk p]) w'=bR_ ev (p::t) h w:=by simp only [bR_];rw [e];push_cast;rfl
        rw [e2];exact go)
      rw [show ((pre++[p]).length:Int)=(pre.length:Int)+1 by simp] at this
      exact this
    refine Wp.step ?_
    simp only [dr_]
    refine Wp.dec (fun _=> ?_) (fun g=>absurd (by rw [←he];simp;omega) g)
    rw [show idx L (pre.length:Int)=some p by rw [←he];exact aI_,show L[Int.toNat (pre.length:Int)]? =some p by rw [←he,Int.toNat_natCast];simp]
    simp only [Option.bind_some]
    rw [show (⟨p.To,p.Bytes⟩:DKey)=pk p from rfl]
    have hmp:=hm (pk p)
    cases h4:a3_ (eT_ (pk p)) m 0 with
    | none=>
      have hn:=rf_ h4
      rw [hn] at hmp
      simp only [Option.getD_none] at hmp
      have hz:cG_ h (pk p)=0:=by omega
      simp only [Km.optK,ji_ h4,Nat.zero_add,e5_,Int.toNat_natCast,sv_]
      simp only [List.getElem?_append_right (Nat.le_refl _),Nat.sub_self,List.getElem?_cons_zero,Option.bind_some,i2_]
      rw [aS_ (n:=0+1) (by omega) (by omega)]
      refine nx _ (fun key=> ?_) ⟨_,by rw [ji_ h4,hz];rfl⟩
      rw [oZ_ m hn,iE_]
      by_cases e:key=pk p
      ·rw [if_pos e,if_pos e,e,hz];rfl
      ·rw [if_neg e,if_neg e,hm]
    | some q=>
      obtain ⟨j,c⟩:=q
      obtain ⟨d,e1,e2,e3,e4,e5⟩:=rw_ h4
      rw [Nat.zero_add] at e1;subst e1
      rw [e3] at hmp
      simp only [Option.getD_some] at hmp
      subst hmp
      simp only [Km.optK,e5_,e2,Option.bind_some,Int.toNat_natCast,i2_]
      rw [aS_ (n:=(cG_ h (pk p):Int)+1) (by omega) (by omega)]
      refine nx _ (fun key=> ?_) ⟨_,by rw [e5];rfl⟩
      rw [e4,iE_]
      by_cases e:key=pk p
      ·rw [if_pos e,if_pos e,e];rfl
      ·rw [if_neg e,if_neg e,hm]
theorem E2_ (m:List (DKey×Int)) (n:Int) (hn:1≤n∧n≤2):∀(d:Nat) (i:Int) (w:ac_),i+d=4→0≤i→au_ w→
    (Wp (fun k=>ck_ k r ev (IntKind.wrap .i64 (n+1)) a z b (a5_ n d w).Key (a5_ n d w).Width (a5_ n d w).Forged m E2 F2 G2 T2 (a5_ n d w).Ends (a5_ n d w).Flight (a5_ n d w).Given (a5_ n d w).Taken) Q)→
    Wp (fun k=>ev_ k r ev n i a z b w.Key w.Width w.Forged m E2 F2 G2 T2 w.Ends w.Flight w.Given w.Taken) Q
  | 0,i,w,hi,h0,hw,go=>by
    refine Wp.step ?_
    simp only [ev_]
    refine Wp.dec (fun g=>by omega) (fun _=>go)
  | d+1,i,w,hi,h0,hw,go=>by
    refine Wp.step ?_
    simp only [ev_]
    refine Wp.dec (fun _=> ?_) (fun g=>by omega)
    obtain ⟨a1,a2,a3⟩:=jJ_ hw.2.2.2.2.1 hn
    simp only [a1,a2,Option.bind_some]
    simp only [a5_] at go
    refine Wp.dec (fun g=> ?_) (fun g=> ?_)
    ·rw [if_neg (fun e=>by rw [e] at g;simp at g)] at go
     refine Wp.bind (ne_ w hw n hn) (fun x hx=> ?_);subst hx
     rw [aS_ (n:=i+1) (by omega) (by omega)]
     exact E2_ m n hn d (i+1) (eb_ w n) (by omega) (by omega) (mv_ hw hn) go
    ·rw [if_pos (by apply List.eq_nil_of_length_eq_zero;omega)] at go
     exact go
theorem ic7 (hev:1≤ev∧ev≤10):∀(d:Nat) (m:List (DKey×Int)) (s:ac_×List DKey),au_ s.1→Eq_ m s.2→s.2.length+1000*d≤9000000→d≤9000→
    Wp (fun k=>do_ k (d:Int) ev a z b s.1.Key s.1.Width s.1.Forged m E2 F2 G2 T2 s.1.Ends s.1.Flight s.1.Given s.1.Taken) (· =(a2_ ev d s).1)
  | 0,m,s,hs,hm,hl,hd=>by
    refine Wp.step ?_
    simp only [do_]
    refine Wp.dec (fun g=>by omega) (fun _=>Wp.ret rfl)
  | d+1,m,s,hs,hm,hl,hd=>by
    refine Wp.step ?_
    simp only [do_]
    refine Wp.dec (fun _=> ?_) (fun g=>by omega)
    refine Wp.bind (nd_ s.1 hs) (fun x hx=> ?_);subst hx
    have ht:=jD_ hs
    have htl:=ht.2.2.1
    refine Gc_ a b z E2 F2 G2 T2 _ ((d+1:Nat):Int) ev hev (aZ_ s.1).Flight htl (aZ_ s.1).Flight [] m s.2 (cd_ (aZ_ s.1) []) rfl (pX_ ht) ht.2.2.2.2.2.1 hm (by omega) (fun m' hm'=> ?_)
    have hf:=s8_ ev (aZ_ s.1).Flight s.2 (cd_ (aZ_ s.1) []) (pX_ ht) ht.2.2.2.2.2.1
    refine Wp.step ?_
    simp only [ck_]
    refine Wp.dec (fun _=> ?_) (fun g=>by omega)
    refine E2_ a b z E2 F2 G2 T2 _ ((d+1:Nat):Int) ev m' 1 (by omega) 4 0 _ (by omega) (by omega) hf ?_
    rw [show IntKind.wrap .i64 (1+1)=2 by rfl]
    refine Wp.step ?_
    simp only [ck_]
    refine Wp.dec (fun _=> ?_) (fun g=>by omega)
    refine E2_ a b z E2 F2 G2 T2 _ ((d+1:Nat):Int) ev m' 2 (by omega) 4 0 _ (by omega) (by omega) (lm_ (by omega) 4 _ hf) ?_
    rw [show IntKind.wrap .i64 (2+1)=3 by rfl]
    refine Wp.step ?_
    simp only [ck_]
    refine Wp.dec (fun g=>by omega) (fun _=> ?_)
    rw [aS_ (n:=((d+1:Nat):Int)-1) (by omega) (by omega),show ((d+1:Nat):Int)-1=(d:Int) by omega]
    have hlen:=yv_ (ev:=ev) hs
    exact ic7 hev d m' (aC_ ev s) (xM_ hs) hm' (by omega) (by omega)
end
theorem vy_ (w:ac_) (hb:w.Given.length≤1048576∧w.Taken.length≤1048576) (n ev:Int):Wp (fun k=>lF_ k w n ev) (· =kX_ w n ev):=by
  unfold lF_ kX_
  refine Wp.bind (eD_ w hb) (fun _ e=> ?_);subst e
  refine Wp.not (fun h=>Wp.ret (by rw [if_neg (fun g=>of_decide_eq_false h g.1)];rfl)) (fun h=> ?_)
  have hv:=of_decide_eq_true h
  refine Wp.dec (fun h=>Wp.ret (by rw [if_neg (fun g=>by omega)];rfl)) (fun h1=> ?_)
  refine Wp.dec (fun h=>Wp.ret (by rw [if_neg (fun g=>by omega)];rfl)) (fun h2=> ?_)
  rw [if_pos ⟨hv,by omega⟩]
  refine Wp.bind (nt_ w hv) (fun _ e=> ?_);have e'':=e.symm;subst e''
  have hm:Eq_ [] []:=fun key=>rfl
  refine Wp.dec (fun h=> ?_) (fun h=> ?_)
  ·rw [show min n 5000=5000 by omega]
   exact ic7 noB noB 0 [] [] [] [] ev (by omega) 5000 [] (w,[]) hv hm (by simp) (by omega)
  ·by_cases h0:0≤n
   ·have:=ic7 noB noB 0 [] [] [] [] ev (by omega) n.toNat [] (w,[]) hv hm (by simp;omega) (by omega)
    rw [show min n 5000=n by omega]
    rw [Int.toNat_of_nonneg h0] at this
    exact this
   ·rw [show (min n 5000).toNat=0 by omega]
    refine Wp.step ?_
    simp only [do_]
    refine Wp.dec (fun g=>by omega) (fun _=>Wp.ret rfl)
end Km.X
namespace Km.X
open Go Km
set_option linter.unusedVariables false
set_option linter.unusedSimpArgs false
theorem set_mid {α:Type} (pre t:List α) (y y':α):(pre++y::t).set pre.length y'=pre++y'::t:=by simp
theorem pP_ (w:ac_) (fl:List ad_) (p:ad_):aT_ (cd_ w fl) p=cd_ (aT_ w p) fl:=by
  unfold aT_
  by_cases h:(hd_ p.Bytes w.Key w.Width).2=true
  ·rw [if_pos (show (hd_ p.Bytes (cd_ w fl).Key (cd_ w fl).Width).2=true from h),if_pos h];rfl
  ·rw [if_neg (show¬(hd_ p.Bytes (cd_ w fl).Key (cd_ w fl).Width).2=true from h),if_neg h]
theorem BT_ (w:ac_) (p:ad_):(aT_ w p).Flight=w.Flight:=by unfold aT_;split<;>rfl
theorem sz_ (ev:Int):∀(t:List ad_) (h:List DKey) (w:ac_),(bR_ ev t h w).1.Flight=w.Flight
  | [],h,w=>rfl
  | p::t,h,w=>by
    simp only [bR_,sz_ ev t]
    split
    ·exact BT_ w p
    ·rfl
section
variable (a b:ByteArray) (z:Int) (E2:List an_) (F2:List ad_) (G2 T2:List aa_) (Q:ac_→Prop) (r ev i:Int)
end
end Km.X
namespace Km.X
open Go Km
set_option linter.unusedVariables false
set_option linter.unusedSimpArgs false
def eo_:List aA_→ByteArray→List ByteArray→List ByteArray×ByteArray×Bool
  | [],o,out=>(out,o,true)
  | p::ps,o,out=>if 20<p.Text.size∨200<o.size+p.Text.size then ([],noB,false) else if p.Last then eo_ ps noB (out++[o++p.Text]) else eo_ ps (o++p.Text) out
theorem sQ_:∀(t:List aA_) (o:ByteArray) (out:List ByteArray),o.size≤200→(∀y∈out,y.size≤200)→((eo_ t o out).1.length≤out.length+t.length)∧(∀y∈(eo_ t o out).1,y.size≤200)∧(eo_ t o out).2.1.size≤200
  | [],o,out,ho,hout=>⟨by simp [eo_],hout,ho⟩
  | x::t,o,out,ho,hout=>by
    simp only [eo_]
    split
    ·exact ⟨by simp,fun y hy=>by simp at hy,by simp [d0_]⟩
    ·rename_i h
     split
     ·have:=sQ_ t noB (out++[o++x.Text]) (by simp [d0_]) (fun y hy=>by
        simp only [List.mem_append,List.mem_singleton] at hy
        rcases hy with hy | rfl
        ·exact hout y hy
        ·rw [aD_];omega)
      refine ⟨?_,this.2⟩
      have h1:=this.1
      simp only [List.length_append,List.length_cons,List.length_nil] at h1⊢
      omega
     ·have:=sQ_ t (o++x.Text) out (by rw [aD_];omega) hout
      refine ⟨?_,this.2⟩
      have h1:=this.1
      simp only [List.length_cons] at h1⊢
      omega
end Km.X
namespace Km.X
open Go Km
set_option linter.unusedVariables false
set_option linter.unusedSimpArgs false
theorem rb_ {y:Int} (h:jA_ y):0≤y∧y≤255:=by
  unfold jA_ at h
  simp [Lit.wf,IntKind.min,IntKind.max,IntKind.signed,IntKind.bits] at h
  omega
def Rd (n:Int) (r:ax_):Prop:=r.b.length≤2000∧(∀y∈r.b,0≤y∧y≤255)∧0≤r.p∧r.p≤n
theorem Rd.mono {n m:Int} {r:ax_} (h:Rd n r) (hm:n≤m):Rd m r:=⟨h.1,h.2.1,h.2.2.1,by have:=h.2.2.2;omega⟩
theorem Eg_ (n m:Nat) (hn:n<2^62) (hm:m<2^62):iZ_ .i64 (n:Int) (m:Int)=((n^^^m:Nat):Int):=by
  have e:∀m:Nat,BitVec.ofInt 64 (m:Int)=BitVec.ofNat 64 m:=fun m=>by
    apply BitVec.eq_of_toNat_eq
    simp [BitVec.toNat_ofInt]
  have hx:=Nat.xor_lt_two_pow hn hm
  show IntKind.wrap .i64 ((BitVec.ofInt 64 ((n:Nat):Int)^^^BitVec.ofInt 64 ((m:Nat):Int)).toNat:Int)=_
  rw [e,e,BitVec.toNat_xor,BitVec.toNat_ofNat,BitVec.toNat_ofNat,Nat.mod_eq_of_lt (by omega),Nat.mod_eq_of_lt (by omega)]
  exact aS_ (by omega) (by omega)
theorem v8_ {xs:List Int} {i:Int} (h:0≤i) (h':i<xs.length):∃y∈xs,idx xs i=some y:=by
  have hlt:i.toNat<xs.length:=by omega
  have:=rq_ hlt
  rw [Int.toNat_of_nonneg h] at this
  exact ⟨_,List.getElem_mem hlt,this⟩
theorem cH_ (r:ax_) (n a:Int) (h:Rd n r) (hn:n≤1000000) (ha:1≤a∧a≤1000000):Wp (fun k=>ah_ k r a) (fun v=>(0≤v.1∧v.1<a)∧Rd (n+1) v.2):=by
  obtain ⟨h1,h2,h3,h4⟩:=h
  have R1:Rd (n+1) ⟨r.b,r.p+1⟩:=⟨h1,h2,by simp only;omega,by simp only;omega⟩
  unfold ah_
  rw [aS_ (n:=r.p+1) (by omega) (by omega),aS_ (n:=r.p+1-1) (by omega) (by omega),show r.p+1-1=r.p by omega]
  simp only [al_,fl_]
  refine Wp.ite (fun h=>by omega) (fun _=> ?_)
  refine Wp.ite (fun h=>Wp.ret ⟨⟨by omega,by omega⟩,R1⟩) (fun h5=> ?_)
  refine Wp.ite (fun h6=> ?_) (fun h6=> ?_)
  ·obtain ⟨y,hy,e⟩:=v8_ h3 h6
   have hy:=h2 y hy
   refine Wp.opt e ?_
   rw [aS_ (by omega) (by omega)]
   refine Wp.opt (gj_ (by omega) (by omega)) ?_
   exact Wp.ret ⟨⟨Int.emod_nonneg _ (by omega),Int.emod_lt_of_pos _ (by omega)⟩,R1⟩
  ·refine Wp.opt (gj_ h3 (by omega)) ?_
   obtain ⟨y,hy,e⟩:=v8_ (xs:=r.b) (Int.emod_nonneg r.p (b:=r.b.length) (by omega)) (Int.emod_lt_of_pos _ (by omega))
   have hy:=h2 y hy
   refine Wp.opt e ?_
   rw [aS_ (n:=r.p*7) (by omega) (by omega),aS_ (n:=r.p*7+3) (by omega) (by omega)]
   refine Wp.opt (gj_ (by omega) (by omega)) ?_
   obtain ⟨z,hz,e⟩:=v8_ (xs:=r.b) (Int.emod_nonneg (r.p*7+3) (b:=r.b.length) (by omega)) (Int.emod_lt_of_pos _ (by omega))
   have hz:=h2 z hz
   refine Wp.opt e ?_
   refine Wp.opt (pI_ h3 (by omega)) ?_
   have hd0:0≤r.p/(r.b.length:Int):=Int.ediv_nonneg h3 (by omega)
   have hd1:r.p/(r.b.length:Int)≤r.p:=Int.ediv_le_self _ h3
   generalize r.p/(r.b.length:Int)=d at*
   rw [aS_ (n:=y) (by omega) (by omega),aS_ (n:=z) (by omega) (by omega),aS_ (n:=d) (by omega) (by omega),aS_ (n:=y*131) (by omega) (by omega),aS_ (n:=z*1117) (by omega) (by omega),aS_ (n:=r.p*29) (by omega) (by omega),aS_ (n:=d*53) (by omega) (by omega),aS_ (n:=y*131+z*1117) (by omega) (by omega),aS_ (n:=y*131+z*1117+r.p*29) (by omega) (by omega),aS_ (n:=y*131+z*1117+r.p*29+d*53) (by omega) (by omega)]
   have hv:0≤y*131+z*1117+r.p*29+d*53∧y*131+z*1117+r.p*29+d*53≤1000000000:=by omega
   generalize y*131+z*1117+r.p*29+d*53=v at*
   refine Wp.opt (pI_ hv.1 (by omega)) ?_
   rw [aS_ (n:=v/64) (by omega) (by omega)]
   obtain ⟨m,rfl⟩:=Int.eq_ofNat_of_zero_le hv.1
   rw [show ((m:Int)/64)=((m/64:Nat):Int) by omega,Eg_ _ _ (by omega) (by omega)]
   refine Wp.opt (gj_ (by omega) (by omega)) ?_
   exact Wp.ret ⟨⟨Int.emod_nonneg _ (by omega),Int.emod_lt_of_pos _ (by omega)⟩,R1⟩
theorem zl_ (a:List Int) (h:∀y∈a,jA_ y):Wp (fun k=>g9_ k a) (Rd 0):=by
  unfold g9_
  simp only [al_]
  refine Wp.ite (fun h1=> ?_) (fun h1=> ?_)
  ·refine Wp.opt (cA_ (by omega)) ?_
   refine Wp.step ?_
   simp only [eO_]
   refine Wp.ret ⟨by simp [dY_];omega,fun y hy=>rb_ (h y ?_),by simp,by simp⟩
   simp only [dY_] at hy
   exact List.mem_of_mem_take (List.mem_of_mem_drop hy)
  ·refine Wp.step ?_
   simp only [eO_]
   exact Wp.ret ⟨by simp only;omega,fun y hy=>rb_ (h y hy),by simp,by simp⟩
theorem tJ_:∀(n:Nat) (s acc:ByteArray),n≤1000000→acc.size+s.size*n≤1000000→Wp (fun k=>c6_ k s (n:Int) acc) (fun r=>r.size=acc.size+s.size*n)
  | 0,s,acc,hn,h=>by
    refine Wp.step ?_
    simp only [c6_]
    simp (disch:=omega) only [al_,if_neg]
    exact Wp.ret (by simp)
  | n+1,s,acc,hn,h=>by
    have hs:s.size≤s.size*(n+1):=Nat.le_mul_of_pos_right _ (by omega)
    have hle:(s++s).size*((n+1)/2)+s.size*((n+1)%2)=s.size*(n+1):=by
      rw [aD_]
      have:=Nat.div_add_mod (n+1) 2
      calc (s.size+s.size)*((n+1)/2)+s.size*((n+1)%2)=s.size*(2*((n+1)/2)+(n+1)%2):=by rw [Nat.mul_add,←Nat.two_mul,Nat.mul_comm 2 s.size,Nat.mul_assoc]
        _=s.size*(n+1):=by rw [this]
    have G:∀acc':ByteArray,acc'.size=acc.size+s.size*((n+1)%2)→Wp (fun k=>eM_ k s ((n+1:Nat):Int) acc') (fun r=>r.size=acc.size+s.size*(n+1)):=fun acc' h'=>by
      refine Wp.step ?_
      simp only [eM_]
      refine Wp.opt (bK_ (by omega)) ?_
      refine Wp.opt (pI_ (by omega) (by omega)) ?_
      rw [aS_ (by omega) (by omega),show ((n+1:Nat):Int)/2=(((n+1)/2:Nat):Int) by omega]
      exact (tJ_ ((n+1)/2) (s++s) acc' (by omega) (by omega)).mono fun r hr=>by rw [hr];omega
    refine Wp.step ?_
    simp only [c6_]
    simp (disch:=omega) only [al_,if_pos,fl_]
    refine Wp.opt (gj_ (by omega) (by omega)) ?_
    refine Wp.ite (fun h1=> ?_) (fun h1=> ?_)
    ·have e:(n+1)%2=1:=by omega
     refine Wp.opt (bK_ (by omega)) ?_
     exact G _ (by rw [aD_,e];omega)
    ·have e:(n+1)%2=0:=by omega
     exact G _ (by rw [e];omega)
theorem me_ (s:ByteArray) (n:Int) (B:Nat) (hB:B≤1000000) (h:s.size*n.toNat≤B) (hn1:n≤1000000):Wp (fun k=>dv_ k s n) (fun r=>r.size≤B):=by
  unfold dv_
  by_cases hn:0≤n
  ·have e0:(⟨#[]⟩:ByteArray).size=0:=rfl
   have:=tJ_ n.toNat s (⟨#[]⟩:ByteArray) (by omega) (by rw [e0];omega)
   rw [Int.toNat_of_nonneg hn] at this
   exact this.mono fun r hr=>by rw [hr,e0];omega
  ·refine Wp.step ?_
   simp only [c6_]
   simp (disch:=omega) only [al_,if_neg]
   exact Wp.ret (Nat.zero_le _)
theorem nc_:∀(d:Nat) (n:Int) (r:ax_) (s:ByteArray),Rd n r→n+d≤900000→s.size+d≤100→Wp (fun k=>b9_ k s (d:Int) r.b r.p) (fun v=>v.1.size≤s.size+d∧Rd (n+d) v.2)
  | 0,n,r,s,h,hn,hs=>by
    refine Wp.step ?_
    simp only [b9_]
    simp (disch:=omega) only [al_,if_neg]
    exact Wp.ret ⟨by simp,by simpa using h⟩
  | d+1,n,r,s,h,hn,hs=>by
    refine Wp.step ?_
    simp only [b9_]
    simp (disch:=omega) only [al_,if_pos]
    refine Wp.bind (cH_ r n 5 h (by omega) (by omega)) ?_
    rintro ⟨q,r'⟩ ⟨hq,hr'⟩
    have e5:(⟨#[97,98,99,100,32]⟩:ByteArray).size=5:=rfl
    simp only at hq
    dsimp only
    refine Wp.opt (cA_ (by rw [e5];omega)) ?_
    dsimp only
    refine Wp.opt (cA_ (by simp only [ByteArray.size_extract,e5];omega)) ?_
    dsimp only
    refine Wp.opt (bK_ (by simp only [ByteArray.size_extract,e5];omega)) ?_
    rw [aS_ (by omega) (by omega),show ((d+1:Nat):Int)-1=(d:Int) by omega]
    have hsz:∀u:ByteArray,(s++u.extract (0:Int).toNat (1:Int).toNat).size≤s.size+1:=fun u=>by
      rw [aD_,ByteArray.size_extract];omega
    have hz:=hsz ((⟨#[97,98,99,100,32]⟩:ByteArray).extract q.toNat (((⟨#[97,98,99,100,32]⟩:ByteArray).size:Int)).toNat)
    exact (nc_ d (n+1) r' _ hr' (by omega) (by omega)).mono fun v hv=>⟨by omega,hv.2.mono (by omega)⟩
theorem mF_ (r:ax_) (n:Int) (h:Rd n r) (hn:0≤n∧n≤800000):Wp (fun k=>co_ k r) (fun v=>v.1.size≤190∧Rd (n+40) v.2):=by
  unfold co_
  refine Wp.bind (cH_ r n 8 h (by omega) (by omega)) ?_
  rintro ⟨q,r1⟩ ⟨hq,h1⟩
  simp only at hq
  simp only [fl_]
  refine Wp.ite (fun _=>Wp.ret ⟨Nat.zero_le _,h1.mono (by omega)⟩) (fun _=> ?_)
  refine Wp.ite (fun _=> ?_) (fun _=> ?_)
  ·refine Wp.bind (cH_ r1 _ 5 h1 (by omega) (by omega)) ?_
   rintro ⟨q2,r2⟩ ⟨hq2,h2⟩
   refine Wp.bind (cH_ r2 _ 3 h2 (by omega) (by omega)) ?_
   rintro ⟨q3,r3⟩ ⟨hq3,h3⟩
   refine Wp.bind (cH_ r3 _ 2 h3 (by omega) (by omega)) ?_
   rintro ⟨q4,r4⟩ ⟨hq4,h4⟩
   refine Wp.bind (cH_ r4 _ 2 h4 (by omega) (by omega)) ?_
   rintro ⟨q5,r5⟩ ⟨hq5,h5⟩
   simp only at hq2 hq3 hq4 hq5⊢
   have hm:0≤q4*q5∧q4*q5≤1:=by
     have:q4=0∨q4=1:=by omega
     rcases this with rfl | rfl<;>omega
   generalize q4*q5=m at*
   simp (disch:=omega) only [aS_]
   refine Wp.bind (me_ _ _ 190 (by omega) (by show 1*_≤190;omega) (by omega)) (fun u hu=> ?_)
   exact Wp.ret ⟨hu,h5.mono (by omega)⟩
  refine Wp.ite (fun _=> ?_) (fun _=> ?_)
  ·refine Wp.bind (cH_ r1 _ 19 h1 (by omega) (by omega)) ?_
   rintro ⟨q2,r2⟩ ⟨hq2,h2⟩
   simp only at hq2⊢
   simp (disch:=omega) only [aS_]
   refine Wp.bind (me_ _ _ 190 (by omega) (by show 10*_≤190;omega) (by omega)) (fun u hu=> ?_)
   exact Wp.ret ⟨hu,h2.mono (by omega)⟩
  refine Wp.ite (fun _=>Wp.ret ⟨by show 2≤190;omega,h1.mono (by omega)⟩) (fun _=> ?_)
  refine Wp.bind (cH_ r1 _ 30 h1 (by omega) (by omega)) ?_
  rintro ⟨q2,r2⟩ ⟨hq2,h2⟩
  simp only at hq2⊢
  simp (disch:=omega) only [aS_]
  have:=nc_ (1+q2).toNat _ r2 (⟨#[]⟩:ByteArray) h2 (by omega) (by show 0+_≤100;omega)
  rw [Int.toNat_of_nonneg (by omega)] at this
  exact this.mono fun v hv=>⟨by have:=hv.1;have e0:(⟨#[]⟩:ByteArray).size=0:=rfl;rw [e0] at this;omega,hv.2.mono (by omega)⟩
theorem oF_ (a b c:ByteArray):a++b++c=a++(b++c):=by
  apply ByteArray.ext;apply Array.ext';simp
theorem BX_ (s:ByteArray) (i:Nat) (h:i≤s.size):s.extract 0 i++s.extract i s.size=s:=by
  apply ByteArray.ext
  simp only [ByteArray.data_append,ByteArray.data_extract]
  apply Array.ext'
  have:i≤s.data.toList.length:=h
  simp [Array.toList_extract,List.extract]
  exact List.take_of_length_le (by show s.size≤max i s.size;omega)
theorem sL_ (s:ByteArray):noB++s=s:=by
  apply ByteArray.ext;apply Array.ext';simp [noB]
theorem xf_:∀(n:Nat) (s o:ByteArray) (rest:List aA_) (out:List ByteArray),s.size≤20*n→0<n→o.size+s.size≤200→eo_ (Ap_ n s++rest) o out=eo_ rest noB (out++[o++s])
  | 0,s,o,rest,out,h,h0,hs=>by omega
  | n+1,s,o,rest,out,h,h0,hs=>by
    simp only [Ap_]
    split
    ·rename_i h1
     simp only [List.cons_append,eo_]
     rw [if_neg (by rw [ByteArray.size_extract];omega)]
     simp only [Bool.false_eq_true,if_false]
     rw [xf_ n (s.extract 20 s.size) (o++s.extract 0 20) rest out (by rw [ByteArray.size_extract];omega) (by omega) (by rw [aD_,ByteArray.size_extract,ByteArray.size_extract];omega),oF_,BX_ s 20 (by omega)]
    ·simp only [List.cons_append,List.nil_append,eo_]
     rw [if_neg (by omega)]
     simp
def zz_ (s:ByteArray):List ByteArray:=if s.size≤200 then [s] else []
theorem AM_ (s:ByteArray) (rest:List aA_) (out:List ByteArray):eo_ (qF_ s++rest) noB out=eo_ rest noB (out++zz_ s):=by
  unfold qF_ zz_
  split
  ·rw [if_neg (by omega)];simp
  ·rw [if_pos (by omega),xf_ 10 s noB rest out (by omega) (by omega) (by rw [d0_];omega),sL_]
theorem pz_:∀(t pre:List ByteArray),(pre++t).length≤1048576→Wp (fun k=>dP_ k (pre++t) (pre++t) (pre.length:Int)) (· =true)
  | [],pre,hl=>by
    refine Wp.step ?_
    simp only [dP_,List.append_nil]
    simp (disch:=omega) only [al_,if_neg]
    exact Wp.ret rfl
  | x::t,pre,hl=>by
    refine Wp.step ?_
    have hl':=hl
    simp only [List.length_append,List.length_cons] at hl
    simp only [dP_]
    simp only [al_,cZ_,if_true,aI_,Option.bind_some,bf_,mb_]
    simp (disch:=omega) only [aS_]
    have ih:=pz_ t (pre++[x]) (by simpa using hl')
    rw [←aX_,←bd_] at ih
    exact ih
theorem uq_ (l:List ByteArray) (h:l.length≤1048576):Wp (fun k=>g8_ k l l) (· =true):=by
  unfold g8_
  simp only [ma_,if_true]
  exact pz_ l [] (by simpa using h)
end Km.X
namespace Km.X
open Go Km
set_option linter.unusedVariables false
set_option linter.unusedSimpArgs false
theorem tL_ {R:Type} (x:Option R):Km.both x x=x:=by unfold Km.both;rw [if_pos rfl]
theorem mI_ {α:Type} {xs:List α} {i:Int} (h:0≤i) (h':i<xs.length):∃y∈xs,idx xs i=some y∧xs[i.toNat]? =some y:=by
  have hlt:i.toNat<xs.length:=by omega
  have:=rq_ hlt
  rw [Int.toNat_of_nonneg h] at this
  exact ⟨_,List.getElem_mem hlt,this,List.getElem?_eq_getElem hlt⟩
def DSd (n:Int) (v:aj_×ax_):Prop:=VSend v.1∧Rd n v.2
theorem d18 (n:Int) (r:ax_) (c b:Int) (e xs:List ag_) (h:VSend ⟨b,xs⟩) (hr:Rd n r):Wp (fun k=>eh_ k r.b r.p c b e xs) (DSd n):=by
  refine Wp.step ?_
  simp only [eh_]
  refine Wp.bind (hV_ ⟨b,xs⟩ (by have:=h.1;simp only at this⊢;omega)) (fun r2 q=> ?_);rw [q]
  exact Wp.ret ⟨h,hr⟩
theorem d16 (n:Int) (r:ax_) (c b m:Int) (e:List ag_) (hm:m≤60) (hr:Rd n r):∀(d:Nat) (xs:List ag_),VSend ⟨b,xs⟩→d=(m-xs.length).toNat→Wp (fun k=>ec_ k m r.b r.p c b e xs) (DSd n)
  | 0,xs,h,hd=>by
    refine Wp.step ?_
    simp only [ec_]
    simp (disch:=omega) only [al_,if_neg]
    exact d18 n r c b e xs h hr
  | d+1,xs,h,hd=>by
    refine Wp.step ?_
    simp only [ec_]
    obtain ⟨h1,h2,h3,h4⟩:=h
    simp only at h1 h2 h3
    simp (disch:=omega) only [al_,if_pos,aS_]
    refine Wp.ite (fun hb=> ?_) (fun hb=>d18 n r c b e xs ⟨h1,h2,h3,h4⟩ hr)
    refine Wp.opt (aQ_ (by simp;omega)) ?_
    refine d16 n r c b m e hm hr d _ ⟨by simp;omega,h2,by simp;omega,kB_ h4 ⟨⟨?_,by simp,fun _=>rfl,fun h=>by simp at h⟩,trivial⟩⟩ (by simp;omega)
    show 1≤20
    omega
theorem d3:∀(d:Nat) (n:Int) (r:ax_) (c b:Int) (e xs:List ag_),VSend ⟨b,xs⟩→Rd n r→0≤n→n+60*d≤500000→Wp (fun k=>f1_ k (d:Int) r.b r.p c b e xs) (DSd (n+60*d+10))
  | 0,n,r,c,b,e,xs,h,hr,hn0,hn=>by
    refine Wp.step ?_
    simp only [f1_]
    simp (disch:=omega) only [al_,if_neg,fl_]
    refine Wp.bind (cH_ r n 12 hr (by omega) (by omega)) ?_
    rintro ⟨q,r1⟩ ⟨hq,hr1⟩
    simp only
    refine Wp.ite (fun _=> ?_) (fun _=>d18 _ r1 c b e xs h (hr1.mono (by omega)))
    refine Wp.bind (cH_ r1 _ 3 hr1 (by omega) (by omega)) ?_
    rintro ⟨q2,r2⟩ ⟨hq2,hr2⟩
    simp only at hq2⊢
    rw [aS_ (by omega) (by omega)]
    exact d16 _ r2 c b _ e (by omega) (hr2.mono (by omega)) _ xs h rfl
  | d+1,n,r,c,b,e,xs,h,hr,hn0,hn=>by
    refine Wp.step ?_
    simp only [f1_,tL_]
    have hpos:((d+1:Nat):Int)>0:=by omega
    simp only [al_,if_pos hpos]
    have N4:∀(n':Int) (r':ax_) (b':Int) (xs':List ag_),VSend ⟨b',xs'⟩→Rd n' r'→n'≤n+60→Wp (fun k=>f2_ k ((d+1:Nat):Int) r'.b r'.p c b' e xs') (DSd (n+60*(d+1:Nat)+10)):=fun n' r' b' xs' hv hr' hn'=>by
      refine Wp.step ?_
      simp only [f2_]
      rw [aS_ (by omega) (by omega),show ((d+1:Nat):Int)-1=(d:Int) by omega]
      exact (d3 d (n+60) r' c b' e xs' hv (hr'.mono hn') (by omega) (by omega)).mono fun v hv=>⟨hv.1,hv.2.mono (by omega)⟩
    have N9:∀(j:Nat) (n':Int) (r':ax_) (b':Int) (xs':List ag_),j≤10→VSend ⟨b',xs'⟩→Rd n' r'→n'≤n+50→Wp (fun k=>eS_ k ((d+1:Nat):Int) (j:Int) r'.b r'.p c b' e xs') (DSd (n+60*(d+1:Nat)+10)):=by
      intro j
      induction j with
      | zero=>
        intro n' r' b' xs' hj hv hr' hn'
        refine Wp.step ?_
        simp only [eS_]
        simp (disch:=omega) only [al_,if_neg,fl_]
        refine Wp.bind (cH_ r' n' 3 hr' (by omega) (by omega)) ?_
        rintro ⟨q,r1⟩ ⟨hq,hr1⟩
        simp only
        refine Wp.ite (fun _=> ?_) (fun _=>N4 _ r1 b' xs' hv hr1 (by omega))
        refine Wp.bind (cH_ r1 _ 4 hr1 (by omega) (by omega)) ?_
        rintro ⟨q2,r2⟩ ⟨hq2,hr2⟩
        refine Wp.bind (cH_ r2 _ 256 hr2 (by omega) (by omega)) ?_
        rintro ⟨q3,r3⟩ ⟨hq3,hr3⟩
        refine Wp.bind (p7_ _ _ _) (fun _ q=> ?_);subst q
        exact N4 _ r3 _ _ (xt_ _ _ _) hr3 (by omega)
      | succ j ih=>
        intro n' r' b' xs' hj hv hr' hn'
        refine Wp.step ?_
        simp only [eS_]
        have hpos:((j+1:Nat):Int)>0:=by omega
        simp only [al_,if_pos hpos]
        refine Wp.bind (oS_ _) (fun _ q=> ?_);subst q
        rw [aS_ (by omega) (by omega),show ((j+1:Nat):Int)-1=(j:Int) by omega]
        exact ih n' r' _ _ (by omega) (oc_ _).1 hr' hn'
    have N8:∀(n':Int) (r':ax_) (b':Int) (xs':List ag_),VSend ⟨b',xs'⟩→Rd n' r'→n'≤n+45→Wp (fun k=>cm_ k ((d+1:Nat):Int) r'.b r'.p c b' e xs') (DSd (n+60*(d+1:Nat)+10)):=fun n' r' b' xs' hv hr' hn'=>by
      refine Wp.step ?_
      simp only [cm_]
      refine Wp.bind (cH_ r' n' 6 hr' (by omega) (by omega)) ?_
      rintro ⟨q,r1⟩ ⟨hq,hr1⟩
      simp only at hq⊢
      have:=N9 q.toNat _ r1 b' xs' (by omega) hv hr1 (by omega)
      rwa [Int.toNat_of_nonneg hq.1] at this
    refine Wp.bind (mF_ r n hr (by omega)) ?_
    rintro ⟨u,r1⟩ ⟨hu,hr1⟩
    refine Wp.bind (pL_ _ _) (fun _ q=> ?_);subst q
    simp only [fl_]
    exact Wp.ite (fun _=>N8 _ r1 _ _ (xN_ _ _) hr1 (by omega)) (fun _=>N8 _ r1 _ _ h hr1 (by omega))
def tp_ (n:Int) (v:aj_×ax_):Prop:=Rd n v.2
theorem p21 (n:Int) (r:ax_) (c b:Int) (e xs:List ag_) (hr:Rd n r):Wp (fun k=>bo_ k r.b r.p c b e xs) (tp_ n):=by
  refine Wp.step ?_
  simp only [bo_]
  exact Wp.ret hr
theorem p19 (n:Int) (r:ax_) (c b m:Int) (e:List ag_) (hm:m≤100) (hr:Rd n r):∀(d:Nat) (xs:List ag_),xs.length≤200→d=(m-xs.length).toNat→Wp (fun k=>dD_ k m r.b r.p c b e xs) (tp_ n)
  | 0,xs,h,hd=>by
    refine Wp.step ?_
    simp only [dD_]
    simp (disch:=omega) only [al_,if_neg]
    exact p21 n r c b e xs hr
  | d+1,xs,h,hd=>by
    refine Wp.step ?_
    simp only [dD_]
    simp (disch:=omega) only [al_,if_pos]
    refine Wp.opt (aQ_ (by simp;omega)) ?_
    exact p19 n r c b m e hm hr d _ (by simp;omega) (by simp;omega)
theorem p6 (n:Int) (r:ax_) (c b:Int) (e:List ag_) (hr:Rd n r) (hn:n≤900000):∀(d:Nat) (xs:List ag_),xs.length≤200→d=9-xs.length→Wp (fun k=>d7_ k r.b r.p c b e xs) (tp_ (n+1))
  | 0,xs,h,hd=>by
    refine Wp.step ?_
    simp only [d7_]
    simp (disch:=omega) only [al_,if_neg]
    refine Wp.bind (cH_ r n 2 hr (by omega) (by omega)) ?_
    rintro ⟨q,r1⟩ ⟨hq,hr1⟩
    obtain ⟨y,_,e1,e2⟩:=mI_ (xs:=xs) (i:=8) (by omega) (by omega)
    simp only [e1,e2,Option.bind_some]
    exact p21 _ r1 c b e _ hr1
  | d+1,xs,h,hd=>by
    refine Wp.step ?_
    simp only [d7_]
    simp (disch:=omega) only [al_,if_pos]
    refine Wp.opt (aQ_ (by simp;omega)) ?_
    exact p6 n r c b e hr hn d _ (by simp;omega) (by simp;omega)
theorem p4 (n:Int) (r:ax_) (c b:Int) (e xs:List ag_) (hr:Rd n r) (hn:n≤890000) (hx:0<xs.length∧xs.length≤100):Wp (fun k=>jz_ k r.b r.p c b e xs) (tp_ (n+10)):=by
  have L:∀(n':Int) (r':ax_) (b':Int) (xs':List ag_),Rd n' r'→n'≤n+10→Wp (fun k=>bo_ k r'.b r'.p c b' e xs') (tp_ (n+10)):=fun n' r' b' xs' h h'=>p21 _ r' c b' e xs' (h.mono h')
  refine Wp.step ?_
  simp only [jz_,tL_]
  refine Wp.bind (cH_ r n (xs.length:Int) hr (by omega) (by omega)) ?_
  rintro ⟨q,r1⟩ ⟨hq,hr1⟩
  refine Wp.bind (cH_ r1 _ 6 hr1 (by omega) (by omega)) ?_
  rintro ⟨q2,r2⟩ ⟨hq2,hr2⟩
  simp only at hq hq2
  obtain ⟨y,_,e1,e2⟩:=mI_ (xs:=xs) hq.1 hq.2
  simp only [e1,e2,Option.bind_some,fl_]
  refine Wp.ite (fun _=> ?_) (fun _=> ?_)
  ·refine Wp.bind (cH_ r2 _ 3 hr2 (by omega) (by omega)) ?_
   rintro ⟨q3,r3⟩ ⟨hq3,hr3⟩
   simp only at hq3
   obtain ⟨z,_,f1,f2⟩:=mI_ (xs:=([(-1),1000000,1000001]:List Int)) hq3.1 (by simp;omega)
   simp only [f1,f2,Option.bind_some]
   exact L _ r3 _ _ hr3 (by omega)
  refine Wp.ite (fun _=> ?_) (fun _=> ?_)
  ·refine Wp.bind (cH_ r2 _ 5 hr2 (by omega) (by omega)) ?_
   rintro ⟨q3,r3⟩ ⟨hq3,hr3⟩
   simp only at hq3
   obtain ⟨z,_,f1,f2⟩:=mI_ (xs:=([(-2),(-1),0,3,4]:List Int)) hq3.1 (by simp;omega)
   simp only [f1,f2,Option.bind_some]
   exact L _ r3 _ _ hr3 (by omega)
  refine Wp.ite (fun _=>L _ r2 _ _ hr2 (by omega)) (fun _=> ?_)
  refine Wp.ite (fun _=> ?_) (fun _=> ?_)
  ·refine Wp.bind (cH_ r2 _ 2 hr2 (by omega) (by omega)) ?_
   rintro ⟨q3,r3⟩ ⟨hq3,hr3⟩
   simp only at hq3⊢
   rw [aS_ (by omega) (by omega)]
   refine Wp.bind (me_ _ _ 100 (by omega) (by show 1*_≤100;omega) (by omega)) (fun u hu=> ?_)
   exact L _ r3 _ _ hr3 (by omega)
  refine Wp.ite (fun _=> ?_) (fun _=> ?_)
  ·refine Wp.bind (cH_ r2 _ 2 hr2 (by omega) (by omega)) ?_
   rintro ⟨q3,r3⟩ ⟨hq3,hr3⟩
   simp only at hq3⊢
   rw [aS_ (by omega) (by omega)]
   exact p19 _ r3 c b _ e (by omega) (hr3.mono (by omega)) _ xs (by omega) rfl
  ·exact (p6 _ r2 c b e hr2 (by omega) _ xs (by omega) rfl).mono fun v hv=>Rd.mono hv (by omega)
end Km.X
namespace Km.X
open Go Km
set_option linter.unusedVariables false
set_option linter.unusedSimpArgs false
def dl (b:ByteArray):List UInt8:=b.data.toList
theorem jx_ (a b:ByteArray):dl (a++b)=dl a++dl b:=by unfold dl;rw [ByteArray.data_append,Array.toList_append]
theorem Cp_ {a b:ByteArray} (h:dl a=dl b):a=b:=by
  apply ByteArray.ext;apply Array.ext';exact h
theorem zj_ (b:ByteArray):(dl b).length=b.size:=by unfold dl;rw [Array.length_toList];rfl
theorem CW_ (bs:List Int):dl (i8_ bs)=bs.map fun n=>UInt8.ofNat n.toNat:=by
  induction bs with
  | nil=>rfl
  | cons b bs ih=>
    rw [←tX_,jx_,ih]
    rfl
theorem rj_ (b:ByteArray) (i j:Nat):dl (b.extract i j)=(dl b).extract i j:=by
  simp [dl]
def dg (w n:Nat):List UInt8:=(ek_ w n).map fun n=>UInt8.ofNat n.toNat
theorem uw_ (w n:Nat):(dg w n).length=w:=by simp [dg,dy_]
theorem EX_ (w:Nat) (x:Int):dl (N w x)=dg w x.toNat:=by rw [N,CW_];rfl
theorem oe_ (m:Nat):(UInt8.ofNat ((m%256:Nat):Int).toNat).toNat=m%256:=by
  rw [Int.toNat_natCast,UInt8.toNat_ofNat'];omega
theorem xA_:∀(w n:Nat),n<256^w→Dw_ (dg w n)=(n:Int)
  | 0,n,h=>by
    have:n=0:=by simpa using h
    subst this;rfl
  | w+1,n,h=>by
    have ih:=xA_ w (n/256) (by rw [Nat.pow_succ] at h;omega)
    unfold Dw_ dg at*
    simp only [ek_,List.map_append,List.foldl_append,ih]
    simp only [List.map_cons,List.map_nil,List.foldl_cons,List.foldl_nil,oe_]
    omega
theorem dg1 (n:Nat):dg 1 n=[UInt8.ofNat ((n%256:Nat):Int).toNat]:=rfl
theorem wt_ {b:ByteArray} {l:List UInt8} (h:dl b=l) (i:Nat):at' b i=l.getD i 0:=by unfold at';rw [←h];rfl
theorem pJ_ {b:ByteArray} {l:List UInt8} (h:dl b=l) (i j:Nat):zi_ b i j=Dw_ (l.extract i j):=by
  unfold zi_;rw [←h,←rj_];rfl
theorem sj_ (a:Nat) (w n:Nat) (l r:List UInt8) (h:l.length=a):(l++(dg w n++r)).extract a (a+w)=dg w n:=by
  rw [List.extract_eq_take_drop,List.drop_left' h,show a+w-a=w by omega,List.take_left' (uw_ w n)]
theorem p2_ (a:Nat) (n:Nat) (l r:List UInt8) (h:l.length=a):(l++(dg 1 n++r)).getD a 0=UInt8.ofNat ((n%256:Nat):Int).toNat:=by
  rw [List.getD_eq_getElem?_getD,List.getElem?_append_right (by omega),h,Nat.sub_self,dg1];rfl
theorem pf_ (b:ByteArray) (i:Nat):dl (b.extract i b.size)=(dl b).drop i:=by
  rw [rj_,List.extract_eq_take_drop,List.take_of_length_le]
  simp [zj_]
theorem Al_ (p:ae_) (h:iL_ p):iN_ (eg_ p)=p:=by
  obtain ⟨k,fr,mi,yo,ne,ma,se,la,pa⟩:=p
  obtain ⟨h1,h2,h3,h4⟩:=h
  dsimp only at h1 h2 h3 h4
  have hk:k=1∨k=2:=by rcases h4 with h | h<;>omega
  have hfr:((fr.toNat%256:Nat):Int)=fr:=by omega
  have hd:∀rest,dl (iP_ ⟨k,fr,mi,yo,ne,ma,se,la,pa⟩++rest)=dg 1 k.toNat++(dg 1 fr.toNat++(dg 2 mi.toNat++(dg 2 yo.toNat++dl rest))):=fun rest=>by
    simp only [iP_,jx_,EX_,List.append_assoc]
  have len:∀w n,(dg w n).length=w:=uw_
  have main:∀(b:ByteArray) (x y:Nat) (tail:List UInt8),dl b=dg 1 k.toNat++(dg 1 fr.toNat++(dg 2 mi.toNat++(dg 2 yo.toNat++(dg 4 x++(dg 1 y++tail)))))→
   ((at' b 0).toNat:Int)=k∧((at' b 1).toNat:Int)=fr∧zi_ b 2 4=mi∧zi_ b 4 6=yo∧(x<256^4→zi_ b 6 10=(x:Int))∧((at' b 10).toNat:Int)=((y%256:Nat):Int)∧(dl b).drop 11=tail:=fun b x y tail hb=>by
    refine ⟨?_, ?_, ?_, ?_,fun hx=> ?_, ?_, ?_⟩
    ·rw [wt_ hb]
     have:=p2_ 0 k.toNat [] (dg 1 fr.toNat++(dg 2 mi.toNat++(dg 2 yo.toNat++(dg 4 x++(dg 1 y++tail))))) rfl
     rw [List.nil_append] at this
     rw [this,oe_];omega
    ·rw [wt_ hb,p2_ 1 fr.toNat (dg 1 k.toNat) _ (len _ _),oe_];omega
    ·rw [pJ_ hb]
     have e:dg 1 k.toNat++(dg 1 fr.toNat++(dg 2 mi.toNat++(dg 2 yo.toNat++(dg 4 x++(dg 1 y++tail)))))=(dg 1 k.toNat++dg 1 fr.toNat)++(dg 2 mi.toNat++(dg 2 yo.toNat++(dg 4 x++(dg 1 y++tail)))):=by simp
     rw [e,sj_ 2 2 mi.toNat _ _ (by simp [len]),xA_ 2 _ (by have:(256:Nat)^2=65536:=rfl;omega)];omega
    ·rw [pJ_ hb]
     have e:dg 1 k.toNat++(dg 1 fr.toNat++(dg 2 mi.toNat++(dg 2 yo.toNat++(dg 4 x++(dg 1 y++tail)))))=(dg 1 k.toNat++dg 1 fr.toNat++dg 2 mi.toNat)++(dg 2 yo.toNat++(dg 4 x++(dg 1 y++tail))):=by simp
     rw [e,sj_ 4 2 yo.toNat _ _ (by simp [len]),xA_ 2 _ (by have:(256:Nat)^2=65536:=rfl;omega)];omega
    ·rw [pJ_ hb]
     have e:dg 1 k.toNat++(dg 1 fr.toNat++(dg 2 mi.toNat++(dg 2 yo.toNat++(dg 4 x++(dg 1 y++tail)))))=(dg 1 k.toNat++dg 1 fr.toNat++dg 2 mi.toNat++dg 2 yo.toNat)++(dg 4 x++(dg 1 y++tail)):=by simp
     rw [e,sj_ 6 4 x _ _ (by simp [len]),xA_ 4 _ hx]
    ·have e:dg 1 k.toNat++(dg 1 fr.toNat++(dg 2 mi.toNat++(dg 2 yo.toNat++(dg 4 x++(dg 1 y++tail)))))=(dg 1 k.toNat++dg 1 fr.toNat++dg 2 mi.toNat++dg 2 yo.toNat++dg 4 x)++(dg 1 y++tail):=by simp
     rw [wt_ hb,e,p2_ 10 y _ _ (by simp [len]),oe_]
    ·rw [hb]
     have e:dg 1 k.toNat++(dg 1 fr.toNat++(dg 2 mi.toNat++(dg 2 yo.toNat++(dg 4 x++(dg 1 y++tail)))))=(dg 1 k.toNat++dg 1 fr.toNat++dg 2 mi.toNat++dg 2 yo.toNat++dg 4 x++dg 1 y)++tail:=by simp
     rw [e,List.drop_left' (by simp [len])]
  have p4:(256:Nat)^4=4294967296:=rfl
  rcases h4 with ⟨k1,g1,g2,g3,g4,g5⟩ | ⟨k2,g1,g2,g3,g4⟩
  ·have hb:dl (eg_ ⟨k,fr,mi,yo,ne,ma,se,la,pa⟩)=dg 1 k.toNat++(dg 1 fr.toNat++(dg 2 mi.toNat++(dg 2 yo.toNat++(dg 4 ne.toNat++(dg 1 ma.toNat++[]))))):=by
     unfold eg_;rw [if_pos k1,lT_,hd,jx_,EX_,EX_,List.append_nil]
   obtain ⟨a1,a2,a3,a4,a5,a6,a7⟩:=main _ _ _ _ hb
   unfold iN_
   rw [if_pos (by rw [a1];exact k1),a1,a2,a3,a4,a5 (by omega),a6]
   subst g3;subst g4;subst g5
   congr 1<;>omega
  ·have hb:dl (eg_ ⟨k,fr,mi,yo,ne,ma,se,la,pa⟩)=dg 1 k.toNat++(dg 1 fr.toNat++(dg 2 mi.toNat++(dg 2 yo.toNat++(dg 4 se.toNat++(dg 1 (vC_ la).toNat++dl pa))))):=by
     unfold eg_;rw [if_neg (by show¬k=1;omega)]
     rw [show iP_ ⟨k,fr,mi,yo,ne,ma,se,la,pa⟩++N 4 se++N 1 (vC_ la)++pa=iP_ ⟨k,fr,mi,yo,ne,ma,se,la,pa⟩++(N 4 se++(N 1 (vC_ la)++pa)) by rw [lT_,lT_],hd]
     simp only [jx_,EX_]
   obtain ⟨a1,a2,a3,a4,a5,a6,a7⟩:=main _ _ _ _ hb
   unfold iN_
   rw [if_neg (by rw [a1];omega),a1,a2,a3,a4,a5 (by omega),a6]
   have epa:(eg_ ⟨k,fr,mi,yo,ne,ma,se,la,pa⟩).extract 11 (eg_ ⟨k,fr,mi,yo,ne,ma,se,la,pa⟩).size=pa:=Cp_ (by rw [pf_,a7])
   rw [epa]
   have ela:(((((vC_ la).toNat%256:Nat):Int))==1)=la:=by cases la<;>rfl
   rw [ela]
   subst g1;subst g2
   congr 1;omega
theorem ze_ (a b:ByteArray) (w:Int) (hw:1≤w∧w≤8) (hb:b.size≤30):(y6_ a b w).size=w.toNat:=by
  unfold y6_;rw [if_neg (by omega),h7_,dy_]
theorem BV_ (p:ae_) (h:iL_ p):11≤(eg_ p).size:=by
  have hs:=jL_ p
  unfold eg_
  split<;>simp [fe_,hs]<;>omega
theorem Ai_ {p:ae_} {b:ByteArray} {w:Int} (h:iL_ p) (hw:1≤w∧w≤8) (hb:b.size≤30):dn_ p b w=y6_ (eg_ p) b w++eg_ p:=by
  unfold dn_;rw [if_pos ⟨h,hw,hb⟩]
theorem AQ_ {p:ae_} {b:ByteArray} {w:Int} (h:iL_ p) (hw:1≤w∧w≤8) (hb:b.size≤30):(dn_ p b w).size=w.toNat+(eg_ p).size:=by
  rw [Ai_ h hw hb,aD_,ze_ _ _ _ hw hb]
theorem A0_ {p:ae_} {b:ByteArray} {w:Int} (h:iL_ p) (hw:1≤w∧w≤8) (hb:b.size≤30):(dn_ p b w).extract w.toNat (dn_ p b w).size=eg_ p:=by
  apply Cp_
  rw [pf_,Ai_ h hw hb,jx_,List.drop_left']
  rw [zj_,ze_ _ _ _ hw hb]
theorem lS_ {p:ae_} {b:ByteArray} {w:Int} (h:iL_ p) (hw:1≤w∧w≤8) (hb:b.size≤30):hd_ (dn_ p b w) b w=(p,true):=by
  unfold hd_
  have:=BV_ p h
  rw [if_pos ⟨hw,by rw [AQ_ h hw hb];omega⟩,A0_ h hw hb,Al_ p h,if_pos rfl]
theorem x5_ {s b:ByteArray} {w:Int} (h:(hd_ s b w).2=true):dn_ (hd_ s b w).1 b w=s∧iL_ (hd_ s b w).1∧(1≤w∧w≤8)∧w+11≤s.size∧b.size≤30:=by
  unfold hd_ at h⊢
  split at h
  ·rename_i hc
   rw [if_pos hc]
   split at h
   ·rename_i hf
    rw [if_pos hf]
    refine ⟨hf, ?_⟩
    have:¬¬(iL_ (iN_ (s.extract w.toNat s.size))∧b.size≤30):=fun hn=>s3_ (s:=s) hn (by omega) hf
    have:=Classical.not_not.mp this
    exact ⟨this.1,hc.1,hc.2,this.2⟩
   ·cases h
  ·cases h
theorem xr_ {p q:ae_} {b:ByteArray} {w:Int} (hp:iL_ p) (hq:iL_ q) (hw:1≤w∧w≤8) (hb:b.size≤30) (h:dn_ p b w=dn_ q b w):p=q:=by
  have h1:=lS_ hp hw hb
  rw [h,lS_ hq hw hb] at h1
  exact (Prod.mk.inj h1).1.symm
end Km.X
namespace Km.X
open Go Km
set_option linter.unusedVariables false
set_option linter.unusedSimpArgs false
theorem Wp.pick {R:Type} {Q:R→Prop} {g:Nat→Int×ax_→Option R} {r:ax_} {n a:Int} (h:Rd n r) (hn:n≤1000000) (ha:1≤a∧a≤1000000) (H:∀q r',0≤q→q<a→Rd (n+1) r'→Wp (fun k=>g k (q,r')) Q):Wp (fun k=>(ah_ k r a).bind (g k)) Q:=
  Wp.bind (cH_ r n a h hn ha) (fun v hv=>H v.1 v.2 hv.1.1 hv.1.2 hv.2)
theorem Wp.from {R α:Type} {Q:R→Prop} {xs:List α} {i:Int} {g:Nat→α→Option R} (h0:0≤i) (h1:i<xs.length) (H:∀y∈xs,Wp (fun k=>g k y) Q):Wp (fun k=>(idx xs i).bind (g k)) Q:=by
  obtain ⟨y,hy,e,_⟩:=mI_ h0 h1
  exact Wp.opt e (H y hy)
theorem Wp.from2 {R α:Type} {Q:R→Prop} {xs:List α} {i:Int} {g:Nat→α→Option R} (h0:0≤i) (h1:i<xs.length) (H:∀y∈xs,Wp (fun k=>g k y) Q):Wp (fun k=>(idx xs i).bind fun _=>(xs[i.toNat]?).bind (g k)) Q:=by
  obtain ⟨y,hy,e,e'⟩:=mI_ h0 h1
  exact Wp.opt e (Wp.opt e' (H y hy))
theorem Et_ (r:ax_) (n:Int) (h:Rd n r) (hn:n≤900000):Wp (fun k=>jQ_ k r) (fun v=>v.1.size≤30∧Rd (n+1) v.2):=by
  unfold jQ_
  refine Wp.bind (me_ _ _ 30 (by omega) (by show 1*30≤30;omega) (by omega)) (fun m hm=> ?_)
  refine Wp.pick h (by omega) (by omega) (fun q r' q0 q1 h'=> ?_)
  dsimp only
  refine Wp.from2 q0 (by simp;omega) (fun y hy=> ?_)
  refine Wp.ret ⟨?_,h'⟩
  simp only [List.mem_cons,List.not_mem_nil,or_false] at hy
  rcases hy with rfl | rfl | rfl | rfl
  ·exact (by decide:(3:Nat)≤30)
  ·exact (by decide:(1:Nat)≤30)
  ·exact (by decide:(0:Nat)≤30)
  ·exact hm
theorem Bd_ (r:ax_) (n:Int) (h:Rd n r) (hn:n≤900000):Wp (fun k=>hI_ k r) (fun v=>(1≤v.1∧v.1≤8)∧Rd (n+1) v.2):=by
  unfold hI_
  refine Wp.pick h (by omega) (by omega) (fun q r' q0 q1 h'=> ?_)
  dsimp only
  refine Wp.from q0 (by simp;omega) (fun y hy=> ?_)
  refine Wp.ret ⟨?_,h'⟩
  simp only [List.mem_cons,List.not_mem_nil,or_false] at hy
  omega
theorem yX_ (a:List Int) (h:∀y∈a,jA_ y):Wp (fun k=>hy_ k a) (fun v=>v.1.size≤190∧v.2.1.size≤31∧(-1≤v.2.2∧v.2.2≤9)):=by
  unfold hy_
  refine Wp.bind (zl_ a h) (fun r h0=> ?_)
  refine Wp.bind (mF_ r _ h0 (by omega)) (fun m hm=> ?_)
  refine Wp.bind (Et_ m.2 _ hm.2 (by omega)) (fun ky hk=> ?_)
  refine Wp.bind (Bd_ ky.2 _ hk.2 (by omega)) (fun w hw=> ?_)
  refine Wp.pick hw.2 (by omega) (by omega) (fun q r' q0 q1 h'=> ?_)
  have fin:∀(x y:ByteArray) (z:Int),x.size≤190→y.size≤31→(-1≤z∧z≤9)→Wp (fun k=>cM_ k x y z) (fun v=>v.1.size≤190∧v.2.1.size≤31∧(-1≤v.2.2∧v.2.2≤9)):=fun x y z h1 h2 h3=>by
    refine Wp.step ?_
    simp only [cM_]
    exact Wp.ret ⟨h1,h2,h3⟩
  simp only [fl_]
  have:=hk.1
  refine Wp.ite (fun _=> ?_) (fun _=> ?_)
  ·refine Wp.pick h' (by omega) (by omega) (fun q r' q0 q1 h'=> ?_)
   dsimp only
   refine Wp.from q0 (by simp;omega) (fun y hy=> ?_)
   simp only [List.mem_cons,List.not_mem_nil,or_false] at hy
   exact fin _ _ _ hm.1 (by omega) (by omega)
  ·refine Wp.ite (fun _=> ?_) (fun _=> ?_)
   ·refine Wp.bind (me_ _ _ 31 (by omega) (by show 1*31≤31;omega) (by omega)) (fun m hm'=> ?_)
    exact fin _ _ _ hm.1 hm' (by omega)
   ·exact fin _ _ _ hm.1 (by omega) (by omega)
end Km.X
namespace Km.X
open Go Km
set_option linter.unusedVariables false
set_option linter.unusedSimpArgs false
def vi_ (b:ByteArray) (wd:Int):ac_:=if (1≤wd∧wd≤8)∧b.size≤30 then ⟨b,wd,[yP_ 1,yP_ 2],[],noB,[],[]⟩ else hP_
theorem wx_ (b:ByteArray) (wd:Int):Wp (fun k=>gD_ k b wd) (· =vi_ b wd):=by
  unfold gD_ vi_
  refine Wp.bind (bX_ _ _ _) (fun _ e=> ?_);subst e
  refine Wp.not (fun h=> ?_) (fun h=> ?_)
  ·simp only [Bool.and_eq_false_iff,decide_eq_false_iff_not] at h
   exact Wp.ret (by rw [if_neg (fun g=>by omega)];rfl)
  simp only [Bool.and_eq_true,decide_eq_true_eq] at h
  refine Wp.dec (fun h1=>Wp.ret (by rw [if_neg (fun g=>by omega)];rfl)) (fun h1=> ?_)
  refine Wp.bind (rH_ 1) (fun _ e=> ?_);subst e
  refine Wp.bind (rH_ 2) (fun _ e=> ?_);subst e
  exact Wp.ret (by rw [if_pos ⟨h,by omega⟩])
theorem newE_V:VEnd (yP_ 1)∧VEnd (yP_ 2):=by decide
theorem DX_ {b:ByteArray} {wd:Int} (hb:b.size≤30) (hw:1≤wd∧wd≤8):au_ (vi_ b wd):=by
  unfold vi_
  rw [if_pos ⟨hw,hb⟩]
  exact ⟨hw,hb,by simp,by simp,og_ newE_V.1 rfl newE_V.2 rfl,(fun p hp=>by cases hp),(fun p hp=>by cases hp),(fun p hp=>by cases hp)⟩
inductive Reach:Nat→Nat→ac_→Prop
  | new {b:ByteArray} {wd:Int}:b.size≤30→(1≤wd∧wd≤8)→Reach 0 0 (vi_ b wd)
  | step {n m:Nat} {w:ac_} (v:as_):Reach n m w→Reach (n+if v.Kind=8 then 1 else 0) (m+1) (doW w v)
  | more {n m n' m':Nat} {w:ac_}:n≤n'→m≤m'→Reach n m w→Reach n' m' w
theorem Reach.V {n m:Nat} {w:ac_} (h:Reach n m w):au_ w:=by
  induction h with
  | new h1 h2=>exact DX_ h1 h2
  | step v _ ih=>exact yK_ ih v
  | more _ _ _ ih=>exact ih
theorem Reach.go {n m:Nat} {w:ac_} (h:Reach n m w) {v:as_} (hv:v.Kind≠8):Reach n (m+1) (doW w v):=by
  have:=Reach.step v h
  rw [if_neg hv] at this
  exact this
theorem e4_ {w:ac_} (h:au_ w):w.Given.length≤1048576∧w.Taken.length≤1048576:=by
  have:=h.2.2.2.1;omega
def EvP (n:Int) (v:as_×ax_):Prop:=(v.1.Text.size≤190∧(1≤v.1.Kind∧v.1.Kind≤11))∧Rd n v.2
theorem F1_ (a m:Int) (r:ax_) (h:Rd m r):Wp (fun k=>dN_ k a r.b r.p 0 0 0 0 noB) (EvP m):=by
  refine Wp.step ?_
  simp only [dN_]
  exact Wp.ret ⟨⟨Nat.zero_le _,by dsimp only;omega⟩,h⟩
theorem F3_ (a m:Int) (r:ax_) (h:Rd m r):Wp (fun k=>dH_ k a r.b r.p 0 0 0 0 noB) (EvP m):=by
  refine Wp.step ?_
  simp only [dH_]
  exact Wp.ret ⟨⟨Nat.zero_le _,by dsimp only;omega⟩,h⟩
theorem Gv_ (a e kk n m:Int) (r:ax_) (h:Rd n r) (hn:n≤900000) (hm:n+2≤m):Wp (fun k=>eZ_ k a e kk r.b r.p 0 0 0 0 noB) (EvP m):=by
  refine Wp.step ?_
  simp only [eZ_,fl_]
  refine Wp.ite (fun _=> ?_) (fun _=> ?_)
  ·refine Wp.pick h (by omega) (by omega) (fun q r' q0 q1 h'=> ?_)
   refine Wp.pick h' (by omega) (by omega) (fun q r' q0 q1 h'=> ?_)
   exact Wp.ret ⟨⟨Nat.zero_le _,by dsimp only;omega⟩,h'.mono (by omega)⟩
  refine Wp.ite (fun _=> ?_) (fun _=> ?_)
  ·refine Wp.pick h (by omega) (by omega) (fun q r' q0 q1 h'=> ?_)
   exact Wp.ret ⟨⟨Nat.zero_le _,by dsimp only;omega⟩,h'.mono (by omega)⟩
  refine Wp.ite (fun _=> ?_) (fun _=> ?_)
  ·exact Wp.ret ⟨⟨Nat.zero_le _,by dsimp only;omega⟩,h.mono (by omega)⟩
  refine Wp.ite (fun _=> ?_) (fun _=> ?_)
  ·exact Wp.ret ⟨⟨Nat.zero_le _,by dsimp only;omega⟩,h.mono (by omega)⟩
  ·exact Wp.ret ⟨⟨Nat.zero_le _,by dsimp only;omega⟩,h.mono (by omega)⟩
theorem ev5 (a kk n m:Int) (r:ax_) (h:Rd n r) (hn:0≤n∧n≤700000) (hm:n+45≤m):Wp (fun k=>d9_ k kk a r.b r.p 0 0 0 0 noB) (EvP m):=by
  refine Wp.step ?_
  simp only [d9_]
  refine Wp.pick h (by omega) (by omega) (fun q r1 q0 q1 h1=> ?_)
  simp only [al_,fl_]
  refine Wp.ite (fun _=> ?_) (fun _=> ?_)
  ·exact Wp.ret ⟨⟨Nat.zero_le _,by dsimp only;omega⟩,h1.mono (by omega)⟩
  refine Wp.ite (fun _=> ?_) (fun _=> ?_)
  ·exact Wp.ret ⟨⟨Nat.zero_le _,by dsimp only;omega⟩,h1.mono (by omega)⟩
  refine Wp.ite (fun _=> ?_) (fun _=> ?_)
  ·refine Wp.bind (mF_ r1 _ h1 (by omega)) (fun v hv=> ?_)
   exact Wp.ret ⟨⟨hv.1,by dsimp only;omega⟩,hv.2.mono (by omega)⟩
  refine Wp.ite (fun _=> ?_) (fun _=> ?_)
  ·exact Wp.ret ⟨⟨Nat.zero_le _,by dsimp only;omega⟩,h1.mono (by omega)⟩
  refine Wp.ite (fun _=>F1_ _ _ r1 (h1.mono (by omega))) (fun _=> ?_)
  refine Wp.ite (fun _=>F1_ _ _ r1 (h1.mono (by omega))) (fun _=> ?_)
  refine Wp.step ?_
  simp only [gi_,fl_]
  refine Wp.ite (fun _=>F3_ _ _ r1 (h1.mono (by omega))) (fun _=> ?_)
  refine Wp.ite (fun _=>F3_ _ _ r1 (h1.mono (by omega))) (fun _=> ?_)
  exact Gv_ _ _ _ _ _ r1 h1 (by omega) (by omega)
theorem x2_ (r:ax_) (n:Int) (h:Rd n r) (hn:0≤n∧n≤600000):Wp (fun k=>hn_ k r) (EvP (n+50)):=by
  unfold hn_
  refine Wp.pick h (by omega) (by omega) (fun q1 r1 q10 q11 h1=> ?_)
  refine Wp.pick h1 (by omega) (by omega) (fun q2 r2 q20 q21 h2=> ?_)
  refine Wp.pick h2 (by omega) (by omega) (fun q3 r3 q30 q31 h3=> ?_)
  simp only [fl_]
  refine Wp.ite (fun _=> ?_) (fun _=> ?_)
  ·refine Wp.pick h3 (by omega) (by omega) (fun q4 r4 q40 q41 h4=> ?_)
   exact ev5 _ _ _ _ r4 h4 (by omega) (by omega)
  ·exact ev5 _ _ _ _ r3 h3 (by omega) (by omega)
section
variable (a b:ByteArray) (z:Int) (E2:List an_) (F2:List ad_) (G2 T2:List aa_)
end
end Km.X
namespace Km.X
open Go Km
set_option linter.unusedVariables false
set_option linter.unusedSimpArgs false
def DTk (m:Int) (v:ai_×ax_):Prop:=VTake v.1∧Rd m v.2
theorem B6_ {t:ai_} (h:VTake t):t.Held.length≤1048576∧t.Ready.length≤1048576:=by have:=h.2.1;have:=h.2.2.2.1;omega
theorem t3 (e:ByteArray) (c:Int) (g:ByteArray) (y:List ak_) (z:List ByteArray):∀(d:Nat) (n:Int) (r:ax_) (t:ai_),VTake t→Rd n r→n+10*d≤800000→
    Wp (fun k=>f5_ k (d:Int) r.b r.p c e t.Next t.Open y z t.Held t.Ready) (DTk (n+10*d))
  | 0,n,r,t,ht,hr,hn=>by
    refine Wp.step ?_
    simp only [f5_]
    refine Wp.dec (fun g=>by omega) (fun _=> ?_)
    refine Wp.bind (jC_ t (B6_ ht).1 (B6_ ht).2) (fun x hx=> ?_);rw [hx]
    exact Wp.ret ⟨ht,hr.mono (by omega)⟩
  | d+1,n,r,t,ht,hr,hn=>by
    have hn0:0≤n:=by have:=hr.2.2;omega
    have l4:∀(t':ai_) (r':ax_),VTake t'→Rd (n+10) r'→Wp (fun k=>f4_ k ((d+1:Nat):Int) r'.b r'.p c e t'.Next t'.Open y z t'.Held t'.Ready) (DTk (n+10*((d+1:Nat):Int))):=fun t' r' h1 h2=>by
      refine Wp.step ?_
      simp only [f4_]
      rw [aS_ (n:=((d+1:Nat):Int)-1) (by omega) (by omega),show ((d+1:Nat):Int)-1=(d:Int) by omega]
      exact (t3 e c g y z d (n+10) r' t' h1 h2 (by omega)).mono fun v hv=>⟨hv.1,hv.2.mono (by omega)⟩
    have l9:∀(q:Int) (r':ax_),Rd (n+5) r'→Wp (fun k=>f0_ k ((d+1:Nat):Int) q r'.b r'.p c e t.Next t.Open y z t.Held t.Ready) (DTk (n+10*((d+1:Nat):Int))):=fun q r' h2=>by
      refine Wp.step ?_
      simp only [f0_]
      refine Wp.pick h2 (by omega) (by omega) (fun q1 r1 q10 q11 h1=> ?_)
      dsimp only
      refine Wp.from q10 (by simp;omega) (fun u hu=> ?_)
      simp only [List.mem_cons,List.not_mem_nil,or_false] at hu
      refine Wp.bind (me_ _ _ 20 (by omega) (by show 1*_≤20;omega) (by omega)) (fun m hm=> ?_)
      refine Wp.pick h1 (by omega) (by omega) (fun q2 r2 q20 q21 h3=> ?_)
      refine Wp.bind (pc_ t _ _) (fun x hx=> ?_)
      exact l4 x r2 (by rw [hx];exact AL_ _ _ _) (h3.mono (by omega))
    refine Wp.step ?_
    simp only [f5_]
    refine Wp.dec (fun _=> ?_) (fun g=>by omega)
    refine Wp.pick hr (by omega) (by omega) (fun q1 r1 q10 q11 h1=> ?_)
    simp only [fl_]
    refine Wp.ite (fun _=> ?_) (fun _=> ?_)
    ·refine Wp.bind (qi_ t) (fun x hx=> ?_)
     exact l4 x.1 r1 (by rw [hx];exact (s1_ t).1) (h1.mono (by omega))
    ·refine Wp.pick h1 (by omega) (by omega) (fun q2 r2 q20 q21 h2=> ?_)
     dsimp only
     refine Wp.ite (fun _=> ?_) (fun _=>l9 _ r2 (h2.mono (by omega)))
     refine Wp.pick h2 (by omega) (by omega) (fun q3 r3 q30 q31 h3=> ?_)
     exact l9 _ r3 (h3.mono (by omega))
theorem t20 (m:Int) (r:ax_) (c n:Int) (e o:ByteArray) (y:List ak_) (z:List ByteArray) (h:List ak_) (s:List ByteArray) (hr:Rd m r):Wp (fun k=>gm_ k r.b r.p c e n o y z h s) (fun v=>Rd m v.2):=by
  refine Wp.step ?_
  simp only [gm_]
  exact Wp.ret hr
theorem t15 (m x0:Int) (r:ax_) (c n:Int) (e o:ByteArray) (y:List ak_) (z:List ByteArray) (h:List ak_) (hr:Rd m r) (hx:x0≤100):∀(d:Nat) (s:List ByteArray),d=(x0-s.length).toNat→s.length≤1000→Wp (fun k=>eW_ k x0 r.b r.p c e n o y z h s) (fun v=>Rd m v.2)
  | 0,s,hd,hs=>by
    refine Wp.step ?_
    simp only [eW_]
    exact Wp.dec (fun g=>by omega) (fun _=>t20 m r c n e o y z h s hr)
  | d+1,s,hd,hs=>by
    refine Wp.step ?_
    simp only [eW_]
    refine Wp.dec (fun _=> ?_) (fun g=>by omega)
    refine Wp.opt (aQ_ (by simp;omega)) ?_
    exact t15 m x0 r c n e o y z h hr hx d (s++[noB]) (by simp;omega) (by simp;omega)
theorem e9 (m:Int) (r:ax_) (hr:Rd m r) (a:Int) (b:Bool) (c d e:Int) (f:Bool) (g h:Int) (i:ByteArray) (a':Int) (b':Bool) (c' d' e':Int) (f':Bool) (g':Int) (l1:List ag_) (h':Int) (l2:List ak_) (i':ByteArray) (l3:List ByteArray) (l4:List ag_) (l5:List ak_) (l6:List ByteArray):
    Wp (fun k=>lf_ k r.b r.p a b c d e f g h i a' b' c' d' e' f' g' l1 h' l2 i' l3 l4 l5 l6) (fun v=>Rd m v.2):=by
  refine Wp.step ?_
  simp only [lf_]
  exact Wp.ret hr
end Km.X
namespace Km.X
open Go Km
set_option linter.unusedVariables false
set_option linter.unusedSimpArgs false
end Km.X
