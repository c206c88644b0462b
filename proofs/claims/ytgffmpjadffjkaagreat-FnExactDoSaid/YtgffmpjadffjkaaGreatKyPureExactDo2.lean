/- A part of the proof of FnExactDo: plain laws of these functions. There is no condition. -/
import Derived.Test.YtgffmpjadffjkaaGreatKyPureExactDo1
import Derived.Test.YtgffmpjadffjkaaGreatKxDef2
namespace Km.X
open Go Km
set_option linter.unusedVariables false
set_option linter.unusedSimpArgs false
def Db_ (r:ab_):Prop:=(1≤r.From∧r.From≤2)∧(1≤r.A∧r.A≤1000)∧(1≤r.B∧r.B≤1000)∧r.Text.size≤200
instance (r:ab_):Decidable (Db_ r):=by unfold Db_;infer_instance
def fN_ (l:List ab_):Prop:=∀r∈l,Db_ r
instance (l:List ab_):Decidable (fN_ l):=by unfold fN_;infer_instance
def x8_ (p:ac_):Prop:=(1≤p.To∧p.To≤2)∧p.Sent.size≤100∧p.Bytes.size≤100
instance (p:ac_):Decidable (x8_ p):=by unfold x8_;infer_instance
def lb_ (l:List ac_):Prop:=∀p∈l,x8_ p
instance (l:List ac_):Decidable (lb_ l):=by unfold lb_;infer_instance
def n7_:List an_→Prop
  | [a,b]=>(VEnd a∧a.Number=1)∧(VEnd b∧b.Number=2)
  | _=>False
instance:(l:List an_)→Decidable (n7_ l)
  | [a,b]=>by unfold n7_;infer_instance
  | []=> .isFalse id
  | [_]=> .isFalse id
  | _::_::_::_=> .isFalse id
def bw_ (w:ae_):Prop:=(1≤w.Width∧w.Width≤8)∧w.Key.size≤30∧w.Flight.length≤1000∧w.Given.length+w.Taken.length≤400∧n7_ w.Ends∧lb_ w.Flight∧fN_ w.Given∧fN_ w.Taken
instance (w:ae_):Decidable (bw_ w):=by unfold bw_;infer_instance
theorem t3_:∀{l:List an_},n7_ l→l.length=2
  | [a,b],_=>rfl
theorem all_cons {α:Type} {P:α→Prop} {x:α} {t:List α}:(∀y∈x::t,P y)↔P x∧∀y∈t,P y:=by simp
theorem uT_:∀(t pre:List ab_),(pre++t).length≤1000→Wp (fun k=>bE_ k (pre++t) (pre.length:Int)) (· =decide (fN_ t))
  | [],pre,hl=>by
    refine Wp.step ?_
    simp only [bE_,List.append_nil]
    simp (disch:=omega) only [af_,if_neg]
    exact Wp.ret (decide_eq_true fun x hx=>by simp at hx).symm
  | x::t,pre,hl=>by
    refine Wp.step ?_
    have hl':=hl
    simp only [List.length_append,List.length_cons] at hl
    simp only [bE_]
    simp only [af_,a3_,if_true,aA_,Option.bind_some,aH_]
    have F:¬Db_ x→Wp (fun _=>some false) (· =decide (fN_ (x::t))):=fun h=>Wp.ret (decide_eq_false fun g=>h (g x (List.mem_cons_self ..))).symm
    refine Wp.bind (ck_ _ _ _) (fun _ q=> ?_);subst q
    simp only [inB,af_]
    refine Wp.ite (fun h1=> ?_) (fun h1=>F fun g=>h1 g.1)
    refine Wp.bind (ck_ _ _ _) (fun _ q=> ?_);subst q
    simp only [inB,af_]
    refine Wp.ite (fun h2=> ?_) (fun h2=>F fun g=>h2 g.2.1)
    refine Wp.bind (ck_ _ _ _) (fun _ q=> ?_);subst q
    simp only [inB,af_]
    refine Wp.ite (fun h3=> ?_) (fun h3=>F fun g=>h3 g.2.2.1)
    refine Wp.ite (fun h4=>F fun g=>by have:=g.2.2.2;omega) (fun h4=> ?_)
    simp (disch:=omega) only [aM_]
    have ih:=uT_ t (pre++[x]) (by simpa using hl')
    rw [←aI_,←aW_] at ih
    refine ih.mono fun v hv=> ?_
    rw [hv,decide_eq_decide]
    exact ⟨fun g=>all_cons.mpr ⟨⟨h1,h2,h3,by omega⟩,g⟩,fun g=>(all_cons.mp g).2⟩
theorem pn_ (l:List ab_) (h:l.length≤1000):Wp (fun k=>et_ k l) (· =decide (fN_ l)):=uT_ l [] (by simpa using h)
theorem w6_ (kk:ByteArray) (wd:Int) (es:List an_) (fo:ByteArray) (gi ta:List ab_) (hg:gi.length≤1000) (ht:ta.length≤1000):∀(t pre:List ac_),(pre++t).length≤1000→
    Wp (fun k=>b6_ k (pre.length:Int) kk wd es (pre++t) fo gi ta) (· =decide (lb_ t∧fN_ gi∧fN_ ta))
  | [],pre,hl=>by
    refine Wp.step ?_
    simp only [b6_,List.append_nil]
    simp (disch:=omega) only [af_,if_neg]
    refine Wp.bind (pn_ gi hg) (fun _ q=> ?_);subst q
    simp only [af_]
    refine Wp.ite (fun h1=> ?_) (fun h1=>Wp.ret (decide_eq_false fun g=>h1 g.2.1).symm)
    refine Wp.bind (pn_ ta ht) (fun _ q=> ?_);subst q
    refine Wp.ret ?_
    rw [decide_eq_decide]
    exact ⟨fun g=>⟨fun x hx=>by simp at hx,h1,g⟩,fun g=>g.2.2⟩
  | x::t,pre,hl=>by
    refine Wp.step ?_
    have hl':=hl
    simp only [List.length_append,List.length_cons] at hl
    simp only [b6_]
    simp only [af_,a3_,if_true,aA_,Option.bind_some,aH_]
    have F:¬x8_ x→Wp (fun _=>some false) (· =decide (lb_ (x::t)∧fN_ gi∧fN_ ta)):=fun h=>Wp.ret (decide_eq_false fun g=>h (g.1 x (List.mem_cons_self ..))).symm
    refine Wp.bind (ck_ _ _ _) (fun _ q=> ?_);subst q
    simp only [inB,af_]
    refine Wp.ite (fun h1=> ?_) (fun h1=>F fun g=>h1 g.1)
    refine Wp.ite (fun h2=>F fun g=>by have:=g.2.1;omega) (fun h2=> ?_)
    refine Wp.ite (fun h3=>F fun g=>by have:=g.2.2;omega) (fun h3=> ?_)
    simp (disch:=omega) only [aM_]
    have ih:=w6_ kk wd es fo gi ta hg ht t (pre++[x]) (by simpa using hl')
    rw [←aI_,←aW_] at ih
    refine ih.mono fun v hv=> ?_
    rw [hv,decide_eq_decide]
    exact ⟨fun g=>⟨all_cons.mpr ⟨⟨h1,by omega,by omega⟩,g.1⟩,g.2⟩,fun g=>⟨(all_cons.mp g.1).2,g.2⟩⟩
theorem nl_ (w:ae_) (hb:w.Given.length≤1048576∧w.Taken.length≤1048576):Wp (fun k=>eL_ k w) (· =decide (bw_ w)):=by
  unfold eL_
  have F:¬bw_ w→Wp (fun _=>some false) (· =decide (bw_ w)):=fun h=>Wp.ret (decide_eq_false h).symm
  refine Wp.bind (ck_ _ _ _) (fun _ q=> ?_);subst q
  simp only [inB,af_,aH_,d8_]
  refine Wp.ite (fun h1=> ?_) (fun h1=>F fun g=>h1 g.1)
  refine Wp.ite (fun h2=>F fun g=>by have:=g.2.1;omega) (fun h2=> ?_)
  refine Wp.ite (fun h3=> ?_) (fun h3=>F fun g=>by have:=t3_ g.2.2.2.2.1;omega)
  refine Wp.ite (fun h4=>F fun g=>by have:=g.2.2.1;omega) (fun h4=> ?_)
  simp (disch:=omega) only [aM_]
  refine Wp.ite (fun h5=>F fun g=>by have:=g.2.2.2.1;omega) (fun h5=> ?_)
  obtain ⟨ky,wd,es,fl,fo,gi,ta⟩:=w
  match es,h3 with
  | [a,b],_=>
    refine Wp.step ?_
    have e0:idx [a,b] 0=some a:=rfl
    have e1:idx [a,b] 1=some b:=rfl
    have w1:IntKind.wrap .i64 (0+1)=1:=aM_ (by omega) (by omega)
    have w2:IntKind.wrap .i64 (1+1)=2:=aM_ (by omega) (by omega)
    have d0:(0:Int)<2:=by omega
    have d1:(1:Int)<2:=by omega
    have d2:¬(2:Int)<2:=by omega
    simp only [b4_,e0,w1,af_,Option.bind_some,if_pos d0,d8_]
    refine Wp.bind (bW_ _) (fun _ q=> ?_);subst q
    simp only [af_,aH_]
    refine Wp.ite (fun h6=> ?_) (fun h6=>F fun g=>h6 g.2.2.2.2.1.1.1)
    refine Wp.ite (fun h7=> ?_) (fun h7=>F fun g=>h7 g.2.2.2.2.1.1.2)
    refine Wp.step ?_
    simp only [b4_,e1,w2,af_,Option.bind_some,if_pos d1,d8_]
    refine Wp.bind (bW_ _) (fun _ q=> ?_);subst q
    simp only [af_,aH_]
    refine Wp.ite (fun h8=> ?_) (fun h8=>F fun g=>h8 g.2.2.2.2.1.2.1)
    refine Wp.ite (fun h9=> ?_) (fun h9=>F fun g=>h9 g.2.2.2.2.1.2.2)
    refine Wp.step ?_
    simp only [b4_,af_,if_neg d2]
    simp only at h2 h4 h5 hb
    refine Wp.mono (w6_ ky wd [a,b] fo gi ta (by omega) (by omega) fl [] (by show fl.length≤1000;omega)) fun v hv=> ?_
    rw [hv,decide_eq_decide]
    exact ⟨fun g=>⟨h1,by simp only;omega,by simp only;omega,by simp only;omega,⟨⟨h6,h7⟩,⟨h8,h9⟩⟩,g⟩,fun g=>g.2.2.2.2.2⟩
theorem p1_ (n j:Int) (xx:List (List ab_)) (R:Prop) [Decidable R] (hR:Wp (fun k=>a5_ k n (IntKind.wrap .i64 (j+1)) xx) (· =decide R)):∀(t pre:List ab_),(pre++t).length≤1000→
    Wp (fun k=>a6_ k n j (pre++t) ((pre++t).length:Int) (pre.length:Int) xx) (· =decide (fN_ t∧R))
  | [],pre,hl=>by
    refine Wp.step ?_
    simp only [a6_,List.append_nil]
    simp (disch:=omega) only [af_,if_neg]
    refine hR.mono fun v hv=> ?_
    rw [hv,decide_eq_decide]
    exact ⟨fun g=>⟨fun x hx=>by simp at hx,g⟩,fun g=>g.2⟩
  | x::t,pre,hl=>by
    refine Wp.step ?_
    have hl':=hl
    simp only [List.length_append,List.length_cons] at hl
    simp only [a6_]
    simp only [af_,a3_,if_true,aA_,Option.bind_some,aH_,d8_]
    simp (disch:=omega) only [aM_]
    have F:¬Db_ x→Wp (fun _=>some false) (· =decide (fN_ (x::t)∧R)):=fun h=>Wp.ret (decide_eq_false fun g=>h (g.1 x (List.mem_cons_self ..))).symm
    have ih:=p1_ n j xx R hR t (pre++[x]) (by simpa using hl')
    rw [←aI_,←aW_] at ih
    have M:(1≤x.From∧x.From≤2)→Wp (fun k=>(aX_ k x.A 1 1000).bind fun r8=>
     bif r8 then (aX_ k x.B 1 1000).bind fun r9=>bif r9 then (if (x.Text.size:Int)>200 then some false else a6_ k n j (pre++x::t) ((pre++x::t).length:Int) ((pre.length:Int)+1) xx) else some false else some false) (· =decide (fN_ (x::t)∧R)):=fun h1=>by
      refine Wp.bind (mq_ _ _ _) (fun _ q=> ?_);subst q
      simp only [inB,af_]
      refine Wp.ite (fun h2=> ?_) (fun h2=>F fun g=>h2 g.2.1)
      refine Wp.bind (mq_ _ _ _) (fun _ q=> ?_);subst q
      simp only [inB,af_]
      refine Wp.ite (fun h3=> ?_) (fun h3=>F fun g=>h3 g.2.2.1)
      refine Wp.ite (fun h4=>F fun g=>by have:=g.2.2.2;omega) (fun h4=> ?_)
      refine ih.mono fun v hv=> ?_
      rw [hv,decide_eq_decide]
      exact ⟨fun g=>⟨all_cons.mpr ⟨⟨h1,h2,h3,by omega⟩,g.1⟩,g.2⟩,fun g=>⟨(all_cons.mp g.1).2,g.2⟩⟩
    refine Wp.ite (fun h=>M (by omega)) (fun h=> ?_)
    exact Wp.ite (fun h2=>M (by omega)) (fun h2=>F fun g=>by have:=g.1;omega)
theorem yx_ (gi ta:List ab_) (hg:gi.length≤1000) (ht:ta.length≤1000):Wp (fun k=>a5_ k (([gi,ta]:List (List ab_)).length:Int) 0 [gi,ta]) (· =decide (fN_ gi∧fN_ ta)):=by
  have e0:idx [gi,ta] 0=some gi:=rfl
  have e1:idx [gi,ta] 1=some ta:=rfl
  have w1:IntKind.wrap .i64 (0+1)=1:=aM_ (by omega) (by omega)
  have w2:IntKind.wrap .i64 (1+1)=2:=aM_ (by omega) (by omega)
  have d0:(0:Int)<2:=by omega
  have d1:(1:Int)<2:=by omega
  have d2:¬(2:Int)<2:=by omega
  have l2:(([gi,ta]:List (List ab_)).length:Int)=2:=rfl
  rw [l2]
  have g0:[gi,ta][Int.toNat 0]? =some gi:=rfl
  have g1:[gi,ta][Int.toNat 1]? =some ta:=rfl
  refine Wp.step ?_
  simp only [a5_,e0,g0,af_,if_pos d0,Option.bind_some]
  refine p1_ 2 0 [gi,ta] (fN_ ta) ?_ gi [] (by simpa using hg)
  rw [w1]
  refine Wp.step ?_
  simp only [a5_,e1,g1,af_,if_pos d1,Option.bind_some]
  refine (p1_ 2 1 [gi,ta] True ?_ ta [] (by simpa using ht)).mono fun v hv=> ?_
  ·rw [w2]
   refine Wp.step ?_
   simp only [a5_,af_,if_neg d2]
   exact Wp.ret rfl
  ·rw [hv,decide_eq_decide];exact ⟨fun g=>g.1,fun g=>⟨g,trivial⟩⟩
theorem w9_ (kk:ByteArray) (wd:Int) (es:List an_) (ff:List ac_) (fo:ByteArray) (gi ta:List ab_) (hg:gi.length≤1000) (ht:ta.length≤1000):∀(t pre:List ac_),(pre++t).length≤1000→
    Wp (fun k=>a4_ k (pre++t) ((pre++t).length:Int) (pre.length:Int) kk wd es ff fo gi ta) (· =decide (lb_ t∧fN_ gi∧fN_ ta))
  | [],pre,hl=>by
    refine Wp.step ?_
    simp only [a4_,List.append_nil]
    have hn:¬(pre.length:Int)<(pre.length:Int):=by omega
    simp only [af_,if_neg hn]
    refine (yx_ gi ta hg ht).mono fun v hv=> ?_
    rw [hv,decide_eq_decide]
    exact ⟨fun g=>⟨fun x hx=>by simp at hx,g⟩,fun g=>g.2⟩
  | x::t,pre,hl=>by
    refine Wp.step ?_
    have hl':=hl
    simp only [List.length_append,List.length_cons] at hl
    simp only [a4_]
    simp only [af_,a3_,if_true,aA_,Option.bind_some,aH_,d8_]
    simp (disch:=omega) only [aM_]
    have F:¬x8_ x→Wp (fun _=>some false) (· =decide (lb_ (x::t)∧fN_ gi∧fN_ ta)):=fun h=>Wp.ret (decide_eq_false fun g=>h (g.1 x (List.mem_cons_self ..))).symm
    have ih:=w9_ kk wd es ff fo gi ta hg ht t (pre++[x]) (by simpa using hl')
    rw [←aI_,←aW_] at ih
    have M:(1≤x.To∧x.To≤2)→Wp (fun k=>if (x.Sent.size:Int)>100 then some false else if (x.Bytes.size:Int)>100 then some false else a4_ k (pre++x::t) ((pre++x::t).length:Int) ((pre.length:Int)+1) kk wd es ff fo gi ta) (· =decide (lb_ (x::t)∧fN_ gi∧fN_ ta)):=fun h1=>by
      refine Wp.ite (fun h2=>F fun g=>by have:=g.2.1;omega) (fun h2=> ?_)
      refine Wp.ite (fun h3=>F fun g=>by have:=g.2.2;omega) (fun h3=> ?_)
      refine ih.mono fun v hv=> ?_
      rw [hv,decide_eq_decide]
      exact ⟨fun g=>⟨all_cons.mpr ⟨⟨h1,by omega,by omega⟩,g.1⟩,g.2⟩,fun g=>⟨(all_cons.mp g.1).2,g.2⟩⟩
    refine Wp.ite (fun h=>M (by omega)) (fun h=> ?_)
    exact Wp.ite (fun h2=>M (by omega)) (fun h2=>F fun g=>by have:=g.1;omega)
theorem mU_ (w:ae_) (hb:w.Given.length≤1048576∧w.Taken.length≤1048576):Wp (fun k=>e2_ k w) (· =decide (bw_ w)):=by
  unfold e2_
  have F:¬bw_ w→Wp (fun _=>some false) (· =decide (bw_ w)):=fun h=>Wp.ret (decide_eq_false h).symm
  simp only [af_,aH_,d8_]
  refine Wp.ite (fun h1=>F fun g=>by have:=g.1;omega) (fun h1=> ?_)
  refine Wp.ite (fun h1'=>F fun g=>by have:=g.1;omega) (fun h1'=> ?_)
  refine Wp.ite (fun h2=>F fun g=>by have:=g.2.1;omega) (fun h2=> ?_)
  refine Wp.ite (fun h3=> ?_) (fun h3=>F fun g=>by have:=t3_ g.2.2.2.2.1;omega)
  refine Wp.ite (fun h4=>F fun g=>by have:=g.2.2.1;omega) (fun h4=> ?_)
  simp (disch:=omega) only [aM_]
  refine Wp.ite (fun h5=>F fun g=>by have:=g.2.2.2.1;omega) (fun h5=> ?_)
  obtain ⟨ky,wd,es,fl,fo,gi,ta⟩:=w
  match es,h3 with
  | [a,b],_=>
    refine Wp.step ?_
    have e0:idx [a,b] 0=some a:=rfl
    have e1:idx [a,b] 1=some b:=rfl
    have w1:IntKind.wrap .i64 (0+1)=1:=aM_ (by omega) (by omega)
    have w2:IntKind.wrap .i64 (1+1)=2:=aM_ (by omega) (by omega)
    have d0:(0:Int)<2:=by omega
    have d1:(1:Int)<2:=by omega
    have d2:¬(2:Int)<2:=by omega
    have l2:(([a,b]:List an_).length:Int)=2:=rfl
    simp only [b5_,e0,w1,af_,Option.bind_some,l2,if_pos d0,d8_]
    refine Wp.bind (bZ_ _) (fun _ q=> ?_);subst q
    simp only [af_,aH_]
    refine Wp.ite (fun h6=> ?_) (fun h6=>F fun g=>h6 g.2.2.2.2.1.1.1)
    refine Wp.ite (fun h7=> ?_) (fun h7=>F fun g=>h7 g.2.2.2.2.1.1.2)
    refine Wp.step ?_
    simp only [b5_,e1,w2,af_,Option.bind_some,if_pos d1,d8_]
    refine Wp.bind (bZ_ _) (fun _ q=> ?_);subst q
    simp only [af_,aH_]
    refine Wp.ite (fun h8=> ?_) (fun h8=>F fun g=>h8 g.2.2.2.2.1.2.1)
    refine Wp.ite (fun h9=> ?_) (fun h9=>F fun g=>h9 g.2.2.2.2.1.2.2)
    refine Wp.step ?_
    simp only [b5_,af_,if_neg d2]
    simp only at h1 h1' h2 h4 h5 hb
    refine Wp.mono (w9_ ky wd [a,b] fl fo gi ta (by omega) (by omega) fl [] (by show fl.length≤1000;omega)) fun v hv=> ?_
    rw [hv,decide_eq_decide]
    exact ⟨fun g=>⟨⟨by simp only;omega,by simp only;omega⟩,by simp only;omega,by simp only;omega,by simp only;omega,⟨⟨h6,h7⟩,⟨h8,h9⟩⟩,g⟩,fun g=>g.2.2.2.2.2⟩
def Bg_ (e f:an_):Prop:=e.Up=true∧e.Peer=f.Life∧e.Send.Items.length=0∧e.Take.Held.length=0∧e.Take.Open=noB∧e.Take.Ready.length=0
instance (e f:an_):Decidable (Bg_ e f):=by unfold Bg_;infer_instance
def CB_:List an_→Prop
  | [a,b]=>Bg_ a b∧Bg_ b a
  | _=>False
instance:(l:List an_)→Decidable (CB_ l)
  | [a,b]=>by unfold CB_;infer_instance
  | []=> .isFalse id
  | [_]=> .isFalse id
  | _::_::_::_=> .isFalse id
def EE_ (w:ae_):Prop:=bw_ w∧CB_ w.Ends
instance (w:ae_):Decidable (EE_ w):=by unfold EE_;infer_instance
end Km.X
namespace Km.X
open Go Km
set_option linter.unusedVariables false
set_option linter.unusedSimpArgs false
def vJ_ (q:Int) (p:aE_):List ai_→Option (List ai_)
  | []=>some [⟨q,p⟩]
  | x::t=>if x.Seq=q then none else if q<x.Seq then some (⟨q,p⟩::x::t) else (vJ_ q p t).map (x:: ·)
def vt_ (t:ak_) (q:Int) (p:aE_):ak_:=
  if VTake t then
   if (t.Next≤q∧q≤t.Next+7∧q≤999999)∧p.Text.size≤20 then (match vJ_ q p t.Held with | none=>t | some h=>jz_ h t.Next t.Open t.Ready)
   else t
  else nC_
def SmH (h:List ai_):Prop:=∀x∈h,x.Seq≤999999∧x.Part.Text.size≤1000
theorem uY_ (c:Int) (e:ByteArray) (h h2:List ai_) (r2:List ByteArray) (hh:List ai_) (n:Int) (o:ByteArray) (r:List ByteArray) (hl:h.length≤100) (hs:SmH h) (hn:0≤n) (ho:o.size≤200) (hr:r.length≤4):
    Wp (fun k=>dc_ k c e n o h h2 r2 hh r) (· =jz_ h n o r):=by
  refine Wp.step ?_
  simp only [dc_]
  refine Wp.bind (pe_ _ hl hs hn ho hr) (fun _ q=> ?_);subst q
  exact Wp.ret rfl
theorem Bx_ (q:Int) (p:aE_) (c n1:Int) (e o1:ByteArray) (r1:List ByteArray) (h2:List ai_) (r2:List ByteArray) (hh:List ai_) (n:Int) (o:ByteArray) (r:List ByteArray) (hn:0≤n) (ho:o.size≤200) (hr:r.length≤4):∀(t pre acc:List ai_),(pre++t).length≤100→acc.length+t.length≤100→(∀x∈t,q<x.Seq)→SmH acc→SmH t→
    Wp (fun k=>bi_ k q true (pre.length:Int) n1 (pre++t) o1 r1 p.Text p.Last c e n o acc h2 r2 hh r) (· =jz_ (acc++t) n o r)
  | [],pre,acc,hl,ha,hq,hs,hs'=>by
    refine Wp.step ?_
    simp only [bi_,List.append_nil]
    have hn':¬(pre.length:Int)<(pre.length:Int):=by omega
    simp only [af_,if_neg hn',Bool.not_true,cond_false]
    exact uY_ _ _ _ _ _ _ _ _ _ (by simpa using ha) hs hn ho hr
  | x::t,pre,acc,hl,ha,hq,hs,hs'=>by
    refine Wp.step ?_
    have hl':=hl
    simp only [List.length_append,List.length_cons] at hl ha
    have hx:=hq x (List.mem_cons_self ..)
    have hne:¬x.Seq=q:=by omega
    simp only [bi_]
    simp only [af_,a3_,if_true,aA_,Option.bind_some,ea_,if_neg hne,Bool.not_true,cond_false]
    refine Wp.step ?_
    simp only [bJ_,aA_,Option.bind_some]
    refine Wp.opt (ba_ (by simp;omega)) ?_
    simp (disch:=omega) only [aM_]
    have ih:=Bx_ q p c n1 e o1 r1 h2 r2 hh n o r hn ho hr t (pre++[x]) (acc++[x]) (by simpa using hl') (by simp;omega) (fun y hy=>hq y (List.mem_cons_of_mem _ hy)) (fun y hy=>by
      rcases List.mem_append.mp hy with hy | hy
      ·exact hs y hy
      ·simp only [List.mem_singleton] at hy;subst hy;exact hs' y (List.mem_cons_self ..)) (fun y hy=>hs' y (List.mem_cons_of_mem _ hy))
    rw [←aI_,←aW_] at ih
    simp only [List.append_assoc,List.cons_append,List.nil_append] at ih
    exact ih
theorem lr_ {a:List ai_} {x:ai_} (h:SmH a) (hx:x.Seq≤999999∧x.Part.Text.size≤1000):SmH (a++[x]):=fun y hy=>by
  rcases List.mem_append.mp hy with hy | hy
  ·exact h y hy
  ·simp only [List.mem_singleton] at hy;subst hy;exact hx
theorem Av_ (q:Int) (p:aE_) (hq:q≤999999) (hp:p.Text.size≤20) (c n1:Int) (e o1:ByteArray) (r1:List ByteArray) (h2:List ai_) (r2:List ByteArray) (hh:List ai_) (n:Int) (o:ByteArray) (r:List ByteArray) (hn:0≤n) (ho:o.size≤200) (hr:r.length≤4):∀(t pre:List ai_) (b:Int),(pre++t).length≤50→WHs n1 b t→SmH pre→SmH t→
    Wp (fun k=>bi_ k q false (pre.length:Int) n1 (pre++t) o1 r1 p.Text p.Last c e n o pre h2 r2 hh r) (· =match vJ_ q p t with | none=>⟨n,hh,o,r⟩ | some h=>jz_ (pre++h) n o r)
  | [],pre,b,hl,hw,hs,hs'=>by
    refine Wp.step ?_
    simp only [bi_,List.append_nil,vJ_]
    rw [List.append_nil] at hl
    have hn':¬(pre.length:Int)<(pre.length:Int):=by omega
    simp only [af_,if_neg hn',Bool.not_false,cond_true]
    refine Wp.opt (ba_ (by simp;omega)) ?_
    exact uY_ _ _ _ _ _ _ _ _ _ (by simp;omega) (lr_ hs ⟨hq,by simp only;omega⟩) hn ho hr
  | x::t,pre,b,hl,⟨hw1,hw2⟩,hs,hs'=>by
    refine Wp.step ?_
    have hl':=hl
    simp only [List.length_append,List.length_cons] at hl
    have hx:=hs' x (List.mem_cons_self ..)
    have hs2:SmH t:=fun y hy=>hs' y (List.mem_cons_of_mem _ hy)
    simp only [bi_,vJ_]
    simp only [af_,a3_,if_true,aA_,Option.bind_some,ea_,Bool.not_false,cond_true]
    refine Wp.ite (fun h1=>Wp.ret (by rw [if_pos h1])) (fun h1=> ?_)
    rw [if_neg h1]
    refine Wp.ite (fun h3=> ?_) (fun h3=> ?_)
    ·rw [if_pos (by omega)]
     refine Wp.opt (ba_ (by simp;omega)) ?_
     refine Wp.step ?_
     simp only [bJ_,aA_,Option.bind_some]
     refine Wp.opt (ba_ (by simp;omega)) ?_
     simp (disch:=omega) only [aM_]
     have:=Bx_ q p c n1 e o1 r1 h2 r2 hh n o r hn ho hr t (pre++[x]) (pre++[⟨q,p⟩]++[x]) (by simp;omega) (by simp;omega) (fun y hy=>by have:=yQ_ hw2 y hy;omega) (lr_ (lr_ hs ⟨hq,by simp only;omega⟩) hx) hs2
     rw [←aI_,←aW_] at this
     simp only [List.append_assoc,List.cons_append,List.nil_append] at this⊢
     exact this
    ·rw [if_neg (by omega)]
     refine Wp.step ?_
     simp only [bJ_,aA_,Option.bind_some]
     refine Wp.opt (ba_ (by simp;omega)) ?_
     simp (disch:=omega) only [aM_]
     have ih:=Av_ q p hq hp c n1 e o1 r1 h2 r2 hh n o r hn ho hr t (pre++[x]) x.Seq (by simpa using hl') hw2 (lr_ hs hx) hs2
     rw [←aI_,←aW_] at ih
     refine ih.mono fun v hv=> ?_
     rw [hv]
     cases vJ_ q p t<;>simp
theorem v4_ (t:ak_) (q:Int) (p:aE_):Wp (fun k=>fZ_ k t q p) (· =vt_ t q p):=by
  unfold fZ_ vt_
  refine Wp.bind (ew_ t) (fun _ e=> ?_);subst e
  simp only [aH_,af_]
  refine Wp.ite (fun h=> ?_) (fun h=>Wp.ret (by rw [if_neg h]))
  rw [if_pos h]
  have hsm:=h.small
  obtain ⟨h1,h2,h3,h4,h5,h6,h7⟩:=h
  refine Wp.bind (lI_ t (by omega) (by omega)) (fun r2 e=> ?_);rw [e]
  obtain ⟨n,hd,o,r⟩:=t
  refine Wp.bind (yO_ n q hd o r h1) (fun _ e=> ?_);subst e
  simp only [af_]
  refine Wp.ite (fun g=> ?_) (fun g=>Wp.ret (by rw [if_neg (fun w=>g w.1)]))
  refine Wp.ite (fun g2=>Wp.ret (by rw [if_neg (fun w=>by have:=w.2;omega)])) (fun g2=> ?_)
  rw [if_pos ⟨g,by omega⟩]
  exact Av_ q p g.2.2 (by omega) _ n _ o r _ _ hd n o r h1.1 h3 h4 hd [] (n-1) (by simp only at h2;simp;omega) h6 (fun y hy=>by simp at hy) hsm
theorem CZ_ (pre s:List ai_) (z:ai_):∃w,cpy (pre++s++[z]) (pre.length+1) (pre.length+s.length+1) (dO_ (pre++s++[z]) pre.length (pre.length+s.length+1))=pre++w::s:=by
  have e0:dO_ (pre++s++[z]) pre.length (pre.length+s.length+1)=s++[z]:=by
    simp only [dO_]
    rw [List.take_of_length_le (by simp;omega),List.append_assoc,List.drop_left']
    rfl
  rw [e0]
  unfold cpy
  rw [show pre.length+s.length+1-(pre.length+1)=s.length by omega]
  have e1:(s++[z]).take s.length=s:=by simp
  have e2:(pre++s++[z]).drop (pre.length+1+min s.length (s++[z]).length)=[]:=by
    apply List.drop_eq_nil_of_le;simp;omega
  rw [e1,e2,List.append_nil]
  cases s with
  | nil=>exact ⟨z,by rw [List.append_nil,List.take_of_length_le (by simp)];simp⟩
  | cons w s=>exact ⟨w,by simp [List.take_append,List.take_of_length_le]⟩
theorem BA_ (q:Int) (p:aE_) (n:Int) (o:ByteArray) (r:List ByteArray) (hn:0≤n) (ho:o.size≤200) (hr:r.length≤4) (pre s:List ai_) (hl:(pre++s).length≤50) (hs:SmH (pre++⟨q,p⟩::s)):
    Wp (fun k=>(app 32 (pre++s) ([(⟨0,(⟨(⟨#[]⟩:ByteArray),false⟩:aE_)⟩:ai_)]:List ai_)).bind fun l6=>
            (wnd l6.length (IntKind.wrap .i64 ((pre.length:Int)+1)) (l6.length:Int)).bind fun p7=>
            (wnd l6.length (pre.length:Int) (l6.length:Int)).bind fun p8=>
            (idx (cpy l6 p7.1 p7.2 (dO_ l6 p8.1 p8.2)) (pre.length:Int)).bind fun _=>
            ((cpy l6 p7.1 p7.2 (dO_ l6 p8.1 p8.2))[(Int.toNat (pre.length:Int))]?).bind fun y9=>
            (eS_ k (⟨n,((cpy l6 p7.1 p7.2 (dO_ l6 p8.1 p8.2)).set (Int.toNat (pre.length:Int)) (⟨q,p⟩:ai_)),o,r⟩:ak_)).bind fun r10=>
            some r10) (· =jz_ (pre++⟨q,p⟩::s) n o r):=by
  simp only [List.length_append] at hl
  refine Wp.opt (ba_ (by simp;omega)) ?_
  rw [aM_ (by omega) (by omega)]
  have hN:(pre++s++[(⟨0,(⟨(⟨#[]⟩:ByteArray),false⟩:aE_)⟩:ai_)]).length=pre.length+s.length+1:=by simp;omega
  rw [hN]
  refine Wp.opt (cY_ (by omega)) ?_
  refine Wp.opt (cY_ (by omega)) ?_
  dsimp only
  simp only [show ((pre.length:Int)+1).toNat=pre.length+1 by omega,Int.toNat_natCast]
  obtain ⟨w,e⟩:=CZ_ pre s (⟨0,(⟨(⟨#[]⟩:ByteArray),false⟩:aE_)⟩:ai_)
  rw [e]
  simp only [aA_,Option.bind_some]
  have e2:(pre++w::s)[pre.length]? =some w:=by simp
  have e3:(pre++w::s).set pre.length (⟨q,p⟩:ai_)=pre++⟨q,p⟩::s:=by simp
  simp only [e2,e3,Option.bind_some]
  refine Wp.bind (p7_ ⟨n,pre++⟨q,p⟩::s,o,r⟩ (by simp;omega) hs hn ho hr) (fun _ q=> ?_);subst q
  exact Wp.ret rfl
theorem zX_ (q:Int) (p:aE_) (hq:q≤999999) (hp:p.Text.size≤20) (c:Int) (e:ByteArray) (h2:List ai_) (r2:List ByteArray) (n:Int) (o:ByteArray) (r:List ByteArray) (n1:Int) (hn:0≤n) (ho:o.size≤200) (hr:r.length≤4):∀(t pre:List ai_) (b:Int),(pre++t).length≤50→WHs n1 b t→SmH pre→SmH t→
    Wp (fun k=>cQ_ k q (pre.length:Int) p.Text p.Last c e n o h2 r2 (pre++t) r) (· =match vJ_ q p t with | none=>⟨n,pre++t,o,r⟩ | some h=>jz_ (pre++h) n o r)
  | [],pre,b,hl,hw,hs,hs'=>by
    refine Wp.step ?_
    simp only [cQ_,vJ_]
    have hn':¬(pre.length:Int)<((pre++[]).length:Int):=by simp
    simp only [af_,if_neg hn']
    exact BA_ q p n o r hn ho hr pre [] hl (by
      intro y hy
      rcases List.mem_append.mp hy with hy | hy
      ·exact hs y hy
      ·simp only [List.mem_singleton] at hy;subst hy;exact ⟨hq,by simp only;omega⟩)
  | x::t,pre,b,hl,⟨hw1,hw2⟩,hs,hs'=>by
    refine Wp.step ?_
    have hl':=hl
    simp only [List.length_append,List.length_cons] at hl
    have hx:=hs' x (List.mem_cons_self ..)
    have hs2:SmH t:=fun y hy=>hs' y (List.mem_cons_of_mem _ hy)
    simp only [cQ_,vJ_]
    simp only [af_,a3_,if_true,aA_,by_,Option.bind_some,ea_]
    refine Wp.ite (fun h1=> ?_) (fun h1=> ?_)
    ·rw [if_neg (by omega),if_neg (by omega)]
     simp (disch:=omega) only [aM_]
     have ih:=zX_ q p hq hp c e h2 r2 n o r n1 hn ho hr t (pre++[x]) x.Seq (by simpa using hl') hw2 (lr_ hs hx) hs2
     rw [←aI_,←aW_] at ih
     refine ih.mono fun v hv=> ?_
     rw [hv]
     cases vJ_ q p t<;>simp
    ·refine Wp.ite (fun h2=>Wp.ret (by rw [if_pos h2])) (fun h2=> ?_)
     rw [if_neg h2,if_pos (by omega)]
     exact BA_ q p n o r hn ho hr pre (x::t) hl' (by
       intro y hy
       rcases List.mem_append.mp hy with hy | hy
       ·exact hs y hy
       ·rcases List.mem_cons.mp hy with rfl | hy
        ·exact ⟨hq,by simp only;omega⟩
        ·exact hs' y hy)
theorem v3_ (t:ak_) (q:Int) (p:aE_):Wp (fun k=>gi_ k t q p) (· =vt_ t q p):=by
  unfold gi_ vt_
  refine Wp.bind (en_ t) (fun _ e=> ?_);subst e
  simp only [aH_,af_]
  refine Wp.ite (fun h=> ?_) (fun h=>Wp.ret (by rw [if_neg h]))
  rw [if_pos h]
  have hsm:=h.small
  obtain ⟨h1,h2,h3,h4,h5,h6,h7⟩:=h
  refine Wp.bind (pd_ t (by omega) (by omega)) (fun r2 e=> ?_);rw [e]
  obtain ⟨n,hd,o,r⟩:=t
  simp only at h1 h2 h3 h4
  rw [aM_ (n:=n+8) (by omega) (by omega),aM_ (n:=n+8-1) (by omega) (by omega)]
  refine Wp.bind (mq_ _ _ _) (fun _ e=> ?_);subst e
  simp only [inB,af_]
  refine Wp.ite (fun g=> ?_) (fun g=>Wp.ret (by rw [if_neg (fun w=>by have:=w.1;omega)]))
  refine Wp.ite (fun g1=>Wp.ret (by rw [if_neg (fun w=>by have:=w.1;omega)])) (fun g1=> ?_)
  refine Wp.ite (fun g2=>Wp.ret (by rw [if_neg (fun w=>by have:=w.2;omega)])) (fun g2=> ?_)
  rw [if_pos ⟨by omega,by omega⟩]
  exact zX_ q p (by omega) (by omega) _ _ _ _ n o r n h1.1 h3 h4 hd [] (n-1) (by simp;omega) h6 (fun y hy=>by simp at hy) hsm
theorem Bv_ {n:Int} (q:Int) (p:aE_) (hq:q≤n+7) (hq':q≤999999) (hp:p.Text.size≤20):∀{t h:List ai_} {b:Int},b<q→WHs n b t→vJ_ q p t=some h→WHs n b h
  | [],h,b,hb,hw,e=>by
    simp only [vJ_,Option.some.injEq] at e;subst e
    exact ⟨⟨hb,hq,hq',hp⟩,trivial⟩
  | x::t,h,b,hb,⟨hw1,hw2⟩,e=>by
    simp only [vJ_] at e
    split at e
    ·cases e
    ·split at e
     ·simp only [Option.some.injEq] at e;subst e
      exact ⟨⟨hb,hq,hq',hp⟩,⟨by omega,hw1.2⟩,hw2⟩
     ·cases ht:vJ_ q p t with
      | none=>rw [ht] at e;cases e
      | some h'=>
        rw [ht] at e
        simp only [Option.map_some,Option.some.injEq] at e;subst e
        exact ⟨hw1,Bv_ q p hq hq' hp (by omega) hw2 ht⟩
theorem zi_ {n:Int}:∀{l:List ai_} {b:Int},WHs n b l→b≤n+7→(l.length:Int)≤n+7-b
  | [],b,_,h=>by simp only [List.length_nil];omega
  | x::t,b,⟨h1,h2⟩,h=>by
    have:=zi_ h2 h1.2.1
    simp only [List.length_cons];omega
theorem Cv_ (t:ak_) (q:Int) (p:aE_):VTake (vt_ t q p):=by
  unfold vt_
  split
  ·rename_i h
   split
   ·rename_i g
    cases ht:vJ_ q p t.Held with
    | none=>exact h
    | some hh=>
      obtain ⟨h1,h2,h3,h4,h5,h6,h7⟩:=h
      have hw:=Bv_ q p g.1.2.1 g.1.2.2 g.2 (by omega) h6 ht
      have hlen:=zi_ hw (by omega)
      exact sH_ t.Next hh t.Next t.Open t.Ready (Int.le_refl _) hw (by omega) h1.1 h1.2 h3 h4 h5
   ·exact h
  ·exact mh_
end Km.X
namespace Km.X
open Go Km
set_option linter.unusedVariables false
set_option linter.unusedSimpArgs false
def vc_ (p:ad_):Prop:=
  (1≤p.From∧p.From≤2)∧(1≤p.Mine∧p.Mine≤1000)∧(0≤p.Yours∧p.Yours≤1000)∧
  ((p.Kind=1∧(0≤p.Next∧p.Next≤1000000)∧(0≤p.Mask∧p.Mask≤255)∧p.Seq=0∧p.Last=false∧p.Part=noB)∨
   (p.Kind=2∧p.Next=0∧p.Mask=0∧(0≤p.Seq∧p.Seq≤999999)∧p.Part.size≤20))
instance (p:ad_):Decidable (vc_ p):=by unfold vc_;infer_instance
theorem ed_ (p:ad_):Wp (fun k=>a8_ k p) (· =decide (vc_ p)):=by
  unfold a8_
  have key:(p.From=1∨p.From=2)→Wp (fun k=>
    (aX_ k p.Mine 1 1000).bind fun r6=>
    bif (!r6) then
      some false
    else
      (aX_ k p.Yours 0 1000).bind fun r7=>
      bif (!r7) then
        some false
      else
        bif (p.Kind==1) then
          (aX_ k p.Next 0 1000000).bind fun r8=>
          bif r8 then
            (aX_ k p.Mask 0 255).bind fun r9=>
            bif r9 then
              bif (p.Seq==0) then
                bif (!p.Last) then
                  some (p.Part.toList==(⟨#[]⟩:ByteArray).toList)
                else
                  some false
              else
                some false
            else
              some false
          else
            some false
        else
          bif (p.Kind==2) then
            bif (p.Next==0) then
              bif (p.Mask==0) then
                (aX_ k p.Seq 0 999999).bind fun r10=>
                bif r10 then
                  some (decide ((p.Part.size:Int)≤20))
                else
                  some false
              else
                some false
            else
              some false
          else
            some false) (· =decide (vc_ p)):=by
    intro hf
    have F:∀{Q:Prop},(vc_ p→False)→false=decide (vc_ p):=fun h=>(decide_eq_false h).symm
    refine Wp.bind (mq_ _ _ _) (fun _ e=> ?_);subst e
    simp only [inB,aH_,af_,ea_,C8_]
    refine Wp.ite (fun h1=> ?_) (fun h1=>Wp.ret (F (Q:=True) fun h=>h1 h.2.1))
    refine Wp.bind (mq_ _ _ _) (fun _ e=> ?_);subst e
    simp only [inB,aH_,af_,ea_,C8_]
    refine Wp.ite (fun h2=> ?_) (fun h2=>Wp.ret (F (Q:=True) fun h=>h2 h.2.2.1))
    refine Wp.ite (fun h3=> ?_) (fun h3=> ?_)
    ·have W:vc_ p→(0≤p.Next∧p.Next≤1000000)∧(0≤p.Mask∧p.Mask≤255)∧p.Seq=0∧p.Last=false∧p.Part=noB:=fun h=>by
       rcases h.2.2.2 with h | h
       ·exact h.2
       ·omega
     refine Wp.bind (mq_ _ _ _) (fun _ e=> ?_);subst e
     simp only [inB,aH_,af_,ea_,C8_]
     refine Wp.ite (fun h4=> ?_) (fun h4=>Wp.ret (F (Q:=True) fun h=>h4 (W h).1))
     refine Wp.bind (mq_ _ _ _) (fun _ e=> ?_);subst e
     simp only [inB,aH_,af_,ea_,C8_]
     refine Wp.ite (fun h5=> ?_) (fun h5=>Wp.ret (F (Q:=True) fun h=>h5 (W h).2.1))
     refine Wp.ite (fun h6=> ?_) (fun h6=>Wp.ret (F (Q:=True) fun h=>h6 (W h).2.2.1))
     refine Wp.bif (fun h7=>Wp.ret (F (Q:=True) fun h=>by rw [(W h).2.2.2.1] at h7;cases h7)) (fun h7=> ?_)
     refine Wp.ret ?_
     rw [decide_eq_decide]
     exact ⟨fun h=>⟨by omega,h1,h2, .inl ⟨h3,h4,h5,h6,h7,h⟩⟩,fun h=>(W h).2.2.2.2⟩
    ·refine Wp.ite (fun h4=> ?_) (fun h4=>Wp.ret (F (Q:=True) fun h=>by rcases h.2.2.2 with h | h<;>omega))
     have W:vc_ p→p.Next=0∧p.Mask=0∧(0≤p.Seq∧p.Seq≤999999)∧p.Part.size≤20:=fun h=>by
       rcases h.2.2.2 with h | h
       ·omega
       ·exact h.2
     refine Wp.ite (fun h5=> ?_) (fun h5=>Wp.ret (F (Q:=True) fun h=>h5 (W h).1))
     refine Wp.ite (fun h6=> ?_) (fun h6=>Wp.ret (F (Q:=True) fun h=>h6 (W h).2.1))
     refine Wp.bind (mq_ _ _ _) (fun _ e=> ?_);subst e
     simp only [inB,aH_,af_,ea_,C8_]
     refine Wp.ite (fun h7=> ?_) (fun h7=>Wp.ret (F (Q:=True) fun h=>h7 (W h).2.2.1))
     refine Wp.ret ?_
     rw [decide_eq_decide]
     exact ⟨fun h=>⟨by omega,h1,h2, .inr ⟨h4,h5,h6,h7,by omega⟩⟩,fun h=>by have:=(W h).2.2.2;omega⟩
  simp only [d8_]
  refine Wp.ite (fun h=>key (.inl h)) (fun h=> ?_)
  refine Wp.ite (fun h=>key (.inr h)) (fun h2=>Wp.ret (decide_eq_false ?_).symm)
  intro h'
  have:=h'.1
  omega
theorem zD_ (p:ad_) (h:1≤p.From∧p.From≤2) (k:Nat):fA_ k p=a8_ k p:=by
  have e:aF_ k p.From 1 2=some true:=by
    unfold aF_
    simp only [af_]
    rw [if_pos (by omega)]
    congr 1
    exact decide_eq_true h.2
  unfold fA_ a8_
  rw [e]
  have hi:∀a b c,aF_ k a b c=aX_ k a b c:=fun _ _ _=>rfl
  simp only [hi,Option.bind_some,Bool.not_true,cond_false,d8_]
  by_cases h1:p.From=1
  ·rw [if_pos h1]
  ·rw [if_neg h1,if_pos (by omega)]
theorem Au_ (p:ad_):Wp (fun k=>fA_ k p) (· =decide (vc_ p)):=by
  by_cases h:1≤p.From∧p.From≤2
  ·have:(fun k=>fA_ k p)=fun k=>a8_ k p:=funext fun k=>zD_ p h k
   rw [this];exact ed_ p
  ·unfold fA_
   refine Wp.bind (ck_ _ _ _) (fun _ e=> ?_);subst e
   rw [inB,decide_eq_false h]
   exact Wp.ret (decide_eq_false fun h'=>h h'.1).symm
def N (w:Nat) (x:Int):ByteArray:=iJ_ (ef_ w x.toNat)
theorem e0_ (w:Nat) (x:Int):(N w x).size=w:=by simp [N,gs_,eZ_]
theorem p9_:∀(d w i n:Nat) (tail:List Int),i+d=w→w≤8→n<2^62→tail.length+d≤100→
    Wp (fun k=>cJ_ k (n:Int) (w:Int) (iJ_ tail) (i:Int)) (· =iJ_ (ef_ d n++tail))
  | 0,w,i,n,tail,h,hw,hn,ht=>by
    refine Wp.step ?_
    simp only [cJ_]
    simp (disch:=omega) only [af_,if_neg]
    exact Wp.ret rfl
  | d+1,w,i,n,tail,h,hw,hn,ht=>by
    refine Wp.step ?_
    simp only [cJ_]
    simp (disch:=omega) only [af_,if_pos,xo_,xs_,Option.bind_some,yY_,tM_,aM_,hn_]
    have ih:=p9_ d w (i+1) (n/256) (((n%256:Nat):Int)::tail) (by omega) hw (by omega) (by simp;omega)
    simpa [ef_] using ih
theorem fC_ {w:Nat} {x:Int} (hw:w≤8) (hx:0≤x∧x≤1000000):Wp (fun k=>bQ_ k x (w:Int)) (· =N w x):=by
  obtain ⟨n,rfl⟩:∃n:Nat,x=n:=⟨x.toNat,by omega⟩
  have:=p9_ w w 0 n [] (by omega) hw (by omega) (by simp;omega)
  rw [List.append_nil] at this
  exact this
theorem zF_:∀(d n:Nat) (b:List Int),d≤b.length→b.length≤8→n<2^62→Wp (fun k=>gj_ k (n:Int) ((d:Int)-1) b) (· =iJ_ (ef_ d n++b.drop d))
  | 0,n,b,hd,hb,hn=>by
    refine Wp.step ?_
    simp only [gj_]
    simp (disch:=omega) only [af_,if_neg]
    exact Wp.ret (by simp [ef_])
  | d+1,n,b,hd,hb,hn=>by
    refine Wp.step ?_
    simp only [gj_]
    rw [show ((d+1:Nat):Int)-1=(d:Int) by omega]
    have hlt:d<b.length:=by omega
    simp (disch:=first | omega | decide) only [af_,if_pos,rW_,BB_,Option.bind_some,F3_,aM_,wu8]
    have ih:=zF_ d (n/256) (b.set d ((n%256:Nat):Int)) (by simp;omega) (by simpa using hb) (by omega)
    rw [um_ hlt] at ih
    rw [Int.toNat_natCast]
    exact ih
theorem ub_ {w:Nat} {x:Int} (hw:w≤8) (hx:0≤x∧x≤1000000):Wp (fun k=>gu_ k x (w:Int)) (· =N w x):=by
  obtain ⟨n,rfl⟩:∃n:Nat,x=n:=⟨x.toNat,by omega⟩
  unfold gu_
  refine Wp.opt (x:=w) (by rw [if_pos rfl];exact k1_ (by omega)) ?_
  have:=zF_ w n (List.replicate w 0) (by simp) (by simpa using hw) (by omega)
  rw [List.drop_eq_nil_of_le (by simp),List.append_nil] at this
  rw [aM_ (by omega) (by omega)]
  exact this
theorem xj_ (x y z:ByteArray):x++y++z=x++(y++z):=by
  apply ByteArray.ext;simp
def ly_ (p:ad_):ByteArray:=N 1 p.Kind++N 1 p.From++N 2 p.Mine++N 2 p.Yours
def BL_ (b:Bool):Int:=bif b then 1 else 0
def gz_ (p:ad_):ByteArray:=
  if p.Kind=1 then ly_ p++N 4 p.Next++N 1 p.Mask else ly_ p++N 4 p.Seq++N 1 (BL_ p.Last)++p.Part
theorem mN_ (p:ad_):(ly_ p).size=6:=by simp [ly_,e0_]
theorem mT_ (p:ad_) (h:vc_ p):(gz_ p).size≤31:=by
  have hs:=mN_ p
  unfold gz_
  rcases h.2.2.2 with ⟨hk1,_⟩ | ⟨hk2,_,_,_,g4⟩
  ·rw [if_pos hk1];simp [e0_,hs]
  ·rw [if_neg (by omega)];simp [e0_,hs];omega
theorem zr_ (p:ad_) (h:vc_ p):Wp (fun k=>gn_ k p) (· =gz_ p):=by
  obtain ⟨h1,h2,h3,h4⟩:=h
  have hK:0≤p.Kind∧p.Kind≤1000000:=by rcases h4 with h | h<;>omega
  unfold gn_
  refine Wp.bind (fC_ (w:=1) (by omega) hK) (fun _ e=> ?_);subst e
  refine Wp.bind (fC_ (w:=1) (by omega) (by omega)) (fun _ e=> ?_);subst e
  refine Wp.opt (bF_ (by simp [e0_])) ?_
  refine Wp.bind (fC_ (w:=2) (by omega) (by omega)) (fun _ e=> ?_);subst e
  refine Wp.opt (bF_ (by simp [e0_])) ?_
  refine Wp.bind (fC_ (w:=2) (by omega) (by omega)) (fun _ e=> ?_);subst e
  refine Wp.opt (bF_ (by simp [e0_])) ?_
  have hd:N 1 p.Kind++N 1 p.From++N 2 p.Mine++N 2 p.Yours=ly_ p:=rfl
  rw [hd]
  have hs:=mN_ p
  simp only [ea_]
  refine Wp.ite (fun hk=> ?_) (fun hk=> ?_)
  ·rcases h4 with ⟨_,g1,g2,_⟩ | ⟨hk2,_⟩
   ·refine Wp.bind (fC_ (w:=4) (by omega) (by omega)) (fun _ e=> ?_);subst e
    refine Wp.opt (bF_ (by simp [e0_,hs])) ?_
    refine Wp.bind (fC_ (w:=1) (by omega) (by omega)) (fun _ e=> ?_);subst e
    refine Wp.opt (bF_ (by simp [e0_,hs])) ?_
    exact Wp.ret (by rw [gz_,if_pos hk])
   ·omega
  ·rcases h4 with ⟨hk1,_⟩ | ⟨hk2,g1,g2,g3,g4⟩
   ·exact absurd hk1 hk
   have key:∀l,0≤l∧l≤1000000→Wp (fun k=>ej_ k (ly_ p) l p.Kind p.From p.Mine p.Yours p.Next p.Mask p.Seq p.Last p.Part) (· =ly_ p++N 4 p.Seq++N 1 l++p.Part):=fun l hl=>by
     refine Wp.step ?_
     simp only [ej_]
     refine Wp.bind (fC_ (w:=4) (by omega) (by omega)) (fun _ e=> ?_);subst e
     refine Wp.opt (bF_ (by simp [e0_,hs])) ?_
     refine Wp.bind (fC_ (w:=1) (by omega) hl) (fun _ e=> ?_);subst e
     refine Wp.opt (bF_ (by simp [e0_,hs])) ?_
     refine Wp.opt (bF_ (by simp [e0_,hs];omega)) ?_
     exact Wp.ret rfl
   have hb:gz_ p=ly_ p++N 4 p.Seq++N 1 (BL_ p.Last)++p.Part:=by rw [gz_,if_neg hk]
   rw [hb]
   cases hl:p.Last
   ·have:=key 0 (by omega)
    rw [hl] at this;exact this
   ·have:=key 1 (by omega)
    rw [hl] at this;exact this
def ll_ (p:ad_) (b:ByteArray) (w:Int):ByteArray:=if vc_ p∧(1≤w∧w≤8)∧b.size≤30 then AC_ (gz_ p) b w++gz_ p else noB
theorem q2_ (p:ad_) (b:ByteArray) (w:Int):Wp (fun k=>c6_ k p b w) (· =ll_ p b w):=by
  unfold c6_ ll_
  refine Wp.bind (Au_ p) (fun _ e=> ?_);subst e
  simp only [aH_,af_]
  refine Wp.ite (fun h1=> ?_) (fun h1=>Wp.ret (by rw [if_neg (fun h=>h1 h.1)]))
  refine Wp.bind (ck_ _ _ _) (fun _ e=> ?_);subst e
  simp only [inB,aH_,af_]
  refine Wp.ite (fun h2=> ?_) (fun h2=>Wp.ret (by rw [if_neg (fun h=>h2 h.2.1)]))
  refine Wp.ite (fun h3=>Wp.ret (by rw [if_neg (fun h=>by omega)])) (fun h3=> ?_)
  rw [if_pos ⟨h1,h2,by omega⟩]
  have hs:=mT_ p h1
  refine Wp.bind (zr_ p h1) (fun _ e=> ?_);subst e
  refine Wp.bind (xY_ _ b w (by omega)) (fun _ e=> ?_);subst e
  refine Wp.bind (zr_ p h1) (fun _ e=> ?_);subst e
  have ht:=qf_ (gz_ p) b w
  refine Wp.opt (bF_ (by omega)) ?_
  exact Wp.ret rfl
theorem pA_ (p:ad_) (b:ByteArray) (w:Int):Wp (fun k=>c2_ k p b w) (· =ll_ p b w):=by
  unfold c2_ ll_
  refine Wp.bind (ed_ p) (fun _ e=> ?_);subst e
  simp only [aH_,af_]
  refine Wp.ite (fun h1=> ?_) (fun h1=>Wp.ret (by rw [if_neg (fun h=>h1 h.1)]))
  refine Wp.ite (fun h2=>Wp.ret (by rw [if_neg (fun h=>by omega)])) (fun h2=> ?_)
  refine Wp.ite (fun h3=>Wp.ret (by rw [if_neg (fun h=>by omega)])) (fun h3=> ?_)
  refine Wp.ite (fun h4=>Wp.ret (by rw [if_neg (fun h=>by omega)])) (fun h4=> ?_)
  rw [if_pos ⟨h1,by omega,by omega⟩]
  have hbs:=mT_ p h1
  have ht:=qf_ (gz_ p) b w
  obtain ⟨g1,g2,g3,g4⟩:=h1
  have hK:0≤p.Kind∧p.Kind≤1000000:=by rcases g4 with h | h<;>omega
  refine Wp.bind (ub_ (w:=1) (by omega) hK) (fun _ e=> ?_);subst e
  refine Wp.bind (ub_ (w:=1) (by omega) (by omega)) (fun _ e=> ?_);subst e
  refine Wp.opt (bF_ (by simp [e0_])) ?_
  refine Wp.bind (ub_ (w:=2) (by omega) (by omega)) (fun _ e=> ?_);subst e
  refine Wp.opt (bF_ (by simp [e0_])) ?_
  refine Wp.bind (ub_ (w:=2) (by omega) (by omega)) (fun _ e=> ?_);subst e
  refine Wp.opt (bF_ (by simp [e0_])) ?_
  have hd:N 1 p.Kind++N 1 p.From++N 2 p.Mine++N 2 p.Yours=ly_ p:=rfl
  rw [hd]
  have hs:=mN_ p
  have l10:Wp (fun k=>cC_ k b w (gz_ p)) (· =AC_ (gz_ p) b w++gz_ p):=by
    refine Wp.step ?_
    simp only [cC_]
    refine Wp.bind (xV_ _ b w (by omega)) (fun _ e=> ?_);subst e
    refine Wp.opt (bF_ (by omega)) ?_
    exact Wp.ret rfl
  simp only [ea_]
  refine Wp.ite (fun hk=> ?_) (fun hk=> ?_)
  ·rcases g4 with ⟨_,q1,q2,_⟩ | ⟨hk2,_⟩
   ·refine Wp.bind (ub_ (w:=4) (by omega) (by omega)) (fun _ e=> ?_);subst e
    refine Wp.bind (ub_ (w:=1) (by omega) (by omega)) (fun _ e=> ?_);subst e
    refine Wp.opt (bF_ (by simp [e0_])) ?_
    refine Wp.opt (bF_ (by simp [e0_,hs])) ?_
    have e:ly_ p++(N 4 p.Next++N 1 p.Mask)=gz_ p:=by rw [gz_,if_pos hk,xj_]
    rw [e];exact l10
   ·omega
  ·rcases g4 with ⟨hk1,_⟩ | ⟨hk2,q1,q2,q3,q4⟩
   ·exact absurd hk1 hk
   have key:∀l,0≤l∧l≤1000000→ly_ p++N 4 p.Seq++N 1 l++p.Part=gz_ p→Wp (fun k=>cT_ k b w (ly_ p) l p.Kind p.From p.Mine p.Yours p.Next p.Mask p.Seq p.Last p.Part) (· =AC_ (gz_ p) b w++gz_ p):=fun l hl e=>by
     refine Wp.step ?_
     simp only [cT_]
     refine Wp.bind (ub_ (w:=4) (by omega) (by omega)) (fun _ e=> ?_);subst e
     refine Wp.bind (ub_ (w:=1) (by omega) hl) (fun _ e=> ?_);subst e
     refine Wp.opt (bF_ (by simp [e0_])) ?_
     refine Wp.opt (bF_ (by simp [e0_];omega)) ?_
     refine Wp.opt (bF_ (by simp [e0_,hs];omega)) ?_
     rw [show ly_ p++(N 4 p.Seq++N 1 l++p.Part)=gz_ p by rw [←e];simp only [xj_]]
     exact l10
   have hb0:gz_ p=ly_ p++N 4 p.Seq++N 1 (BL_ p.Last)++p.Part:=by rw [gz_,if_neg hk]
   cases hl:p.Last
   ·rw [hl] at hb0
    have:=key 0 (by omega) hb0.symm
    rw [hl] at this
    exact this
   ·rw [hl] at hb0
    have:=key 1 (by omega) hb0.symm
    rw [hl] at this
    exact this
theorem yt_ (p:ad_) (b:ByteArray) (w:Int):(ll_ p b w).size≤39:=by
  unfold ll_
  split
  ·rename_i h
   rw [bg_]
   have:=mT_ p h.1
   have:=qf_ (gz_ p) b w
   omega
  ·simp [fm_]
end Km.X
namespace Km.X
open Go Km
set_option linter.unusedVariables false
set_option linter.unusedSimpArgs false
def vg_ (e:an_) (p:ad_):aC_:=
  if p.Yours=e.Life then
   if p.Kind=1 then ⟨0,⟨e.Number,e.Up,e.Life,e.Peer,e.Since,e.Owes,wG_ e.Send p.Next p.Mask,e.Take⟩,[],noB⟩
   else ⟨0,⟨e.Number,e.Up,e.Life,e.Peer,e.Since,true,e.Send,vt_ e.Take p.Seq ⟨p.Part,p.Last⟩⟩,[],noB⟩
  else ⟨0,⟨e.Number,e.Up,e.Life,e.Peer,e.Since,true,e.Send,e.Take⟩,[],noB⟩
def AG_ (e:an_) (p:ad_):an_:=if p.Mine>e.Peer then ⟨e.Number,e.Up,e.Life,p.Mine,e.Since,true,j6_,nC_⟩ else e
def qT_ (e:an_) (p:ad_):aC_:=
  if VEnd e then
   if e.Up=true∧vc_ p∧¬p.From=e.Number∧¬p.Mine<e.Peer then vg_ (AG_ e p) p else ⟨0,e,[],noB⟩
  else ⟨1,oL_,[],noB⟩
theorem tP_ (e:an_) (p:ad_):Wp (fun k=>g0_ k e p) (· =qT_ e p):=by
  unfold g0_ qT_
  refine Wp.bind (bW_ _) (fun _ q=> ?_);subst q
  simp only [af_,aH_,ea_]
  refine Wp.ite (fun h1=> ?_) (fun h1=>Wp.ret (by rw [if_neg h1]))
  rw [if_pos h1]
  refine Wp.bind (fD_ e h1) (fun r q=> ?_);rw [q]
  refine Wp.bif (fun u=> ?_) (fun u=>Wp.ret (by rw [if_neg (fun g=>by have:=g.1;rw [u] at this;cases this)]))
  refine Wp.bind (Au_ p) (fun _ q=> ?_);subst q
  simp only [af_]
  refine Wp.ite (fun h2=> ?_) (fun h2=>Wp.ret (by rw [if_neg (fun g=>h2 g.2.1)]))
  refine Wp.ite (fun h3=>Wp.ret (by rw [if_neg (fun g=>g.2.2.1 h3)])) (fun h3=> ?_)
  refine Wp.ite (fun h4=>Wp.ret (by rw [if_neg (fun g=>g.2.2.2 h4)])) (fun h4=> ?_)
  rw [if_pos ⟨u,h2,h3,h4⟩]
  have M:∀(n:Int) (uu:Bool) (li pe si:Int) (ow:Bool) (b:Int) (it:List ag_) (nn:Int) (hd:List ai_) (o:ByteArray) (rr:List ByteArray),
   Wp (fun k=>dp_ k p.Kind p.From p.Mine p.Yours p.Next p.Mask p.Seq p.Last p.Part 0 0 false 0 0 0 false 0 0 (⟨#[]⟩:ByteArray) (⟨#[]⟩:ByteArray) n uu li pe si ow b nn o ([]:List ag_) ([]:List ai_) ([]:List ByteArray) ([]:List ad_) it hd rr) (· =vg_ ⟨n,uu,li,pe,si,ow,⟨b,it⟩,⟨nn,hd,o,rr⟩⟩ p):=by
    intro n uu li pe si ow b it nn hd o rr
    refine Wp.step ?_
    simp only [dp_,d8_,ea_,vg_]
    refine Wp.ite (fun h5=> ?_) (fun h5=>Wp.ret (by rw [if_neg h5]))
    rw [if_pos h5]
    refine Wp.ite (fun h6=> ?_) (fun h6=> ?_)
    ·rw [if_pos h6]
     refine Wp.bind (wc_ _ _ _) (fun _ q=> ?_);subst q
     exact Wp.ret rfl
    ·rw [if_neg h6]
     refine Wp.bind (v4_ _ _ _) (fun _ q=> ?_);subst q
     exact Wp.ret rfl
  unfold AG_
  refine Wp.ite (fun h5=> ?_) (fun h5=> ?_)
  ·rw [if_pos h5];exact M _ _ _ _ _ _ _ _ _ _ _ _
  ·rw [if_neg h5];exact M _ _ _ _ _ _ _ _ _ _ _ _
theorem t2_ (e:an_) (p:ad_):Wp (fun k=>gN_ k e p) (· =qT_ e p):=by
  unfold gN_ qT_
  refine Wp.bind (bZ_ _) (fun _ q=> ?_);subst q
  simp only [af_,aH_,ea_]
  refine Wp.ite (fun h1=> ?_) (fun h1=>Wp.ret (by rw [if_neg h1]))
  rw [if_pos h1]
  refine Wp.bind (eH_ e h1) (fun r q=> ?_);rw [q]
  refine Wp.bif (fun u=> ?_) (fun u=>Wp.ret (by rw [if_neg (fun g=>by have:=g.1;rw [u] at this;cases this)]))
  refine Wp.bind (ed_ p) (fun _ q=> ?_);subst q
  simp only [af_]
  refine Wp.ite (fun h2=> ?_) (fun h2=>Wp.ret (by rw [if_neg (fun g=>h2 g.2.1)]))
  refine Wp.ite (fun h3=>Wp.ret (by rw [if_neg (fun g=>g.2.2.1 h3)])) (fun h3=> ?_)
  refine Wp.ite (fun h4=>Wp.ret (by rw [if_neg (fun g=>g.2.2.2 h4)])) (fun h4=> ?_)
  rw [if_pos ⟨u,h2,h3,h4⟩]
  have M:∀(n:Int) (uu:Bool) (li pe si:Int) (ow:Bool) (b:Int) (it:List ag_) (nn:Int) (hd:List ai_) (o:ByteArray) (rr:List ByteArray),
   Wp (fun k=>dP_ k p.Kind p.From p.Mine p.Yours p.Next p.Mask p.Seq p.Last p.Part 0 0 false 0 0 0 false 0 0 (⟨#[]⟩:ByteArray) (⟨#[]⟩:ByteArray) 0 n uu li pe si ow b nn o (⟨#[]⟩:ByteArray) ([]:List ag_) ([]:List ai_) ([]:List ByteArray) ([]:List ad_) it hd rr ([]:List ad_)) (· =vg_ ⟨n,uu,li,pe,si,ow,⟨b,it⟩,⟨nn,hd,o,rr⟩⟩ p):=by
    intro n uu li pe si ow b it nn hd o rr
    refine Wp.step ?_
    simp only [dP_,d8_,ea_,vg_]
    refine Wp.ite (fun h5=> ?_) (fun h5=>Wp.ret (by rw [if_neg h5]))
    rw [if_pos h5]
    refine Wp.ite (fun h6=> ?_) (fun h6=> ?_)
    ·rw [if_pos h6]
     refine Wp.bind (vP_ _ _ _) (fun _ q=> ?_);subst q
     refine Wp.step ?_
     simp only [do_]
     exact Wp.ret rfl
    ·rw [if_neg h6]
     refine Wp.bind (v3_ _ _ _) (fun _ q=> ?_);subst q
     refine Wp.step ?_
     simp only [do_]
     exact Wp.ret rfl
  unfold AG_
  refine Wp.ite (fun h5=> ?_) (fun h5=> ?_)
  ·rw [if_pos h5];exact M _ _ _ _ _ _ _ _ _ _ _ _
  ·rw [if_neg h5];exact M _ _ _ _ _ _ _ _ _ _ _ _
end Km.X
namespace Km.X
open Go Km
set_option linter.unusedVariables false
set_option linter.unusedSimpArgs false
def FH_ (l:List UInt8):Int:=l.foldl (fun v c=>v*256+(c.toNat:Int)) 0
theorem wC_ {n:Nat} (h:n≤6):(256:Int)^n≤281474976710656:=by
  have:n=0∨n=1∨n=2∨n=3∨n=4∨n=5∨n=6:=by omega
  rcases this with rfl | rfl | rfl | rfl | rfl | rfl | rfl<;>decide
theorem uk_ (s:ByteArray):∀(t pre:List UInt8) (v:Int),s.data.toList=pre++t→s.size≤6→0≤v∧v<256^pre.length→
    Wp (fun k=>dx_ k s v (pre.length:Int)) (· =t.foldl (fun v c=>v*256+(c.toNat:Int)) v)
  | [],pre,v,h,hs,hv=>by
    refine Wp.step ?_
    have:=gD_ h
    simp only [List.length_nil] at this
    simp only [dx_]
    simp (disch:=omega) only [af_,if_neg]
    exact Wp.ret rfl
  | c::t,pre,v,h,hs,hv=>by
    refine Wp.step ?_
    have hl:=gD_ h
    simp only [List.length_cons] at hl
    have hp:=wC_ (n:=pre.length) (by omega)
    have hc:=c.toNat_lt
    simp only [dx_]
    simp (disch:=omega) only [af_,if_pos,oT_ h,Option.bind_some,aM_]
    have ih:=uk_ s t (pre++[c]) (v*256+(c.toNat:Int)) (by simpa using h) hs (by
      rw [List.length_append,List.length_singleton,Int.pow_succ];omega)
    rwa [←aW_] at ih
theorem tt_ (s:ByteArray) (h:s.size≤6):Wp (fun k=>fg_ k s) (· =FH_ s.data.toList):=uk_ s s.data.toList [] 0 rfl h (by decide)
theorem D0_ (n c:Nat) (h:c<256):(n*256) ||| c=n*256+c:=by
  have:=Nat.shiftLeft_add_eq_or_of_lt (a:=n) (i:=8) (b:=c) (by simpa using h)
  rw [Nat.shiftLeft_eq] at this
  simpa using this.symm
theorem xS_ (n c:Nat) (hn:n<281474976710656) (hc:c<256):wW_ .i64 ((n*256:Nat):Int) (c:Int)=((n*256+c:Nat):Int):=by
  have e:∀m:Nat,BitVec.ofInt 64 (m:Int)=BitVec.ofNat 64 m:=fun m=>by
    apply BitVec.eq_of_toNat_eq
    simp [BitVec.toNat_ofInt]
  show IntKind.wrap .i64 ((BitVec.ofInt 64 ((n*256:Nat):Int) ||| BitVec.ofInt 64 (c:Int)).toNat:Int)=_
  rw [e,e,BitVec.toNat_or,BitVec.toNat_ofNat,BitVec.toNat_ofNat,Nat.mod_eq_of_lt (by omega),Nat.mod_eq_of_lt (by omega),D0_ n c hc]
  exact aM_ (by omega) (by omega)
theorem Gh_ (n:Nat) (h:n<36028797018963968):shift .shl .i64 (n:Int) 8=some ((n*256:Nat):Int):=by
  simp only [shift]
  rw [if_neg (by omega)]
  congr 1
  rw [show (Int.toNat 8)=8 from rfl,show min 8 IntKind.i64.bits=8 from rfl]
  rw [aM_ (by omega) (by omega)]
  simp
theorem xd_ (s:ByteArray):∀(t pre:List UInt8) (v:Nat),s.data.toList=pre++t→s.size≤6→(v:Int)<256^pre.length→
    Wp (fun k=>fc_ k s (v:Int) (pre.length:Int)) (· =t.foldl (fun v c=>v*256+(c.toNat:Int)) (v:Int))
  | [],pre,v,h,hs,hv=>by
    refine Wp.step ?_
    have:=gD_ h
    simp only [List.length_nil] at this
    simp only [fc_]
    simp (disch:=omega) only [af_,if_neg]
    exact Wp.ret rfl
  | c::t,pre,v,h,hs,hv=>by
    refine Wp.step ?_
    have hl:=gD_ h
    simp only [List.length_cons] at hl
    have hp:=wC_ (n:=pre.length) (by omega)
    have hp':=wC_ (n:=pre.length+1) (by omega)
    rw [Int.pow_succ] at hp'
    have hc:=c.toNat_lt
    simp only [fc_]
    simp (disch:=omega) only [af_,if_pos,oT_ h,Option.bind_some,aM_,Gh_,xS_]
    have ih:=xd_ s t (pre++[c]) (v*256+c.toNat) (by simpa using h) hs (by
      rw [List.length_append,List.length_singleton,Int.pow_succ];omega)
    rw [←aW_] at ih
    rw [List.foldl_cons]
    have e:((v*256+c.toNat:Nat):Int)=(v:Int)*256+(c.toNat:Int):=by omega
    rw [e] at ih⊢
    exact ih
theorem xu_ (s:ByteArray) (h:s.size≤6):Wp (fun k=>jN_ k s) (· =FH_ s.data.toList):=xd_ s s.data.toList [] 0 rfl h (by decide)
def at' (b:ByteArray) (i:Nat):UInt8:=b.data.toList.getD i 0
theorem jd_ {b:ByteArray} {i:Nat} (h:i<b.size):tG_ b (i:Int)=some (at' b i):=by
  unfold tG_ at'
  rw [if_neg (by omega),Int.toNat_natCast]
  have e:b[i]? =some (b[i]'h):=by simp [h]
  rw [e]
  have:b.data.toList[i]? =some (b[i]'h):=by
    rw [Array.getElem?_toList,Array.getElem?_eq_getElem (show i<b.data.size from h)];rfl
  rw [List.getD_eq_getElem?_getD,this];rfl
def wf_:ad_:=⟨0,0,0,0,0,0,0,false,noB⟩
def De_ (b:ByteArray) (i j:Nat):Int:=FH_ (b.extract i j).data.toList
def mz_ (b:ByteArray):ad_:=
  if ((at' b 0).toNat:Int)=1 then ⟨(at' b 0).toNat,(at' b 1).toNat,De_ b 2 4,De_ b 4 6,De_ b 6 10,(at' b 10).toNat,0,false,noB⟩
  else ⟨(at' b 0).toNat,(at' b 1).toNat,De_ b 2 4,De_ b 4 6,0,0,De_ b 6 10,(((at' b 10).toNat:Int)==1),b.extract 11 b.size⟩
def xA_ (s b:ByteArray) (w:Int):ad_×Bool:=
  if (1≤w∧w≤8)∧w+11≤s.size then (if ll_ (mz_ (s.extract w.toNat s.size)) b w=s then (mz_ (s.extract w.toNat s.size),true) else (wf_,false)) else (wf_,false)
theorem eU_ (s:ByteArray) (i j:Nat):(s.extract i j).size=min j s.size-i:=by simp
theorem wu (c:UInt8):IntKind.wrap .i64 (c.toNat:Int)=(c.toNat:Int):=by have:=c.toNat_lt;exact aM_ (by omega) (by omega)
theorem v9_ (s b:ByteArray) (w:Int) (hs:s.size≤1048576):Wp (fun k=>eY_ k s b w) (· =xA_ s b w):=by
  unfold eY_ xA_
  refine Wp.bind (ck_ _ _ _) (fun _ e=> ?_);subst e
  simp only [inB,aH_,af_]
  refine Wp.ite (fun h1=> ?_) (fun h1=>Wp.ret (by rw [if_neg (fun h=>h1 h.1)];rfl))
  rw [aM_ (by omega) (by omega)]
  refine Wp.ite (fun h2=>Wp.ret (by rw [if_neg (fun h=>by omega)];rfl)) (fun h2=> ?_)
  rw [if_pos ⟨h1,by omega⟩]
  refine Wp.opt (cY_ (by omega)) ?_
  dsimp only
  rw [Int.toNat_natCast]
  have hsz:(s.extract w.toNat s.size).size=s.size-w.toNat:=by rw [eU_];omega
  have hge:11≤(s.extract w.toNat s.size).size:=by omega
  generalize hb:s.extract w.toNat s.size=B at hsz hge⊢
  have key:∀p:ad_,Wp (fun k=>(c6_ k p b w).bind fun r16=>
   bif (!(r16.toList==s.toList)) then some (wf_,false) else some (p,true)) (· =if ll_ p b w=s then (p,true) else (wf_,false)):=fun p=>by
    refine Wp.bind (q2_ p b w) (fun _ e=> ?_);subst e
    simp only [aH_,cB_]
    exact Wp.ite (fun h=>Wp.ret (by rw [if_pos h])) (fun h=>Wp.ret (by rw [if_neg h]))
  have hBs:B.size≤1048576:=by omega
  refine Wp.opt (jd_ (i:=0) (by omega)) ?_
  refine Wp.opt (jd_ (i:=1) (by omega)) ?_
  refine Wp.opt (cY_ (by omega)) ?_
  refine Wp.bind (tt_ _ (by rw [eU_];simp;omega)) (fun _ e=> ?_);subst e
  refine Wp.opt (cY_ (by omega)) ?_
  refine Wp.bind (tt_ _ (by rw [eU_];simp;omega)) (fun _ e=> ?_);subst e
  simp only [wu,ea_]
  refine Wp.ite (fun hk=> ?_) (fun hk=> ?_)
  ·refine Wp.opt (cY_ (by omega)) ?_
   refine Wp.bind (tt_ _ (by rw [eU_];simp;omega)) (fun _ e=> ?_);subst e
   refine Wp.opt (jd_ (i:=10) (by omega)) ?_
   refine Wp.step ?_
   simp only [cD_,wu]
   have:=key (mz_ B)
   unfold mz_ at this⊢
   rw [if_pos hk] at this⊢
   exact this
  ·refine Wp.opt (cY_ (by omega)) ?_
   refine Wp.bind (tt_ _ (by rw [eU_];simp;omega)) (fun _ e=> ?_);subst e
   refine Wp.opt (jd_ (i:=10) (by omega)) ?_
   refine Wp.opt (cY_ (by omega)) ?_
   refine Wp.step ?_
   simp only [cD_,wu]
   have:=key (mz_ B)
   unfold mz_ at this⊢
   rw [if_neg hk] at this⊢
   exact this
theorem vy_ {p:ad_} {b s:ByteArray} {w:Int} (h:¬(vc_ p∧b.size≤30)) (hs:11≤s.size):ll_ p b w≠s:=by
  unfold ll_
  rw [if_neg (fun h'=>h ⟨h'.1,h'.2.2⟩)]
  intro e
  rw [←e] at hs
  simp [fm_] at hs
theorem wM_ (s b:ByteArray) (w:Int) (hs:s.size≤1048576):Wp (fun k=>eP_ k s b w) (· =xA_ s b w):=by
  unfold eP_ xA_
  simp only [af_]
  refine Wp.ite (fun h1=>Wp.ret (by rw [if_neg (fun h=>by omega)];rfl)) (fun h1=> ?_)
  refine Wp.ite (fun h2=>Wp.ret (by rw [if_neg (fun h=>by omega)];rfl)) (fun h2=> ?_)
  refine Wp.ite (fun h3=>Wp.ret ?_) (fun h3=> ?_)
  ·split
   ·rename_i h
    rw [if_neg (vy_ (fun h'=>by omega) (by omega))];rfl
   ·rfl
  rw [aM_ (by omega) (by omega)]
  refine Wp.ite (fun h4=>Wp.ret (by rw [if_neg (fun h=>by omega)];rfl)) (fun h4=> ?_)
  rw [if_pos ⟨by omega,by omega⟩]
  refine Wp.opt (cY_ (by omega)) ?_
  dsimp only
  rw [Int.toNat_natCast]
  have hsz:(s.extract w.toNat s.size).size=s.size-w.toNat:=by rw [eU_];omega
  have hge:11≤(s.extract w.toNat s.size).size:=by omega
  generalize hb:s.extract w.toNat s.size=B at hsz hge⊢
  have key:∀p:ad_,Wp (fun k=>(a8_ k p).bind fun r15=>bif (!r15) then some (wf_,false) else (c2_ k p b w).bind fun r16=>
   bif (!(r16.toList==s.toList)) then some (wf_,false) else some (p,true)) (· =if ll_ p b w=s then (p,true) else (wf_,false)):=fun p=>by
    refine Wp.bind (ed_ p) (fun _ e=> ?_);subst e
    simp only [aH_,af_]
    refine Wp.ite (fun hf=> ?_) (fun hf=>Wp.ret (by rw [if_neg (vy_ (fun h'=>hf h'.1) (by omega))]))
    refine Wp.bind (pA_ p b w) (fun _ e=> ?_);subst e
    simp only [aH_,cB_]
    exact Wp.ite (fun h=>Wp.ret (by rw [if_pos h])) (fun h=>Wp.ret (by rw [if_neg h]))
  have hBs:B.size≤1048576:=by omega
  refine Wp.opt (jd_ (i:=0) (by omega)) ?_
  refine Wp.opt (jd_ (i:=1) (by omega)) ?_
  refine Wp.opt (cY_ (by omega)) ?_
  refine Wp.bind (xu_ _ (by rw [eU_];simp;omega)) (fun _ e=> ?_);subst e
  refine Wp.opt (cY_ (by omega)) ?_
  refine Wp.bind (xu_ _ (by rw [eU_];simp;omega)) (fun _ e=> ?_);subst e
  simp only [wu,ea_]
  refine Wp.ite (fun hk=> ?_) (fun hk=> ?_)
  ·refine Wp.opt (cY_ (by omega)) ?_
   refine Wp.bind (xu_ _ (by rw [eU_];simp;omega)) (fun _ e=> ?_);subst e
   refine Wp.opt (jd_ (i:=10) (by omega)) ?_
   refine Wp.step ?_
   simp only [bn_,wu]
   have:=key (mz_ B)
   unfold mz_ at this⊢
   rw [if_pos hk] at this⊢
   exact this
  ·refine Wp.ite (fun hk2=> ?_) (fun hk2=> ?_)
   ·refine Wp.opt (cY_ (by omega)) ?_
    refine Wp.bind (xu_ _ (by rw [eU_];simp;omega)) (fun _ e=> ?_);subst e
    refine Wp.opt (jd_ (i:=10) (by omega)) ?_
    refine Wp.opt (cY_ (by omega)) ?_
    refine Wp.step ?_
    simp only [bn_,wu]
    have:=key (mz_ B)
    unfold mz_ at this⊢
    rw [if_neg hk] at this⊢
    exact this
   ·refine Wp.step ?_
    simp only [bn_,wu]
    have hno:¬vc_ (mz_ B):=fun hf=>by
      have hK:(mz_ B).Kind=1∨(mz_ B).Kind=2:=by rcases hf.2.2.2 with h | h<;>omega
      unfold mz_ at hK
      rw [if_neg hk] at hK
      exact hK.elim hk hk2
    rw [if_neg (vy_ (fun h=>hno h.1) (by omega))]
    refine Wp.bind (ed_ _) (fun _ e=> ?_);subst e
    rw [decide_eq_false]
    ·exact Wp.ret rfl
    ·intro hf
     have hK:(((at' B 0).toNat:Int))=1∨(((at' B 0).toNat:Int))=2:=hf.2.2.2.elim (fun h=> .inl h.1) (fun h=> .inr h.1)
     exact hK.elim hk hk2
end Km.X
namespace Km.X
open Go Km
set_option linter.unusedVariables false
set_option linter.unusedSimpArgs false
theorem zp_ {e:an_} (h:VEnd e):VEnd (gA_ e).End:=by
  obtain ⟨h1,h2,h3,h4,h5,h6,h7,h8⟩:=h
  have h:VEnd e:=⟨h1,h2,h3,h4,h5,h6,h7,h8⟩
  have hs:=(Aq_ e h).1
  have hz:e.Peer=0→Bn_ (eB_ e).1∧Aw_ e.Take:=fun hp=>by unfold eB_;rw [if_pos hp];exact h7 hp
  unfold gA_
  rw [if_pos h]
  split
  ·rename_i hu
   have nu:∀q:Prop,(e.Up=false→q):=fun q g=>by rw [hu] at g;cases g
   split
   ·exact ⟨h1,h2,h3,⟨by simp,by simp⟩,hs,h6,hz,nu _⟩
   ·refine ⟨h1,h2,h3, ?_,hs,h6,hz,nu _⟩
    show 0≤upS e∧upS e≤1000000
    unfold upS;split<;>omega
  ·exact h
theorem DM_ {e:an_} {p:ad_} (h:VEnd e) (hu:e.Up=true) (hf:vc_ p):VEnd (AG_ e p)∧(AG_ e p).Up=true:=by
  unfold AG_
  split
  ·refine ⟨⟨h.1,h.2.1, ?_,h.2.2.2.1,h5_,mh_,fun _=>⟨E4_,Fb_⟩,fun g=> ?_⟩,hu⟩
   ·have:=hf.2.1;have:=h.2.2.1
    show 0≤p.Mine∧p.Mine≤1000;omega
   ·change e.Up=false at g;rw [hu] at g;cases g
  ·exact ⟨h,hu⟩
theorem zq_ {e:an_} {p:ad_} (h:VEnd e) (hf:vc_ p) (hm:¬p.Mine<e.Peer):(AG_ e p).Peer=p.Mine:=by
  unfold AG_;split
  ·rfl
  ·omega
theorem Ce_ {e:an_} {p:ad_} (h:VEnd e) (hu:e.Up=true) (hp:e.Peer≠0):VEnd (vg_ e p).End:=by
  obtain ⟨h1,h2,h3,h4,h5,h6,h7,h8⟩:=h
  have nu:∀q:Prop,(e.Up=false→q):=fun q g=>by rw [hu] at g;cases g
  unfold vg_
  split
  ·split
   ·exact ⟨h1,h2,h3,h4,Bh_ _ _ _,h6,fun g=>absurd g hp,nu _⟩
   ·exact ⟨h1,h2,h3,h4,h5,Cv_ _ _ _,fun g=>absurd g hp,nu _⟩
  ·exact ⟨h1,h2,h3,h4,h5,h6,fun g=>absurd g hp,nu _⟩
theorem BT_ {e:an_} (p:ad_) (h:VEnd e):VEnd (qT_ e p).End:=by
  unfold qT_
  rw [if_pos h]
  split
  ·rename_i hc
   obtain ⟨g1,g2⟩:=DM_ h hc.1 hc.2.1
   refine Ce_ g1 g2 ?_
   rw [zq_ h hc.2.1 hc.2.2.2]
   have:=hc.2.1.2.1;omega
  ·exact h
theorem B8_ {e:an_} {t:ByteArray} (h:VEnd e) (hc:(iX_ e t).Code=0):VEnd (iX_ e t).End∧e.Up=true∧e.Peer≠0∧t.size≤200:=by
  unfold iX_ at hc⊢
  rw [if_pos h] at hc⊢
  split at hc
  ·rename_i hu
   rw [if_pos hu]
   split at hc
   ·cases hc
   ·rename_i hp
    rw [if_neg hp]
    split at hc
    ·rename_i h0
     rw [if_pos h0]
     obtain ⟨h1,h2,h3,h4,h5,h6,h7,h8⟩:=h
     refine ⟨⟨h1,h2,h3,h4,AS_ _ _,h6,fun g=>absurd g hp,fun g=> ?_⟩,hu,hp, ?_⟩
     ·change e.Up=false at g;rw [hu] at g;cases g
     ·unfold rq_ at h0
      split at h0
      ·rename_i hh;exact hh.2
      ·cases h0
    ·rename_i h0;exact absurd hc h0
  ·cases hc
theorem CW_ {e:an_} (h:VEnd e) (hc:(lx_ e).Code=0):VEnd (lx_ e).End∧e.Up=true∧e.Peer≠0∧(lx_ e).Text.size≤200:=by
  unfold lx_ at hc⊢
  rw [if_pos h] at hc⊢
  split at hc
  ·rename_i hu
   rw [if_pos hu]
   split at hc
   ·rename_i hr
    rw [if_pos hr]
    obtain ⟨h1,h2,h3,h4,h5,h6,h7,h8⟩:=h
    have hp:e.Peer≠0:=fun e0=>by
      have hz:=(h7 e0).2.2.2.2
      unfold o9_ at hr
      rw [if_pos h6] at hr
      split at hr
      ·cases hr
      ·rename_i s rs hrr;rw [hrr] at hz;cases hz
    refine ⟨⟨h1,h2,h3,h4,h5,(w5_ _).1,fun g=>absurd g hp,fun g=> ?_⟩,hu,hp,(w5_ _).2⟩
    change e.Up=false at g;rw [hu] at g;cases g
   ·cases hc
  ·cases hc
theorem uI_ {e:an_} (h:VEnd e):(gA_ e).End.Number=e.Number:=by
  unfold gA_;rw [if_pos h];split
  ·split<;>rfl
  ·rfl
theorem zC_ {e:an_} (p:ad_) (h:VEnd e):(qT_ e p).End.Number=e.Number:=by
  unfold qT_;rw [if_pos h];split
  ·unfold vg_ AG_;repeat' split
   all_goals rfl
  ·rfl
theorem yS_ {e:an_} {t:ByteArray} (h:VEnd e) (hc:(iX_ e t).Code=0):(iX_ e t).End.Number=e.Number:=by
  unfold iX_ at hc⊢
  rw [if_pos h] at hc⊢
  split at hc
  ·rename_i hu;rw [if_pos hu]
   split at hc
   ·cases hc
   ·rename_i hp;rw [if_neg hp]
    split at hc
    ·rename_i h0;rw [if_pos h0]
    ·rename_i h0;exact absurd hc h0
  ·cases hc
theorem z2_ {e:an_} (h:VEnd e) (hc:(lx_ e).Code=0):(lx_ e).End.Number=e.Number:=by
  unfold lx_ at hc⊢
  rw [if_pos h] at hc⊢
  split at hc
  ·rename_i hu;rw [if_pos hu]
   split at hc
   ·rename_i hr;rw [if_pos hr]
   ·cases hc
  ·cases hc
theorem Ae_ {e:an_} (h:VEnd e):(s9_ e).Number=e.Number:=by unfold s9_;rw [if_pos h]
theorem zK_ {e:an_} (h:VEnd e):(sW_ e).Number=e.Number:=by unfold sW_;rw [if_pos h];repeat' split<;>try rfl
theorem lJ_ {e:an_} (h:VEnd e):(gA_ e).Out.length≤61:=by
  have h2:=(Aq_ e h).2
  unfold gA_;rw [if_pos h];split
  ·split
   ·simp;omega
   ·simp;omega
  ·simp
def yH_ (b:ByteArray) (wd to:Int) (p:ad_):ac_:=⟨to,ll_ p b wd,ll_ p b wd⟩
def Bq_ (b:ByteArray) (wd to:Int) (out:List ad_) (fl:List ac_):List ac_:=fl++(out.map (yH_ b wd to)).take (1000-fl.length)
def fJ_ (n:Int) (l:List an_):an_:=match l with | [e,f]=>if n=1 then e else f | _=>oL_
def n2_ (n:Int) (x:an_) (l:List an_):List an_:=match l with | [e,f]=>if n=1 then [x,f] else [e,x] | l=>l
def AD_ (w:ae_):ae_:=
  ⟨w.Key,w.Width,[(gA_ (fJ_ 1 w.Ends)).End,(gA_ (fJ_ 2 w.Ends)).End],Bq_ w.Key w.Width 1 (gA_ (fJ_ 2 w.Ends)).Out (Bq_ w.Key w.Width 2 (gA_ (fJ_ 1 w.Ends)).Out w.Flight),w.Forged,w.Given,w.Taken⟩
def lA_ (w:ae_) (p:ac_):ae_:=
  if (xA_ p.Bytes w.Key w.Width).2=true then
   ⟨w.Key,w.Width,n2_ p.To (qT_ (fJ_ p.To w.Ends) (xA_ p.Bytes w.Key w.Width).1).End w.Ends,w.Flight,if¬p.Bytes=p.Sent∧w.Forged=noB then p.Bytes else w.Forged,w.Given,w.Taken⟩
  else w
def vV_ (w:ae_) (n:Int):ae_:=
  if w.Given.length+w.Taken.length<400∧(lx_ (fJ_ n w.Ends)).Code=0 then
   ⟨w.Key,w.Width,n2_ n (lx_ (fJ_ n w.Ends)).End w.Ends,w.Flight,w.Forged,w.Given,w.Taken++[⟨3-n,(fJ_ n w.Ends).Peer,(fJ_ n w.Ends).Life,(lx_ (fJ_ n w.Ends)).Text⟩]⟩
  else w
def tf_ (w:ae_) (n:Int) (t:ByteArray):ae_:=
  if w.Given.length+w.Taken.length<400∧(iX_ (fJ_ n w.Ends) t).Code=0 then
   ⟨w.Key,w.Width,n2_ n (iX_ (fJ_ n w.Ends) t).End w.Ends,w.Flight,w.Forged,w.Given++[⟨n,(fJ_ n w.Ends).Life,(fJ_ n w.Ends).Peer,t⟩],w.Taken⟩
  else w
def ry_ (w:ae_) (fl:List ac_):ae_:=⟨w.Key,w.Width,w.Ends,fl,w.Forged,w.Given,w.Taken⟩
def BN_ (w:ae_) (n:Int) (x:an_):ae_:=⟨w.Key,w.Width,n2_ n x w.Ends,w.Flight,w.Forged,w.Given,w.Taken⟩
def AX_ (s:ByteArray) (b c:Int):ByteArray:=iJ_ ((bX_ s).set b.toNat (m6_ .u8 ((bX_ s).getD b.toNat 0) (IntKind.wrap .u8 (c%256))))
def iU_ (w:ae_) (v:bu_) (p:ac_):ae_:=
  if v.Kind=2 then lA_ (ry_ w (w.Flight.eraseIdx v.A.toNat)) p
  else if v.Kind=3 then (if w.Flight.length<1000 then ry_ w (w.Flight++[p]) else w)
  else if v.Kind=4 then ry_ w (w.Flight.eraseIdx v.A.toNat)
  else if v.Kind=5 then (if (0≤v.B∧v.B<p.Bytes.size)∧0≤v.C then ry_ w (w.Flight.set v.A.toNat ⟨p.To,p.Sent,AX_ p.Bytes v.B v.C⟩) else w)
  else if v.Kind=6 then (if 0≤v.B∧v.B≤p.Bytes.size then ry_ w (w.Flight.set v.A.toNat ⟨p.To,p.Sent,p.Bytes.extract 0 v.B.toNat⟩) else w)
  else ry_ w (w.Flight.set v.A.toNat ⟨3-p.To,p.Sent,p.Bytes⟩)
def oP_ (w:ae_) (v:bu_):ae_:=
  if v.Kind=8 then BN_ w v.A (s9_ (fJ_ v.A w.Ends))
  else if v.Kind=9 then BN_ w v.A (sW_ (fJ_ v.A w.Ends))
  else if v.Kind=10 then tf_ w v.A v.Text
  else vV_ w v.A
def doW (w:ae_) (v:bu_):ae_:=
  if v.Kind=1 then AD_ w
  else if 2≤v.Kind∧v.Kind≤7 then (if 0≤v.A then (match w.Flight[v.A.toNat]? with | some p=>iU_ w v p | none=>w) else w)
  else if (8≤v.Kind∧v.Kind≤11)∧(1≤v.A∧v.A≤2) then oP_ w v
  else w
def jp_:ae_:=⟨noB,0,[],[],noB,[],[]⟩
def doM (w:ae_) (v:bu_):ae_:=if bw_ w then doW w v else jp_
theorem fG_:∀{l:List an_},n7_ l→∃e f,l=[e,f]∧VEnd e∧e.Number=1∧VEnd f∧f.Number=2
  | [a,b],h=>⟨a,b,rfl,h.1.1,h.1.2,h.2.1,h.2.2⟩
theorem tC_ {e f:an_} (h1:VEnd e) (h2:e.Number=1) (h3:VEnd f) (h4:f.Number=2):n7_ [e,f]:=⟨⟨h1,h2⟩,⟨h3,h4⟩⟩
theorem mQ_ {l:List an_} (h:n7_ l) {n:Int} (hn:1≤n∧n≤2):VEnd (fJ_ n l)∧(fJ_ n l).Number=n:=by
  obtain ⟨e,f,rfl,h1,h2,h3,h4⟩:=fG_ h
  unfold fJ_
  dsimp only
  split
  ·rename_i hh;exact ⟨h1,by omega⟩
  ·exact ⟨h3,by omega⟩
theorem tp_ {l:List an_} (h:n7_ l) {n:Int} (hn:1≤n∧n≤2) {x:an_} (hx:VEnd x) (hx':x.Number=n):n7_ (n2_ n x l):=by
  obtain ⟨e,f,rfl,h1,h2,h3,h4⟩:=fG_ h
  unfold n2_
  dsimp only
  split
  ·rename_i hh;exact tC_ hx (by omega) h3 h4
  ·exact tC_ h1 h2 hx (by omega)
theorem o7_ {b:ByteArray} {wd to:Int} {out:List ad_} {fl:List ac_} (h:fl.length≤1000):(Bq_ b wd to out fl).length≤1000:=by
  unfold Bq_;simp;omega
theorem Bs_ {b:ByteArray} {wd to:Int} {out:List ad_} {fl:List ac_} (h:lb_ fl) (ht:1≤to∧to≤2):lb_ (Bq_ b wd to out fl):=fun p hp=>by
  unfold Bq_ at hp
  simp only [List.mem_append] at hp
  rcases hp with hp | hp
  ·exact h p hp
  ·have:=List.mem_of_mem_take hp
   simp only [List.mem_map] at this
   obtain ⟨q,_,rfl⟩:=this
   have:=yt_ q b wd
   exact ⟨ht,by show (ll_ q b wd).size≤100;omega,by show (ll_ q b wd).size≤100;omega⟩
theorem Cx_ {w:ae_} (h:bw_ w):bw_ (AD_ w):=by
  obtain ⟨h1,h2,h3,h4,h5,h6,h7,h8⟩:=h
  obtain ⟨e1,e2⟩:=mQ_ h5 (n:=1) (by omega)
  obtain ⟨f1,f2⟩:=mQ_ h5 (n:=2) (by omega)
  exact ⟨h1,h2,o7_ (o7_ h3),h4,tC_ (zp_ e1) ((uI_ e1).trans e2) (zp_ f1) ((uI_ f1).trans f2),Bs_ (Bs_ h6 (by omega)) (by omega),h7,h8⟩
theorem AT_ {w:ae_} (h:bw_ w) {p:ac_} (hp:1≤p.To∧p.To≤2):bw_ (lA_ w p):=by
  unfold lA_
  split
  ·obtain ⟨h1,h2,h3,h4,h5,h6,h7,h8⟩:=h
   obtain ⟨e1,e2⟩:=mQ_ h5 hp
   exact ⟨h1,h2,h3,h4,tp_ h5 hp (BT_ _ e1) ((zC_ _ e1).trans e2),h6,h7,h8⟩
  ·exact h
theorem sD_ {l:List ab_} {r:ab_} (h:fN_ l) (hr:Db_ r):fN_ (l++[r]):=fun x hx=>by
  simp only [List.mem_append,List.mem_singleton] at hx
  rcases hx with hx | rfl
  ·exact h x hx
  ·exact hr
theorem Cp_ {w:ae_} (h:bw_ w) {n:Int} (hn:1≤n∧n≤2):bw_ (vV_ w n):=by
  unfold vV_
  split
  ·rename_i hc
   obtain ⟨h1,h2,h3,h4,h5,h6,h7,h8⟩:=h
   obtain ⟨e1,e2⟩:=mQ_ h5 hn
   obtain ⟨g1,g2,g3,g4⟩:=CW_ e1 hc.2
   have hp:=e1.2.2.1
   exact ⟨h1,h2,h3,by simp only [List.length_append,List.length_singleton];omega,tp_ h5 hn g1 ((z2_ e1 hc.2).trans e2),h6,h7,sD_ h8 ⟨by simp only;omega,by simp only;omega,e1.2.1,g4⟩⟩
  ·exact h
theorem BH_ {w:ae_} (h:bw_ w) {n:Int} (hn:1≤n∧n≤2) (t:ByteArray):bw_ (tf_ w n t):=by
  unfold tf_
  split
  ·rename_i hc
   obtain ⟨h1,h2,h3,h4,h5,h6,h7,h8⟩:=h
   obtain ⟨e1,e2⟩:=mQ_ h5 hn
   obtain ⟨g1,g2,g3,g4⟩:=B8_ e1 hc.2
   have hp:=e1.2.2.1
   exact ⟨h1,h2,h3,by simp only [List.length_append,List.length_singleton];omega,tp_ h5 hn g1 ((yS_ e1 hc.2).trans e2),h6,sD_ h7 ⟨by simp only;omega,e1.2.1,by simp only;omega,g4⟩,h8⟩
  ·exact h
theorem zz_ {w:ae_} (h:bw_ w) {n:Int} (hn:1≤n∧n≤2) {x:an_} (hx:VEnd x) (hx':x.Number=n):bw_ (BN_ w n x):=by
  obtain ⟨h1,h2,h3,h4,h5,h6,h7,h8⟩:=h
  exact ⟨h1,h2,h3,h4,tp_ h5 hn hx hx',h6,h7,h8⟩
theorem kN_ {w:ae_} (h:bw_ w) {fl:List ac_} (h1:fl.length≤1000) (h2:lb_ fl):bw_ (ry_ w fl):=by
  obtain ⟨g1,g2,g3,g4,g5,g6,g7,g8⟩:=h
  exact ⟨g1,g2,h1,g4,g5,h2,g7,g8⟩
theorem vv_ {l:List ac_} (h:lb_ l) (i:Nat):lb_ (l.eraseIdx i):=fun p hp=>h p (List.mem_of_mem_eraseIdx hp)
theorem BE_ {l:List ac_} (h:lb_ l) (i:Nat) {q:ac_} (hq:x8_ q):lb_ (l.set i q):=fun p hp=>by
  rcases List.mem_or_eq_of_mem_set hp with h' | h'
  ·exact h p h'
  ·rw [h'];exact hq
theorem x4_ (s:ByteArray) (b c:Int):(AX_ s b c).size=s.size:=by
  unfold AX_;rw [gs_,List.length_set];unfold bX_;simp
theorem DQ_ {w:ae_} (h:bw_ w) (v:bu_):bw_ (doW w v):=by
  unfold doW
  split
  ·exact Cx_ h
  ·split
   ·split
    ·split
     ·rename_i p hp
      have hv:x8_ p:=h.2.2.2.2.2.1 p (List.mem_of_getElem? hp)
      have h6:=h.2.2.2.2.2.1
      have h3:=h.2.2.1
      have hel:(w.Flight.eraseIdx v.A.toNat).length≤1000:=by have:=List.length_eraseIdx_le w.Flight v.A.toNat;omega
      unfold iU_
      split
      ·exact AT_ (kN_ h hel (vv_ h6 _)) hv.1
      ·split
       ·split
        ·refine kN_ h (by simp;omega) (fun q hq=> ?_)
         simp only [List.mem_append,List.mem_singleton] at hq
         rcases hq with hq | rfl
         ·exact h6 q hq
         ·exact hv
        ·exact h
       ·split
        ·exact kN_ h hel (vv_ h6 _)
        ·split
         ·split
          ·exact kN_ h (by simp;omega) (BE_ h6 _ ⟨hv.1,hv.2.1,by show (AX_ p.Bytes v.B v.C).size≤100;rw [x4_];exact hv.2.2⟩)
          ·exact h
         ·split
          ·split
           ·exact kN_ h (by simp;omega) (BE_ h6 _ ⟨hv.1,hv.2.1,by
              show (p.Bytes.extract 0 v.B.toNat).size≤100
              have:=hv.2.2
              rw [eU_];omega⟩)
           ·exact h
          ·have hvt:=hv.1
           exact kN_ h (by simp;omega) (BE_ h6 _ ⟨by show 1≤3-p.To∧3-p.To≤2;omega,hv.2.1,hv.2.2⟩)
     ·exact h
    ·exact h
   ·split
    ·rename_i hc
     have hn:=hc.2
     obtain ⟨e1,e2⟩:=mQ_ h.2.2.2.2.1 hn
     unfold oP_
     split
     ·exact zz_ h hn (Cr_ _ e1) ((Ae_ e1).trans e2)
     ·split
      ·exact zz_ h hn (Cg_ _ e1) ((zK_ e1).trans e2)
      ·split
       ·exact BH_ h hn _
       ·exact Cp_ h hn
    ·exact h
end Km.X
namespace Km.X
open Go Km
set_option linter.unusedVariables false
set_option linter.unusedSimpArgs false
theorem kO_ {l:List an_} (h:n7_ l) {n:Int} (hn:1≤n∧n≤2):idx l (IntKind.wrap .i64 (n-1))=some (fJ_ n l)∧l[Int.toNat (IntKind.wrap .i64 (n-1))]? =some (fJ_ n l)∧∀x,l.set (Int.toNat (IntKind.wrap .i64 (n-1))) x=n2_ n x l:=by
  obtain ⟨e,f,rfl,_⟩:=fG_ h
  rw [aM_ (by omega) (by omega)]
  have hc:n=1∨n=2:=by omega
  rcases hc with rfl | rfl
  ·exact ⟨rfl,rfl,fun _=>rfl⟩
  ·exact ⟨rfl,rfl,fun _=>rfl⟩
theorem xc_ (b:ByteArray) (wd to:Int) (p:ad_) (t:List ad_) (fl:List ac_) (h:fl.length<1000):fl++((p::t).map (yH_ b wd to)).take (1000-fl.length)=(fl++[yH_ b wd to p])++(t.map (yH_ b wd to)).take (1000-(fl++[yH_ b wd to p]).length):=by
  rw [List.map_cons,show 1000-fl.length=(1000-(fl.length+1))+1 by omega,List.take_succ_cons]
  simp
theorem xa_ (b:ByteArray) (wd to:Int) (t:List ad_) (fl:List ac_) (h:¬fl.length<1000):fl++(t.map (yH_ b wd to)).take (1000-fl.length)=fl:=by
  rw [show 1000-fl.length=0 by omega];simp
theorem BY_ (K Fo:ByteArray) (W:Int) (Gi Ta:List ab_) (Es:List an_) (i n i':Int) (hi:0≤i∧i≤1) {Q:ae_→Prop}:∀(t pre:List ad_) (fl:List ac_),(pre++t).length≤1000→fl.length≤1000→
    Wp (fun k=>be_ k n (IntKind.wrap .i64 (i'+1)) K W Fo Es (fl++(t.map (yH_ K W (2-i))).take (1000-fl.length)) Gi Ta) Q→
    Wp (fun k=>b3_ k i n i' ((pre++t).length:Int) (pre.length:Int) K W Fo (pre++t) Es fl Gi Ta) Q
  | [],pre,fl,hl,hf,h=>by
    refine Wp.step ?_
    simp only [b3_,List.append_nil]
    simp (disch:=omega) only [af_,if_neg]
    simpa using h
  | p::t,pre,fl,hl,hf,h=>by
    refine Wp.step ?_
    have hl':=hl
    simp only [List.length_append,List.length_cons] at hl
    simp only [b3_]
    simp only [af_,a3_,if_true,aA_,by_,Option.bind_some]
    have ih:=fun (fl2:List ac_) (h2:fl2.length≤1000) (hh:Wp (fun k=>be_ k n (IntKind.wrap .i64 (i'+1)) K W Fo Es (fl2++(t.map (yH_ K W (2-i))).take (1000-fl2.length)) Gi Ta) Q)=>BY_ K Fo W Gi Ta Es i n i' hi t (pre++[p]) fl2 (by simpa using hl') h2 hh
    simp only [←aI_,←aW_] at ih
    refine Wp.ite (fun hc=> ?_) (fun hc=> ?_)
    ·refine Wp.bind (pA_ p K W) (fun _ q=> ?_);subst q
     rw [aM_ (n:=2-i) (by omega) (by omega)]
     refine Wp.opt (ba_ (by simp;omega)) ?_
     refine Wp.step ?_
     simp only [cA_]
     rw [aM_ (n:=(pre.length:Int)+1) (by omega) (by omega)]
     refine ih (fl++[yH_ K W (2-i) p]) (by simp;omega) ?_
     rw [←xc_ K W (2-i) p t fl (by omega)];exact h
    ·refine Wp.step ?_
     simp only [cA_]
     rw [aM_ (n:=(pre.length:Int)+1) (by omega) (by omega)]
     refine ih fl hf ?_
     rw [xa_ _ _ _ _ _ (by omega)] at h⊢;exact h
theorem vp_ (w:ae_) (h:bw_ w):Wp (fun k=>eX_ k w) (· =AD_ w):=by
  obtain ⟨K,W,Es,Fl,Fo,Gi,Ta⟩:=w
  obtain ⟨h1,h2,h3,h4,h5,h6,h7,h8⟩:=h
  obtain ⟨e,f,he,e1,e2,f1,f2⟩:=fG_ h5
  dsimp only at he;subst he
  have he1:=lJ_ e1
  have hf1:=lJ_ f1
  unfold eX_
  have len2:(([e,f]:List an_).length:Int)=2:=rfl
  have len2':∀x:an_,(([x,f]:List an_).length:Int)=2:=fun _=>rfl
  dsimp only
  rw [len2]
  refine Wp.step ?_
  simp only [be_]
  have i0:∀x y:an_,idx [x,y] 0=some x:=fun _ _=>rfl
  have g0:∀x y:an_,[x,y][Int.toNat 0]? =some x:=fun _ _=>rfl
  have s0:∀x y z:an_,[x,y].set (Int.toNat 0) z=[z,y]:=fun _ _ _=>rfl
  have i1:∀x y:an_,idx [x,y] 1=some y:=fun _ _=>rfl
  have g1:∀x y:an_,[x,y][Int.toNat 1]? =some y:=fun _ _=>rfl
  have s1:∀x y z:an_,[x,y].set (Int.toNat 1) z=[x,z]:=fun _ _ _=>rfl
  simp (disch:=omega) only [af_,if_pos,i0,g0,Option.bind_some]
  refine Wp.bind (nT_ e) (fun _ q=> ?_);subst q
  rw [s0]
  refine BY_ K Fo W Gi Ta _ 0 2 0 (by omega) (gA_ e).Out [] Fl (by simp;omega) h3 ?_
  rw [aM_ (n:=(0:Int)+1) (by omega) (by omega)]
  refine Wp.step ?_
  simp only [be_]
  simp (disch:=omega) only [af_,if_pos,Int.zero_add,i1,g1,Option.bind_some]
  refine Wp.bind (nT_ f) (fun _ q=> ?_);subst q
  rw [s1]
  have hpl:=o7_ (b:=K) (wd:=W) (to:=2) (out:=(gA_ e).Out) (show Fl.length≤1000 from h3)
  refine BY_ K Fo W Gi Ta _ 1 2 1 (by omega) (gA_ f).Out [] (Bq_ K W 2 (gA_ e).Out Fl) (by simp;omega) hpl ?_
  rw [aM_ (n:=(1:Int)+1) (by omega) (by omega)]
  refine Wp.step ?_
  simp only [be_]
  simp (disch:=omega) only [af_,if_neg]
  exact Wp.ret rfl
theorem zB_ (K Fo k1 k2 k3 Op Tx:ByteArray) (W z:Int) (c n:Int) (u:Bool) (li p s:Int) (o:Bool) (b nx:Int) (Gi Ta:List ab_) (Es E2:List an_) (F2:List ac_) (G2 T2:List ab_) (i:Int) (hi:0≤i∧i≤1) {Q:ae_→Prop}:∀(t pre:List ad_) (fl:List ac_),(pre++t).length≤1000→fl.length≤1000→
    Wp (fun k=>bR_ k (IntKind.wrap .i64 (i+1)) K W Fo k1 z k2 Es (fl++(t.map (yH_ K W (2-i))).take (1000-fl.length)) Gi Ta E2 F2 G2 T2) Q→
    Wp (fun k=>dF_ k i (pre.length:Int) K W Fo k1 z k2 c n u li p s o b nx Op Tx Es fl Gi Ta E2 F2 G2 T2 (pre++t)) Q
  | [],pre,fl,hl,hf,h=>by
    refine Wp.step ?_
    simp only [dF_,List.append_nil]
    simp (disch:=omega) only [af_,if_neg]
    simpa using h
  | q::t,pre,fl,hl,hf,h=>by
    refine Wp.step ?_
    have hl':=hl
    simp only [List.length_append,List.length_cons] at hl
    simp only [dF_]
    simp only [af_,a3_,if_true,aA_,by_,Option.bind_some]
    have ih:=fun (fl2:List ac_) (h2:fl2.length≤1000) (hh:Wp (fun k=>bR_ k (IntKind.wrap .i64 (i+1)) K W Fo k1 z k2 Es (fl2++(t.map (yH_ K W (2-i))).take (1000-fl2.length)) Gi Ta E2 F2 G2 T2) Q)=>zB_ K Fo k1 k2 k3 Op Tx W z c n u li p s o b nx Gi Ta Es E2 F2 G2 T2 i hi t (pre++[q]) fl2 (by simpa using hl') h2 hh
    simp only [←aI_,←aW_] at ih
    refine Wp.ite (fun hc=> ?_) (fun hc=> ?_)
    ·refine Wp.bind (q2_ q K W) (fun _ e=> ?_);subst e
     rw [aM_ (n:=2-i) (by omega) (by omega)]
     refine Wp.opt (ba_ (by simp;omega)) ?_
     rw [aM_ (n:=(pre.length:Int)+1) (by omega) (by omega)]
     refine ih (fl++[yH_ K W (2-i) q]) (by simp;omega) ?_
     rw [←xc_ K W (2-i) q t fl (by omega)];exact h
    ·rw [xa_ _ _ _ _ _ (by omega)] at h;exact h
theorem tN_ (w:ae_) (h:bw_ w):Wp (fun k=>h9_ k w) (· =AD_ w):=by
  obtain ⟨K,W,Es,Fl,Fo,Gi,Ta⟩:=w
  obtain ⟨h1,h2,h3,h4,h5,h6,h7,h8⟩:=h
  obtain ⟨e,f,he,e1,e2,f1,f2⟩:=fG_ h5
  dsimp only at he;subst he
  have he1:=lJ_ e1
  have hf1:=lJ_ f1
  unfold h9_
  dsimp only
  refine Wp.step ?_
  simp only [bR_]
  have i0:∀x y:an_,idx [x,y] 0=some x:=fun _ _=>rfl
  have g0:∀x y:an_,[x,y][Int.toNat 0]? =some x:=fun _ _=>rfl
  have s0:∀x y z:an_,[x,y].set (Int.toNat 0) z=[z,y]:=fun _ _ _=>rfl
  have i1:∀x y:an_,idx [x,y] 1=some y:=fun _ _=>rfl
  have g1:∀x y:an_,[x,y][Int.toNat 1]? =some y:=fun _ _=>rfl
  have s1:∀x y z:an_,[x,y].set (Int.toNat 1) z=[x,z]:=fun _ _ _=>rfl
  simp (disch:=omega) only [af_,if_pos,i0,g0,Option.bind_some]
  refine Wp.bind (nJ_ e) (fun _ q=> ?_);subst q
  rw [s0]
  refine zB_ K Fo _ _ noB _ _ W _ _ _ _ _ _ _ _ _ _ Gi Ta _ _ _ _ _ 0 (by omega) (gA_ e).Out [] Fl (by simp;omega) h3 ?_
  rw [aM_ (n:=(0:Int)+1) (by omega) (by omega)]
  refine Wp.step ?_
  simp only [bR_]
  simp (disch:=omega) only [af_,if_pos,Int.zero_add,i1,g1,Option.bind_some]
  refine Wp.bind (nJ_ f) (fun _ q=> ?_);subst q
  rw [s1]
  have hpl:=o7_ (b:=K) (wd:=W) (to:=2) (out:=(gA_ e).Out) (show Fl.length≤1000 from h3)
  refine zB_ K Fo _ _ noB _ _ W _ _ _ _ _ _ _ _ _ _ Gi Ta _ _ _ _ _ 1 (by omega) (gA_ f).Out [] (Bq_ K W 2 (gA_ e).Out Fl) (by simp;omega) hpl ?_
  rw [aM_ (n:=(1:Int)+1) (by omega) (by omega)]
  refine Wp.step ?_
  simp only [bR_]
  simp (disch:=omega) only [af_,if_neg]
  exact Wp.ret rfl
theorem Cf_ (K Fo B Sn By:ByteArray) (W:Int) (p:ac_) (q:ad_) (Es:List an_) (Fl:List ac_) (Gi Ta:List ab_) (h5:n7_ Es) (hp:1≤p.To∧p.To≤2):Wp (fun k=>bH_ k K W Fo p.To p.Sent p.Bytes q.Kind q.From q.Mine q.Yours q.Next q.Mask q.Seq q.Last q.Part Es Fl Gi Ta) (· =⟨K,W,n2_ p.To (qT_ (fJ_ p.To Es) q).End Es,Fl,Fo,Gi,Ta⟩):=by
  refine Wp.step ?_
  simp only [bH_]
  obtain ⟨a1,a2,a3⟩:=kO_ h5 hp
  simp only [a1,a2,a3,Option.bind_some]
  refine Wp.bind (t2_ _ _) (fun _ e=> ?_);subst e
  exact Wp.ret rfl
theorem tD_ (w:ae_) (h:bw_ w) (p:ac_) (hp:1≤p.To∧p.To≤2) (hs:p.Bytes.size≤100):Wp (fun k=>eo_ k w p) (· =lA_ w p):=by
  obtain ⟨K,W,Es,Fl,Fo,Gi,Ta⟩:=w
  have h5:=h.2.2.2.2.1
  unfold eo_ lA_
  refine Wp.bind (wM_ p.Bytes K W (by omega)) (fun _ e=> ?_);subst e
  dsimp only
  simp only [aH_]
  refine Wp.bif (fun hr=> ?_) (fun hr=>Wp.ret (by rw [if_neg (by simp [hr])]))
  rw [if_pos hr]
  simp only [cB_]
  refine Wp.ite (fun hb=> ?_) (fun hb=> ?_)
  ·refine (Cf_ K Fo noB noB noB W p _ Es Fl Gi Ta h5 hp).mono fun r hr=> ?_
   rw [hr,if_neg (by simp [hb])]
  ·refine Wp.ite (fun hf=> ?_) (fun hf=> ?_)
   ·refine (Cf_ K p.Bytes noB noB noB W p _ Es Fl Gi Ta h5 hp).mono fun r hr=> ?_
    rw [hr,if_pos ⟨hb,hf⟩]
   ·refine (Cf_ K Fo noB noB noB W p _ Es Fl Gi Ta h5 hp).mono fun r hr=> ?_
    rw [hr,if_neg (fun g=>hf g.2)]
theorem xr_ (l:List ac_) (i:Nat) (h:i<l.length):l.take i++l.drop (i+1)=l.eraseIdx i:=(List.eraseIdx_eq_take_drop_succ l i).symm
theorem uU_ {α:Type} (l:List α) (i:Nat):dO_ l 0 i=l.take i:=by simp [dO_]
theorem ve_ {α:Type} (l:List α) (i:Nat):dO_ l i l.length=l.drop i:=by simp [dO_]
theorem sv_ (l:List ac_) (i:Nat) (h:i<l.length) (hl:l.length≤1000):Wp (fun k=>ee_ k l (i:Int)) (· =l.eraseIdx i):=by
  unfold ee_
  refine Wp.opt (cY_ ⟨by omega,by omega,by omega⟩) ?_
  dsimp only
  rw [Int.toNat_natCast,show Int.toNat 0=0 from rfl,uU_]
  refine Wp.opt (ba_ (by simp;omega)) ?_
  rw [aM_ (by omega) (by omega)]
  refine Wp.opt (cY_ ⟨by omega,by omega,by omega⟩) ?_
  dsimp only
  rw [Int.toNat_natCast,show Int.toNat ((i:Int)+1)=i+1 by omega,ve_]
  refine Wp.opt (ba_ (by simp;omega)) ?_
  refine Wp.ret ?_
  rw [←xr_ l i h];simp
theorem BS_ (K Fo k1 k2:ByteArray) (W z:Int) (p:ac_) (q:ad_) (Es E2:List an_) (Fl F2:List ac_) (Gi Ta G2 T2:List ab_) (h5:n7_ Es) (hp:1≤p.To∧p.To≤2):Wp (fun k=>c4_ k K W Fo k1 z k2 p.To p.Sent p.Bytes q.Kind q.From q.Mine q.Yours q.Next q.Mask q.Seq q.Last q.Part Es Fl Gi Ta E2 F2 G2 T2) (· =⟨K,W,n2_ p.To (qT_ (fJ_ p.To Es) q).End Es,Fl,Fo,Gi,Ta⟩):=by
  refine Wp.step ?_
  simp only [c4_]
  obtain ⟨a1,a2,a3⟩:=kO_ h5 hp
  simp only [a1,a2,a3,Option.bind_some]
  refine Wp.bind (tP_ _ _) (fun _ e=> ?_);subst e
  exact Wp.ret rfl
theorem s7_ (w:ae_) (h:bw_ w) (i:Nat) {p:ac_} (hi:w.Flight[i]? =some p):Wp (fun k=>gC_ k w (i:Int)) (· =lA_ (ry_ w (w.Flight.eraseIdx i)) p):=by
  have hv:x8_ p:=h.2.2.2.2.2.1 p (List.mem_of_getElem? hi)
  have hlt:=(List.getElem?_eq_some_iff.mp hi).1
  obtain ⟨K,W,Es,Fl,Fo,Gi,Ta⟩:=w
  have h5:=h.2.2.2.2.1
  have h3:=h.2.2.1
  dsimp only at hi hlt h3 h5
  unfold gC_ lA_ ry_
  dsimp only
  have e1:idx Fl (i:Int)=some p:=by rw [ju_];exact hi
  have e2:Fl[Int.toNat (i:Int)]? =some p:=by rw [Int.toNat_natCast];exact hi
  simp only [e1,e2,Option.bind_some]
  refine Wp.bind (sv_ Fl i hlt h3) (fun _ e=> ?_);subst e
  refine Wp.bind (v9_ p.Bytes K W (by have:=hv.2.2;omega)) (fun _ e=> ?_);subst e
  simp only [aH_]
  refine Wp.bif (fun hr=> ?_) (fun hr=>Wp.ret (by rw [if_neg (by simp [hr])]))
  rw [if_pos hr]
  simp only [cB_]
  refine Wp.ite (fun hb=> ?_) (fun hb=> ?_)
  ·refine (BS_ K Fo _ _ W _ p _ Es _ _ _ Gi Ta _ _ h5 hv.1).mono fun r hr=> ?_
   rw [hr,if_neg (by simp [hb])]
  ·refine Wp.ite (fun hf=> ?_) (fun hf=> ?_)
   ·refine (BS_ K p.Bytes _ _ W _ p _ Es _ _ _ Gi Ta _ _ h5 hv.1).mono fun r hr=> ?_
    rw [hr,if_pos ⟨hb,hf⟩]
   ·refine (BS_ K Fo _ _ W _ p _ Es _ _ _ Gi Ta _ _ h5 hv.1).mono fun r hr=> ?_
    rw [hr,if_neg (fun g=>hf g.2)]
theorem xe_ {a b:Nat} (h:a+b≤400):IntKind.wrap .i64 ((a:Int)+(b:Int))=((a+b:Nat):Int):=by rw [aM_ (by omega) (by omega)];omega
theorem tK_ (w:ae_) (h:bw_ w) (n:Int) (hn:1≤n∧n≤2):Wp (fun k=>e4_ k w n) (· =vV_ w n):=by
  obtain ⟨K,W,Es,Fl,Fo,Gi,Ta⟩:=w
  have h5:=h.2.2.2.2.1
  have h4:=h.2.2.2.1
  dsimp only at h4 h5
  unfold e4_ dU_ vV_
  dsimp only
  simp only [Option.bind_some,xe_ h4,af_]
  refine Wp.ite (fun hc=>Wp.ret (by rw [if_neg (by omega)])) (fun hc=> ?_)
  obtain ⟨a1,a2,a3⟩:=kO_ h5 hn
  simp only [a1,a2,a3,Option.bind_some]
  refine Wp.bind (uW_ _) (fun _ e=> ?_);subst e
  simp only [ea_]
  refine Wp.ite (fun h0=> ?_) (fun h0=>Wp.ret (by rw [if_neg (fun g=>h0 g.2)]))
  rw [aM_ (n:=3-n) (by omega) (by omega)]
  refine Wp.opt (ba_ (by simp;omega)) ?_
  exact Wp.ret (by rw [if_pos ⟨by omega,h0⟩])
end Km.X
namespace Km.X
open Go Km
set_option linter.unusedVariables false
theorem nX_ (K Fo a c:ByteArray) (W b:Int) (Es:List an_) (Fl:List ac_) (Gi Ta:List ab_) (E2:List an_) (F2:List ac_) (G2 T2:List ab_):Wp (fun k=>a9_ k K W Fo a b c Es Fl Gi Ta E2 F2 G2 T2) (· =⟨K,W,Es,Fl,Fo,Gi,Ta⟩):=by
  refine Wp.step ?_
  simp only [a9_]
  exact Wp.ret rfl
theorem By_ (K Fo a c:ByteArray) (W b:Int) (Es:List an_) (Fl:List ac_) (Gi Ta:List ab_) (E2:List an_) (F2:List ac_) (G2 T2:List ab_):Wp (fun k=>c7_ k K W Fo a b c Es Fl Gi Ta E2 F2 G2 T2) (· =⟨K,W,Es,Fl,Fo,Gi,Ta⟩):=by
  refine Wp.step ?_
  simp only [c7_]
  exact Wp.ret rfl
theorem ql_ (K Fo a c:ByteArray) (W b:Int) (Es:List an_) (Fl:List ac_) (Gi Ta:List ab_) (E2:List an_) (F2:List ac_) (G2 T2:List ab_):Wp (fun k=>au_ k a b c K W Fo E2 F2 G2 T2 Es Fl Gi Ta) (· =⟨K,W,Es,Fl,Fo,Gi,Ta⟩):=by
  refine Wp.step ?_
  simp only [au_]
  exact Wp.ret rfl
theorem Ay_ {α:Type} {l:List α} {i:Nat} {p:α} (h:l[i]? =some p):l.set i p=l:=by
  obtain ⟨h1,h2⟩:=List.getElem?_eq_some_iff.mp h
  subst h2;exact List.set_getElem_self h1
theorem xT_ (w:ae_) (h:bw_ w) (v:bu_) (hk:8≤v.Kind∧v.Kind≤11) (hn:1≤v.A∧v.A≤2):Wp (fun k=>hB_ k w v) (· =oP_ w v):=by
  obtain ⟨K,W,Es,Fl,Fo,Gi,Ta⟩:=w
  have h5:=h.2.2.2.2.1
  have h4:=h.2.2.2.1
  dsimp only at h4 h5
  obtain ⟨a1,a2,a3⟩:=kO_ h5 hn
  unfold hB_ oP_
  dsimp only
  simp only [a1,a2,a3,Option.bind_some,ea_]
  refine Wp.ite (fun e=> ?_) (fun e=> ?_)
  ·refine Wp.bind (vF_ _) (fun _ e'=> ?_);subst e'
   exact (nX_ ..).mono fun r hr=>by rw [hr,if_pos e];rfl
  rw [if_neg e]
  refine Wp.ite (fun e=> ?_) (fun e=> ?_)
  ·refine Wp.bind (wd_ _) (fun _ e'=> ?_);subst e'
   exact (nX_ ..).mono fun r hr=>by rw [hr,if_pos e];rfl
  rw [if_neg e]
  refine Wp.ite (fun e=> ?_) (fun e=> ?_)
  ·rw [if_pos e]
   refine Wp.bind (vb_ _ _) (fun _ e'=> ?_);subst e'
   simp only [xe_ h4,af_]
   unfold tf_
   dsimp only
   refine Wp.ite (fun h0=> ?_) (fun h0=> ?_)
   ·refine Wp.ite (fun h1=> ?_) (fun h1=> ?_)
    ·refine Wp.opt (ba_ (by simp;omega)) ?_
     exact (nX_ ..).mono fun r hr=>by rw [hr,if_pos ⟨by omega,h0⟩]
    ·exact (nX_ ..).mono fun r hr=>by rw [hr,if_neg (fun g=>by omega)]
   ·exact (nX_ ..).mono fun r hr=>by rw [hr,if_neg (fun g=>h0 g.2)]
  rw [if_neg e]
  refine Wp.ite (fun e=> ?_) (fun e=>by omega)
  refine Wp.bind (ui_ _) (fun _ e'=> ?_);subst e'
  simp only [xe_ h4,af_]
  unfold vV_
  dsimp only
  refine Wp.ite (fun h0=> ?_) (fun h0=> ?_)
  ·refine Wp.ite (fun h1=> ?_) (fun h1=> ?_)
   ·rw [aM_ (n:=3-v.A) (by omega) (by omega)]
    refine Wp.opt (ba_ (by simp;omega)) ?_
    exact (nX_ ..).mono fun r hr=>by rw [hr,if_pos ⟨by omega,h0⟩]
   ·exact (nX_ ..).mono fun r hr=>by rw [hr,if_neg (fun g=>by omega)]
  ·exact (nX_ ..).mono fun r hr=>by rw [hr,if_neg (fun g=>h0 g.2)]
theorem nu_ (K Fo a c Tx:ByteArray) (W b Kd A B C To:Int) (Sn By:ByteArray) (Es:List an_) (Fl:List ac_) (Gi Ta:List ab_) (E2:List an_) (F2:List ac_) (G2 T2:List ab_) {p:ac_} (h1:idx Fl A=some p) (h2:Fl[Int.toNat A]? =some p):Wp (fun k=>aP_ k K W Fo Kd A B C Tx a b c To Sn By Es Fl Gi Ta E2 F2 G2 T2) (· =⟨K,W,Es,Fl.set A.toNat ⟨To,Sn,By⟩,Fo,Gi,Ta⟩):=by
  refine Wp.step ?_
  simp only [aP_,h1,h2,Option.bind_some]
  exact Wp.ret rfl
theorem xi_ {s:ByteArray} {b:Int} (h:0≤b∧b<s.size):idx (bX_ s) b=some ((bX_ s).getD b.toNat 0)∧(bX_ s)[b.toNat]? =some ((bX_ s).getD b.toNat 0):=by
  have hl:b.toNat<(bX_ s).length:=by
    have:(bX_ s).length=s.size:=by unfold bX_;rw [List.length_map,Array.length_toList];rfl
    omega
  have e:(bX_ s)[b.toNat]? =some ((bX_ s).getD b.toNat 0):=by rw [List.getD_eq_getElem?_getD,List.getElem?_eq_getElem hl];rfl
  refine ⟨?_,e⟩
  have:=ju_ (bX_ s) b.toNat
  rw [Int.toNat_of_nonneg h.1] at this
  rw [this,e]
theorem sU_ (w:ae_) (h:bw_ w) (v:bu_) (hk:2≤v.Kind∧v.Kind≤7) (h0:0≤v.A) {p:ac_} (hp:w.Flight[v.A.toNat]? =some p):Wp (fun k=>f0_ k w v) (· =iU_ w v p):=by
  have hv:x8_ p:=h.2.2.2.2.2.1 p (List.mem_of_getElem? hp)
  have hlt:=(List.getElem?_eq_some_iff.mp hp).1
  have hb:=s7_ w h v.A.toNat hp
  have hwo:=sv_ w.Flight v.A.toNat hlt h.2.2.1
  have hix:idx w.Flight v.A=some p:=by have:=ju_ w.Flight v.A.toNat;rw [Int.toNat_of_nonneg h0] at this;rw [this,hp]
  rw [Int.toNat_of_nonneg h0] at hb hwo
  obtain ⟨K,W,Es,Fl,Fo,Gi,Ta⟩:=w
  have h3:=h.2.2.1
  dsimp only at hp hlt h3 hwo hix
  unfold f0_ iU_
  dsimp only
  simp only [hix,hp,Option.bind_some,ea_]
  refine Wp.ite (fun e=> ?_) (fun e=> ?_)
  ·refine Wp.bind hb (fun _ e'=> ?_);subst e'
   exact Wp.ret (by rw [if_pos e])
  rw [if_neg e]
  refine Wp.ite (fun e4=> ?_) (fun e4=> ?_)
  ·refine Wp.bind hwo (fun _ e'=> ?_);subst e'
   exact Wp.ret (by rw [if_neg (by omega),if_pos e4];rfl)
  refine Wp.ite (fun e=> ?_) (fun e=> ?_)
  ·rw [if_pos e]
   refine Wp.dec (fun hl=> ?_) (fun hl=> ?_)
   ·refine Wp.opt (ba_ (by simp;omega)) ?_
    exact (By_ ..).mono fun r hr=>by rw [hr,if_pos (by omega)];rfl
   ·exact (By_ ..).mono fun r hr=>by rw [hr,if_neg (by omega)]
  rw [if_neg e,if_neg e4]
  have same:Fl.set v.A.toNat ⟨p.To,p.Sent,p.Bytes⟩=Fl:=Ay_ hp
  refine Wp.ite (fun e=> ?_) (fun e=> ?_)
  ·rw [if_pos e]
   refine Wp.dec (fun h1=> ?_) (fun h1=> ?_)
   ·refine Wp.dec (fun h2=> ?_) (fun h2=> ?_)
    ·refine Wp.dec (fun h3=> ?_) (fun h3=> ?_)
     ·obtain ⟨b1,b2⟩:=xi_ (s:=p.Bytes) (b:=v.B) ⟨h1,h2⟩
      simp only [b1,b2,Option.bind_some]
      refine Wp.opt (a2_ h3 (by omega)) ?_
      exact (nu_ (h1:=hix) (h2:=hp) ..).mono fun r hr=>by rw [hr,if_pos ⟨⟨h1,h2⟩,h3⟩];rfl
     ·exact (nu_ (h1:=hix) (h2:=hp) ..).mono fun r hr=>by rw [hr,if_neg (fun g=>h3 g.2),same]
    ·exact (nu_ (h1:=hix) (h2:=hp) ..).mono fun r hr=>by rw [hr,if_neg (fun g=>h2 g.1.2),same]
   ·exact (nu_ (h1:=hix) (h2:=hp) ..).mono fun r hr=>by rw [hr,if_neg (fun g=>h1 g.1.1),same]
  rw [if_neg e]
  refine Wp.ite (fun e=> ?_) (fun e=> ?_)
  ·rw [if_pos e]
   refine Wp.dec (fun h1=> ?_) (fun h1=> ?_)
   ·refine Wp.dec (fun h2=> ?_) (fun h2=> ?_)
    ·refine Wp.opt (cY_ ⟨by omega,h1,h2⟩) ?_
     exact (nu_ (h1:=hix) (h2:=hp) ..).mono fun r hr=>by rw [hr,if_pos ⟨h1,h2⟩];rfl
    ·exact (nu_ (h1:=hix) (h2:=hp) ..).mono fun r hr=>by rw [hr,if_neg (fun g=>h2 g.2),same]
   ·exact (nu_ (h1:=hix) (h2:=hp) ..).mono fun r hr=>by rw [hr,if_neg (fun g=>h1 g.1),same]
  rw [if_neg e]
  refine Wp.ite (fun e=> ?_) (fun e=>by omega)
  have:=hv.1
  exact (nu_ (h1:=hix) (h2:=hp) ..).mono fun r hr=>by rw [hr,aM_ (n:=3-p.To) (by omega) (by omega)];rfl
theorem wa_ {w:ae_} {v:bu_} {p:ac_} (hk:2≤v.Kind∧v.Kind≤7) (h0:0≤v.A) (hp:w.Flight[v.A.toNat]? =some p):doW w v=iU_ w v p:=by
  unfold doW;rw [if_neg (by omega),if_pos hk,if_pos h0,hp]
theorem kI_ {w:ae_} {v:bu_} (hk:2≤v.Kind∧v.Kind≤7) (h0:¬(0≤v.A∧v.A<w.Flight.length)):doW w v=w:=by
  unfold doW;rw [if_neg (by omega),if_pos hk]
  split
  ·rename_i h;rw [List.getElem?_eq_none (by omega)]
  ·rfl
theorem y3_ {w:ae_} {v:bu_} (hk:8≤v.Kind∧v.Kind≤11) (h0:1≤v.A∧v.A≤2):doW w v=oP_ w v:=by
  unfold doW;rw [if_neg (by omega),if_neg (by omega),if_pos ⟨hk,h0⟩]
theorem oY_ {w:ae_} {v:bu_} (hk:¬(1≤v.Kind∧v.Kind≤11)∨(8≤v.Kind∧¬(1≤v.A∧v.A≤2))):doW w v=w:=by
  unfold doW;rw [if_neg (by omega),if_neg (by omega),if_neg (by omega)]
theorem xW_ (w:ae_) (h:bw_ w) (v:bu_):Wp (fun k=>l2_ k w v) (· =doW w v):=by
  have h3:=h.2.2.1
  unfold l2_
  simp only [ea_]
  refine Wp.ite (fun e=> ?_) (fun e=> ?_)
  ·refine Wp.bind (tN_ w h) (fun _ e'=> ?_);subst e'
   exact Wp.ret (by unfold doW;rw [if_pos e])
  refine Wp.bind (ck_ _ _ _) (fun _ e'=> ?_);subst e'
  refine Wp.bif (fun hb=> ?_) (fun hb=> ?_)
  ·simp only [Bool.and_eq_true,decide_eq_true_eq] at hb
   refine Wp.bind (ck_ _ _ _) (fun _ e'=> ?_);subst e'
   rw [aM_ (n:=(w.Flight.length:Int)-1) (by omega) (by omega)]
   refine Wp.bif (fun ha=> ?_) (fun ha=> ?_)
   ·simp only [Bool.and_eq_true,decide_eq_true_eq] at ha
    have hg:w.Flight[v.A.toNat]? =some (w.Flight[v.A.toNat]'(by omega)):=List.getElem?_eq_getElem (by omega)
    refine Wp.bind (sU_ w h v hb ha.1 hg) (fun _ e'=> ?_);subst e'
    exact Wp.ret (wa_ hb ha.1 hg).symm
   ·simp only [Bool.and_eq_false_iff,decide_eq_false_iff_not] at ha
    refine Wp.bind (ck_ _ _ _) (fun _ e'=> ?_);subst e'
    refine Wp.bif (fun h8=> ?_) (fun h8=>Wp.ret (kI_ hb (by omega)).symm)
    simp only [Bool.and_eq_true,decide_eq_true_eq] at h8
    omega
  ·simp only [Bool.and_eq_false_iff,decide_eq_false_iff_not] at hb
   refine Wp.bind (ck_ _ _ _) (fun _ e'=> ?_);subst e'
   refine Wp.bif (fun h8=> ?_) (fun h8=> ?_)
   ·simp only [Bool.and_eq_true,decide_eq_true_eq] at h8
    refine Wp.bind (ck_ _ _ _) (fun _ e'=> ?_);subst e'
    refine Wp.bif (fun ha=> ?_) (fun ha=> ?_)
    ·simp only [Bool.and_eq_true,decide_eq_true_eq] at ha
     refine Wp.bind (xT_ w h v h8 ha) (fun _ e'=> ?_);subst e'
     exact Wp.ret (y3_ h8 ha).symm
    ·simp only [Bool.and_eq_false_iff,decide_eq_false_iff_not] at ha
     exact Wp.ret (oY_ (.inr ⟨h8.1,by omega⟩)).symm
   ·simp only [Bool.and_eq_false_iff,decide_eq_false_iff_not] at h8
    exact Wp.ret (oY_ (.inl (by omega))).symm
theorem uD_ (K Fo K' Fo' a c:ByteArray) (W W' b:Int) (Fl Fl':List ac_) (Gi Ta Gi' Ta':List ab_) (E2:List an_) (F2:List ac_) (G2 T2:List ab_) (hf:Fl.length≤1000) (hg:Gi.length≤1000) (ht:Ta.length≤1000):∀(t pre:List an_),(pre++t).length≤1000→(∀e∈t,VEnd e)→
    Wp (fun k=>dE_ k (pre.length:Int) K W (pre++t) Fl Fo Gi Ta a b c K' W' Fl' Fo' Gi' Ta' E2 F2 G2 T2 pre) (· =⟨K',W',pre++t,Fl,Fo',Gi,Ta⟩)
  | [],pre,hl,hv=>by
    refine Wp.step ?_
    simp only [dE_]
    simp only [List.append_nil] at hl⊢
    simp (disch:=omega) only [af_,if_neg]
    refine Wp.opt (ba_ (by simp;omega)) ?_
    refine Wp.opt (ba_ (by simp;omega)) ?_
    refine Wp.opt (ba_ (by simp;omega)) ?_
    exact Wp.ret (by simp)
  | e::t,pre,hl,hv=>by
    refine Wp.step ?_
    simp only [dE_]
    simp only [af_]
    simp only [List.length_append,List.length_cons] at hl
    refine Wp.ite (fun _=> ?_) (fun hx=>absurd (by simp;omega) hx)
    simp only [aA_,Option.bind_some]
    refine Wp.bind (fD_ e (hv e (by simp))) (fun _ e'=> ?_);have e'':=e'.symm;subst e''
    refine Wp.opt (ba_ (by simp;omega)) ?_
    rw [aM_ (n:=(pre.length:Int)+1) (by omega) (by omega)]
    have:=uD_ K Fo K' Fo' a c W W' b Fl Fl' Gi Ta Gi' Ta' E2 F2 G2 T2 hf hg ht t (pre++[e]) (by simp;omega) (fun x hx=>hv x (by simp [hx]))
    simpa using this
theorem nN_ (w:ae_) (h:bw_ w):Wp (fun k=>gr_ k w) (· =w):=by
  obtain ⟨K,W,Es,Fl,Fo,Gi,Ta⟩:=w
  have h5:=h.2.2.2.2.1
  have h4:=h.2.2.2.1
  have h3:=h.2.2.1
  dsimp only at h3 h4 h5
  obtain ⟨e,f,rfl,a1,_,a2,_⟩:=fG_ h5
  unfold gr_
  have:=uD_ K Fo K Fo noB noB W W 0 Fl Fl Gi Ta Gi Ta [] [] [] [] (by omega) (by omega) (by omega) [e,f] [] (by simp) (by simp [a1,a2])
  simpa using this
theorem up_ (w:ae_) (h:bw_ w):Wp (fun k=>dG_ k w) (· =w):=by
  obtain ⟨K,W,Es,Fl,Fo,Gi,Ta⟩:=w
  have h5:=h.2.2.2.2.1
  have h4:=h.2.2.2.1
  have h3:=h.2.2.1
  dsimp only at h3 h4 h5
  obtain ⟨e,f,rfl,a1,_,a2,_⟩:=fG_ h5
  unfold dG_
  refine Wp.opt (ba_ (by simp)) ?_
  refine Wp.step ?_
  simp only [bO_]
  simp only [List.nil_append,List.length_cons,List.length_nil,af_]
  refine Wp.ite (fun _=> ?_) (fun hx=>by omega)
  refine Wp.opt (x:=e) rfl ?_
  refine Wp.opt (x:=e) rfl ?_
  refine Wp.bind (eH_ e a1) (fun _ e'=> ?_);have e'':=e'.symm;subst e''
  refine Wp.opt (x:=e) rfl ?_
  refine Wp.opt (x:=e) rfl ?_
  rw [show IntKind.wrap .i64 (0+1)=1 by rfl]
  refine Wp.step ?_
  simp only [bO_,af_]
  refine Wp.ite (fun _=> ?_) (fun hx=>by omega)
  refine Wp.opt (x:=f) rfl ?_
  refine Wp.opt (x:=f) rfl ?_
  refine Wp.bind (eH_ f a2) (fun _ e'=> ?_);have e'':=e'.symm;subst e''
  refine Wp.opt (x:=f) rfl ?_
  refine Wp.opt (x:=f) rfl ?_
  rw [show IntKind.wrap .i64 (1+1)=2 by rfl]
  refine Wp.step ?_
  simp only [bO_,af_]
  refine Wp.ite (fun hx=>by omega) (fun _=> ?_)
  refine Wp.opt (ba_ (by simp;omega)) ?_
  refine Wp.opt (ba_ (by simp;omega)) ?_
  refine Wp.opt (ba_ (by simp;omega)) ?_
  exact Wp.ret (by rfl)
theorem Ab_ (w:ae_) (hb:w.Given.length≤1048576∧w.Taken.length≤1048576) (v:bu_):Wp (fun k=>mY_ k w v) (· =doM w v):=by
  unfold mY_ doM
  refine Wp.bind (nl_ w hb) (fun _ e=> ?_);subst e
  refine Wp.not (fun h=> ?_) (fun h=> ?_)
  ·exact Wp.ret (by rw [if_neg (of_decide_eq_false h)];rfl)
  ·have hv:=of_decide_eq_true h
   rw [if_pos hv]
   refine Wp.bind (nN_ w hv) (fun _ e=> ?_);have e'':=e.symm;subst e''
   refine Wp.bind (xW_ w hv v) (fun _ e=> ?_);subst e
   refine Wp.bind (nN_ _ (DQ_ hv v)) (fun _ e=> ?_);subst e
   exact Wp.ret rfl
end Km.X
namespace Km.X
open Go Km
set_option linter.unusedVariables false
theorem yZ_ {R:Type} (x:Option R):Km.both x x=x:=by unfold Km.both;rw [if_pos rfl]
theorem wb_ {e:an_} {t:ByteArray} (hc:(iX_ e t).Code=0):(iX_ e t).End.Life=e.Life∧(iX_ e t).End.Peer=e.Peer:=by
  unfold iX_ at hc⊢
  split
  ·rename_i h1;rw [if_pos h1] at hc
   split
   ·rename_i h2;rw [if_pos h2] at hc
    split
    ·rename_i h3;rw [if_pos h3] at hc;cases hc
    ·rename_i h3;rw [if_neg h3] at hc
     split
     ·exact ⟨rfl,rfl⟩
     ·rename_i h4;rw [if_neg h4] at hc;exact absurd hc h4
   ·rename_i h2;rw [if_neg h2] at hc;cases hc
  ·rename_i h1;rw [if_neg h1] at hc;cases hc
section
variable (K Fo t1 t2 Tx:ByteArray) (W z Kd A B C:Int) (Es:List an_) (Fl:List ac_) (Gi Ta:List ab_) (E2:List an_) (F2:List ac_) (G2 T2:List ab_)
theorem zN_ (h:bw_ ⟨K,W,Es,Fl,Fo,Gi,Ta⟩) (hk:Kd=2∨Kd=4):Wp (fun k=>gt_ k (decide (0≤A∧A<(Fl.length:Int))) Kd A B C Tx t1 z t2 K W Fo E2 F2 G2 T2 Es Fl Gi Ta) (· =doW ⟨K,W,Es,Fl,Fo,Gi,Ta⟩ ⟨Kd,A,B,C,Tx⟩):=by
  have h3:=h.2.2.1
  dsimp only at h3
  refine Wp.step ?_
  simp only [gt_]
  refine Wp.dec (fun hx=> ?_) (fun hx=> ?_)
  ·have hg:Fl[A.toNat]? =some (Fl[A.toNat]'(by omega)):=List.getElem?_eq_getElem (by omega)
   generalize Fl[A.toNat]'(by omega)=p at hg
   have hv:x8_ p:=h.2.2.2.2.2.1 p (List.mem_of_getElem? hg)
   have hix:idx Fl A=some p:=by have:=ju_ Fl A.toNat;rw [Int.toNat_of_nonneg hx.1] at this;rw [this,hg]
   simp only [hix,hg,Option.bind_some,if_true]
   refine Wp.opt (cY_ ⟨by omega,by omega,by omega⟩) ?_
   rw [aM_ (n:=A+1) (by omega) (by omega)]
   refine Wp.opt (cY_ ⟨by omega,by omega,by omega⟩) ?_
   dsimp only
   rw [show Int.toNat 0=0 from rfl,uU_,show Int.toNat (A+1)=A.toNat+1 by omega,Int.toNat_natCast,ve_]
   refine Wp.opt (ba_ (by simp;omega)) ?_
   rw [xr_ Fl A.toNat (by omega),wa_ (p:=p) (by dsimp only;omega) hx.1 hg]
   unfold iU_
   dsimp only
   simp only [ea_]
   refine Wp.ite (fun e=> ?_) (fun e=> ?_)
   ·rw [if_pos e]
    refine Wp.bind (tD_ ⟨K,W,Es,Fl.eraseIdx A.toNat,Fo,Gi,Ta⟩ (kN_ h (by have:=List.length_eraseIdx_le Fl A.toNat;omega) (vv_ h.2.2.2.2.2.1 _)) p hv.1 (by have:=hv.2.2;omega)) (fun r e'=> ?_)
    exact (ql_ ..).mono fun x hr=>by rw [hr,e'];rfl
   ·rw [if_neg e,if_neg (by omega),if_pos (by omega)]
    exact (ql_ ..).mono fun x hr=>by rw [hr];rfl
  ·exact (ql_ ..).mono fun x hr=>by rw [hr,kI_ (by dsimp only;omega) hx]
theorem CC_ (h:bw_ ⟨K,W,Es,Fl,Fo,Gi,Ta⟩) (hk:Kd≠1∧Kd≠2∧Kd≠4):Wp (fun k=>ig_ k (decide (1≤A∧A≤2)) (decide (0≤A∧A<(Fl.length:Int))) Kd Kd A B C Tx t1 z t2 K W Fo E2 F2 G2 T2 Es Fl Gi Ta) (· =doW ⟨K,W,Es,Fl,Fo,Gi,Ta⟩ ⟨Kd,A,B,C,Tx⟩):=by
  have h3:=h.2.2.1
  have h4:=h.2.2.2.1
  have h5:=h.2.2.2.2.1
  dsimp only at h3 h4 h5
  have none_ok:∀(Q:Prop),(1≤Kd→Kd≤11→(8≤Kd∧¬(1≤A∧A≤2))∨(Kd≤7∧¬(0≤A∧A<(Fl.length:Int))))→Wp (fun k=>au_ k t1 z t2 K W Fo E2 F2 G2 T2 Es Fl Gi Ta) (· =doW ⟨K,W,Es,Fl,Fo,Gi,Ta⟩ ⟨Kd,A,B,C,Tx⟩):=fun _ hq=>by
    refine (ql_ ..).mono fun x hr=> ?_
    rw [hr]
    by_cases h1:1≤Kd∧Kd≤11
    ·rcases hq h1.1 h1.2 with ⟨h8,hn⟩ | ⟨h7,hn⟩
     ·rw [oY_ (.inr ⟨h8,hn⟩)]
     ·rw [kI_ (by dsimp only;omega) hn]
    ·rw [oY_ (.inl h1)]
  have par:∀p,Fl[A.toNat]? =some p→idx Fl A=some p→2≤Kd∧Kd≤7→0≤A→∀y,iU_ ⟨K,W,Es,Fl,Fo,Gi,Ta⟩ ⟨Kd,A,B,C,Tx⟩ p=y→∀Fl',ry_ ⟨K,W,Es,Fl,Fo,Gi,Ta⟩ Fl'=y→Wp (fun k=>au_ k t1 z t2 K W Fo E2 F2 G2 T2 Es Fl' Gi Ta) (· =doW ⟨K,W,Es,Fl,Fo,Gi,Ta⟩ ⟨Kd,A,B,C,Tx⟩):=fun p hp hi hk2 h0 y hy Fl' hF=>by
    refine (ql_ ..).mono fun x hr=> ?_
    rw [hr,wa_ (p:=p) hk2 h0 hp,hy,←hF];rfl
  have hin:0≤A∧A<(Fl.length:Int)→∃p,Fl[A.toNat]? =some p∧idx Fl A=some p∧x8_ p:=fun hx=>by
    have hg:Fl[A.toNat]? =some (Fl[A.toNat]'(by omega)):=List.getElem?_eq_getElem (by omega)
    refine ⟨_,hg, ?_,h.2.2.2.2.2.1 _ (List.mem_of_getElem? hg)⟩
    have:=ju_ Fl A.toNat
    rw [Int.toNat_of_nonneg hx.1] at this;rw [this,hg]
  refine Wp.step ?_
  simp only [ig_,ea_]
  refine Wp.ite (fun e=> ?_) (fun e3=> ?_)
  ·refine Wp.dec (fun hx=> ?_) (fun hx=>none_ok True (by omega))
   obtain ⟨p,hp,hi,hv⟩:=hin hx
   refine Wp.dec (fun hl=> ?_) (fun hl=> ?_)
   ·simp only [hi,hp,Option.bind_some]
    refine Wp.opt (ba_ (by simp;omega)) ?_
    exact par p hp hi (by omega) hx.1 _ (by unfold iU_;dsimp only;rw [if_neg (by omega),if_pos e,if_pos (by omega)]) _ rfl
   ·exact par p hp hi (by omega) hx.1 _ (by unfold iU_;dsimp only;rw [if_neg (by omega),if_pos e,if_neg (by omega)];rfl) _ rfl
  refine Wp.ite (fun e=> ?_) (fun e5=> ?_)
  ·refine Wp.dec (fun hx=> ?_) (fun hx=>none_ok True (by omega))
   obtain ⟨p,hp,hi,hv⟩:=hin hx
   have u:¬((0≤B∧B<(p.Bytes.size:Int))∧0≤C)→iU_ ⟨K,W,Es,Fl,Fo,Gi,Ta⟩ ⟨Kd,A,B,C,Tx⟩ p=⟨K,W,Es,Fl,Fo,Gi,Ta⟩:=fun hn=>by
     unfold iU_;dsimp only;rw [if_neg (by omega),if_neg (by omega),if_neg (by omega),if_pos e,if_neg hn]
   refine Wp.dec (fun h1=> ?_) (fun h1=>par p hp hi (by omega) hx.1 _ (u (by omega)) _ rfl)
   refine Wp.dec (fun h2=> ?_) (fun h2=>par p hp hi (by omega) hx.1 _ (u (by omega)) _ rfl)
   simp only [hi,hp,Option.bind_some]
   refine Wp.dec (fun h3=> ?_) (fun h3=>par p hp hi (by omega) hx.1 _ (u (by omega)) _ rfl)
   obtain ⟨b1,b2⟩:=xi_ (s:=p.Bytes) (b:=B) ⟨h2,h3⟩
   simp only [b1,b2,Option.bind_some]
   refine Wp.opt (a2_ h1 (by omega)) ?_
   exact par p hp hi (by omega) hx.1 _ (by unfold iU_;dsimp only;rw [if_neg (by omega),if_neg (by omega),if_neg (by omega),if_pos e,if_pos ⟨⟨h2,h3⟩,h1⟩];rfl) _ rfl
  refine Wp.ite (fun e=> ?_) (fun e6=> ?_)
  ·refine Wp.dec (fun hx=> ?_) (fun hx=>none_ok True (by omega))
   obtain ⟨p,hp,hi,hv⟩:=hin hx
   have u:¬(0≤B∧B≤(p.Bytes.size:Int))→iU_ ⟨K,W,Es,Fl,Fo,Gi,Ta⟩ ⟨Kd,A,B,C,Tx⟩ p=⟨K,W,Es,Fl,Fo,Gi,Ta⟩:=fun hn=>by
     unfold iU_;dsimp only;rw [if_neg (by omega),if_neg (by omega),if_neg (by omega),if_neg (by omega),if_pos e,if_neg hn]
   refine Wp.dec (fun h1=> ?_) (fun h1=>par p hp hi (by omega) hx.1 _ (u (by omega)) _ rfl)
   simp only [hi,hp,Option.bind_some]
   refine Wp.dec (fun h2=> ?_) (fun h2=>par p hp hi (by omega) hx.1 _ (u (by omega)) _ rfl)
   refine Wp.opt (cY_ ⟨by omega,h1,h2⟩) ?_
   exact par p hp hi (by omega) hx.1 _ (by unfold iU_;dsimp only;rw [if_neg (by omega),if_neg (by omega),if_neg (by omega),if_neg (by omega),if_pos e,if_pos ⟨h1,h2⟩];rfl) _ rfl
  refine Wp.ite (fun e=> ?_) (fun e7=> ?_)
  ·refine Wp.dec (fun hx=> ?_) (fun hx=>none_ok True (by omega))
   obtain ⟨p,hp,hi,hv⟩:=hin hx
   simp only [hi,hp,Option.bind_some]
   have:=hv.1
   rw [aM_ (n:=3-p.To) (by omega) (by omega)]
   exact par p hp hi (by omega) hx.1 _ (by unfold iU_;dsimp only;rw [if_neg (by omega),if_neg (by omega),if_neg (by omega),if_neg (by omega),if_neg (by omega)]) _ rfl
  have en:(8≤Kd∧Kd≤11)→(1≤A∧A≤2)→∀y:ae_,oP_ ⟨K,W,Es,Fl,Fo,Gi,Ta⟩ ⟨Kd,A,B,C,Tx⟩=y→Wp (fun k=>au_ k t1 z t2 y.Key y.Width y.Forged E2 F2 G2 T2 y.Ends y.Flight y.Given y.Taken) (· =doW ⟨K,W,Es,Fl,Fo,Gi,Ta⟩ ⟨Kd,A,B,C,Tx⟩):=fun hk2 hn y hy=>by
    refine (ql_ ..).mono fun x hr=> ?_
    rw [hr,y3_ hk2 hn,hy]
  refine Wp.ite (fun e=> ?_) (fun e8=> ?_)
  ·refine Wp.dec (fun hx=> ?_) (fun hx=>none_ok True (by omega))
   obtain ⟨a1,a2,a3⟩:=kO_ h5 hx
   simp only [a1,a2,a3,Option.bind_some]
   refine Wp.bind (vs_ _) (fun r e'=> ?_)
   exact en (by omega) hx ⟨K,W,n2_ A r Es,Fl,Fo,Gi,Ta⟩ (by unfold oP_;dsimp only;rw [if_pos e,e'];rfl)
  refine Wp.ite (fun e=> ?_) (fun e9=> ?_)
  ·refine Wp.dec (fun hx=> ?_) (fun hx=>none_ok True (by omega))
   obtain ⟨a1,a2,a3⟩:=kO_ h5 hx
   simp only [a1,a2,a3,Option.bind_some]
   refine Wp.bind (wh_ _) (fun r e'=> ?_)
   exact en (by omega) hx ⟨K,W,n2_ A r Es,Fl,Fo,Gi,Ta⟩ (by unfold oP_;dsimp only;rw [if_neg e8,if_pos e,e'];rfl)
  refine Wp.ite (fun e=> ?_) (fun e10=> ?_)
  ·refine Wp.dec (fun hx=> ?_) (fun hx=>none_ok True (by omega))
   obtain ⟨a1,a2,a3⟩:=kO_ h5 hx
   have pu:∀y,tf_ ⟨K,W,Es,Fl,Fo,Gi,Ta⟩ A Tx=y→oP_ ⟨K,W,Es,Fl,Fo,Gi,Ta⟩ ⟨Kd,A,B,C,Tx⟩=y:=fun y hy=>by
     unfold oP_;dsimp only;rw [if_neg e8,if_neg e9,if_pos e];exact hy
   unfold dU_
   simp only [Option.bind_some,yZ_,xe_ h4]
   refine Wp.not (fun hc=> ?_) (fun hc=> ?_)
   ·have hc:=of_decide_eq_false hc
    simp only [a1,a2,a3,Option.bind_some]
    refine Wp.bind (tZ_ _ _) (fun r e'=> ?_);subst e'
    refine Wp.ite (fun h0=> ?_) (fun h0=> ?_)
    ·refine Wp.opt (ba_ (by simp;omega)) ?_
     obtain ⟨l1,l2⟩:=wb_ h0
     rw [l1,l2]
     exact en (by omega) hx ⟨K,W,n2_ A (iX_ (fJ_ A Es) Tx).End Es,Fl,Fo,Gi++[⟨A,(fJ_ A Es).Life,(fJ_ A Es).Peer,Tx⟩],Ta⟩ (pu _ (by unfold tf_;dsimp only;rw [if_pos ⟨by omega,h0⟩]))
    ·exact en (by omega) hx ⟨K,W,Es,Fl,Fo,Gi,Ta⟩ (pu _ (by unfold tf_;dsimp only;rw [if_neg (fun g=>h0 g.2)]))
   ·have hc:=of_decide_eq_true hc
    exact en (by omega) hx ⟨K,W,Es,Fl,Fo,Gi,Ta⟩ (pu _ (by unfold tf_;dsimp only;rw [if_neg (fun g=>by omega)]))
  refine Wp.ite (fun e=> ?_) (fun e11=>none_ok True (by omega))
  refine Wp.dec (fun hx=> ?_) (fun hx=>none_ok True (by omega))
  refine Wp.bind (tK_ ⟨K,W,Es,Fl,Fo,Gi,Ta⟩ h A hx) (fun r e'=> ?_)
  exact en (by omega) hx r (by unfold oP_;dsimp only;rw [if_neg e8,if_neg e9,if_neg e10,e'])
theorem Bm_ (h:bw_ ⟨K,W,Es,Fl,Fo,Gi,Ta⟩):Wp (fun k=>hx_ k (decide (1≤A∧A≤2)) (decide (0≤A∧A<(Fl.length:Int))) Kd A B C Tx t1 z t2 K W Fo E2 F2 G2 T2 Es Fl Gi Ta) (· =doW ⟨K,W,Es,Fl,Fo,Gi,Ta⟩ ⟨Kd,A,B,C,Tx⟩):=by
  refine Wp.step ?_
  simp only [hx_,ea_]
  refine Wp.ite (fun e=> ?_) (fun e1=> ?_)
  ·refine Wp.bind (vp_ ⟨K,W,Es,Fl,Fo,Gi,Ta⟩ h) (fun r e'=> ?_)
   exact (ql_ ..).mono fun x hr=>by rw [hr,e'];unfold doW;rw [if_pos e]
  refine Wp.ite (fun e=>zN_ _ _ _ _ _ _ _ _ _ _ _ _ _ _ _ _ _ _ _ h (.inl e)) (fun e2=> ?_)
  refine Wp.ite (fun e=>zN_ _ _ _ _ _ _ _ _ _ _ _ _ _ _ _ _ _ _ _ h (.inr e)) (fun e4=> ?_)
  exact CC_ _ _ _ _ _ _ _ _ _ _ _ _ _ _ _ _ _ _ _ h ⟨e1,e2,e4⟩
theorem Bo_ (h:bw_ ⟨K,W,Es,Fl,Fo,Gi,Ta⟩):Wp (fun k=>ht_ k (decide (1≤A∧A≤2)) Kd A B C Tx t1 z t2 K W Fo E2 F2 G2 T2 Es Fl Gi Ta) (· =doW ⟨K,W,Es,Fl,Fo,Gi,Ta⟩ ⟨Kd,A,B,C,Tx⟩):=by
  refine Wp.step ?_
  simp only [ht_]
  refine Wp.dec (fun hx=> ?_) (fun hx=> ?_)
  ·have:=Bm_ K Fo t1 t2 Tx W z Kd A B C Es Fl Gi Ta E2 F2 G2 T2 h
   rw [show decide (0≤A∧A<(Fl.length:Int))=decide (A<(Fl.length:Int)) from decide_eq_decide.mpr ⟨fun g=>g.2,fun g=>⟨hx,g⟩⟩] at this
   exact this
  ·have:=Bm_ K Fo t1 t2 Tx W z Kd A B C Es Fl Gi Ta E2 F2 G2 T2 h
   rw [show decide (0≤A∧A<(Fl.length:Int))=false from decide_eq_false (fun g=>hx g.1)] at this
   exact this
end
theorem Ah_ (w:ae_) (hb:w.Given.length≤1048576∧w.Taken.length≤1048576) (v:bu_):Wp (fun k=>bI_ k w v) (· =doM w v):=by
  unfold bI_ doM
  refine Wp.bind (mU_ w hb) (fun _ e=> ?_);subst e
  refine Wp.not (fun h=> ?_) (fun h=> ?_)
  ·exact Wp.ret (by rw [if_neg (of_decide_eq_false h)];rfl)
  ·have hv:=of_decide_eq_true h
   rw [if_pos hv]
   refine Wp.bind (up_ w hv) (fun _ e=> ?_);have e'':=e.symm;subst e''
   simp only [ea_]
   refine Wp.ite (fun e=> ?_) (fun e=> ?_)
   ·have:=Bo_ w.Key w.Forged noB noB v.Text w.Width 0 v.Kind v.A v.B v.C w.Ends w.Flight w.Given w.Taken [] [] [] [] hv
    rw [show decide (1≤v.A∧v.A≤2)=true from decide_eq_true (by omega)] at this
    exact this
   ·have:=Bo_ w.Key w.Forged noB noB v.Text w.Width 0 v.Kind v.A v.B v.C w.Ends w.Flight w.Given w.Taken [] [] [] [] hv
    rw [show decide (1≤v.A∧v.A≤2)=(v.A==2) by rw [Bool.eq_iff_iff];simp;omega] at this
    exact this
end Km.X
namespace Km.X
open Go Km
set_option linter.unusedVariables false
set_option linter.unusedSimpArgs false
theorem v1_ {x y:vY_}:qE_ x y=true↔x=y:=⟨r6_,fun h=>by subst h;simp [qE_]⟩
instance:DecidableEq vY_:=fun x y=>decidable_of_iff _ v1_
def mget {β:Type} (key:vY_):List (vY_×β)→Option β
  | []=>none
  | (a,b)::l=>if a=key then some b else mget key l
end Km.X
namespace Km.X
open Go Km
set_option linter.unusedVariables false
set_option linter.unusedSimpArgs false
theorem Wp.optK {α R:Type} {o:Option α} {A:Nat→Option R} {B:Nat→α→Option R} {Q:R→Prop} (h0:o=none→Wp A Q) (h1:∀p,o=some p→Wp (fun k=>B k p) Q):Wp (fun k=>Km.optK o (A k) (B k)) Q:=by
  cases o with
  | none=>exact h0 rfl
  | some p=>exact h1 p rfl
end Km.X
namespace Km.X
open Go Km
set_option linter.unusedVariables false
set_option linter.unusedSimpArgs false
theorem ye_ {x y:C9_}:uQ_ x y=true↔x=y:=⟨u3_,fun h=>by subst h;simp [uQ_]⟩
instance:DecidableEq C9_:=fun x y=>decidable_of_iff _ ye_
def pk (p:ac_):C9_:=⟨p.To,p.Bytes⟩
section
variable (a b:ByteArray) (z:Int) (E2:List an_) (F2:List ac_) (G2 T2:List ab_) (Q:ae_→Prop) (r ev:Int)
end
end Km.X
namespace Km.X
open Go Km
set_option linter.unusedVariables false
set_option linter.unusedSimpArgs false
theorem set_mid {α:Type} (pre t:List α) (y y':α):(pre++y::t).set pre.length y'=pre++y'::t:=by simp
section
variable (a b:ByteArray) (z:Int) (E2:List an_) (F2:List ac_) (G2 T2:List ab_) (Q:ae_→Prop) (r ev i:Int)
end
end Km.X
namespace Km.X
open Go Km
set_option linter.unusedVariables false
set_option linter.unusedSimpArgs false
def FoB (w:ae_):Prop:=w.Forged.size≤1048576
theorem FD_ {w:ae_} (h:bw_ w) (hf:FoB w):fK_ w:=by
  obtain ⟨_,h2,h3,h4,h5,h6,h7,h8⟩:=h
  obtain ⟨e,f,he,a1,_,a2,_⟩:=fG_ h5
  refine ⟨by omega,⟨by rw [he];simp,fun y hy=> ?_⟩,⟨by omega,fun y hy=> ?_⟩,hf,⟨by omega,fun y hy=> ?_⟩,⟨by omega,fun y hy=> ?_⟩⟩
  ·rw [he] at hy
   simp only [List.mem_cons,List.not_mem_nil,or_false] at hy
   rcases hy with rfl | rfl
   ·exact a1.sm
   ·exact a2.sm
  ·have:=(h6 y hy).2;exact ⟨by have:=this.1;omega,by have:=this.2;omega⟩
  ·have:=(h7 y hy).2.2.2;show y.Text.size≤_;omega
  ·have:=(h8 y hy).2.2.2;show y.Text.size≤_;omega
theorem DX_:fK_ jp_:=⟨by simp [jp_,fm_],⟨by simp [jp_],fun y hy=>by cases hy⟩,⟨by simp [jp_],fun y hy=>by cases hy⟩,by simp [jp_,fm_],⟨by simp [jp_],fun y hy=>by cases hy⟩,⟨by simp [jp_],fun y hy=>by cases hy⟩⟩
theorem As_ {w:ae_} {p:ac_} (h:FoB w) (hp:x8_ p):FoB (lA_ w p):=by
  unfold lA_
  split
  ·show ByteArray.size (if _ then _ else _)≤_
   split
   ·have:=hp.2.2;omega
   ·exact h
  ·exact h
theorem Ew_ {w:ae_} (hV:bw_ w) (h:FoB w) (v:bu_):FoB (doW w v):=by
  unfold doW
  split
  ·exact h
  ·split
   ·split
    ·split
     ·rename_i p hp
      have hpv:x8_ p:=hV.2.2.2.2.2.1 p (List.mem_of_getElem? hp)
      unfold iU_
      split
      ·exact As_ h hpv
      ·split
       ·split<;>exact h
       ·split
        ·exact h
        ·split
         ·split<;>exact h
         ·split
          ·split<;>exact h
          ·exact h
     ·exact h
    ·exact h
   ·split
    ·unfold oP_
     split
     ·exact h
     ·split
      ·exact h
      ·split
       ·unfold tf_;split<;>exact h
       ·unfold vV_;split<;>exact h
    ·exact h
theorem B1_ {w:ae_} (hs:fK_ w) (v:bu_):fK_ (doM w v):=by
  unfold doM
  split
  ·rename_i hV;exact FD_ (DQ_ hV v) (Ew_ hV hs.2.2.2.1 v)
  ·exact DX_
theorem C4_ {w:ae_} (h:fK_ w):w.Given.length≤1048576∧w.Taken.length≤1048576:=⟨h.2.2.2.2.1.1,h.2.2.2.2.2.1⟩
end Km.X
namespace Km.X
open Go Km
set_option linter.unusedVariables false
set_option linter.unusedSimpArgs false
theorem Wp.both2 {R:Type} {f g:Nat→Option R} {v:R} (h:Wp f (· =v)) (h':Wp g (· =v)):Wp (fun k=>Km.both (f k) (g k)) (· =v):=by
  obtain ⟨x,rfl,N,hN⟩:=h
  obtain ⟨y,rfl,M,hM⟩:=h'
  refine ⟨y,rfl,max N M,fun k hk=> ?_⟩
  show Km.both (f k) (g k)=some y
  rw [hN k (by omega),hM k (by omega)]
  unfold Km.both
  rw [if_pos rfl]
theorem v5_ (v:bu_) (r:Int):Wp (fun k=>gG_ k v r) (fun _=>True):=by
  unfold gG_
  exact Wp.dec (fun _=>Wp.ret trivial) (fun _=>Wp.ret trivial)
theorem exact_FnExactDo (x:ae_) (v:bu_) (hw:tv_ x) (h1:sV_ v):∃k,hl_ k x v=some true:=by
  refine Wp.exists ?_
  unfold hl_
  refine Wp.bind (yw_ x hw 1048576 (by omega)) (fun r hr=> ?_)
  refine Wp.dec (fun _=>Wp.ret rfl) (fun hs=> ?_)
  have hx:=hr.2 (by omega)
  have hb:=C4_ hx
  have ho:=B1_ hx v
  refine Wp.bind (v5_ v r) (fun r2 _=> ?_)
  refine Wp.dec (fun _=>Wp.ret rfl) (fun hs2=> ?_)
  have tw:=yo_ x hx
  have te:Wp (fun k=>ax_ k v) (· =v):=Wp.ret rfl
  have sd:=Ab_ x hb v
  have di:=Ah_ x hb v
  have eo:=sB_ _ ho
  have ex:=sB_ _ hx
  repeat' first
    | exact Wp.ret rfl
    | refine Wp.both2 ?_ ?_
    | (refine Wp.bind tw (fun z e=> ?_);replace e:z=x:=e;rw [e];clear e z)
    | (refine Wp.bind te (fun z e=> ?_);replace e:z=v:=e;rw [e];clear e z)
    | (refine Wp.bind sd (fun z e=> ?_);replace e:z=doM x v:=e;rw [e];clear e z)
    | (refine Wp.bind di (fun z e=> ?_);replace e:z=doM x v:=e;rw [e];clear e z)
    | (refine Wp.bind eo (fun z e=> ?_);replace e:z=true:=e;rw [e];clear e z;simp only [Bool.not_true,cond_false])
    | (refine Wp.bind ex (fun z e=> ?_);replace e:z=true:=e;rw [e];clear e z;simp only [Bool.not_true,cond_false])
    | (refine Wp.bind (nR_ hx) (fun a ha=> ?_);have ha0:=ha.1;clear ha;refine Wp.dec (fun g=>by omega) (fun _=> ?_))
    | (refine Wp.bind (nR_ ho) (fun b hb'=> ?_))
    | (refine Wp.bind (hb'.2 _ _ _) (fun z e=> ?_);replace e:z=b.1:=e;rw [e];clear e z;refine Wp.dec (fun g=>by have:=hb'.1;omega) (fun _=> ?_);simp only [d8_,if_true])
end Km.X
