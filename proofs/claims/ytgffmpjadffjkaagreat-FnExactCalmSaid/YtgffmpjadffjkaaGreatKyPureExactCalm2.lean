/- A part of the proof of FnExactCalm: plain laws of these functions. There is no condition. -/
import Derived.Test.YtgffmpjadffjkaaGreatKyPureExactCalm1
import Derived.Test.YtgffmpjadffjkaaGreatKxDef2
namespace Km.X
open Go Km
set_option linter.unusedVariables false
set_option linter.unusedSimpArgs false
def CB_ (r:ab_):Prop:=(1≤r.From∧r.From≤2)∧(1≤r.A∧r.A≤1000)∧(1≤r.B∧r.B≤1000)∧r.Text.size≤200
instance (r:ab_):Decidable (CB_ r):=by unfold CB_;infer_instance
def fV_ (l:List ab_):Prop:=∀r∈l,CB_ r
instance (l:List ab_):Decidable (fV_ l):=by unfold fV_;infer_instance
def A8_ (p:ac_):Prop:=(1≤p.To∧p.To≤2)∧p.Sent.size≤100∧p.Bytes.size≤100
instance (p:ac_):Decidable (A8_ p):=by unfold A8_;infer_instance
def kH_ (l:List ac_):Prop:=∀p∈l,A8_ p
instance (l:List ac_):Decidable (kH_ l):=by unfold kH_;infer_instance
def ox_:List ao_→Prop
  | [a,b]=>(VEnd a∧a.Number=1)∧(VEnd b∧b.Number=2)
  | _=>False
instance:(l:List ao_)→Decidable (ox_ l)
  | [a,b]=>by unfold ox_;infer_instance
  | []=> .isFalse id
  | [_]=> .isFalse id
  | _::_::_::_=> .isFalse id
def aV_ (w:ae_):Prop:=(1≤w.Width∧w.Width≤8)∧w.Key.size≤30∧w.Flight.length≤1000∧w.Given.length+w.Taken.length≤400∧ox_ w.Ends∧kH_ w.Flight∧fV_ w.Given∧fV_ w.Taken
instance (w:ae_):Decidable (aV_ w):=by unfold aV_;infer_instance
theorem u3_:∀{l:List ao_},ox_ l→l.length=2
  | [a,b],_=>rfl
theorem all_cons {α:Type} {P:α→Prop} {x:α} {t:List α}:(∀y∈x::t,P y)↔P x∧∀y∈t,P y:=by simp
theorem tD_:∀(t pre:List ab_),(pre++t).length≤1000→Wp (fun k=>bF_ k (pre++t) (pre.length:Int)) (· =decide (fV_ t))
  | [],pre,hl=>by
    refine Wp.step ?_
    simp only [bF_,List.append_nil]
    simp (disch:=omega) only [af_,if_neg]
    exact Wp.ret (decide_eq_true fun x hx=>by simp at hx).symm
  | x::t,pre,hl=>by
    refine Wp.step ?_
    have hl':=hl
    simp only [List.length_append,List.length_cons] at hl
    simp only [bF_]
    simp only [af_,a0_,if_true,av_,Option.bind_some,aD_]
    have F:¬CB_ x→Wp (fun _=>some false) (· =decide (fV_ (x::t))):=fun h=>Wp.ret (decide_eq_false fun g=>h (g x (List.mem_cons_self ..))).symm
    refine Wp.bind (cU_ _ _ _) (fun _ q=> ?_);subst q
    simp only [inB,af_]
    refine Wp.ite (fun h1=> ?_) (fun h1=>F fun g=>h1 g.1)
    refine Wp.bind (cU_ _ _ _) (fun _ q=> ?_);subst q
    simp only [inB,af_]
    refine Wp.ite (fun h2=> ?_) (fun h2=>F fun g=>h2 g.2.1)
    refine Wp.bind (cU_ _ _ _) (fun _ q=> ?_);subst q
    simp only [inB,af_]
    refine Wp.ite (fun h3=> ?_) (fun h3=>F fun g=>h3 g.2.2.1)
    refine Wp.ite (fun h4=>F fun g=>by have:=g.2.2.2;omega) (fun h4=> ?_)
    simp (disch:=omega) only [aF_]
    have ih:=tD_ t (pre++[x]) (by simpa using hl')
    rw [←aE_,←aR_] at ih
    refine ih.mono fun v hv=> ?_
    rw [hv,decide_eq_decide]
    exact ⟨fun g=>all_cons.mpr ⟨⟨h1,h2,h3,by omega⟩,g⟩,fun g=>(all_cons.mp g).2⟩
theorem pq_ (l:List ab_) (h:l.length≤1000):Wp (fun k=>eu_ k l) (· =decide (fV_ l)):=tD_ l [] (by simpa using h)
theorem wV_ (kk:ByteArray) (wd:Int) (es:List ao_) (fo:ByteArray) (gi ta:List ab_) (hg:gi.length≤1000) (ht:ta.length≤1000):∀(t pre:List ac_),(pre++t).length≤1000→
    Wp (fun k=>bW_ k (pre.length:Int) kk wd es (pre++t) fo gi ta) (· =decide (kH_ t∧fV_ gi∧fV_ ta))
  | [],pre,hl=>by
    refine Wp.step ?_
    simp only [bW_,List.append_nil]
    simp (disch:=omega) only [af_,if_neg]
    refine Wp.bind (pq_ gi hg) (fun _ q=> ?_);subst q
    simp only [af_]
    refine Wp.ite (fun h1=> ?_) (fun h1=>Wp.ret (decide_eq_false fun g=>h1 g.2.1).symm)
    refine Wp.bind (pq_ ta ht) (fun _ q=> ?_);subst q
    refine Wp.ret ?_
    rw [decide_eq_decide]
    exact ⟨fun g=>⟨fun x hx=>by simp at hx,h1,g⟩,fun g=>g.2.2⟩
  | x::t,pre,hl=>by
    refine Wp.step ?_
    have hl':=hl
    simp only [List.length_append,List.length_cons] at hl
    simp only [bW_]
    simp only [af_,a0_,if_true,av_,Option.bind_some,aD_]
    have F:¬A8_ x→Wp (fun _=>some false) (· =decide (kH_ (x::t)∧fV_ gi∧fV_ ta)):=fun h=>Wp.ret (decide_eq_false fun g=>h (g.1 x (List.mem_cons_self ..))).symm
    refine Wp.bind (cU_ _ _ _) (fun _ q=> ?_);subst q
    simp only [inB,af_]
    refine Wp.ite (fun h1=> ?_) (fun h1=>F fun g=>h1 g.1)
    refine Wp.ite (fun h2=>F fun g=>by have:=g.2.1;omega) (fun h2=> ?_)
    refine Wp.ite (fun h3=>F fun g=>by have:=g.2.2;omega) (fun h3=> ?_)
    simp (disch:=omega) only [aF_]
    have ih:=wV_ kk wd es fo gi ta hg ht t (pre++[x]) (by simpa using hl')
    rw [←aE_,←aR_] at ih
    refine ih.mono fun v hv=> ?_
    rw [hv,decide_eq_decide]
    exact ⟨fun g=>⟨all_cons.mpr ⟨⟨h1,by omega,by omega⟩,g.1⟩,g.2⟩,fun g=>⟨(all_cons.mp g.1).2,g.2⟩⟩
theorem mY_ (w:ae_) (hb:w.Given.length≤1048576∧w.Taken.length≤1048576):Wp (fun k=>eO_ k w) (· =decide (aV_ w)):=by
  unfold eO_
  have F:¬aV_ w→Wp (fun _=>some false) (· =decide (aV_ w)):=fun h=>Wp.ret (decide_eq_false h).symm
  refine Wp.bind (cU_ _ _ _) (fun _ q=> ?_);subst q
  simp only [inB,af_,aD_,d4_]
  refine Wp.ite (fun h1=> ?_) (fun h1=>F fun g=>h1 g.1)
  refine Wp.ite (fun h2=>F fun g=>by have:=g.2.1;omega) (fun h2=> ?_)
  refine Wp.ite (fun h3=> ?_) (fun h3=>F fun g=>by have:=u3_ g.2.2.2.2.1;omega)
  refine Wp.ite (fun h4=>F fun g=>by have:=g.2.2.1;omega) (fun h4=> ?_)
  simp (disch:=omega) only [aF_]
  refine Wp.ite (fun h5=>F fun g=>by have:=g.2.2.2.1;omega) (fun h5=> ?_)
  obtain ⟨ky,wd,es,fl,fo,gi,ta⟩:=w
  match es,h3 with
  | [a,b],_=>
    refine Wp.step ?_
    have e0:idx [a,b] 0=some a:=rfl
    have e1:idx [a,b] 1=some b:=rfl
    have w1:IntKind.wrap .i64 (0+1)=1:=aF_ (by omega) (by omega)
    have w2:IntKind.wrap .i64 (1+1)=2:=aF_ (by omega) (by omega)
    have d0:(0:Int)<2:=by omega
    have d1:(1:Int)<2:=by omega
    have d2:¬(2:Int)<2:=by omega
    simp only [bU_,e0,w1,af_,Option.bind_some,if_pos d0,d4_]
    refine Wp.bind (bQ_ _) (fun _ q=> ?_);subst q
    simp only [af_,aD_]
    refine Wp.ite (fun h6=> ?_) (fun h6=>F fun g=>h6 g.2.2.2.2.1.1.1)
    refine Wp.ite (fun h7=> ?_) (fun h7=>F fun g=>h7 g.2.2.2.2.1.1.2)
    refine Wp.step ?_
    simp only [bU_,e1,w2,af_,Option.bind_some,if_pos d1,d4_]
    refine Wp.bind (bQ_ _) (fun _ q=> ?_);subst q
    simp only [af_,aD_]
    refine Wp.ite (fun h8=> ?_) (fun h8=>F fun g=>h8 g.2.2.2.2.1.2.1)
    refine Wp.ite (fun h9=> ?_) (fun h9=>F fun g=>h9 g.2.2.2.2.1.2.2)
    refine Wp.step ?_
    simp only [bU_,af_,if_neg d2]
    simp only at h2 h4 h5 hb
    refine Wp.mono (wV_ ky wd [a,b] fo gi ta (by omega) (by omega) fl [] (by show fl.length≤1000;omega)) fun v hv=> ?_
    rw [hv,decide_eq_decide]
    exact ⟨fun g=>⟨h1,by simp only;omega,by simp only;omega,by simp only;omega,⟨⟨h6,h7⟩,⟨h8,h9⟩⟩,g⟩,fun g=>g.2.2.2.2.2⟩
theorem o4_ (n j:Int) (xx:List (List ab_)) (R:Prop) [Decidable R] (hR:Wp (fun k=>a1_ k n (IntKind.wrap .i64 (j+1)) xx) (· =decide R)):∀(t pre:List ab_),(pre++t).length≤1000→
    Wp (fun k=>a2_ k n j (pre++t) ((pre++t).length:Int) (pre.length:Int) xx) (· =decide (fV_ t∧R))
  | [],pre,hl=>by
    refine Wp.step ?_
    simp only [a2_,List.append_nil]
    simp (disch:=omega) only [af_,if_neg]
    refine hR.mono fun v hv=> ?_
    rw [hv,decide_eq_decide]
    exact ⟨fun g=>⟨fun x hx=>by simp at hx,g⟩,fun g=>g.2⟩
  | x::t,pre,hl=>by
    refine Wp.step ?_
    have hl':=hl
    simp only [List.length_append,List.length_cons] at hl
    simp only [a2_]
    simp only [af_,a0_,if_true,av_,Option.bind_some,aD_,d4_]
    simp (disch:=omega) only [aF_]
    have F:¬CB_ x→Wp (fun _=>some false) (· =decide (fV_ (x::t)∧R)):=fun h=>Wp.ret (decide_eq_false fun g=>h (g.1 x (List.mem_cons_self ..))).symm
    have ih:=o4_ n j xx R hR t (pre++[x]) (by simpa using hl')
    rw [←aE_,←aR_] at ih
    have M:(1≤x.From∧x.From≤2)→Wp (fun k=>(aQ_ k x.A 1 1000).bind fun r8=>
     bif r8 then (aQ_ k x.B 1 1000).bind fun r9=>bif r9 then (if (x.Text.size:Int)>200 then some false else a2_ k n j (pre++x::t) ((pre++x::t).length:Int) ((pre.length:Int)+1) xx) else some false else some false) (· =decide (fV_ (x::t)∧R)):=fun h1=>by
      refine Wp.bind (md_ _ _ _) (fun _ q=> ?_);subst q
      simp only [inB,af_]
      refine Wp.ite (fun h2=> ?_) (fun h2=>F fun g=>h2 g.2.1)
      refine Wp.bind (md_ _ _ _) (fun _ q=> ?_);subst q
      simp only [inB,af_]
      refine Wp.ite (fun h3=> ?_) (fun h3=>F fun g=>h3 g.2.2.1)
      refine Wp.ite (fun h4=>F fun g=>by have:=g.2.2.2;omega) (fun h4=> ?_)
      refine ih.mono fun v hv=> ?_
      rw [hv,decide_eq_decide]
      exact ⟨fun g=>⟨all_cons.mpr ⟨⟨h1,h2,h3,by omega⟩,g.1⟩,g.2⟩,fun g=>⟨(all_cons.mp g.1).2,g.2⟩⟩
    refine Wp.ite (fun h=>M (by omega)) (fun h=> ?_)
    exact Wp.ite (fun h2=>M (by omega)) (fun h2=>F fun g=>by have:=g.1;omega)
theorem xF_ (gi ta:List ab_) (hg:gi.length≤1000) (ht:ta.length≤1000):Wp (fun k=>a1_ k (([gi,ta]:List (List ab_)).length:Int) 0 [gi,ta]) (· =decide (fV_ gi∧fV_ ta)):=by
  have e0:idx [gi,ta] 0=some gi:=rfl
  have e1:idx [gi,ta] 1=some ta:=rfl
  have w1:IntKind.wrap .i64 (0+1)=1:=aF_ (by omega) (by omega)
  have w2:IntKind.wrap .i64 (1+1)=2:=aF_ (by omega) (by omega)
  have d0:(0:Int)<2:=by omega
  have d1:(1:Int)<2:=by omega
  have d2:¬(2:Int)<2:=by omega
  have l2:(([gi,ta]:List (List ab_)).length:Int)=2:=rfl
  rw [l2]
  have g0:[gi,ta][Int.toNat 0]? =some gi:=rfl
  have g1:[gi,ta][Int.toNat 1]? =some ta:=rfl
  refine Wp.step ?_
  simp only [a1_,e0,g0,af_,if_pos d0,Option.bind_some]
  refine o4_ 2 0 [gi,ta] (fV_ ta) ?_ gi [] (by simpa using hg)
  rw [w1]
  refine Wp.step ?_
  simp only [a1_,e1,g1,af_,if_pos d1,Option.bind_some]
  refine (o4_ 2 1 [gi,ta] True ?_ ta [] (by simpa using ht)).mono fun v hv=> ?_
  ·rw [w2]
   refine Wp.step ?_
   simp only [a1_,af_,if_neg d2]
   exact Wp.ret rfl
  ·rw [hv,decide_eq_decide];exact ⟨fun g=>g.1,fun g=>⟨g,trivial⟩⟩
theorem w3_ (kk:ByteArray) (wd:Int) (es:List ao_) (ff:List ac_) (fo:ByteArray) (gi ta:List ab_) (hg:gi.length≤1000) (ht:ta.length≤1000):∀(t pre:List ac_),(pre++t).length≤1000→
    Wp (fun k=>aY_ k (pre++t) ((pre++t).length:Int) (pre.length:Int) kk wd es ff fo gi ta) (· =decide (kH_ t∧fV_ gi∧fV_ ta))
  | [],pre,hl=>by
    refine Wp.step ?_
    simp only [aY_,List.append_nil]
    have hn:¬(pre.length:Int)<(pre.length:Int):=by omega
    simp only [af_,if_neg hn]
    refine (xF_ gi ta hg ht).mono fun v hv=> ?_
    rw [hv,decide_eq_decide]
    exact ⟨fun g=>⟨fun x hx=>by simp at hx,g⟩,fun g=>g.2⟩
  | x::t,pre,hl=>by
    refine Wp.step ?_
    have hl':=hl
    simp only [List.length_append,List.length_cons] at hl
    simp only [aY_]
    simp only [af_,a0_,if_true,av_,Option.bind_some,aD_,d4_]
    simp (disch:=omega) only [aF_]
    have F:¬A8_ x→Wp (fun _=>some false) (· =decide (kH_ (x::t)∧fV_ gi∧fV_ ta)):=fun h=>Wp.ret (decide_eq_false fun g=>h (g.1 x (List.mem_cons_self ..))).symm
    have ih:=w3_ kk wd es ff fo gi ta hg ht t (pre++[x]) (by simpa using hl')
    rw [←aE_,←aR_] at ih
    have M:(1≤x.To∧x.To≤2)→Wp (fun k=>if (x.Sent.size:Int)>100 then some false else if (x.Bytes.size:Int)>100 then some false else aY_ k (pre++x::t) ((pre++x::t).length:Int) ((pre.length:Int)+1) kk wd es ff fo gi ta) (· =decide (kH_ (x::t)∧fV_ gi∧fV_ ta)):=fun h1=>by
      refine Wp.ite (fun h2=>F fun g=>by have:=g.2.1;omega) (fun h2=> ?_)
      refine Wp.ite (fun h3=>F fun g=>by have:=g.2.2;omega) (fun h3=> ?_)
      refine ih.mono fun v hv=> ?_
      rw [hv,decide_eq_decide]
      exact ⟨fun g=>⟨all_cons.mpr ⟨⟨h1,by omega,by omega⟩,g.1⟩,g.2⟩,fun g=>⟨(all_cons.mp g.1).2,g.2⟩⟩
    refine Wp.ite (fun h=>M (by omega)) (fun h=> ?_)
    exact Wp.ite (fun h2=>M (by omega)) (fun h2=>F fun g=>by have:=g.1;omega)
theorem m3_ (w:ae_) (hb:w.Given.length≤1048576∧w.Taken.length≤1048576):Wp (fun k=>e3_ k w) (· =decide (aV_ w)):=by
  unfold e3_
  have F:¬aV_ w→Wp (fun _=>some false) (· =decide (aV_ w)):=fun h=>Wp.ret (decide_eq_false h).symm
  simp only [af_,aD_,d4_]
  refine Wp.ite (fun h1=>F fun g=>by have:=g.1;omega) (fun h1=> ?_)
  refine Wp.ite (fun h1'=>F fun g=>by have:=g.1;omega) (fun h1'=> ?_)
  refine Wp.ite (fun h2=>F fun g=>by have:=g.2.1;omega) (fun h2=> ?_)
  refine Wp.ite (fun h3=> ?_) (fun h3=>F fun g=>by have:=u3_ g.2.2.2.2.1;omega)
  refine Wp.ite (fun h4=>F fun g=>by have:=g.2.2.1;omega) (fun h4=> ?_)
  simp (disch:=omega) only [aF_]
  refine Wp.ite (fun h5=>F fun g=>by have:=g.2.2.2.1;omega) (fun h5=> ?_)
  obtain ⟨ky,wd,es,fl,fo,gi,ta⟩:=w
  match es,h3 with
  | [a,b],_=>
    refine Wp.step ?_
    have e0:idx [a,b] 0=some a:=rfl
    have e1:idx [a,b] 1=some b:=rfl
    have w1:IntKind.wrap .i64 (0+1)=1:=aF_ (by omega) (by omega)
    have w2:IntKind.wrap .i64 (1+1)=2:=aF_ (by omega) (by omega)
    have d0:(0:Int)<2:=by omega
    have d1:(1:Int)<2:=by omega
    have d2:¬(2:Int)<2:=by omega
    have l2:(([a,b]:List ao_).length:Int)=2:=rfl
    simp only [bS_,e0,w1,af_,Option.bind_some,l2,if_pos d0,d4_]
    refine Wp.bind (dH_ _) (fun _ q=> ?_);subst q
    simp only [af_,aD_]
    refine Wp.ite (fun h6=> ?_) (fun h6=>F fun g=>h6 g.2.2.2.2.1.1.1)
    refine Wp.ite (fun h7=> ?_) (fun h7=>F fun g=>h7 g.2.2.2.2.1.1.2)
    refine Wp.step ?_
    simp only [bS_,e1,w2,af_,Option.bind_some,if_pos d1,d4_]
    refine Wp.bind (dH_ _) (fun _ q=> ?_);subst q
    simp only [af_,aD_]
    refine Wp.ite (fun h8=> ?_) (fun h8=>F fun g=>h8 g.2.2.2.2.1.2.1)
    refine Wp.ite (fun h9=> ?_) (fun h9=>F fun g=>h9 g.2.2.2.2.1.2.2)
    refine Wp.step ?_
    simp only [bS_,af_,if_neg d2]
    simp only at h1 h1' h2 h4 h5 hb
    refine Wp.mono (w3_ ky wd [a,b] fl fo gi ta (by omega) (by omega) fl [] (by show fl.length≤1000;omega)) fun v hv=> ?_
    rw [hv,decide_eq_decide]
    exact ⟨fun g=>⟨⟨by simp only;omega,by simp only;omega⟩,by simp only;omega,by simp only;omega,by simp only;omega,⟨⟨h6,h7⟩,⟨h8,h9⟩⟩,g⟩,fun g=>g.2.2.2.2.2⟩
def AB_ (e f:ao_):Prop:=e.Up=true∧e.Peer=f.Life∧e.Send.Items.length=0∧e.Take.Held.length=0∧e.Take.Open=noB∧e.Take.Ready.length=0
instance (e f:ao_):Decidable (AB_ e f):=by unfold AB_;infer_instance
def Cu_:List ao_→Prop
  | [a,b]=>AB_ a b∧AB_ b a
  | _=>False
instance:(l:List ao_)→Decidable (Cu_ l)
  | [a,b]=>by unfold Cu_;infer_instance
  | []=> .isFalse id
  | [_]=> .isFalse id
  | _::_::_::_=> .isFalse id
def D2_ (w:ae_):Prop:=aV_ w∧Cu_ w.Ends
instance (w:ae_):Decidable (D2_ w):=by unfold D2_;infer_instance
end Km.X
namespace Km.X
open Go Km
set_option linter.unusedVariables false
set_option linter.unusedSimpArgs false
def v5_ (q:Int) (p:aA_):List ai_→Option (List ai_)
  | []=>some [⟨q,p⟩]
  | x::t=>if x.Seq=q then none else if q<x.Seq then some (⟨q,p⟩::x::t) else (v5_ q p t).map (x:: ·)
def wn_ (t:al_) (q:Int) (p:aA_):al_:=
  if VTake t then
   if (t.Next≤q∧q≤t.Next+7∧q≤999999)∧p.Text.size≤20 then (match v5_ q p t.Held with | none=>t | some h=>jb_ h t.Next t.Open t.Ready)
   else t
  else np_
def SmH (h:List ai_):Prop:=∀x∈h,x.Seq≤999999∧x.Part.Text.size≤1000
theorem uY_ (c:Int) (e:ByteArray) (h h2:List ai_) (r2:List ByteArray) (hh:List ai_) (n:Int) (o:ByteArray) (r:List ByteArray) (hl:h.length≤100) (hs:SmH h) (hn:0≤n) (ho:o.size≤200) (hr:r.length≤4):
    Wp (fun k=>cW_ k c e n o h h2 r2 hh r) (· =jb_ h n o r):=by
  refine Wp.step ?_
  simp only [cW_]
  refine Wp.bind (qQ_ _ hl hs hn ho hr) (fun _ q=> ?_);subst q
  exact Wp.ret rfl
theorem A5_ (q:Int) (p:aA_) (c n1:Int) (e o1:ByteArray) (r1:List ByteArray) (h2:List ai_) (r2:List ByteArray) (hh:List ai_) (n:Int) (o:ByteArray) (r:List ByteArray) (hn:0≤n) (ho:o.size≤200) (hr:r.length≤4):∀(t pre acc:List ai_),(pre++t).length≤100→acc.length+t.length≤100→(∀x∈t,q<x.Seq)→SmH acc→SmH t→
    Wp (fun k=>be_ k q true (pre.length:Int) n1 (pre++t) o1 r1 p.Text p.Last c e n o acc h2 r2 hh r) (· =jb_ (acc++t) n o r)
  | [],pre,acc,hl,ha,hq,hs,hs'=>by
    refine Wp.step ?_
    simp only [be_,List.append_nil]
    have hn':¬(pre.length:Int)<(pre.length:Int):=by omega
    simp only [af_,if_neg hn',Bool.not_true,cond_false]
    exact uY_ _ _ _ _ _ _ _ _ _ (by simpa using ha) hs hn ho hr
  | x::t,pre,acc,hl,ha,hq,hs,hs'=>by
    refine Wp.step ?_
    have hl':=hl
    simp only [List.length_append,List.length_cons] at hl ha
    have hx:=hq x (List.mem_cons_self ..)
    have hne:¬x.Seq=q:=by omega
    simp only [be_]
    simp only [af_,a0_,if_true,av_,Option.bind_some,eK_,if_neg hne,Bool.not_true,cond_false]
    refine Wp.step ?_
    simp only [bB_,av_,Option.bind_some]
    refine Wp.opt (bf_ (by simp;omega)) ?_
    simp (disch:=omega) only [aF_]
    have ih:=A5_ q p c n1 e o1 r1 h2 r2 hh n o r hn ho hr t (pre++[x]) (acc++[x]) (by simpa using hl') (by simp;omega) (fun y hy=>hq y (List.mem_cons_of_mem _ hy)) (fun y hy=>by
      rcases List.mem_append.mp hy with hy | hy
      ·exact hs y hy
      ·simp only [List.mem_singleton] at hy;subst hy;exact hs' y (List.mem_cons_self ..)) (fun y hy=>hs' y (List.mem_cons_of_mem _ hy))
    rw [←aE_,←aR_] at ih
    simp only [List.append_assoc,List.cons_append,List.nil_append] at ih
    exact ih
theorem lO_ {a:List ai_} {x:ai_} (h:SmH a) (hx:x.Seq≤999999∧x.Part.Text.size≤1000):SmH (a++[x]):=fun y hy=>by
  rcases List.mem_append.mp hy with hy | hy
  ·exact h y hy
  ·simp only [List.mem_singleton] at hy;subst hy;exact hx
theorem yH_ (q:Int) (p:aA_) (hq:q≤999999) (hp:p.Text.size≤20) (c n1:Int) (e o1:ByteArray) (r1:List ByteArray) (h2:List ai_) (r2:List ByteArray) (hh:List ai_) (n:Int) (o:ByteArray) (r:List ByteArray) (hn:0≤n) (ho:o.size≤200) (hr:r.length≤4):∀(t pre:List ai_) (b:Int),(pre++t).length≤50→WHs n1 b t→SmH pre→SmH t→
    Wp (fun k=>be_ k q false (pre.length:Int) n1 (pre++t) o1 r1 p.Text p.Last c e n o pre h2 r2 hh r) (· =match v5_ q p t with | none=>⟨n,hh,o,r⟩ | some h=>jb_ (pre++h) n o r)
  | [],pre,b,hl,hw,hs,hs'=>by
    refine Wp.step ?_
    simp only [be_,List.append_nil,v5_]
    rw [List.append_nil] at hl
    have hn':¬(pre.length:Int)<(pre.length:Int):=by omega
    simp only [af_,if_neg hn',Bool.not_false,cond_true]
    refine Wp.opt (bf_ (by simp;omega)) ?_
    exact uY_ _ _ _ _ _ _ _ _ _ (by simp;omega) (lO_ hs ⟨hq,by simp only;omega⟩) hn ho hr
  | x::t,pre,b,hl,⟨hw1,hw2⟩,hs,hs'=>by
    refine Wp.step ?_
    have hl':=hl
    simp only [List.length_append,List.length_cons] at hl
    have hx:=hs' x (List.mem_cons_self ..)
    have hs2:SmH t:=fun y hy=>hs' y (List.mem_cons_of_mem _ hy)
    simp only [be_,v5_]
    simp only [af_,a0_,if_true,av_,Option.bind_some,eK_,Bool.not_false,cond_true]
    refine Wp.ite (fun h1=>Wp.ret (by rw [if_pos h1])) (fun h1=> ?_)
    rw [if_neg h1]
    refine Wp.ite (fun h3=> ?_) (fun h3=> ?_)
    ·rw [if_pos (by omega)]
     refine Wp.opt (bf_ (by simp;omega)) ?_
     refine Wp.step ?_
     simp only [bB_,av_,Option.bind_some]
     refine Wp.opt (bf_ (by simp;omega)) ?_
     simp (disch:=omega) only [aF_]
     have:=A5_ q p c n1 e o1 r1 h2 r2 hh n o r hn ho hr t (pre++[x]) (pre++[⟨q,p⟩]++[x]) (by simp;omega) (by simp;omega) (fun y hy=>by have:=zY_ hw2 y hy;omega) (lO_ (lO_ hs ⟨hq,by simp only;omega⟩) hx) hs2
     rw [←aE_,←aR_] at this
     simp only [List.append_assoc,List.cons_append,List.nil_append] at this⊢
     exact this
    ·rw [if_neg (by omega)]
     refine Wp.step ?_
     simp only [bB_,av_,Option.bind_some]
     refine Wp.opt (bf_ (by simp;omega)) ?_
     simp (disch:=omega) only [aF_]
     have ih:=yH_ q p hq hp c n1 e o1 r1 h2 r2 hh n o r hn ho hr t (pre++[x]) x.Seq (by simpa using hl') hw2 (lO_ hs hx) hs2
     rw [←aE_,←aR_] at ih
     refine ih.mono fun v hv=> ?_
     rw [hv]
     cases v5_ q p t<;>simp
theorem vw_ (t:al_) (q:Int) (p:aA_):Wp (fun k=>gg_ k t q p) (· =wn_ t q p):=by
  unfold gg_ wn_
  refine Wp.bind (ep_ t) (fun _ e=> ?_);subst e
  simp only [aD_,af_]
  refine Wp.ite (fun h=> ?_) (fun h=>Wp.ret (by rw [if_neg h]))
  rw [if_pos h]
  have hsm:=h.small
  obtain ⟨h1,h2,h3,h4,h5,h6,h7⟩:=h
  refine Wp.bind (lW_ t (by omega) (by omega)) (fun r2 e=> ?_);rw [e]
  obtain ⟨n,hd,o,r⟩:=t
  refine Wp.bind (zz_ n q hd o r h1) (fun _ e=> ?_);subst e
  simp only [af_]
  refine Wp.ite (fun g=> ?_) (fun g=>Wp.ret (by rw [if_neg (fun w=>g w.1)]))
  refine Wp.ite (fun g2=>Wp.ret (by rw [if_neg (fun w=>by have:=w.2;omega)])) (fun g2=> ?_)
  rw [if_pos ⟨g,by omega⟩]
  exact yH_ q p g.2.2 (by omega) _ n _ o r _ _ hd n o r h1.1 h3 h4 hd [] (n-1) (by simp only at h2;simp;omega) h6 (fun y hy=>by simp at hy) hsm
theorem Cj_ (pre s:List ai_) (z:ai_):∃w,cpy (pre++s++[z]) (pre.length+1) (pre.length+s.length+1) (dS_ (pre++s++[z]) pre.length (pre.length+s.length+1))=pre++w::s:=by
  have e0:dS_ (pre++s++[z]) pre.length (pre.length+s.length+1)=s++[z]:=by
    simp only [dS_]
    rw [List.take_of_length_le (by simp;omega),List.append_assoc,List.drop_left']
    rfl
  rw [e0]
  unfold cpy
  rw [show pre.length+s.length+1-(pre.length+1)=s.length by omega]
  have e1:(s++[z]).take s.length=s:=by simp
  have e2:(pre++s++[z]).drop (pre.length+1+min s.length (s++[z]).length)=[]:=by
    apply List.drop_eq_nil_of_le;simp;omega
  rw [e1,e2,List.append_nil]
  cases s with
  | nil=>exact ⟨z,by rw [List.append_nil,List.take_of_length_le (by simp)];simp⟩
  | cons w s=>exact ⟨w,by simp [List.take_append,List.take_of_length_le]⟩
theorem A0_ (q:Int) (p:aA_) (n:Int) (o:ByteArray) (r:List ByteArray) (hn:0≤n) (ho:o.size≤200) (hr:r.length≤4) (pre s:List ai_) (hl:(pre++s).length≤50) (hs:SmH (pre++⟨q,p⟩::s)):
    Wp (fun k=>(app 32 (pre++s) ([(⟨0,(⟨(⟨#[]⟩:ByteArray),false⟩:aA_)⟩:ai_)]:List ai_)).bind fun l6=>
            (wnd l6.length (IntKind.wrap .i64 ((pre.length:Int)+1)) (l6.length:Int)).bind fun p7=>
            (wnd l6.length (pre.length:Int) (l6.length:Int)).bind fun p8=>
            (idx (cpy l6 p7.1 p7.2 (dS_ l6 p8.1 p8.2)) (pre.length:Int)).bind fun _=>
            ((cpy l6 p7.1 p7.2 (dS_ l6 p8.1 p8.2))[(Int.toNat (pre.length:Int))]?).bind fun y9=>
            (eT_ k (⟨n,((cpy l6 p7.1 p7.2 (dS_ l6 p8.1 p8.2)).set (Int.toNat (pre.length:Int)) (⟨q,p⟩:ai_)),o,r⟩:al_)).bind fun r10=>
            some r10) (· =jb_ (pre++⟨q,p⟩::s) n o r):=by
  simp only [List.length_append] at hl
  refine Wp.opt (bf_ (by simp;omega)) ?_
  rw [aF_ (by omega) (by omega)]
  have hN:(pre++s++[(⟨0,(⟨(⟨#[]⟩:ByteArray),false⟩:aA_)⟩:ai_)]).length=pre.length+s.length+1:=by simp;omega
  rw [hN]
  refine Wp.opt (dz_ (by omega)) ?_
  refine Wp.opt (dz_ (by omega)) ?_
  dsimp only
  simp only [show ((pre.length:Int)+1).toNat=pre.length+1 by omega,Int.toNat_natCast]
  obtain ⟨w,e⟩:=Cj_ pre s (⟨0,(⟨(⟨#[]⟩:ByteArray),false⟩:aA_)⟩:ai_)
  rw [e]
  simp only [av_,Option.bind_some]
  have e2:(pre++w::s)[pre.length]? =some w:=by simp
  have e3:(pre++w::s).set pre.length (⟨q,p⟩:ai_)=pre++⟨q,p⟩::s:=by simp
  simp only [e2,e3,Option.bind_some]
  refine Wp.bind (p2_ ⟨n,pre++⟨q,p⟩::s,o,r⟩ (by simp;omega) hs hn ho hr) (fun _ q=> ?_);subst q
  exact Wp.ret rfl
theorem y3_ (q:Int) (p:aA_) (hq:q≤999999) (hp:p.Text.size≤20) (c:Int) (e:ByteArray) (h2:List ai_) (r2:List ByteArray) (n:Int) (o:ByteArray) (r:List ByteArray) (n1:Int) (hn:0≤n) (ho:o.size≤200) (hr:r.length≤4):∀(t pre:List ai_) (b:Int),(pre++t).length≤50→WHs n1 b t→SmH pre→SmH t→
    Wp (fun k=>cG_ k q (pre.length:Int) p.Text p.Last c e n o h2 r2 (pre++t) r) (· =match v5_ q p t with | none=>⟨n,pre++t,o,r⟩ | some h=>jb_ (pre++h) n o r)
  | [],pre,b,hl,hw,hs,hs'=>by
    refine Wp.step ?_
    simp only [cG_,v5_]
    have hn':¬(pre.length:Int)<((pre++[]).length:Int):=by simp
    simp only [af_,if_neg hn']
    exact A0_ q p n o r hn ho hr pre [] hl (by
      intro y hy
      rcases List.mem_append.mp hy with hy | hy
      ·exact hs y hy
      ·simp only [List.mem_singleton] at hy;subst hy;exact ⟨hq,by simp only;omega⟩)
  | x::t,pre,b,hl,⟨hw1,hw2⟩,hs,hs'=>by
    refine Wp.step ?_
    have hl':=hl
    simp only [List.length_append,List.length_cons] at hl
    have hx:=hs' x (List.mem_cons_self ..)
    have hs2:SmH t:=fun y hy=>hs' y (List.mem_cons_of_mem _ hy)
    simp only [cG_,v5_]
    simp only [af_,a0_,if_true,av_,bw_,Option.bind_some,eK_]
    refine Wp.ite (fun h1=> ?_) (fun h1=> ?_)
    ·rw [if_neg (by omega),if_neg (by omega)]
     simp (disch:=omega) only [aF_]
     have ih:=y3_ q p hq hp c e h2 r2 n o r n1 hn ho hr t (pre++[x]) x.Seq (by simpa using hl') hw2 (lO_ hs hx) hs2
     rw [←aE_,←aR_] at ih
     refine ih.mono fun v hv=> ?_
     rw [hv]
     cases v5_ q p t<;>simp
    ·refine Wp.ite (fun h2=>Wp.ret (by rw [if_pos h2])) (fun h2=> ?_)
     rw [if_neg h2,if_pos (by omega)]
     exact A0_ q p n o r hn ho hr pre (x::t) hl' (by
       intro y hy
       rcases List.mem_append.mp hy with hy | hy
       ·exact hs y hy
       ·rcases List.mem_cons.mp hy with rfl | hy
        ·exact ⟨hq,by simp only;omega⟩
        ·exact hs' y hy)
theorem v3_ (t:al_) (q:Int) (p:aA_):Wp (fun k=>gn_ k t q p) (· =wn_ t q p):=by
  unfold gn_ wn_
  refine Wp.bind (ew_ t) (fun _ e=> ?_);subst e
  simp only [aD_,af_]
  refine Wp.ite (fun h=> ?_) (fun h=>Wp.ret (by rw [if_neg h]))
  rw [if_pos h]
  have hsm:=h.small
  obtain ⟨h1,h2,h3,h4,h5,h6,h7⟩:=h
  refine Wp.bind (qK_ t (by omega) (by omega)) (fun r2 e=> ?_);rw [e]
  obtain ⟨n,hd,o,r⟩:=t
  simp only at h1 h2 h3 h4
  rw [aF_ (n:=n+8) (by omega) (by omega),aF_ (n:=n+8-1) (by omega) (by omega)]
  refine Wp.bind (md_ _ _ _) (fun _ e=> ?_);subst e
  simp only [inB,af_]
  refine Wp.ite (fun g=> ?_) (fun g=>Wp.ret (by rw [if_neg (fun w=>by have:=w.1;omega)]))
  refine Wp.ite (fun g1=>Wp.ret (by rw [if_neg (fun w=>by have:=w.1;omega)])) (fun g1=> ?_)
  refine Wp.ite (fun g2=>Wp.ret (by rw [if_neg (fun w=>by have:=w.2;omega)])) (fun g2=> ?_)
  rw [if_pos ⟨by omega,by omega⟩]
  exact y3_ q p (by omega) (by omega) _ _ _ _ n o r n h1.1 h3 h4 hd [] (n-1) (by simp;omega) h6 (fun y hy=>by simp at hy) hsm
theorem A3_ {n:Int} (q:Int) (p:aA_) (hq:q≤n+7) (hq':q≤999999) (hp:p.Text.size≤20):∀{t h:List ai_} {b:Int},b<q→WHs n b t→v5_ q p t=some h→WHs n b h
  | [],h,b,hb,hw,e=>by
    simp only [v5_,Option.some.injEq] at e;subst e
    exact ⟨⟨hb,hq,hq',hp⟩,trivial⟩
  | x::t,h,b,hb,⟨hw1,hw2⟩,e=>by
    simp only [v5_] at e
    split at e
    ·cases e
    ·split at e
     ·simp only [Option.some.injEq] at e;subst e
      exact ⟨⟨hb,hq,hq',hp⟩,⟨by omega,hw1.2⟩,hw2⟩
     ·cases ht:v5_ q p t with
      | none=>rw [ht] at e;cases e
      | some h'=>
        rw [ht] at e
        simp only [Option.map_some,Option.some.injEq] at e;subst e
        exact ⟨hw1,A3_ q p hq hq' hp (by omega) hw2 ht⟩
theorem yO_ {n:Int}:∀{l:List ai_} {b:Int},WHs n b l→b≤n+7→(l.length:Int)≤n+7-b
  | [],b,_,h=>by simp only [List.length_nil];omega
  | x::t,b,⟨h1,h2⟩,h=>by
    have:=yO_ h2 h1.2.1
    simp only [List.length_cons];omega
theorem Bg_ (t:al_) (q:Int) (p:aA_):VTake (wn_ t q p):=by
  unfold wn_
  split
  ·rename_i h
   split
   ·rename_i g
    cases ht:v5_ q p t.Held with
    | none=>exact h
    | some hh=>
      obtain ⟨h1,h2,h3,h4,h5,h6,h7⟩:=h
      have hw:=A3_ q p g.1.2.1 g.1.2.2 g.2 (by omega) h6 ht
      have hlen:=yO_ hw (by omega)
      exact sL_ t.Next hh t.Next t.Open t.Ready (Int.le_refl _) hw (by omega) h1.1 h1.2 h3 h4 h5
   ·exact h
  ·exact sS_
end Km.X
namespace Km.X
open Go Km
set_option linter.unusedVariables false
set_option linter.unusedSimpArgs false
def t5_ (p:ad_):Prop:=
  (1≤p.From∧p.From≤2)∧(1≤p.Mine∧p.Mine≤1000)∧(0≤p.Yours∧p.Yours≤1000)∧
  ((p.Kind=1∧(0≤p.Next∧p.Next≤1000000)∧(0≤p.Mask∧p.Mask≤255)∧p.Seq=0∧p.Last=false∧p.Part=noB)∨
   (p.Kind=2∧p.Next=0∧p.Mask=0∧(0≤p.Seq∧p.Seq≤999999)∧p.Part.size≤20))
instance (p:ad_):Decidable (t5_ p):=by unfold t5_;infer_instance
theorem ed_ (p:ad_):Wp (fun k=>a4_ k p) (· =decide (t5_ p)):=by
  unfold a4_
  have key:(p.From=1∨p.From=2)→Wp (fun k=>
    (aQ_ k p.Mine 1 1000).bind fun r6=>
    bif (!r6) then
      some false
    else
      (aQ_ k p.Yours 0 1000).bind fun r7=>
      bif (!r7) then
        some false
      else
        bif (p.Kind==1) then
          (aQ_ k p.Next 0 1000000).bind fun r8=>
          bif r8 then
            (aQ_ k p.Mask 0 255).bind fun r9=>
            bif r9 then
              bif (p.Seq==0) then
                bif (!p.Last) then
                  some (p.Part.toList==(⟨#[]⟩:ByteArray).toList)
                else
                  some false
              else
                some false
            else
              some false
          else
            some false
        else
          bif (p.Kind==2) then
            bif (p.Next==0) then
              bif (p.Mask==0) then
                (aQ_ k p.Seq 0 999999).bind fun r10=>
                bif r10 then
                  some (decide ((p.Part.size:Int)≤20))
                else
                  some false
              else
                some false
            else
              some false
          else
            some false) (· =decide (t5_ p)):=by
    intro hf
    have F:∀{Q:Prop},(t5_ p→False)→false=decide (t5_ p):=fun h=>(decide_eq_false h).symm
    refine Wp.bind (md_ _ _ _) (fun _ e=> ?_);subst e
    simp only [inB,aD_,af_,eK_,CC_]
    refine Wp.ite (fun h1=> ?_) (fun h1=>Wp.ret (F (Q:=True) fun h=>h1 h.2.1))
    refine Wp.bind (md_ _ _ _) (fun _ e=> ?_);subst e
    simp only [inB,aD_,af_,eK_,CC_]
    refine Wp.ite (fun h2=> ?_) (fun h2=>Wp.ret (F (Q:=True) fun h=>h2 h.2.2.1))
    refine Wp.ite (fun h3=> ?_) (fun h3=> ?_)
    ·have W:t5_ p→(0≤p.Next∧p.Next≤1000000)∧(0≤p.Mask∧p.Mask≤255)∧p.Seq=0∧p.Last=false∧p.Part=noB:=fun h=>by
       rcases h.2.2.2 with h | h
       ·exact h.2
       ·omega
     refine Wp.bind (md_ _ _ _) (fun _ e=> ?_);subst e
     simp only [inB,aD_,af_,eK_,CC_]
     refine Wp.ite (fun h4=> ?_) (fun h4=>Wp.ret (F (Q:=True) fun h=>h4 (W h).1))
     refine Wp.bind (md_ _ _ _) (fun _ e=> ?_);subst e
     simp only [inB,aD_,af_,eK_,CC_]
     refine Wp.ite (fun h5=> ?_) (fun h5=>Wp.ret (F (Q:=True) fun h=>h5 (W h).2.1))
     refine Wp.ite (fun h6=> ?_) (fun h6=>Wp.ret (F (Q:=True) fun h=>h6 (W h).2.2.1))
     refine Wp.bif (fun h7=>Wp.ret (F (Q:=True) fun h=>by rw [(W h).2.2.2.1] at h7;cases h7)) (fun h7=> ?_)
     refine Wp.ret ?_
     rw [decide_eq_decide]
     exact ⟨fun h=>⟨by omega,h1,h2, .inl ⟨h3,h4,h5,h6,h7,h⟩⟩,fun h=>(W h).2.2.2.2⟩
    ·refine Wp.ite (fun h4=> ?_) (fun h4=>Wp.ret (F (Q:=True) fun h=>by rcases h.2.2.2 with h | h<;>omega))
     have W:t5_ p→p.Next=0∧p.Mask=0∧(0≤p.Seq∧p.Seq≤999999)∧p.Part.size≤20:=fun h=>by
       rcases h.2.2.2 with h | h
       ·omega
       ·exact h.2
     refine Wp.ite (fun h5=> ?_) (fun h5=>Wp.ret (F (Q:=True) fun h=>h5 (W h).1))
     refine Wp.ite (fun h6=> ?_) (fun h6=>Wp.ret (F (Q:=True) fun h=>h6 (W h).2.1))
     refine Wp.bind (md_ _ _ _) (fun _ e=> ?_);subst e
     simp only [inB,aD_,af_,eK_,CC_]
     refine Wp.ite (fun h7=> ?_) (fun h7=>Wp.ret (F (Q:=True) fun h=>h7 (W h).2.2.1))
     refine Wp.ret ?_
     rw [decide_eq_decide]
     exact ⟨fun h=>⟨by omega,h1,h2, .inr ⟨h4,h5,h6,h7,by omega⟩⟩,fun h=>by have:=(W h).2.2.2;omega⟩
  simp only [d4_]
  refine Wp.ite (fun h=>key (.inl h)) (fun h=> ?_)
  refine Wp.ite (fun h=>key (.inr h)) (fun h2=>Wp.ret (decide_eq_false ?_).symm)
  intro h'
  have:=h'.1
  omega
theorem y2_ (p:ad_) (h:1≤p.From∧p.From≤2) (k:Nat):fK_ k p=a4_ k p:=by
  have e:aC_ k p.From 1 2=some true:=by
    unfold aC_
    simp only [af_]
    rw [if_pos (by omega)]
    congr 1
    exact decide_eq_true h.2
  unfold fK_ a4_
  rw [e]
  have hi:∀a b c,aC_ k a b c=aQ_ k a b c:=fun _ _ _=>rfl
  simp only [hi,Option.bind_some,Bool.not_true,cond_false,d4_]
  by_cases h1:p.From=1
  ·rw [if_pos h1]
  ·rw [if_neg h1,if_pos (by omega)]
theorem zE_ (p:ad_):Wp (fun k=>fK_ k p) (· =decide (t5_ p)):=by
  by_cases h:1≤p.From∧p.From≤2
  ·have:(fun k=>fK_ k p)=fun k=>a4_ k p:=funext fun k=>y2_ p h k
   rw [this];exact ed_ p
  ·unfold fK_
   refine Wp.bind (cU_ _ _ _) (fun _ e=> ?_);subst e
   rw [inB,decide_eq_false h]
   exact Wp.ret (decide_eq_false fun h'=>h h'.1).symm
def N (w:Nat) (x:Int):ByteArray:=jV_ (eh_ w x.toNat)
theorem eW_ (w:Nat) (x:Int):(N w x).size=w:=by simp [N,hv_,eY_]
theorem p6_:∀(d w i n:Nat) (tail:List Int),i+d=w→w≤8→n<2^62→tail.length+d≤100→
    Wp (fun k=>cC_ k (n:Int) (w:Int) (jV_ tail) (i:Int)) (· =jV_ (eh_ d n++tail))
  | 0,w,i,n,tail,h,hw,hn,ht=>by
    refine Wp.step ?_
    simp only [cC_]
    simp (disch:=omega) only [af_,if_neg]
    exact Wp.ret rfl
  | d+1,w,i,n,tail,h,hw,hn,ht=>by
    refine Wp.step ?_
    simp only [cC_]
    simp (disch:=omega) only [af_,if_pos,wL_,wI_,Option.bind_some,z7_,uz_,aF_,hi_]
    have ih:=p6_ d w (i+1) (n/256) (((n%256:Nat):Int)::tail) (by omega) hw (by omega) (by simp;omega)
    simpa [eh_] using ih
theorem fE_ {w:Nat} {x:Int} (hw:w≤8) (hx:0≤x∧x≤1000000):Wp (fun k=>bK_ k x (w:Int)) (· =N w x):=by
  obtain ⟨n,rfl⟩:∃n:Nat,x=n:=⟨x.toNat,by omega⟩
  have:=p6_ w w 0 n [] (by omega) hw (by omega) (by simp;omega)
  rw [List.append_nil] at this
  exact this
theorem z0_:∀(d n:Nat) (b:List Int),d≤b.length→b.length≤8→n<2^62→Wp (fun k=>go_ k (n:Int) ((d:Int)-1) b) (· =jV_ (eh_ d n++b.drop d))
  | 0,n,b,hd,hb,hn=>by
    refine Wp.step ?_
    simp only [go_]
    simp (disch:=omega) only [af_,if_neg]
    exact Wp.ret (by simp [eh_])
  | d+1,n,b,hd,hb,hn=>by
    refine Wp.step ?_
    simp only [go_]
    rw [show ((d+1:Nat):Int)-1=(d:Int) by omega]
    have hlt:d<b.length:=by omega
    simp (disch:=first | omega | decide) only [af_,if_pos,r5_,A6_,Option.bind_some,FD_,aF_,wu8]
    have ih:=z0_ d (n/256) (b.set d ((n%256:Nat):Int)) (by simp;omega) (by simpa using hb) (by omega)
    rw [t3_ hlt] at ih
    rw [Int.toNat_natCast]
    exact ih
theorem um_ {w:Nat} {x:Int} (hw:w≤8) (hx:0≤x∧x≤1000000):Wp (fun k=>gx_ k x (w:Int)) (· =N w x):=by
  obtain ⟨n,rfl⟩:∃n:Nat,x=n:=⟨x.toNat,by omega⟩
  unfold gx_
  refine Wp.opt (x:=w) (by rw [if_pos rfl];exact la_ (by omega)) ?_
  have:=z0_ w n (List.replicate w 0) (by simp) (by simpa using hw) (by omega)
  rw [List.drop_eq_nil_of_le (by simp),List.append_nil] at this
  rw [aF_ (by omega) (by omega)]
  exact this
theorem wH_ (x y z:ByteArray):x++y++z=x++(y++z):=by
  apply ByteArray.ext;simp
def lS_ (p:ad_):ByteArray:=N 1 p.Kind++N 1 p.From++N 2 p.Mine++N 2 p.Yours
def B1_ (b:Bool):Int:=bif b then 1 else 0
def gD_ (p:ad_):ByteArray:=
  if p.Kind=1 then lS_ p++N 4 p.Next++N 1 p.Mask else lS_ p++N 4 p.Seq++N 1 (B1_ p.Last)++p.Part
theorem mS_ (p:ad_):(lS_ p).size=6:=by simp [lS_,eW_]
theorem m6_ (p:ad_) (h:t5_ p):(gD_ p).size≤31:=by
  have hs:=mS_ p
  unfold gD_
  rcases h.2.2.2 with ⟨hk1,_⟩ | ⟨hk2,_,_,_,g4⟩
  ·rw [if_pos hk1];simp [eW_,hs]
  ·rw [if_neg (by omega)];simp [eW_,hs];omega
theorem zx_ (p:ad_) (h:t5_ p):Wp (fun k=>gw_ k p) (· =gD_ p):=by
  obtain ⟨h1,h2,h3,h4⟩:=h
  have hK:0≤p.Kind∧p.Kind≤1000000:=by rcases h4 with h | h<;>omega
  unfold gw_
  refine Wp.bind (fE_ (w:=1) (by omega) hK) (fun _ e=> ?_);subst e
  refine Wp.bind (fE_ (w:=1) (by omega) (by omega)) (fun _ e=> ?_);subst e
  refine Wp.opt (bz_ (by simp [eW_])) ?_
  refine Wp.bind (fE_ (w:=2) (by omega) (by omega)) (fun _ e=> ?_);subst e
  refine Wp.opt (bz_ (by simp [eW_])) ?_
  refine Wp.bind (fE_ (w:=2) (by omega) (by omega)) (fun _ e=> ?_);subst e
  refine Wp.opt (bz_ (by simp [eW_])) ?_
  have hd:N 1 p.Kind++N 1 p.From++N 2 p.Mine++N 2 p.Yours=lS_ p:=rfl
  rw [hd]
  have hs:=mS_ p
  simp only [eK_]
  refine Wp.ite (fun hk=> ?_) (fun hk=> ?_)
  ·rcases h4 with ⟨_,g1,g2,_⟩ | ⟨hk2,_⟩
   ·refine Wp.bind (fE_ (w:=4) (by omega) (by omega)) (fun _ e=> ?_);subst e
    refine Wp.opt (bz_ (by simp [eW_,hs])) ?_
    refine Wp.bind (fE_ (w:=1) (by omega) (by omega)) (fun _ e=> ?_);subst e
    refine Wp.opt (bz_ (by simp [eW_,hs])) ?_
    exact Wp.ret (by rw [gD_,if_pos hk])
   ·omega
  ·rcases h4 with ⟨hk1,_⟩ | ⟨hk2,g1,g2,g3,g4⟩
   ·exact absurd hk1 hk
   have key:∀l,0≤l∧l≤1000000→Wp (fun k=>ec_ k (lS_ p) l p.Kind p.From p.Mine p.Yours p.Next p.Mask p.Seq p.Last p.Part) (· =lS_ p++N 4 p.Seq++N 1 l++p.Part):=fun l hl=>by
     refine Wp.step ?_
     simp only [ec_]
     refine Wp.bind (fE_ (w:=4) (by omega) (by omega)) (fun _ e=> ?_);subst e
     refine Wp.opt (bz_ (by simp [eW_,hs])) ?_
     refine Wp.bind (fE_ (w:=1) (by omega) hl) (fun _ e=> ?_);subst e
     refine Wp.opt (bz_ (by simp [eW_,hs])) ?_
     refine Wp.opt (bz_ (by simp [eW_,hs];omega)) ?_
     exact Wp.ret rfl
   have hb:gD_ p=lS_ p++N 4 p.Seq++N 1 (B1_ p.Last)++p.Part:=by rw [gD_,if_neg hk]
   rw [hb]
   cases hl:p.Last
   ·have:=key 0 (by omega)
    rw [hl] at this;exact this
   ·have:=key 1 (by omega)
    rw [hl] at this;exact this
def le_ (p:ad_) (b:ByteArray) (w:Int):ByteArray:=if t5_ p∧(1≤w∧w≤8)∧b.size≤30 then Ar_ (gD_ p) b w++gD_ p else noB
theorem pD_ (p:ad_) (b:ByteArray) (w:Int):Wp (fun k=>cS_ k p b w) (· =le_ p b w):=by
  unfold cS_ le_
  refine Wp.bind (zE_ p) (fun _ e=> ?_);subst e
  simp only [aD_,af_]
  refine Wp.ite (fun h1=> ?_) (fun h1=>Wp.ret (by rw [if_neg (fun h=>h1 h.1)]))
  refine Wp.bind (cU_ _ _ _) (fun _ e=> ?_);subst e
  simp only [inB,aD_,af_]
  refine Wp.ite (fun h2=> ?_) (fun h2=>Wp.ret (by rw [if_neg (fun h=>h2 h.2.1)]))
  refine Wp.ite (fun h3=>Wp.ret (by rw [if_neg (fun h=>by omega)])) (fun h3=> ?_)
  rw [if_pos ⟨h1,h2,by omega⟩]
  have hs:=m6_ p h1
  refine Wp.bind (zx_ p h1) (fun _ e=> ?_);subst e
  refine Wp.bind (xI_ _ b w (by omega)) (fun _ e=> ?_);subst e
  refine Wp.bind (zx_ p h1) (fun _ e=> ?_);subst e
  have ht:=pC_ (gD_ p) b w
  refine Wp.opt (bz_ (by omega)) ?_
  exact Wp.ret rfl
theorem pL_ (p:ad_) (b:ByteArray) (w:Int):Wp (fun k=>c0_ k p b w) (· =le_ p b w):=by
  unfold c0_ le_
  refine Wp.bind (ed_ p) (fun _ e=> ?_);subst e
  simp only [aD_,af_]
  refine Wp.ite (fun h1=> ?_) (fun h1=>Wp.ret (by rw [if_neg (fun h=>h1 h.1)]))
  refine Wp.ite (fun h2=>Wp.ret (by rw [if_neg (fun h=>by omega)])) (fun h2=> ?_)
  refine Wp.ite (fun h3=>Wp.ret (by rw [if_neg (fun h=>by omega)])) (fun h3=> ?_)
  refine Wp.ite (fun h4=>Wp.ret (by rw [if_neg (fun h=>by omega)])) (fun h4=> ?_)
  rw [if_pos ⟨h1,by omega,by omega⟩]
  have hbs:=m6_ p h1
  have ht:=pC_ (gD_ p) b w
  obtain ⟨g1,g2,g3,g4⟩:=h1
  have hK:0≤p.Kind∧p.Kind≤1000000:=by rcases g4 with h | h<;>omega
  refine Wp.bind (um_ (w:=1) (by omega) hK) (fun _ e=> ?_);subst e
  refine Wp.bind (um_ (w:=1) (by omega) (by omega)) (fun _ e=> ?_);subst e
  refine Wp.opt (bz_ (by simp [eW_])) ?_
  refine Wp.bind (um_ (w:=2) (by omega) (by omega)) (fun _ e=> ?_);subst e
  refine Wp.opt (bz_ (by simp [eW_])) ?_
  refine Wp.bind (um_ (w:=2) (by omega) (by omega)) (fun _ e=> ?_);subst e
  refine Wp.opt (bz_ (by simp [eW_])) ?_
  have hd:N 1 p.Kind++N 1 p.From++N 2 p.Mine++N 2 p.Yours=lS_ p:=rfl
  rw [hd]
  have hs:=mS_ p
  have l10:Wp (fun k=>co_ k b w (gD_ p)) (· =Ar_ (gD_ p) b w++gD_ p):=by
    refine Wp.step ?_
    simp only [co_]
    refine Wp.bind (xV_ _ b w (by omega)) (fun _ e=> ?_);subst e
    refine Wp.opt (bz_ (by omega)) ?_
    exact Wp.ret rfl
  simp only [eK_]
  refine Wp.ite (fun hk=> ?_) (fun hk=> ?_)
  ·rcases g4 with ⟨_,q1,q2,_⟩ | ⟨hk2,_⟩
   ·refine Wp.bind (um_ (w:=4) (by omega) (by omega)) (fun _ e=> ?_);subst e
    refine Wp.bind (um_ (w:=1) (by omega) (by omega)) (fun _ e=> ?_);subst e
    refine Wp.opt (bz_ (by simp [eW_])) ?_
    refine Wp.opt (bz_ (by simp [eW_,hs])) ?_
    have e:lS_ p++(N 4 p.Next++N 1 p.Mask)=gD_ p:=by rw [gD_,if_pos hk,wH_]
    rw [e];exact l10
   ·omega
  ·rcases g4 with ⟨hk1,_⟩ | ⟨hk2,q1,q2,q3,q4⟩
   ·exact absurd hk1 hk
   have key:∀l,0≤l∧l≤1000000→lS_ p++N 4 p.Seq++N 1 l++p.Part=gD_ p→Wp (fun k=>cH_ k b w (lS_ p) l p.Kind p.From p.Mine p.Yours p.Next p.Mask p.Seq p.Last p.Part) (· =Ar_ (gD_ p) b w++gD_ p):=fun l hl e=>by
     refine Wp.step ?_
     simp only [cH_]
     refine Wp.bind (um_ (w:=4) (by omega) (by omega)) (fun _ e=> ?_);subst e
     refine Wp.bind (um_ (w:=1) (by omega) hl) (fun _ e=> ?_);subst e
     refine Wp.opt (bz_ (by simp [eW_])) ?_
     refine Wp.opt (bz_ (by simp [eW_];omega)) ?_
     refine Wp.opt (bz_ (by simp [eW_,hs];omega)) ?_
     rw [show lS_ p++(N 4 p.Seq++N 1 l++p.Part)=gD_ p by rw [←e];simp only [wH_]]
     exact l10
   have hb0:gD_ p=lS_ p++N 4 p.Seq++N 1 (B1_ p.Last)++p.Part:=by rw [gD_,if_neg hk]
   cases hl:p.Last
   ·rw [hl] at hb0
    have:=key 0 (by omega) hb0.symm
    rw [hl] at this
    exact this
   ·rw [hl] at hb0
    have:=key 1 (by omega) hb0.symm
    rw [hl] at this
    exact this
theorem x8_ (p:ad_) (b:ByteArray) (w:Int):(le_ p b w).size≤39:=by
  unfold le_
  split
  ·rename_i h
   rw [ba_]
   have:=m6_ p h.1
   have:=pC_ (gD_ p) b w
   omega
  ·simp [fz_]
end Km.X
namespace Km.X
open Go Km
set_option linter.unusedVariables false
set_option linter.unusedSimpArgs false
def ve_ (e:ao_) (p:ad_):ay_:=
  if p.Yours=e.Life then
   if p.Kind=1 then ⟨0,⟨e.Number,e.Up,e.Life,e.Peer,e.Since,e.Owes,wi_ e.Send p.Next p.Mask,e.Take⟩,[],noB⟩
   else ⟨0,⟨e.Number,e.Up,e.Life,e.Peer,e.Since,true,e.Send,wn_ e.Take p.Seq ⟨p.Part,p.Last⟩⟩,[],noB⟩
  else ⟨0,⟨e.Number,e.Up,e.Life,e.Peer,e.Since,true,e.Send,e.Take⟩,[],noB⟩
def Ai_ (e:ao_) (p:ad_):ao_:=if p.Mine>e.Peer then ⟨e.Number,e.Up,e.Life,p.Mine,e.Since,true,km_,np_⟩ else e
def qw_ (e:ao_) (p:ad_):ay_:=
  if VEnd e then
   if e.Up=true∧t5_ p∧¬p.From=e.Number∧¬p.Mine<e.Peer then ve_ (Ai_ e p) p else ⟨0,e,[],noB⟩
  else ⟨1,n5_,[],noB⟩
theorem tG_ (e:ao_) (p:ad_):Wp (fun k=>gU_ k e p) (· =qw_ e p):=by
  unfold gU_ qw_
  refine Wp.bind (bQ_ _) (fun _ q=> ?_);subst q
  simp only [af_,aD_,eK_]
  refine Wp.ite (fun h1=> ?_) (fun h1=>Wp.ret (by rw [if_neg h1]))
  rw [if_pos h1]
  refine Wp.bind (fG_ e h1) (fun r q=> ?_);rw [q]
  refine Wp.bif (fun u=> ?_) (fun u=>Wp.ret (by rw [if_neg (fun g=>by have:=g.1;rw [u] at this;cases this)]))
  refine Wp.bind (zE_ p) (fun _ q=> ?_);subst q
  simp only [af_]
  refine Wp.ite (fun h2=> ?_) (fun h2=>Wp.ret (by rw [if_neg (fun g=>h2 g.2.1)]))
  refine Wp.ite (fun h3=>Wp.ret (by rw [if_neg (fun g=>g.2.2.1 h3)])) (fun h3=> ?_)
  refine Wp.ite (fun h4=>Wp.ret (by rw [if_neg (fun g=>g.2.2.2 h4)])) (fun h4=> ?_)
  rw [if_pos ⟨u,h2,h3,h4⟩]
  have M:∀(n:Int) (uu:Bool) (li pe si:Int) (ow:Bool) (b:Int) (it:List ah_) (nn:Int) (hd:List ai_) (o:ByteArray) (rr:List ByteArray),
   Wp (fun k=>dg_ k p.Kind p.From p.Mine p.Yours p.Next p.Mask p.Seq p.Last p.Part 0 0 false 0 0 0 false 0 0 (⟨#[]⟩:ByteArray) (⟨#[]⟩:ByteArray) n uu li pe si ow b nn o ([]:List ah_) ([]:List ai_) ([]:List ByteArray) ([]:List ad_) it hd rr) (· =ve_ ⟨n,uu,li,pe,si,ow,⟨b,it⟩,⟨nn,hd,o,rr⟩⟩ p):=by
    intro n uu li pe si ow b it nn hd o rr
    refine Wp.step ?_
    simp only [dg_,d4_,eK_,ve_]
    refine Wp.ite (fun h5=> ?_) (fun h5=>Wp.ret (by rw [if_neg h5]))
    rw [if_pos h5]
    refine Wp.ite (fun h6=> ?_) (fun h6=> ?_)
    ·rw [if_pos h6]
     refine Wp.bind (vk_ _ _ _) (fun _ q=> ?_);subst q
     exact Wp.ret rfl
    ·rw [if_neg h6]
     refine Wp.bind (vw_ _ _ _) (fun _ q=> ?_);subst q
     exact Wp.ret rfl
  unfold Ai_
  refine Wp.ite (fun h5=> ?_) (fun h5=> ?_)
  ·rw [if_pos h5];exact M _ _ _ _ _ _ _ _ _ _ _ _
  ·rw [if_neg h5];exact M _ _ _ _ _ _ _ _ _ _ _ _
theorem tA_ (e:ao_) (p:ad_):Wp (fun k=>gQ_ k e p) (· =qw_ e p):=by
  unfold gQ_ qw_
  refine Wp.bind (dH_ _) (fun _ q=> ?_);subst q
  simp only [af_,aD_,eK_]
  refine Wp.ite (fun h1=> ?_) (fun h1=>Wp.ret (by rw [if_neg h1]))
  rw [if_pos h1]
  refine Wp.bind (hx_ e h1) (fun r q=> ?_);rw [q]
  refine Wp.bif (fun u=> ?_) (fun u=>Wp.ret (by rw [if_neg (fun g=>by have:=g.1;rw [u] at this;cases this)]))
  refine Wp.bind (ed_ p) (fun _ q=> ?_);subst q
  simp only [af_]
  refine Wp.ite (fun h2=> ?_) (fun h2=>Wp.ret (by rw [if_neg (fun g=>h2 g.2.1)]))
  refine Wp.ite (fun h3=>Wp.ret (by rw [if_neg (fun g=>g.2.2.1 h3)])) (fun h3=> ?_)
  refine Wp.ite (fun h4=>Wp.ret (by rw [if_neg (fun g=>g.2.2.2 h4)])) (fun h4=> ?_)
  rw [if_pos ⟨u,h2,h3,h4⟩]
  have M:∀(n:Int) (uu:Bool) (li pe si:Int) (ow:Bool) (b:Int) (it:List ah_) (nn:Int) (hd:List ai_) (o:ByteArray) (rr:List ByteArray),
   Wp (fun k=>dO_ k p.Kind p.From p.Mine p.Yours p.Next p.Mask p.Seq p.Last p.Part 0 0 false 0 0 0 false 0 0 (⟨#[]⟩:ByteArray) (⟨#[]⟩:ByteArray) 0 n uu li pe si ow b nn o (⟨#[]⟩:ByteArray) ([]:List ah_) ([]:List ai_) ([]:List ByteArray) ([]:List ad_) it hd rr ([]:List ad_)) (· =ve_ ⟨n,uu,li,pe,si,ow,⟨b,it⟩,⟨nn,hd,o,rr⟩⟩ p):=by
    intro n uu li pe si ow b it nn hd o rr
    refine Wp.step ?_
    simp only [dO_,d4_,eK_,ve_]
    refine Wp.ite (fun h5=> ?_) (fun h5=>Wp.ret (by rw [if_neg h5]))
    rw [if_pos h5]
    refine Wp.ite (fun h6=> ?_) (fun h6=> ?_)
    ·rw [if_pos h6]
     refine Wp.bind (v2_ _ _ _) (fun _ q=> ?_);subst q
     refine Wp.step ?_
     simp only [df_]
     exact Wp.ret rfl
    ·rw [if_neg h6]
     refine Wp.bind (v3_ _ _ _) (fun _ q=> ?_);subst q
     refine Wp.step ?_
     simp only [df_]
     exact Wp.ret rfl
  unfold Ai_
  refine Wp.ite (fun h5=> ?_) (fun h5=> ?_)
  ·rw [if_pos h5];exact M _ _ _ _ _ _ _ _ _ _ _ _
  ·rw [if_neg h5];exact M _ _ _ _ _ _ _ _ _ _ _ _
end Km.X
namespace Km.X
open Go Km
set_option linter.unusedVariables false
set_option linter.unusedSimpArgs false
def EQ_ (l:List UInt8):Int:=l.foldl (fun v c=>v*256+(c.toNat:Int)) 0
theorem wj_ {n:Nat} (h:n≤6):(256:Int)^n≤281474976710656:=by
  have:n=0∨n=1∨n=2∨n=3∨n=4∨n=5∨n=6:=by omega
  rcases this with rfl | rfl | rfl | rfl | rfl | rfl | rfl<;>decide
theorem uy_ (s:ByteArray):∀(t pre:List UInt8) (v:Int),s.data.toList=pre++t→s.size≤6→0≤v∧v<256^pre.length→
    Wp (fun k=>dn_ k s v (pre.length:Int)) (· =t.foldl (fun v c=>v*256+(c.toNat:Int)) v)
  | [],pre,v,h,hs,hv=>by
    refine Wp.step ?_
    have:=g3_ h
    simp only [List.length_nil] at this
    simp only [dn_]
    simp (disch:=omega) only [af_,if_neg]
    exact Wp.ret rfl
  | c::t,pre,v,h,hs,hv=>by
    refine Wp.step ?_
    have hl:=g3_ h
    simp only [List.length_cons] at hl
    have hp:=wj_ (n:=pre.length) (by omega)
    have hc:=c.toNat_lt
    simp only [dn_]
    simp (disch:=omega) only [af_,if_pos,oN_ h,Option.bind_some,aF_]
    have ih:=uy_ s t (pre++[c]) (v*256+(c.toNat:Int)) (by simpa using h) hs (by
      rw [List.length_append,List.length_singleton,Int.pow_succ];omega)
    rwa [←aR_] at ih
theorem tk_ (s:ByteArray) (h:s.size≤6):Wp (fun k=>fg_ k s) (· =EQ_ s.data.toList):=uy_ s s.data.toList [] 0 rfl h (by decide)
theorem C9_ (n c:Nat) (h:c<256):(n*256) ||| c=n*256+c:=by
  have:=Nat.shiftLeft_add_eq_or_of_lt (a:=n) (i:=8) (b:=c) (by simpa using h)
  rw [Nat.shiftLeft_eq] at this
  simpa using this.symm
theorem xy_ (n c:Nat) (hn:n<281474976710656) (hc:c<256):wC_ .i64 ((n*256:Nat):Int) (c:Int)=((n*256+c:Nat):Int):=by
  have e:∀m:Nat,BitVec.ofInt 64 (m:Int)=BitVec.ofNat 64 m:=fun m=>by
    apply BitVec.eq_of_toNat_eq
    simp [BitVec.toNat_ofInt]
  show IntKind.wrap .i64 ((BitVec.ofInt 64 ((n*256:Nat):Int) ||| BitVec.ofInt 64 (c:Int)).toNat:Int)=_
  rw [e,e,BitVec.toNat_or,BitVec.toNat_ofNat,BitVec.toNat_ofNat,Nat.mod_eq_of_lt (by omega),Nat.mod_eq_of_lt (by omega),C9_ n c hc]
  exact aF_ (by omega) (by omega)
theorem FT_ (n:Nat) (h:n<36028797018963968):shift .shl .i64 (n:Int) 8=some ((n*256:Nat):Int):=by
  simp only [shift]
  rw [if_neg (by omega)]
  congr 1
  rw [show (Int.toNat 8)=8 from rfl,show min 8 IntKind.i64.bits=8 from rfl]
  rw [aF_ (by omega) (by omega)]
  simp
theorem xf_ (s:ByteArray):∀(t pre:List UInt8) (v:Nat),s.data.toList=pre++t→s.size≤6→(v:Int)<256^pre.length→
    Wp (fun k=>fd_ k s (v:Int) (pre.length:Int)) (· =t.foldl (fun v c=>v*256+(c.toNat:Int)) (v:Int))
  | [],pre,v,h,hs,hv=>by
    refine Wp.step ?_
    have:=g3_ h
    simp only [List.length_nil] at this
    simp only [fd_]
    simp (disch:=omega) only [af_,if_neg]
    exact Wp.ret rfl
  | c::t,pre,v,h,hs,hv=>by
    refine Wp.step ?_
    have hl:=g3_ h
    simp only [List.length_cons] at hl
    have hp:=wj_ (n:=pre.length) (by omega)
    have hp':=wj_ (n:=pre.length+1) (by omega)
    rw [Int.pow_succ] at hp'
    have hc:=c.toNat_lt
    simp only [fd_]
    simp (disch:=omega) only [af_,if_pos,oN_ h,Option.bind_some,aF_,FT_,xy_]
    have ih:=xf_ s t (pre++[c]) (v*256+c.toNat) (by simpa using h) hs (by
      rw [List.length_append,List.length_singleton,Int.pow_succ];omega)
    rw [←aR_] at ih
    rw [List.foldl_cons]
    have e:((v*256+c.toNat:Nat):Int)=(v:Int)*256+(c.toNat:Int):=by omega
    rw [e] at ih⊢
    exact ih
theorem xa_ (s:ByteArray) (h:s.size≤6):Wp (fun k=>jM_ k s) (· =EQ_ s.data.toList):=xf_ s s.data.toList [] 0 rfl h (by decide)
def at' (b:ByteArray) (i:Nat):UInt8:=b.data.toList.getD i 0
theorem iK_ {b:ByteArray} {i:Nat} (h:i<b.size):tv_ b (i:Int)=some (at' b i):=by
  unfold tv_ at'
  rw [if_neg (by omega),Int.toNat_natCast]
  have e:b[i]? =some (b[i]'h):=by simp [h]
  rw [e]
  have:b.data.toList[i]? =some (b[i]'h):=by
    rw [Array.getElem?_toList,Array.getElem?_eq_getElem (show i<b.data.size from h)];rfl
  rw [List.getD_eq_getElem?_getD,this];rfl
def vl_:ad_:=⟨0,0,0,0,0,0,0,false,noB⟩
def CJ_ (b:ByteArray) (i j:Nat):Int:=EQ_ (b.extract i j).data.toList
def lA_ (b:ByteArray):ad_:=
  if ((at' b 0).toNat:Int)=1 then ⟨(at' b 0).toNat,(at' b 1).toNat,CJ_ b 2 4,CJ_ b 4 6,CJ_ b 6 10,(at' b 10).toNat,0,false,noB⟩
  else ⟨(at' b 0).toNat,(at' b 1).toNat,CJ_ b 2 4,CJ_ b 4 6,0,0,CJ_ b 6 10,(((at' b 10).toNat:Int)==1),b.extract 11 b.size⟩
def s4_ (s b:ByteArray) (w:Int):ad_×Bool:=
  if (1≤w∧w≤8)∧w+11≤s.size then (if le_ (lA_ (s.extract w.toNat s.size)) b w=s then (lA_ (s.extract w.toNat s.size),true) else (vl_,false)) else (vl_,false)
theorem fs_ (s:ByteArray) (i j:Nat):(s.extract i j).size=min j s.size-i:=by simp
theorem wu (c:UInt8):IntKind.wrap .i64 (c.toNat:Int)=(c.toNat:Int):=by have:=c.toNat_lt;exact aF_ (by omega) (by omega)
theorem we_ (s b:ByteArray) (w:Int) (hs:s.size≤1048576):Wp (fun k=>eN_ k s b w) (· =s4_ s b w):=by
  unfold eN_ s4_
  refine Wp.bind (cU_ _ _ _) (fun _ e=> ?_);subst e
  simp only [inB,aD_,af_]
  refine Wp.ite (fun h1=> ?_) (fun h1=>Wp.ret (by rw [if_neg (fun h=>h1 h.1)];rfl))
  rw [aF_ (by omega) (by omega)]
  refine Wp.ite (fun h2=>Wp.ret (by rw [if_neg (fun h=>by omega)];rfl)) (fun h2=> ?_)
  rw [if_pos ⟨h1,by omega⟩]
  refine Wp.opt (dz_ (by omega)) ?_
  dsimp only
  rw [Int.toNat_natCast]
  have hsz:(s.extract w.toNat s.size).size=s.size-w.toNat:=by rw [fs_];omega
  have hge:11≤(s.extract w.toNat s.size).size:=by omega
  generalize hb:s.extract w.toNat s.size=B at hsz hge⊢
  have key:∀p:ad_,Wp (fun k=>(cS_ k p b w).bind fun r16=>
   bif (!(r16.toList==s.toList)) then some (vl_,false) else some (p,true)) (· =if le_ p b w=s then (p,true) else (vl_,false)):=fun p=>by
    refine Wp.bind (pD_ p b w) (fun _ e=> ?_);subst e
    simp only [aD_,cm_]
    exact Wp.ite (fun h=>Wp.ret (by rw [if_pos h])) (fun h=>Wp.ret (by rw [if_neg h]))
  have hBs:B.size≤1048576:=by omega
  refine Wp.opt (iK_ (i:=0) (by omega)) ?_
  refine Wp.opt (iK_ (i:=1) (by omega)) ?_
  refine Wp.opt (dz_ (by omega)) ?_
  refine Wp.bind (tk_ _ (by rw [fs_];simp;omega)) (fun _ e=> ?_);subst e
  refine Wp.opt (dz_ (by omega)) ?_
  refine Wp.bind (tk_ _ (by rw [fs_];simp;omega)) (fun _ e=> ?_);subst e
  simp only [wu,eK_]
  refine Wp.ite (fun hk=> ?_) (fun hk=> ?_)
  ·refine Wp.opt (dz_ (by omega)) ?_
   refine Wp.bind (tk_ _ (by rw [fs_];simp;omega)) (fun _ e=> ?_);subst e
   refine Wp.opt (iK_ (i:=10) (by omega)) ?_
   refine Wp.step ?_
   simp only [cp_,wu]
   have:=key (lA_ B)
   unfold lA_ at this⊢
   rw [if_pos hk] at this⊢
   exact this
  ·refine Wp.opt (dz_ (by omega)) ?_
   refine Wp.bind (tk_ _ (by rw [fs_];simp;omega)) (fun _ e=> ?_);subst e
   refine Wp.opt (iK_ (i:=10) (by omega)) ?_
   refine Wp.opt (dz_ (by omega)) ?_
   refine Wp.step ?_
   simp only [cp_,wu]
   have:=key (lA_ B)
   unfold lA_ at this⊢
   rw [if_neg hk] at this⊢
   exact this
theorem vH_ {p:ad_} {b s:ByteArray} {w:Int} (h:¬(t5_ p∧b.size≤30)) (hs:11≤s.size):le_ p b w≠s:=by
  unfold le_
  rw [if_neg (fun h'=>h ⟨h'.1,h'.2.2⟩)]
  intro e
  rw [←e] at hs
  simp [fz_] at hs
theorem wc_ (s b:ByteArray) (w:Int) (hs:s.size≤1048576):Wp (fun k=>eM_ k s b w) (· =s4_ s b w):=by
  unfold eM_ s4_
  simp only [af_]
  refine Wp.ite (fun h1=>Wp.ret (by rw [if_neg (fun h=>by omega)];rfl)) (fun h1=> ?_)
  refine Wp.ite (fun h2=>Wp.ret (by rw [if_neg (fun h=>by omega)];rfl)) (fun h2=> ?_)
  refine Wp.ite (fun h3=>Wp.ret ?_) (fun h3=> ?_)
  ·split
   ·rename_i h
    rw [if_neg (vH_ (fun h'=>by omega) (by omega))];rfl
   ·rfl
  rw [aF_ (by omega) (by omega)]
  refine Wp.ite (fun h4=>Wp.ret (by rw [if_neg (fun h=>by omega)];rfl)) (fun h4=> ?_)
  rw [if_pos ⟨by omega,by omega⟩]
  refine Wp.opt (dz_ (by omega)) ?_
  dsimp only
  rw [Int.toNat_natCast]
  have hsz:(s.extract w.toNat s.size).size=s.size-w.toNat:=by rw [fs_];omega
  have hge:11≤(s.extract w.toNat s.size).size:=by omega
  generalize hb:s.extract w.toNat s.size=B at hsz hge⊢
  have key:∀p:ad_,Wp (fun k=>(a4_ k p).bind fun r15=>bif (!r15) then some (vl_,false) else (c0_ k p b w).bind fun r16=>
   bif (!(r16.toList==s.toList)) then some (vl_,false) else some (p,true)) (· =if le_ p b w=s then (p,true) else (vl_,false)):=fun p=>by
    refine Wp.bind (ed_ p) (fun _ e=> ?_);subst e
    simp only [aD_,af_]
    refine Wp.ite (fun hf=> ?_) (fun hf=>Wp.ret (by rw [if_neg (vH_ (fun h'=>hf h'.1) (by omega))]))
    refine Wp.bind (pL_ p b w) (fun _ e=> ?_);subst e
    simp only [aD_,cm_]
    exact Wp.ite (fun h=>Wp.ret (by rw [if_pos h])) (fun h=>Wp.ret (by rw [if_neg h]))
  have hBs:B.size≤1048576:=by omega
  refine Wp.opt (iK_ (i:=0) (by omega)) ?_
  refine Wp.opt (iK_ (i:=1) (by omega)) ?_
  refine Wp.opt (dz_ (by omega)) ?_
  refine Wp.bind (xa_ _ (by rw [fs_];simp;omega)) (fun _ e=> ?_);subst e
  refine Wp.opt (dz_ (by omega)) ?_
  refine Wp.bind (xa_ _ (by rw [fs_];simp;omega)) (fun _ e=> ?_);subst e
  simp only [wu,eK_]
  refine Wp.ite (fun hk=> ?_) (fun hk=> ?_)
  ·refine Wp.opt (dz_ (by omega)) ?_
   refine Wp.bind (xa_ _ (by rw [fs_];simp;omega)) (fun _ e=> ?_);subst e
   refine Wp.opt (iK_ (i:=10) (by omega)) ?_
   refine Wp.step ?_
   simp only [bi_,wu]
   have:=key (lA_ B)
   unfold lA_ at this⊢
   rw [if_pos hk] at this⊢
   exact this
  ·refine Wp.ite (fun hk2=> ?_) (fun hk2=> ?_)
   ·refine Wp.opt (dz_ (by omega)) ?_
    refine Wp.bind (xa_ _ (by rw [fs_];simp;omega)) (fun _ e=> ?_);subst e
    refine Wp.opt (iK_ (i:=10) (by omega)) ?_
    refine Wp.opt (dz_ (by omega)) ?_
    refine Wp.step ?_
    simp only [bi_,wu]
    have:=key (lA_ B)
    unfold lA_ at this⊢
    rw [if_neg hk] at this⊢
    exact this
   ·refine Wp.step ?_
    simp only [bi_,wu]
    have hno:¬t5_ (lA_ B):=fun hf=>by
      have hK:(lA_ B).Kind=1∨(lA_ B).Kind=2:=by rcases hf.2.2.2 with h | h<;>omega
      unfold lA_ at hK
      rw [if_neg hk] at hK
      exact hK.elim hk hk2
    rw [if_neg (vH_ (fun h=>hno h.1) (by omega))]
    refine Wp.bind (ed_ _) (fun _ e=> ?_);subst e
    rw [decide_eq_false]
    ·exact Wp.ret rfl
    ·intro hf
     have hK:(((at' B 0).toNat:Int))=1∨(((at' B 0).toNat:Int))=2:=hf.2.2.2.elim (fun h=> .inl h.1) (fun h=> .inr h.1)
     exact hK.elim hk hk2
end Km.X
namespace Km.X
open Go Km
set_option linter.unusedVariables false
set_option linter.unusedSimpArgs false
theorem zC_ {e:ao_} (h:VEnd e):VEnd (gE_ e).End:=by
  obtain ⟨h1,h2,h3,h4,h5,h6,h7,h8⟩:=h
  have h:VEnd e:=⟨h1,h2,h3,h4,h5,h6,h7,h8⟩
  have hs:=(yV_ e h).1
  have hz:e.Peer=0→Bb_ (eA_ e).1∧z9_ e.Take:=fun hp=>by unfold eA_;rw [if_pos hp];exact h7 hp
  unfold gE_
  rw [if_pos h]
  split
  ·rename_i hu
   have nu:∀q:Prop,(e.Up=false→q):=fun q g=>by rw [hu] at g;cases g
   split
   ·exact ⟨h1,h2,h3,⟨by simp,by simp⟩,hs,h6,hz,nu _⟩
   ·refine ⟨h1,h2,h3, ?_,hs,h6,hz,nu _⟩
    show 0≤upS e∧upS e≤1000000
    unfold upS;split<;>omega
  ·exact h
theorem DL_ {e:ao_} {p:ad_} (h:VEnd e) (hu:e.Up=true) (hf:t5_ p):VEnd (Ai_ e p)∧(Ai_ e p).Up=true:=by
  unfold Ai_
  split
  ·refine ⟨⟨h.1,h.2.1, ?_,h.2.2.2.1,s1_,sS_,fun _=>⟨FR_,F1_⟩,fun g=> ?_⟩,hu⟩
   ·have:=hf.2.1;have:=h.2.2.1
    show 0≤p.Mine∧p.Mine≤1000;omega
   ·change e.Up=false at g;rw [hu] at g;cases g
  ·exact ⟨h,hu⟩
theorem yJ_ {e:ao_} {p:ad_} (h:VEnd e) (hf:t5_ p) (hm:¬p.Mine<e.Peer):(Ai_ e p).Peer=p.Mine:=by
  unfold Ai_;split
  ·rfl
  ·omega
theorem BD_ {e:ao_} {p:ad_} (h:VEnd e) (hu:e.Up=true) (hp:e.Peer≠0):VEnd (ve_ e p).End:=by
  obtain ⟨h1,h2,h3,h4,h5,h6,h7,h8⟩:=h
  have nu:∀q:Prop,(e.Up=false→q):=fun q g=>by rw [hu] at g;cases g
  unfold ve_
  split
  ·split
   ·exact ⟨h1,h2,h3,h4,Ag_ _ _ _,h6,fun g=>absurd g hp,nu _⟩
   ·exact ⟨h1,h2,h3,h4,h5,Bg_ _ _ _,fun g=>absurd g hp,nu _⟩
  ·exact ⟨h1,h2,h3,h4,h5,h6,fun g=>absurd g hp,nu _⟩
theorem Be_ {e:ao_} (p:ad_) (h:VEnd e):VEnd (qw_ e p).End:=by
  unfold qw_
  rw [if_pos h]
  split
  ·rename_i hc
   obtain ⟨g1,g2⟩:=DL_ h hc.1 hc.2.1
   refine BD_ g1 g2 ?_
   rw [yJ_ h hc.2.1 hc.2.2.2]
   have:=hc.2.1.2.1;omega
  ·exact h
theorem Bj_ {e:ao_} (h:VEnd e) (hc:(ly_ e).Code=0):VEnd (ly_ e).End∧e.Up=true∧e.Peer≠0∧(ly_ e).Text.size≤200:=by
  unfold ly_ at hc⊢
  rw [if_pos h] at hc⊢
  split at hc
  ·rename_i hu
   rw [if_pos hu]
   split at hc
   ·rename_i hr
    rw [if_pos hr]
    obtain ⟨h1,h2,h3,h4,h5,h6,h7,h8⟩:=h
    have hp:e.Peer≠0:=fun e0=>by
      have hz:=(h7 e0).2.2.2.2
      unfold qi_ at hr
      rw [if_pos h6] at hr
      split at hr
      ·cases hr
      ·rename_i s rs hrr;rw [hrr] at hz;cases hz
    refine ⟨⟨h1,h2,h3,h4,h5,(w0_ _).1,fun g=>absurd g hp,fun g=> ?_⟩,hu,hp,(w0_ _).2⟩
    change e.Up=false at g;rw [hu] at g;cases g
   ·cases hc
  ·cases hc
theorem uU_ {e:ao_} (h:VEnd e):(gE_ e).End.Number=e.Number:=by
  unfold gE_;rw [if_pos h];split
  ·split<;>rfl
  ·rfl
theorem za_ {e:ao_} (p:ad_) (h:VEnd e):(qw_ e p).End.Number=e.Number:=by
  unfold qw_;rw [if_pos h];split
  ·unfold ve_ Ai_;repeat' split
   all_goals rfl
  ·rfl
theorem zH_ {e:ao_} (h:VEnd e) (hc:(ly_ e).Code=0):(ly_ e).End.Number=e.Number:=by
  unfold ly_ at hc⊢
  rw [if_pos h] at hc⊢
  split at hc
  ·rename_i hu;rw [if_pos hu]
   split at hc
   ·rename_i hr;rw [if_pos hr]
   ·cases hc
  ·cases hc
theorem ln_ {e:ao_} (h:VEnd e):(gE_ e).Out.length≤61:=by
  have h2:=(yV_ e h).2
  unfold gE_;rw [if_pos h];split
  ·split
   ·simp;omega
   ·simp;omega
  ·simp
def yl_ (b:ByteArray) (wd to:Int) (p:ad_):ac_:=⟨to,le_ p b wd,le_ p b wd⟩
def A4_ (b:ByteArray) (wd to:Int) (out:List ad_) (fl:List ac_):List ac_:=fl++(out.map (yl_ b wd to)).take (1000-fl.length)
def gc_ (n:Int) (l:List ao_):ao_:=match l with | [e,f]=>if n=1 then e else f | _=>n5_
def sD_ (n:Int) (x:ao_) (l:List ao_):List ao_:=match l with | [e,f]=>if n=1 then [x,f] else [e,x] | l=>l
def hr_ (w:ae_):ae_:=
  ⟨w.Key,w.Width,[(gE_ (gc_ 1 w.Ends)).End,(gE_ (gc_ 2 w.Ends)).End],A4_ w.Key w.Width 1 (gE_ (gc_ 2 w.Ends)).Out (A4_ w.Key w.Width 2 (gE_ (gc_ 1 w.Ends)).Out w.Flight),w.Forged,w.Given,w.Taken⟩
def e9_ (w:ae_) (p:ac_):ae_:=
  if (s4_ p.Bytes w.Key w.Width).2=true then
   ⟨w.Key,w.Width,sD_ p.To (qw_ (gc_ p.To w.Ends) (s4_ p.Bytes w.Key w.Width).1).End w.Ends,w.Flight,if¬p.Bytes=p.Sent∧w.Forged=noB then p.Bytes else w.Forged,w.Given,w.Taken⟩
  else w
def pc_ (w:ae_) (n:Int):ae_:=
  if w.Given.length+w.Taken.length<400∧(ly_ (gc_ n w.Ends)).Code=0 then
   ⟨w.Key,w.Width,sD_ n (ly_ (gc_ n w.Ends)).End w.Ends,w.Flight,w.Forged,w.Given,w.Taken++[⟨3-n,(gc_ n w.Ends).Peer,(gc_ n w.Ends).Life,(ly_ (gc_ n w.Ends)).Text⟩]⟩
  else w
def Dw_ (w:ae_) (n:Int) (t:ByteArray):ae_:=
  if w.Given.length+w.Taken.length<400∧(An_ (gc_ n w.Ends) t).Code=0 then
   ⟨w.Key,w.Width,sD_ n (An_ (gc_ n w.Ends) t).End w.Ends,w.Flight,w.Forged,w.Given++[⟨n,(gc_ n w.Ends).Life,(gc_ n w.Ends).Peer,t⟩],w.Taken⟩
  else w
def hm_ (w:ae_) (fl:List ac_):ae_:=⟨w.Key,w.Width,w.Ends,fl,w.Forged,w.Given,w.Taken⟩
def Ei_ (w:ae_) (n:Int) (x:ao_):ae_:=⟨w.Key,w.Width,sD_ n x w.Ends,w.Flight,w.Forged,w.Given,w.Taken⟩
def AH_ (w:ae_) (v:nR_):ae_:=
  if v.Kind=8 then Ei_ w v.A (Ch_ (gc_ v.A w.Ends))
  else if v.Kind=9 then Ei_ w v.A (BA_ (gc_ v.A w.Ends))
  else if v.Kind=10 then Dw_ w v.A v.Text
  else pc_ w v.A
def ju_:ae_:=⟨noB,0,[],[],noB,[],[]⟩
theorem fF_:∀{l:List ao_},ox_ l→∃e f,l=[e,f]∧VEnd e∧e.Number=1∧VEnd f∧f.Number=2
  | [a,b],h=>⟨a,b,rfl,h.1.1,h.1.2,h.2.1,h.2.2⟩
theorem sH_ {e f:ao_} (h1:VEnd e) (h2:e.Number=1) (h3:VEnd f) (h4:f.Number=2):ox_ [e,f]:=⟨⟨h1,h2⟩,⟨h3,h4⟩⟩
theorem sJ_ {l:List ao_} (h:ox_ l) {n:Int} (hn:1≤n∧n≤2):VEnd (gc_ n l)∧(gc_ n l).Number=n:=by
  obtain ⟨e,f,rfl,h1,h2,h3,h4⟩:=fF_ h
  unfold gc_
  dsimp only
  split
  ·rename_i hh;exact ⟨h1,by omega⟩
  ·exact ⟨h3,by omega⟩
theorem yX_ {l:List ao_} (h:ox_ l) {n:Int} (hn:1≤n∧n≤2) {x:ao_} (hx:VEnd x) (hx':x.Number=n):ox_ (sD_ n x l):=by
  obtain ⟨e,f,rfl,h1,h2,h3,h4⟩:=fF_ h
  unfold sD_
  dsimp only
  split
  ·rename_i hh;exact sH_ hx (by omega) h3 h4
  ·exact sH_ h1 h2 hx (by omega)
theorem oT_ {b:ByteArray} {wd to:Int} {out:List ad_} {fl:List ac_} (h:fl.length≤1000):(A4_ b wd to out fl).length≤1000:=by
  unfold A4_;simp;omega
theorem Bd_ {b:ByteArray} {wd to:Int} {out:List ad_} {fl:List ac_} (h:kH_ fl) (ht:1≤to∧to≤2):kH_ (A4_ b wd to out fl):=fun p hp=>by
  unfold A4_ at hp
  simp only [List.mem_append] at hp
  rcases hp with hp | hp
  ·exact h p hp
  ·have:=List.mem_of_mem_take hp
   simp only [List.mem_map] at this
   obtain ⟨q,_,rfl⟩:=this
   have:=x8_ q b wd
   exact ⟨ht,by show (le_ q b wd).size≤100;omega,by show (le_ q b wd).size≤100;omega⟩
theorem na_ {w:ae_} (h:aV_ w):aV_ (hr_ w):=by
  obtain ⟨h1,h2,h3,h4,h5,h6,h7,h8⟩:=h
  obtain ⟨e1,e2⟩:=sJ_ h5 (n:=1) (by omega)
  obtain ⟨f1,f2⟩:=sJ_ h5 (n:=2) (by omega)
  exact ⟨h1,h2,oT_ (oT_ h3),h4,sH_ (zC_ e1) ((uU_ e1).trans e2) (zC_ f1) ((uU_ f1).trans f2),Bd_ (Bd_ h6 (by omega)) (by omega),h7,h8⟩
theorem sv_ {w:ae_} (h:aV_ w) {p:ac_} (hp:1≤p.To∧p.To≤2):aV_ (e9_ w p):=by
  unfold e9_
  split
  ·obtain ⟨h1,h2,h3,h4,h5,h6,h7,h8⟩:=h
   obtain ⟨e1,e2⟩:=sJ_ h5 hp
   exact ⟨h1,h2,h3,h4,yX_ h5 hp (Be_ _ e1) ((za_ _ e1).trans e2),h6,h7,h8⟩
  ·exact h
theorem xj_ {l:List ab_} {r:ab_} (h:fV_ l) (hr:CB_ r):fV_ (l++[r]):=fun x hx=>by
  simp only [List.mem_append,List.mem_singleton] at hx
  rcases hx with hx | rfl
  ·exact h x hx
  ·exact hr
theorem vG_ {w:ae_} (h:aV_ w) {n:Int} (hn:1≤n∧n≤2):aV_ (pc_ w n):=by
  unfold pc_
  split
  ·rename_i hc
   obtain ⟨h1,h2,h3,h4,h5,h6,h7,h8⟩:=h
   obtain ⟨e1,e2⟩:=sJ_ h5 hn
   obtain ⟨g1,g2,g3,g4⟩:=Bj_ e1 hc.2
   have hp:=e1.2.2.1
   exact ⟨h1,h2,h3,by simp only [List.length_append,List.length_singleton];omega,yX_ h5 hn g1 ((zH_ e1 hc.2).trans e2),h6,h7,xj_ h8 ⟨by simp only;omega,by simp only;omega,e1.2.1,g4⟩⟩
  ·exact h
theorem ys_ {w:ae_} (h:aV_ w) {fl:List ac_} (h1:fl.length≤1000) (h2:kH_ fl):aV_ (hm_ w fl):=by
  obtain ⟨g1,g2,g3,g4,g5,g6,g7,g8⟩:=h
  exact ⟨g1,g2,h1,g4,g5,h2,g7,g8⟩
end Km.X
namespace Km.X
open Go Km
set_option linter.unusedVariables false
set_option linter.unusedSimpArgs false
theorem m8_ {l:List ao_} (h:ox_ l) {n:Int} (hn:1≤n∧n≤2):idx l (IntKind.wrap .i64 (n-1))=some (gc_ n l)∧l[Int.toNat (IntKind.wrap .i64 (n-1))]? =some (gc_ n l)∧∀x,l.set (Int.toNat (IntKind.wrap .i64 (n-1))) x=sD_ n x l:=by
  obtain ⟨e,f,rfl,_⟩:=fF_ h
  rw [aF_ (by omega) (by omega)]
  have hc:n=1∨n=2:=by omega
  rcases hc with rfl | rfl
  ·exact ⟨rfl,rfl,fun _=>rfl⟩
  ·exact ⟨rfl,rfl,fun _=>rfl⟩
theorem wS_ (b:ByteArray) (wd to:Int) (p:ad_) (t:List ad_) (fl:List ac_) (h:fl.length<1000):fl++((p::t).map (yl_ b wd to)).take (1000-fl.length)=(fl++[yl_ b wd to p])++(t.map (yl_ b wd to)).take (1000-(fl++[yl_ b wd to p]).length):=by
  rw [List.map_cons,show 1000-fl.length=(1000-(fl.length+1))+1 by omega,List.take_succ_cons]
  simp
theorem w5_ (b:ByteArray) (wd to:Int) (t:List ad_) (fl:List ac_) (h:¬fl.length<1000):fl++(t.map (yl_ b wd to)).take (1000-fl.length)=fl:=by
  rw [show 1000-fl.length=0 by omega];simp
theorem Ct_ (K Fo:ByteArray) (W:Int) (Gi Ta:List ab_) (Es:List ao_) (i n i':Int) (hi:0≤i∧i≤1) {Q:ae_→Prop}:∀(t pre:List ad_) (fl:List ac_),(pre++t).length≤1000→fl.length≤1000→
    Wp (fun k=>a8_ k n (IntKind.wrap .i64 (i'+1)) K W Fo Es (fl++(t.map (yl_ K W (2-i))).take (1000-fl.length)) Gi Ta) Q→
    Wp (fun k=>bV_ k i n i' ((pre++t).length:Int) (pre.length:Int) K W Fo (pre++t) Es fl Gi Ta) Q
  | [],pre,fl,hl,hf,h=>by
    refine Wp.step ?_
    simp only [bV_,List.append_nil]
    simp (disch:=omega) only [af_,if_neg]
    simpa using h
  | p::t,pre,fl,hl,hf,h=>by
    refine Wp.step ?_
    have hl':=hl
    simp only [List.length_append,List.length_cons] at hl
    simp only [bV_]
    simp only [af_,a0_,if_true,av_,bw_,Option.bind_some]
    have ih:=fun (fl2:List ac_) (h2:fl2.length≤1000) (hh:Wp (fun k=>a8_ k n (IntKind.wrap .i64 (i'+1)) K W Fo Es (fl2++(t.map (yl_ K W (2-i))).take (1000-fl2.length)) Gi Ta) Q)=>Ct_ K Fo W Gi Ta Es i n i' hi t (pre++[p]) fl2 (by simpa using hl') h2 hh
    simp only [←aE_,←aR_] at ih
    refine Wp.ite (fun hc=> ?_) (fun hc=> ?_)
    ·refine Wp.bind (pL_ p K W) (fun _ q=> ?_);subst q
     rw [aF_ (n:=2-i) (by omega) (by omega)]
     refine Wp.opt (bf_ (by simp;omega)) ?_
     refine Wp.step ?_
     simp only [cr_]
     rw [aF_ (n:=(pre.length:Int)+1) (by omega) (by omega)]
     refine ih (fl++[yl_ K W (2-i) p]) (by simp;omega) ?_
     rw [←wS_ K W (2-i) p t fl (by omega)];exact h
    ·refine Wp.step ?_
     simp only [cr_]
     rw [aF_ (n:=(pre.length:Int)+1) (by omega) (by omega)]
     refine ih fl hf ?_
     rw [w5_ _ _ _ _ _ (by omega)] at h⊢;exact h
theorem uk_ (w:ae_) (h:aV_ w):Wp (fun k=>eV_ k w) (· =hr_ w):=by
  obtain ⟨K,W,Es,Fl,Fo,Gi,Ta⟩:=w
  obtain ⟨h1,h2,h3,h4,h5,h6,h7,h8⟩:=h
  obtain ⟨e,f,he,e1,e2,f1,f2⟩:=fF_ h5
  dsimp only at he;subst he
  have he1:=ln_ e1
  have hf1:=ln_ f1
  unfold eV_
  have len2:(([e,f]:List ao_).length:Int)=2:=rfl
  have len2':∀x:ao_,(([x,f]:List ao_).length:Int)=2:=fun _=>rfl
  dsimp only
  rw [len2]
  refine Wp.step ?_
  simp only [a8_]
  have i0:∀x y:ao_,idx [x,y] 0=some x:=fun _ _=>rfl
  have g0:∀x y:ao_,[x,y][Int.toNat 0]? =some x:=fun _ _=>rfl
  have s0:∀x y z:ao_,[x,y].set (Int.toNat 0) z=[z,y]:=fun _ _ _=>rfl
  have i1:∀x y:ao_,idx [x,y] 1=some y:=fun _ _=>rfl
  have g1:∀x y:ao_,[x,y][Int.toNat 1]? =some y:=fun _ _=>rfl
  have s1:∀x y z:ao_,[x,y].set (Int.toNat 1) z=[x,z]:=fun _ _ _=>rfl
  simp (disch:=omega) only [af_,if_pos,i0,g0,Option.bind_some]
  refine Wp.bind (nC_ e) (fun _ q=> ?_);subst q
  rw [s0]
  refine Ct_ K Fo W Gi Ta _ 0 2 0 (by omega) (gE_ e).Out [] Fl (by simp;omega) h3 ?_
  rw [aF_ (n:=(0:Int)+1) (by omega) (by omega)]
  refine Wp.step ?_
  simp only [a8_]
  simp (disch:=omega) only [af_,if_pos,Int.zero_add,i1,g1,Option.bind_some]
  refine Wp.bind (nC_ f) (fun _ q=> ?_);subst q
  rw [s1]
  have hpl:=oT_ (b:=K) (wd:=W) (to:=2) (out:=(gE_ e).Out) (show Fl.length≤1000 from h3)
  refine Ct_ K Fo W Gi Ta _ 1 2 1 (by omega) (gE_ f).Out [] (A4_ K W 2 (gE_ e).Out Fl) (by simp;omega) hpl ?_
  rw [aF_ (n:=(1:Int)+1) (by omega) (by omega)]
  refine Wp.step ?_
  simp only [a8_]
  simp (disch:=omega) only [af_,if_neg]
  exact Wp.ret rfl
theorem zt_ (K Fo k1 k2 k3 Op Tx:ByteArray) (W z:Int) (c n:Int) (u:Bool) (li p s:Int) (o:Bool) (b nx:Int) (Gi Ta:List ab_) (Es E2:List ao_) (F2:List ac_) (G2 T2:List ab_) (i:Int) (hi:0≤i∧i≤1) {Q:ae_→Prop}:∀(t pre:List ad_) (fl:List ac_),(pre++t).length≤1000→fl.length≤1000→
    Wp (fun k=>bN_ k (IntKind.wrap .i64 (i+1)) K W Fo k1 z k2 Es (fl++(t.map (yl_ K W (2-i))).take (1000-fl.length)) Gi Ta E2 F2 G2 T2) Q→
    Wp (fun k=>du_ k i (pre.length:Int) K W Fo k1 z k2 c n u li p s o b nx Op Tx Es fl Gi Ta E2 F2 G2 T2 (pre++t)) Q
  | [],pre,fl,hl,hf,h=>by
    refine Wp.step ?_
    simp only [du_,List.append_nil]
    simp (disch:=omega) only [af_,if_neg]
    simpa using h
  | q::t,pre,fl,hl,hf,h=>by
    refine Wp.step ?_
    have hl':=hl
    simp only [List.length_append,List.length_cons] at hl
    simp only [du_]
    simp only [af_,a0_,if_true,av_,bw_,Option.bind_some]
    have ih:=fun (fl2:List ac_) (h2:fl2.length≤1000) (hh:Wp (fun k=>bN_ k (IntKind.wrap .i64 (i+1)) K W Fo k1 z k2 Es (fl2++(t.map (yl_ K W (2-i))).take (1000-fl2.length)) Gi Ta E2 F2 G2 T2) Q)=>zt_ K Fo k1 k2 k3 Op Tx W z c n u li p s o b nx Gi Ta Es E2 F2 G2 T2 i hi t (pre++[q]) fl2 (by simpa using hl') h2 hh
    simp only [←aE_,←aR_] at ih
    refine Wp.ite (fun hc=> ?_) (fun hc=> ?_)
    ·refine Wp.bind (pD_ q K W) (fun _ e=> ?_);subst e
     rw [aF_ (n:=2-i) (by omega) (by omega)]
     refine Wp.opt (bf_ (by simp;omega)) ?_
     rw [aF_ (n:=(pre.length:Int)+1) (by omega) (by omega)]
     refine ih (fl++[yl_ K W (2-i) q]) (by simp;omega) ?_
     rw [←wS_ K W (2-i) q t fl (by omega)];exact h
    ·rw [w5_ _ _ _ _ _ (by omega)] at h;exact h
theorem tV_ (w:ae_) (h:aV_ w):Wp (fun k=>ii_ k w) (· =hr_ w):=by
  obtain ⟨K,W,Es,Fl,Fo,Gi,Ta⟩:=w
  obtain ⟨h1,h2,h3,h4,h5,h6,h7,h8⟩:=h
  obtain ⟨e,f,he,e1,e2,f1,f2⟩:=fF_ h5
  dsimp only at he;subst he
  have he1:=ln_ e1
  have hf1:=ln_ f1
  unfold ii_
  dsimp only
  refine Wp.step ?_
  simp only [bN_]
  have i0:∀x y:ao_,idx [x,y] 0=some x:=fun _ _=>rfl
  have g0:∀x y:ao_,[x,y][Int.toNat 0]? =some x:=fun _ _=>rfl
  have s0:∀x y z:ao_,[x,y].set (Int.toNat 0) z=[z,y]:=fun _ _ _=>rfl
  have i1:∀x y:ao_,idx [x,y] 1=some y:=fun _ _=>rfl
  have g1:∀x y:ao_,[x,y][Int.toNat 1]? =some y:=fun _ _=>rfl
  have s1:∀x y z:ao_,[x,y].set (Int.toNat 1) z=[x,z]:=fun _ _ _=>rfl
  simp (disch:=omega) only [af_,if_pos,i0,g0,Option.bind_some]
  refine Wp.bind (nQ_ e) (fun _ q=> ?_);subst q
  rw [s0]
  refine zt_ K Fo _ _ noB _ _ W _ _ _ _ _ _ _ _ _ _ Gi Ta _ _ _ _ _ 0 (by omega) (gE_ e).Out [] Fl (by simp;omega) h3 ?_
  rw [aF_ (n:=(0:Int)+1) (by omega) (by omega)]
  refine Wp.step ?_
  simp only [bN_]
  simp (disch:=omega) only [af_,if_pos,Int.zero_add,i1,g1,Option.bind_some]
  refine Wp.bind (nQ_ f) (fun _ q=> ?_);subst q
  rw [s1]
  have hpl:=oT_ (b:=K) (wd:=W) (to:=2) (out:=(gE_ e).Out) (show Fl.length≤1000 from h3)
  refine zt_ K Fo _ _ noB _ _ W _ _ _ _ _ _ _ _ _ _ Gi Ta _ _ _ _ _ 1 (by omega) (gE_ f).Out [] (A4_ K W 2 (gE_ e).Out Fl) (by simp;omega) hpl ?_
  rw [aF_ (n:=(1:Int)+1) (by omega) (by omega)]
  refine Wp.step ?_
  simp only [bN_]
  simp (disch:=omega) only [af_,if_neg]
  exact Wp.ret rfl
theorem Bp_ (K Fo B Sn By:ByteArray) (W:Int) (p:ac_) (q:ad_) (Es:List ao_) (Fl:List ac_) (Gi Ta:List ab_) (h5:ox_ Es) (hp:1≤p.To∧p.To≤2):Wp (fun k=>bJ_ k K W Fo p.To p.Sent p.Bytes q.Kind q.From q.Mine q.Yours q.Next q.Mask q.Seq q.Last q.Part Es Fl Gi Ta) (· =⟨K,W,sD_ p.To (qw_ (gc_ p.To Es) q).End Es,Fl,Fo,Gi,Ta⟩):=by
  refine Wp.step ?_
  simp only [bJ_]
  obtain ⟨a1,a2,a3⟩:=m8_ h5 hp
  simp only [a1,a2,a3,Option.bind_some]
  refine Wp.bind (tA_ _ _) (fun _ e=> ?_);subst e
  exact Wp.ret rfl
theorem sI_ (w:ae_) (h:aV_ w) (p:ac_) (hp:1≤p.To∧p.To≤2) (hs:p.Bytes.size≤100):Wp (fun k=>dc_ k w p) (· =e9_ w p):=by
  obtain ⟨K,W,Es,Fl,Fo,Gi,Ta⟩:=w
  have h5:=h.2.2.2.2.1
  unfold dc_ e9_
  refine Wp.bind (wc_ p.Bytes K W (by omega)) (fun _ e=> ?_);subst e
  dsimp only
  simp only [aD_]
  refine Wp.bif (fun hr=> ?_) (fun hr=>Wp.ret (by rw [if_neg (by simp [hr])]))
  rw [if_pos hr]
  simp only [cm_]
  refine Wp.ite (fun hb=> ?_) (fun hb=> ?_)
  ·refine (Bp_ K Fo noB noB noB W p _ Es Fl Gi Ta h5 hp).mono fun r hr=> ?_
   rw [hr,if_neg (by simp [hb])]
  ·refine Wp.ite (fun hf=> ?_) (fun hf=> ?_)
   ·refine (Bp_ K p.Bytes noB noB noB W p _ Es Fl Gi Ta h5 hp).mono fun r hr=> ?_
    rw [hr,if_pos ⟨hb,hf⟩]
   ·refine (Bp_ K Fo noB noB noB W p _ Es Fl Gi Ta h5 hp).mono fun r hr=> ?_
    rw [hr,if_neg (fun g=>hf g.2)]
theorem AF_ (l:List ac_) (i:Nat) (h:i<l.length):l.take i++l.drop (i+1)=l.eraseIdx i:=(List.eraseIdx_eq_take_drop_succ l i).symm
theorem zy_ {α:Type} (l:List α) (i:Nat):dS_ l 0 i=l.take i:=by simp [dS_]
theorem yu_ {α:Type} (l:List α) (i:Nat):dS_ l i l.length=l.drop i:=by simp [dS_]
theorem r4_ (l:List ac_) (i:Nat) (h:i<l.length) (hl:l.length≤1000):Wp (fun k=>ek_ k l (i:Int)) (· =l.eraseIdx i):=by
  unfold ek_
  refine Wp.opt (dz_ ⟨by omega,by omega,by omega⟩) ?_
  dsimp only
  rw [Int.toNat_natCast,show Int.toNat 0=0 from rfl,zy_]
  refine Wp.opt (bf_ (by simp;omega)) ?_
  rw [aF_ (by omega) (by omega)]
  refine Wp.opt (dz_ ⟨by omega,by omega,by omega⟩) ?_
  dsimp only
  rw [Int.toNat_natCast,show Int.toNat ((i:Int)+1)=i+1 by omega,yu_]
  refine Wp.opt (bf_ (by simp;omega)) ?_
  refine Wp.ret ?_
  rw [←AF_ l i h];simp
theorem Bz_ (K Fo k1 k2:ByteArray) (W z:Int) (p:ac_) (q:ad_) (Es E2:List ao_) (Fl F2:List ac_) (Gi Ta G2 T2:List ab_) (h5:ox_ Es) (hp:1≤p.To∧p.To≤2):Wp (fun k=>cV_ k K W Fo k1 z k2 p.To p.Sent p.Bytes q.Kind q.From q.Mine q.Yours q.Next q.Mask q.Seq q.Last q.Part Es Fl Gi Ta E2 F2 G2 T2) (· =⟨K,W,sD_ p.To (qw_ (gc_ p.To Es) q).End Es,Fl,Fo,Gi,Ta⟩):=by
  refine Wp.step ?_
  simp only [cV_]
  obtain ⟨a1,a2,a3⟩:=m8_ h5 hp
  simp only [a1,a2,a3,Option.bind_some]
  refine Wp.bind (tG_ _ _) (fun _ e=> ?_);subst e
  exact Wp.ret rfl
theorem tf_ (w:ae_) (h:aV_ w) (i:Nat) {p:ac_} (hi:w.Flight[i]? =some p):Wp (fun k=>gS_ k w (i:Int)) (· =e9_ (hm_ w (w.Flight.eraseIdx i)) p):=by
  have hv:A8_ p:=h.2.2.2.2.2.1 p (List.mem_of_getElem? hi)
  have hlt:=(List.getElem?_eq_some_iff.mp hi).1
  obtain ⟨K,W,Es,Fl,Fo,Gi,Ta⟩:=w
  have h5:=h.2.2.2.2.1
  have h3:=h.2.2.1
  dsimp only at hi hlt h3 h5
  unfold gS_ e9_ hm_
  dsimp only
  have e1:idx Fl (i:Int)=some p:=by rw [mN_];exact hi
  have e2:Fl[Int.toNat (i:Int)]? =some p:=by rw [Int.toNat_natCast];exact hi
  simp only [e1,e2,Option.bind_some]
  refine Wp.bind (r4_ Fl i hlt h3) (fun _ e=> ?_);subst e
  refine Wp.bind (we_ p.Bytes K W (by have:=hv.2.2;omega)) (fun _ e=> ?_);subst e
  simp only [aD_]
  refine Wp.bif (fun hr=> ?_) (fun hr=>Wp.ret (by rw [if_neg (by simp [hr])]))
  rw [if_pos hr]
  simp only [cm_]
  refine Wp.ite (fun hb=> ?_) (fun hb=> ?_)
  ·refine (Bz_ K Fo _ _ W _ p _ Es _ _ _ Gi Ta _ _ h5 hv.1).mono fun r hr=> ?_
   rw [hr,if_neg (by simp [hb])]
  ·refine Wp.ite (fun hf=> ?_) (fun hf=> ?_)
   ·refine (Bz_ K p.Bytes _ _ W _ p _ Es _ _ _ Gi Ta _ _ h5 hv.1).mono fun r hr=> ?_
    rw [hr,if_pos ⟨hb,hf⟩]
   ·refine (Bz_ K Fo _ _ W _ p _ Es _ _ _ Gi Ta _ _ h5 hv.1).mono fun r hr=> ?_
    rw [hr,if_neg (fun g=>hf g.2)]
theorem zi_ {a b:Nat} (h:a+b≤400):IntKind.wrap .i64 ((a:Int)+(b:Int))=((a+b:Nat):Int):=by rw [aF_ (by omega) (by omega)];omega
theorem va_ (w:ae_) (h:aV_ w) (n:Int) (hn:1≤n∧n≤2):Wp (fun k=>eL_ k w n) (· =pc_ w n):=by
  obtain ⟨K,W,Es,Fl,Fo,Gi,Ta⟩:=w
  have h5:=h.2.2.2.2.1
  have h4:=h.2.2.2.1
  dsimp only at h4 h5
  unfold eL_ gr_ pc_
  dsimp only
  simp only [Option.bind_some,zi_ h4,af_]
  refine Wp.ite (fun hc=>Wp.ret (by rw [if_neg (by omega)])) (fun hc=> ?_)
  obtain ⟨a1,a2,a3⟩:=m8_ h5 hn
  simp only [a1,a2,a3,Option.bind_some]
  refine Wp.bind (up_ _) (fun _ e=> ?_);subst e
  simp only [eK_]
  refine Wp.ite (fun h0=> ?_) (fun h0=>Wp.ret (by rw [if_neg (fun g=>h0 g.2)]))
  rw [aF_ (n:=3-n) (by omega) (by omega)]
  refine Wp.opt (bf_ (by simp;omega)) ?_
  exact Wp.ret (by rw [if_pos ⟨by omega,h0⟩])
end Km.X
namespace Km.X
open Go Km
set_option linter.unusedVariables false
theorem ns_ (K Fo a c:ByteArray) (W b:Int) (Es:List ao_) (Fl:List ac_) (Gi Ta:List ab_) (E2:List ao_) (F2:List ac_) (G2 T2:List ab_):Wp (fun k=>a3_ k K W Fo a b c Es Fl Gi Ta E2 F2 G2 T2) (· =⟨K,W,Es,Fl,Fo,Gi,Ta⟩):=by
  refine Wp.step ?_
  simp only [a3_]
  exact Wp.ret rfl
theorem xn_ (w:ae_) (h:aV_ w) (v:nR_) (hk:8≤v.Kind∧v.Kind≤11) (hn:1≤v.A∧v.A≤2):Wp (fun k=>jQ_ k w v) (· =AH_ w v):=by
  obtain ⟨K,W,Es,Fl,Fo,Gi,Ta⟩:=w
  have h5:=h.2.2.2.2.1
  have h4:=h.2.2.2.1
  dsimp only at h4 h5
  obtain ⟨a1,a2,a3⟩:=m8_ h5 hn
  unfold jQ_ AH_
  dsimp only
  simp only [a1,a2,a3,Option.bind_some,eK_]
  refine Wp.ite (fun e=> ?_) (fun e=> ?_)
  ·refine Wp.bind (ww_ _) (fun _ e'=> ?_);subst e'
   exact (ns_ ..).mono fun r hr=>by rw [hr,if_pos e];rfl
  rw [if_neg e]
  refine Wp.ite (fun e=> ?_) (fun e=> ?_)
  ·refine Wp.bind (wk_ _) (fun _ e'=> ?_);subst e'
   exact (ns_ ..).mono fun r hr=>by rw [hr,if_pos e];rfl
  rw [if_neg e]
  refine Wp.ite (fun e=> ?_) (fun e=> ?_)
  ·rw [if_pos e]
   refine Wp.bind (u5_ _ _) (fun _ e'=> ?_);subst e'
   simp only [zi_ h4,af_]
   unfold Dw_
   dsimp only
   refine Wp.ite (fun h0=> ?_) (fun h0=> ?_)
   ·refine Wp.ite (fun h1=> ?_) (fun h1=> ?_)
    ·refine Wp.opt (bf_ (by simp;omega)) ?_
     exact (ns_ ..).mono fun r hr=>by rw [hr,if_pos ⟨by omega,h0⟩]
    ·exact (ns_ ..).mono fun r hr=>by rw [hr,if_neg (fun g=>by omega)]
   ·exact (ns_ ..).mono fun r hr=>by rw [hr,if_neg (fun g=>h0 g.2)]
  rw [if_neg e]
  refine Wp.ite (fun e=> ?_) (fun e=>by omega)
  refine Wp.bind (uc_ _) (fun _ e'=> ?_);subst e'
  simp only [zi_ h4,af_]
  unfold pc_
  dsimp only
  refine Wp.ite (fun h0=> ?_) (fun h0=> ?_)
  ·refine Wp.ite (fun h1=> ?_) (fun h1=> ?_)
   ·rw [aF_ (n:=3-v.A) (by omega) (by omega)]
    refine Wp.opt (bf_ (by simp;omega)) ?_
    exact (ns_ ..).mono fun r hr=>by rw [hr,if_pos ⟨by omega,h0⟩]
   ·exact (ns_ ..).mono fun r hr=>by rw [hr,if_neg (fun g=>by omega)]
  ·exact (ns_ ..).mono fun r hr=>by rw [hr,if_neg (fun g=>h0 g.2)]
theorem t6_ (K Fo K' Fo' a c:ByteArray) (W W' b:Int) (Fl Fl':List ac_) (Gi Ta Gi' Ta':List ab_) (E2:List ao_) (F2:List ac_) (G2 T2:List ab_) (hf:Fl.length≤1000) (hg:Gi.length≤1000) (ht:Ta.length≤1000):∀(t pre:List ao_),(pre++t).length≤1000→(∀e∈t,VEnd e)→
    Wp (fun k=>dv_ k (pre.length:Int) K W (pre++t) Fl Fo Gi Ta a b c K' W' Fl' Fo' Gi' Ta' E2 F2 G2 T2 pre) (· =⟨K',W',pre++t,Fl,Fo',Gi,Ta⟩)
  | [],pre,hl,hv=>by
    refine Wp.step ?_
    simp only [dv_]
    simp only [List.append_nil] at hl⊢
    simp (disch:=omega) only [af_,if_neg]
    refine Wp.opt (bf_ (by simp;omega)) ?_
    refine Wp.opt (bf_ (by simp;omega)) ?_
    refine Wp.opt (bf_ (by simp;omega)) ?_
    exact Wp.ret (by simp)
  | e::t,pre,hl,hv=>by
    refine Wp.step ?_
    simp only [dv_]
    simp only [af_]
    simp only [List.length_append,List.length_cons] at hl
    refine Wp.ite (fun _=> ?_) (fun hx=>absurd (by simp;omega) hx)
    simp only [av_,Option.bind_some]
    refine Wp.bind (fG_ e (hv e (by simp))) (fun _ e'=> ?_);have e'':=e'.symm;subst e''
    refine Wp.opt (bf_ (by simp;omega)) ?_
    rw [aF_ (n:=(pre.length:Int)+1) (by omega) (by omega)]
    have:=t6_ K Fo K' Fo' a c W W' b Fl Fl' Gi Ta Gi' Ta' E2 F2 G2 T2 hf hg ht t (pre++[e]) (by simp;omega) (fun x hx=>hv x (by simp [hx]))
    simpa using this
theorem ni_ (w:ae_) (h:aV_ w):Wp (fun k=>ey_ k w) (· =w):=by
  obtain ⟨K,W,Es,Fl,Fo,Gi,Ta⟩:=w
  have h5:=h.2.2.2.2.1
  have h4:=h.2.2.2.1
  have h3:=h.2.2.1
  dsimp only at h3 h4 h5
  obtain ⟨e,f,rfl,a1,_,a2,_⟩:=fF_ h5
  unfold ey_
  have:=t6_ K Fo K Fo noB noB W W 0 Fl Fl Gi Ta Gi Ta [] [] [] [] (by omega) (by omega) (by omega) [e,f] [] (by simp) (by simp [a1,a2])
  simpa using this
theorem t9_ (w:ae_) (h:aV_ w):Wp (fun k=>do_ k w) (· =w):=by
  obtain ⟨K,W,Es,Fl,Fo,Gi,Ta⟩:=w
  have h5:=h.2.2.2.2.1
  have h4:=h.2.2.2.1
  have h3:=h.2.2.1
  dsimp only at h3 h4 h5
  obtain ⟨e,f,rfl,a1,_,a2,_⟩:=fF_ h5
  unfold do_
  refine Wp.opt (bf_ (by simp)) ?_
  refine Wp.step ?_
  simp only [bI_]
  simp only [List.nil_append,List.length_cons,List.length_nil,af_]
  refine Wp.ite (fun _=> ?_) (fun hx=>by omega)
  refine Wp.opt (x:=e) rfl ?_
  refine Wp.opt (x:=e) rfl ?_
  refine Wp.bind (hx_ e a1) (fun _ e'=> ?_);have e'':=e'.symm;subst e''
  refine Wp.opt (x:=e) rfl ?_
  refine Wp.opt (x:=e) rfl ?_
  rw [show IntKind.wrap .i64 (0+1)=1 by rfl]
  refine Wp.step ?_
  simp only [bI_,af_]
  refine Wp.ite (fun _=> ?_) (fun hx=>by omega)
  refine Wp.opt (x:=f) rfl ?_
  refine Wp.opt (x:=f) rfl ?_
  refine Wp.bind (hx_ f a2) (fun _ e'=> ?_);have e'':=e'.symm;subst e''
  refine Wp.opt (x:=f) rfl ?_
  refine Wp.opt (x:=f) rfl ?_
  rw [show IntKind.wrap .i64 (1+1)=2 by rfl]
  refine Wp.step ?_
  simp only [bI_,af_]
  refine Wp.ite (fun hx=>by omega) (fun _=> ?_)
  refine Wp.opt (bf_ (by simp;omega)) ?_
  refine Wp.opt (bf_ (by simp;omega)) ?_
  refine Wp.opt (bf_ (by simp;omega)) ?_
  exact Wp.ret (by rfl)
end Km.X
namespace Km.X
open Go Km
set_option linter.unusedVariables false
theorem vf_ {R:Type} (x:Option R):Km.both x x=x:=by unfold Km.both;rw [if_pos rfl]
section
variable (K Fo t1 t2 Tx:ByteArray) (W z Kd A B C:Int) (Es:List ao_) (Fl:List ac_) (Gi Ta:List ab_) (E2:List ao_) (F2:List ac_) (G2 T2:List ab_)
end
end Km.X
namespace Km.X
open Go Km
set_option linter.unusedVariables false
set_option linter.unusedSimpArgs false
theorem vr_ {x y:wz_}:qo_ x y=true↔x=y:=⟨rP_,fun h=>by subst h;simp [qo_]⟩
instance:DecidableEq wz_:=fun x y=>decidable_of_iff _ vr_
def mget {β:Type} (key:wz_):List (wz_×β)→Option β
  | []=>none
  | (a,b)::l=>if a=key then some b else mget key l
theorem Aj_ {α:Type} (l:List α) (x y:α):(l++[x]).set l.length y=l++[y]:=by simp
end Km.X
namespace Km.X
open Go Km
set_option linter.unusedVariables false
set_option linter.unusedSimpArgs false
theorem Wp.optK {α R:Type} {o:Option α} {A:Nat→Option R} {B:Nat→α→Option R} {Q:R→Prop} (h0:o=none→Wp A Q) (h1:∀p,o=some p→Wp (fun k=>B k p) Q):Wp (fun k=>Km.optK o (A k) (B k)) Q:=by
  cases o with
  | none=>exact h0 rfl
  | some p=>exact h1 p rfl
end Km.X
namespace Km.X
open Go Km
set_option linter.unusedVariables false
set_option linter.unusedSimpArgs false
theorem eq_key_iff {x y:DKey}:el_ x y=true↔x=y:=⟨qM_,fun h=>by subst h;simp [el_]⟩
instance:DecidableEq DKey:=fun x y=>decidable_of_iff _ eq_key_iff
def pk (p:ac_):DKey:=⟨p.To,p.Bytes⟩
def hC_ (h:List DKey) (key:DKey):Nat:=(h.filter (fun x=>decide (x=key))).length
theorem kI_ (h:List DKey) (a key:DKey):hC_ (h++[a]) key=if key=a then hC_ h key+1 else hC_ h key:=by
  unfold hC_
  rw [List.filter_append,List.length_append]
  by_cases e:a=key
  ·subst e;simp
  ·rw [if_neg (fun g=>e g.symm)];simp [e]
theorem uD_ (h:List DKey) (key:DKey):hC_ h key≤h.length:=List.length_filter_le _ _
def u0_ {β:Type} (key:DKey):List (DKey×β)→Option β
  | []=>none
  | (a,b)::l=>if a=key then some b else u0_ key l
theorem rT_ {β:Type} {key:DKey}:∀{l:List (DKey×β)} {i:Nat},dw_ (el_ key) l i=none→u0_ key l=none
  | [],_,_=>rfl
  | (a,b)::l,i,h=>by
    simp only [dw_] at h
    split at h
    ·cases h
    ·rename_i hq
     simp only [u0_]
     rw [if_neg (fun e=>by subst e;rw [eq_key_iff.mpr rfl] at hq;cases hq)]
     exact rT_ h
theorem rL_ {β:Type} {key:DKey}:∀{l:List (DKey×β)} {i j:Nat} {b:β},dw_ (el_ key) l i=some (j,b)→∃d,j=i+d∧l[d]? =some (key,b)∧u0_ key l=some b∧(∀v key',u0_ key' (l.set d (key,v))=if key'=key then some v else u0_ key' l)∧∀v i,dw_ (el_ key) (l.set d (key,v)) i=some (i+d,v)
  | [],_,_,_,h=>by cases h
  | (a,c)::l,i,j,b,h=>by
    simp only [dw_] at h
    split at h
    ·rename_i hq
     have:=qM_ hq;subst this
     cases h
     refine ⟨0,rfl,rfl,by simp only [u0_,if_true],fun v key'=> ?_,fun v i=> ?_⟩
     ·simp only [List.set_cons_zero,u0_]
      by_cases e:key=key'
      ·subst e;simp
      ·rw [if_neg e,if_neg e,if_neg (fun g=>e g.symm)]
     ·simp only [List.set_cons_zero,dw_,eq_key_iff.mpr rfl];rfl
    ·rename_i hq
     have hne:a≠key:=fun e=>by subst e;rw [eq_key_iff.mpr rfl] at hq;cases hq
     obtain ⟨d,e1,e2,e3,e4,e5⟩:=rL_ h
     refine ⟨d+1,by omega,e2,by simp only [u0_];rw [if_neg hne,e3],fun v key'=> ?_,fun v i=> ?_⟩
     ·simp only [List.set_cons_succ,u0_,e4]
      by_cases e:a=key'
      ·subst e;rw [if_pos rfl,if_neg hne,if_pos rfl]
      ·rw [if_neg e,if_neg e]
     ·simp only [List.set_cons_succ,dw_,hq]
      rw [e5];simp;omega
theorem qN_ {β:Type} {key key':DKey} {v:β}:∀(l:List (DKey×β)),u0_ key l=none→u0_ key' (l++[(key,v)])=if key'=key then some v else u0_ key' l
  | [],_=>by
    simp only [List.nil_append,u0_]
    by_cases e:key=key'
    ·subst e;simp
    ·rw [if_neg e,if_neg (fun g=>e g.symm)]
  | (a,b)::l,h=>by
    simp only [u0_] at h
    split at h
    ·cases h
    ·rename_i hne
     simp only [List.cons_append,u0_,qN_ l h]
     by_cases e:a=key'
     ·subst e;rw [if_pos rfl,if_neg hne,if_pos rfl]
     ·rw [if_neg e,if_neg e]
theorem jl_ {β:Type} {key:DKey} {v:β}:∀{l:List (DKey×β)} {i:Nat},dw_ (el_ key) l i=none→dw_ (el_ key) (l++[(key,v)]) i=some (i+l.length,v)
  | [],i,_=>by simp only [List.nil_append,dw_,eq_key_iff.mpr rfl];rfl
  | (a,b)::l,i,h=>by
    simp only [dw_] at h
    split at h
    ·cases h
    ·rename_i hq
     simp only [List.cons_append,dw_,hq]
     rw [jl_ h];simp;omega
def d2_ (ev:Int):List ac_→List DKey→ae_→ae_×List DKey
  | [],h,w=>(w,h)
  | p::t,h,w=>d2_ ev t (h++[pk p]) (if ((hC_ h (pk p):Int)+1)%ev=0 then e9_ w p else w)
def dQ_ (n:Int):Nat→ae_→ae_
  | 0,w=>w
  | d+1,w=>if (gc_ n w.Ends).Take.Ready=[] then w else dQ_ n d (pc_ w n)
def pN_ (ev:Int) (s:ae_×List DKey):ae_×List DKey:=
  (dQ_ 2 4 (dQ_ 1 4 (d2_ ev (hr_ s.1).Flight s.2 (hm_ (hr_ s.1) [])).1),(d2_ ev (hr_ s.1).Flight s.2 (hm_ (hr_ s.1) [])).2)
def lf_ (ev:Int):Nat→ae_×List DKey→ae_×List DKey
  | 0,s=>s
  | d+1,s=>lf_ ev d (pN_ ev s)
def sF_ (w:ae_) (n ev:Int):ae_:=if aV_ w∧(1≤ev∧ev≤10) then (lf_ ev (min n 5000).toNat (w,[])).1 else ju_
theorem tJ_ (ev:Int):∀(t:List ac_) (h:List DKey) (w:ae_),(d2_ ev t h w).2.length=h.length+t.length
  | [],h,w=>rfl
  | p::t,h,w=>by simp only [d2_,tJ_ ev t];simp;omega
theorem sz_ (ev:Int):∀(t:List ac_) (h:List DKey) (w:ae_),aV_ w→kH_ t→aV_ (d2_ ev t h w).1
  | [],h,w,hw,_=>hw
  | p::t,h,w,hw,ht=>by
    simp only [d2_]
    refine sz_ ev t _ _ ?_ (fun x hx=>ht x (by simp [hx]))
    split
    ·exact sv_ hw (ht p (by simp)).1
    ·exact hw
theorem lK_ {n:Int} (hn:1≤n∧n≤2):∀(d:Nat) (w:ae_),aV_ w→aV_ (dQ_ n d w)
  | 0,w,h=>h
  | d+1,w,h=>by
    simp only [dQ_]
    split
    ·exact h
    ·exact lK_ hn d _ (vG_ h hn)
theorem uM_ {w:ae_} (h:aV_ w):aV_ (hm_ w []):=ys_ h (by simp) (fun p hp=>by cases hp)
theorem oX_ {ev:Int} {s:ae_×List DKey} (h:aV_ s.1):aV_ (pN_ ev s).1:=
  lK_ (by omega) 4 _ (lK_ (by omega) 4 _ (sz_ ev _ _ _ (uM_ (na_ h)) (na_ h).2.2.2.2.2.1))
theorem sq_ {ev:Int} {s:ae_×List DKey} (h:aV_ s.1):(pN_ ev s).2.length≤s.2.length+1000:=by
  unfold pN_
  dsimp only
  rw [tJ_]
  have:=(na_ h).2.2.1
  omega
theorem uV_ {ev:Int}:∀(d:Nat) (s:ae_×List DKey),aV_ s.1→aV_ (lf_ ev d s).1
  | 0,s,h=>h
  | d+1,s,h=>uV_ d _ (oX_ h)
theorem Cs_ {w:ae_} (h:aV_ w) {n ev:Int} (he:1≤ev∧ev≤10):aV_ (sF_ w n ev):=by
  unfold sF_;rw [if_pos ⟨h,he⟩];exact uV_ _ _ h
def DC_ (m:List (DKey×Int)) (h:List DKey):Prop:=∀key,(u0_ key m).getD 0=(hC_ h key:Int)
section
variable (a b:ByteArray) (z:Int) (E2:List ao_) (F2:List ac_) (G2 T2:List ab_) (Q:ae_→Prop) (r ev:Int)
theorem FP_ (hev:1≤ev∧ev≤10) (len i:Int) (m:List (DKey×Int)) (p:ac_) (L:List ac_) (w:ae_) (hw:aV_ w) (hp:A8_ p) (c:Nat) (hm:dw_ (el_ (pk p)) m 0=none∧c=0∨∃j,dw_ (el_ (pk p)) m 0=some (j,(c:Int)))
    (go:∀w',w'=(if (c:Int)%ev=0 then e9_ w p else w)→Wp (fun k=>c7_ k r ev len (IntKind.wrap .i64 (i+1)) a z b w'.Key w'.Width w'.Forged m L E2 F2 G2 T2 w'.Ends w'.Flight w'.Given w'.Taken) Q):
    Wp (fun k=>bc_ k r ev len i a z b w.Key w.Width w.Forged m p.To p.Sent p.Bytes p.To p.Bytes L E2 F2 G2 T2 w.Ends w.Flight w.Given w.Taken) Q:=by
  have l19:∀w',w'=(if (c:Int)%ev=0 then e9_ w p else w)→Wp (fun k=>c4_ k r ev len i a z b w'.Key w'.Width w'.Forged m L E2 F2 G2 T2 w'.Ends w'.Flight w'.Given w'.Taken) Q:=fun w' e=>by
    refine Wp.step ?_
    simp only [c4_]
    exact go w' e
  refine Wp.step ?_
  simp only [bc_]
  rw [show (⟨p.To,p.Bytes⟩:DKey)=pk p from rfl]
  have br:=sI_ w hw p hp.1 (by have:=hp.2.2;omega)
  rcases hm with ⟨hm,hc⟩ | ⟨j,hm⟩
  ·subst hc
   simp only [hm,Km.optK]
   refine Wp.opt (aW_ (by omega) (by omega)) ?_
   simp only [eK_]
   refine Wp.ite (fun e=> ?_) (fun e=> ?_)
   ·refine Wp.bind br (fun x hx=> ?_)
    exact l19 x (by rw [if_pos (by simp),hx])
   ·exact l19 w (absurd (Int.zero_emod ev) e)
  ·simp only [hm,Km.optK]
   refine Wp.opt (aW_ (by omega) (by omega)) ?_
   simp only [eK_]
   refine Wp.ite (fun e=> ?_) (fun e=> ?_)
   ·refine Wp.bind br (fun x hx=> ?_)
    exact l19 x (by rw [if_pos e,hx])
   ·exact l19 w (by rw [if_neg e])
theorem FC_ (hev:1≤ev∧ev≤10) (L:List ac_) (hL:L.length≤1000):∀(t pre:List ac_) (m:List (DKey×Int)) (h:List DKey) (w:ae_),pre++t=L→aV_ w→kH_ t→DC_ m h→h.length+t.length≤10000000→
    (∀m',DC_ m' (d2_ ev t h w).2→Wp (fun k=>b9_ k r ev 1 a z b (d2_ ev t h w).1.Key (d2_ ev t h w).1.Width (d2_ ev t h w).1.Forged m' E2 F2 G2 T2 (d2_ ev t h w).1.Ends (d2_ ev t h w).1.Flight (d2_ ev t h w).1.Given (d2_ ev t h w).1.Taken) Q)→
    Wp (fun k=>c7_ k r ev (L.length:Int) (pre.length:Int) a z b w.Key w.Width w.Forged m L E2 F2 G2 T2 w.Ends w.Flight w.Given w.Taken) Q
  | [],pre,m,h,w,he,hw,ht,hm,hh,go=>by
    have he':pre=L:=by simpa using he
    refine Wp.step ?_
    simp only [c7_]
    refine Wp.dec (fun g=>by rw [he'] at g;omega) (fun _=>go m hm)
  | p::t,pre,m,h,w,he,hw,ht,hm,hh,go=>by
    have hl:pre.length+(t.length+1)≤1000:=by
      have:(pre++(p::t)).length≤1000:=by rw [he];exact hL
      simpa using this
    simp only [List.length_cons] at hh
    have hc:=uD_ h (pk p)
    have nx:∀(m':List (DKey×Int)),DC_ m' (h++[pk p])→(∃j,dw_ (el_ (pk p)) m' 0=some (j,((hC_ h (pk p)+1:Nat):Int)))→Wp (fun k=>bc_ k r ev (L.length:Int) (pre.length:Int) a z b w.Key w.Width w.Forged m' p.To p.Sent p.Bytes p.To p.Bytes L E2 F2 G2 T2 w.Ends w.Flight w.Given w.Taken) Q:=fun m' h' hf=>by
      refine FP_ a b z E2 F2 G2 T2 Q r ev hev (L.length:Int) (pre.length:Int) m' p L w hw (ht p (by simp)) (hC_ h (pk p)+1) (.inr hf) (fun w' e=> ?_)
      rw [aF_ (n:=(pre.length:Int)+1) (by omega) (by omega)]
      have hw':aV_ w':=by
        rw [e];split
        ·exact sv_ hw (ht p (by simp)).1
        ·exact hw
      have:=FC_ hev L hL t (pre++[p]) m' (h++[pk p]) w' (by rw [←he];simp) hw' (fun x hx=>ht x (by simp [hx])) h' (by simp;omega) (by
        have e2:d2_ ev t (h++[pk p]) w'=d2_ ev (p::t) h w:=by simp only [d2_];rw [e];push_cast;rfl
        rw [e2];exact go)
      rw [show ((pre++[p]).length:Int)=(pre.length:Int)+1 by simp] at this
      exact this
    refine Wp.step ?_
    simp only [c7_]
    refine Wp.dec (fun _=> ?_) (fun g=>absurd (by rw [←he];simp;omega) g)
    rw [show idx L (pre.length:Int)=some p by rw [←he];exact av_,show L[Int.toNat (pre.length:Int)]? =some p by rw [←he,Int.toNat_natCast];simp]
    simp only [Option.bind_some]
    rw [show (⟨p.To,p.Bytes⟩:DKey)=pk p from rfl]
    have hmp:=hm (pk p)
    cases h4:dw_ (el_ (pk p)) m 0 with
    | none=>
      have hn:=rT_ h4
      rw [hn] at hmp
      simp only [Option.getD_none] at hmp
      have hz:hC_ h (pk p)=0:=by omega
      simp only [Km.optK,jl_ h4,Nat.zero_add,mN_,Int.toNat_natCast,Aj_]
      simp only [List.getElem?_append_right (Nat.le_refl _),Nat.sub_self,List.getElem?_cons_zero,Option.bind_some,vf_]
      rw [aF_ (n:=0+1) (by omega) (by omega)]
      refine nx _ (fun key=> ?_) ⟨_,by rw [jl_ h4,hz];rfl⟩
      rw [qN_ m hn,kI_]
      by_cases e:key=pk p
      ·rw [if_pos e,if_pos e,e,hz];rfl
      ·rw [if_neg e,if_neg e,hm]
    | some q=>
      obtain ⟨j,c⟩:=q
      obtain ⟨d,e1,e2,e3,e4,e5⟩:=rL_ h4
      rw [Nat.zero_add] at e1;subst e1
      rw [e3] at hmp
      simp only [Option.getD_some] at hmp
      subst hmp
      simp only [Km.optK,mN_,e2,Option.bind_some,Int.toNat_natCast,vf_]
      rw [aF_ (n:=(hC_ h (pk p):Int)+1) (by omega) (by omega)]
      refine nx _ (fun key=> ?_) ⟨_,by rw [e5];rfl⟩
      rw [e4,kI_]
      by_cases e:key=pk p
      ·rw [if_pos e,if_pos e,e];rfl
      ·rw [if_neg e,if_neg e,hm]
theorem Fo_ (m:List (DKey×Int)) (n:Int) (hn:1≤n∧n≤2):∀(d:Nat) (i:Int) (w:ae_),i+d=4→0≤i→aV_ w→
    (Wp (fun k=>b9_ k r ev (IntKind.wrap .i64 (n+1)) a z b (dQ_ n d w).Key (dQ_ n d w).Width (dQ_ n d w).Forged m E2 F2 G2 T2 (dQ_ n d w).Ends (dQ_ n d w).Flight (dQ_ n d w).Given (dQ_ n d w).Taken) Q)→
    Wp (fun k=>dV_ k r ev n i a z b w.Key w.Width w.Forged m E2 F2 G2 T2 w.Ends w.Flight w.Given w.Taken) Q
  | 0,i,w,hi,h0,hw,go=>by
    refine Wp.step ?_
    simp only [dV_]
    refine Wp.dec (fun g=>by omega) (fun _=>go)
  | d+1,i,w,hi,h0,hw,go=>by
    refine Wp.step ?_
    simp only [dV_]
    refine Wp.dec (fun _=> ?_) (fun g=>by omega)
    obtain ⟨a1,a2,a3⟩:=m8_ hw.2.2.2.2.1 hn
    simp only [a1,a2,Option.bind_some]
    simp only [dQ_] at go
    refine Wp.dec (fun g=> ?_) (fun g=> ?_)
    ·rw [if_neg (fun e=>by rw [e] at g;simp at g)] at go
     refine Wp.bind (va_ w hw n hn) (fun x hx=> ?_);subst hx
     rw [aF_ (n:=i+1) (by omega) (by omega)]
     exact Fo_ m n hn d (i+1) (pc_ w n) (by omega) (by omega) (vG_ hw hn) go
    ·rw [if_pos (by apply List.eq_nil_of_length_eq_zero;omega)] at go
     exact go
theorem ic7 (hev:1≤ev∧ev≤10):∀(d:Nat) (m:List (DKey×Int)) (s:ae_×List DKey),aV_ s.1→DC_ m s.2→s.2.length+1000*d≤9000000→d≤9000→
    Wp (fun k=>c2_ k (d:Int) ev a z b s.1.Key s.1.Width s.1.Forged m E2 F2 G2 T2 s.1.Ends s.1.Flight s.1.Given s.1.Taken) (· =(lf_ ev d s).1)
  | 0,m,s,hs,hm,hl,hd=>by
    refine Wp.step ?_
    simp only [c2_]
    refine Wp.dec (fun g=>by omega) (fun _=>Wp.ret rfl)
  | d+1,m,s,hs,hm,hl,hd=>by
    refine Wp.step ?_
    simp only [c2_]
    refine Wp.dec (fun _=> ?_) (fun g=>by omega)
    refine Wp.bind (uk_ s.1 hs) (fun x hx=> ?_);subst hx
    have ht:=na_ hs
    have htl:=ht.2.2.1
    refine FC_ a b z E2 F2 G2 T2 _ ((d+1:Nat):Int) ev hev (hr_ s.1).Flight htl (hr_ s.1).Flight [] m s.2 (hm_ (hr_ s.1) []) rfl (uM_ ht) ht.2.2.2.2.2.1 hm (by omega) (fun m' hm'=> ?_)
    have hf:=sz_ ev (hr_ s.1).Flight s.2 (hm_ (hr_ s.1) []) (uM_ ht) ht.2.2.2.2.2.1
    refine Wp.step ?_
    simp only [b9_]
    refine Wp.dec (fun _=> ?_) (fun g=>by omega)
    refine Fo_ a b z E2 F2 G2 T2 _ ((d+1:Nat):Int) ev m' 1 (by omega) 4 0 _ (by omega) (by omega) hf ?_
    rw [show IntKind.wrap .i64 (1+1)=2 by rfl]
    refine Wp.step ?_
    simp only [b9_]
    refine Wp.dec (fun _=> ?_) (fun g=>by omega)
    refine Fo_ a b z E2 F2 G2 T2 _ ((d+1:Nat):Int) ev m' 2 (by omega) 4 0 _ (by omega) (by omega) (lK_ (by omega) 4 _ hf) ?_
    rw [show IntKind.wrap .i64 (2+1)=3 by rfl]
    refine Wp.step ?_
    simp only [b9_]
    refine Wp.dec (fun g=>by omega) (fun _=> ?_)
    rw [aF_ (n:=((d+1:Nat):Int)-1) (by omega) (by omega),show ((d+1:Nat):Int)-1=(d:Int) by omega]
    have hlen:=sq_ (ev:=ev) hs
    exact ic7 hev d m' (pN_ ev s) (oX_ hs) hm' (by omega) (by omega)
end
theorem qs_ (w:ae_) (hb:w.Given.length≤1048576∧w.Taken.length≤1048576) (n ev:Int):Wp (fun k=>jo_ k w n ev) (· =sF_ w n ev):=by
  unfold jo_ sF_
  refine Wp.bind (m3_ w hb) (fun _ e=> ?_);subst e
  refine Wp.not (fun h=>Wp.ret (by rw [if_neg (fun g=>of_decide_eq_false h g.1)];rfl)) (fun h=> ?_)
  have hv:=of_decide_eq_true h
  refine Wp.dec (fun h=>Wp.ret (by rw [if_neg (fun g=>by omega)];rfl)) (fun h1=> ?_)
  refine Wp.dec (fun h=>Wp.ret (by rw [if_neg (fun g=>by omega)];rfl)) (fun h2=> ?_)
  rw [if_pos ⟨hv,by omega⟩]
  refine Wp.bind (t9_ w hv) (fun _ e=> ?_);have e'':=e.symm;subst e''
  have hm:DC_ [] []:=fun key=>rfl
  refine Wp.dec (fun h=> ?_) (fun h=> ?_)
  ·rw [show min n 5000=5000 by omega]
   exact ic7 noB noB 0 [] [] [] [] ev (by omega) 5000 [] (w,[]) hv hm (by simp) (by omega)
  ·by_cases h0:0≤n
   ·have:=ic7 noB noB 0 [] [] [] [] ev (by omega) n.toNat [] (w,[]) hv hm (by simp;omega) (by omega)
    rw [show min n 5000=n by omega]
    rw [Int.toNat_of_nonneg h0] at this
    exact this
   ·rw [show (min n 5000).toNat=0 by omega]
    refine Wp.step ?_
    simp only [c2_]
    refine Wp.dec (fun g=>by omega) (fun _=>Wp.ret rfl)
end Km.X
namespace Km.X
open Go Km
set_option linter.unusedVariables false
set_option linter.unusedSimpArgs false
def vW_ (c:aJ_):DKey:=⟨c.to,c.bytes⟩
def l7_ (key:DKey):List aJ_→Int
  | []=>0
  | c::l=>if vW_ c=key then c.n else l7_ key l
def CU_ (S:List aJ_) (h:List DKey):Prop:=∀key,l7_ key S=(hC_ h key:Int)
theorem iI_ {key:DKey} {l:List aJ_}:∀{pre:List aJ_},(∀c∈pre,vW_ c≠key)→l7_ key (pre++l)=l7_ key l
  | [],_=>rfl
  | c::pre,h=>by
    simp only [List.cons_append,l7_]
    rw [if_neg (h c (by simp)),iI_ (fun x hx=>h x (by simp [hx]))]
theorem tb_ {key:DKey} {l l':List aJ_} (h:l7_ key l=l7_ key l'):∀(pre:List aJ_),l7_ key (pre++l)=l7_ key (pre++l')
  | []=>h
  | c::pre=>by
    simp only [List.cons_append,l7_]
    rw [tb_ h pre]
theorem set_mid {α:Type} (pre t:List α) (y y':α):(pre++y::t).set pre.length y'=pre++y'::t:=by simp
theorem qO_ (ev:Int) (hev:1≤ev∧ev≤10) (p:ac_) (S:List aJ_) (hS:S.length≤20000000) (hb:0≤l7_ (pk p) S∧l7_ (pk p) S≤20000000):∀(t pre:List aJ_),pre++t=S→(∀c∈pre,vW_ c≠pk p)→
    Wp (fun k=>bt_ k ev (pre.length:Int) S p.To p.Sent p.Bytes) (fun r=>r.2=decide ((l7_ (pk p) S+1)%ev=0)∧(∀key,l7_ key r.1=if key=pk p then l7_ (pk p) S+1 else l7_ key S)∧r.1.length≤S.length+1)
  | [],pre,he,hn=>by
    have he':pre=S:=by simpa using he
    refine Wp.step ?_
    simp only [bt_]
    refine Wp.dec (fun g=>by rw [he'] at g;omega) (fun _=> ?_)
    refine Wp.opt (bf_ (by simp;omega)) ?_
    have h0:l7_ (pk p) S=0:=by rw [←he,iI_ hn];rfl
    refine Wp.ret ⟨?_,fun key=> ?_,by simp⟩
    ·dsimp only
     rw [h0,Bool.eq_iff_iff]
     simp only [beq_iff_eq,decide_eq_true_eq]
     constructor
     ·intro e;subst e;rfl
     ·intro e
      by_cases h1:ev=1
      ·exact h1
      ·rw [Int.emod_eq_of_lt (by omega) (by omega)] at e;omega
    ·by_cases e:key=pk p
     ·rw [if_pos e,e,h0,←he',iI_ hn]
      simp [l7_,vW_,pk]
     ·rw [if_neg e]
      have:l7_ key ([(⟨p.To,p.Bytes,1⟩:aJ_)])=l7_ key []:=by
        simp only [l7_];rw [if_neg (fun g=>e g.symm)]
      have:=tb_ this S
      simpa using this
  | y::t,pre,he,hn=>by
    have hl:pre.length+(t.length+1)≤20000000:=by
      have:(pre++(y::t)).length≤20000000:=by rw [he];exact hS
      simpa using this
    refine Wp.step ?_
    simp only [bt_]
    refine Wp.dec (fun _=> ?_) (fun g=>absurd (by rw [←he];simp;omega) g)
    have i1:idx S (pre.length:Int)=some y:=by rw [←he];exact av_
    have i2:S[Int.toNat (pre.length:Int)]? =some y:=by rw [←he,Int.toNat_natCast];simp
    simp only [i1,i2,Option.bind_some,eK_,cm_]
    have nx:vW_ y≠pk p→Wp (fun k=>bt_ k ev (IntKind.wrap .i64 ((pre.length:Int)+1)) S p.To p.Sent p.Bytes) (fun r=>r.2=decide ((l7_ (pk p) S+1)%ev=0)∧(∀key,l7_ key r.1=if key=pk p then l7_ (pk p) S+1 else l7_ key S)∧r.1.length≤S.length+1):=fun hne=>by
      rw [aF_ (n:=(pre.length:Int)+1) (by omega) (by omega)]
      have:=qO_ ev hev p S hS hb t (pre++[y]) (by rw [←he];simp) (fun c hc=>by
        simp only [List.mem_append,List.mem_cons,List.not_mem_nil,or_false] at hc
        rcases hc with hc | rfl
        ·exact hn c hc
        ·exact hne)
      rw [show ((pre++[y]).length:Int)=(pre.length:Int)+1 by simp] at this
      exact this
    refine Wp.ite (fun e1=> ?_) (fun e1=>nx (fun g=>e1 (congrArg DKey.to g)))
    refine Wp.ite (fun e2=> ?_) (fun e2=>nx (fun g=>e2 (congrArg DKey.bytes g)))
    have hk:vW_ y=pk p:=by simp [vW_,pk,e1,e2]
    have hy:l7_ (pk p) S=y.n:=by rw [←he,iI_ hn];simp only [l7_];rw [if_pos hk]
    rw [aF_ (n:=y.n+1) (by omega) (by omega)]
    have es:∀y':aJ_,S.set (Int.toNat (pre.length:Int)) y'=pre++y'::t:=fun y'=>by rw [Int.toNat_natCast,←he];exact set_mid pre t y y'
    simp only [es]
    have j1:∀y':aJ_,idx (pre++y'::t) (pre.length:Int)=some y':=fun y'=>av_
    have j2:∀y':aJ_,(pre++y'::t)[Int.toNat (pre.length:Int)]? =some y':=fun y'=>by rw [Int.toNat_natCast];simp
    simp only [j1,j2,Option.bind_some]
    refine Wp.opt (aW_ (by omega) (by omega)) ?_
    refine Wp.ret ⟨?_,fun key=> ?_,by rw [←he];simp⟩
    ·dsimp only
     rw [hy,Bool.eq_iff_iff];simp
    ·dsimp only
     by_cases e:key=pk p
     ·rw [if_pos e,e,hy,iI_ hn]
      simp only [l7_]
      rw [if_pos (by rw [←hk];rfl)]
     ·rw [if_neg e,←he]
      apply tb_
      simp only [l7_]
      rw [if_neg (fun g=>e (by rw [←g,←hk];rfl)),if_neg (fun g=>e (by rw [←g,←hk]))]
theorem yZ_ (ev:Int) (hev:1≤ev∧ev≤10) (p:ac_) (S:List aJ_) (h:List DKey) (hc:CU_ S h) (hS:S.length≤h.length) (hh:h.length≤10000000):Wp (fun k=>gk_ k S p ev) (fun r=>r.2=decide (((hC_ h (pk p):Int)+1)%ev=0)∧CU_ r.1 (h++[pk p])∧r.1.length≤(h++[pk p]).length):=by
  unfold gk_
  have hk:=uD_ h (pk p)
  have hb:=hc (pk p)
  refine (qO_ ev hev p S (by omega) (by omega) S [] rfl (fun c hc=>by cases hc)).mono fun r hr=> ?_
  refine ⟨by rw [hr.1,hb],fun key=> ?_,by have:=hr.2.2;simp;omega⟩
  rw [hr.2.1,kI_]
  by_cases e:key=pk p
  ·rw [if_pos e,if_pos e,hb,e];rfl
  ·rw [if_neg e,if_neg e,hc]
theorem vq_ (w:ae_) (fl:List ac_) (p:ac_):e9_ (hm_ w fl) p=hm_ (e9_ w p) fl:=by
  unfold e9_
  by_cases h:(s4_ p.Bytes w.Key w.Width).2=true
  ·rw [if_pos (show (s4_ p.Bytes (hm_ w fl).Key (hm_ w fl).Width).2=true from h),if_pos h];rfl
  ·rw [if_neg (show¬(s4_ p.Bytes (hm_ w fl).Key (hm_ w fl).Width).2=true from h),if_neg h]
theorem Ae_ (w:ae_) (p:ac_):(e9_ w p).Flight=w.Flight:=by unfold e9_;split<;>rfl
theorem wM_ (ev:Int):∀(t:List ac_) (h:List DKey) (w:ae_),(d2_ ev t h w).1.Flight=w.Flight
  | [],h,w=>rfl
  | p::t,h,w=>by
    simp only [d2_,wM_ ev t]
    split
    ·exact Ae_ w p
    ·rfl
theorem xq_ (w:ae_) (n:Int) (x y:Int) (t:ByteArray):AH_ w ⟨11,n,x,y,t⟩=pc_ w n:=by
  unfold AH_;dsimp only;rw [if_neg (by omega),if_neg (by omega),if_neg (by omega)]
section
variable (a b:ByteArray) (z:Int) (E2:List ao_) (F2:List ac_) (G2 T2:List ab_) (Q:ae_→Prop) (r ev i:Int)
theorem sc9 (hev:1≤ev∧ev≤10):∀(t:List ac_) (S:List aJ_) (h:List DKey) (w:ae_),aV_ w→kH_ t→t.length≤1000→CU_ S h→S.length≤h.length→h.length+t.length≤10000000→
    (∀S',CU_ S' (d2_ ev t h w).2→S'.length≤(d2_ ev t h w).2.length→Wp (fun k=>b8_ k r ev i 1 a z b (d2_ ev t h w).1.Key (d2_ ev t h w).1.Width (d2_ ev t h w).1.Forged S' E2 F2 G2 T2 (d2_ ev t h w).1.Ends [] (d2_ ev t h w).1.Given (d2_ ev t h w).1.Taken) Q)→
    Wp (fun k=>dK_ k r ev i a z b w.Key w.Width w.Forged S E2 F2 G2 T2 w.Ends t w.Given w.Taken) Q
  | [],S,h,w,hw,ht,hl,hc,hS,hh,go=>by
    refine Wp.step ?_
    simp only [dK_]
    refine Wp.dec (fun g=>by simp at g) (fun _=>go S hc hS)
  | p::t,S,h,w,hw,ht,hl,hc,hS,hh,go=>by
    simp only [List.length_cons] at hl hh
    refine Wp.step ?_
    simp only [dK_]
    refine Wp.dec (fun _=> ?_) (fun g=>absurd (by simp) g)
    rw [show idx (p::t) 0=some p from rfl,show (p::t)[Int.toNat 0]? =some p from rfl]
    simp only [Option.bind_some]
    have hwf:aV_ (hm_ w (p::t)):=ys_ hw (by simp;omega) ht
    refine Wp.bind (yZ_ ev hev p S h hc hS (by omega)) ?_
    rintro ⟨S',ps⟩ ⟨e1,e2,e3⟩
    dsimp only at e1 e2 e3⊢
    simp only [d2_] at go
    refine Wp.bif (fun hp=> ?_) (fun hp=> ?_)
    ·rw [hp] at e1
     rw [if_pos (of_decide_eq_true e1.symm)] at go
     have hb:=tf_ (hm_ w (p::t)) hwf 0 (p:=p) rfl
     refine Wp.bind hb (fun x hx=> ?_)
     have hx':x=hm_ (e9_ w p) t:=by rw [hx,←vq_];rfl
     subst hx'
     exact sc9 hev t S' (h++[pk p]) (e9_ w p) (sv_ hw (ht p (by simp)).1) (fun x hx=>ht x (by simp [hx])) (by omega) e2 e3 (by simp;omega) go
    ·rw [hp] at e1
     rw [if_neg (of_decide_eq_false e1.symm)] at go
     refine Wp.bind (r4_ (p::t) 0 (by simp) (by simp;omega)) (fun x hx=> ?_)
     have hx':x=t:=hx
     subst hx'
     exact sc9 hev x S' (h++[pk p]) w hw (fun x hx=>ht x (by simp [hx])) (by omega) e2 e3 (by simp;omega) go
theorem EZ_ (S:List aJ_) (n:Int) (hn:1≤n∧n≤2):∀(d:Nat) (j:Int) (w:ae_),j+d=4→0≤j→aV_ w→
    (Wp (fun k=>b8_ k r ev i (IntKind.wrap .i64 (n+1)) a z b (dQ_ n d w).Key (dQ_ n d w).Width (dQ_ n d w).Forged S E2 F2 G2 T2 (dQ_ n d w).Ends (dQ_ n d w).Flight (dQ_ n d w).Given (dQ_ n d w).Taken) Q)→
    Wp (fun k=>dZ_ k r ev i n j a z b w.Key w.Width w.Forged S E2 F2 G2 T2 w.Ends w.Flight w.Given w.Taken) Q
  | 0,j,w,hi,h0,hw,go=>by
    refine Wp.step ?_
    simp only [dZ_]
    refine Wp.dec (fun g=>by omega) (fun _=>go)
  | d+1,j,w,hi,h0,hw,go=>by
    refine Wp.step ?_
    simp only [dZ_]
    refine Wp.dec (fun _=> ?_) (fun g=>by omega)
    obtain ⟨a1,a2,a3⟩:=m8_ hw.2.2.2.2.1 hn
    simp only [a1,a2,Option.bind_some]
    simp only [dQ_] at go
    refine Wp.dec (fun g=> ?_) (fun g=> ?_)
    ·rw [if_neg (fun e=>by rw [e] at g;simp at g)] at go
     refine Wp.bind (xn_ w hw ⟨11,n,0,0,noB⟩ (by dsimp only;omega) hn) (fun x hx=> ?_)
     rw [xq_] at hx;subst hx
     rw [aF_ (n:=j+1) (by omega) (by omega)]
     exact EZ_ S n hn d (j+1) (pc_ w n) (by omega) (by omega) (vG_ hw hn) go
    ·rw [if_pos (by apply List.eq_nil_of_length_eq_zero;omega)] at go
     exact go
theorem sc6 (hev:1≤ev∧ev≤10):∀(d:Nat) (i:Int) (S:List aJ_) (s:ae_×List DKey),d=(min r 5000-i).toNat→0≤i∧i≤5000→aV_ s.1→CU_ S s.2→S.length≤s.2.length→s.2.length+1000*d≤9000000→
    Wp (fun k=>eF_ k r ev i a z b s.1.Key s.1.Width s.1.Forged S E2 F2 G2 T2 s.1.Ends s.1.Flight s.1.Given s.1.Taken) (· =(lf_ ev d s).1)
  | 0,i,S,s,hd,hi,hs,hm,hS,hl=>by
    refine Wp.step ?_
    simp only [eF_]
    have cp:Wp (fun k=>(ey_ k s.1).bind fun x=>some x) (· =(lf_ ev 0 s).1):=by
      refine Wp.bind (ni_ s.1 hs) (fun x hx=> ?_)
      exact Wp.ret hx
    refine Wp.dec (fun g=> ?_) (fun _=>cp)
    refine Wp.dec (fun g=>by omega) (fun _=>cp)
  | d+1,i,S,s,hd,hi,hs,hm,hS,hl=>by
    refine Wp.step ?_
    simp only [eF_]
    refine Wp.dec (fun _=> ?_) (fun g=>by omega)
    refine Wp.dec (fun _=> ?_) (fun g=>by omega)
    refine Wp.bind (tV_ s.1 hs) (fun x hx=> ?_);subst hx
    have ht:=na_ hs
    have htl:=ht.2.2.1
    refine sc9 a b z E2 F2 G2 T2 _ r ev i hev (hr_ s.1).Flight S s.2 (hm_ (hr_ s.1) []) (uM_ ht) ht.2.2.2.2.2.1 htl hm hS (by omega) (fun S' hm' hS'=> ?_)
    have hf:=sz_ ev (hr_ s.1).Flight s.2 (hm_ (hr_ s.1) []) (uM_ ht) ht.2.2.2.2.2.1
    have hfl:(d2_ ev (hr_ s.1).Flight s.2 (hm_ (hr_ s.1) [])).1.Flight=[]:=wM_ ev _ _ _
    generalize hX:d2_ ev (hr_ s.1).Flight s.2 (hm_ (hr_ s.1) [])=X at hf hfl hm' hS'⊢
    rw [←hfl]
    refine Wp.step ?_
    simp only [b8_]
    refine Wp.dec (fun _=> ?_) (fun g=>by omega)
    refine EZ_ a b z E2 F2 G2 T2 _ r ev i S' 1 (by omega) 4 0 _ (by omega) (by omega) hf ?_
    rw [show IntKind.wrap .i64 (1+1)=2 by rfl]
    refine Wp.step ?_
    simp only [b8_]
    refine Wp.dec (fun _=> ?_) (fun g=>by omega)
    refine EZ_ a b z E2 F2 G2 T2 _ r ev i S' 2 (by omega) 4 0 _ (by omega) (by omega) (lK_ (by omega) 4 _ hf) ?_
    rw [show IntKind.wrap .i64 (2+1)=3 by rfl]
    refine Wp.step ?_
    simp only [b8_]
    refine Wp.dec (fun g=>by omega) (fun _=> ?_)
    rw [aF_ (n:=i+1) (by omega) (by omega)]
    have hlen:=sq_ (ev:=ev) hs
    subst hX
    exact sc6 hev d (i+1) S' (pN_ ev s) (by omega) (by omega) (oX_ hs) hm' hS' (by omega)
end
theorem vy_ (w:ae_) (hb:w.Given.length≤1048576∧w.Taken.length≤1048576) (n ev:Int):Wp (fun k=>mn_ k w n ev) (· =sF_ w n ev):=by
  unfold mn_ sF_
  refine Wp.bind (mY_ w hb) (fun _ e=> ?_);subst e
  refine Wp.not (fun h=>Wp.ret (by rw [if_neg (fun g=>of_decide_eq_false h g.1)];rfl)) (fun h=> ?_)
  have hv:=of_decide_eq_true h
  refine Wp.bind (cU_ _ _ _) (fun _ e=> ?_);subst e
  refine Wp.not (fun h=> ?_) (fun h=> ?_)
  ·simp only [Bool.and_eq_false_iff,decide_eq_false_iff_not] at h
   exact Wp.ret (by rw [if_neg (fun g=>by omega)];rfl)
  simp only [Bool.and_eq_true,decide_eq_true_eq] at h
  rw [if_pos ⟨hv,h⟩]
  refine Wp.bind (ni_ w hv) (fun _ e=> ?_);have e'':=e.symm;subst e''
  exact sc6 noB noB 0 [] [] [] [] n ev h (min n 5000).toNat 0 [] (w,[]) (by omega) (by omega) hv (fun key=>rfl) (by simp) (by simp;omega)
end Km.X
namespace Km.X
open Go Km
set_option linter.unusedVariables false
set_option linter.unusedSimpArgs false
def FoB (w:ae_):Prop:=w.Forged.size≤1048576
theorem Fl_ {w:ae_} (h:aV_ w) (hf:FoB w):fR_ w:=by
  obtain ⟨_,h2,h3,h4,h5,h6,h7,h8⟩:=h
  obtain ⟨e,f,he,a1,_,a2,_⟩:=fF_ h5
  refine ⟨by omega,⟨by rw [he];simp,fun y hy=> ?_⟩,⟨by omega,fun y hy=> ?_⟩,hf,⟨by omega,fun y hy=> ?_⟩,⟨by omega,fun y hy=> ?_⟩⟩
  ·rw [he] at hy
   simp only [List.mem_cons,List.not_mem_nil,or_false] at hy
   rcases hy with rfl | rfl
   ·exact a1.sm
   ·exact a2.sm
  ·have:=(h6 y hy).2;exact ⟨by have:=this.1;omega,by have:=this.2;omega⟩
  ·have:=(h7 y hy).2.2.2;show y.Text.size≤_;omega
  ·have:=(h8 y hy).2.2.2;show y.Text.size≤_;omega
theorem CZ_:fR_ ju_:=⟨by simp [ju_,fz_],⟨by simp [ju_],fun y hy=>by cases hy⟩,⟨by simp [ju_],fun y hy=>by cases hy⟩,by simp [ju_,fz_],⟨by simp [ju_],fun y hy=>by cases hy⟩,⟨by simp [ju_],fun y hy=>by cases hy⟩⟩
theorem yo_ {w:ae_} {p:ac_} (h:FoB w) (hp:A8_ p):FoB (e9_ w p):=by
  unfold e9_
  split
  ·show ByteArray.size (if _ then _ else _)≤_
   split
   ·have:=hp.2.2;omega
   ·exact h
  ·exact h
theorem xg_ (ev:Int):∀(t:List ac_) (h:List DKey) (w:ae_),FoB w→kH_ t→FoB (d2_ ev t h w).1
  | [],h,w,hw,_=>hw
  | p::t,h,w,hw,ht=>by
    simp only [d2_]
    refine xg_ ev t _ _ ?_ (fun x hx=>ht x (by simp [hx]))
    split
    ·exact yo_ hw (ht p (by simp))
    ·exact hw
theorem pt_ (n:Int):∀(d:Nat) (w:ae_),FoB w→FoB (dQ_ n d w)
  | 0,w,h=>h
  | d+1,w,h=>by
    simp only [dQ_]
    split
    ·exact h
    ·refine pt_ n d _ ?_
     unfold pc_;split<;>exact h
theorem y7_ {ev:Int} {s:ae_×List DKey} (hV:aV_ s.1) (h:FoB s.1):FoB (pN_ ev s).1:=
  pt_ 2 4 _ (pt_ 1 4 _ (xg_ ev _ _ _ h (na_ hV).2.2.2.2.2.1))
theorem sg_ {ev:Int}:∀(d:Nat) (s:ae_×List DKey),aV_ s.1→FoB s.1→FoB (lf_ ev d s).1
  | 0,s,_,h=>h
  | d+1,s,hV,h=>sg_ d _ (oX_ hV) (y7_ hV h)
theorem zj_ {w:ae_} (hs:fR_ w) (n ev:Int):fR_ (sF_ w n ev):=by
  by_cases hc:aV_ w∧(1≤ev∧ev≤10)
  ·refine Fl_ (Cs_ hc.1 hc.2) ?_
   unfold sF_
   rw [if_pos hc]
   exact sg_ _ _ hc.1 hs.2.2.2.1
  ·unfold sF_;rw [if_neg hc];exact CZ_
theorem CA_ {w:ae_} (h:fR_ w):w.Given.length≤1048576∧w.Taken.length≤1048576:=⟨h.2.2.2.2.1.1,h.2.2.2.2.2.1⟩
end Km.X
namespace Km.X
open Go Km
set_option linter.unusedVariables false
set_option linter.unusedSimpArgs false
theorem exact_FnExactCalm (x:ae_) (n ev:Int) (hw:tu_ x) (h1:AX_ n) (h2:AX_ ev):∃k,fP_ k x n ev=some true:=by
  refine Wp.exists ?_
  unfold fP_
  refine Wp.bind (xs_ x hw 1048576 (by omega)) (fun r hr=> ?_)
  refine Wp.dec (fun _=>Wp.ret rfl) (fun hs=> ?_)
  have hx:=hr.2 (by omega)
  have hb:=CA_ hx
  have ho:=zj_ hx n ev
  refine Wp.bind (jJ_ x hx) (fun z e=> ?_);replace e:z=x:=e;rw [e];clear e z
  refine Wp.bind (vy_ x hb n ev) (fun _ e=> ?_);subst e
  refine Wp.bind (jJ_ x hx) (fun z e=> ?_);replace e:z=x:=e;rw [e];clear e z
  refine Wp.bind (qs_ x hb n ev) (fun _ e=> ?_);subst e
  refine Wp.bind (jE_ _ ho) (fun _ e=> ?_);subst e
  simp only [Bool.not_true,cond_false]
  refine Wp.bind (jJ_ x hx) (fun z e=> ?_);replace e:z=x:=e;rw [e];clear e z
  refine Wp.bind (jE_ _ hx) (fun _ e=> ?_);subst e
  simp only [Bool.not_true,cond_false]
  refine Wp.bind (nE_ hx) (fun a ha=> ?_)
  refine Wp.dec (fun g=>by have:=ha.1;omega) (fun _=> ?_)
  refine Wp.bind (jE_ _ ho) (fun _ e=> ?_);subst e
  simp only [Bool.not_true,cond_false]
  refine Wp.bind (nE_ ho) (fun b hb'=> ?_)
  refine Wp.bind (hb'.2 _ _ _) (fun _ e=> ?_);subst e
  refine Wp.dec (fun g=>by have:=hb'.1;omega) (fun _=> ?_)
  simp only [d4_,if_true]
  refine Wp.bind (jJ_ x hx) (fun z e=> ?_);replace e:z=x:=e;rw [e];clear e z
  refine Wp.bind (qs_ x hb n ev) (fun _ e=> ?_);subst e
  refine Wp.bind (jE_ _ ho) (fun _ e=> ?_);subst e
  simp only [Bool.not_true,cond_false]
  refine Wp.bind (hb'.2 _ _ _) (fun _ e=> ?_);subst e
  refine Wp.dec (fun g=>by have:=hb'.1;omega) (fun _=> ?_)
  simp only [d4_,if_true]
  exact Wp.ret rfl
end Km.X
