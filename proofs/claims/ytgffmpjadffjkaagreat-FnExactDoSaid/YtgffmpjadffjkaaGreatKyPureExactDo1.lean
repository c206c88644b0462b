/- A part of the proof of FnExactDo: plain laws of these functions. There is no condition. -/
import Derived.Test.YtgffmpjadffjkaaGreatKmAm4
import Derived.Test.YtgffmpjadffjkaaGreatKxDef1
import Derived.Test.YtgffmpjadffjkaaGreatKxDef2
namespace Km.X
open Go Km
set_option linter.unusedVariables false
set_option linter.unusedSimpArgs false
def smL {α:Type} (p:α→Prop) (l:List α):Prop:=l.length≤1048576∧∀y∈l,p y
theorem o0_ (k:Int) (a b:Int):k+a+b=k+(a+b):=by omega
def sp_ (x:aE_):Prop:=x.Text.size≤1048576
def jr_ (x:ag_):Prop:=sp_ x.Part
def iK_ (x:ai_):Prop:=sp_ x.Part
def mc_ (x:al_):Prop:=smL jr_ x.Items
def lv_ (x:ak_):Prop:=smL iK_ x.Held∧x.Open.size≤1048576∧smL (fun s:ByteArray=>s.size≤1048576) x.Ready
theorem yK_ (x:ag_) (h:jr_ x):Wp (fun k=>k4_ k x) (· =x):=Wp.ret rfl
theorem zT_ (x:ai_) (h:iK_ x):Wp (fun k=>k6_ k x) (· =x):=Wp.ret rfl
theorem x2_ (xs:List ag_) (h:smL jr_ xs):Wp (fun k=>gP_ k xs) (· =xs):=by
  unfold gP_
  obtain ⟨hl,hp⟩:=h
  refine Wp.opt (x:=xs.length) (by rw [if_pos rfl];exact k1_ (by omega)) ?_
  refine Wp.loop (n:=xs.length) (f:=fun k i (ys:List ag_)=>c8_ k xs (i:Int) ys) (Inv:=fun i ys=>ys.length=xs.length∧ys.take i=xs.take i) (Q:=(· =xs)) ?_ ?_ xs.length 0 _ (by omega) ⟨by simp,by simp⟩
  ·rintro i ys hi ⟨h1,h2⟩ ih
   refine Wp.step ?_
   simp only [c8_]
   simp (disch:=omega) only [af_,if_pos,rW_,BB_,Option.bind_some,aM_,hn_,Int.ofNat_lt]
   refine Wp.bind (yK_ _ (hp _ (List.getElem_mem hi))) (fun _ e=> ?_);subst e
   refine ih _ ⟨by simpa using h1, ?_⟩
   rw [Int.toNat_natCast,List.take_add_one,List.take_add_one,List.getElem?_set_self (by omega),List.take_set,List.set_eq_of_length_le (by simp;omega),h2,List.getElem?_eq_getElem hi]
  ·rintro ys ⟨h1,h2⟩
   refine Wp.step ?_
   simp only [c8_]
   simp (disch:=omega) only [af_,if_neg]
   rw [List.take_of_length_le (by omega),List.take_of_length_le (by omega)] at h2
   exact Wp.ret h2
theorem xR_ (xs:List ai_) (h:smL iK_ xs):Wp (fun k=>hc_ k xs) (· =xs):=by
  unfold hc_
  obtain ⟨hl,hp⟩:=h
  refine Wp.opt (x:=xs.length) (by rw [if_pos rfl];exact k1_ (by omega)) ?_
  refine Wp.loop (n:=xs.length) (f:=fun k i (ys:List ai_)=>df_ k xs (i:Int) ys) (Inv:=fun i ys=>ys.length=xs.length∧ys.take i=xs.take i) (Q:=(· =xs)) ?_ ?_ xs.length 0 _ (by omega) ⟨by simp,by simp⟩
  ·rintro i ys hi ⟨h1,h2⟩ ih
   refine Wp.step ?_
   simp only [df_]
   simp (disch:=omega) only [af_,if_pos,rW_,BB_,Option.bind_some,aM_,hn_,Int.ofNat_lt]
   refine Wp.bind (zT_ _ (hp _ (List.getElem_mem hi))) (fun _ e=> ?_);subst e
   refine ih _ ⟨by simpa using h1, ?_⟩
   rw [Int.toNat_natCast,List.take_add_one,List.take_add_one,List.getElem?_set_self (by omega),List.take_set,List.set_eq_of_length_le (by simp;omega),h2,List.getElem?_eq_getElem hi]
  ·rintro ys ⟨h1,h2⟩
   refine Wp.step ?_
   simp only [df_]
   simp (disch:=omega) only [af_,if_neg]
   rw [List.take_of_length_le (by omega),List.take_of_length_le (by omega)] at h2
   exact Wp.ret h2
theorem u0_ (xs:List ByteArray) (h:smL (fun s:ByteArray=>s.size≤1048576) xs):Wp (fun k=>fn_ k xs) (· =xs):=by
  unfold fn_
  obtain ⟨hl,hp⟩:=h
  refine Wp.opt (x:=xs.length) (by rw [if_pos rfl];exact k1_ (by omega)) ?_
  refine Wp.loop (n:=xs.length) (f:=fun k i (ys:List ByteArray)=>cp_ k xs (i:Int) ys) (Inv:=fun i ys=>ys.length=xs.length∧ys.take i=xs.take i) (Q:=(· =xs)) ?_ ?_ xs.length 0 _ (by omega) ⟨by simp,by simp⟩
  ·rintro i ys hi ⟨h1,h2⟩ ih
   refine Wp.step ?_
   simp only [cp_]
   simp (disch:=omega) only [af_,if_pos,rW_,BB_,Option.bind_some,aM_,hn_,Int.ofNat_lt]
   refine ih _ ⟨by simpa using h1, ?_⟩
   rw [Int.toNat_natCast,List.take_add_one,List.take_add_one,List.getElem?_set_self (by omega),List.take_set,List.set_eq_of_length_le (by simp;omega),h2,List.getElem?_eq_getElem hi]
  ·rintro ys ⟨h1,h2⟩
   refine Wp.step ?_
   simp only [cp_]
   simp (disch:=omega) only [af_,if_neg]
   rw [List.take_of_length_le (by omega),List.take_of_length_le (by omega)] at h2
   exact Wp.ret h2
theorem zk_ (x:al_) (h:mc_ x):Wp (fun k=>hN_ k x) (· =x):=by
  unfold mc_ at h
  have h0:=h
  unfold hN_
  refine Wp.bind (x2_ _ h0) (fun _ e=> ?_);subst e
  exact Wp.ret rfl
theorem zU_ (x:ak_) (h:lv_ x):Wp (fun k=>hK_ k x) (· =x):=by
  unfold lv_ at h
  obtain ⟨h0,h1,h2⟩:=h
  unfold hK_
  refine Wp.bind (xR_ _ h0) (fun _ e=> ?_);subst e
  refine Wp.bind (u0_ _ h2) (fun _ e=> ?_);subst e
  exact Wp.ret rfl
theorem uE_ (x:aE_) (hw:i3_ x) (a:Int) (ha:0≤a∧a≤1048576):Wp (fun k=>gy_ k x a) (fun r=>r≤1048576∧(0≤r→sp_ x)):=by
  unfold sp_
  unfold i3_ at hw
  unfold gy_
  have h1:x.Text.size≤2^63-1:=by first | exact hw.1 | exact hw.2.2.2.2.2.2.2.2 | exact hw.2.2.2.2 | exact hw.2.2.2
  try simp (disch:=omega) only [aM_,af_]
  refine Wp.ite (fun h=>Wp.ret ⟨by omega,fun h=>by omega⟩) (fun h=>Wp.ret ⟨by omega,fun _=>by omega⟩)
theorem z9_ (x:ag_) (hw:pP_ x) (a:Int) (ha:0≤a∧a≤1048576):Wp (fun k=>ii_ k x a) (fun r=>r≤1048576∧(0≤r→jr_ x)):=by
  unfold jr_
  unfold pP_ at hw
  unfold ii_
  have h1:i3_ x.Part:=by first | exact hw.1 | exact hw.2
  refine Wp.bind (uE_ _ h1 a ha) (fun r hr=> ?_)
  refine Wp.dec (fun h=>Wp.ret ⟨by omega,fun h=>by omega⟩) (fun h=>Wp.ret ⟨hr.1,hr.2⟩)
theorem zm_ (x:ai_) (hw:qM_ x) (a:Int) (ha:0≤a∧a≤1048576):Wp (fun k=>hT_ k x a) (fun r=>r≤1048576∧(0≤r→iK_ x)):=by
  unfold iK_
  unfold qM_ at hw
  unfold hT_
  have h1:i3_ x.Part:=by first | exact hw.1 | exact hw.2
  refine Wp.bind (uE_ _ h1 a ha) (fun r hr=> ?_)
  refine Wp.dec (fun h=>Wp.ret ⟨by omega,fun h=>by omega⟩) (fun h=>Wp.ret ⟨hr.1,hr.2⟩)
theorem yi_ (xs:List ag_) (hw:xs.length≤maxLen∧∀y∈xs,tb_ y) (a:Int) (ha:0≤a∧a≤1048576):Wp (fun k=>gE_ k xs a) (fun r=>r≤1048576∧(0≤r→smL jr_ xs)):=by
  obtain ⟨hl,hp⟩:=hw
  have hl:xs.length≤2^63-1:=hl
  unfold gE_
  try simp (disch:=omega) only [aM_,af_]
  refine Wp.ite (fun h=>Wp.ret ⟨by omega,fun h=>by omega⟩) (fun h=> ?_)
  refine Wp.loop (n:=xs.length) (f:=fun k i (l:Int)=>dd_ k xs l (i:Int)) (Inv:=fun i l=>(0≤l∧l≤1048576)∧∀j (hj:j<xs.length),j<i→jr_ xs[j]) (Q:=fun r=>r≤1048576∧(0≤r→smL jr_ xs)) ?_ ?_ xs.length 0 (a-xs.length) (by omega) ⟨by omega,fun j _ h=>by omega⟩
  ·rintro i l hi ⟨h1,h2⟩ ih
   refine Wp.step ?_
   simp only [dd_]
   simp (disch:=omega) only [af_,if_pos,rW_,Option.bind_some,aM_,hn_]
   refine Wp.bind (z9_ _ (hp _ (List.getElem_mem hi)) l h1) (fun r hr=> ?_)
   refine Wp.ite (fun h=>Wp.ret ⟨by omega,fun h=>by omega⟩) (fun h=> ?_)
   refine ih _ ⟨by omega,fun j hj hji=> ?_⟩
   by_cases e:j=i
   ·subst e;exact hr.2 (by omega)
   ·exact h2 j hj (by omega)
  ·rintro l ⟨h1,h2⟩
   refine Wp.step ?_
   simp only [dd_]
   simp (disch:=omega) only [af_,if_neg]
   refine Wp.ret ⟨by omega,fun _=>⟨by omega,fun y hy=> ?_⟩⟩
   obtain ⟨j,hj,rfl⟩:=List.getElem_of_mem hy
   exact h2 j hj hj
theorem yE_ (xs:List ai_) (hw:xs.length≤maxLen∧∀y∈xs,tz_ y) (a:Int) (ha:0≤a∧a≤1048576):Wp (fun k=>g3_ k xs a) (fun r=>r≤1048576∧(0≤r→smL iK_ xs)):=by
  obtain ⟨hl,hp⟩:=hw
  have hl:xs.length≤2^63-1:=hl
  unfold g3_
  try simp (disch:=omega) only [aM_,af_]
  refine Wp.ite (fun h=>Wp.ret ⟨by omega,fun h=>by omega⟩) (fun h=> ?_)
  refine Wp.loop (n:=xs.length) (f:=fun k i (l:Int)=>db_ k xs l (i:Int)) (Inv:=fun i l=>(0≤l∧l≤1048576)∧∀j (hj:j<xs.length),j<i→iK_ xs[j]) (Q:=fun r=>r≤1048576∧(0≤r→smL iK_ xs)) ?_ ?_ xs.length 0 (a-xs.length) (by omega) ⟨by omega,fun j _ h=>by omega⟩
  ·rintro i l hi ⟨h1,h2⟩ ih
   refine Wp.step ?_
   simp only [db_]
   simp (disch:=omega) only [af_,if_pos,rW_,Option.bind_some,aM_,hn_]
   refine Wp.bind (zm_ _ (hp _ (List.getElem_mem hi)) l h1) (fun r hr=> ?_)
   refine Wp.ite (fun h=>Wp.ret ⟨by omega,fun h=>by omega⟩) (fun h=> ?_)
   refine ih _ ⟨by omega,fun j hj hji=> ?_⟩
   by_cases e:j=i
   ·subst e;exact hr.2 (by omega)
   ·exact h2 j hj (by omega)
  ·rintro l ⟨h1,h2⟩
   refine Wp.step ?_
   simp only [db_]
   simp (disch:=omega) only [af_,if_neg]
   refine Wp.ret ⟨by omega,fun _=>⟨by omega,fun y hy=> ?_⟩⟩
   obtain ⟨j,hj,rfl⟩:=List.getElem_of_mem hy
   exact h2 j hj hj
theorem uF_ (xs:List ByteArray) (hw:xs.length≤maxLen∧∀y∈xs,zc_ y) (a:Int) (ha:0≤a∧a≤1048576):Wp (fun k=>fu_ k xs a) (fun r=>r≤1048576∧(0≤r→smL (fun s:ByteArray=>s.size≤1048576) xs)):=by
  obtain ⟨hl,hp⟩:=hw
  have hl:xs.length≤2^63-1:=hl
  unfold fu_
  try simp (disch:=omega) only [aM_,af_]
  refine Wp.ite (fun h=>Wp.ret ⟨by omega,fun h=>by omega⟩) (fun h=> ?_)
  refine Wp.loop (n:=xs.length) (f:=fun k i (l:Int)=>cq_ k xs l (i:Int)) (Inv:=fun i l=>(0≤l∧l≤1048576)∧∀j (hj:j<xs.length),j<i→(fun s:ByteArray=>s.size≤1048576) xs[j]) (Q:=fun r=>r≤1048576∧(0≤r→smL (fun s:ByteArray=>s.size≤1048576) xs)) ?_ ?_ xs.length 0 (a-xs.length) (by omega) ⟨by omega,fun j _ h=>by omega⟩
  ·rintro i l hi ⟨h1,h2⟩ ih
   refine Wp.step ?_
   simp only [cq_]
   simp (disch:=omega) only [af_,if_pos,rW_,Option.bind_some,aM_,hn_]
   have h3:xs[i].size≤2^63-1:=hp _ (List.getElem_mem hi)
   try simp (disch:=omega) only [aM_]
   refine Wp.ite (fun h=>Wp.ret ⟨by omega,fun h=>by omega⟩) (fun h=> ?_)
   refine ih _ ⟨by omega,fun j hj hji=> ?_⟩
   by_cases e:j=i
   ·subst e;show xs[j].size≤1048576;omega
   ·exact h2 j hj (by omega)
  ·rintro l ⟨h1,h2⟩
   refine Wp.step ?_
   simp only [cq_]
   simp (disch:=omega) only [af_,if_neg]
   refine Wp.ret ⟨by omega,fun _=>⟨by omega,fun y hy=> ?_⟩⟩
   obtain ⟨j,hj,rfl⟩:=List.getElem_of_mem hy
   exact h2 j hj hj
theorem zf_ (x:al_) (hw:tc_ x) (a:Int) (ha:0≤a∧a≤1048576):Wp (fun k=>h4_ k x a) (fun r=>r≤1048576∧(0≤r→mc_ x)):=by
  unfold mc_
  obtain ⟨w0,w1⟩:=hw
  unfold h4_
  refine Wp.bind (yi_ _ w1 a (by omega)) (fun r0 e0=> ?_)
  first | refine Wp.dec (fun h=>Wp.ret ⟨by omega,fun h=>by omega⟩) (fun h0=>Wp.ret ⟨by omega,fun _=> ?_⟩) | refine Wp.ite (fun h=>Wp.ret ⟨by omega,fun h=>by omega⟩) (fun h0=>Wp.ret ⟨by omega,fun _=> ?_⟩)
  exact e0.2 (by omega)
theorem yW_ (x:ak_) (hw:s8_ x) (a:Int) (ha:0≤a∧a≤1048576):Wp (fun k=>h7_ k x a) (fun r=>r≤1048576∧(0≤r→lv_ x)):=by
  unfold lv_
  obtain ⟨w0,w1,w2,w3⟩:=hw
  unfold h7_
  refine Wp.bind (yE_ _ w1 a (by omega)) (fun r0 e0=> ?_)
  first | refine Wp.dec (fun h=>Wp.ret ⟨by omega,fun h=>by omega⟩) (fun h0=> ?_) | refine Wp.ite (fun h=>Wp.ret ⟨by omega,fun h=>by omega⟩) (fun h0=> ?_)
  have s1:x.Open.size≤2^63-1:=w2
  try simp (disch:=omega) only [aM_,af_]
  refine Wp.ite (fun h=>Wp.ret ⟨by omega,fun h=>by omega⟩) (fun h1=> ?_)
  refine Wp.bind (uF_ _ w3 (r0-(x.Open.size:Int)) (by omega)) (fun r2 e2=> ?_)
  first | refine Wp.dec (fun h=>Wp.ret ⟨by omega,fun h=>by omega⟩) (fun h2=>Wp.ret ⟨by omega,fun _=> ?_⟩) | refine Wp.ite (fun h=>Wp.ret ⟨by omega,fun h=>by omega⟩) (fun h2=>Wp.ret ⟨by omega,fun _=> ?_⟩)
  exact ⟨e0.2 (by omega),(by omega),e2.2 (by omega)⟩
theorem u7_ (x:aE_) (h:sp_ x):Wp (fun k=>gx_ k x x) (· =true):=by
  unfold gx_
  unfold sp_ at h
  have h0:=h
  simp only [aM_,af_,aH_,ea_,d8_,cB_,cZ_,cond_true,cond_false,Option.bind_some,Bool.not_true,Bool.not_false,if_true,if_false]
  exact Wp.ret rfl
theorem zJ_ (x:ag_) (h:jr_ x):Wp (fun k=>hJ_ k x x) (· =true):=by
  unfold hJ_
  unfold jr_ at h
  have h0:=h
  simp only [aM_,af_,aH_,ea_,d8_,cB_,cZ_,cond_true,cond_false,Option.bind_some,Bool.not_true,Bool.not_false,if_true,if_false]
  refine Wp.bind (u7_ _ h0) (fun _ e=> ?_);subst e
  simp only [aM_,af_,aH_,ea_,d8_,cB_,cZ_,cond_true,cond_false,Option.bind_some,Bool.not_true,Bool.not_false,if_true,if_false]
  exact Wp.ret rfl
theorem Ak_ (x:ai_) (h:iK_ x):Wp (fun k=>hW_ k x x) (· =true):=by
  unfold hW_
  unfold iK_ at h
  have h0:=h
  simp only [aM_,af_,aH_,ea_,d8_,cB_,cZ_,cond_true,cond_false,Option.bind_some,Bool.not_true,Bool.not_false,if_true,if_false]
  refine Wp.bind (u7_ _ h0) (fun _ e=> ?_);subst e
  simp only [aM_,af_,aH_,ea_,d8_,cB_,cZ_,cond_true,cond_false,Option.bind_some,Bool.not_true,Bool.not_false,if_true,if_false]
  exact Wp.ret rfl
theorem x3_ (xs:List ag_) (h:smL jr_ xs):Wp (fun k=>g1_ k xs xs) (· =true):=by
  unfold g1_
  obtain ⟨hl,hp⟩:=h
  simp only [d8_,if_true]
  refine Wp.loop (n:=xs.length) (f:=fun k i (_:Unit)=>c9_ k xs xs (i:Int)) (Inv:=fun _ _=>True) (Q:=(· =true)) ?_ ?_ xs.length 0 () (by omega) trivial
  ·rintro i _ hi _ ih
   refine Wp.step ?_
   simp only [c9_]
   simp (disch:=omega) only [af_,if_pos,rW_,Option.bind_some,aM_,hn_]
   refine Wp.bind (zJ_ _ (hp _ (List.getElem_mem hi))) (fun _ e=> ?_);subst e
   simp only [aM_,af_,aH_,ea_,d8_,cB_,cZ_,cond_true,cond_false,Option.bind_some,Bool.not_true,Bool.not_false,if_true,if_false]
   exact ih () trivial
  ·rintro _ _
   refine Wp.step ?_
   simp only [c9_]
   simp (disch:=omega) only [af_,if_neg]
   exact Wp.ret rfl
theorem yq_ (xs:List ai_) (h:smL iK_ xs):Wp (fun k=>hb_ k xs xs) (· =true):=by
  unfold hb_
  obtain ⟨hl,hp⟩:=h
  simp only [d8_,if_true]
  refine Wp.loop (n:=xs.length) (f:=fun k i (_:Unit)=>c3_ k xs xs (i:Int)) (Inv:=fun _ _=>True) (Q:=(· =true)) ?_ ?_ xs.length 0 () (by omega) trivial
  ·rintro i _ hi _ ih
   refine Wp.step ?_
   simp only [c3_]
   simp (disch:=omega) only [af_,if_pos,rW_,Option.bind_some,aM_,hn_]
   refine Wp.bind (Ak_ _ (hp _ (List.getElem_mem hi))) (fun _ e=> ?_);subst e
   simp only [aM_,af_,aH_,ea_,d8_,cB_,cZ_,cond_true,cond_false,Option.bind_some,Bool.not_true,Bool.not_false,if_true,if_false]
   exact ih () trivial
  ·rintro _ _
   refine Wp.step ?_
   simp only [c3_]
   simp (disch:=omega) only [af_,if_neg]
   exact Wp.ret rfl
theorem uR_ (xs:List ByteArray) (h:smL (fun s:ByteArray=>s.size≤1048576) xs):Wp (fun k=>fw_ k xs xs) (· =true):=by
  unfold fw_
  obtain ⟨hl,hp⟩:=h
  simp only [d8_,if_true]
  refine Wp.loop (n:=xs.length) (f:=fun k i (_:Unit)=>cn_ k xs xs (i:Int)) (Inv:=fun _ _=>True) (Q:=(· =true)) ?_ ?_ xs.length 0 () (by omega) trivial
  ·rintro i _ hi _ ih
   refine Wp.step ?_
   simp only [cn_]
   simp (disch:=omega) only [af_,if_pos,rW_,Option.bind_some,aM_,hn_]
   simp only [aM_,af_,aH_,ea_,d8_,cB_,cZ_,cond_true,cond_false,Option.bind_some,Bool.not_true,Bool.not_false,if_true,if_false]
   exact ih () trivial
  ·rintro _ _
   refine Wp.step ?_
   simp only [cn_]
   simp (disch:=omega) only [af_,if_neg]
   exact Wp.ret rfl
theorem zu_ (x:al_) (h:mc_ x):Wp (fun k=>hM_ k x x) (· =true):=by
  unfold hM_
  unfold mc_ at h
  have h0:=h
  simp only [aM_,af_,aH_,ea_,d8_,cB_,cZ_,cond_true,cond_false,Option.bind_some,Bool.not_true,Bool.not_false,if_true,if_false]
  refine Wp.bind (x3_ _ h0) (fun _ e=> ?_);subst e
  simp only [aM_,af_,aH_,ea_,d8_,cB_,cZ_,cond_true,cond_false,Option.bind_some,Bool.not_true,Bool.not_false,if_true,if_false]
  exact Wp.ret rfl
theorem zg_ (x:ak_) (h:lv_ x):Wp (fun k=>hL_ k x x) (· =true):=by
  unfold hL_
  unfold lv_ at h
  obtain ⟨h0,h1,h2⟩:=h
  simp only [aM_,af_,aH_,ea_,d8_,cB_,cZ_,cond_true,cond_false,Option.bind_some,Bool.not_true,Bool.not_false,if_true,if_false]
  refine Wp.bind (yq_ _ h0) (fun _ e=> ?_);subst e
  simp only [aM_,af_,aH_,ea_,d8_,cB_,cZ_,cond_true,cond_false,Option.bind_some,Bool.not_true,Bool.not_false,if_true,if_false]
  refine Wp.bind (uR_ _ h2) (fun _ e=> ?_);subst e
  simp only [aM_,af_,aH_,ea_,d8_,cB_,cZ_,cond_true,cond_false,Option.bind_some,Bool.not_true,Bool.not_false,if_true,if_false]
  exact Wp.ret rfl
end Km.X
namespace Km.X
open Go Km
set_option linter.unusedVariables false
set_option linter.unusedSimpArgs false
theorem l9_:∀(d:Nat) (k:Int) (s:ByteArray),k<10^d→k≤9223372036854775807→d+s.size≤1000→Wp (fun n=>cI_ n k s) (fun _=>True)
  | 0,k,s,hk,hb,hs=>by
    refine Wp.step ?_
    simp only [cI_]
    have hk0:¬(k>0):=by simp at hk;omega
    simp only [af_,if_neg hk0,bF_ (x:=⟨#[109]⟩) (y:=s) (by show (1:Nat)+s.size≤_;omega),Option.bind_some]
    exact Wp.ret trivial
  | d+1,k,s,hk,hb,hs=>by
    refine Wp.step ?_
    simp only [cI_,af_]
    refine Wp.ite (fun h=> ?_) (fun h=> ?_)
    ·have hs1:jI_ (iJ_ [IntKind.wrap .u8 (IntKind.wrap .i64 (48+k%10))]) s=some _:=bF_ (by rw [gs_];simp;omega)
     simp (disch:=omega) only [a2_,wn_,Option.bind_some]
     rw [hs1]
     simp (disch:=omega) only [Option.bind_some,aM_]
     refine l9_ d (k/10) _ ?_ (by omega) ?_
     ·rw [Int.pow_succ] at hk;omega
     ·rw [bg_,gs_];simp;omega
    ·simp only [bF_ (x:=⟨#[109]⟩) (y:=s) (by show (1:Nat)+s.size≤_;omega),Option.bind_some]
     exact Wp.ret trivial
noncomputable def mt (k:Int):ByteArray:=ans (fun n=>aJ_ n k)
theorem bz_ {k:Int} (h:0≤k∧k≤100000000000000):Wp (fun n=>aJ_ n k) (· =mt k):=by
  have:Wp (fun n=>aJ_ n k) (fun _=>True):=by
    unfold aJ_
    simp only [af_]
    refine Wp.ite (fun h=>Wp.ret trivial) (fun h=>l9_ 15 k _ (by omega) (by omega) (by decide))
  exact (Wp.ans_eq this).2
def if_:Int→List ag_→Prop
  | _,[]=>True
  | k,x::t=>(x.Part.Text=mt k∧x.Part.Last=((k+1)%3==0)∧x.Has=((k+2)%3==0)∧x.Since=(k+3))∧if_ (k+4) t
theorem ki_:∀(t pre:List ag_) (k:Int),(pre++t).length≤100000000→0≤k→k+4*t.length≤100000000000000→if_ k t→Wp (fun n=>bP_ n (pre++t) k (pre.length:Int)) (· =k+4*t.length)
  | [],pre,k,hl,h0,hk,_=>by
    refine Wp.step ?_
    simp only [bP_,List.append_nil]
    simp (disch:=omega) only [af_,if_neg]
    exact Wp.ret (by simp)
  | x::t,pre,k,hl,h0,hk,hm=>by
    simp only [if_] at hm
    obtain ⟨hm,hm2⟩:=hm
    simp only [List.length_append,List.length_cons] at hl hk
    refine Wp.step ?_
    simp only [bP_]
    have hlt:=a3_ (pre:=pre) (t:=t) (x:=x)
    obtain ⟨m0,m1,m2,m3⟩:=hm
    simp (disch:=first | omega | rfl | assumption) only [af_,d8_,aH_,cZ_,cB_,if_pos,if_neg,if_true,eq_self,Int.reduceAdd,aA_,Option.bind_some,aM_,a2_,o0_,hlt,m0,m1,m2,m3]
    refine Wp.bind (bz_ (by omega)) (fun _ e=> ?_);subst e
    try simp (disch:=first | omega | rfl | assumption) only [af_,d8_,aH_,cZ_,cB_,if_pos,if_neg,if_true,eq_self,Int.reduceAdd,aA_,Option.bind_some,aM_,a2_,o0_,hlt,m0,m1,m2,m3]
    have ih:Wp (fun n=>bP_ n (pre++x::t) (k+4) ((pre.length:Int)+1)) (· =k+4+4*t.length):=by
      have:=ki_ t (pre++[x]) (k+4) (by simp;omega) (by omega) (by omega) hm2
      rwa [←aI_,←aW_] at this
    exact ih.mono (fun r hr=>by simp only [List.length_cons];omega)
theorem uZ_ {k:Int} {l:List ag_} (h0:0≤k) (hk:k+4*l.length≤100000000000000) (hl:l.length≤100000000) (hm:if_ k l):Wp (fun n=>fv_ n l k) (· =k+4*l.length):=by
  unfold fv_
  exact ki_ l [] k (by simpa using hl) h0 hk hm
theorem kb_:∀(t pre:List ag_) (k:Int),(pre++t).length≤100000000→0≤k→k+4*t.length≤100000000000000→Wp (fun n=>bN_ n k (pre.length:Int) (pre++t)) (fun r=>r.1=k+4*t.length∧∃t',r.2=pre++t'∧t'.length=t.length∧if_ k t')
  | [],pre,k,hl,h0,hk=>by
    refine Wp.step ?_
    simp only [bN_,List.append_nil]
    simp (disch:=omega) only [af_,if_neg]
    exact Wp.ret ⟨by simp,[],by simp,rfl,trivial⟩
  | x::t,pre,k,hl,h0,hk=>by
    simp only [List.length_append,List.length_cons] at hl hk
    refine Wp.step ?_
    simp only [bN_]
    simp (disch:=omega) only [af_,if_pos,if_true,Int.reduceAdd,a3_,aA_,by_,set_mid,Option.bind_some,aM_,a2_,o0_]
    refine Wp.bind (bz_ (by omega)) (fun _ e=> ?_);subst e
    try simp (disch:=omega) only [af_,if_pos,if_true,Int.reduceAdd,a3_,aA_,by_,set_mid,Option.bind_some,aM_,a2_,o0_]
    have key:∀y:ag_,(y.Part.Text=mt k∧y.Part.Last=((k+1)%3==0)∧y.Has=((k+2)%3==0)∧y.Since=(k+3))→Wp (fun n=>bN_ n (k+4) ((pre.length:Int)+1) (pre++y::t)) (fun r=>r.1=k+4*(x::t).length∧∃t',r.2=pre++t'∧t'.length=(x::t).length∧if_ k t'):=fun y hy=>by
      have:=kb_ t (pre++[y]) (k+4) (by simp;omega) (by omega) (by omega)
      rw [←aI_,←aW_] at this
      refine this.mono ?_
      rintro ⟨r1,r2⟩ ⟨e1,t',e2,e3,e4⟩
      refine ⟨by simp only [List.length_cons] at*;omega,y::t',by rw [e2];simp,by simp [e3], ?_⟩
      simp only [if_]
      exact ⟨hy,e4⟩
    exact key _ (by simp)
theorem vi_ {k:Int} {l:List ag_} (h0:0≤k) (hk:k+4*l.length≤100000000000000) (hl:l.length≤100000000):Wp (fun n=>fq_ n l k) (fun r=>r.1=k+4*l.length∧r.2.length=l.length∧if_ k r.2):=by
  unfold fq_
  refine (kb_ l [] k (by simpa using hl) h0 hk).mono ?_
  rintro ⟨r1,r2⟩ ⟨e1,t',e2,e3,e4⟩
  simp only [List.nil_append] at e2
  subst e2
  exact ⟨e1,e3,e4⟩
def hi_:Int→List ai_→Prop
  | _,[]=>True
  | k,x::t=>(x.Seq=k∧x.Part.Text=mt (k+1)∧x.Part.Last=((k+2)%3==0))∧hi_ (k+3) t
theorem kE_:∀(t pre:List ai_) (k:Int),(pre++t).length≤100000000→0≤k→k+3*t.length≤100000000000000→hi_ k t→Wp (fun n=>bG_ n (pre++t) k (pre.length:Int)) (· =k+3*t.length)
  | [],pre,k,hl,h0,hk,_=>by
    refine Wp.step ?_
    simp only [bG_,List.append_nil]
    simp (disch:=omega) only [af_,if_neg]
    exact Wp.ret (by simp)
  | x::t,pre,k,hl,h0,hk,hm=>by
    simp only [hi_] at hm
    obtain ⟨hm,hm2⟩:=hm
    simp only [List.length_append,List.length_cons] at hl hk
    refine Wp.step ?_
    simp only [bG_]
    have hlt:=a3_ (pre:=pre) (t:=t) (x:=x)
    obtain ⟨m0,m1,m2⟩:=hm
    simp (disch:=first | omega | rfl | assumption) only [af_,d8_,aH_,cZ_,cB_,if_pos,if_neg,if_true,eq_self,Int.reduceAdd,aA_,Option.bind_some,aM_,a2_,o0_,hlt,m0,m1,m2]
    refine Wp.bind (bz_ (by omega)) (fun _ e=> ?_);subst e
    try simp (disch:=first | omega | rfl | assumption) only [af_,d8_,aH_,cZ_,cB_,if_pos,if_neg,if_true,eq_self,Int.reduceAdd,aA_,Option.bind_some,aM_,a2_,o0_,hlt,m0,m1,m2]
    have ih:Wp (fun n=>bG_ n (pre++x::t) (k+3) ((pre.length:Int)+1)) (· =k+3+3*t.length):=by
      have:=kE_ t (pre++[x]) (k+3) (by simp;omega) (by omega) (by omega) hm2
      rwa [←aI_,←aW_] at this
    exact ih.mono (fun r hr=>by simp only [List.length_cons];omega)
theorem vq_ {k:Int} {l:List ai_} (h0:0≤k) (hk:k+3*l.length≤100000000000000) (hl:l.length≤100000000) (hm:hi_ k l):Wp (fun n=>fr_ n l k) (· =k+3*l.length):=by
  unfold fr_
  exact kE_ l [] k (by simpa using hl) h0 hk hm
theorem kg_:∀(t pre:List ai_) (k:Int),(pre++t).length≤100000000→0≤k→k+3*t.length≤100000000000000→Wp (fun n=>bK_ n k (pre.length:Int) (pre++t)) (fun r=>r.1=k+3*t.length∧∃t',r.2=pre++t'∧t'.length=t.length∧hi_ k t')
  | [],pre,k,hl,h0,hk=>by
    refine Wp.step ?_
    simp only [bK_,List.append_nil]
    simp (disch:=omega) only [af_,if_neg]
    exact Wp.ret ⟨by simp,[],by simp,rfl,trivial⟩
  | x::t,pre,k,hl,h0,hk=>by
    simp only [List.length_append,List.length_cons] at hl hk
    refine Wp.step ?_
    simp only [bK_]
    simp (disch:=omega) only [af_,if_pos,if_true,Int.reduceAdd,a3_,aA_,by_,set_mid,Option.bind_some,aM_,a2_,o0_]
    refine Wp.bind (bz_ (by omega)) (fun _ e=> ?_);subst e
    try simp (disch:=omega) only [af_,if_pos,if_true,Int.reduceAdd,a3_,aA_,by_,set_mid,Option.bind_some,aM_,a2_,o0_]
    have key:∀y:ai_,(y.Seq=k∧y.Part.Text=mt (k+1)∧y.Part.Last=((k+2)%3==0))→Wp (fun n=>bK_ n (k+3) ((pre.length:Int)+1) (pre++y::t)) (fun r=>r.1=k+3*(x::t).length∧∃t',r.2=pre++t'∧t'.length=(x::t).length∧hi_ k t'):=fun y hy=>by
      have:=kg_ t (pre++[y]) (k+3) (by simp;omega) (by omega) (by omega)
      rw [←aI_,←aW_] at this
      refine this.mono ?_
      rintro ⟨r1,r2⟩ ⟨e1,t',e2,e3,e4⟩
      refine ⟨by simp only [List.length_cons] at*;omega,y::t',by rw [e2];simp,by simp [e3], ?_⟩
      simp only [hi_]
      exact ⟨hy,e4⟩
    exact key _ (by simp)
theorem t7_ {k:Int} {l:List ai_} (h0:0≤k) (hk:k+3*l.length≤100000000000000) (hl:l.length≤100000000):Wp (fun n=>fx_ n l k) (fun r=>r.1=k+3*l.length∧r.2.length=l.length∧hi_ k r.2):=by
  unfold fx_
  refine (kg_ l [] k (by simpa using hl) h0 hk).mono ?_
  rintro ⟨r1,r2⟩ ⟨e1,t',e2,e3,e4⟩
  simp only [List.nil_append] at e2
  subst e2
  exact ⟨e1,e3,e4⟩
def ek_:Int→List ByteArray→Prop
  | _,[]=>True
  | k,x::t=>(x=mt k)∧ek_ (k+1) t
theorem im_:∀(t pre:List ByteArray) (k:Int),(pre++t).length≤100000000→0≤k→k+1*t.length≤100000000000000→ek_ k t→Wp (fun n=>bp_ n (pre++t) k (pre.length:Int)) (· =k+1*t.length)
  | [],pre,k,hl,h0,hk,_=>by
    refine Wp.step ?_
    simp only [bp_,List.append_nil]
    simp (disch:=omega) only [af_,if_neg]
    exact Wp.ret (by simp)
  | x::t,pre,k,hl,h0,hk,hm=>by
    simp only [ek_] at hm
    obtain ⟨hm,hm2⟩:=hm
    simp only [List.length_append,List.length_cons] at hl hk
    refine Wp.step ?_
    simp only [bp_]
    have hlt:=a3_ (pre:=pre) (t:=t) (x:=x)
    have m0:=hm
    simp (disch:=first | omega | rfl | assumption) only [af_,d8_,aH_,cZ_,cB_,if_pos,if_neg,if_true,eq_self,Int.reduceAdd,aA_,Option.bind_some,aM_,a2_,o0_,hlt,true_and]
    refine Wp.bind (bz_ (by omega)) (fun _ e=> ?_);subst e
    try simp (disch:=first | omega | rfl | assumption) only [af_,d8_,aH_,cZ_,cB_,if_pos,if_neg,if_true,eq_self,Int.reduceAdd,aA_,Option.bind_some,aM_,a2_,o0_,hlt,true_and]
    have ih:Wp (fun n=>bp_ n (pre++x::t) (k+1) ((pre.length:Int)+1)) (· =k+1+1*t.length):=by
      have:=im_ t (pre++[x]) (k+1) (by simp;omega) (by omega) (by omega) hm2
      rwa [←aI_,←aW_] at this
    exact ih.mono (fun r hr=>by simp only [List.length_cons];omega)
theorem rh_ {k:Int} {l:List ByteArray} (h0:0≤k) (hk:k+1*l.length≤100000000000000) (hl:l.length≤100000000) (hm:ek_ k l):Wp (fun n=>ep_ n l k) (· =k+1*l.length):=by
  unfold ep_
  exact im_ l [] k (by simpa using hl) h0 hk hm
theorem iq_:∀(t pre:List ByteArray) (k:Int),(pre++t).length≤100000000→0≤k→k+1*t.length≤100000000000000→Wp (fun n=>bl_ n k (pre.length:Int) (pre++t)) (fun r=>r.1=k+1*t.length∧∃t',r.2=pre++t'∧t'.length=t.length∧ek_ k t')
  | [],pre,k,hl,h0,hk=>by
    refine Wp.step ?_
    simp only [bl_,List.append_nil]
    simp (disch:=omega) only [af_,if_neg]
    exact Wp.ret ⟨by simp,[],by simp,rfl,trivial⟩
  | x::t,pre,k,hl,h0,hk=>by
    simp only [List.length_append,List.length_cons] at hl hk
    refine Wp.step ?_
    simp only [bl_]
    simp (disch:=omega) only [af_,if_pos,if_true,Int.reduceAdd,a3_,aA_,by_,set_mid,Option.bind_some,aM_,a2_,o0_]
    refine Wp.bind (bz_ (by omega)) (fun _ e=> ?_);subst e
    try simp (disch:=omega) only [af_,if_pos,if_true,Int.reduceAdd,a3_,aA_,by_,set_mid,Option.bind_some,aM_,a2_,o0_]
    have key:∀y:ByteArray,(y=mt k)→Wp (fun n=>bl_ n (k+1) ((pre.length:Int)+1) (pre++y::t)) (fun r=>r.1=k+1*(x::t).length∧∃t',r.2=pre++t'∧t'.length=(x::t).length∧ek_ k t'):=fun y hy=>by
      have:=iq_ t (pre++[y]) (k+1) (by simp;omega) (by omega) (by omega)
      rw [←aI_,←aW_] at this
      refine this.mono ?_
      rintro ⟨r1,r2⟩ ⟨e1,t',e2,e3,e4⟩
      refine ⟨by simp only [List.length_cons] at*;omega,y::t',by rw [e2];simp,by simp [e3], ?_⟩
      simp only [ek_]
      exact ⟨hy,e4⟩
    exact key _ (by simp)
theorem rc_ {k:Int} {l:List ByteArray} (h0:0≤k) (hk:k+1*l.length≤100000000000000) (hl:l.length≤100000000):Wp (fun n=>eq_ n l k) (fun r=>r.1=k+1*l.length∧r.2.length=l.length∧ek_ k r.2):=by
  unfold eq_
  refine (iq_ l [] k (by simpa using hl) h0 hk).mono ?_
  rintro ⟨r1,r2⟩ ⟨e1,t',e2,e3,e4⟩
  simp only [List.nil_append] at e2
  subst e2
  exact ⟨e1,e3,e4⟩
end Km.X
namespace Km.X
open Go Km
set_option linter.unusedVariables false
set_option linter.unusedSimpArgs false
abbrev noB:ByteArray:=⟨#[]⟩
theorem fm_:noB.size=0:=rfl
theorem yI_ (bs:List Int):∀(s:ByteArray),bs.foldl (fun r n=>r.push (UInt8.ofNat n.toNat)) s=s++iJ_ bs:=by
  induction bs with
  | nil=>intro s;simp [iJ_]
  | cons b bs ih=>
    intro s
    simp only [List.foldl_cons,iJ_]
    rw [ih,ih]
    apply ByteArray.ext;apply Array.ext'
    simp
theorem yJ_ (b:Int) (bs:List Int):iJ_ [b]++iJ_ bs=iJ_ (b::bs):=by
  have:=yI_ bs (iJ_ [b])
  rw [←this];rfl
theorem AQ_:iJ_ []=noB:=rfl
def ef_:Nat→Nat→List Int
  | 0,_=>[]
  | w+1,n=>ef_ w (n/256)++[((n%256:Nat):Int)]
theorem eZ_:∀(w n:Nat),(ef_ w n).length=w
  | 0,_=>rfl
  | w+1,n=>by simp [ef_,eZ_ w]
theorem q0_ (d:Nat):∀(w n:Nat),(ef_ (w+d) n).drop d=ef_ w n
  | 0,n=>by
    rw [Nat.zero_add,List.drop_eq_nil_of_le (by rw [eZ_];exact Nat.le_refl _)];rfl
  | w+1,n=>by
    rw [show w+1+d=(w+d)+1 by omega]
    simp only [ef_]
    rw [List.drop_append_of_le_length (by rw [eZ_];omega),q0_ d w]
theorem wu8 (n:Nat):IntKind.wrap .u8 (n:Int)=((n%256:Nat):Int):=by rw [IntKind.wrap_u8];omega
theorem Gd_ {n:Int} (h1:0≤n) (h2:n≤18446744073709551615):IntKind.wrap .u64 n=n:=IntWalk.u64_in n ⟨h1,h2⟩
theorem sw_ (n:Int):0≤IntKind.wrap .u64 n∧IntKind.wrap .u64 n≤18446744073709551615:=by
  simp only [IntKind.wrap,IntKind.signed,IntKind.bits,Bool.false_and]
  rw [if_neg (by simp)];omega
theorem xo_ (n:Nat):qN_ (n:Int) 256=some ((n%256:Nat):Int):=by rw [a2_ (by omega) (by omega)];simp
theorem xs_ (n:Nat):Ad_ (n:Int) 256=some ((n/256:Nat):Int):=by rw [wn_ (by omega) (by omega)];simp
theorem yY_ (n:Nat):IntKind.wrap .u8 ((n%256:Nat):Int)=((n%256:Nat):Int):=by rw [wu8,Nat.mod_mod]
theorem F3_ {k:IntKind} (hk:8≤k.bits) (n:Nat):shift .shr k (n:Int) 8=some ((n/256:Nat):Int):=by
  simp only [shift]
  rw [if_neg (by omega)]
  congr 1
  rw [show (Int.toNat 8)=8 from rfl,Nat.min_eq_left hk,Int.fdiv_eq_ediv_of_nonneg _ (by simp)]
  simp
theorem tM_ (b:Int) (bs:List Int) (h:bs.length≤1000):jI_ (iJ_ [b]) (iJ_ bs)=some (iJ_ (b::bs)):=by
  rw [bF_ (by rw [gs_,gs_];simp;omega),yJ_]
theorem um_ {d n:Nat} {b:List Int} (hlt:d<b.length):ef_ d (n/256)++(b.set d ((n%256:Nat):Int)).drop d=ef_ (d+1) n++b.drop (d+1):=by
  simp only [ef_,List.append_assoc,List.cons_append,List.nil_append]
  congr 1
  rw [List.drop_eq_getElem_cons (by simpa using hlt),List.drop_set_of_lt (by omega)]
  simp
theorem vd_:∀(d w i n:Nat) (tail:List Int),i+d=w→w≤8→n≤18446744073709551615→tail.length+d≤100→
    Wp (fun k=>eF_ k (w:Int) (n:Int) (iJ_ tail) (i:Int)) (· =iJ_ (ef_ d n++tail))
  | 0,w,i,n,tail,h,hw,hn,ht=>by
    refine Wp.step ?_
    simp only [eF_]
    simp (disch:=omega) only [af_,if_neg]
    exact Wp.ret rfl
  | d+1,w,i,n,tail,h,hw,hn,ht=>by
    refine Wp.step ?_
    simp only [eF_]
    simp (disch:=omega) only [af_,if_pos,xo_,xs_,Option.bind_some,yY_,tM_,Gd_,aM_,hn_]
    have ih:=vd_ d w (i+1) (n/256) (((n%256:Nat):Int)::tail) (by omega) hw (by omega) (by simp;omega)
    simpa [ef_] using ih
theorem vm_:∀(d w n:Nat) (b:List Int),b.length=8→d≤8→1≤w→w≤8→n≤18446744073709551615→
    Wp (fun k=>eI_ k (w:Int) (n:Int) ((d:Int)-1) b) (· =iJ_ ((ef_ d n++b.drop d).drop (8-w)))
  | 0,w,n,b,hb,hd,hw1,hw,hn=>by
    refine Wp.step ?_
    simp only [eI_]
    simp (disch:=omega) only [af_,if_neg,if_pos hb,aM_,cY_,Option.bind_some]
    refine Wp.ret ?_
    simp only [ef_,List.nil_append,List.drop_zero,dO_]
    rw [show ((8:Int)-(w:Int)).toNat=8-w by omega,show Int.toNat 8=8 from rfl,List.take_of_length_le (by omega)]
  | d+1,w,n,b,hb,hd,hw1,hw,hn=>by
    refine Wp.step ?_
    simp only [eI_]
    rw [show ((d+1:Nat):Int)-1=(d:Int) by omega]
    have hlt:d<b.length:=by omega
    simp (disch:=first | omega | decide) only [af_,if_pos,if_pos hb,rW_,BB_,Option.bind_some,F3_,aM_,wu8]
    have ih:=vm_ d w (n/256) (b.set d ((n%256:Nat):Int)) (by simpa using hb) (by omega) hw1 hw (by omega)
    rw [um_ hlt] at ih
    rw [Int.toNat_natCast]
    exact ih
def hstep (v:Int) (c:UInt8):Int:=IntKind.wrap .u64 ((m6_ .u64 v (IntKind.wrap .u64 (c.toNat:Int)))*1099511628211)
def Fd_ (l:List UInt8):Int:=l.foldl hstep 14695981039346656037
theorem oT_ {pre t:List UInt8} {c:UInt8} {all:ByteArray} (h:all.data.toList=pre++c::t):tG_ all (pre.length:Int)=some c:=by
  have hl:pre.length<all.size:=by
    have:=congrArg List.length h
    simp at this
    have e:all.size=all.data.size:=rfl
    omega
  have hg:all.data[pre.length]? =some c:=by
    rw [←Array.getElem?_toList,h];simp
  unfold tG_
  rw [if_neg (by omega),Int.toNat_natCast]
  have e:all[pre.length]? =some (all[pre.length]'hl):=by simp [hl]
  rw [e]
  rw [Array.getElem?_eq_getElem (by exact hl)] at hg
  exact hg
theorem gD_ {pre t:List UInt8} {all:ByteArray} (h:all.data.toList=pre++t):all.size=pre.length+t.length:=by
  have:=congrArg List.length h
  simp at this
  exact this
theorem w4_ (all:ByteArray) (w:Nat) (hw:w≤8) (hs:all.size≤10000000):∀(t pre:List UInt8) (v:Int),all.data.toList=pre++t→0≤v∧v≤18446744073709551615→
    Wp (fun k=>e7_ k (w:Int) all v (pre.length:Int)) (· =iJ_ (ef_ w (t.foldl hstep v).toNat))
  | [],pre,v,h,hv=>by
    refine Wp.step ?_
    have:=gD_ h
    simp only [List.length_nil] at this
    simp only [e7_]
    simp (disch:=omega) only [af_,if_neg]
    have h11:=vd_ w w 0 v.toNat [] (by omega) hw (by omega) (by simp;omega)
    rw [List.append_nil,show ((v.toNat:Nat):Int)=v by omega,AQ_] at h11
    exact h11
  | c::t,pre,v,h,hv=>by
    refine Wp.step ?_
    have hl:=gD_ h
    simp only [List.length_cons] at hl
    simp only [e7_]
    simp (disch:=omega) only [af_,if_pos,oT_ h,Option.bind_some,aM_]
    have ih:=w4_ all w hw hs t (pre++[c]) (hstep v c) (by simpa using h) (sw_ _)
    rwa [←aW_] at ih
theorem wU_ (all:ByteArray) (w:Nat) (hw1:1≤w) (hw:w≤8) (hs:all.size≤10000000):∀(t pre:List UInt8) (v:Int),all.data.toList=pre++t→0≤v∧v≤18446744073709551615→
    Wp (fun k=>fj_ k (w:Int) v all (pre.length:Int)) (· =iJ_ (ef_ w (t.foldl hstep v).toNat))
  | [],pre,v,h,hv=>by
    refine Wp.step ?_
    have:=gD_ h
    simp only [List.length_nil] at this
    simp only [fj_]
    simp (disch:=omega) only [af_,if_neg]
    have h11:=vm_ 8 w v.toNat (List.replicate 8 0) (by simp) (by omega) hw1 hw (by omega)
    rw [show ((v.toNat:Nat):Int)=v by omega] at h11
    have hd:=q0_ (8-w) w v.toNat
    rw [show w+(8-w)=8 by omega] at hd
    refine Wp.mono h11 fun r hr=> ?_
    rw [hr,show List.drop 8 (List.replicate 8 (0:Int))=[] from rfl,List.append_nil,hd]
    rfl
  | c::t,pre,v,h,hv=>by
    refine Wp.step ?_
    have hl:=gD_ h
    simp only [List.length_cons] at hl
    simp only [fj_]
    simp (disch:=omega) only [af_,if_pos,oT_ h,Option.bind_some,aM_]
    have ih:=wU_ all w hw1 hw hs t (pre++[c]) (hstep v c) (by simpa using h) (sw_ _)
    rwa [←aW_] at ih
theorem ck_ (a b c:Int):Wp (fun k=>aF_ k a b c) (· =(decide (b≤a)&&decide (a≤c))):=by
  unfold aF_
  refine Wp.dec (fun h=>Wp.ret ?_) (fun h=>Wp.ret ?_)
  ·rw [decide_eq_true (show b≤a by omega)];rfl
  ·rw [decide_eq_false (show¬b≤a by omega)];rfl
theorem mq_ (a b c:Int):Wp (fun k=>aX_ k a b c) (· =(decide (b≤a)&&decide (a≤c))):=ck_ a b c
theorem inB {a b c:Int}:(decide (b≤a)&&decide (a≤c))=decide (b≤a∧a≤c):=by rw [Bool.decide_and]
def AC_ (a b:ByteArray) (w:Int):ByteArray:=if w<1∨8<w∨30<b.size then noB else iJ_ (ef_ w.toNat (Fd_ (b++⟨#[0]⟩++a).data.toList).toNat)
theorem xY_ (a b:ByteArray) (w:Int) (ha:a.size≤1048576):Wp (fun k=>o2_ k a b w) (· =AC_ a b w):=by
  unfold o2_ AC_
  refine Wp.bind (ck_ _ _ _) (fun _ e=> ?_);subst e
  simp only [inB,aH_,af_]
  refine Wp.ite (fun h1=> ?_) (fun h1=> ?_)
  ·refine Wp.ite (fun h2=> ?_) (fun h2=> ?_)
   ·rw [if_pos (by omega)];exact Wp.ret rfl
   ·rw [if_neg (by omega)]
    have e0:(⟨#[0]⟩:ByteArray).size=1:=rfl
    have hsz:(b++⟨#[0]⟩++a).size=b.size+1+a.size:=by rw [bg_,bg_,e0]
    refine Wp.opt (bF_ (by rw [e0];omega)) ?_
    refine Wp.opt (bF_ (by rw [bg_,e0];omega)) ?_
    obtain ⟨n,rfl⟩:∃n:Nat,w=n:=⟨w.toNat,by omega⟩
    exact w4_ _ n (by omega) (by omega) _ [] _ rfl (by omega)
  ·rw [if_pos (by omega)];exact Wp.ret rfl
theorem xV_ (a b:ByteArray) (w:Int) (ha:a.size≤1048576):Wp (fun k=>o6_ k a b w) (· =AC_ a b w):=by
  unfold o6_ AC_
  simp only [af_]
  refine Wp.ite (fun h1=> ?_) (fun h1=> ?_)
  ·rw [if_pos (by omega)];exact Wp.ret rfl
  refine Wp.ite (fun h2=> ?_) (fun h2=> ?_)
  ·rw [if_pos (by omega)];exact Wp.ret rfl
  refine Wp.ite (fun h3=> ?_) (fun h3=> ?_)
  ·rw [if_pos (by omega)];exact Wp.ret rfl
  rw [if_neg (by omega)]
  have e0:(⟨#[0]⟩:ByteArray).size=1:=rfl
  have hsz:(b++⟨#[0]⟩++a).size=b.size+1+a.size:=by rw [bg_,bg_,e0]
  refine Wp.opt (bF_ (by rw [e0];omega)) ?_
  refine Wp.opt (bF_ (by rw [bg_,e0];omega)) ?_
  obtain ⟨n,rfl⟩:∃n:Nat,w=n:=⟨w.toNat,by omega⟩
  exact wU_ _ n (by omega) (by omega) (by omega) _ [] _ rfl (by omega)
theorem qf_ (a b:ByteArray) (w:Int):(AC_ a b w).size≤8:=by
  unfold AC_
  split
  ·simp [fm_]
  ·rw [gs_,eZ_];omega
end Km.X
namespace Km.X
open Go Km
set_option linter.unusedVariables false
set_option linter.unusedSimpArgs false
def OkItem (i:Nat) (x:ag_):Prop:=x.Part.Text.size≤20∧(-1≤x.Since∧x.Since≤3)∧(8≤i→x.Since= -1)∧(x.Has=true→0≤x.Since)
def OkItems:Nat→List ag_→Prop
  | _,[]=>True
  | i,x::t=>OkItem i x∧OkItems (i+1) t
instance (i:Nat) (x:ag_):Decidable (OkItem i x):=by unfold OkItem;infer_instance
instance yz_:(i:Nat)→(l:List ag_)→Decidable (OkItems i l)
  | _,[]=> .isTrue trivial
  | i,x::t=>by
    have:=yz_ (i+1) t
    unfold OkItems;infer_instance
def VSend (s:al_):Prop:=s.Items.length≤60∧(0≤s.Base∧s.Base≤1000000)∧s.Base+s.Items.length≤1000000∧OkItems 0 s.Items
instance (s:al_):Decidable (VSend s):=by unfold VSend;infer_instance
theorem kf_ (b:Int):∀(t pre:List ag_),(pre++t).length≤60→Wp (fun k=>aS_ k (pre.length:Int) b (pre++t)) (· =decide (OkItems pre.length t))
  | [],pre,hl=>by
    refine Wp.step ?_
    simp only [aS_,List.append_nil]
    simp (disch:=omega) only [af_,if_neg]
    exact Wp.ret rfl
  | x::t,pre,hl=>by
    refine Wp.step ?_
    have hl':=hl
    simp only [List.length_append,List.length_cons] at hl
    simp only [aS_,OkItems]
    simp (disch:=omega) only [af_,a3_,if_true,aA_,Option.bind_some,aM_,aH_,d8_]
    have F:¬OkItem pre.length x→Wp (fun _=>some false) (· =decide (OkItem pre.length x∧OkItems (pre.length+1) t)):=fun h=>Wp.ret (decide_eq_false fun h'=>h h'.1).symm
    have ih:=kf_ b t (pre++[x]) (by simpa using hl')
    rw [←aI_,←aW_,List.length_append,List.length_singleton] at ih
    have G:OkItem pre.length x→Wp (fun k=>aS_ k ((pre.length:Int)+1) b (pre++x::t)) (· =decide (OkItem pre.length x∧OkItems (pre.length+1) t)):=fun h=>by
      refine Wp.mono ih fun r hr=> ?_
      rw [hr,decide_eq_decide]
      exact ⟨fun g=>⟨h,g⟩,fun g=>g.2⟩
    refine Wp.ite (fun h=>F fun h'=>by have:=h'.1;omega) (fun h1=> ?_)
    refine Wp.bind (ck_ _ _ _) (fun _ e=> ?_);subst e
    simp only [inB,af_]
    refine Wp.ite (fun h2=> ?_) (fun h2=>F fun h'=>h2 h'.2.1)
    refine Wp.ite (fun h3=> ?_) (fun h3=> ?_)
    ·refine Wp.ite (fun h4=> ?_) (fun h4=>F fun h'=>h4 (h'.2.2.1 (by omega)))
     refine Wp.bif (fun h5=> ?_) (fun h5=> ?_)
     ·refine Wp.ite (fun h6=>F fun h'=>by have:=h'.2.2.2 h5;omega) (fun h6=>by omega)
     ·exact G ⟨by omega,h2,fun _=>h4,fun h=>by rw [h5] at h;cases h⟩
    ·refine Wp.bif (fun h5=> ?_) (fun h5=> ?_)
     ·refine Wp.ite (fun h6=>F fun h'=>by have:=h'.2.2.2 h5;omega) (fun h6=> ?_)
      exact G ⟨by omega,h2,fun h=>by omega,fun _=>by omega⟩
     ·exact G ⟨by omega,h2,fun h=>by omega,fun h=>by rw [h5] at h;cases h⟩
theorem dm_ (s:al_):Wp (fun k=>bx_ k s) (· =decide (VSend s)):=by
  unfold bx_
  simp only [af_,aH_]
  have F:¬VSend s→Wp (fun _=>some false) (· =decide (VSend s)):=fun h=>Wp.ret (decide_eq_false h).symm
  refine Wp.ite (fun h=>F fun h'=>by have:=h'.1;omega) (fun h1=> ?_)
  refine Wp.bind (ck_ _ _ _) (fun _ e=> ?_);subst e
  simp only [inB,af_]
  refine Wp.ite (fun h2=> ?_) (fun h2=>F fun h'=>h2 h'.2.1)
  rw [aM_ (by omega) (by omega)]
  refine Wp.ite (fun h3=>F fun h'=>by have:=h'.2.2.1;omega) (fun h3=> ?_)
  refine Wp.mono (kf_ s.Base s.Items [] (by simp;omega)) fun r hr=> ?_
  rw [hr,decide_eq_decide]
  exact ⟨fun h=>⟨by omega,h2,by omega,h⟩,fun h=>h.2.2.2⟩
theorem io_ (xs:List ag_) (b:Int):∀(k:Nat) (j:Int),bv_ k xs (xs.length:Int) j=aS_ k j b xs
  | 0,_=>rfl
  | k+1,j=>by
    have hi:∀a b c,aX_ k a b c=aF_ k a b c:=fun _ _ _=>rfl
    simp only [bv_,aS_,io_ xs b k,hi]
theorem rt_ (k:Nat) (s:al_):bf_ k s=bx_ k s:=by
  have hi:∀a b c,aX_ k a b c=aF_ k a b c:=fun _ _ _=>rfl
  simp only [bf_,bx_,hi,io_ s.Items s.Base]
theorem ev_ (s:al_):Wp (fun k=>bf_ k s) (· =decide (VSend s)):=by
  have:(fun k=>bf_ k s)=fun k=>bx_ k s:=funext fun k=>rt_ k s
  rw [this];exact dm_ s
theorem i0_ (s:al_) (h:s.Items.length≤1048576):Wp (fun k=>eC_ k s) (· =s):=by
  unfold eC_
  refine Wp.opt (ba_ (by simp;omega)) ?_
  exact Wp.ret (by rw [List.nil_append])
theorem k7_ (s:al_) (h:s.Items.length≤1048576):Wp (fun k=>d1_ k s) (· =s):=i0_ s h
abbrev j6_:al_:=⟨0,[]⟩
def li_ (x:ag_):ag_:=if x.Has=true then x else if x.Since= -1 then ⟨x.Part,x.Has,0⟩ else if x.Since=3 then ⟨x.Part,x.Has,0⟩ else ⟨x.Part,x.Has,x.Since+1⟩
def hp_ (x:ag_):Prop:=¬x.Has=true∧(x.Since= -1∨x.Since=3)
instance (x:ag_):Decidable (hp_ x):=by unfold hp_;infer_instance
def fy_:Nat→Int→List ag_→List ag_×List Int
  | _,_,[]=>([],[])
  | i,b,x::t=>if 8≤i then (x::t,[]) else (li_ x::(fy_ (i+1) b t).1,(if hp_ x then [b+i] else [])++(fy_ (i+1) b t).2)
def lc_ (s:al_):al_×List Int:=if VSend s then (⟨s.Base,(fy_ 0 s.Base s.Items).1⟩,(fy_ 0 s.Base s.Items).2) else (j6_,[])
theorem r5_ (b:Int) (xs ys:List ag_) (c d:Int) (hb:0≤b∧b≤1000000):∀(t pre:List ag_) (sent:List Int),(pre++t).length≤60→sent.length≤pre.length→OkItems pre.length t→
    Wp (fun k=>cH_ k (pre.length:Int) b xs c sent d ys (pre++t)) (· =(⟨d,pre++(fy_ pre.length b t).1⟩,sent++(fy_ pre.length b t).2))
  | [],pre,sent,hl,hs,hok=>by
    refine Wp.step ?_
    simp only [cH_,List.append_nil]
    simp (disch:=omega) only [af_,if_neg]
    exact Wp.ret (by simp [fy_])
  | x::t,pre,sent,hl,hs,hok=>by
    refine Wp.step ?_
    have hl':=hl
    simp only [List.length_append,List.length_cons] at hl
    simp only [cH_]
    simp only [af_,a3_,if_true,aA_,by_,Option.bind_some,ea_,set_mid]
    simp (disch:=omega) only [aM_]
    refine Wp.ite (fun h8=> ?_) (fun h8=> ?_)
    ·have ih:=fun y sent' hs'=>r5_ b xs ys c d hb t (pre++[y]) sent' (by simpa using hl') hs' (by rw [List.length_append,List.length_singleton];exact hok.2)
     have ih':∀(y:ag_) (sent':List Int),sent'.length≤pre.length+1→li_ x=y→sent'=sent++(if hp_ x then [b+(pre.length:Int)] else [])→
      Wp (fun k=>cf_ k (pre.length:Int) b xs c sent' d ys (pre++y::t)) (· =(⟨d,pre++(fy_ pre.length b (x::t)).1⟩,sent++(fy_ pre.length b (x::t)).2)):=by
       intro y sent' hs' hy hs2
       refine Wp.step ?_
       simp only [cf_]
       have:=ih y sent' (by simpa using hs')
       rw [←aI_,←aW_,List.length_append,List.length_singleton] at this
       rw [aM_ (by omega) (by omega)]
       refine this.mono fun r hr=> ?_
       rw [hr]
       simp only [fy_]
       rw [if_neg (by omega),hs2,hy]
       simp
     refine Wp.bif (fun hh=>ih' x sent (by omega) (by simp [li_,hh]) (by simp [hp_,hh])) (fun hh=> ?_)
     have hx:=hok.1
     refine Wp.ite (fun h1=> ?_) (fun h1=> ?_)
     ·refine Wp.opt (ba_ (by simp;omega)) ?_
      exact ih' _ _ (by simp;omega) (by simp [li_,hh,h1]) (by simp [hp_,hh,h1])
     refine Wp.ite (fun h2=> ?_) (fun h2=> ?_)
     ·refine Wp.opt (ba_ (by simp;omega)) ?_
      exact ih' _ _ (by simp;omega) (by simp [li_,hh,h2]) (by simp [hp_,hh,h2])
     ·have:=hx.2.1
      rw [aM_ (by omega) (by omega)]
      exact ih' _ _ (by omega) (by simp [li_,hh,h1,h2]) (by simp [hp_,hh,h1,h2])
    ·refine Wp.ret ?_
     simp only [fy_]
     rw [if_pos (by omega)];simp
theorem sa_ (ys:List ag_) (c d:Int) (hb:0≤d∧d≤1000000):∀(t pre:List ag_) (sent:List Int),(pre++t).length≤60→sent.length≤pre.length→OkItems pre.length t→
    Wp (fun k=>cK_ k (pre.length:Int) c d sent ys (pre++t)) (· =(⟨d,pre++(fy_ pre.length d t).1⟩,sent++(fy_ pre.length d t).2))
  | [],pre,sent,hl,hs,hok=>by
    refine Wp.step ?_
    simp only [cK_,List.append_nil]
    simp (disch:=omega) only [af_,if_neg]
    exact Wp.ret (by simp [fy_])
  | x::t,pre,sent,hl,hs,hok=>by
    refine Wp.step ?_
    have hl':=hl
    simp only [List.length_append,List.length_cons] at hl
    simp only [cK_]
    simp only [af_,a3_,if_true,aA_,by_,Option.bind_some,ea_,set_mid]
    simp (disch:=omega) only [aM_]
    refine Wp.ite (fun h8=> ?_) (fun h8=> ?_)
    ·have ih:=fun y sent' hs'=>sa_ ys c d hb t (pre++[y]) sent' (by simpa using hl') hs' (by rw [List.length_append,List.length_singleton];exact hok.2)
     have ih':∀(y:ag_) (sent':List Int),sent'.length≤pre.length+1→li_ x=y→sent'=sent++(if hp_ x then [d+(pre.length:Int)] else [])→
      Wp (fun k=>b8_ k (pre.length:Int) c d sent' ys (pre++y::t)) (· =(⟨d,pre++(fy_ pre.length d (x::t)).1⟩,sent++(fy_ pre.length d (x::t)).2)):=by
       intro y sent' hs' hy hs2
       refine Wp.step ?_
       simp only [b8_]
       have:=ih y sent' (by simpa using hs')
       rw [←aI_,←aW_,List.length_append,List.length_singleton] at this
       rw [aM_ (by omega) (by omega)]
       refine this.mono fun r hr=> ?_
       rw [hr]
       simp only [fy_]
       rw [if_neg (by omega),hs2,hy]
       simp
     refine Wp.bif (fun hh=>ih' x sent (by omega) (by simp [li_,hh]) (by simp [hp_,hh])) (fun hh=> ?_)
     have hx:=hok.1
     refine Wp.ite (fun h1=> ?_) (fun h1=> ?_)
     ·refine Wp.opt (ba_ (by simp;omega)) ?_
      exact ih' _ _ (by simp;omega) (by simp [li_,hh,h1]) (by simp [hp_,hh,h1])
     refine Wp.ite (fun h2=> ?_) (fun h2=> ?_)
     ·refine Wp.opt (ba_ (by simp;omega)) ?_
      exact ih' _ _ (by simp;omega) (by simp [li_,hh,h2]) (by simp [hp_,hh,h2])
     ·have:=hx.2.1
      rw [aM_ (by omega) (by omega)]
      exact ih' _ _ (by omega) (by simp [li_,hh,h1,h2]) (by simp [hp_,hh,h1,h2])
    ·refine Wp.ret ?_
     simp only [fy_]
     rw [if_pos (by omega)];simp
theorem v8_ (s:al_):Wp (fun k=>f5_ k s) (· =lc_ s):=by
  unfold f5_ lc_
  refine Wp.bind (dm_ s) (fun _ e=> ?_);subst e
  simp only [aH_,af_]
  refine Wp.ite (fun h=> ?_) (fun h=>Wp.ret (by rw [if_neg h]))
  rw [if_pos h]
  refine Wp.bind (i0_ s (by have:=h.1;omega)) (fun _ e=> ?_);subst e
  exact r5_ _ _ _ _ _ h.2.1 _ [] [] (by simpa using h.1) (by simp) h.2.2.2
theorem wJ_ (s:al_):Wp (fun k=>f7_ k s) (· =lc_ s):=by
  unfold f7_ lc_
  refine Wp.bind (ev_ s) (fun _ e=> ?_);subst e
  simp only [aH_,af_]
  refine Wp.ite (fun h=> ?_) (fun h=>Wp.ret (by rw [if_neg h]))
  rw [if_pos h]
  refine Wp.bind (k7_ s (by have:=h.1;omega)) (fun _ e=> ?_);subst e
  exact sa_ _ _ _ h.2.1 _ [] [] (by simpa using h.1) (by simp) h.2.2.2
end Km.X
namespace Km.X
open Go Km
set_option linter.unusedVariables false
set_option linter.unusedSimpArgs false
theorem h5_:VSend j6_:=⟨by simp,by simp,by simp,trivial⟩
theorem qV_:∀{l:List ag_} {i:Nat},OkItems i l→∀x∈l,x.Part.Text.size≤20
  | [],_,_,x,h=>by simp at h
  | y::t,i,⟨h1,h2⟩,x,h=>by
    rcases List.mem_cons.mp h with rfl | h
    ·exact h1.1
    ·exact qV_ h2 x h
theorem VSend.sm {s:al_} (h:VSend s):mc_ s:=by
  unfold mc_ smL
  refine ⟨by have:=h.1;omega,fun x hx=> ?_⟩
  have:=qV_ h.2.2.2 x hx
  show x.Part.Text.size≤1048576
  omega
theorem xF_ (x:ag_):(li_ x).Part=x.Part:=by unfold li_;repeat' split<;>try rfl
theorem s4_:∀(t:List ag_) (i:Nat) (b:Int),OkItems i t→OkItems i (fy_ i b t).1∧(fy_ i b t).1.length=t.length∧(fy_ i b t).2.length≤t.length
  | [],i,b,h=>⟨trivial,rfl,by simp [fy_]⟩
  | x::t,i,b,⟨h1,h2⟩=>by
    simp only [fy_]
    split
    ·exact ⟨⟨h1,h2⟩,rfl,by simp⟩
    ·have:=s4_ t (i+1) b h2
     refine ⟨⟨?_,this.1⟩,by simp [this.2.1], ?_⟩
     ·obtain ⟨a1,a2,a3,a4⟩:=h1
      refine ⟨by rw [xF_];exact a1, ?_,fun _=>by omega, ?_⟩
      ·unfold li_;split
       ·exact a2
       ·split
        ·simp
        ·split
         ·simp
         ·simp only;omega
      ·unfold li_;split
       ·exact a4
       ·rename_i hh
        split
        ·intro h;exact absurd h hh
        ·split<;>(intro h;exact absurd h hh)
     ·have h3:=this.2.2
      simp only [List.length_append,List.length_cons]
      split<;>simp<;>omega
theorem sL_ (s:al_):VSend (lc_ s).1∧(lc_ s).2.length≤60:=by
  unfold lc_
  split
  ·rename_i h
   have:=s4_ s.Items 0 s.Base h.2.2.2
   refine ⟨⟨by simp only;rw [this.2.1];exact h.1,h.2.1,by simp only;rw [this.2.1];exact h.2.2.1,this.1⟩,by have:=h.1;simp only;omega⟩
  ·exact ⟨h5_,by simp⟩
end Km.X
namespace Km.X
open Go Km
set_option linter.unusedVariables false
set_option linter.unusedSimpArgs false
def i4_ (x:an_):Prop:=mc_ x.Send∧lv_ x.Take
theorem AZ_ (x:an_) (h:i4_ x):Wp (fun k=>jK_ k x) (· =x):=by
  unfold i4_ at h
  obtain ⟨h0,h1⟩:=h
  unfold jK_
  refine Wp.bind (zk_ _ h0) (fun _ e=> ?_);subst e
  refine Wp.bind (zU_ _ h1) (fun _ e=> ?_);subst e
  exact Wp.ret rfl
theorem A4_ (x:an_) (hw:xq_ x) (a:Int) (ha:0≤a∧a≤1048576):Wp (fun k=>jL_ k x a) (fun r=>r≤1048576∧(0≤r→i4_ x)):=by
  unfold i4_
  obtain ⟨w0,w1,w2,w3,w4,w5,w6,w7⟩:=hw
  unfold jL_
  refine Wp.bind (zf_ _ w6 a (by omega)) (fun r0 e0=> ?_)
  first | refine Wp.dec (fun h=>Wp.ret ⟨by omega,fun h=>by omega⟩) (fun h0=> ?_) | refine Wp.ite (fun h=>Wp.ret ⟨by omega,fun h=>by omega⟩) (fun h0=> ?_)
  refine Wp.bind (yW_ _ w7 r0 (by omega)) (fun r1 e1=> ?_)
  first | refine Wp.dec (fun h=>Wp.ret ⟨by omega,fun h=>by omega⟩) (fun h1=>Wp.ret ⟨by omega,fun _=> ?_⟩) | refine Wp.ite (fun h=>Wp.ret ⟨by omega,fun h=>by omega⟩) (fun h1=>Wp.ret ⟨by omega,fun _=> ?_⟩)
  exact ⟨e0.2 (by omega),e1.2 (by omega)⟩
theorem AL_ (x:an_) (h:i4_ x):Wp (fun k=>jP_ k x x) (· =true):=by
  unfold jP_
  unfold i4_ at h
  obtain ⟨h0,h1⟩:=h
  simp only [aM_,af_,aH_,ea_,d8_,cB_,cZ_,cond_true,cond_false,Option.bind_some,Bool.not_true,Bool.not_false,if_true,if_false]
  refine Wp.bind (zu_ _ h0) (fun _ e=> ?_);subst e
  simp only [aM_,af_,aH_,ea_,d8_,cB_,cZ_,cond_true,cond_false,Option.bind_some,Bool.not_true,Bool.not_false,if_true,if_false]
  refine Wp.bind (zg_ _ h1) (fun _ e=> ?_);subst e
  simp only [aM_,af_,aH_,ea_,d8_,cB_,cZ_,cond_true,cond_false,Option.bind_some,Bool.not_true,Bool.not_false,if_true,if_false]
  exact Wp.ret rfl
end Km.X
namespace Km.X
open Go Km
set_option linter.unusedVariables false
set_option linter.unusedSimpArgs false
def eW_ (x:ac_):Prop:=x.Sent.size≤1048576∧x.Bytes.size≤1048576
def es_ (x:ab_):Prop:=x.Text.size≤1048576
def fK_ (x:ae_):Prop:=x.Key.size≤1048576∧smL i4_ x.Ends∧smL eW_ x.Flight∧x.Forged.size≤1048576∧smL es_ x.Given∧smL es_ x.Taken
end Km.X
namespace Km.X
open Go Km
set_option linter.unusedVariables false
set_option linter.unusedSimpArgs false
theorem vr_ (x:ac_) (h:eW_ x):Wp (fun k=>hU_ k x) (· =x):=Wp.ret rfl
theorem v6_ (x:ab_) (h:es_ x):Wp (fun k=>hZ_ k x) (· =x):=Wp.ret rfl
theorem zn_ (xs:List an_) (h:smL i4_ xs):Wp (fun k=>hQ_ k xs) (· =xs):=by
  unfold hQ_
  obtain ⟨hl,hp⟩:=h
  refine Wp.opt (x:=xs.length) (by rw [if_pos rfl];exact k1_ (by omega)) ?_
  refine Wp.loop (n:=xs.length) (f:=fun k i (ys:List an_)=>dD_ k xs (i:Int) ys) (Inv:=fun i ys=>ys.length=xs.length∧ys.take i=xs.take i) (Q:=(· =xs)) ?_ ?_ xs.length 0 _ (by omega) ⟨by simp,by simp⟩
  ·rintro i ys hi ⟨h1,h2⟩ ih
   refine Wp.step ?_
   simp only [dD_]
   simp (disch:=omega) only [af_,if_pos,rW_,BB_,Option.bind_some,aM_,hn_,Int.ofNat_lt]
   refine Wp.bind (AZ_ _ (hp _ (List.getElem_mem hi))) (fun _ e=> ?_);subst e
   refine ih _ ⟨by simpa using h1, ?_⟩
   rw [Int.toNat_natCast,List.take_add_one,List.take_add_one,List.getElem?_set_self (by omega),List.take_set,List.set_eq_of_length_le (by simp;omega),h2,List.getElem?_eq_getElem hi]
  ·rintro ys ⟨h1,h2⟩
   refine Wp.step ?_
   simp only [dD_]
   simp (disch:=omega) only [af_,if_neg]
   rw [List.take_of_length_le (by omega),List.take_of_length_le (by omega)] at h2
   exact Wp.ret h2
theorem uv_ (xs:List ac_) (h:smL eW_ xs):Wp (fun k=>fp_ k xs) (· =xs):=by
  unfold fp_
  obtain ⟨hl,hp⟩:=h
  refine Wp.opt (x:=xs.length) (by rw [if_pos rfl];exact k1_ (by omega)) ?_
  refine Wp.loop (n:=xs.length) (f:=fun k i (ys:List ac_)=>cu_ k xs (i:Int) ys) (Inv:=fun i ys=>ys.length=xs.length∧ys.take i=xs.take i) (Q:=(· =xs)) ?_ ?_ xs.length 0 _ (by omega) ⟨by simp,by simp⟩
  ·rintro i ys hi ⟨h1,h2⟩ ih
   refine Wp.step ?_
   simp only [cu_]
   simp (disch:=omega) only [af_,if_pos,rW_,BB_,Option.bind_some,aM_,hn_,Int.ofNat_lt]
   refine Wp.bind (vr_ _ (hp _ (List.getElem_mem hi))) (fun _ e=> ?_);subst e
   refine ih _ ⟨by simpa using h1, ?_⟩
   rw [Int.toNat_natCast,List.take_add_one,List.take_add_one,List.getElem?_set_self (by omega),List.take_set,List.set_eq_of_length_le (by simp;omega),h2,List.getElem?_eq_getElem hi]
  ·rintro ys ⟨h1,h2⟩
   refine Wp.step ?_
   simp only [cu_]
   simp (disch:=omega) only [af_,if_neg]
   rw [List.take_of_length_le (by omega),List.take_of_length_le (by omega)] at h2
   exact Wp.ret h2
theorem nP_ (xs:List ab_) (h:smL es_ xs):Wp (fun k=>el_ k xs) (· =xs):=by
  unfold el_
  obtain ⟨hl,hp⟩:=h
  refine Wp.opt (x:=xs.length) (by rw [if_pos rfl];exact k1_ (by omega)) ?_
  refine Wp.loop (n:=xs.length) (f:=fun k i (ys:List ab_)=>cr_ k xs (i:Int) ys) (Inv:=fun i ys=>ys.length=xs.length∧ys.take i=xs.take i) (Q:=(· =xs)) ?_ ?_ xs.length 0 _ (by omega) ⟨by simp,by simp⟩
  ·rintro i ys hi ⟨h1,h2⟩ ih
   refine Wp.step ?_
   simp only [cr_]
   simp (disch:=omega) only [af_,if_pos,rW_,BB_,Option.bind_some,aM_,hn_,Int.ofNat_lt]
   refine Wp.bind (v6_ _ (hp _ (List.getElem_mem hi))) (fun _ e=> ?_);subst e
   refine ih _ ⟨by simpa using h1, ?_⟩
   rw [Int.toNat_natCast,List.take_add_one,List.take_add_one,List.getElem?_set_self (by omega),List.take_set,List.set_eq_of_length_le (by simp;omega),h2,List.getElem?_eq_getElem hi]
  ·rintro ys ⟨h1,h2⟩
   refine Wp.step ?_
   simp only [cr_]
   simp (disch:=omega) only [af_,if_neg]
   rw [List.take_of_length_le (by omega),List.take_of_length_le (by omega)] at h2
   exact Wp.ret h2
theorem yo_ (x:ae_) (h:fK_ x):Wp (fun k=>as_ k x) (· =x):=by
  unfold fK_ at h
  obtain ⟨h0,h1,h2,h3,h4,h5⟩:=h
  unfold as_
  refine Wp.bind (zn_ _ h1) (fun _ e=> ?_);subst e
  refine Wp.bind (uv_ _ h2) (fun _ e=> ?_);subst e
  refine Wp.bind (nP_ _ h4) (fun _ e=> ?_);subst e
  refine Wp.bind (nP_ _ h5) (fun _ e=> ?_);subst e
  exact Wp.ret rfl
theorem vU_ (x:ac_) (hw:jg_ x) (a:Int) (ha:0≤a∧a≤1048576):Wp (fun k=>gf_ k x a) (fun r=>r≤1048576∧(0≤r→eW_ x)):=by
  unfold eW_
  unfold jg_ at hw
  unfold gf_
  obtain ⟨_,h1,h2⟩:=hw
  have h1:x.Sent.size≤2^63-1:=h1
  have h2:x.Bytes.size≤2^63-1:=h2
  try simp (disch:=omega) only [aM_,af_]
  refine Wp.ite (fun h=>Wp.ret ⟨by omega,fun h=>by omega⟩) (fun h=> ?_)
  try simp (disch:=omega) only [aM_]
  refine Wp.ite (fun h=>Wp.ret ⟨by omega,fun h=>by omega⟩) (fun h=>Wp.ret ⟨by omega,fun _=>by omega⟩)
theorem wq_ (x:ab_) (hw:i8_ x) (a:Int) (ha:0≤a∧a≤1048576):Wp (fun k=>f1_ k x a) (fun r=>r≤1048576∧(0≤r→es_ x)):=by
  unfold es_
  unfold i8_ at hw
  unfold f1_
  have h1:x.Text.size≤2^63-1:=by first | exact hw.1 | exact hw.2.2.2.2.2.2.2.2 | exact hw.2.2.2.2 | exact hw.2.2.2
  try simp (disch:=omega) only [aM_,af_]
  refine Wp.ite (fun h=>Wp.ret ⟨by omega,fun h=>by omega⟩) (fun h=>Wp.ret ⟨by omega,fun _=>by omega⟩)
theorem y6_ (xs:List an_) (hw:xs.length≤maxLen∧∀y∈xs,An_ y) (a:Int) (ha:0≤a∧a≤1048576):Wp (fun k=>hV_ k xs a) (fun r=>r≤1048576∧(0≤r→smL i4_ xs)):=by
  obtain ⟨hl,hp⟩:=hw
  have hl:xs.length≤2^63-1:=hl
  unfold hV_
  try simp (disch:=omega) only [aM_,af_]
  refine Wp.ite (fun h=>Wp.ret ⟨by omega,fun h=>by omega⟩) (fun h=> ?_)
  refine Wp.loop (n:=xs.length) (f:=fun k i (l:Int)=>dA_ k xs l (i:Int)) (Inv:=fun i l=>(0≤l∧l≤1048576)∧∀j (hj:j<xs.length),j<i→i4_ xs[j]) (Q:=fun r=>r≤1048576∧(0≤r→smL i4_ xs)) ?_ ?_ xs.length 0 (a-xs.length) (by omega) ⟨by omega,fun j _ h=>by omega⟩
  ·rintro i l hi ⟨h1,h2⟩ ih
   refine Wp.step ?_
   simp only [dA_]
   simp (disch:=omega) only [af_,if_pos,rW_,Option.bind_some,aM_,hn_]
   refine Wp.bind (A4_ _ (hp _ (List.getElem_mem hi)) l h1) (fun r hr=> ?_)
   refine Wp.ite (fun h=>Wp.ret ⟨by omega,fun h=>by omega⟩) (fun h=> ?_)
   refine ih _ ⟨by omega,fun j hj hji=> ?_⟩
   by_cases e:j=i
   ·subst e;exact hr.2 (by omega)
   ·exact h2 j hj (by omega)
  ·rintro l ⟨h1,h2⟩
   refine Wp.step ?_
   simp only [dA_]
   simp (disch:=omega) only [af_,if_neg]
   refine Wp.ret ⟨by omega,fun _=>⟨by omega,fun y hy=> ?_⟩⟩
   obtain ⟨j,hj,rfl⟩:=List.getElem_of_mem hy
   exact h2 j hj hj
theorem uB_ (xs:List ac_) (hw:xs.length≤maxLen∧∀y∈xs,qv_ y) (a:Int) (ha:0≤a∧a≤1048576):Wp (fun k=>fs_ k xs a) (fun r=>r≤1048576∧(0≤r→smL eW_ xs)):=by
  obtain ⟨hl,hp⟩:=hw
  have hl:xs.length≤2^63-1:=hl
  unfold fs_
  try simp (disch:=omega) only [aM_,af_]
  refine Wp.ite (fun h=>Wp.ret ⟨by omega,fun h=>by omega⟩) (fun h=> ?_)
  refine Wp.loop (n:=xs.length) (f:=fun k i (l:Int)=>co_ k xs l (i:Int)) (Inv:=fun i l=>(0≤l∧l≤1048576)∧∀j (hj:j<xs.length),j<i→eW_ xs[j]) (Q:=fun r=>r≤1048576∧(0≤r→smL eW_ xs)) ?_ ?_ xs.length 0 (a-xs.length) (by omega) ⟨by omega,fun j _ h=>by omega⟩
  ·rintro i l hi ⟨h1,h2⟩ ih
   refine Wp.step ?_
   simp only [co_]
   simp (disch:=omega) only [af_,if_pos,rW_,Option.bind_some,aM_,hn_]
   refine Wp.bind (vU_ _ (hp _ (List.getElem_mem hi)) l h1) (fun r hr=> ?_)
   refine Wp.ite (fun h=>Wp.ret ⟨by omega,fun h=>by omega⟩) (fun h=> ?_)
   refine ih _ ⟨by omega,fun j hj hji=> ?_⟩
   by_cases e:j=i
   ·subst e;exact hr.2 (by omega)
   ·exact h2 j hj (by omega)
  ·rintro l ⟨h1,h2⟩
   refine Wp.step ?_
   simp only [co_]
   simp (disch:=omega) only [af_,if_neg]
   refine Wp.ret ⟨by omega,fun _=>⟨by omega,fun y hy=> ?_⟩⟩
   obtain ⟨j,hj,rfl⟩:=List.getElem_of_mem hy
   exact h2 j hj hj
theorem nA_ (xs:List ab_) (hw:xs.length≤maxLen∧∀y∈xs,my_ y) (a:Int) (ha:0≤a∧a≤1048576):Wp (fun k=>ec_ k xs a) (fun r=>r≤1048576∧(0≤r→smL es_ xs)):=by
  obtain ⟨hl,hp⟩:=hw
  have hl:xs.length≤2^63-1:=hl
  unfold ec_
  try simp (disch:=omega) only [aM_,af_]
  refine Wp.ite (fun h=>Wp.ret ⟨by omega,fun h=>by omega⟩) (fun h=> ?_)
  refine Wp.loop (n:=xs.length) (f:=fun k i (l:Int)=>cw_ k xs l (i:Int)) (Inv:=fun i l=>(0≤l∧l≤1048576)∧∀j (hj:j<xs.length),j<i→es_ xs[j]) (Q:=fun r=>r≤1048576∧(0≤r→smL es_ xs)) ?_ ?_ xs.length 0 (a-xs.length) (by omega) ⟨by omega,fun j _ h=>by omega⟩
  ·rintro i l hi ⟨h1,h2⟩ ih
   refine Wp.step ?_
   simp only [cw_]
   simp (disch:=omega) only [af_,if_pos,rW_,Option.bind_some,aM_,hn_]
   refine Wp.bind (wq_ _ (hp _ (List.getElem_mem hi)) l h1) (fun r hr=> ?_)
   refine Wp.ite (fun h=>Wp.ret ⟨by omega,fun h=>by omega⟩) (fun h=> ?_)
   refine ih _ ⟨by omega,fun j hj hji=> ?_⟩
   by_cases e:j=i
   ·subst e;exact hr.2 (by omega)
   ·exact h2 j hj (by omega)
  ·rintro l ⟨h1,h2⟩
   refine Wp.step ?_
   simp only [cw_]
   simp (disch:=omega) only [af_,if_neg]
   refine Wp.ret ⟨by omega,fun _=>⟨by omega,fun y hy=> ?_⟩⟩
   obtain ⟨j,hj,rfl⟩:=List.getElem_of_mem hy
   exact h2 j hj hj
theorem yw_ (x:ae_) (hw:tv_ x) (a:Int) (ha:0≤a∧a≤1048576):Wp (fun k=>gY_ k x a) (fun r=>r≤1048576∧(0≤r→fK_ x)):=by
  unfold fK_
  obtain ⟨w0,w1,w2,w3,w4,w5,w6⟩:=hw
  unfold gY_
  have s0:x.Key.size≤2^63-1:=w0
  try simp (disch:=omega) only [aM_,af_]
  refine Wp.ite (fun h=>Wp.ret ⟨by omega,fun h=>by omega⟩) (fun h0=> ?_)
  refine Wp.bind (y6_ _ w2 (a-(x.Key.size:Int)) (by omega)) (fun r1 e1=> ?_)
  first | refine Wp.dec (fun h=>Wp.ret ⟨by omega,fun h=>by omega⟩) (fun h1=> ?_) | refine Wp.ite (fun h=>Wp.ret ⟨by omega,fun h=>by omega⟩) (fun h1=> ?_)
  refine Wp.bind (uB_ _ w3 r1 (by omega)) (fun r2 e2=> ?_)
  first | refine Wp.dec (fun h=>Wp.ret ⟨by omega,fun h=>by omega⟩) (fun h2=> ?_) | refine Wp.ite (fun h=>Wp.ret ⟨by omega,fun h=>by omega⟩) (fun h2=> ?_)
  have s3:x.Forged.size≤2^63-1:=w4
  try simp (disch:=omega) only [aM_,af_]
  refine Wp.ite (fun h=>Wp.ret ⟨by omega,fun h=>by omega⟩) (fun h3=> ?_)
  refine Wp.bind (nA_ _ w5 (r2-(x.Forged.size:Int)) (by omega)) (fun r4 e4=> ?_)
  first | refine Wp.dec (fun h=>Wp.ret ⟨by omega,fun h=>by omega⟩) (fun h4=> ?_) | refine Wp.ite (fun h=>Wp.ret ⟨by omega,fun h=>by omega⟩) (fun h4=> ?_)
  refine Wp.bind (nA_ _ w6 r4 (by omega)) (fun r5 e5=> ?_)
  first | refine Wp.dec (fun h=>Wp.ret ⟨by omega,fun h=>by omega⟩) (fun h5=>Wp.ret ⟨by omega,fun _=> ?_⟩) | refine Wp.ite (fun h=>Wp.ret ⟨by omega,fun h=>by omega⟩) (fun h5=>Wp.ret ⟨by omega,fun _=> ?_⟩)
  exact ⟨(by omega),e1.2 (by omega),e2.2 (by omega),(by omega),e4.2 (by omega),e5.2 (by omega)⟩
theorem wo_ (x:ac_) (h:eW_ x):Wp (fun k=>f3_ k x x) (· =true):=by
  unfold f3_
  unfold eW_ at h
  obtain ⟨h0,h1⟩:=h
  simp only [aM_,af_,aH_,ea_,d8_,cB_,cZ_,cond_true,cond_false,Option.bind_some,Bool.not_true,Bool.not_false,if_true,if_false]
  exact Wp.ret rfl
theorem wA_ (x:ab_) (h:es_ x):Wp (fun k=>gb_ k x x) (· =true):=by
  unfold gb_
  unfold es_ at h
  have h0:=h
  simp only [aM_,af_,aH_,ea_,d8_,cB_,cZ_,cond_true,cond_false,Option.bind_some,Bool.not_true,Bool.not_false,if_true,if_false]
  exact Wp.ret rfl
theorem zs_ (xs:List an_) (h:smL i4_ xs):Wp (fun k=>hO_ k xs xs) (· =true):=by
  unfold hO_
  obtain ⟨hl,hp⟩:=h
  simp only [d8_,if_true]
  refine Wp.loop (n:=xs.length) (f:=fun k i (_:Unit)=>dy_ k xs xs (i:Int)) (Inv:=fun _ _=>True) (Q:=(· =true)) ?_ ?_ xs.length 0 () (by omega) trivial
  ·rintro i _ hi _ ih
   refine Wp.step ?_
   simp only [dy_]
   simp (disch:=omega) only [af_,if_pos,rW_,Option.bind_some,aM_,hn_]
   refine Wp.bind (AL_ _ (hp _ (List.getElem_mem hi))) (fun _ e=> ?_);subst e
   simp only [aM_,af_,aH_,ea_,d8_,cB_,cZ_,cond_true,cond_false,Option.bind_some,Bool.not_true,Bool.not_false,if_true,if_false]
   exact ih () trivial
  ·rintro _ _
   refine Wp.step ?_
   simp only [dy_]
   simp (disch:=omega) only [af_,if_neg]
   exact Wp.ret rfl
theorem uq_ (xs:List ac_) (h:smL eW_ xs):Wp (fun k=>fo_ k xs xs) (· =true):=by
  unfold fo_
  obtain ⟨hl,hp⟩:=h
  simp only [d8_,if_true]
  refine Wp.loop (n:=xs.length) (f:=fun k i (_:Unit)=>cs_ k xs xs (i:Int)) (Inv:=fun _ _=>True) (Q:=(· =true)) ?_ ?_ xs.length 0 () (by omega) trivial
  ·rintro i _ hi _ ih
   refine Wp.step ?_
   simp only [cs_]
   simp (disch:=omega) only [af_,if_pos,rW_,Option.bind_some,aM_,hn_]
   refine Wp.bind (wo_ _ (hp _ (List.getElem_mem hi))) (fun _ e=> ?_);subst e
   simp only [aM_,af_,aH_,ea_,d8_,cB_,cZ_,cond_true,cond_false,Option.bind_some,Bool.not_true,Bool.not_false,if_true,if_false]
   exact ih () trivial
  ·rintro _ _
   refine Wp.step ?_
   simp only [cs_]
   simp (disch:=omega) only [af_,if_neg]
   exact Wp.ret rfl
theorem nU_ (xs:List ab_) (h:smL es_ xs):Wp (fun k=>ei_ k xs xs) (· =true):=by
  unfold ei_
  obtain ⟨hl,hp⟩:=h
  simp only [d8_,if_true]
  refine Wp.loop (n:=xs.length) (f:=fun k i (_:Unit)=>cy_ k xs xs (i:Int)) (Inv:=fun _ _=>True) (Q:=(· =true)) ?_ ?_ xs.length 0 () (by omega) trivial
  ·rintro i _ hi _ ih
   refine Wp.step ?_
   simp only [cy_]
   simp (disch:=omega) only [af_,if_pos,rW_,Option.bind_some,aM_,hn_]
   refine Wp.bind (wA_ _ (hp _ (List.getElem_mem hi))) (fun _ e=> ?_);subst e
   simp only [aM_,af_,aH_,ea_,d8_,cB_,cZ_,cond_true,cond_false,Option.bind_some,Bool.not_true,Bool.not_false,if_true,if_false]
   exact ih () trivial
  ·rintro _ _
   refine Wp.step ?_
   simp only [cy_]
   simp (disch:=omega) only [af_,if_neg]
   exact Wp.ret rfl
theorem sB_ (x:ae_) (h:fK_ x):Wp (fun k=>ao_ k x x) (· =true):=by
  unfold ao_
  unfold fK_ at h
  obtain ⟨h0,h1,h2,h3,h4,h5⟩:=h
  simp only [aM_,af_,aH_,ea_,d8_,cB_,cZ_,cond_true,cond_false,Option.bind_some,Bool.not_true,Bool.not_false,if_true,if_false]
  refine Wp.bind (zs_ _ h1) (fun _ e=> ?_);subst e
  simp only [aM_,af_,aH_,ea_,d8_,cB_,cZ_,cond_true,cond_false,Option.bind_some,Bool.not_true,Bool.not_false,if_true,if_false]
  refine Wp.bind (uq_ _ h2) (fun _ e=> ?_);subst e
  simp only [aM_,af_,aH_,ea_,d8_,cB_,cZ_,cond_true,cond_false,Option.bind_some,Bool.not_true,Bool.not_false,if_true,if_false]
  refine Wp.bind (nU_ _ h4) (fun _ e=> ?_);subst e
  simp only [aM_,af_,aH_,ea_,d8_,cB_,cZ_,cond_true,cond_false,Option.bind_some,Bool.not_true,Bool.not_false,if_true,if_false]
  refine Wp.bind (nU_ _ h5) (fun _ e=> ?_);subst e
  simp only [aM_,af_,aH_,ea_,d8_,cB_,cZ_,cond_true,cond_false,Option.bind_some,Bool.not_true,Bool.not_false,if_true,if_false]
  exact Wp.ret rfl
end Km.X
namespace Km.X
open Go Km
set_option linter.unusedVariables false
set_option linter.unusedSimpArgs false
def fE_:Int→List ac_→Prop
  | _,[]=>True
  | k,x::t=>(x.To=k∧x.Sent=mt (k+1)∧x.Bytes=mt (k+2))∧fE_ (k+3) t
theorem in_:∀(t pre:List ac_) (k:Int),(pre++t).length≤100000000→0≤k→k+3*t.length≤100000000000000→fE_ k t→Wp (fun n=>br_ n (pre++t) k (pre.length:Int)) (· =k+3*t.length)
  | [],pre,k,hl,h0,hk,_=>by
    refine Wp.step ?_
    simp only [br_,List.append_nil]
    simp (disch:=omega) only [af_,if_neg]
    exact Wp.ret (by simp)
  | x::t,pre,k,hl,h0,hk,hm=>by
    simp only [fE_] at hm
    obtain ⟨hm,hm2⟩:=hm
    simp only [List.length_append,List.length_cons] at hl hk
    refine Wp.step ?_
    simp only [br_]
    have hlt:=a3_ (pre:=pre) (t:=t) (x:=x)
    obtain ⟨m0,m1,m2⟩:=hm
    simp (disch:=first | omega | rfl | assumption) only [af_,d8_,aH_,cZ_,cB_,if_pos,if_neg,if_true,eq_self,Int.reduceAdd,aA_,Option.bind_some,aM_,a2_,o0_,hlt,m0,m1,m2]
    refine Wp.bind (bz_ (by omega)) (fun _ e=> ?_);subst e
    try simp (disch:=first | omega | rfl | assumption) only [af_,d8_,aH_,cZ_,cB_,if_pos,if_neg,if_true,eq_self,Int.reduceAdd,aA_,Option.bind_some,aM_,a2_,o0_,hlt,m0,m1,m2]
    refine Wp.bind (bz_ (by omega)) (fun _ e=> ?_);subst e
    try simp (disch:=first | omega | rfl | assumption) only [af_,d8_,aH_,cZ_,cB_,if_pos,if_neg,if_true,eq_self,Int.reduceAdd,aA_,Option.bind_some,aM_,a2_,o0_,hlt,m0,m1,m2]
    have ih:Wp (fun n=>br_ n (pre++x::t) (k+3) ((pre.length:Int)+1)) (· =k+3+3*t.length):=by
      have:=in_ t (pre++[x]) (k+3) (by simp;omega) (by omega) (by omega) hm2
      rwa [←aI_,←aW_] at this
    exact ih.mono (fun r hr=>by simp only [List.length_cons];omega)
theorem ro_ {k:Int} {l:List ac_} (h0:0≤k) (hk:k+3*l.length≤100000000000000) (hl:l.length≤100000000) (hm:fE_ k l):Wp (fun n=>er_ n l k) (· =k+3*l.length):=by
  unfold er_
  exact in_ l [] k (by simpa using hl) h0 hk hm
theorem iE_:∀(t pre:List ac_) (k:Int),(pre++t).length≤100000000→0≤k→k+3*t.length≤100000000000000→Wp (fun n=>bq_ n k (pre.length:Int) (pre++t)) (fun r=>r.1=k+3*t.length∧∃t',r.2=pre++t'∧t'.length=t.length∧fE_ k t')
  | [],pre,k,hl,h0,hk=>by
    refine Wp.step ?_
    simp only [bq_,List.append_nil]
    simp (disch:=omega) only [af_,if_neg]
    exact Wp.ret ⟨by simp,[],by simp,rfl,trivial⟩
  | x::t,pre,k,hl,h0,hk=>by
    simp only [List.length_append,List.length_cons] at hl hk
    refine Wp.step ?_
    simp only [bq_]
    simp (disch:=omega) only [af_,if_pos,if_true,Int.reduceAdd,a3_,aA_,by_,set_mid,Option.bind_some,aM_,a2_,o0_]
    refine Wp.bind (bz_ (by omega)) (fun _ e=> ?_);subst e
    try simp (disch:=omega) only [af_,if_pos,if_true,Int.reduceAdd,a3_,aA_,by_,set_mid,Option.bind_some,aM_,a2_,o0_]
    refine Wp.bind (bz_ (by omega)) (fun _ e=> ?_);subst e
    try simp (disch:=omega) only [af_,if_pos,if_true,Int.reduceAdd,a3_,aA_,by_,set_mid,Option.bind_some,aM_,a2_,o0_]
    have key:∀y:ac_,(y.To=k∧y.Sent=mt (k+1)∧y.Bytes=mt (k+2))→Wp (fun n=>bq_ n (k+3) ((pre.length:Int)+1) (pre++y::t)) (fun r=>r.1=k+3*(x::t).length∧∃t',r.2=pre++t'∧t'.length=(x::t).length∧fE_ k t'):=fun y hy=>by
      have:=iE_ t (pre++[y]) (k+3) (by simp;omega) (by omega) (by omega)
      rw [←aI_,←aW_] at this
      refine this.mono ?_
      rintro ⟨r1,r2⟩ ⟨e1,t',e2,e3,e4⟩
      refine ⟨by simp only [List.length_cons] at*;omega,y::t',by rw [e2];simp,by simp [e3], ?_⟩
      simp only [fE_]
      exact ⟨hy,e4⟩
    exact key _ (by simp)
theorem rb_ {k:Int} {l:List ac_} (h0:0≤k) (hk:k+3*l.length≤100000000000000) (hl:l.length≤100000000):Wp (fun n=>ey_ n l k) (fun r=>r.1=k+3*l.length∧r.2.length=l.length∧fE_ k r.2):=by
  unfold ey_
  refine (iE_ l [] k (by simpa using hl) h0 hk).mono ?_
  rintro ⟨r1,r2⟩ ⟨e1,t',e2,e3,e4⟩
  simp only [List.nil_append] at e2
  subst e2
  exact ⟨e1,e3,e4⟩
def fF_:Int→List ab_→Prop
  | _,[]=>True
  | k,x::t=>(x.From=k∧x.A=(k+1)∧x.B=(k+2)∧x.Text=mt (k+3))∧fF_ (k+4) t
theorem iF_:∀(t pre:List ab_) (k:Int),(pre++t).length≤100000000→0≤k→k+4*t.length≤100000000000000→fF_ k t→Wp (fun n=>bo_ n (pre++t) k (pre.length:Int)) (· =k+4*t.length)
  | [],pre,k,hl,h0,hk,_=>by
    refine Wp.step ?_
    simp only [bo_,List.append_nil]
    simp (disch:=omega) only [af_,if_neg]
    exact Wp.ret (by simp)
  | x::t,pre,k,hl,h0,hk,hm=>by
    simp only [fF_] at hm
    obtain ⟨hm,hm2⟩:=hm
    simp only [List.length_append,List.length_cons] at hl hk
    refine Wp.step ?_
    simp only [bo_]
    have hlt:=a3_ (pre:=pre) (t:=t) (x:=x)
    obtain ⟨m0,m1,m2,m3⟩:=hm
    simp (disch:=first | omega | rfl | assumption) only [af_,d8_,aH_,cZ_,cB_,if_pos,if_neg,if_true,eq_self,Int.reduceAdd,aA_,Option.bind_some,aM_,a2_,o0_,hlt,m0,m1,m2,m3]
    refine Wp.bind (bz_ (by omega)) (fun _ e=> ?_);subst e
    try simp (disch:=first | omega | rfl | assumption) only [af_,d8_,aH_,cZ_,cB_,if_pos,if_neg,if_true,eq_self,Int.reduceAdd,aA_,Option.bind_some,aM_,a2_,o0_,hlt,m0,m1,m2,m3]
    have ih:Wp (fun n=>bo_ n (pre++x::t) (k+4) ((pre.length:Int)+1)) (· =k+4+4*t.length):=by
      have:=iF_ t (pre++[x]) (k+4) (by simp;omega) (by omega) (by omega) hm2
      rwa [←aI_,←aW_] at this
    exact ih.mono (fun r hr=>by simp only [List.length_cons];omega)
theorem kr_ {k:Int} {l:List ab_} (h0:0≤k) (hk:k+4*l.length≤100000000000000) (hl:l.length≤100000000) (hm:fF_ k l):Wp (fun n=>dn_ n l k) (· =k+4*l.length):=by
  unfold dn_
  exact iF_ l [] k (by simpa using hl) h0 hk hm
theorem iI_:∀(t pre:List ab_) (k:Int),(pre++t).length≤100000000→0≤k→k+4*t.length≤100000000000000→Wp (fun n=>bm_ n k (pre.length:Int) (pre++t)) (fun r=>r.1=k+4*t.length∧∃t',r.2=pre++t'∧t'.length=t.length∧fF_ k t')
  | [],pre,k,hl,h0,hk=>by
    refine Wp.step ?_
    simp only [bm_,List.append_nil]
    simp (disch:=omega) only [af_,if_neg]
    exact Wp.ret ⟨by simp,[],by simp,rfl,trivial⟩
  | x::t,pre,k,hl,h0,hk=>by
    simp only [List.length_append,List.length_cons] at hl hk
    refine Wp.step ?_
    simp only [bm_]
    simp (disch:=omega) only [af_,if_pos,if_true,Int.reduceAdd,a3_,aA_,by_,set_mid,Option.bind_some,aM_,a2_,o0_]
    refine Wp.bind (bz_ (by omega)) (fun _ e=> ?_);subst e
    try simp (disch:=omega) only [af_,if_pos,if_true,Int.reduceAdd,a3_,aA_,by_,set_mid,Option.bind_some,aM_,a2_,o0_]
    have key:∀y:ab_,(y.From=k∧y.A=(k+1)∧y.B=(k+2)∧y.Text=mt (k+3))→Wp (fun n=>bm_ n (k+4) ((pre.length:Int)+1) (pre++y::t)) (fun r=>r.1=k+4*(x::t).length∧∃t',r.2=pre++t'∧t'.length=(x::t).length∧fF_ k t'):=fun y hy=>by
      have:=iI_ t (pre++[y]) (k+4) (by simp;omega) (by omega) (by omega)
      rw [←aI_,←aW_] at this
      refine this.mono ?_
      rintro ⟨r1,r2⟩ ⟨e1,t',e2,e3,e4⟩
      refine ⟨by simp only [List.length_cons] at*;omega,y::t',by rw [e2];simp,by simp [e3], ?_⟩
      simp only [fF_]
      exact ⟨hy,e4⟩
    exact key _ (by simp)
theorem kd_ {k:Int} {l:List ab_} (h0:0≤k) (hk:k+4*l.length≤100000000000000) (hl:l.length≤100000000):Wp (fun n=>du_ n l k) (fun r=>r.1=k+4*l.length∧r.2.length=l.length∧fF_ k r.2):=by
  unfold du_
  refine (iI_ l [] k (by simpa using hl) h0 hk).mono ?_
  rintro ⟨r1,r2⟩ ⟨e1,t',e2,e3,e4⟩
  simp only [List.nil_append] at e2
  subst e2
  exact ⟨e1,e3,e4⟩
end Km.X
namespace Km.X
open Go Km
set_option linter.unusedVariables false
set_option linter.unusedSimpArgs false
set_option maxRecDepth 10000
set_option maxHeartbeats 2000000
def og_ (x:an_):Int:=9+4*(x.Send.Items.length:Int)+3*(x.Take.Held.length:Int)+1*(x.Take.Ready.length:Int)
def fO_:List an_→Int
  | []=>0
  | x::t=>og_ x+fO_ t
theorem wI_ {x:an_} (h:i4_ x):0≤og_ x∧og_ x≤8388617:=by
  obtain ⟨h1,h2,_,h3⟩:=h
  have:=h1.1;have:=h2.1;have:=h3.1
  unfold og_;omega
theorem te_:∀{t:List an_},(∀x∈t,i4_ x)→0≤fO_ t∧fO_ t≤8388617*t.length
  | [],_=>by simp [fO_]
  | x::t,h=>by
    have h1:=wI_ (h x (List.mem_cons_self ..))
    have h2:=te_ (t:=t) fun y hy=>h y (List.mem_cons_of_mem _ hy)
    simp only [fO_,List.length_cons];omega
def En_ (k:Int) (x:an_):Prop:=
  x.Number=k∧x.Up=((k+1)%3==0)∧x.Life=k+2∧x.Peer=k+3∧x.Since=k+4∧x.Owes=((k+5)%3==0)∧x.Send.Base=k+6∧if_ (k+7) x.Send.Items∧
    x.Take.Next=k+7+4*(x.Send.Items.length:Int)∧hi_ (k+8+4*(x.Send.Items.length:Int)) x.Take.Held∧x.Take.Open=mt (k+8+4*(x.Send.Items.length:Int)+3*(x.Take.Held.length:Int))∧
    ek_ (k+9+4*(x.Send.Items.length:Int)+3*(x.Take.Held.length:Int)) x.Take.Ready
def wR_:Int→List an_→Prop
  | _,[]=>True
  | k,x::t=>En_ k x∧wR_ (k+og_ x) t
theorem lz_:∀(t pre:List an_) (k:Int),(pre++t).length≤100000000→0≤k→(∀x∈t,i4_ x)→k+fO_ t≤100000000000000→
    Wp (fun n=>cc_ n k (pre.length:Int) (pre++t)) (fun r=>r.1=k+fO_ t∧∃t',r.2=pre++t'∧t'.length=t.length∧wR_ k t'∧t'.map og_=t.map og_)
  | [],pre,k,hl,h0,hs,hk=>by
    refine Wp.step ?_
    simp only [cc_,List.append_nil]
    simp (disch:=omega) only [af_,if_neg]
    exact Wp.ret ⟨by simp [fO_],[],by simp,rfl,trivial,rfl⟩
  | x::t,pre,k,hl,h0,hs,hk=>by
    have hx:=hs x (List.mem_cons_self ..)
    have hb:=te_ (t:=t) fun y hy=>hs y (List.mem_cons_of_mem _ hy)
    have hn:=wI_ hx
    obtain ⟨⟨hi,_⟩,⟨hh,_⟩,_,⟨hr,_⟩⟩:=hx
    obtain ⟨n,u,li,p,s,ow,⟨b,i⟩,⟨nn,h,o,l⟩⟩:=x
    simp only [fO_,og_] at hk hn
    dsimp only at hi hh hr hk hn
    simp only [List.length_append,List.length_cons] at hl
    refine Wp.step ?_
    simp only [cc_]
    simp (disch:=omega) only [af_,if_pos,if_true,Int.reduceAdd,a3_,aA_,by_,set_mid,Option.bind_some,aM_,a2_,o0_]
    refine Wp.bind (vi_ (by omega) (by omega) (by omega)) ?_
    rintro ⟨a1,i'⟩ ⟨e1,e2,e3⟩
    dsimp only at e1 e2 e3⊢
    subst e1
    try simp (disch:=omega) only [af_,if_pos,if_true,Int.reduceAdd,a3_,aA_,by_,set_mid,Option.bind_some,aM_,a2_]
    refine Wp.bind (t7_ (by omega) (by omega) (by omega)) ?_
    rintro ⟨a2,h'⟩ ⟨f1,f2,f3⟩
    dsimp only at f1 f2 f3⊢
    subst f1
    try simp (disch:=omega) only [af_,if_pos,if_true,Int.reduceAdd,a3_,aA_,by_,set_mid,Option.bind_some,aM_,a2_]
    refine Wp.bind (bz_ (by omega)) (fun _ e=> ?_);subst e
    try simp (disch:=omega) only [af_,if_pos,if_true,Int.reduceAdd,a3_,aA_,by_,set_mid,Option.bind_some,aM_,a2_]
    refine Wp.bind (rc_ (by omega) (by omega) (by omega)) ?_
    rintro ⟨a3,l'⟩ ⟨g1,g2,g3⟩
    dsimp only at g1 g2 g3⊢
    subst g1
    try simp (disch:=omega) only [af_,if_pos,if_true,Int.reduceAdd,a3_,aA_,by_,set_mid,Option.bind_some,aM_,a2_]
    have key:∀(y:an_) (q:Int),q=k+(9+4*(i.length:Int)+3*(h.length:Int)+1*(l.length:Int))→og_ y=9+4*(i.length:Int)+3*(h.length:Int)+1*(l.length:Int)→En_ k y→
     Wp (fun n=>cc_ n q ((pre.length:Int)+1) (pre++y::t)) (fun r=>r.1=k+fO_ (⟨n,u,li,p,s,ow,⟨b,i⟩,⟨nn,h,o,l⟩⟩::t)∧∃t',r.2=pre++t'∧t'.length=(⟨n,u,li,p,s,ow,⟨b,i⟩,⟨nn,h,o,l⟩⟩::t:List an_).length∧wR_ k t'∧t'.map og_=(⟨n,u,li,p,s,ow,⟨b,i⟩,⟨nn,h,o,l⟩⟩::t:List an_).map og_):=by
      intro y q hq hy hm
      subst hq
      have:=lz_ t (pre++[y]) (k+(9+4*(i.length:Int)+3*(h.length:Int)+1*(l.length:Int))) (by simp;omega) (by omega) (fun y hy=>hs y (List.mem_cons_of_mem _ hy)) (by omega)
      rw [←aI_,←aW_] at this
      refine this.mono ?_
      rintro ⟨r1,r2⟩ ⟨q1,t',q2,q3,q4,q5⟩
      refine ⟨by simp only [fO_,og_];dsimp only at q1;omega,y::t',by dsimp only at q2;rw [q2];simp,by simp [q3],⟨hm,by rw [hy];exact q4⟩, ?_⟩
      rw [List.map_cons,List.map_cons,q5,hy];rfl
    refine key _ _ (by omega) ?_ ?_
    ·simp only [og_,e2,f2,g2]
    ·refine ⟨rfl,rfl,rfl,rfl,rfl,rfl,rfl,e3, ?_, ?_, ?_, ?_⟩
     ·dsimp only;rw [e2]
     ·dsimp only;rw [e2];exact (show k+7+4*(i.length:Int)+1=k+8+4*(i.length:Int) by omega)▸f3
     ·dsimp only;rw [e2,f2];congr 1;omega
     ·dsimp only;rw [e2,f2];exact (show k+7+4*(i.length:Int)+1+3*(h.length:Int)+1=k+9+4*(i.length:Int)+3*(h.length:Int) by omega)▸g3
theorem tU_:∀{t t':List an_},t'.map og_=t.map og_→fO_ t'=fO_ t
  | [],[],_=>rfl
  | [],_::_,h=>by simp at h
  | _::_,[],h=>by simp at h
  | x::t,y::t',h=>by
    simp only [List.map_cons,List.cons.injEq] at h
    simp only [fO_,h.1,tU_ h.2]
theorem lP_:∀(t pre:List an_) (k:Int),(pre++t).length≤100000000→0≤k→(∀x∈t,og_ x≤8388617)→0≤fO_ t→k+fO_ t≤100000000000000→wR_ k t→
    Wp (fun n=>cg_ n (pre++t) k (pre.length:Int)) (· =k+fO_ t)
  | [],pre,k,hl,h0,hs,_,hk,_=>by
    refine Wp.step ?_
    simp only [cg_,List.append_nil]
    simp (disch:=omega) only [af_,if_neg]
    exact Wp.ret (by simp [fO_])
  | x::t,pre,k,hl,h0,hs,hz,hk,hm=>by
    have hx:=hs x (List.mem_cons_self ..)
    obtain ⟨hm,hm2⟩:=hm
    have hlt:=a3_ (pre:=pre) (t:=t) (x:=x)
    have hnn:0≤og_ x:=by unfold og_;omega
    have hz':0≤fO_ t:=by
      have:∀t:List an_,0≤fO_ t:=fun t=>by
        induction t with
        | nil=>simp [fO_]
        | cons y t ih=>simp only [fO_,og_];omega
      exact this t
    obtain ⟨m0,m1,m2,m3,m4,m5,m6,m7,m8,m9,m10,m11⟩:=hm
    simp only [fO_] at hk hz⊢
    have hxe:og_ x=9+4*(x.Send.Items.length:Int)+3*(x.Take.Held.length:Int)+1*(x.Take.Ready.length:Int):=rfl
    have ih:=lP_ t (pre++[x]) (k+og_ x) (by simpa using hl) (by omega) (fun y hy=>hs y (List.mem_cons_of_mem _ hy)) hz' (by omega) hm2
    rw [←aI_,←aW_] at ih
    generalize og_ x=N at hk hx hz hxe ih hnn⊢
    have m9':hi_ (k+7+4*(x.Send.Items.length:Int)+1) x.Take.Held:=(show k+8+4*(x.Send.Items.length:Int)=k+7+4*(x.Send.Items.length:Int)+1 by omega)▸m9
    have m10':x.Take.Open=mt (k+7+4*(x.Send.Items.length:Int)+1+3*(x.Take.Held.length:Int)):=by rw [m10];congr 1;omega
    have m11':ek_ (k+7+4*(x.Send.Items.length:Int)+1+3*(x.Take.Held.length:Int)+1) x.Take.Ready:=(show k+9+4*(x.Send.Items.length:Int)+3*(x.Take.Held.length:Int)=k+7+4*(x.Send.Items.length:Int)+1+3*(x.Take.Held.length:Int)+1 by omega)▸m11
    clear m9 m10 m11
    simp only [List.length_append,List.length_cons] at hl
    refine Wp.step ?_
    simp only [cg_]
    simp (disch:=first | omega | rfl | assumption) only [af_,d8_,aH_,cZ_,cB_,if_pos,if_neg,if_true,eq_self,Int.reduceAdd,aA_,Option.bind_some,aM_,a2_,o0_,hlt,m0,m1,m2,m3,m4,m5,m6]
    refine Wp.bind (uZ_ (by omega) (by omega) (by omega) m7) (fun _ e=> ?_);subst e
    try simp (disch:=first | omega | rfl | assumption) only [af_,d8_,aH_,cZ_,cB_,if_pos,if_neg,if_true,eq_self,Int.reduceAdd,aA_,Option.bind_some,aM_,a2_,hlt,m8]
    refine Wp.bind (vq_ (by omega) (by omega) (by omega) m9') (fun _ e=> ?_);subst e
    try simp (disch:=first | omega | rfl | assumption) only [af_,d8_,aH_,cZ_,cB_,if_pos,if_neg,if_true,eq_self,Int.reduceAdd,aA_,Option.bind_some,aM_,a2_,hlt]
    refine Wp.bind (bz_ (by omega)) (fun _ e=> ?_);subst e
    try simp (disch:=first | omega | rfl | assumption) only [af_,d8_,aH_,cZ_,cB_,if_pos,if_neg,if_true,eq_self,Int.reduceAdd,aA_,Option.bind_some,aM_,a2_,hlt,m10']
    refine Wp.bind (rh_ (by omega) (by omega) (by omega) m11') (fun _ e=> ?_);subst e
    try simp (disch:=first | omega | rfl | assumption) only [af_,d8_,aH_,cZ_,cB_,if_pos,if_neg,if_true,eq_self,Int.reduceAdd,aA_,Option.bind_some,aM_,a2_,hlt]
    have key:∀(q:Int),q=k+N→Wp (fun f=>cg_ f (pre++x::t) q ((pre.length:Int)+1)) (· =k+(N+fO_ t)):=by
      intro q hq
      subst hq
      exact ih.mono fun r hr=>by omega
    exact key _ (by omega)
theorem vK_ {l:List an_} {k:Int} (h0:0≤k) (hs:smL i4_ l) (hk:k≤1000000):
    Wp (fun n=>ge_ n l k) (fun r=>r.1=k+fO_ l∧k≤r.1∧r.1≤10000000000000∧Wp (fun n=>f8_ n r.2 k) (· =r.1)):=by
  have hb:=te_ hs.2
  have hl:=hs.1
  unfold ge_
  refine (lz_ l [] k (by simp;omega) h0 hs.2 (by omega)).mono ?_
  rintro ⟨r1,r2⟩ ⟨e1,t',e2,e3,e4,e5⟩
  simp only [List.nil_append] at e2
  dsimp only at e1
  subst e2
  refine ⟨e1,by dsimp only;omega,by dsimp only;omega, ?_⟩
  dsimp only
  unfold f8_
  have hm:=tU_ e5
  have he:∀x∈r2,og_ x≤8388617:=fun x hx=>by
    have:og_ x∈l.map og_:=by rw [←e5];exact List.mem_map_of_mem hx
    obtain ⟨y,hy,e⟩:=List.mem_map.mp this
    rw [←e];exact (wI_ (hs.2 y hy)).2
  have:=lP_ r2 [] k (by simp;omega) h0 he (by omega) (by omega) e4
  refine this.mono fun r hr=>by omega
theorem nR_ {x:ae_} (h:fK_ x):Wp (fun n=>aV_ n x 1) (fun r=>0≤r.1∧∀ky w f,Wp (fun n=>ar_ n (⟨ky,w,r.2.1,r.2.2.1,f,r.2.2.2.1,r.2.2.2.2⟩:ae_) 1) (· =r.1)):=by
  obtain ⟨_,h1,h2,_,h3,h4⟩:=h
  have l2:=h2.1;have l3:=h3.1;have l4:=h4.1
  unfold aV_
  refine Wp.bind (vK_ (by omega) h1 (by omega)) ?_
  rintro ⟨k1,xs⟩ ⟨_,a1,a2,a3⟩
  dsimp only at a1 a2 a3⊢
  refine Wp.bind (rb_ (by omega) (by omega) (by omega)) ?_
  rintro ⟨k2,ps⟩ ⟨b1,b2,b3⟩
  dsimp only at b1 b2 b3⊢
  refine Wp.bind (kd_ (by omega) (by omega) (by omega)) ?_
  rintro ⟨k3,gs⟩ ⟨c1,c2,c3⟩
  dsimp only at c1 c2 c3⊢
  refine Wp.bind (kd_ (by omega) (by omega) (by omega)) ?_
  rintro ⟨k4,ts⟩ ⟨d1,d2,d3⟩
  dsimp only at d1 d2 d3⊢
  refine Wp.ret ⟨by dsimp only;omega,fun ky w f=> ?_⟩
  dsimp only
  unfold ar_
  dsimp only
  refine Wp.bind a3 (fun _ e=> ?_);subst e
  refine Wp.dec (fun g=>by omega) (fun _=> ?_)
  refine Wp.bind (ro_ (by omega) (by omega) (by omega) b3) (fun _ e=> ?_);subst e
  refine Wp.dec (fun g=>by omega) (fun _=> ?_)
  refine Wp.bind (kr_ (by omega) (by omega) (by omega) (by rw [b2,←b1];exact c3)) (fun _ e=> ?_);subst e
  refine Wp.dec (fun g=>by omega) (fun _=> ?_)
  refine Wp.bind (kr_ (by omega) (by omega) (by omega) (by rw [b2,c2,←b1,←c1];exact d3)) (fun _ e=> ?_);subst e
  refine Wp.dec (fun g=>by omega) (fun _=>Wp.ret ?_)
  omega
end Km.X
namespace Km.X
open Go Km
set_option linter.unusedVariables false
set_option linter.unusedSimpArgs false
def AM_:Nat→ByteArray→List aE_
  | 0,_=>[]
  | n+1,s=>if 20<s.size then ⟨s.extract 0 20,false⟩::AM_ n (s.extract 20 s.size) else [⟨s,true⟩]
theorem wQ_:∀(n:Nat) (s:ByteArray) (acc:List aE_),s.size≤20*n→acc.length+n≤100→0<n→Wp (fun k=>eD_ k s acc) (· =acc++AM_ n s)
  | 0,s,acc,h,hl,h0=>by omega
  | n+1,s,acc,h,hl,h0=>by
    refine Wp.step ?_
    simp only [eD_,AM_]
    simp only [af_]
    refine Wp.ite (fun h1=> ?_) (fun h1=> ?_)
    ·have h1':20<s.size:=by omega
     rw [if_pos h1']
     refine Wp.opt (cY_ (by omega)) ?_
     refine Wp.opt (ba_ (by simp;omega)) ?_
     refine Wp.opt (cY_ (by omega)) ?_
     have:=wQ_ n (s.extract 20 s.size) (acc++[⟨s.extract 0 20,false⟩]) (by rw [ByteArray.size_extract];omega) (by simp;omega) (by omega)
     simp only [List.append_assoc,List.cons_append,List.nil_append] at this
     exact this
    ·rw [if_neg (by omega)]
     refine Wp.opt (ba_ (by simp;omega)) ?_
     exact Wp.ret rfl
theorem wT_:∀(k:Nat) (s:ByteArray) (acc:List aE_),gl_ k s acc=eD_ k s acc
  | 0,_,_=>rfl
  | k+1,s,acc=>by
    simp only [gl_,eD_,wT_ k]
def yP_ (s:ByteArray):List aE_:=if 200<s.size then [] else AM_ 10 s
theorem r7_ (s:ByteArray):Wp (fun k=>jH_ k s) (· =yP_ s):=by
  unfold jH_ yP_
  simp only [af_]
  refine Wp.ite (fun h=> ?_) (fun h=> ?_)
  ·rw [if_pos (by omega)];exact Wp.ret rfl
  ·rw [if_neg (by omega)];exact wQ_ 10 s [] (by omega) (by simp) (by omega)
theorem yj_ (s:ByteArray):Wp (fun k=>mi_ k s) (· =yP_ s):=by
  have:(fun k=>mi_ k s)=fun k=>jH_ k s:=funext fun k=>by simp only [mi_,jH_,wT_]
  rw [this];exact r7_ s
theorem zY_:∀(n:Nat) (s:ByteArray),s.size≤20*n→(AM_ n s).length≤n∧∀p∈AM_ n s,p.Text.size≤20
  | 0,s,h=>⟨by simp [AM_],fun p hp=>by simp [AM_] at hp⟩
  | n+1,s,h=>by
    simp only [AM_]
    split
    ·have:=zY_ n (s.extract 20 s.size) (by rw [ByteArray.size_extract];omega)
     refine ⟨by simp [this.1],fun p hp=> ?_⟩
     rcases List.mem_cons.mp hp with rfl | hp
     ·simp only [ByteArray.size_extract];omega
     ·exact this.2 p hp
    ·refine ⟨by simp,fun p hp=> ?_⟩
     simp only [List.mem_singleton] at hp
     subst hp;simp only;omega
theorem wK_ (s:ByteArray):(yP_ s).length≤10∧∀p∈yP_ s,p.Text.size≤20:=by
  unfold yP_
  split
  ·exact ⟨by simp,fun p hp=>by simp at hp⟩
  ·exact zY_ 10 s (by omega)
def Bt_ (p:aE_):ag_:=⟨p,false,-1⟩
def rq_ (s:al_) (t:ByteArray):al_×Int:=
  if VSend s∧t.size≤200 then
   if s.Items.length+(yP_ t).length≤60∧s.Base+(s.Items.length+(yP_ t).length:Nat)≤1000000 then (⟨s.Base,s.Items++(yP_ t).map Bt_⟩,0) else (j6_,3)
  else (j6_,1)
theorem vf_ (c b:Int) (e:List ag_):∀(t pre:List aE_) (acc:List ag_),(pre++t).length≤100→acc.length+t.length≤1000→
    Wp (fun k=>cS_ k (pre.length:Int) c (pre++t) b e acc) (· =(⟨b,acc++t.map Bt_⟩,0))
  | [],pre,acc,hl,ha=>by
    refine Wp.step ?_
    simp only [cS_,List.append_nil]
    simp (disch:=omega) only [af_,if_neg]
    exact Wp.ret (by simp)
  | x::t,pre,acc,hl,ha=>by
    refine Wp.step ?_
    have hl':=hl
    simp only [List.length_append,List.length_cons] at hl ha
    simp only [cS_]
    simp only [af_,a3_,if_true,aA_,by_,Option.bind_some]
    refine Wp.opt (ba_ (by simp;omega)) ?_
    simp (disch:=omega) only [aM_]
    have ih:=vf_ c b e t (pre++[x]) (acc++[Bt_ x]) (by simpa using hl') (by simp;omega)
    rw [←aI_,←aW_] at ih
    simp only [List.append_assoc,List.cons_append,List.nil_append] at ih
    exact ih
theorem uw_ (c b:Int) (e:List ag_):∀(t pre:List aE_) (acc:List ag_),(pre++t).length≤100→acc.length+t.length≤1000→
    Wp (fun k=>cP_ k ((pre++t).length:Int) (pre.length:Int) c b (pre++t) e acc) (· =(⟨b,acc++t.map Bt_⟩,0))
  | [],pre,acc,hl,ha=>by
    refine Wp.step ?_
    simp only [cP_,List.append_nil]
    simp (disch:=omega) only [af_,if_neg]
    exact Wp.ret (by simp)
  | x::t,pre,acc,hl,ha=>by
    refine Wp.step ?_
    have hl':=hl
    simp only [List.length_append,List.length_cons] at hl ha
    simp only [cP_]
    simp only [af_,a3_,if_true,aA_,by_,Option.bind_some]
    refine Wp.opt (ba_ (by simp;omega)) ?_
    simp (disch:=omega) only [aM_]
    have ih:=uw_ c b e t (pre++[x]) (acc++[Bt_ x]) (by simpa using hl') (by simp;omega)
    rw [←aI_,←aW_] at ih
    simp only [List.append_assoc,List.cons_append,List.nil_append] at ih
    exact ih
theorem wg_ (s:al_) (t:ByteArray):Wp (fun k=>f4_ k s t) (· =rq_ s t):=by
  unfold f4_ rq_
  refine Wp.bind (dm_ s) (fun _ e=> ?_);subst e
  simp only [aH_,af_]
  refine Wp.ite (fun h=> ?_) (fun h=>Wp.ret (by rw [if_neg (fun g=>h g.1)]))
  refine Wp.ite (fun h2=>Wp.ret (by rw [if_neg (fun g=>by omega)])) (fun h2=> ?_)
  rw [if_pos ⟨h,by omega⟩]
  refine Wp.bind (r7_ t) (fun _ e=> ?_);subst e
  have:=h.1;have hb:=h.2.1;have hc:=(wK_ t).1
  simp (disch:=omega) only [aM_]
  refine Wp.ite (fun h3=>Wp.ret (by rw [if_neg (fun g=>by omega)])) (fun h3=> ?_)
  refine Wp.ite (fun h4=>Wp.ret (by rw [if_neg (fun g=>by omega)])) (fun h4=> ?_)
  rw [if_pos ⟨by omega,by omega⟩]
  refine Wp.bind (i0_ s (by omega)) (fun _ e=> ?_);subst e
  exact vf_ _ _ _ (yP_ t) [] _ (by simp;omega) (by omega)
theorem vz_ (s:al_) (t:ByteArray):Wp (fun k=>ga_ k s t) (· =rq_ s t):=by
  unfold ga_ rq_
  refine Wp.bind (ev_ s) (fun _ e=> ?_);subst e
  simp only [aH_,af_]
  refine Wp.ite (fun h=> ?_) (fun h=>Wp.ret (by rw [if_neg (fun g=>h g.1)]))
  refine Wp.ite (fun h2=>Wp.ret (by rw [if_neg (fun g=>by omega)])) (fun h2=> ?_)
  rw [if_pos ⟨h,by omega⟩]
  refine Wp.bind (yj_ t) (fun _ e=> ?_);subst e
  have:=h.1;have hb:=h.2.1;have hc:=(wK_ t).1
  simp (disch:=omega) only [aM_]
  refine Wp.ite (fun h3=>Wp.ret (by rw [if_neg (fun g=>by omega)])) (fun h3=> ?_)
  refine Wp.ite (fun h4=>Wp.ret (by rw [if_neg (fun g=>by omega)])) (fun h4=> ?_)
  rw [if_pos ⟨by omega,by omega⟩]
  refine Wp.bind (k7_ s (by omega)) (fun _ e=> ?_);subst e
  exact uw_ _ _ _ (yP_ t) [] _ (by simp;omega) (by omega)
theorem pJ_:∀{l r:List ag_} {i:Nat},OkItems i l→OkItems (i+l.length) r→OkItems i (l++r)
  | [],r,i,_,h=>by simpa using h
  | x::l,r,i,⟨h1,h2⟩,h=>⟨h1,pJ_ h2 (by rwa [show i+1+l.length=i+(x::l).length by simp;omega])⟩
theorem qW_:∀{l:List aE_} {i:Nat},(∀p∈l,p.Text.size≤20)→OkItems i (l.map Bt_)
  | [],i,h=>trivial
  | p::l,i,h=>⟨⟨h p (List.mem_cons_self ..),by simp [Bt_],fun _=>rfl,fun h=>by simp [Bt_] at h⟩,qW_ fun q hq=>h q (List.mem_cons_of_mem _ hq)⟩
theorem AS_ (s:al_) (t:ByteArray):VSend (rq_ s t).1:=by
  unfold rq_
  split
  ·rename_i h
   split
   ·rename_i h2
    refine ⟨by simp only [List.length_append,List.length_map];omega,h.1.2.1, ?_,pJ_ h.1.2.2.2 (qW_ (wK_ t).2)⟩
    simp only [List.length_append,List.length_map]
    exact h2.2
   ·exact h5_
  ·exact h5_
def hw_:List ag_→Nat
  | []=>0
  | x::t=>if 0≤x.Since then hw_ t+1 else 0
theorem pY_:∀l:List ag_,hw_ l≤l.length
  | []=>Nat.le_refl _
  | x::t=>by have:=pY_ t;simp only [hw_,List.length_cons];split<;>omega
def va_:Nat→Nat→List ag_→List ag_
  | _,_,[]=>[]
  | i,m,x::t=>(if i<8∧m%2=1∧0≤x.Since then ⟨x.Part,true,x.Since⟩ else x)::va_ (i+1) (m/2) t
theorem vB_:∀(i m:Nat) (l:List ag_),8≤i→va_ i m l=l
  | i,m,[],h=>rfl
  | i,m,x::t,h=>by simp only [va_];rw [if_neg (by omega),vB_ (i+1) _ t (by omega)]
def wG_ (s:al_) (n m:Int):al_:=
  if VSend s then
   if s.Base≤n∧n≤s.Base+hw_ s.Items∧0≤m∧m≤255 then ⟨n,va_ 0 m.toNat (s.Items.drop (n-s.Base).toNat)⟩ else s
  else j6_
theorem sz_ (b:Int):∀(t pre:List ag_),(pre++t).length≤1000→Wp (fun k=>c5_ k (pre.length:Int) b (pre++t)) (· =((pre.length+hw_ t:Nat):Int))
  | [],pre,hl=>by
    refine Wp.step ?_
    simp only [c5_,List.append_nil]
    simp (disch:=omega) only [af_,if_neg]
    exact Wp.ret rfl
  | x::t,pre,hl=>by
    refine Wp.step ?_
    have hl':=hl
    simp only [List.length_append,List.length_cons] at hl
    simp only [c5_]
    simp only [af_,a3_,if_true,aA_,by_,Option.bind_some]
    simp only [hw_]
    refine Wp.ite (fun h=> ?_) (fun h=> ?_)
    ·rw [if_pos (by omega)]
     simp (disch:=omega) only [aM_]
     have ih:=sz_ b t (pre++[x]) (by simpa using hl')
     rw [←aI_,←aW_] at ih
     refine ih.mono fun r hr=> ?_
     rw [hr,List.length_append,List.length_singleton];omega
    ·rw [if_neg (by omega)];exact Wp.ret rfl
theorem Ei_ (m:Nat):qN_ (m:Int) 2=some ((m%2:Nat):Int):=by rw [a2_ (by omega) (by omega)];simp
theorem EM_ (m:Nat):Ad_ (m:Int) 2=some ((m/2:Nat):Int):=by rw [wn_ (by omega) (by omega)];simp
theorem lM_ (c b:Int) (e:List ag_) (xs:List ag_) (hx:xs.length≤1000):∀(d i m:Nat),i+d=8→xs.length≤i→m≤255→
    Wp (fun k=>bj_ k (m:Int) (i:Int) c b e xs) (· =⟨b,xs⟩)
  | 0,i,m,h,hi,hm=>by
    refine Wp.step ?_
    simp only [bj_]
    simp (disch:=omega) only [af_,if_neg]
    exact Wp.ret rfl
  | d+1,i,m,h,hi,hm=>by
    refine Wp.step ?_
    simp only [bj_]
    simp (disch:=omega) only [af_,if_pos,Ei_,Option.bind_some,ea_]
    have ih:=lM_ c b e xs hx d (i+1) (m/2) (by omega) (by omega) (by omega)
    have G:Wp (fun k=>bd_ k (m:Int) (i:Int) c b e xs) (· =⟨b,xs⟩):=by
      refine Wp.step ?_
      simp only [bd_]
      simp (disch:=omega) only [EM_,Option.bind_some,aM_,hn_]
      exact ih
    refine Wp.ite (fun h1=> ?_) (fun h1=>G)
    simp (disch:=omega) only [if_neg]
    exact G
theorem uM_ (c b:Int) (e:List ag_):∀(t pre:List ag_) (m:Nat),(pre++t).length≤1000→m≤255→
    Wp (fun k=>bj_ k (m:Int) (pre.length:Int) c b e (pre++t)) (· =⟨b,pre++va_ pre.length m t⟩)
  | [],pre,m,hl,hm=>by
    rw [List.append_nil] at hl⊢
    simp only [va_,List.append_nil]
    by_cases h8:pre.length≤8
    ·exact lM_ c b e pre hl (8-pre.length) pre.length m (by omega) (Nat.le_refl _) hm
    ·refine Wp.step ?_
     simp only [bj_]
     simp (disch:=omega) only [af_,if_neg]
     exact Wp.ret rfl
  | x::t,pre,m,hl,hm=>by
    refine Wp.step ?_
    have hl':=hl
    simp only [List.length_append,List.length_cons] at hl
    simp only [bj_]
    simp only [af_,a3_,if_true,aA_,by_,Option.bind_some,set_mid,ea_]
    refine Wp.ite (fun h8=> ?_) (fun h8=>Wp.ret (by rw [vB_ _ _ _ (by omega)]))
    have ih:∀y:ag_,(if pre.length<8∧m%2=1∧0≤x.Since then ⟨x.Part,true,x.Since⟩ else x)=y→
     Wp (fun k=>bd_ k (m:Int) (pre.length:Int) c b e (pre++y::t)) (· =⟨b,pre++va_ pre.length m (x::t)⟩):=by
      intro y hy
      refine Wp.step ?_
      simp only [bd_]
      simp (disch:=omega) only [EM_,Option.bind_some,aM_]
      have:=uM_ c b e t (pre++[y]) (m/2) (by simpa using hl') (by omega)
      rw [←aI_,←aW_,List.length_append,List.length_singleton] at this
      refine this.mono fun r hr=> ?_
      rw [hr]
      simp only [va_,List.append_assoc,List.cons_append,List.nil_append,hy]
    simp (disch:=omega) only [Ei_,Option.bind_some]
    refine Wp.ite (fun h1=> ?_) (fun h1=>ih x (by rw [if_neg (by omega)]))
    refine Wp.ite (fun h2=>ih _ (by rw [if_pos (by omega)])) (fun h2=>ih x (by rw [if_neg (by omega)]))
theorem wc_ (s:al_) (n m:Int):Wp (fun k=>fX_ k s n m) (· =wG_ s n m):=by
  unfold fX_ wG_
  refine Wp.bind (dm_ s) (fun _ e=> ?_);subst e
  simp only [aH_,af_]
  refine Wp.ite (fun h=> ?_) (fun h=>Wp.ret (by rw [if_neg h]))
  rw [if_pos h]
  have:=h.1;have hb:=h.2.1
  refine Wp.bind (i0_ s (by omega)) (fun r2 e=> ?_);rw [e]
  refine Wp.ite (fun h2=>Wp.ret (by rw [if_neg (by omega)])) (fun h2=> ?_)
  refine Wp.bind (P:=fun r=>r=((0+hw_ s.Items:Nat):Int)) (sz_ s.Base s.Items [] (by simp;omega)) (fun _ e=> ?_);subst e
  have hf:=pY_ s.Items
  simp (disch:=omega) only [aM_]
  refine Wp.ite (fun h3=>Wp.ret (by rw [if_neg (by omega)])) (fun h3=> ?_)
  refine Wp.bind (ck_ _ _ _) (fun _ e=> ?_);subst e
  simp only [inB,af_]
  refine Wp.ite (fun h4=> ?_) (fun h4=>Wp.ret (by rw [if_neg (by omega)]))
  rw [if_pos (by omega)]
  refine Wp.opt (cY_ (by omega)) ?_
  refine Wp.opt (ba_ (by simp [dO_];omega)) ?_
  have e1:([]:List ag_)++dO_ s.Items (n-s.Base).toNat (s.Items.length:Int).toNat=s.Items.drop (n-s.Base).toNat:=by simp [dO_]
  rw [e1]
  have:=uM_ 0 n [] (s.Items.drop (n-s.Base).toNat) [] m.toNat (by simp;omega) (by omega)
  simp only [List.nil_append,List.length_nil,Int.toNat_of_nonneg h4.1] at this
  exact this
theorem A1_ (n:Nat) (hn:n<281474976710656):Ao_ .i64 (n:Int) 1=((n%2:Nat):Int):=by
  have e:∀m:Nat,BitVec.ofInt 64 (m:Int)=BitVec.ofNat 64 m:=fun m=>by
    apply BitVec.eq_of_toNat_eq
    simp [BitVec.toNat_ofInt]
  show IntKind.wrap .i64 ((BitVec.ofInt 64 (n:Int)&&&BitVec.ofInt 64 ((1:Nat):Int)).toNat:Int)=_
  rw [e,e,BitVec.toNat_and,BitVec.toNat_ofNat,BitVec.toNat_ofNat,Nat.mod_eq_of_lt (by omega),Nat.mod_eq_of_lt (by omega),Nat.and_one_is_mod]
  exact aM_ (by omega) (by omega)
theorem D3_ (n i:Nat) (h:i≤64):shift .shr .i64 (n:Int) (i:Int)=some ((n/2^i:Nat):Int):=by
  simp only [shift]
  rw [if_neg (by omega)]
  congr 1
  rw [Int.toNat_natCast,show IntKind.i64.bits=64 from rfl,Nat.min_eq_left h,Int.fdiv_eq_ediv_of_nonneg _ (by exact Int.le_of_lt (Int.pow_pos (by decide)))]
  simp
theorem qj_ (c b d:Int) (e:List ag_) (M:Nat) (hM:M≤255):∀(t pre:List ag_),(pre++t).length≤1000→
    Wp (fun k=>bt_ k (M:Int) (pre.length:Int) c b e (pre++t)) (· =⟨b,pre++va_ pre.length (M/2^pre.length) t⟩)
  | [],pre,hl=>by
    refine Wp.step ?_
    rw [List.append_nil] at hl⊢
    simp only [bt_,va_,List.append_nil]
    simp (disch:=omega) only [af_,if_neg]
    exact Wp.ite (fun h=>Wp.ret rfl) (fun h=>Wp.ret rfl)
  | x::t,pre,hl=>by
    refine Wp.step ?_
    have hl':=hl
    simp only [List.length_append,List.length_cons] at hl
    simp only [bt_]
    simp only [af_,a3_,if_true,aA_,by_,Option.bind_some,set_mid,ea_]
    refine Wp.ite (fun h8=> ?_) (fun h8=>Wp.ret (by rw [vB_ _ _ _ (by omega)]))
    have ih:∀y:ag_,(if pre.length<8∧M/2^pre.length%2=1∧0≤x.Since then ⟨x.Part,true,x.Since⟩ else x)=y→
     Wp (fun k=>cx_ k (M:Int) (pre.length:Int) c b e (pre++y::t)) (· =⟨b,pre++va_ pre.length (M/2^pre.length) (x::t)⟩):=by
      intro y hy
      refine Wp.step ?_
      simp only [cx_]
      simp (disch:=omega) only [aM_]
      have:=qj_ c b d e M hM t (pre++[y]) (by simpa using hl')
      rw [←aI_,←aW_,List.length_append,List.length_singleton] at this
      refine this.mono fun r hr=> ?_
      rw [hr]
      simp only [va_,List.append_assoc,List.cons_append,List.nil_append,hy,Nat.div_div_eq_div_mul,Nat.pow_succ]
    have hlt:M/2^pre.length<281474976710656:=Nat.lt_of_le_of_lt (Nat.div_le_self _ _) (by omega)
    rw [D3_ _ _ (by omega)]
    simp only [Option.bind_some]
    rw [A1_ _ hlt]
    refine Wp.ite (fun h1=> ?_) (fun h1=>ih x (by rw [if_neg (by omega)]))
    refine Wp.ite (fun h2=>ih _ (by rw [if_pos (by omega)])) (fun h2=>ih x (by rw [if_neg (by omega)]))
theorem yc_ (n m c b:Int) (e:List ag_) (hb:0≤b∧b≤1000000):∀(t pre:List ag_),(pre++t).length≤1000→
    Wp (fun k=>cO_ k n m (pre.length:Int) c b e (pre++t)) (· =if b≤n∧n≤b+(pre.length+hw_ t:Nat)∧0≤m∧m≤255 then ⟨n,va_ 0 m.toNat ((pre++t).drop (n-b).toNat)⟩ else ⟨b,pre++t⟩):=by
  have F:∀(xs:List ag_) (j:Nat),xs.length≤1000→j≤xs.length→Wp (fun k=>if n<b then some (⟨b,xs⟩:al_) else if n>IntKind.wrap .i64 (b+(j:Int)) then some ⟨b,xs⟩ else
   (aX_ k m 0 255).bind fun r4=>bif !r4 then some ⟨b,xs⟩ else
     (wnd xs.length (IntKind.wrap .i64 (n-b)) (xs.length:Int)).bind fun p5=>
     (app 40 ([]:List ag_) (dO_ xs p5.1 p5.2)).bind fun l6=>bt_ k m 0 c n e l6)
   (· =if b≤n∧n≤b+(j:Nat)∧0≤m∧m≤255 then ⟨n,va_ 0 m.toNat (xs.drop (n-b).toNat)⟩ else ⟨b,xs⟩):=by
    intro xs j hx hj
    refine Wp.ite (fun h2=>Wp.ret (by rw [if_neg (by omega)])) (fun h2=> ?_)
    simp (disch:=omega) only [aM_]
    refine Wp.ite (fun h3=>Wp.ret (by rw [if_neg (by omega)])) (fun h3=> ?_)
    refine Wp.bind (mq_ _ _ _) (fun _ e=> ?_);subst e
    simp only [inB,af_,aH_]
    refine Wp.ite (fun h4=> ?_) (fun h4=>Wp.ret (by rw [if_neg (by omega)]))
    rw [if_pos (by omega)]
    refine Wp.opt (cY_ (by omega)) ?_
    refine Wp.opt (ba_ (by simp [dO_];omega)) ?_
    have e1:([]:List ag_)++dO_ xs (n-b).toNat (xs.length:Int).toNat=xs.drop (n-b).toNat:=by simp [dO_]
    rw [e1]
    have:=qj_ c n 0 e m.toNat (by omega) (xs.drop (n-b).toNat) [] (by simp;omega)
    simp only [List.nil_append,List.length_nil,Int.toNat_of_nonneg h4.1,Nat.pow_zero,Nat.div_one] at this
    exact this
  intro t
  induction t with
  | nil=>
    intro pre hl
    refine Wp.step ?_
    simp only [cO_]
    rw [List.append_nil] at hl⊢
    simp (disch:=omega) only [af_,if_neg]
    exact F pre pre.length hl (Nat.le_refl _)
  | cons x t ih=>
    intro pre hl
    refine Wp.step ?_
    simp only [cO_]
    simp only [af_,a3_,if_true,aA_,by_,Option.bind_some]
    have hl':=hl
    simp only [List.length_append,List.length_cons] at hl
    refine Wp.ite (fun h=> ?_) (fun h=> ?_)
    ·rw [aM_ (by omega) (by omega)]
     have:=ih (pre++[x]) (by simpa using hl')
     rw [←aI_,←aW_,List.length_append,List.length_singleton] at this
     have e:pre.length+hw_ (x::t)=pre.length+1+hw_ t:=by simp only [hw_];rw [if_pos h];omega
     simp only [e]
     exact this
    ·have e:hw_ (x::t)=0:=by simp only [hw_];rw [if_neg h]
     simp only [e]
     exact F (pre++x::t) pre.length (by simpa using hl') (by simp)
theorem vP_ (s:al_) (n m:Int):Wp (fun k=>gh_ k s n m) (· =wG_ s n m):=by
  unfold gh_ wG_
  refine Wp.bind (ev_ s) (fun _ e=> ?_);subst e
  simp only [aH_,af_]
  refine Wp.ite (fun h=> ?_) (fun h=>Wp.ret (by rw [if_neg h]))
  rw [if_pos h]
  have:=h.1;have hb:=h.2.1
  refine Wp.bind (k7_ s (by omega)) (fun r2 e=> ?_);rw [e]
  have:=yc_ n m 0 s.Base [] hb s.Items [] (by simp;omega)
  simp only [List.nil_append,List.length_nil,Nat.zero_add] at this
  exact this
theorem OkItem.mono {i j:Nat} {x:ag_} (h:OkItem j x) (hij:i≤j):OkItem i x:=⟨h.1,h.2.1,fun h8=>h.2.2.1 (by omega),h.2.2.2⟩
theorem OkItems.mono:∀{l:List ag_} {i j:Nat},OkItems j l→i≤j→OkItems i l
  | [],_,_,_,_=>trivial
  | x::t,i,j,⟨h1,h2⟩,hij=>⟨h1.mono hij,h2.mono (by omega)⟩
theorem OkItems.drop:∀{l:List ag_} {i:Nat} (d:Nat),OkItems i l→OkItems i (l.drop d)
  | l,i,0,h=>h
  | [],i,d+1,h=>trivial
  | x::t,i,d+1,⟨_,h2⟩=>(OkItems.drop d h2).mono (by omega)
theorem pu_:∀{l:List ag_} {i m:Nat},OkItems i l→OkItems i (va_ i m l)
  | [],_,_,_=>trivial
  | x::t,i,m,⟨h1,h2⟩=>by
    refine ⟨?_,pu_ h2⟩
    split
    ·rename_i h;exact ⟨h1.1,h1.2.1,h1.2.2.1,fun _=>h.2.2⟩
    ·exact h1
theorem kG_:∀(i m:Nat) (l:List ag_),(va_ i m l).length=l.length
  | _,_,[]=>rfl
  | i,m,x::t=>by simp [va_,kG_ (i+1) (m/2) t]
theorem Bh_ (s:al_) (n m:Int):VSend (wG_ s n m):=by
  unfold wG_
  split
  ·rename_i h
   split
   ·rename_i h2
    have hf:=pY_ s.Items
    obtain ⟨v1,v2,v3,v4⟩:=h
    refine ⟨?_, ?_, ?_,pu_ (v4.drop _)⟩
    ·simp only [kG_,List.length_drop];omega
    ·simp only;omega
    ·simp only [kG_,List.length_drop];omega
   ·assumption
  ·exact h5_
end Km.X
namespace Km.X
open Go Km
set_option linter.unusedVariables false
set_option linter.unusedSimpArgs false
def goes (o:ByteArray) (r:List ByteArray) (p:aE_):Prop:=o.size+p.Text.size≤200∧(p.Last=true→r.length<4)
instance (o:ByteArray) (r:List ByteArray) (p:aE_):Decidable (goes o r p):=by unfold goes;infer_instance
theorem Ar_ (n:Int) (h:List ai_) (o:ByteArray) (r:List ByteArray) (p:aE_) (ho:o.size≤1048576) (hp:p.Text.size≤1048576):Wp (fun k=>eG_ k ⟨n,h,o,r⟩ p) (· =decide (goes o r p)):=by
  unfold eG_
  simp (disch:=omega) only [aM_,af_,aH_]
  refine Wp.ite (fun h1=> ?_) (fun h1=>Wp.ret (decide_eq_false fun h=>by have:=h.1;omega).symm)
  refine Wp.bif (fun h2=> ?_) (fun h2=> ?_)
  ·refine Wp.ret ?_
   rw [decide_eq_decide]
   exact ⟨fun h=>⟨by omega,fun _=>by omega⟩,fun h=>by have:=h.2 h2;omega⟩
  ·exact Wp.ret (decide_eq_true ⟨by omega,fun h=>by rw [h2] at h;cases h⟩).symm
theorem BO_ (n:Int) (h:List ai_) (o:ByteArray) (r:List ByteArray) (p:aE_) (ho:o.size≤1048576) (hp:p.Text.size≤1048576):Wp (fun k=>gk_ k ⟨n,h,o,r⟩ p) (· =decide (goes o r p)):=Ar_ n h o r p ho hp
def WHs (n:Int):Int→List ai_→Prop
  | _,[]=>True
  | p,x::t=>(p<x.Seq∧x.Seq≤n+7∧x.Seq≤999999∧x.Part.Text.size≤20)∧WHs n x.Seq t
instance DG_ (n:Int):(p:Int)→(l:List ai_)→Decidable (WHs n p l)
  | _,[]=> .isTrue trivial
  | p,x::t=>by
    have:=DG_ n x.Seq t
    unfold WHs;infer_instance
def xv_ (n:Int) (o:ByteArray) (r:List ByteArray) (l:List ai_):Prop:=∀x∈l,x.Seq=n→¬goes o r x.Part
instance (n:Int) (o:ByteArray) (r:List ByteArray) (l:List ai_):Decidable (xv_ n o r l):=by unfold xv_;infer_instance
def SmR (l:List ByteArray):Prop:=∀s∈l,s.size≤200
instance (l:List ByteArray):Decidable (SmR l):=by unfold SmR;infer_instance
def VTake (t:ak_):Prop:=(0≤t.Next∧t.Next≤1000000)∧t.Held.length≤8∧t.Open.size≤200∧t.Ready.length≤4∧SmR t.Ready∧WHs t.Next (t.Next-1) t.Held∧xv_ t.Next t.Open t.Ready t.Held
instance (t:ak_):Decidable (VTake t):=by unfold VTake;infer_instance
def dK_ (n:Int) (pre:List ai_):Int:=match pre.getLast? with | none=>n-1 | some y=>y.Seq
theorem hY_ (n:Int) (pre:List ai_) (x:ai_):dK_ n (pre++[x])=x.Seq:=by simp [dK_]
theorem r2_ (n:Int) (pre t:List ai_) (h:0<pre.length):∃y,idx (pre++t) ((pre.length:Int)-1)=some y∧dK_ n pre=y.Seq:=by
  rcases List.eq_nil_or_concat pre with rfl | ⟨l,y,rfl⟩
  ·simp at h
  ·refine ⟨y, ?_,by simp [dK_]⟩
   simp only [List.concat_eq_append,List.length_append,List.length_singleton]
   rw [show ((l.length+1:Nat):Int)-1=(l.length:Int) by omega,ju_]
   simp
theorem yO_ (n s:Int) (h:List ai_) (o:ByteArray) (r:List ByteArray) (hn:0≤n∧n≤1000000):Wp (fun k=>gp_ k ⟨n,h,o,r⟩ s) (· =decide (n≤s∧s≤n+7∧s≤999999)):=by
  unfold gp_
  simp (disch:=omega) only [aM_]
  refine Wp.bind (ck_ _ _ _) (fun _ e=> ?_);subst e
  simp only [inB,af_]
  refine Wp.ite (fun h1=>Wp.ret ?_) (fun h1=>Wp.ret (decide_eq_false (by omega)).symm)
  rw [decide_eq_decide];omega
theorem jW_ (n:Int) (o:ByteArray) (r:List ByteArray) (hn:0≤n∧n≤1000000) (ho:o.size≤200):∀(t pre:List ai_),(pre++t).length≤1000→n-1≤dK_ n pre→
    Wp (fun k=>aR_ k (pre.length:Int) n (pre++t) o r) (· =decide (WHs n (dK_ n pre) t∧xv_ n o r t))
  | [],pre,hl,hp=>by
    refine Wp.step ?_
    simp only [aR_,List.append_nil]
    simp (disch:=omega) only [af_,if_neg]
    exact Wp.ret (decide_eq_true ⟨trivial,fun x hx=>by simp at hx⟩).symm
  | x::t,pre,hl,hp=>by
    refine Wp.step ?_
    have hl':=hl
    simp only [List.length_append,List.length_cons] at hl
    simp only [aR_]
    simp only [af_,a3_,if_true,aA_,Option.bind_some]
    have F:¬(WHs n (dK_ n pre) (x::t)∧xv_ n o r (x::t))→Wp (fun _=>some false) (· =decide (WHs n (dK_ n pre) (x::t)∧xv_ n o r (x::t))):=fun h=>Wp.ret (decide_eq_false h).symm
    refine Wp.bind (yO_ n x.Seq _ o r hn) (fun _ e=> ?_);subst e
    simp only [af_,aH_]
    refine Wp.ite (fun h1=> ?_) (fun h1=>F fun h'=>by have:=h'.1.1;omega)
    refine Wp.ite (fun h2=>F fun h'=>by have:=h'.1.1;omega) (fun h2=> ?_)
    have ih:=jW_ n o r hn ho t (pre++[x]) (by simpa using hl') (by rw [hY_];omega)
    rw [←aI_,←aW_,hY_] at ih
    have G:(x.Seq=n→¬goes o r x.Part)→dK_ n pre<x.Seq→Wp (fun k=>aR_ k ((pre.length:Int)+1) n (pre++x::t) o r) (· =decide (WHs n (dK_ n pre) (x::t)∧xv_ n o r (x::t))):=fun h h'=>by
      refine Wp.mono ih fun v hv=> ?_
      rw [hv,decide_eq_decide]
      constructor
      ·rintro ⟨g1,g2⟩
       refine ⟨⟨⟨h',by omega,by omega,by omega⟩,g1⟩,fun y hy=> ?_⟩
       rcases List.mem_cons.mp hy with rfl | hy
       ·exact h
       ·exact g2 y hy
      ·rintro ⟨g1,g2⟩
       exact ⟨g1.2,fun y hy=>g2 y (List.mem_cons_of_mem _ hy)⟩
    have C:dK_ n pre<x.Seq→Wp (fun k=>bif x.Seq==n then (eG_ k ⟨n,pre++x::t,o,r⟩ x.Part).bind fun r6=>bif r6 then some false else aR_ k (IntKind.wrap .i64 ((pre.length:Int)+1)) n (pre++x::t) o r
     else aR_ k (IntKind.wrap .i64 ((pre.length:Int)+1)) n (pre++x::t) o r) (· =decide (WHs n (dK_ n pre) (x::t)∧xv_ n o r (x::t))):=fun h'=>by
      simp (disch:=omega) only [aM_,ea_]
      refine Wp.ite (fun h3=> ?_) (fun h3=>G (fun g=>absurd g h3) h')
      refine Wp.bind (Ar_ n _ o r x.Part (by omega) (by omega)) (fun _ e=> ?_);subst e
      simp only [af_]
      exact Wp.ite (fun h4=>F fun g=>g.2 x (List.mem_cons_self ..) h3 h4) (fun h4=>G (fun _=>h4) h')
    refine Wp.ite (fun h3=> ?_) (fun h3=> ?_)
    ·obtain ⟨y,hy,hy'⟩:=r2_ n pre (x::t) (by omega)
     rw [aM_ (by omega) (by omega),hy]
     simp only [Option.bind_some]
     refine Wp.ite (fun h4=>F fun h'=>by have:=h'.1.1;omega) (fun h4=> ?_)
     exact C (by omega)
    ·have:pre=[]:=List.length_eq_zero_iff.mp (by omega)
     exact C (by subst this;simp [dK_];omega)
theorem jx_ (n:Int) (o:ByteArray) (h:List ai_) (hn:0≤n∧n≤1000000) (ho:o.size≤200) (hh:h.length≤8) (rr:List ByteArray):∀(t pre:List ByteArray),pre++t=rr→(pre++t).length≤1000→
    Wp (fun k=>cv_ k (pre.length:Int) n h o (pre++t)) (· =decide (SmR t∧WHs n (n-1) h∧xv_ n o rr h))
  | [],pre,hr,hl=>by
    refine Wp.step ?_
    simp only [cv_]
    rw [hr] at hl⊢
    rw [List.append_nil] at hr
    subst hr
    simp (disch:=omega) only [af_,if_neg]
    have:=jW_ n o pre hn ho h [] (by simp;omega) (by simp [dK_])
    refine this.mono fun v hv=> ?_
    rw [hv,decide_eq_decide]
    exact ⟨fun g=>⟨fun s hs=>by simp at hs,g⟩,fun g=>g.2⟩
  | x::t,pre,hr,hl=>by
    refine Wp.step ?_
    have hl':=hl
    simp only [List.length_append,List.length_cons] at hl
    simp only [cv_]
    simp only [af_,a3_,if_true,aA_,Option.bind_some]
    refine Wp.ite (fun h1=>Wp.ret (decide_eq_false fun h'=>by have:=h'.1 x (List.mem_cons_self ..);omega).symm) (fun h1=> ?_)
    simp (disch:=omega) only [aM_]
    have ih:=jx_ n o h hn ho hh rr t (pre++[x]) (by simpa using hr) (by simpa using hl')
    rw [←aI_,←aW_] at ih
    refine ih.mono fun v hv=> ?_
    rw [hv,decide_eq_decide]
    constructor
    ·rintro ⟨g1,g2⟩
     refine ⟨fun y hy=> ?_,g2⟩
     rcases List.mem_cons.mp hy with rfl | hy
     ·omega
     ·exact g1 y hy
    ·rintro ⟨g1,g2⟩
     exact ⟨fun y hy=>g1 y (List.mem_cons_of_mem _ hy),g2⟩
theorem ew_ (t:ak_):Wp (fun k=>cW_ k t) (· =decide (VTake t)):=by
  unfold cW_
  simp only [af_,aH_]
  have F:¬VTake t→Wp (fun _=>some false) (· =decide (VTake t)):=fun h=>Wp.ret (decide_eq_false h).symm
  refine Wp.bind (ck_ _ _ _) (fun _ e=> ?_);subst e
  simp only [inB,af_]
  refine Wp.ite (fun h1=> ?_) (fun h1=>F fun h'=>h1 h'.1)
  refine Wp.ite (fun h2=>F fun h'=>by have:=h'.2.1;omega) (fun h2=> ?_)
  refine Wp.ite (fun h3=>F fun h'=>by have:=h'.2.2.1;omega) (fun h3=> ?_)
  refine Wp.ite (fun h4=>F fun h'=>by have:=h'.2.2.2.1;omega) (fun h4=> ?_)
  refine Wp.mono (jx_ t.Next t.Open t.Held h1 (by omega) (by omega) t.Ready t.Ready [] rfl (by simp;omega)) fun v hv=> ?_
  rw [hv,decide_eq_decide]
  exact ⟨fun g=>⟨h1,by omega,by omega,by omega,g⟩,fun g=>g.2.2.2.2⟩
theorem kk_:∀(t pre:List ByteArray),(pre++t).length≤1000→
    Wp (fun k=>b2_ k (pre++t) ((pre++t).length:Int) (pre.length:Int)) (· =decide (SmR t))
  | [],pre,hl=>by
    refine Wp.step ?_
    simp only [b2_,List.append_nil]
    simp (disch:=omega) only [af_,if_neg]
    exact Wp.ret (decide_eq_true fun s hs=>by simp at hs).symm
  | x::t,pre,hl=>by
    refine Wp.step ?_
    have hl':=hl
    simp only [List.length_append,List.length_cons] at hl
    simp only [b2_]
    simp only [af_,a3_,if_true,aA_,Option.bind_some]
    refine Wp.ite (fun h1=>Wp.ret (decide_eq_false fun h'=>by have:=h' x (List.mem_cons_self ..);omega).symm) (fun h1=> ?_)
    simp (disch:=omega) only [aM_]
    have ih:=kk_ t (pre++[x]) (by simpa using hl')
    rw [←aI_,←aW_] at ih
    refine ih.mono fun v hv=> ?_
    rw [hv,decide_eq_decide]
    constructor
    ·intro g1 y hy
     rcases List.mem_cons.mp hy with rfl | hy
     ·omega
     ·exact g1 y hy
    ·exact fun g1 y hy=>g1 y (List.mem_cons_of_mem _ hy)
theorem mm_ (n:Int) (o:ByteArray) (r:List ByteArray) (hn:0≤n∧n≤1000000) (ho:o.size≤200) (hr:r.length≤4):∀(t pre:List ai_),(pre++t).length≤1000→n-1≤dK_ n pre→
    Wp (fun k=>aQ_ k (pre++t) ((pre++t).length:Int) (pre.length:Int) n (pre++t) o r) (· =decide ((WHs n (dK_ n pre) t∧xv_ n o r t)∧SmR r))
  | [],pre,hl,hp=>by
    refine Wp.step ?_
    simp only [aQ_,List.append_nil]
    simp (disch:=omega) only [af_,if_neg]
    refine Wp.mono (kk_ r [] (by simp;omega)) fun v hv=> ?_
    rw [hv,decide_eq_decide]
    exact ⟨fun g=>⟨⟨trivial,fun x hx=>by simp at hx⟩,g⟩,fun g=>g.2⟩
  | x::t,pre,hl,hp=>by
    refine Wp.step ?_
    have hl':=hl
    simp only [List.length_append,List.length_cons] at hl
    simp only [aQ_]
    simp only [af_,a3_,if_true,aA_,Option.bind_some]
    have F:¬(WHs n (dK_ n pre) (x::t)∧xv_ n o r (x::t))→Wp (fun _=>some false) (· =decide ((WHs n (dK_ n pre) (x::t)∧xv_ n o r (x::t))∧SmR r)):=fun h=>Wp.ret (decide_eq_false fun g=>h g.1).symm
    simp (disch:=omega) only [aM_]
    refine Wp.bind (mq_ _ _ _) (fun _ e=> ?_);subst e
    simp only [inB,af_,aH_]
    refine Wp.ite (fun h1=> ?_) (fun h1=>F fun h'=>by have:=h'.1.1;omega)
    refine Wp.ite (fun h1'=>F fun h'=>by have:=h'.1.1;omega) (fun h1'=> ?_)
    refine Wp.ite (fun h2=>F fun h'=>by have:=h'.1.1;omega) (fun h2=> ?_)
    have ih:=mm_ n o r hn ho hr t (pre++[x]) (by simpa using hl') (by rw [hY_];omega)
    rw [←aI_,←aW_,hY_] at ih
    have G:(x.Seq=n→¬goes o r x.Part)→dK_ n pre<x.Seq→Wp (fun k=>aQ_ k (pre++x::t) ((pre++x::t).length:Int) ((pre.length:Int)+1) n (pre++x::t) o r) (· =decide ((WHs n (dK_ n pre) (x::t)∧xv_ n o r (x::t))∧SmR r)):=fun h h'=>by
      refine Wp.mono ih fun v hv=> ?_
      rw [hv,decide_eq_decide]
      constructor
      ·rintro ⟨⟨g1,g2⟩,g3⟩
       refine ⟨⟨⟨⟨h',by omega,by omega,by omega⟩,g1⟩,fun y hy=> ?_⟩,g3⟩
       rcases List.mem_cons.mp hy with rfl | hy
       ·exact h
       ·exact g2 y hy
      ·rintro ⟨⟨g1,g2⟩,g3⟩
       exact ⟨⟨g1.2,fun y hy=>g2 y (List.mem_cons_of_mem _ hy)⟩,g3⟩
    have C:dK_ n pre<x.Seq→Wp (fun k=>if x.Seq=n then (gk_ k ⟨n,pre++x::t,o,r⟩ x.Part).bind fun r6=>bif r6 then some false else aQ_ k (pre++x::t) ((pre++x::t).length:Int) ((pre.length:Int)+1) n (pre++x::t) o r
     else aQ_ k (pre++x::t) ((pre++x::t).length:Int) ((pre.length:Int)+1) n (pre++x::t) o r) (· =decide ((WHs n (dK_ n pre) (x::t)∧xv_ n o r (x::t))∧SmR r)):=fun h'=>by
      refine Wp.ite (fun h3=> ?_) (fun h3=>G (fun g=>absurd g h3) h')
      refine Wp.bind (BO_ n _ o r x.Part (by omega) (by omega)) (fun _ e=> ?_);subst e
      simp only [af_]
      exact Wp.ite (fun h4=>F fun g=>g.2 x (List.mem_cons_self ..) h3 h4) (fun h4=>G (fun _=>h4) h')
    simp only [ea_]
    refine Wp.ite (fun h3=> ?_) (fun h3=> ?_)
    ·obtain ⟨y,hy,hy'⟩:=r2_ n pre (x::t) (by omega)
     rw [hy]
     simp only [Option.bind_some]
     refine Wp.ite (fun h4=>F fun h'=>by have:=h'.1.1;omega) (fun h4=> ?_)
     exact C (by omega)
    ·have:pre=[]:=List.length_eq_zero_iff.mp (by omega)
     exact C (by subst this;simp [dK_];omega)
theorem en_ (t:ak_):Wp (fun k=>bU_ k t) (· =decide (VTake t)):=by
  unfold bU_
  simp only [af_,aH_]
  have F:¬VTake t→Wp (fun _=>some false) (· =decide (VTake t)):=fun h=>Wp.ret (decide_eq_false h).symm
  refine Wp.bind (mq_ _ _ _) (fun _ e=> ?_);subst e
  simp only [inB,af_]
  refine Wp.ite (fun h1=> ?_) (fun h1=>F fun h'=>h1 h'.1)
  refine Wp.ite (fun h2=>F fun h'=>by have:=h'.2.1;omega) (fun h2=> ?_)
  refine Wp.ite (fun h3=>F fun h'=>by have:=h'.2.2.1;omega) (fun h3=> ?_)
  refine Wp.ite (fun h4=>F fun h'=>by have:=h'.2.2.2.1;omega) (fun h4=> ?_)
  refine Wp.mono (mm_ t.Next t.Open t.Ready h1 (by omega) (by omega) t.Held [] (by simp;omega) (by simp [dK_])) fun v hv=> ?_
  rw [hv,decide_eq_decide]
  exact ⟨fun g=>⟨h1,by omega,by omega,by omega,g.2,g.1⟩,fun g=>⟨g.2.2.2.2.2,g.2.2.2.2.1⟩⟩
theorem lI_ (t:ak_) (h:t.Held.length≤1048576) (h':t.Ready.length≤1048576):Wp (fun k=>fa_ k t) (· =t):=by
  unfold fa_
  refine Wp.opt (ba_ (by simp;omega)) ?_
  refine Wp.opt (ba_ (by simp;omega)) ?_
  exact Wp.ret (by rw [List.nil_append,List.nil_append])
theorem pd_ (t:ak_) (h:t.Held.length≤1048576) (h':t.Ready.length≤1048576):Wp (fun k=>eQ_ k t) (· =t):=lI_ t h h'
abbrev nC_:ak_:=⟨0,[],noB,[]⟩
theorem mh_:VTake nC_:=⟨by simp,by simp,by simp [fm_],by simp,fun s hs=>by simp at hs,trivial,fun x hx=>by simp at hx⟩
theorem wi_ {n:Int}:∀{l:List ai_} {p:Int},WHs n p l→∀x∈l,x.Part.Text.size≤20
  | [],_,_,x,h=>by simp at h
  | y::t,p,⟨h1,h2⟩,x,h=>by
    rcases List.mem_cons.mp h with rfl | h
    ·exact h1.2.2.2
    ·exact wi_ h2 x h
theorem yQ_ {n:Int}:∀{l:List ai_} {p:Int},WHs n p l→∀x∈l,p<x.Seq
  | [],_,_,x,h=>by simp at h
  | y::t,p,⟨h1,h2⟩,x,h=>by
    rcases List.mem_cons.mp h with rfl | h
    ·exact h1.1
    ·have:=yQ_ h2 x h;omega
theorem xn_ {n n':Int} (hn:n≤n'):∀{l:List ai_} {p:Int},WHs n p l→WHs n' p l
  | [],_,_=>trivial
  | y::t,p,⟨h1,h2⟩=>⟨⟨h1.1,by omega,h1.2.2⟩,xn_ hn h2⟩
theorem VTake.sm {t:ak_} (h:VTake t):lv_ t:=by
  obtain ⟨h1,h2,h3,h4,h5,h6,h7⟩:=h
  unfold lv_ smL
  refine ⟨⟨by omega,fun x hx=> ?_⟩,by omega,⟨by omega,fun s hs=>by have:=h5 s hs;omega⟩⟩
  have:=wi_ h6 x hx
  show x.Part.Text.size≤1048576
  omega
def jz_:List ai_→Int→ByteArray→List ByteArray→ak_
  | [],n,o,r=>⟨n,[],o,r⟩
  | x::t,n,o,r=>if x.Seq=n∧goes o r x.Part then (if x.Part.Last=true then jz_ t (n+1) noB (r++[o++x.Part.Text]) else jz_ t (n+1) (o++x.Part.Text) r) else ⟨n,x::t,o,r⟩
theorem pN_ (c:Int) (e:ByteArray) (z:List ai_) (w:List ByteArray):∀(h:List ai_) (n:Int) (o:ByteArray) (r:List ByteArray),h.length≤100→(∀x∈h,x.Seq≤999999∧x.Part.Text.size≤1000)→0≤n→o.size≤200→r.length≤4→
    Wp (fun k=>cU_ k n o c e h r z w) (· =jz_ h n o r)
  | [],n,o,r,hl,hx,hn,ho,hr=>by
    refine Wp.step ?_
    simp only [cU_]
    simp (disch:=simp) only [af_,if_neg]
    exact Wp.ret rfl
  | x::t,n,o,r,hl,hx,hn,ho,hr=>by
    refine Wp.step ?_
    obtain ⟨x1,x2⟩:=hx x (List.mem_cons_self ..)
    simp only [List.length_cons] at hl
    simp only [cU_,jz_]
    have e0:idx (x::t) 0=some x:=rfl
    have e1:(x::t)[Int.toNat 0]? =some x:=rfl
    have e2:wnd (x::t).length 1 ((x::t).length:Int)=some (1,(x::t).length):=by rw [cY_ (by simp only [List.length_cons];omega)];simp
    have e3:app 32 ([]:List ai_) (dO_ (x::t) 1 (x::t).length)=some t:=by rw [ba_ (by simp [dO_];omega)];simp [dO_]
    simp only [e0,e1,e2,e3,af_,Option.bind_some,ea_]
    have hpos:((x::t).length:Int)>0:=by simp only [List.length_cons];omega
    simp only [if_pos hpos]
    refine Wp.ite (fun h1=> ?_) (fun h1=>Wp.ret (by rw [if_neg (fun g=>h1 g.1)]))
    refine Wp.bind (Ar_ n _ o r x.Part (by omega) (by omega)) (fun _ e=> ?_);subst e
    simp only [af_]
    refine Wp.ite (fun h2=> ?_) (fun h2=>Wp.ret (by rw [if_neg (fun g=>h2 g.2)]))
    rw [if_pos ⟨h1,h2⟩,bF_ (by omega)]
    simp only [Option.bind_some]
    have hx':∀y∈t,y.Seq≤999999∧y.Part.Text.size≤1000:=fun y hy=>hx y (List.mem_cons_of_mem _ hy)
    refine Wp.bif (fun h3=> ?_) (fun h3=> ?_)
    ·rw [if_pos h3,ba_ (by simp;omega)]
     simp (disch:=omega) only [Option.bind_some,aM_]
     exact pN_ c e z w t (n+1) noB _ (by omega) hx' (by omega) (by simp [fm_]) (by have:=h2.2 h3;simp;omega)
    ·rw [if_neg (by simp [h3])]
     simp (disch:=omega) only [aM_]
     exact pN_ c e z w t (n+1) _ _ (by omega) hx' (by omega) (by rw [bg_];exact h2.1) hr
theorem uo_:∀(k:Nat) n o c e h r z w,eE_ k n o c e h r z w=cU_ k n o c e h r z w
  | 0,_,_,_,_,_,_,_,_=>rfl
  | k+1,n,o,c,e,h,r,z,w=>by
    have hi:∀a b,gk_ k a b=eG_ k a b:=fun _ _=>rfl
    simp only [eE_,cU_,uo_ k,hi]
theorem pe_ (t:ak_) (hl:t.Held.length≤100) (hx:∀x∈t.Held,x.Seq≤999999∧x.Part.Text.size≤1000) (hn:0≤t.Next) (ho:t.Open.size≤200) (hr:t.Ready.length≤4):Wp (fun k=>jB_ k t) (· =jz_ t.Held t.Next t.Open t.Ready):=
  pN_ _ _ _ _ t.Held t.Next t.Open t.Ready hl hx hn ho hr
theorem p7_ (t:ak_) (hl:t.Held.length≤100) (hx:∀x∈t.Held,x.Seq≤999999∧x.Part.Text.size≤1000) (hn:0≤t.Next) (ho:t.Open.size≤200) (hr:t.Ready.length≤4):Wp (fun k=>eS_ k t) (· =jz_ t.Held t.Next t.Open t.Ready):=by
  have:(fun k=>eS_ k t)=fun k=>jB_ k t:=funext fun k=>uo_ k _ _ _ _ _ _ _ _
  rw [this];exact pe_ t hl hx hn ho hr
theorem sH_ (n0:Int):∀(h:List ai_) (n:Int) (o:ByteArray) (r:List ByteArray),n0≤n→WHs n0 (n-1) h→h.length≤8→0≤n→n≤1000000→o.size≤200→r.length≤4→SmR r→VTake (jz_ h n o r)
  | [],n,o,r,h0,hw,hl,hn,hn',ho,hr,hs=>⟨⟨hn,hn'⟩,by simp [jz_],ho,hr,hs,trivial,fun x hx=>by simp [jz_] at hx⟩
  | x::t,n,o,r,h0,⟨hw1,hw2⟩,hl,hn,hn',ho,hr,hs=>by
    simp only [List.length_cons] at hl
    simp only [jz_]
    split
    ·rename_i hg
     have hw3:WHs n0 (n+1-1) t:=by rw [show n+1-1=x.Seq by omega];exact hw2
     split
     ·rename_i hl3
      refine sH_ n0 t (n+1) noB _ (by omega) hw3 (by omega) (by omega) (by omega) (by simp [fm_]) (by have:=hg.2.2 hl3;simp;omega) (fun s h'=> ?_)
      simp only [List.mem_append,List.mem_singleton] at h'
      rcases h' with h' | rfl
      ·exact hs s h'
      ·rw [bg_];exact hg.2.1
     ·exact sH_ n0 t (n+1) _ r (by omega) hw3 (by omega) (by omega) (by omega) (by rw [bg_];exact hg.2.1) hr hs
    ·rename_i hg
     refine ⟨⟨hn,hn'⟩,by simp only [List.length_cons];omega,ho,hr,hs,xn_ h0 ⟨hw1,hw2⟩,fun y hy=> ?_⟩
     rcases List.mem_cons.mp hy with rfl | hy
     ·exact fun e g=>hg ⟨e,g⟩
     ·have:=yQ_ hw2 y hy
      exact fun e=>by simp only at e;omega
def o9_ (t:ak_):ak_×ByteArray×Bool:=if VTake t then (match t.Ready with | []=>(t,noB,false) | s::rs=>(jz_ t.Held t.Next t.Open rs,s,true)) else (nC_,noB,false)
theorem VTake.small {t:ak_} (h:VTake t):∀x∈t.Held,x.Seq≤999999∧x.Part.Text.size≤1000:=by
  have hw:=h.2.2.2.2.2.1
  have G:∀{l:List ai_} {p:Int},WHs t.Next p l→∀x∈l,x.Seq≤999999:=by
    intro l
    induction l with
    | nil=>intro p _ x hx;simp at hx
    | cons y l ih=>
      rintro p ⟨h1,h2⟩ x hx
      rcases List.mem_cons.mp hx with rfl | hx
      ·exact h1.2.2.1
      ·exact ih h2 x hx
  exact fun x hx=>⟨G hw x hx,by have:=wi_ hw x hx;omega⟩
theorem wj_ (t:ak_):Wp (fun k=>fY_ k t) (· =o9_ t):=by
  unfold fY_ o9_
  refine Wp.bind (ew_ t) (fun _ e=> ?_);subst e
  simp only [aH_,af_]
  refine Wp.ite (fun h=> ?_) (fun h=>Wp.ret (by rw [if_neg h]))
  rw [if_pos h]
  refine Wp.bind (lI_ t (by have:=h.2.1;omega) (by have:=h.2.2.2.1;omega)) (fun r2 e=> ?_);rw [e]
  simp only [ea_]
  obtain ⟨n,hd,o,r⟩:=t
  cases r with
  | nil=>exact Wp.ret rfl
  | cons s rs=>
    have hr:=h.2.2.2.1
    simp only [List.length_cons] at hr
    have e0:idx (s::rs) 0=some s:=rfl
    have e1:(s::rs)[Int.toNat 0]? =some s:=rfl
    have e2:wnd (s::rs).length 1 ((s::rs).length:Int)=some (1,(s::rs).length):=by rw [cY_ (by simp only [List.length_cons];omega)];simp
    have e3:app 16 ([]:List ByteArray) (dO_ (s::rs) 1 (s::rs).length)=some rs:=by rw [ba_ (by simp [dO_];omega)];simp [dO_]
    simp only [e0,e1,e2,e3,Option.bind_some]
    have hpos:¬((s::rs).length:Int)=0:=by simp only [List.length_cons];omega
    simp only [if_neg hpos]
    refine Wp.bind (pe_ _ (by have:=h.2.1;simp only at this⊢;omega) h.small h.1.1 h.2.2.1 (by simp only;omega)) (fun _ e=> ?_);subst e
    exact Wp.ret rfl
theorem vO_ (t:ak_):Wp (fun k=>f9_ k t) (· =o9_ t):=by
  unfold f9_ o9_
  refine Wp.bind (en_ t) (fun _ e=> ?_);subst e
  simp only [aH_,af_]
  refine Wp.ite (fun h=> ?_) (fun h=>Wp.ret (by rw [if_neg h]))
  rw [if_pos h]
  refine Wp.bind (pd_ t (by have:=h.2.1;omega) (by have:=h.2.2.2.1;omega)) (fun r2 e=> ?_);rw [e]
  simp only [ea_]
  obtain ⟨n,hd,o,r⟩:=t
  cases r with
  | nil=>exact Wp.ret rfl
  | cons s rs=>
    have hr:=h.2.2.2.1
    simp only [List.length_cons] at hr
    have e0:idx (s::rs) 0=some s:=rfl
    have e1:(s::rs)[Int.toNat 0]? =some s:=rfl
    have e2:wnd (s::rs).length 1 ((s::rs).length:Int)=some (1,(s::rs).length):=by rw [cY_ (by simp only [List.length_cons];omega)];simp
    have e3:app 16 ([]:List ByteArray) (dO_ (s::rs) 1 (s::rs).length)=some rs:=by rw [ba_ (by simp [dO_];omega)];simp [dO_]
    simp only [e0,e1,e2,e3,Option.bind_some]
    have hpos:¬((s::rs).length:Int)=0:=by simp only [List.length_cons];omega
    simp only [if_neg hpos]
    refine Wp.bind (p7_ _ (by have:=h.2.1;simp only at this⊢;omega) h.small h.1.1 h.2.2.1 (by simp only;omega)) (fun _ e=> ?_);subst e
    exact Wp.ret rfl
theorem w5_ (t:ak_):VTake (o9_ t).1∧(o9_ t).2.1.size≤200:=by
  unfold o9_
  split
  ·rename_i h
   obtain ⟨n,hd,o,r⟩:=t
   cases r with
   | nil=>exact ⟨h,by simp [fm_]⟩
   | cons s rs=>
     obtain ⟨h1,h2,h3,h4,h5,h6,h7⟩:=h
     simp only [List.length_cons] at h4
     exact ⟨sH_ n hd n o rs (Int.le_refl _) h6 h2 h1.1 h1.2 h3 (by omega) (fun s' hs=>h5 s' (List.mem_cons_of_mem _ hs)),h5 s (List.mem_cons_self ..)⟩
  ·exact ⟨mh_,by simp [fm_]⟩
end Km.X
namespace Km.X
open Go Km
set_option linter.unusedVariables false
set_option linter.unusedSimpArgs false
def ww_ (n:Int):Nat→List ai_→Nat
  | m,[]=>m
  | m,x::t=>ww_ n (m+2^(x.Seq-n).toNat) t
def tkM (t:ak_):Int×Int:=if VTake t then (t.Next,((ww_ t.Next 0 t.Held:Nat):Int)) else (0,0)
theorem hG_ {d:Nat} (h:d≤8):(2^d:Nat)≤256:=Nat.pow_le_pow_right (by decide) h
theorem Dk_ (n:Int) (m:Nat) (i:Int) (xs:List ai_) (o:ByteArray) (r:List ByteArray) (x:ai_) (hi:idx xs i=some x) (hn:0≤n∧n≤1000000) (hx:n≤x.Seq∧x.Seq≤n+7) (hm:m≤256) (Q:Int×Int→Prop)
    (hq:Wp (fun k=>ca_ k ((m+2^(x.Seq-n).toNat:Nat):Int) (IntKind.wrap .i64 (i+1)) n xs o r) Q):∀(d:Nat) (y:Int),n≤y→y≤x.Seq→d=(x.Seq-y).toNat→Wp (fun k=>cN_ k (m:Int) i ((2^(y-n).toNat:Nat):Int) y n xs o r) Q
  | 0,y,h1,h2,h3=>by
    have hy:y=x.Seq:=by omega
    subst hy
    have hp:=hG_ (d:=(x.Seq-n).toNat) (by omega)
    refine Wp.step ?_
    simp only [cN_,hi,Option.bind_some]
    simp (disch:=omega) only [af_,if_neg]
    generalize 2^(x.Seq-n).toNat=P at*
    rw [aM_ (n:=(m:Int)+_) (by omega) (by omega),show (m:Int)+(P:Int)=((m+P:Nat):Int) by omega]
    exact hq
  | d+1,y,h1,h2,h3=>by
    have hp:=hG_ (d:=(y-n).toNat) (by omega)
    refine Wp.step ?_
    simp only [cN_,hi,Option.bind_some]
    simp (disch:=omega) only [af_,if_pos]
    have:=Dk_ n m i xs o r x hi hn hx hm Q hq d (y+1) (by omega) (by omega) (by omega)
    have e:2^(y+1-n).toNat=2^(y-n).toNat*2:=by rw [show (y+1-n).toNat=(y-n).toNat+1 by omega,Nat.pow_succ]
    rw [e] at this
    generalize 2^(y-n).toNat=P at*
    rw [aM_ (n:=(P:Int)*2) (by omega) (by omega),aM_ (n:=y+1) (by omega) (by omega)]
    rwa [show ((P*2:Nat):Int)=(P:Int)*2 by omega] at this
theorem Aa_ (n:Int) (o:ByteArray) (r:List ByteArray) (hn:0≤n∧n≤1000000):∀(t pre:List ai_) (p:Int) (m:Nat),(pre++t).length≤1000→n-1≤p→p≤n+7→WHs n p t→m<2^(p-n+1).toNat→
    Wp (fun k=>ca_ k (m:Int) (pre.length:Int) n (pre++t) o r) (· =(n,((ww_ n m t:Nat):Int)))
  | [],pre,p,m,hl,h1,h2,hw,hm=>by
    refine Wp.step ?_
    simp only [ca_,List.append_nil]
    simp (disch:=omega) only [af_,if_neg]
    exact Wp.ret rfl
  | x::t,pre,p,m,hl,h1,h2,⟨hw1,hw2⟩,hm=>by
    refine Wp.step ?_
    have hl':=hl
    simp only [List.length_append,List.length_cons] at hl
    simp only [ca_,ww_]
    simp only [af_,a3_,if_true]
    have hp:=hG_ (d:=(p-n+1).toNat) (by omega)
    have hlt:m+2^(x.Seq-n).toNat<2^(x.Seq-n+1).toNat:=by
      have:2^(p-n+1).toNat≤2^(x.Seq-n).toNat:=Nat.pow_le_pow_right (by decide) (by omega)
      rw [show (x.Seq-n+1).toNat=(x.Seq-n).toNat+1 by omega,Nat.pow_succ];omega
    have ih:=Aa_ n o r hn t (pre++[x]) x.Seq (m+2^(x.Seq-n).toNat) (by simpa using hl') (by omega) (by omega) hw2 hlt
    rw [←aI_,←aW_] at ih
    have:=Dk_ n m (pre.length:Int) (pre++x::t) o r x aA_ hn (by omega) (by omega) (· =(n,((ww_ n (m+2^(x.Seq-n).toNat) t:Nat):Int))) (by rw [aM_ (by omega) (by omega)];exact ih) (x.Seq-n).toNat n (by omega) (by omega) rfl
    rwa [show ((2^(n-n).toNat:Nat):Int)=1 by simp] at this
theorem qo_ (t:ak_):Wp (fun k=>dX_ k t) (· =tkM t):=by
  unfold dX_ tkM
  refine Wp.bind (ew_ t) (fun _ e=> ?_);subst e
  simp only [aH_,af_]
  refine Wp.ite (fun h=> ?_) (fun h=>Wp.ret (by rw [if_neg h]))
  rw [if_pos h]
  exact Aa_ t.Next t.Open t.Ready h.1 t.Held [] (t.Next-1) 0 (by have:=h.2.1;show t.Held.length≤1000;omega) (by omega) (by omega) h.2.2.2.2.2.1 (Nat.two_pow_pos _)
theorem xK_ (m d:Nat) (h:m<2^d) (hd:d≤8):wW_ .i64 (m:Int) ((2^d:Nat):Int)=((m+2^d:Nat):Int):=by
  have e:∀m:Nat,BitVec.ofInt 64 (m:Int)=BitVec.ofNat 64 m:=fun m=>by
    apply BitVec.eq_of_toNat_eq
    simp [BitVec.toNat_ofInt]
  have hp:=hG_ hd
  show IntKind.wrap .i64 ((BitVec.ofInt 64 ((m:Nat):Int) ||| BitVec.ofInt 64 ((2^d:Nat):Int)).toNat:Int)=_
  rw [e,e,BitVec.toNat_or,BitVec.toNat_ofNat,BitVec.toNat_ofNat,Nat.mod_eq_of_lt (by omega),Nat.mod_eq_of_lt (by omega)]
  have:=Nat.shiftLeft_add_eq_or_of_lt (a:=1) (i:=d) (b:=m) h
  rw [Nat.shiftLeft_eq,Nat.one_mul] at this
  rw [Nat.or_comm,←this,Nat.add_comm]
  generalize 2^d=P at*
  exact aM_ (by omega) (by omega)
theorem Gi_ (d:Nat) (h:d≤8):shift .shl .i64 1 (d:Int)=some ((2^d:Nat):Int):=by
  have hp:=hG_ h
  simp only [shift]
  rw [if_neg (by omega)]
  congr 1
  rw [Int.toNat_natCast,show IntKind.i64.bits=64 from rfl,Nat.min_eq_left (by omega)]
  rw [show (1:Int)*(2:Int)^d=((2^d:Nat):Int) by simp]
  generalize 2^d=P at*
  exact aM_ (by omega) (by omega)
theorem Ag_ (n:Int) (o:ByteArray) (r:List ByteArray) (hn:0≤n∧n≤1000000):∀(t pre:List ai_) (p:Int) (m:Nat),(pre++t).length≤1000→n-1≤p→p≤n+7→WHs n p t→m<2^(p-n+1).toNat→
    Wp (fun k=>cL_ k (m:Int) (pre++t) ((pre++t).length:Int) (pre.length:Int) n (pre++t) o r) (· =(n,((ww_ n m t:Nat):Int)))
  | [],pre,p,m,hl,h1,h2,hw,hm=>by
    refine Wp.step ?_
    simp only [cL_,List.append_nil]
    simp (disch:=omega) only [af_,if_neg]
    exact Wp.ret rfl
  | x::t,pre,p,m,hl,h1,h2,⟨hw1,hw2⟩,hm=>by
    refine Wp.step ?_
    have hl':=hl
    simp only [List.length_append,List.length_cons] at hl
    simp only [cL_,ww_]
    simp only [af_,a3_,if_true,aA_,Option.bind_some]
    have hp:=hG_ (d:=(p-n+1).toNat) (by omega)
    have hle:2^(p-n+1).toNat≤2^(x.Seq-n).toNat:=Nat.pow_le_pow_right (by decide) (by omega)
    have hlt:m+2^(x.Seq-n).toNat<2^(x.Seq-n+1).toNat:=by
      rw [show (x.Seq-n+1).toNat=(x.Seq-n).toNat+1 by omega,Nat.pow_succ];omega
    have ih:=Ag_ n o r hn t (pre++[x]) x.Seq (m+2^(x.Seq-n).toNat) (by simpa using hl') (by omega) (by omega) hw2 hlt
    rw [←aI_,←aW_] at ih
    simp (disch:=omega) only [aM_]
    have e:x.Seq-n=((x.Seq-n).toNat:Int):=by omega
    have e2:=Gi_ (x.Seq-n).toNat (by omega)
    rw [←e] at e2
    simp only [e2,Option.bind_some]
    rw [xK_ m _ (by omega) (by omega)]
    exact ih
theorem p8_ (t:ak_):Wp (fun k=>dY_ k t) (· =tkM t):=by
  unfold dY_ tkM
  refine Wp.bind (en_ t) (fun _ e=> ?_);subst e
  simp only [aH_,af_]
  refine Wp.ite (fun h=> ?_) (fun h=>Wp.ret (by rw [if_neg h]))
  rw [if_pos h]
  exact Ag_ t.Next t.Open t.Ready h.1 t.Held [] (t.Next-1) 0 (by have:=h.2.1;show t.Held.length≤1000;omega) (by omega) (by omega) h.2.2.2.2.2.1 (Nat.two_pow_pos _)
end Km.X
namespace Km.X
open Go Km
set_option linter.unusedVariables false
set_option linter.unusedSimpArgs false
def Bn_ (s:al_):Prop:=s.Base=0∧s.Items.length=0
instance (s:al_):Decidable (Bn_ s):=by unfold Bn_;infer_instance
def Aw_ (t:ak_):Prop:=t.Next=0∧t.Held.length=0∧t.Open=noB∧t.Ready.length=0
instance (t:ak_):Decidable (Aw_ t):=by unfold Aw_;infer_instance
theorem ul_ (a b:Int):(a==b)=decide (a=b):=by by_cases h:a=b<;>simp [h]
theorem tQ_ (s:al_):Wp (fun k=>f6_ k s) (· =decide (Bn_ s)):=by
  unfold f6_
  simp only [ul_,af_]
  refine Wp.ite (fun h=>Wp.ret ?_) (fun h=>Wp.ret (decide_eq_false fun g=>h g.1).symm)
  rw [decide_eq_decide];exact ⟨fun g=>⟨h,by omega⟩,fun g=>by have:=g.2;omega⟩
theorem tS_ (t:ak_):Wp (fun k=>gc_ k t) (· =decide (Aw_ t)):=by
  unfold gc_
  simp only [ul_,cB_,af_]
  have F:¬Aw_ t→Wp (fun _=>some false) (· =decide (Aw_ t)):=fun h=>Wp.ret (decide_eq_false h).symm
  refine Wp.ite (fun h=> ?_) (fun h=>F fun g=>h g.1)
  refine Wp.ite (fun h2=> ?_) (fun h2=>F fun g=>by have:=g.2.1;omega)
  refine Wp.ite (fun h3=>Wp.ret ?_) (fun h3=>F fun g=>h3 g.2.2.1)
  rw [decide_eq_decide];exact ⟨fun g=>⟨h,by omega,h3,by omega⟩,fun g=>by have:=g.2.2.2;omega⟩
def VEnd (e:an_):Prop:=(1≤e.Number∧e.Number≤2)∧(1≤e.Life∧e.Life≤1000)∧(0≤e.Peer∧e.Peer≤1000)∧(0≤e.Since∧e.Since≤1000000)∧VSend e.Send∧VTake e.Take∧(e.Peer=0→Bn_ e.Send∧Aw_ e.Take)∧(e.Up=false→e.Peer=0∧e.Since=0∧e.Owes=false)
instance (e:an_):Decidable (VEnd e):=by unfold VEnd;infer_instance
theorem VEnd.sm {e:an_} (h:VEnd e):i4_ e:=⟨h.2.2.2.2.1.sm,h.2.2.2.2.2.1.sm⟩
theorem zE_ (e:an_) (h:(1≤e.Number∧e.Number≤2)∧(1≤e.Life∧e.Life≤1000)∧(0≤e.Peer∧e.Peer≤1000)∧(0≤e.Since∧e.Since≤1000000)∧VSend e.Send∧VTake e.Take) (h':e.Peer=0→Bn_ e.Send∧Aw_ e.Take):
    Wp (fun _=>bif e.Up then some true else bif e.Peer==0 then bif e.Since==0 then some (!e.Owes) else some false else some false) (· =decide (VEnd e)):=by
  obtain ⟨h1,h2,h3,h4,h5,h6⟩:=h
  simp only [ea_]
  refine Wp.bif (fun u=>Wp.ret (decide_eq_true ⟨h1,h2,h3,h4,h5,h6,h',fun g=>by rw [u] at g;cases g⟩).symm) (fun u=> ?_)
  refine Wp.ite (fun h7=> ?_) (fun h7=>Wp.ret (decide_eq_false fun g=>h7 (g.2.2.2.2.2.2.2 u).1).symm)
  refine Wp.ite (fun h8=>Wp.ret ?_) (fun h8=>Wp.ret (decide_eq_false fun g=>h8 (g.2.2.2.2.2.2.2 u).2.1).symm)
  by_cases ho:e.Owes=true
  ·rw [ho];exact (decide_eq_false fun g=>by have:=(g.2.2.2.2.2.2.2 u).2.2;rw [ho] at this;cases this).symm
  ·have ho:e.Owes=false:=by simpa using ho
   rw [ho];exact (decide_eq_true ⟨h1,h2,h3,h4,h5,h6,h',fun _=>⟨h7,h8,ho⟩⟩).symm
theorem bW_ (e:an_):Wp (fun k=>bS_ k e) (· =decide (VEnd e)):=by
  unfold bS_
  have F:¬VEnd e→Wp (fun _=>some false) (· =decide (VEnd e)):=fun h=>Wp.ret (decide_eq_false h).symm
  refine Wp.bind (ck_ _ _ _) (fun _ q=> ?_);subst q
  simp only [inB,af_,aH_]
  refine Wp.ite (fun h1=> ?_) (fun h1=>F fun g=>h1 g.1)
  refine Wp.bind (ck_ _ _ _) (fun _ q=> ?_);subst q
  simp only [inB,af_]
  refine Wp.ite (fun h2=> ?_) (fun h2=>F fun g=>h2 g.2.1)
  refine Wp.bind (ck_ _ _ _) (fun _ q=> ?_);subst q
  simp only [inB,af_]
  refine Wp.ite (fun h3=> ?_) (fun h3=>F fun g=>h3 g.2.2.1)
  refine Wp.bind (ck_ _ _ _) (fun _ q=> ?_);subst q
  simp only [inB,af_]
  refine Wp.ite (fun h4=> ?_) (fun h4=>F fun g=>h4 g.2.2.2.1)
  refine Wp.bind (dm_ _) (fun _ q=> ?_);subst q
  simp only [af_]
  refine Wp.ite (fun h5=> ?_) (fun h5=>F fun g=>h5 g.2.2.2.2.1)
  refine Wp.bind (ew_ _) (fun _ q=> ?_);subst q
  simp only [af_]
  refine Wp.ite (fun h6=> ?_) (fun h6=>F fun g=>h6 g.2.2.2.2.2.1)
  have T:=zE_ e ⟨h1,h2,h3,h4,h5,h6⟩
  simp only [ea_] at T⊢
  refine Wp.ite (fun h7=> ?_) (fun h7=>T fun g=>absurd g h7)
  refine Wp.bind (tQ_ _) (fun _ q=> ?_);subst q
  simp only [af_]
  refine Wp.ite (fun h8=> ?_) (fun h8=>F fun g=>h8 (g.2.2.2.2.2.2.1 h7).1)
  refine Wp.bind (tS_ _) (fun _ q=> ?_);subst q
  simp only [af_]
  exact Wp.ite (fun h9=>T fun _=>⟨h8,h9⟩) (fun h9=>F fun g=>h9 (g.2.2.2.2.2.2.1 h7).2)
theorem bZ_ (e:an_):Wp (fun k=>bV_ k e) (· =decide (VEnd e)):=by
  unfold bV_
  have F:¬VEnd e→Wp (fun _=>some false) (· =decide (VEnd e)):=fun h=>Wp.ret (decide_eq_false h).symm
  have M:(1≤e.Number∧e.Number≤2)→Wp (fun k=>(aX_ k e.Life 1 1000).bind fun r8=>
    bif (!r8) then
      some false
    else
      (aX_ k e.Peer 0 1000).bind fun r9=>
      bif (!r9) then
        some false
      else
        (aX_ k e.Since 0 1000000).bind fun r10=>
        bif (!r10) then
          some false
        else
          (bf_ k e.Send).bind fun r11=>
          bif (!r11) then
            some false
          else
            (bU_ k e.Take).bind fun r12=>
            bif (!r12) then
              some false
            else
              bif (e.Peer==0) then
                (ic_ k e.Send).bind fun r13=>
                bif r13 then
                  (h2_ k e.Take).bind fun r14=>
                  bif (!r14) then
                    some false
                  else
                    bif e.Up then
                      some true
                    else
                      bif (e.Peer==0) then
                        bif (e.Since==0) then
                          some (!e.Owes)
                        else
                          some false
                      else
                        some false
                else
                  some false
              else
                bif e.Up then
                  some true
                else
                  bif (e.Peer==0) then
                    bif (e.Since==0) then
                      some (!e.Owes)
                    else
                      some false
                  else
                    some false) (· =decide (VEnd e)):=fun h1=>by
    refine Wp.bind (mq_ _ _ _) (fun _ q=> ?_);subst q
    simp only [inB,af_,aH_]
    refine Wp.ite (fun h2=> ?_) (fun h2=>F fun g=>h2 g.2.1)
    refine Wp.bind (mq_ _ _ _) (fun _ q=> ?_);subst q
    simp only [inB,af_]
    refine Wp.ite (fun h3=> ?_) (fun h3=>F fun g=>h3 g.2.2.1)
    refine Wp.bind (mq_ _ _ _) (fun _ q=> ?_);subst q
    simp only [inB,af_]
    refine Wp.ite (fun h4=> ?_) (fun h4=>F fun g=>h4 g.2.2.2.1)
    refine Wp.bind (ev_ _) (fun _ q=> ?_);subst q
    simp only [af_]
    refine Wp.ite (fun h5=> ?_) (fun h5=>F fun g=>h5 g.2.2.2.2.1)
    refine Wp.bind (en_ _) (fun _ q=> ?_);subst q
    simp only [af_]
    refine Wp.ite (fun h6=> ?_) (fun h6=>F fun g=>h6 g.2.2.2.2.2.1)
    have T:=zE_ e ⟨h1,h2,h3,h4,h5,h6⟩
    simp only [ea_] at T⊢
    refine Wp.ite (fun h7=> ?_) (fun h7=>T fun g=>absurd g h7)
    refine Wp.bind (P:=fun r=>r=decide (Bn_ e.Send)) (tQ_ _) (fun _ q=> ?_);subst q
    simp only [af_]
    refine Wp.ite (fun h8=> ?_) (fun h8=>F fun g=>h8 (g.2.2.2.2.2.2.1 h7).1)
    refine Wp.bind (P:=fun r=>r=decide (Aw_ e.Take)) (tS_ _) (fun _ q=> ?_);subst q
    simp only [af_]
    exact Wp.ite (fun h9=>T fun _=>⟨h8,h9⟩) (fun h9=>F fun g=>h9 (g.2.2.2.2.2.2.1 h7).2)
  simp only [d8_]
  refine Wp.ite (fun h=>M (by omega)) (fun h=> ?_)
  exact Wp.ite (fun h2=>M (by omega)) (fun h2=>F fun g=>by have:=g.1;omega)
theorem fD_ (e:an_) (h:VEnd e):Wp (fun k=>cV_ k e) (· =e):=by
  unfold cV_
  obtain ⟨h1,h2⟩:=h.sm
  refine Wp.bind (i0_ _ h1.1) (fun r q=> ?_);subst q
  refine Wp.bind (lI_ _ h2.1.1 h2.2.2.1) (fun r q=> ?_);subst q
  exact Wp.ret rfl
theorem eH_ (e:an_) (h:VEnd e):Wp (fun k=>cm_ k e) (· =e):=fD_ e h
abbrev oL_:an_:=⟨0,false,0,0,0,false,j6_,nC_⟩
theorem E4_:Bn_ j6_:=⟨rfl,rfl⟩
theorem Fb_:Aw_ nC_:=⟨rfl,rfl,rfl,rfl⟩
def s9_ (e:an_):an_:=if VEnd e then ⟨e.Number,false,e.Life,0,0,false,j6_,nC_⟩ else oL_
theorem vF_ (e:an_):Wp (fun k=>g8_ k e) (· =s9_ e):=by
  unfold g8_ s9_
  refine Wp.bind (bW_ _) (fun _ q=> ?_);subst q
  simp only [af_,aH_]
  exact Wp.ite (fun h1=>Wp.ret (by rw [if_pos h1])) (fun h1=>Wp.ret (by rw [if_neg h1]))
theorem vs_ (e:an_):Wp (fun k=>gS_ k e) (· =s9_ e):=by
  unfold gS_ s9_
  refine Wp.bind (bZ_ _) (fun _ q=> ?_);subst q
  simp only [af_,aH_]
  exact Wp.ite (fun h1=>Wp.ret (by rw [if_pos h1])) (fun h1=>Wp.ret (by rw [if_neg h1]))
theorem Cr_ (e:an_) (h:VEnd e):VEnd (s9_ e):=by
  unfold s9_;rw [if_pos h]
  exact ⟨h.1,h.2.1,by simp,by simp,h5_,mh_,fun _=>⟨E4_,Fb_⟩,fun _=>⟨rfl,rfl,rfl⟩⟩
def sW_ (e:an_):an_:=if VEnd e then (if e.Up=true then e else if 1000≤e.Life then e else ⟨e.Number,true,e.Life+1,0,0,false,j6_,nC_⟩) else oL_
theorem wd_ (e:an_):Wp (fun k=>gZ_ k e) (· =sW_ e):=by
  unfold gZ_ sW_
  refine Wp.bind (bW_ _) (fun _ q=> ?_);subst q
  simp only [af_,aH_]
  refine Wp.ite (fun h1=> ?_) (fun h1=>Wp.ret (by rw [if_neg h1]))
  rw [if_pos h1]
  refine Wp.bif (fun u=> ?_) (fun u=> ?_)
  ·rw [if_pos u];refine Wp.bind (fD_ e h1) (fun r q=> ?_);rw [q];exact Wp.ret rfl
  ·rw [if_neg (by simp [u])]
   refine Wp.ite (fun h2=> ?_) (fun h2=> ?_)
   ·rw [if_pos (by omega)];refine Wp.bind (fD_ e h1) (fun r q=> ?_);rw [q];exact Wp.ret rfl
   ·rw [if_neg (by omega)]
    have:=h1.2.1
    rw [aM_ (by omega) (by omega)];exact Wp.ret rfl
theorem wh_ (e:an_):Wp (fun k=>gM_ k e) (· =sW_ e):=by
  unfold gM_ sW_
  refine Wp.bind (bZ_ _) (fun _ q=> ?_);subst q
  simp only [af_,aH_,ea_]
  refine Wp.ite (fun h1=> ?_) (fun h1=>Wp.ret (by rw [if_neg h1]))
  rw [if_pos h1]
  refine Wp.bif (fun u=> ?_) (fun u=> ?_)
  ·rw [if_pos u];refine Wp.bind (eH_ e h1) (fun r q=> ?_);rw [q];exact Wp.ret rfl
  ·rw [if_neg (by simp [u])]
   have:=h1.2.1
   refine Wp.ite (fun h2=> ?_) (fun h2=> ?_)
   ·rw [if_pos (by omega)];refine Wp.bind (eH_ e h1) (fun r q=> ?_);rw [q];exact Wp.ret rfl
   ·rw [if_neg (by omega)]
    rw [aM_ (by omega) (by omega)];exact Wp.ret rfl
theorem Cg_ (e:an_) (h:VEnd e):VEnd (sW_ e):=by
  unfold sW_;rw [if_pos h]
  split
  ·exact h
  ·split
   ·exact h
   ·have:=h.2.1
    exact ⟨h.1,by simp only;omega,by simp,by simp,h5_,mh_,fun _=>⟨E4_,Fb_⟩,fun g=>by cases g⟩
def lx_ (e:an_):aC_:=if VEnd e then (if e.Up=true then (if (o9_ e.Take).2.2=true then ⟨0,⟨e.Number,e.Up,e.Life,e.Peer,e.Since,true,e.Send,(o9_ e.Take).1⟩,[],(o9_ e.Take).2.1⟩ else ⟨4,oL_,[],noB⟩) else ⟨2,oL_,[],noB⟩) else ⟨1,oL_,[],noB⟩
theorem ui_ (e:an_):Wp (fun k=>gR_ k e) (· =lx_ e):=by
  unfold gR_ lx_
  refine Wp.bind (bW_ _) (fun _ q=> ?_);subst q
  simp only [af_,aH_]
  refine Wp.ite (fun h1=> ?_) (fun h1=>Wp.ret (by rw [if_neg h1]))
  rw [if_pos h1]
  refine Wp.bif (fun u=> ?_) (fun u=>Wp.ret (by rw [if_neg (by simp [u])]))
  rw [if_pos u]
  refine Wp.bind (wj_ _) (fun _ q=> ?_);subst q
  refine Wp.bif (fun v=> ?_) (fun v=>Wp.ret (by rw [if_neg (by simp [v])]))
  rw [if_pos v]
  refine Wp.bind (fD_ e h1) (fun r q=> ?_);rw [q];exact Wp.ret rfl
theorem uW_ (e:an_):Wp (fun k=>hf_ k e) (· =lx_ e):=by
  unfold hf_ lx_
  refine Wp.bind (bZ_ _) (fun _ q=> ?_);subst q
  simp only [af_,aH_]
  refine Wp.ite (fun h1=> ?_) (fun h1=>Wp.ret (by rw [if_neg h1]))
  rw [if_pos h1]
  refine Wp.bif (fun u=> ?_) (fun u=>Wp.ret (by rw [if_neg (by simp [u])]))
  rw [if_pos u]
  refine Wp.bind (vO_ _) (fun _ q=> ?_);subst q
  refine Wp.bif (fun v=> ?_) (fun v=>Wp.ret (by rw [if_neg (by simp [v])]))
  rw [if_pos v]
  refine Wp.bind (eH_ e h1) (fun r q=> ?_);rw [q];exact Wp.ret rfl
def iX_ (e:an_) (t:ByteArray):aC_:=if VEnd e then (if e.Up=true then (if e.Peer=0 then ⟨2,oL_,[],noB⟩ else if (rq_ e.Send t).2=0 then ⟨0,⟨e.Number,e.Up,e.Life,e.Peer,e.Since,e.Owes,(rq_ e.Send t).1,e.Take⟩,[],noB⟩ else ⟨(rq_ e.Send t).2,oL_,[],noB⟩) else ⟨2,oL_,[],noB⟩) else ⟨1,oL_,[],noB⟩
theorem vb_ (e:an_) (t:ByteArray):Wp (fun k=>gJ_ k e t) (· =iX_ e t):=by
  unfold gJ_ iX_
  refine Wp.bind (bW_ _) (fun _ q=> ?_);subst q
  simp only [af_,aH_,ea_,d8_]
  refine Wp.ite (fun h1=> ?_) (fun h1=>Wp.ret (by rw [if_neg h1]))
  rw [if_pos h1]
  refine Wp.bif (fun u=> ?_) (fun u=>Wp.ret (by rw [if_neg (by simp [u])]))
  rw [if_pos u]
  refine Wp.ite (fun h2=>Wp.ret (by rw [if_pos h2])) (fun h2=> ?_)
  rw [if_neg h2]
  refine Wp.bind (wg_ _ _) (fun _ q=> ?_);subst q
  refine Wp.ite (fun h3=> ?_) (fun h3=>Wp.ret (by rw [if_neg h3]))
  rw [if_pos h3]
  refine Wp.bind (fD_ e h1) (fun r q=> ?_);rw [q];exact Wp.ret rfl
theorem tZ_ (e:an_) (t:ByteArray):Wp (fun k=>fz_ k e t) (· =iX_ e t):=by
  unfold fz_ iX_
  refine Wp.bind (bZ_ _) (fun _ q=> ?_);subst q
  simp only [af_,aH_,ea_,d8_]
  refine Wp.ite (fun h1=> ?_) (fun h1=>Wp.ret (by rw [if_neg h1]))
  rw [if_pos h1]
  refine Wp.bif (fun u=> ?_) (fun u=>Wp.ret (by rw [if_neg (by simp [u])]))
  rw [if_pos u]
  refine Wp.ite (fun h2=>Wp.ret (by rw [if_pos h2])) (fun h2=> ?_)
  rw [if_neg h2]
  refine Wp.bind (vz_ _ _) (fun _ q=> ?_);subst q
  refine Wp.ite (fun h3=> ?_) (fun h3=>Wp.ret (by rw [if_neg h3]))
  rw [if_pos h3]
  refine Wp.bind (eH_ e h1) (fun r q=> ?_);rw [q];exact Wp.ret rfl
end Km.X
namespace Km.X
open Go Km
set_option linter.unusedVariables false
set_option linter.unusedSimpArgs false
theorem qI_:∀(t:List ag_) (i:Nat) (b:Int),∀q∈(fy_ i b t).2,b+i≤q∧q<b+i+t.length
  | [],i,b,q,h=>by simp [fy_] at h
  | x::t,i,b,q,h=>by
    simp only [fy_] at h
    split at h
    ·simp at h
    ·simp only [List.length_cons]
     rcases List.mem_append.mp h with h | h
     ·split at h
      ·simp only [List.mem_singleton] at h;omega
      ·simp at h
     ·have:=qI_ t (i+1) b q h
      omega
def sx_ (l:List ag_) (i:Int):aE_:=match l[i.toNat]? with | some x=>x.Part | none=>⟨noB,false⟩
def oc_ (n li p b:Int) (l:List ag_) (q:Int):ad_:=⟨2,n,li,p,0,0,q,(sx_ l (q-b)).Last,(sx_ l (q-b)).Text⟩
def eB_ (e:an_):al_×List Int:=if e.Peer=0 then (e.Send,[]) else lc_ e.Send
def upS (e:an_):Int:=if e.Since<1000000 then e.Since+1 else e.Since
def gA_ (e:an_):aC_:=if VEnd e then
    (if e.Up=true then
      (if e.Owes=true∨6≤upS e then ⟨0,⟨e.Number,e.Up,e.Life,e.Peer,0,false,(eB_ e).1,e.Take⟩,(eB_ e).2.map (oc_ e.Number e.Life e.Peer (eB_ e).1.Base (eB_ e).1.Items)++[⟨1,e.Number,e.Life,e.Peer,(tkM e.Take).1,(tkM e.Take).2,0,false,noB⟩],noB⟩
      else ⟨0,⟨e.Number,e.Up,e.Life,e.Peer,upS e,e.Owes,(eB_ e).1,e.Take⟩,(eB_ e).2.map (oc_ e.Number e.Life e.Peer (eB_ e).1.Base (eB_ e).1.Items),noB⟩)
    else ⟨0,e,[],noB⟩) else ⟨1,oL_,[],noB⟩
theorem u1_ (x0 x1:Int) (x2:Bool) (x3 x4 x5:Int) (x6:Bool) (x7 x8:Int) (x9 x10:ByteArray) (n:Int) (u:Bool) (li p s:Int) (w:Bool) (b nn:Int) (o:ByteArray) (out:List ad_) (y1:List ag_) (y2:List ai_) (y3:List ByteArray) (y4:List ad_) (it:List ag_) (h:List ai_) (r:List ByteArray) (ho:out.length≤1000):
    Wp (fun k=>dw_ k x0 x1 x2 x3 x4 x5 x6 x7 x8 x9 x10 n u li p s w b nn o out y1 y2 y3 y4 it h r) (· =if w=true∨6≤s then ⟨0,⟨n,u,li,p,0,false,⟨b,it⟩,⟨nn,h,o,r⟩⟩,out++[⟨1,n,li,p,(tkM ⟨nn,h,o,r⟩).1,(tkM ⟨nn,h,o,r⟩).2,0,false,noB⟩],noB⟩ else ⟨0,⟨n,u,li,p,s,w,⟨b,it⟩,⟨nn,h,o,r⟩⟩,out,noB⟩):=by
  refine Wp.step ?_
  simp only [dw_]
  have G:w=true∨6≤s→Wp (fun k=>(dX_ k ⟨nn,h,o,r⟩).bind fun r8=>(app 80 out ([(⟨1,n,li,p,r8.1,r8.2,0,false,(⟨#[]⟩:ByteArray)⟩:ad_)]:List ad_)).bind fun l9=>
   b9_ k x0 x1 x2 x3 x4 x5 x6 x7 x8 x9 x10 n u li p 0 false b nn o l9 y1 y2 y3 y4 it h r) (· =if w=true∨6≤s then ⟨0,⟨n,u,li,p,0,false,⟨b,it⟩,⟨nn,h,o,r⟩⟩,out++[⟨1,n,li,p,(tkM ⟨nn,h,o,r⟩).1,(tkM ⟨nn,h,o,r⟩).2,0,false,noB⟩],noB⟩ else ⟨0,⟨n,u,li,p,s,w,⟨b,it⟩,⟨nn,h,o,r⟩⟩,out,noB⟩):=fun g=>by
    rw [if_pos g]
    refine Wp.bind (qo_ _) (fun _ q=> ?_);subst q
    refine Wp.opt (ba_ (by simp;omega)) ?_
    refine Wp.step ?_
    simp only [b9_]
    exact Wp.ret rfl
  refine Wp.bif (fun g=>G (.inl g)) (fun g=> ?_)
  simp only [af_]
  refine Wp.ite (fun g2=>G (.inr g2)) (fun g2=> ?_)
  rw [if_neg (by rw [g];intro h;rcases h with h | h;cases h;omega)]
  refine Wp.step ?_
  simp only [b9_]
  exact Wp.ret (by rw [g])
theorem ue_ (x0 x1:Int) (x2:Bool) (x3 x4 x5:Int) (x6:Bool) (x7 x8:Int) (x9 x10:ByteArray) (n:Int) (u:Bool) (li p s:Int) (w:Bool) (b c nn:Int) (o:ByteArray) (y1:List ag_) (y2:List ai_) (y3:List ByteArray) (y4:List ad_) (it:List ag_) (h:List ai_) (r:List ByteArray) (hit:it.length≤60) (hb:0≤b∧b≤1000000):∀(t pre:List Int) (out:List ad_),(pre++t).length≤60→out.length≤pre.length→(∀q∈t,b≤q∧q<b+it.length)→
    Wp (fun k=>cR_ k (pre.length:Int) x0 x1 x2 x3 x4 x5 x6 x7 x8 x9 x10 n u li p s w c nn o out b (pre++t) y1 y2 y3 y4 it h r) (· =if w=true∨6≤s then ⟨0,⟨n,u,li,p,0,false,⟨c,it⟩,⟨nn,h,o,r⟩⟩,(out++t.map (oc_ n li p b it))++[⟨1,n,li,p,(tkM ⟨nn,h,o,r⟩).1,(tkM ⟨nn,h,o,r⟩).2,0,false,noB⟩],noB⟩ else ⟨0,⟨n,u,li,p,s,w,⟨c,it⟩,⟨nn,h,o,r⟩⟩,out++t.map (oc_ n li p b it),noB⟩)
  | [],pre,out,hl,ho,hq=>by
    refine Wp.step ?_
    simp only [cR_,List.append_nil,List.map_nil] at*
    simp (disch:=omega) only [af_,if_neg]
    exact u1_ _ _ _ _ _ _ _ _ _ _ _ _ _ _ _ _ _ _ _ _ _ _ _ _ _ _ _ _ (by omega)
  | q::t,pre,out,hl,ho,hq=>by
    refine Wp.step ?_
    have hl':=hl
    simp only [List.length_append,List.length_cons] at hl
    have hq1:=hq q (List.mem_cons_self ..)
    simp only [cR_]
    simp only [af_,a3_,if_true,aA_,by_,Option.bind_some]
    rw [aM_ (n:=q-b) (by omega) (by omega)]
    have hlt:(q-b).toNat<it.length:=by omega
    have e1:idx it (q-b)=some it[(q-b).toNat]:=by
      have:=zQ_ hlt
      rwa [Int.toNat_of_nonneg (by omega)] at this
    have e2:it[(q-b).toNat]? =some it[(q-b).toNat]:=List.getElem?_eq_getElem hlt
    have e3:sx_ it (q-b)=it[(q-b).toNat].Part:=by unfold sx_;rw [e2]
    simp only [e1,e2,Option.bind_some]
    rw [←e3]
    refine Wp.opt (ba_ (by simp;omega)) ?_
    simp (disch:=omega) only [aM_]
    have ih:=ue_ x0 x1 x2 x3 x4 x5 x6 x7 x8 x9 x10 n u li p s w b c nn o y1 y2 y3 y4 it h r hit hb t (pre++[q]) (out++[oc_ n li p b it q]) (by simpa using hl') (by simp;omega) (fun q' h'=>hq q' (List.mem_cons_of_mem _ h'))
    rw [←aI_,←aW_] at ih
    simp only [List.append_assoc,List.cons_append,List.nil_append] at ih
    simp only [List.map_cons,List.append_assoc,List.cons_append]
    exact ih
theorem tY_ (x0 x1:Int) (x2:Bool) (x3 x4 x5:Int) (x6:Bool) (x7 x8:Int) (x9 x10:ByteArray) (cd n:Int) (u:Bool) (li p s:Int) (w:Bool) (b nn:Int) (o tx:ByteArray) (out:List ad_) (y1:List ag_) (y2:List ai_) (y3:List ByteArray) (y4:List ad_) (it:List ag_) (h:List ai_) (r:List ByteArray) (ho:out.length≤1000):
    Wp (fun k=>dq_ k x0 x1 x2 x3 x4 x5 x6 x7 x8 x9 x10 cd n u li p s w b nn o tx y1 y2 y3 y4 it h r out) (· =if w=true∨6≤s then ⟨cd,⟨n,u,li,p,0,false,⟨b,it⟩,⟨nn,h,o,r⟩⟩,out++[⟨1,n,li,p,(tkM ⟨nn,h,o,r⟩).1,(tkM ⟨nn,h,o,r⟩).2,0,false,noB⟩],tx⟩ else ⟨cd,⟨n,u,li,p,s,w,⟨b,it⟩,⟨nn,h,o,r⟩⟩,out,tx⟩):=by
  refine Wp.step ?_
  simp only [dq_]
  have G:w=true∨6≤s→Wp (fun k=>(dY_ k ⟨nn,h,o,r⟩).bind fun r8=>(app 80 out ([(⟨1,n,li,p,r8.1,r8.2,0,false,(⟨#[]⟩:ByteArray)⟩:ad_)]:List ad_)).bind fun l9=>
   cb_ k x0 x1 x2 x3 x4 x5 x6 x7 x8 x9 x10 cd n u li p 0 false b nn o tx y1 y2 y3 y4 it h r l9) (· =if w=true∨6≤s then ⟨cd,⟨n,u,li,p,0,false,⟨b,it⟩,⟨nn,h,o,r⟩⟩,out++[⟨1,n,li,p,(tkM ⟨nn,h,o,r⟩).1,(tkM ⟨nn,h,o,r⟩).2,0,false,noB⟩],tx⟩ else ⟨cd,⟨n,u,li,p,s,w,⟨b,it⟩,⟨nn,h,o,r⟩⟩,out,tx⟩):=fun g=>by
    rw [if_pos g]
    refine Wp.bind (p8_ _) (fun _ q=> ?_);subst q
    refine Wp.opt (ba_ (by simp;omega)) ?_
    refine Wp.step ?_
    simp only [cb_]
    exact Wp.ret rfl
  refine Wp.bif (fun g=>G (.inl g)) (fun g=> ?_)
  simp only [af_]
  refine Wp.ite (fun g2=>G (.inr g2)) (fun g2=> ?_)
  rw [if_neg (by rw [g];intro h;rcases h with h | h;cases h;omega)]
  refine Wp.step ?_
  simp only [cb_]
  exact Wp.ret (by rw [g])
theorem uK_ (x0 x1:Int) (x2:Bool) (x3 x4 x5:Int) (x6:Bool) (x7 x8:Int) (x9 x10:ByteArray) (cd n:Int) (u:Bool) (li p s:Int) (w:Bool) (b nn:Int) (o tx:ByteArray) (y1:List ag_) (y2:List ai_) (y3:List ByteArray) (y4:List ad_) (it:List ag_) (h:List ai_) (r:List ByteArray) (hit:it.length≤60) (hb:0≤b∧b≤1000000):∀(t pre:List Int) (out:List ad_),(pre++t).length≤60→out.length≤pre.length→(∀q∈t,b≤q∧q<b+it.length)→
    Wp (fun k=>cM_ k ((pre++t).length:Int) (pre.length:Int) x0 x1 x2 x3 x4 x5 x6 x7 x8 x9 x10 cd n u li p s w b nn o tx (pre++t) y1 y2 y3 y4 it h r out) (· =if w=true∨6≤s then ⟨cd,⟨n,u,li,p,0,false,⟨b,it⟩,⟨nn,h,o,r⟩⟩,(out++t.map (oc_ n li p b it))++[⟨1,n,li,p,(tkM ⟨nn,h,o,r⟩).1,(tkM ⟨nn,h,o,r⟩).2,0,false,noB⟩],tx⟩ else ⟨cd,⟨n,u,li,p,s,w,⟨b,it⟩,⟨nn,h,o,r⟩⟩,out++t.map (oc_ n li p b it),tx⟩)
  | [],pre,out,hl,ho,hq=>by
    refine Wp.step ?_
    simp only [cM_,List.append_nil,List.map_nil] at*
    simp (disch:=omega) only [af_,if_neg]
    exact tY_ _ _ _ _ _ _ _ _ _ _ _ _ _ _ _ _ _ _ _ _ _ _ _ _ _ _ _ _ _ _ (by omega)
  | q::t,pre,out,hl,ho,hq=>by
    refine Wp.step ?_
    have hl':=hl
    simp only [List.length_append,List.length_cons] at hl
    have hq1:=hq q (List.mem_cons_self ..)
    simp only [cM_]
    simp only [af_,a3_,if_true,aA_,by_,Option.bind_some]
    rw [aM_ (n:=q-b) (by omega) (by omega)]
    have hlt:(q-b).toNat<it.length:=by omega
    have e1:idx it (q-b)=some it[(q-b).toNat]:=by
      have:=zQ_ hlt
      rwa [Int.toNat_of_nonneg (by omega)] at this
    have e2:it[(q-b).toNat]? =some it[(q-b).toNat]:=List.getElem?_eq_getElem hlt
    have e3:sx_ it (q-b)=it[(q-b).toNat].Part:=by unfold sx_;rw [e2]
    simp only [e1,e2,Option.bind_some]
    rw [←e3]
    refine Wp.opt (ba_ (by simp;omega)) ?_
    simp (disch:=omega) only [aM_]
    have ih:=uK_ x0 x1 x2 x3 x4 x5 x6 x7 x8 x9 x10 cd n u li p s w b nn o tx y1 y2 y3 y4 it h r hit hb t (pre++[q]) (out++[oc_ n li p b it q]) (by simpa using hl') (by simp;omega) (fun q' h'=>hq q' (List.mem_cons_of_mem _ h'))
    rw [←aI_,←aW_] at ih
    simp only [List.append_assoc,List.cons_append,List.nil_append] at ih
    simp only [List.map_cons,List.append_assoc,List.cons_append]
    exact ih
theorem qc_ (s:al_) (h:VSend s):∀q∈(lc_ s).2,(lc_ s).1.Base≤q∧q<(lc_ s).1.Base+(lc_ s).1.Items.length:=by
  unfold lc_
  rw [if_pos h]
  intro q hq
  have:=qI_ s.Items 0 s.Base q hq
  have e:=(s4_ s.Items 0 s.Base h.2.2.2).2.1
  simp only
  rw [e];omega
theorem nJ_ (e:an_):Wp (fun k=>gT_ k e) (· =gA_ e):=by
  unfold gT_ gA_
  refine Wp.bind (bW_ _) (fun _ q=> ?_);subst q
  simp only [af_,aH_]
  refine Wp.ite (fun h1=> ?_) (fun h1=>Wp.ret (by rw [if_neg h1]))
  rw [if_pos h1]
  refine Wp.bind (fD_ e h1) (fun r q=> ?_);rw [q]
  refine Wp.bif (fun u=> ?_) (fun u=>Wp.ret (by rw [if_neg (by simp [u])]))
  rw [if_pos u]
  have hS:=h1.2.2.2.1
  have M:∀s:Int,s=upS e→Wp (fun k=>dR_ k 0 0 false 0 0 0 false 0 0 (⟨#[]⟩:ByteArray) (⟨#[]⟩:ByteArray) e.Number e.Up e.Life e.Peer s e.Owes e.Send.Base e.Take.Next e.Take.Open ([]:List ad_) ([]:List ag_) ([]:List ai_) ([]:List ByteArray) ([]:List ad_) e.Send.Items e.Take.Held e.Take.Ready) (· =if e.Owes=true∨6≤upS e then ⟨0,⟨e.Number,e.Up,e.Life,e.Peer,0,false,(eB_ e).1,e.Take⟩,(eB_ e).2.map (oc_ e.Number e.Life e.Peer (eB_ e).1.Base (eB_ e).1.Items)++[⟨1,e.Number,e.Life,e.Peer,(tkM e.Take).1,(tkM e.Take).2,0,false,noB⟩],noB⟩
   else ⟨0,⟨e.Number,e.Up,e.Life,e.Peer,upS e,e.Owes,(eB_ e).1,e.Take⟩,(eB_ e).2.map (oc_ e.Number e.Life e.Peer (eB_ e).1.Base (eB_ e).1.Items),noB⟩):=fun s hs=>by
    subst hs
    refine Wp.step ?_
    simp only [dR_,d8_]
    unfold eB_
    refine Wp.ite (fun h2=> ?_) (fun h2=> ?_)
    ·rw [if_pos h2]
     exact u1_ _ _ _ _ _ _ _ _ _ _ _ _ _ _ _ _ _ _ _ _ _ _ _ _ _ _ _ _ (by simp)
    ·rw [if_neg h2]
     refine Wp.bind (v8_ _) (fun _ q=> ?_);subst q
     obtain ⟨v1,v2⟩:=sL_ e.Send
     exact ue_ _ _ _ _ _ _ _ _ _ _ _ _ _ _ _ _ _ _ _ _ _ _ _ _ _ _ _ _ v1.1 v1.2.1 (lc_ e.Send).2 [] [] (by simpa using v2) (by simp) (qc_ e.Send h1.2.2.2.2.1)
  refine Wp.ite (fun h2=>M _ ?_) (fun h2=>M _ ?_)
  ·rw [aM_ (by omega) (by omega)];unfold upS;rw [if_pos h2]
  ·unfold upS;rw [if_neg h2]
theorem nT_ (e:an_):Wp (fun k=>gH_ k e) (· =gA_ e):=by
  unfold gH_ gA_
  refine Wp.bind (bZ_ _) (fun _ q=> ?_);subst q
  simp only [af_,aH_]
  refine Wp.ite (fun h1=> ?_) (fun h1=>Wp.ret (by rw [if_neg h1]))
  rw [if_pos h1]
  refine Wp.bind (eH_ e h1) (fun r q=> ?_);rw [q]
  refine Wp.bif (fun u=> ?_) (fun u=>Wp.ret (by rw [if_neg (by simp [u])]))
  rw [if_pos u]
  have hS:=h1.2.2.2.1
  have M:∀s:Int,s=upS e→Wp (fun k=>dW_ k 0 0 false 0 0 0 false 0 0 (⟨#[]⟩:ByteArray) (⟨#[]⟩:ByteArray) 0 e.Number e.Up e.Life e.Peer s e.Owes e.Send.Base e.Take.Next e.Take.Open (⟨#[]⟩:ByteArray) ([]:List ag_) ([]:List ai_) ([]:List ByteArray) ([]:List ad_) e.Send.Items e.Take.Held e.Take.Ready ([]:List ad_)) (· =if e.Owes=true∨6≤upS e then ⟨0,⟨e.Number,e.Up,e.Life,e.Peer,0,false,(eB_ e).1,e.Take⟩,(eB_ e).2.map (oc_ e.Number e.Life e.Peer (eB_ e).1.Base (eB_ e).1.Items)++[⟨1,e.Number,e.Life,e.Peer,(tkM e.Take).1,(tkM e.Take).2,0,false,noB⟩],noB⟩
   else ⟨0,⟨e.Number,e.Up,e.Life,e.Peer,upS e,e.Owes,(eB_ e).1,e.Take⟩,(eB_ e).2.map (oc_ e.Number e.Life e.Peer (eB_ e).1.Base (eB_ e).1.Items),noB⟩):=fun s hs=>by
    subst hs
    refine Wp.step ?_
    simp only [dW_,d8_]
    unfold eB_
    refine Wp.ite (fun h2=> ?_) (fun h2=> ?_)
    ·rw [if_pos h2]
     exact tY_ _ _ _ _ _ _ _ _ _ _ _ _ _ _ _ _ _ _ _ _ _ _ _ _ _ _ _ _ _ _ (by simp)
    ·rw [if_neg h2]
     refine Wp.bind (wJ_ _) (fun _ q=> ?_);subst q
     obtain ⟨v1,v2⟩:=sL_ e.Send
     exact uK_ _ _ _ _ _ _ _ _ _ _ _ _ _ _ _ _ _ _ _ _ _ _ _ _ _ _ _ _ _ v1.1 v1.2.1 (lc_ e.Send).2 [] [] (by simpa using v2) (by simp) (qc_ e.Send h1.2.2.2.2.1)
  refine Wp.ite (fun h2=>M _ ?_) (fun h2=>M _ ?_)
  ·rw [aM_ (by omega) (by omega)];unfold upS;rw [if_pos h2]
  ·unfold upS;rw [if_neg h2]
theorem Aq_ (e:an_) (h:VEnd e):VSend (eB_ e).1∧(eB_ e).2.length≤60:=by
  unfold eB_;split
  ·exact ⟨h.2.2.2.2.1,by simp⟩
  ·exact sL_ _
end Km.X
