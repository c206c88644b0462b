/- A part of the proof of FnExactCalm: plain laws of these functions. There is no condition. -/
import Derived.Test.YtgffmpjadffjkaaGreatKmAm4
import Derived.Test.YtgffmpjadffjkaaGreatKxDef1
import Derived.Test.YtgffmpjadffjkaaGreatKxDef2
namespace Km.X
open Go Km
set_option linter.unusedVariables false
set_option linter.unusedSimpArgs false
def smL {α:Type} (p:α→Prop) (l:List α):Prop:=l.length≤1048576∧∀y∈l,p y
theorem oL_ (k:Int) (a b:Int):k+a+b=k+(a+b):=by omega
def se_ (x:aA_):Prop:=x.Text.size≤1048576
def jk_ (x:ah_):Prop:=se_ x.Part
def i7_ (x:ai_):Prop:=se_ x.Part
def lE_ (x:am_):Prop:=smL jk_ x.Items
def l5_ (x:al_):Prop:=smL i7_ x.Held∧x.Open.size≤1048576∧smL (fun s:ByteArray=>s.size≤1048576) x.Ready
theorem zn_ (x:ah_) (h:jk_ x):Wp (fun k=>kO_ k x) (· =x):=Wp.ret rfl
theorem yp_ (x:ai_) (h:i7_ x):Wp (fun k=>kM_ k x) (· =x):=Wp.ret rfl
theorem xX_ (xs:List ah_) (h:smL jk_ xs):Wp (fun k=>gN_ k xs) (· =xs):=by
  unfold gN_
  obtain ⟨hl,hp⟩:=h
  refine Wp.opt (x:=xs.length) (by rw [if_pos rfl];exact la_ (by omega)) ?_
  refine Wp.loop (n:=xs.length) (f:=fun k i (ys:List ah_)=>cZ_ k xs (i:Int) ys) (Inv:=fun i ys=>ys.length=xs.length∧ys.take i=xs.take i) (Q:=(· =xs)) ?_ ?_ xs.length 0 _ (by omega) ⟨by simp,by simp⟩
  ·rintro i ys hi ⟨h1,h2⟩ ih
   refine Wp.step ?_
   simp only [cZ_]
   simp (disch:=omega) only [af_,if_pos,r5_,A6_,Option.bind_some,aF_,hi_,Int.ofNat_lt]
   refine Wp.bind (zn_ _ (hp _ (List.getElem_mem hi))) (fun _ e=> ?_);subst e
   refine ih _ ⟨by simpa using h1, ?_⟩
   rw [Int.toNat_natCast,List.take_add_one,List.take_add_one,List.getElem?_set_self (by omega),List.take_set,List.set_eq_of_length_le (by simp;omega),h2,List.getElem?_eq_getElem hi]
  ·rintro ys ⟨h1,h2⟩
   refine Wp.step ?_
   simp only [cZ_]
   simp (disch:=omega) only [af_,if_neg]
   rw [List.take_of_length_le (by omega),List.take_of_length_le (by omega)] at h2
   exact Wp.ret h2
theorem xW_ (xs:List ai_) (h:smL i7_ xs):Wp (fun k=>hg_ k xs) (· =xs):=by
  unfold hg_
  obtain ⟨hl,hp⟩:=h
  refine Wp.opt (x:=xs.length) (by rw [if_pos rfl];exact la_ (by omega)) ?_
  refine Wp.loop (n:=xs.length) (f:=fun k i (ys:List ai_)=>cX_ k xs (i:Int) ys) (Inv:=fun i ys=>ys.length=xs.length∧ys.take i=xs.take i) (Q:=(· =xs)) ?_ ?_ xs.length 0 _ (by omega) ⟨by simp,by simp⟩
  ·rintro i ys hi ⟨h1,h2⟩ ih
   refine Wp.step ?_
   simp only [cX_]
   simp (disch:=omega) only [af_,if_pos,r5_,A6_,Option.bind_some,aF_,hi_,Int.ofNat_lt]
   refine Wp.bind (yp_ _ (hp _ (List.getElem_mem hi))) (fun _ e=> ?_);subst e
   refine ih _ ⟨by simpa using h1, ?_⟩
   rw [Int.toNat_natCast,List.take_add_one,List.take_add_one,List.getElem?_set_self (by omega),List.take_set,List.set_eq_of_length_le (by simp;omega),h2,List.getElem?_eq_getElem hi]
  ·rintro ys ⟨h1,h2⟩
   refine Wp.step ?_
   simp only [cX_]
   simp (disch:=omega) only [af_,if_neg]
   rw [List.take_of_length_le (by omega),List.take_of_length_le (by omega)] at h2
   exact Wp.ret h2
theorem tK_ (xs:List ByteArray) (h:smL (fun s:ByteArray=>s.size≤1048576) xs):Wp (fun k=>fr_ k xs) (· =xs):=by
  unfold fr_
  obtain ⟨hl,hp⟩:=h
  refine Wp.opt (x:=xs.length) (by rw [if_pos rfl];exact la_ (by omega)) ?_
  refine Wp.loop (n:=xs.length) (f:=fun k i (ys:List ByteArray)=>ck_ k xs (i:Int) ys) (Inv:=fun i ys=>ys.length=xs.length∧ys.take i=xs.take i) (Q:=(· =xs)) ?_ ?_ xs.length 0 _ (by omega) ⟨by simp,by simp⟩
  ·rintro i ys hi ⟨h1,h2⟩ ih
   refine Wp.step ?_
   simp only [ck_]
   simp (disch:=omega) only [af_,if_pos,r5_,A6_,Option.bind_some,aF_,hi_,Int.ofNat_lt]
   refine ih _ ⟨by simpa using h1, ?_⟩
   rw [Int.toNat_natCast,List.take_add_one,List.take_add_one,List.getElem?_set_self (by omega),List.take_set,List.set_eq_of_length_le (by simp;omega),h2,List.getElem?_eq_getElem hi]
  ·rintro ys ⟨h1,h2⟩
   refine Wp.step ?_
   simp only [ck_]
   simp (disch:=omega) only [af_,if_neg]
   rw [List.take_of_length_le (by omega),List.take_of_length_le (by omega)] at h2
   exact Wp.ret h2
theorem zq_ (x:am_) (h:lE_ x):Wp (fun k=>ia_ k x) (· =x):=by
  unfold lE_ at h
  have h0:=h
  unfold ia_
  refine Wp.bind (xX_ _ h0) (fun _ e=> ?_);subst e
  exact Wp.ret rfl
theorem zk_ (x:al_) (h:l5_ x):Wp (fun k=>hP_ k x) (· =x):=by
  unfold l5_ at h
  obtain ⟨h0,h1,h2⟩:=h
  unfold hP_
  refine Wp.bind (xW_ _ h0) (fun _ e=> ?_);subst e
  refine Wp.bind (tK_ _ h2) (fun _ e=> ?_);subst e
  exact Wp.ret rfl
theorem uT_ (x:aA_) (hw:jm_ x) (a:Int) (ha:0≤a∧a≤1048576):Wp (fun k=>gp_ k x a) (fun r=>r≤1048576∧(0≤r→se_ x)):=by
  unfold se_
  unfold jm_ at hw
  unfold gp_
  have h1:x.Text.size≤2^63-1:=by first | exact hw.1 | exact hw.2.2.2.2.2.2.2.2 | exact hw.2.2.2.2 | exact hw.2.2.2
  try simp (disch:=omega) only [aF_,af_]
  refine Wp.ite (fun h=>Wp.ret ⟨by omega,fun h=>by omega⟩) (fun h=>Wp.ret ⟨by omega,fun _=>by omega⟩)
theorem z6_ (x:ah_) (hw:pw_ x) (a:Int) (ha:0≤a∧a≤1048576):Wp (fun k=>hL_ k x a) (fun r=>r≤1048576∧(0≤r→jk_ x)):=by
  unfold jk_
  unfold pw_ at hw
  unfold hL_
  have h1:jm_ x.Part:=by first | exact hw.1 | exact hw.2
  refine Wp.bind (uT_ _ h1 a ha) (fun r hr=> ?_)
  refine Wp.dec (fun h=>Wp.ret ⟨by omega,fun h=>by omega⟩) (fun h=>Wp.ret ⟨hr.1,hr.2⟩)
theorem yy_ (x:ai_) (hw:pe_ x) (a:Int) (ha:0≤a∧a≤1048576):Wp (fun k=>h9_ k x a) (fun r=>r≤1048576∧(0≤r→i7_ x)):=by
  unfold i7_
  unfold pe_ at hw
  unfold h9_
  have h1:jm_ x.Part:=by first | exact hw.1 | exact hw.2
  refine Wp.bind (uT_ _ h1 a ha) (fun r hr=> ?_)
  refine Wp.dec (fun h=>Wp.ret ⟨by omega,fun h=>by omega⟩) (fun h=>Wp.ret ⟨hr.1,hr.2⟩)
theorem ye_ (xs:List ah_) (hw:xs.length≤maxLen∧∀y∈xs,sw_ y) (a:Int) (ha:0≤a∧a≤1048576):Wp (fun k=>gV_ k xs a) (fun r=>r≤1048576∧(0≤r→smL jk_ xs)):=by
  obtain ⟨hl,hp⟩:=hw
  have hl:xs.length≤2^63-1:=hl
  unfold gV_
  try simp (disch:=omega) only [aF_,af_]
  refine Wp.ite (fun h=>Wp.ret ⟨by omega,fun h=>by omega⟩) (fun h=> ?_)
  refine Wp.loop (n:=xs.length) (f:=fun k i (l:Int)=>cR_ k xs l (i:Int)) (Inv:=fun i l=>(0≤l∧l≤1048576)∧∀j (hj:j<xs.length),j<i→jk_ xs[j]) (Q:=fun r=>r≤1048576∧(0≤r→smL jk_ xs)) ?_ ?_ xs.length 0 (a-xs.length) (by omega) ⟨by omega,fun j _ h=>by omega⟩
  ·rintro i l hi ⟨h1,h2⟩ ih
   refine Wp.step ?_
   simp only [cR_]
   simp (disch:=omega) only [af_,if_pos,r5_,Option.bind_some,aF_,hi_]
   refine Wp.bind (z6_ _ (hp _ (List.getElem_mem hi)) l h1) (fun r hr=> ?_)
   refine Wp.ite (fun h=>Wp.ret ⟨by omega,fun h=>by omega⟩) (fun h=> ?_)
   refine ih _ ⟨by omega,fun j hj hji=> ?_⟩
   by_cases e:j=i
   ·subst e;exact hr.2 (by omega)
   ·exact h2 j hj (by omega)
  ·rintro l ⟨h1,h2⟩
   refine Wp.step ?_
   simp only [cR_]
   simp (disch:=omega) only [af_,if_neg]
   refine Wp.ret ⟨by omega,fun _=>⟨by omega,fun y hy=> ?_⟩⟩
   obtain ⟨j,hj,rfl⟩:=List.getElem_of_mem hy
   exact h2 j hj hj
theorem x9_ (xs:List ai_) (hw:xs.length≤maxLen∧∀y∈xs,sR_ y) (a:Int) (ha:0≤a∧a≤1048576):Wp (fun k=>gH_ k xs a) (fun r=>r≤1048576∧(0≤r→smL i7_ xs)):=by
  obtain ⟨hl,hp⟩:=hw
  have hl:xs.length≤2^63-1:=hl
  unfold gH_
  try simp (disch:=omega) only [aF_,af_]
  refine Wp.ite (fun h=>Wp.ret ⟨by omega,fun h=>by omega⟩) (fun h=> ?_)
  refine Wp.loop (n:=xs.length) (f:=fun k i (l:Int)=>cY_ k xs l (i:Int)) (Inv:=fun i l=>(0≤l∧l≤1048576)∧∀j (hj:j<xs.length),j<i→i7_ xs[j]) (Q:=fun r=>r≤1048576∧(0≤r→smL i7_ xs)) ?_ ?_ xs.length 0 (a-xs.length) (by omega) ⟨by omega,fun j _ h=>by omega⟩
  ·rintro i l hi ⟨h1,h2⟩ ih
   refine Wp.step ?_
   simp only [cY_]
   simp (disch:=omega) only [af_,if_pos,r5_,Option.bind_some,aF_,hi_]
   refine Wp.bind (yy_ _ (hp _ (List.getElem_mem hi)) l h1) (fun r hr=> ?_)
   refine Wp.ite (fun h=>Wp.ret ⟨by omega,fun h=>by omega⟩) (fun h=> ?_)
   refine ih _ ⟨by omega,fun j hj hji=> ?_⟩
   by_cases e:j=i
   ·subst e;exact hr.2 (by omega)
   ·exact h2 j hj (by omega)
  ·rintro l ⟨h1,h2⟩
   refine Wp.step ?_
   simp only [cY_]
   simp (disch:=omega) only [af_,if_neg]
   refine Wp.ret ⟨by omega,fun _=>⟨by omega,fun y hy=> ?_⟩⟩
   obtain ⟨j,hj,rfl⟩:=List.getElem_of_mem hy
   exact h2 j hj hj
theorem uf_ (xs:List ByteArray) (hw:xs.length≤maxLen∧∀y∈xs,z3_ y) (a:Int) (ha:0≤a∧a≤1048576):Wp (fun k=>fv_ k xs a) (fun r=>r≤1048576∧(0≤r→smL (fun s:ByteArray=>s.size≤1048576) xs)):=by
  obtain ⟨hl,hp⟩:=hw
  have hl:xs.length≤2^63-1:=hl
  unfold fv_
  try simp (disch:=omega) only [aF_,af_]
  refine Wp.ite (fun h=>Wp.ret ⟨by omega,fun h=>by omega⟩) (fun h=> ?_)
  refine Wp.loop (n:=xs.length) (f:=fun k i (l:Int)=>cl_ k xs l (i:Int)) (Inv:=fun i l=>(0≤l∧l≤1048576)∧∀j (hj:j<xs.length),j<i→(fun s:ByteArray=>s.size≤1048576) xs[j]) (Q:=fun r=>r≤1048576∧(0≤r→smL (fun s:ByteArray=>s.size≤1048576) xs)) ?_ ?_ xs.length 0 (a-xs.length) (by omega) ⟨by omega,fun j _ h=>by omega⟩
  ·rintro i l hi ⟨h1,h2⟩ ih
   refine Wp.step ?_
   simp only [cl_]
   simp (disch:=omega) only [af_,if_pos,r5_,Option.bind_some,aF_,hi_]
   have h3:xs[i].size≤2^63-1:=hp _ (List.getElem_mem hi)
   try simp (disch:=omega) only [aF_]
   refine Wp.ite (fun h=>Wp.ret ⟨by omega,fun h=>by omega⟩) (fun h=> ?_)
   refine ih _ ⟨by omega,fun j hj hji=> ?_⟩
   by_cases e:j=i
   ·subst e;show xs[j].size≤1048576;omega
   ·exact h2 j hj (by omega)
  ·rintro l ⟨h1,h2⟩
   refine Wp.step ?_
   simp only [cl_]
   simp (disch:=omega) only [af_,if_neg]
   refine Wp.ret ⟨by omega,fun _=>⟨by omega,fun y hy=> ?_⟩⟩
   obtain ⟨j,hj,rfl⟩:=List.getElem_of_mem hy
   exact h2 j hj hj
theorem zL_ (x:am_) (hw:sZ_ x) (a:Int) (ha:0≤a∧a≤1048576):Wp (fun k=>hZ_ k x a) (fun r=>r≤1048576∧(0≤r→lE_ x)):=by
  unfold lE_
  obtain ⟨w0,w1⟩:=hw
  unfold hZ_
  refine Wp.bind (ye_ _ w1 a (by omega)) (fun r0 e0=> ?_)
  first | refine Wp.dec (fun h=>Wp.ret ⟨by omega,fun h=>by omega⟩) (fun h0=>Wp.ret ⟨by omega,fun _=> ?_⟩) | refine Wp.ite (fun h=>Wp.ret ⟨by omega,fun h=>by omega⟩) (fun h0=>Wp.ret ⟨by omega,fun _=> ?_⟩)
  exact e0.2 (by omega)
theorem z5_ (x:al_) (hw:sQ_ x) (a:Int) (ha:0≤a∧a≤1048576):Wp (fun k=>hQ_ k x a) (fun r=>r≤1048576∧(0≤r→l5_ x)):=by
  unfold l5_
  obtain ⟨w0,w1,w2,w3⟩:=hw
  unfold hQ_
  refine Wp.bind (x9_ _ w1 a (by omega)) (fun r0 e0=> ?_)
  first | refine Wp.dec (fun h=>Wp.ret ⟨by omega,fun h=>by omega⟩) (fun h0=> ?_) | refine Wp.ite (fun h=>Wp.ret ⟨by omega,fun h=>by omega⟩) (fun h0=> ?_)
  have s1:x.Open.size≤2^63-1:=w2
  try simp (disch:=omega) only [aF_,af_]
  refine Wp.ite (fun h=>Wp.ret ⟨by omega,fun h=>by omega⟩) (fun h1=> ?_)
  refine Wp.bind (uf_ _ w3 (r0-(x.Open.size:Int)) (by omega)) (fun r2 e2=> ?_)
  first | refine Wp.dec (fun h=>Wp.ret ⟨by omega,fun h=>by omega⟩) (fun h2=>Wp.ret ⟨by omega,fun _=> ?_⟩) | refine Wp.ite (fun h=>Wp.ret ⟨by omega,fun h=>by omega⟩) (fun h2=>Wp.ret ⟨by omega,fun _=> ?_⟩)
  exact ⟨e0.2 (by omega),(by omega),e2.2 (by omega)⟩
theorem vd_ (x:aA_) (h:se_ x):Wp (fun k=>gz_ k x x) (· =true):=by
  unfold gz_
  unfold se_ at h
  have h0:=h
  simp only [aF_,af_,aD_,eK_,d4_,cm_,cL_,cond_true,cond_false,Option.bind_some,Bool.not_true,Bool.not_false,if_true,if_false]
  exact Wp.ret rfl
theorem yU_ (x:ah_) (h:jk_ x):Wp (fun k=>hW_ k x x) (· =true):=by
  unfold hW_
  unfold jk_ at h
  have h0:=h
  simp only [aF_,af_,aD_,eK_,d4_,cm_,cL_,cond_true,cond_false,Option.bind_some,Bool.not_true,Bool.not_false,if_true,if_false]
  refine Wp.bind (vd_ _ h0) (fun _ e=> ?_);subst e
  simp only [aF_,af_,aD_,eK_,d4_,cm_,cL_,cond_true,cond_false,Option.bind_some,Bool.not_true,Bool.not_false,if_true,if_false]
  exact Wp.ret rfl
theorem zo_ (x:ai_) (h:i7_ x):Wp (fun k=>hJ_ k x x) (· =true):=by
  unfold hJ_
  unfold i7_ at h
  have h0:=h
  simp only [aF_,af_,aD_,eK_,d4_,cm_,cL_,cond_true,cond_false,Option.bind_some,Bool.not_true,Bool.not_false,if_true,if_false]
  refine Wp.bind (vd_ _ h0) (fun _ e=> ?_);subst e
  simp only [aF_,af_,aD_,eK_,d4_,cm_,cL_,cond_true,cond_false,Option.bind_some,Bool.not_true,Bool.not_false,if_true,if_false]
  exact Wp.ret rfl
theorem xt_ (xs:List ah_) (h:smL jk_ xs):Wp (fun k=>g1_ k xs xs) (· =true):=by
  unfold g1_
  obtain ⟨hl,hp⟩:=h
  simp only [d4_,if_true]
  refine Wp.loop (n:=xs.length) (f:=fun k i (_:Unit)=>cN_ k xs xs (i:Int)) (Inv:=fun _ _=>True) (Q:=(· =true)) ?_ ?_ xs.length 0 () (by omega) trivial
  ·rintro i _ hi _ ih
   refine Wp.step ?_
   simp only [cN_]
   simp (disch:=omega) only [af_,if_pos,r5_,Option.bind_some,aF_,hi_]
   refine Wp.bind (yU_ _ (hp _ (List.getElem_mem hi))) (fun _ e=> ?_);subst e
   simp only [aF_,af_,aD_,eK_,d4_,cm_,cL_,cond_true,cond_false,Option.bind_some,Bool.not_true,Bool.not_false,if_true,if_false]
   exact ih () trivial
  ·rintro _ _
   refine Wp.step ?_
   simp only [cN_]
   simp (disch:=omega) only [af_,if_neg]
   exact Wp.ret rfl
theorem xJ_ (xs:List ai_) (h:smL i7_ xs):Wp (fun k=>hb_ k xs xs) (· =true):=by
  unfold hb_
  obtain ⟨hl,hp⟩:=h
  simp only [d4_,if_true]
  refine Wp.loop (n:=xs.length) (f:=fun k i (_:Unit)=>cP_ k xs xs (i:Int)) (Inv:=fun _ _=>True) (Q:=(· =true)) ?_ ?_ xs.length 0 () (by omega) trivial
  ·rintro i _ hi _ ih
   refine Wp.step ?_
   simp only [cP_]
   simp (disch:=omega) only [af_,if_pos,r5_,Option.bind_some,aF_,hi_]
   refine Wp.bind (zo_ _ (hp _ (List.getElem_mem hi))) (fun _ e=> ?_);subst e
   simp only [aF_,af_,aD_,eK_,d4_,cm_,cL_,cond_true,cond_false,Option.bind_some,Bool.not_true,Bool.not_false,if_true,if_false]
   exact ih () trivial
  ·rintro _ _
   refine Wp.step ?_
   simp only [cP_]
   simp (disch:=omega) only [af_,if_neg]
   exact Wp.ret rfl
theorem uZ_ (xs:List ByteArray) (h:smL (fun s:ByteArray=>s.size≤1048576) xs):Wp (fun k=>fp_ k xs xs) (· =true):=by
  unfold fp_
  obtain ⟨hl,hp⟩:=h
  simp only [d4_,if_true]
  refine Wp.loop (n:=xs.length) (f:=fun k i (_:Unit)=>ca_ k xs xs (i:Int)) (Inv:=fun _ _=>True) (Q:=(· =true)) ?_ ?_ xs.length 0 () (by omega) trivial
  ·rintro i _ hi _ ih
   refine Wp.step ?_
   simp only [ca_]
   simp (disch:=omega) only [af_,if_pos,r5_,Option.bind_some,aF_,hi_]
   simp only [aF_,af_,aD_,eK_,d4_,cm_,cL_,cond_true,cond_false,Option.bind_some,Bool.not_true,Bool.not_false,if_true,if_false]
   exact ih () trivial
  ·rintro _ _
   refine Wp.step ?_
   simp only [ca_]
   simp (disch:=omega) only [af_,if_neg]
   exact Wp.ret rfl
theorem zB_ (x:am_) (h:lE_ x):Wp (fun k=>hX_ k x x) (· =true):=by
  unfold hX_
  unfold lE_ at h
  have h0:=h
  simp only [aF_,af_,aD_,eK_,d4_,cm_,cL_,cond_true,cond_false,Option.bind_some,Bool.not_true,Bool.not_false,if_true,if_false]
  refine Wp.bind (xt_ _ h0) (fun _ e=> ?_);subst e
  simp only [aF_,af_,aD_,eK_,d4_,cm_,cL_,cond_true,cond_false,Option.bind_some,Bool.not_true,Bool.not_false,if_true,if_false]
  exact Wp.ret rfl
theorem yK_ (x:al_) (h:l5_ x):Wp (fun k=>ib_ k x x) (· =true):=by
  unfold ib_
  unfold l5_ at h
  obtain ⟨h0,h1,h2⟩:=h
  simp only [aF_,af_,aD_,eK_,d4_,cm_,cL_,cond_true,cond_false,Option.bind_some,Bool.not_true,Bool.not_false,if_true,if_false]
  refine Wp.bind (xJ_ _ h0) (fun _ e=> ?_);subst e
  simp only [aF_,af_,aD_,eK_,d4_,cm_,cL_,cond_true,cond_false,Option.bind_some,Bool.not_true,Bool.not_false,if_true,if_false]
  refine Wp.bind (uZ_ _ h2) (fun _ e=> ?_);subst e
  simp only [aF_,af_,aD_,eK_,d4_,cm_,cL_,cond_true,cond_false,Option.bind_some,Bool.not_true,Bool.not_false,if_true,if_false]
  exact Wp.ret rfl
end Km.X
namespace Km.X
open Go Km
set_option linter.unusedVariables false
set_option linter.unusedSimpArgs false
theorem ll_:∀(d:Nat) (k:Int) (s:ByteArray),k<10^d→k≤9223372036854775807→d+s.size≤1000→Wp (fun n=>cB_ n k s) (fun _=>True)
  | 0,k,s,hk,hb,hs=>by
    refine Wp.step ?_
    simp only [cB_]
    have hk0:¬(k>0):=by simp at hk;omega
    simp only [af_,if_neg hk0,bz_ (x:=⟨#[109]⟩) (y:=s) (by show (1:Nat)+s.size≤_;omega),Option.bind_some]
    exact Wp.ret trivial
  | d+1,k,s,hk,hb,hs=>by
    refine Wp.step ?_
    simp only [cB_,af_]
    refine Wp.ite (fun h=> ?_) (fun h=> ?_)
    ·have hs1:jF_ (jV_ [IntKind.wrap .u8 (IntKind.wrap .i64 (48+k%10))]) s=some _:=bz_ (by rw [hv_];simp;omega)
     simp (disch:=omega) only [aW_,v6_,Option.bind_some]
     rw [hs1]
     simp (disch:=omega) only [Option.bind_some,aF_]
     refine ll_ d (k/10) _ ?_ (by omega) ?_
     ·rw [Int.pow_succ] at hk;omega
     ·rw [ba_,hv_];simp;omega
    ·simp only [bz_ (x:=⟨#[109]⟩) (y:=s) (by show (1:Nat)+s.size≤_;omega),Option.bind_some]
     exact Wp.ret trivial
noncomputable def mt (k:Int):ByteArray:=ans (fun n=>aB_ n k)
theorem bs_ {k:Int} (h:0≤k∧k≤100000000000000):Wp (fun n=>aB_ n k) (· =mt k):=by
  have:Wp (fun n=>aB_ n k) (fun _=>True):=by
    unfold aB_
    simp only [af_]
    refine Wp.ite (fun h=>Wp.ret trivial) (fun h=>ll_ 15 k _ (by omega) (by omega) (by decide))
  exact (Wp.ans_eq this).2
def hY_:Int→List ah_→Prop
  | _,[]=>True
  | k,x::t=>(x.Part.Text=mt k∧x.Part.Last=((k+1)%3==0)∧x.Has=((k+2)%3==0)∧x.Since=(k+3))∧hY_ (k+4) t
theorem kn_:∀(t pre:List ah_) (k:Int),(pre++t).length≤100000000→0≤k→k+4*t.length≤100000000000000→hY_ k t→Wp (fun n=>bG_ n (pre++t) k (pre.length:Int)) (· =k+4*t.length)
  | [],pre,k,hl,h0,hk,_=>by
    refine Wp.step ?_
    simp only [bG_,List.append_nil]
    simp (disch:=omega) only [af_,if_neg]
    exact Wp.ret (by simp)
  | x::t,pre,k,hl,h0,hk,hm=>by
    simp only [hY_] at hm
    obtain ⟨hm,hm2⟩:=hm
    simp only [List.length_append,List.length_cons] at hl hk
    refine Wp.step ?_
    simp only [bG_]
    have hlt:=a0_ (pre:=pre) (t:=t) (x:=x)
    obtain ⟨m0,m1,m2,m3⟩:=hm
    simp (disch:=first | omega | rfl | assumption) only [af_,d4_,aD_,cL_,cm_,if_pos,if_neg,if_true,eq_self,Int.reduceAdd,av_,Option.bind_some,aF_,aW_,oL_,hlt,m0,m1,m2,m3]
    refine Wp.bind (bs_ (by omega)) (fun _ e=> ?_);subst e
    try simp (disch:=first | omega | rfl | assumption) only [af_,d4_,aD_,cL_,cm_,if_pos,if_neg,if_true,eq_self,Int.reduceAdd,av_,Option.bind_some,aF_,aW_,oL_,hlt,m0,m1,m2,m3]
    have ih:Wp (fun n=>bG_ n (pre++x::t) (k+4) ((pre.length:Int)+1)) (· =k+4+4*t.length):=by
      have:=kn_ t (pre++[x]) (k+4) (by simp;omega) (by omega) (by omega) hm2
      rwa [←aE_,←aR_] at this
    exact ih.mono (fun r hr=>by simp only [List.length_cons];omega)
theorem tz_ {k:Int} {l:List ah_} (h0:0≤k) (hk:k+4*l.length≤100000000000000) (hl:l.length≤100000000) (hm:hY_ k l):Wp (fun n=>fA_ n l k) (· =k+4*l.length):=by
  unfold fA_
  exact kn_ l [] k (by simpa using hl) h0 hk hm
theorem ku_:∀(t pre:List ah_) (k:Int),(pre++t).length≤100000000→0≤k→k+4*t.length≤100000000000000→Wp (fun n=>bH_ n k (pre.length:Int) (pre++t)) (fun r=>r.1=k+4*t.length∧∃t',r.2=pre++t'∧t'.length=t.length∧hY_ k t')
  | [],pre,k,hl,h0,hk=>by
    refine Wp.step ?_
    simp only [bH_,List.append_nil]
    simp (disch:=omega) only [af_,if_neg]
    exact Wp.ret ⟨by simp,[],by simp,rfl,trivial⟩
  | x::t,pre,k,hl,h0,hk=>by
    simp only [List.length_append,List.length_cons] at hl hk
    refine Wp.step ?_
    simp only [bH_]
    simp (disch:=omega) only [af_,if_pos,if_true,Int.reduceAdd,a0_,av_,bw_,set_mid,Option.bind_some,aF_,aW_,oL_]
    refine Wp.bind (bs_ (by omega)) (fun _ e=> ?_);subst e
    try simp (disch:=omega) only [af_,if_pos,if_true,Int.reduceAdd,a0_,av_,bw_,set_mid,Option.bind_some,aF_,aW_,oL_]
    have key:∀y:ah_,(y.Part.Text=mt k∧y.Part.Last=((k+1)%3==0)∧y.Has=((k+2)%3==0)∧y.Since=(k+3))→Wp (fun n=>bH_ n (k+4) ((pre.length:Int)+1) (pre++y::t)) (fun r=>r.1=k+4*(x::t).length∧∃t',r.2=pre++t'∧t'.length=(x::t).length∧hY_ k t'):=fun y hy=>by
      have:=ku_ t (pre++[y]) (k+4) (by simp;omega) (by omega) (by omega)
      rw [←aE_,←aR_] at this
      refine this.mono ?_
      rintro ⟨r1,r2⟩ ⟨e1,t',e2,e3,e4⟩
      refine ⟨by simp only [List.length_cons] at*;omega,y::t',by rw [e2];simp,by simp [e3], ?_⟩
      simp only [hY_]
      exact ⟨hy,e4⟩
    exact key _ (by simp)
theorem ua_ {k:Int} {l:List ah_} (h0:0≤k) (hk:k+4*l.length≤100000000000000) (hl:l.length≤100000000):Wp (fun n=>ft_ n l k) (fun r=>r.1=k+4*l.length∧r.2.length=l.length∧hY_ k r.2):=by
  unfold ft_
  refine (ku_ l [] k (by simpa using hl) h0 hk).mono ?_
  rintro ⟨r1,r2⟩ ⟨e1,t',e2,e3,e4⟩
  simp only [List.nil_append] at e2
  subst e2
  exact ⟨e1,e3,e4⟩
def hj_:Int→List ai_→Prop
  | _,[]=>True
  | k,x::t=>(x.Seq=k∧x.Part.Text=mt (k+1)∧x.Part.Last=((k+2)%3==0))∧hj_ (k+3) t
theorem kx_:∀(t pre:List ai_) (k:Int),(pre++t).length≤100000000→0≤k→k+3*t.length≤100000000000000→hj_ k t→Wp (fun n=>bA_ n (pre++t) k (pre.length:Int)) (· =k+3*t.length)
  | [],pre,k,hl,h0,hk,_=>by
    refine Wp.step ?_
    simp only [bA_,List.append_nil]
    simp (disch:=omega) only [af_,if_neg]
    exact Wp.ret (by simp)
  | x::t,pre,k,hl,h0,hk,hm=>by
    simp only [hj_] at hm
    obtain ⟨hm,hm2⟩:=hm
    simp only [List.length_append,List.length_cons] at hl hk
    refine Wp.step ?_
    simp only [bA_]
    have hlt:=a0_ (pre:=pre) (t:=t) (x:=x)
    obtain ⟨m0,m1,m2⟩:=hm
    simp (disch:=first | omega | rfl | assumption) only [af_,d4_,aD_,cL_,cm_,if_pos,if_neg,if_true,eq_self,Int.reduceAdd,av_,Option.bind_some,aF_,aW_,oL_,hlt,m0,m1,m2]
    refine Wp.bind (bs_ (by omega)) (fun _ e=> ?_);subst e
    try simp (disch:=first | omega | rfl | assumption) only [af_,d4_,aD_,cL_,cm_,if_pos,if_neg,if_true,eq_self,Int.reduceAdd,av_,Option.bind_some,aF_,aW_,oL_,hlt,m0,m1,m2]
    have ih:Wp (fun n=>bA_ n (pre++x::t) (k+3) ((pre.length:Int)+1)) (· =k+3+3*t.length):=by
      have:=kx_ t (pre++[x]) (k+3) (by simp;omega) (by omega) (by omega) hm2
      rwa [←aE_,←aR_] at this
    exact ih.mono (fun r hr=>by simp only [List.length_cons];omega)
theorem uP_ {k:Int} {l:List ai_} (h0:0≤k) (hk:k+3*l.length≤100000000000000) (hl:l.length≤100000000) (hm:hj_ k l):Wp (fun n=>fx_ n l k) (· =k+3*l.length):=by
  unfold fx_
  exact kx_ l [] k (by simpa using hl) h0 hk hm
theorem kh_:∀(t pre:List ai_) (k:Int),(pre++t).length≤100000000→0≤k→k+3*t.length≤100000000000000→Wp (fun n=>bE_ n k (pre.length:Int) (pre++t)) (fun r=>r.1=k+3*t.length∧∃t',r.2=pre++t'∧t'.length=t.length∧hj_ k t')
  | [],pre,k,hl,h0,hk=>by
    refine Wp.step ?_
    simp only [bE_,List.append_nil]
    simp (disch:=omega) only [af_,if_neg]
    exact Wp.ret ⟨by simp,[],by simp,rfl,trivial⟩
  | x::t,pre,k,hl,h0,hk=>by
    simp only [List.length_append,List.length_cons] at hl hk
    refine Wp.step ?_
    simp only [bE_]
    simp (disch:=omega) only [af_,if_pos,if_true,Int.reduceAdd,a0_,av_,bw_,set_mid,Option.bind_some,aF_,aW_,oL_]
    refine Wp.bind (bs_ (by omega)) (fun _ e=> ?_);subst e
    try simp (disch:=omega) only [af_,if_pos,if_true,Int.reduceAdd,a0_,av_,bw_,set_mid,Option.bind_some,aF_,aW_,oL_]
    have key:∀y:ai_,(y.Seq=k∧y.Part.Text=mt (k+1)∧y.Part.Last=((k+2)%3==0))→Wp (fun n=>bE_ n (k+3) ((pre.length:Int)+1) (pre++y::t)) (fun r=>r.1=k+3*(x::t).length∧∃t',r.2=pre++t'∧t'.length=(x::t).length∧hj_ k t'):=fun y hy=>by
      have:=kh_ t (pre++[y]) (k+3) (by simp;omega) (by omega) (by omega)
      rw [←aE_,←aR_] at this
      refine this.mono ?_
      rintro ⟨r1,r2⟩ ⟨e1,t',e2,e3,e4⟩
      refine ⟨by simp only [List.length_cons] at*;omega,y::t',by rw [e2];simp,by simp [e3], ?_⟩
      simp only [hj_]
      exact ⟨hy,e4⟩
    exact key _ (by simp)
theorem ux_ {k:Int} {l:List ai_} (h0:0≤k) (hk:k+3*l.length≤100000000000000) (hl:l.length≤100000000):Wp (fun n=>fq_ n l k) (fun r=>r.1=k+3*l.length∧r.2.length=l.length∧hj_ k r.2):=by
  unfold fq_
  refine (kh_ l [] k (by simpa using hl) h0 hk).mono ?_
  rintro ⟨r1,r2⟩ ⟨e1,t',e2,e3,e4⟩
  simp only [List.nil_append] at e2
  subst e2
  exact ⟨e1,e3,e4⟩
def eg_:Int→List ByteArray→Prop
  | _,[]=>True
  | k,x::t=>(x=mt k)∧eg_ (k+1) t
theorem ir_:∀(t pre:List ByteArray) (k:Int),(pre++t).length≤100000000→0≤k→k+1*t.length≤100000000000000→eg_ k t→Wp (fun n=>bh_ n (pre++t) k (pre.length:Int)) (· =k+1*t.length)
  | [],pre,k,hl,h0,hk,_=>by
    refine Wp.step ?_
    simp only [bh_,List.append_nil]
    simp (disch:=omega) only [af_,if_neg]
    exact Wp.ret (by simp)
  | x::t,pre,k,hl,h0,hk,hm=>by
    simp only [eg_] at hm
    obtain ⟨hm,hm2⟩:=hm
    simp only [List.length_append,List.length_cons] at hl hk
    refine Wp.step ?_
    simp only [bh_]
    have hlt:=a0_ (pre:=pre) (t:=t) (x:=x)
    have m0:=hm
    simp (disch:=first | omega | rfl | assumption) only [af_,d4_,aD_,cL_,cm_,if_pos,if_neg,if_true,eq_self,Int.reduceAdd,av_,Option.bind_some,aF_,aW_,oL_,hlt,true_and]
    refine Wp.bind (bs_ (by omega)) (fun _ e=> ?_);subst e
    try simp (disch:=first | omega | rfl | assumption) only [af_,d4_,aD_,cL_,cm_,if_pos,if_neg,if_true,eq_self,Int.reduceAdd,av_,Option.bind_some,aF_,aW_,oL_,hlt,true_and]
    have ih:Wp (fun n=>bh_ n (pre++x::t) (k+1) ((pre.length:Int)+1)) (· =k+1+1*t.length):=by
      have:=ir_ t (pre++[x]) (k+1) (by simp;omega) (by omega) (by omega) hm2
      rwa [←aE_,←aR_] at this
    exact ih.mono (fun r hr=>by simp only [List.length_cons];omega)
theorem ru_ {k:Int} {l:List ByteArray} (h0:0≤k) (hk:k+1*l.length≤100000000000000) (hl:l.length≤100000000) (hm:eg_ k l):Wp (fun n=>eq_ n l k) (· =k+1*l.length):=by
  unfold eq_
  exact ir_ l [] k (by simpa using hl) h0 hk hm
theorem iD_:∀(t pre:List ByteArray) (k:Int),(pre++t).length≤100000000→0≤k→k+1*t.length≤100000000000000→Wp (fun n=>bj_ n k (pre.length:Int) (pre++t)) (fun r=>r.1=k+1*t.length∧∃t',r.2=pre++t'∧t'.length=t.length∧eg_ k t')
  | [],pre,k,hl,h0,hk=>by
    refine Wp.step ?_
    simp only [bj_,List.append_nil]
    simp (disch:=omega) only [af_,if_neg]
    exact Wp.ret ⟨by simp,[],by simp,rfl,trivial⟩
  | x::t,pre,k,hl,h0,hk=>by
    simp only [List.length_append,List.length_cons] at hl hk
    refine Wp.step ?_
    simp only [bj_]
    simp (disch:=omega) only [af_,if_pos,if_true,Int.reduceAdd,a0_,av_,bw_,set_mid,Option.bind_some,aF_,aW_,oL_]
    refine Wp.bind (bs_ (by omega)) (fun _ e=> ?_);subst e
    try simp (disch:=omega) only [af_,if_pos,if_true,Int.reduceAdd,a0_,av_,bw_,set_mid,Option.bind_some,aF_,aW_,oL_]
    have key:∀y:ByteArray,(y=mt k)→Wp (fun n=>bj_ n (k+1) ((pre.length:Int)+1) (pre++y::t)) (fun r=>r.1=k+1*(x::t).length∧∃t',r.2=pre++t'∧t'.length=(x::t).length∧eg_ k t'):=fun y hy=>by
      have:=iD_ t (pre++[y]) (k+1) (by simp;omega) (by omega) (by omega)
      rw [←aE_,←aR_] at this
      refine this.mono ?_
      rintro ⟨r1,r2⟩ ⟨e1,t',e2,e3,e4⟩
      refine ⟨by simp only [List.length_cons] at*;omega,y::t',by rw [e2];simp,by simp [e3], ?_⟩
      simp only [eg_]
      exact ⟨hy,e4⟩
    exact key _ (by simp)
theorem rq_ {k:Int} {l:List ByteArray} (h0:0≤k) (hk:k+1*l.length≤100000000000000) (hl:l.length≤100000000):Wp (fun n=>et_ n l k) (fun r=>r.1=k+1*l.length∧r.2.length=l.length∧eg_ k r.2):=by
  unfold et_
  refine (iD_ l [] k (by simpa using hl) h0 hk).mono ?_
  rintro ⟨r1,r2⟩ ⟨e1,t',e2,e3,e4⟩
  simp only [List.nil_append] at e2
  subst e2
  exact ⟨e1,e3,e4⟩
end Km.X
namespace Km.X
open Go Km
set_option linter.unusedVariables false
set_option linter.unusedSimpArgs false
abbrev noB:ByteArray:=⟨#[]⟩
theorem fz_:noB.size=0:=rfl
theorem zN_ (bs:List Int):∀(s:ByteArray),bs.foldl (fun r n=>r.push (UInt8.ofNat n.toNat)) s=s++jV_ bs:=by
  induction bs with
  | nil=>intro s;simp [jV_]
  | cons b bs ih=>
    intro s
    simp only [List.foldl_cons,jV_]
    rw [ih,ih]
    apply ByteArray.ext;apply Array.ext'
    simp
theorem zc_ (b:Int) (bs:List Int):jV_ [b]++jV_ bs=jV_ (b::bs):=by
  have:=zN_ bs (jV_ [b])
  rw [←this];rfl
theorem AA_:jV_ []=noB:=rfl
def eh_:Nat→Nat→List Int
  | 0,_=>[]
  | w+1,n=>eh_ w (n/256)++[((n%256:Nat):Int)]
theorem eY_:∀(w n:Nat),(eh_ w n).length=w
  | 0,_=>rfl
  | w+1,n=>by simp [eh_,eY_ w]
theorem pT_ (d:Nat):∀(w n:Nat),(eh_ (w+d) n).drop d=eh_ w n
  | 0,n=>by
    rw [Nat.zero_add,List.drop_eq_nil_of_le (by rw [eY_];exact Nat.le_refl _)];rfl
  | w+1,n=>by
    rw [show w+1+d=(w+d)+1 by omega]
    simp only [eh_]
    rw [List.drop_append_of_le_length (by rw [eY_];omega),pT_ d w]
theorem wu8 (n:Nat):IntKind.wrap .u8 (n:Int)=((n%256:Nat):Int):=by rw [IntKind.wrap_u8];omega
theorem FO_ {n:Int} (h1:0≤n) (h2:n≤18446744073709551615):IntKind.wrap .u64 n=n:=IntWalk.u64_in n ⟨h1,h2⟩
theorem sl_ (n:Int):0≤IntKind.wrap .u64 n∧IntKind.wrap .u64 n≤18446744073709551615:=by
  simp only [IntKind.wrap,IntKind.signed,IntKind.bits,Bool.false_and]
  rw [if_neg (by simp)];omega
theorem wL_ (n:Nat):oK_ (n:Int) 256=some ((n%256:Nat):Int):=by rw [aW_ (by omega) (by omega)];simp
theorem wI_ (n:Nat):yC_ (n:Int) 256=some ((n/256:Nat):Int):=by rw [v6_ (by omega) (by omega)];simp
theorem z7_ (n:Nat):IntKind.wrap .u8 ((n%256:Nat):Int)=((n%256:Nat):Int):=by rw [wu8,Nat.mod_mod]
theorem FD_ {k:IntKind} (hk:8≤k.bits) (n:Nat):shift .shr k (n:Int) 8=some ((n/256:Nat):Int):=by
  simp only [shift]
  rw [if_neg (by omega)]
  congr 1
  rw [show (Int.toNat 8)=8 from rfl,Nat.min_eq_left hk,Int.fdiv_eq_ediv_of_nonneg _ (by simp)]
  simp
theorem uz_ (b:Int) (bs:List Int) (h:bs.length≤1000):jF_ (jV_ [b]) (jV_ bs)=some (jV_ (b::bs)):=by
  rw [bz_ (by rw [hv_,hv_];simp;omega),zc_]
theorem t3_ {d n:Nat} {b:List Int} (hlt:d<b.length):eh_ d (n/256)++(b.set d ((n%256:Nat):Int)).drop d=eh_ (d+1) n++b.drop (d+1):=by
  simp only [eh_,List.append_assoc,List.cons_append,List.nil_append]
  congr 1
  rw [List.drop_eq_getElem_cons (by simpa using hlt),List.drop_set_of_lt (by omega)]
  simp
theorem uv_:∀(d w i n:Nat) (tail:List Int),i+d=w→w≤8→n≤18446744073709551615→tail.length+d≤100→
    Wp (fun k=>eE_ k (w:Int) (n:Int) (jV_ tail) (i:Int)) (· =jV_ (eh_ d n++tail))
  | 0,w,i,n,tail,h,hw,hn,ht=>by
    refine Wp.step ?_
    simp only [eE_]
    simp (disch:=omega) only [af_,if_neg]
    exact Wp.ret rfl
  | d+1,w,i,n,tail,h,hw,hn,ht=>by
    refine Wp.step ?_
    simp only [eE_]
    simp (disch:=omega) only [af_,if_pos,wL_,wI_,Option.bind_some,z7_,uz_,FO_,aF_,hi_]
    have ih:=uv_ d w (i+1) (n/256) (((n%256:Nat):Int)::tail) (by omega) hw (by omega) (by simp;omega)
    simpa [eh_] using ih
theorem u7_:∀(d w n:Nat) (b:List Int),b.length=8→d≤8→1≤w→w≤8→n≤18446744073709551615→
    Wp (fun k=>eD_ k (w:Int) (n:Int) ((d:Int)-1) b) (· =jV_ ((eh_ d n++b.drop d).drop (8-w)))
  | 0,w,n,b,hb,hd,hw1,hw,hn=>by
    refine Wp.step ?_
    simp only [eD_]
    simp (disch:=omega) only [af_,if_neg,if_pos hb,aF_,dz_,Option.bind_some]
    refine Wp.ret ?_
    simp only [eh_,List.nil_append,List.drop_zero,dS_]
    rw [show ((8:Int)-(w:Int)).toNat=8-w by omega,show Int.toNat 8=8 from rfl,List.take_of_length_le (by omega)]
  | d+1,w,n,b,hb,hd,hw1,hw,hn=>by
    refine Wp.step ?_
    simp only [eD_]
    rw [show ((d+1:Nat):Int)-1=(d:Int) by omega]
    have hlt:d<b.length:=by omega
    simp (disch:=first | omega | decide) only [af_,if_pos,if_pos hb,r5_,A6_,Option.bind_some,FD_,aF_,wu8]
    have ih:=u7_ d w (n/256) (b.set d ((n%256:Nat):Int)) (by simpa using hb) (by omega) hw1 hw (by omega)
    rw [t3_ hlt] at ih
    rw [Int.toNat_natCast]
    exact ih
def hstep (v:Int) (c:UInt8):Int:=IntKind.wrap .u64 ((wy_ .u64 v (IntKind.wrap .u64 (c.toNat:Int)))*1099511628211)
def Fd_ (l:List UInt8):Int:=l.foldl hstep 14695981039346656037
theorem oN_ {pre t:List UInt8} {c:UInt8} {all:ByteArray} (h:all.data.toList=pre++c::t):tv_ all (pre.length:Int)=some c:=by
  have hl:pre.length<all.size:=by
    have:=congrArg List.length h
    simp at this
    have e:all.size=all.data.size:=rfl
    omega
  have hg:all.data[pre.length]? =some c:=by
    rw [←Array.getElem?_toList,h];simp
  unfold tv_
  rw [if_neg (by omega),Int.toNat_natCast]
  have e:all[pre.length]? =some (all[pre.length]'hl):=by simp [hl]
  rw [e]
  rw [Array.getElem?_eq_getElem (by exact hl)] at hg
  exact hg
theorem g3_ {pre t:List UInt8} {all:ByteArray} (h:all.data.toList=pre++t):all.size=pre.length+t.length:=by
  have:=congrArg List.length h
  simp at this
  exact this
theorem wF_ (all:ByteArray) (w:Nat) (hw:w≤8) (hs:all.size≤10000000):∀(t pre:List UInt8) (v:Int),all.data.toList=pre++t→0≤v∧v≤18446744073709551615→
    Wp (fun k=>fj_ k (w:Int) all v (pre.length:Int)) (· =jV_ (eh_ w (t.foldl hstep v).toNat))
  | [],pre,v,h,hv=>by
    refine Wp.step ?_
    have:=g3_ h
    simp only [List.length_nil] at this
    simp only [fj_]
    simp (disch:=omega) only [af_,if_neg]
    have h11:=uv_ w w 0 v.toNat [] (by omega) hw (by omega) (by simp;omega)
    rw [List.append_nil,show ((v.toNat:Nat):Int)=v by omega,AA_] at h11
    exact h11
  | c::t,pre,v,h,hv=>by
    refine Wp.step ?_
    have hl:=g3_ h
    simp only [List.length_cons] at hl
    simp only [fj_]
    simp (disch:=omega) only [af_,if_pos,oN_ h,Option.bind_some,aF_]
    have ih:=wF_ all w hw hs t (pre++[c]) (hstep v c) (by simpa using h) (sl_ _)
    rwa [←aR_] at ih
theorem wZ_ (all:ByteArray) (w:Nat) (hw1:1≤w) (hw:w≤8) (hs:all.size≤10000000):∀(t pre:List UInt8) (v:Int),all.data.toList=pre++t→0≤v∧v≤18446744073709551615→
    Wp (fun k=>fn_ k (w:Int) v all (pre.length:Int)) (· =jV_ (eh_ w (t.foldl hstep v).toNat))
  | [],pre,v,h,hv=>by
    refine Wp.step ?_
    have:=g3_ h
    simp only [List.length_nil] at this
    simp only [fn_]
    simp (disch:=omega) only [af_,if_neg]
    have h11:=u7_ 8 w v.toNat (List.replicate 8 0) (by simp) (by omega) hw1 hw (by omega)
    rw [show ((v.toNat:Nat):Int)=v by omega] at h11
    have hd:=pT_ (8-w) w v.toNat
    rw [show w+(8-w)=8 by omega] at hd
    refine Wp.mono h11 fun r hr=> ?_
    rw [hr,show List.drop 8 (List.replicate 8 (0:Int))=[] from rfl,List.append_nil,hd]
    rfl
  | c::t,pre,v,h,hv=>by
    refine Wp.step ?_
    have hl:=g3_ h
    simp only [List.length_cons] at hl
    simp only [fn_]
    simp (disch:=omega) only [af_,if_pos,oN_ h,Option.bind_some,aF_]
    have ih:=wZ_ all w hw1 hw hs t (pre++[c]) (hstep v c) (by simpa using h) (sl_ _)
    rwa [←aR_] at ih
theorem cU_ (a b c:Int):Wp (fun k=>aC_ k a b c) (· =(decide (b≤a)&&decide (a≤c))):=by
  unfold aC_
  refine Wp.dec (fun h=>Wp.ret ?_) (fun h=>Wp.ret ?_)
  ·rw [decide_eq_true (show b≤a by omega)];rfl
  ·rw [decide_eq_false (show¬b≤a by omega)];rfl
theorem md_ (a b c:Int):Wp (fun k=>aQ_ k a b c) (· =(decide (b≤a)&&decide (a≤c))):=cU_ a b c
theorem inB {a b c:Int}:(decide (b≤a)&&decide (a≤c))=decide (b≤a∧a≤c):=by rw [Bool.decide_and]
def Ar_ (a b:ByteArray) (w:Int):ByteArray:=if w<1∨8<w∨30<b.size then noB else jV_ (eh_ w.toNat (Fd_ (b++⟨#[0]⟩++a).data.toList).toNat)
theorem xI_ (a b:ByteArray) (w:Int) (ha:a.size≤1048576):Wp (fun k=>oJ_ k a b w) (· =Ar_ a b w):=by
  unfold oJ_ Ar_
  refine Wp.bind (cU_ _ _ _) (fun _ e=> ?_);subst e
  simp only [inB,aD_,af_]
  refine Wp.ite (fun h1=> ?_) (fun h1=> ?_)
  ·refine Wp.ite (fun h2=> ?_) (fun h2=> ?_)
   ·rw [if_pos (by omega)];exact Wp.ret rfl
   ·rw [if_neg (by omega)]
    have e0:(⟨#[0]⟩:ByteArray).size=1:=rfl
    have hsz:(b++⟨#[0]⟩++a).size=b.size+1+a.size:=by rw [ba_,ba_,e0]
    refine Wp.opt (bz_ (by rw [e0];omega)) ?_
    refine Wp.opt (bz_ (by rw [ba_,e0];omega)) ?_
    obtain ⟨n,rfl⟩:∃n:Nat,w=n:=⟨w.toNat,by omega⟩
    exact wF_ _ n (by omega) (by omega) _ [] _ rfl (by omega)
  ·rw [if_pos (by omega)];exact Wp.ret rfl
theorem xV_ (a b:ByteArray) (w:Int) (ha:a.size≤1048576):Wp (fun k=>oV_ k a b w) (· =Ar_ a b w):=by
  unfold oV_ Ar_
  simp only [af_]
  refine Wp.ite (fun h1=> ?_) (fun h1=> ?_)
  ·rw [if_pos (by omega)];exact Wp.ret rfl
  refine Wp.ite (fun h2=> ?_) (fun h2=> ?_)
  ·rw [if_pos (by omega)];exact Wp.ret rfl
  refine Wp.ite (fun h3=> ?_) (fun h3=> ?_)
  ·rw [if_pos (by omega)];exact Wp.ret rfl
  rw [if_neg (by omega)]
  have e0:(⟨#[0]⟩:ByteArray).size=1:=rfl
  have hsz:(b++⟨#[0]⟩++a).size=b.size+1+a.size:=by rw [ba_,ba_,e0]
  refine Wp.opt (bz_ (by rw [e0];omega)) ?_
  refine Wp.opt (bz_ (by rw [ba_,e0];omega)) ?_
  obtain ⟨n,rfl⟩:∃n:Nat,w=n:=⟨w.toNat,by omega⟩
  exact wZ_ _ n (by omega) (by omega) (by omega) _ [] _ rfl (by omega)
theorem pC_ (a b:ByteArray) (w:Int):(Ar_ a b w).size≤8:=by
  unfold Ar_
  split
  ·simp [fz_]
  ·rw [hv_,eY_];omega
end Km.X
namespace Km.X
open Go Km
set_option linter.unusedVariables false
set_option linter.unusedSimpArgs false
def OkItem (i:Nat) (x:ah_):Prop:=x.Part.Text.size≤20∧(-1≤x.Since∧x.Since≤3)∧(8≤i→x.Since= -1)∧(x.Has=true→0≤x.Since)
def OkItems:Nat→List ah_→Prop
  | _,[]=>True
  | i,x::t=>OkItem i x∧OkItems (i+1) t
instance (i:Nat) (x:ah_):Decidable (OkItem i x):=by unfold OkItem;infer_instance
instance x0_:(i:Nat)→(l:List ah_)→Decidable (OkItems i l)
  | _,[]=> .isTrue trivial
  | i,x::t=>by
    have:=x0_ (i+1) t
    unfold OkItems;infer_instance
def VSend (s:am_):Prop:=s.Items.length≤60∧(0≤s.Base∧s.Base≤1000000)∧s.Base+s.Items.length≤1000000∧OkItems 0 s.Items
instance (s:am_):Decidable (VSend s):=by unfold VSend;infer_instance
theorem jY_ (b:Int):∀(t pre:List ah_),(pre++t).length≤60→Wp (fun k=>aL_ k (pre.length:Int) b (pre++t)) (· =decide (OkItems pre.length t))
  | [],pre,hl=>by
    refine Wp.step ?_
    simp only [aL_,List.append_nil]
    simp (disch:=omega) only [af_,if_neg]
    exact Wp.ret rfl
  | x::t,pre,hl=>by
    refine Wp.step ?_
    have hl':=hl
    simp only [List.length_append,List.length_cons] at hl
    simp only [aL_,OkItems]
    simp (disch:=omega) only [af_,a0_,if_true,av_,Option.bind_some,aF_,aD_,d4_]
    have F:¬OkItem pre.length x→Wp (fun _=>some false) (· =decide (OkItem pre.length x∧OkItems (pre.length+1) t)):=fun h=>Wp.ret (decide_eq_false fun h'=>h h'.1).symm
    have ih:=jY_ b t (pre++[x]) (by simpa using hl')
    rw [←aE_,←aR_,List.length_append,List.length_singleton] at ih
    have G:OkItem pre.length x→Wp (fun k=>aL_ k ((pre.length:Int)+1) b (pre++x::t)) (· =decide (OkItem pre.length x∧OkItems (pre.length+1) t)):=fun h=>by
      refine Wp.mono ih fun r hr=> ?_
      rw [hr,decide_eq_decide]
      exact ⟨fun g=>⟨h,g⟩,fun g=>g.2⟩
    refine Wp.ite (fun h=>F fun h'=>by have:=h'.1;omega) (fun h1=> ?_)
    refine Wp.bind (cU_ _ _ _) (fun _ e=> ?_);subst e
    simp only [inB,af_]
    refine Wp.ite (fun h2=> ?_) (fun h2=>F fun h'=>h2 h'.2.1)
    refine Wp.ite (fun h3=> ?_) (fun h3=> ?_)
    ·refine Wp.ite (fun h4=> ?_) (fun h4=>F fun h'=>h4 (h'.2.2.1 (by omega)))
     refine Wp.bif (fun h5=> ?_) (fun h5=> ?_)
     ·refine Wp.ite (fun h6=>F fun h'=>by have:=h'.2.2.2 h5;omega) (fun h6=>by omega)
     ·exact G ⟨by omega,h2,fun _=>h4,fun h=>by rw [h5] at h;cases h⟩
    ·refine Wp.bif (fun h5=> ?_) (fun h5=> ?_)
     ·refine Wp.ite (fun h6=>F fun h'=>by have:=h'.2.2.2 h5;omega) (fun h6=> ?_)
      exact G ⟨by omega,h2,fun h=>by omega,fun _=>by omega⟩
     ·exact G ⟨by omega,h2,fun h=>by omega,fun h=>by rw [h5] at h;cases h⟩
theorem de_ (s:am_):Wp (fun k=>br_ k s) (· =decide (VSend s)):=by
  unfold br_
  simp only [af_,aD_]
  have F:¬VSend s→Wp (fun _=>some false) (· =decide (VSend s)):=fun h=>Wp.ret (decide_eq_false h).symm
  refine Wp.ite (fun h=>F fun h'=>by have:=h'.1;omega) (fun h1=> ?_)
  refine Wp.bind (cU_ _ _ _) (fun _ e=> ?_);subst e
  simp only [inB,af_]
  refine Wp.ite (fun h2=> ?_) (fun h2=>F fun h'=>h2 h'.2.1)
  rw [aF_ (by omega) (by omega)]
  refine Wp.ite (fun h3=>F fun h'=>by have:=h'.2.2.1;omega) (fun h3=> ?_)
  refine Wp.mono (jY_ s.Base s.Items [] (by simp;omega)) fun r hr=> ?_
  rw [hr,decide_eq_decide]
  exact ⟨fun h=>⟨by omega,h2,by omega,h⟩,fun h=>h.2.2.2⟩
theorem ik_ (xs:List ah_) (b:Int):∀(k:Nat) (j:Int),bp_ k xs (xs.length:Int) j=aL_ k j b xs
  | 0,_=>rfl
  | k+1,j=>by
    have hi:∀a b c,aQ_ k a b c=aC_ k a b c:=fun _ _ _=>rfl
    simp only [bp_,aL_,ik_ xs b k,hi]
theorem qY_ (k:Nat) (s:am_):bq_ k s=br_ k s:=by
  have hi:∀a b c,aQ_ k a b c=aC_ k a b c:=fun _ _ _=>rfl
  simp only [bq_,br_,hi,ik_ s.Items s.Base]
theorem fT_ (s:am_):Wp (fun k=>bq_ k s) (· =decide (VSend s)):=by
  have:(fun k=>bq_ k s)=fun k=>br_ k s:=funext fun k=>qY_ k s
  rw [this];exact de_ s
theorem ji_ (s:am_) (h:s.Items.length≤1048576):Wp (fun k=>eC_ k s) (· =s):=by
  unfold eC_
  refine Wp.opt (bf_ (by simp;omega)) ?_
  exact Wp.ret (by rw [List.nil_append])
theorem qG_ (s:am_) (h:s.Items.length≤1048576):Wp (fun k=>e6_ k s) (· =s):=ji_ s h
abbrev km_:am_:=⟨0,[]⟩
def k5_ (x:ah_):ah_:=if x.Has=true then x else if x.Since= -1 then ⟨x.Part,x.Has,0⟩ else if x.Since=3 then ⟨x.Part,x.Has,0⟩ else ⟨x.Part,x.Has,x.Since+1⟩
def ht_ (x:ah_):Prop:=¬x.Has=true∧(x.Since= -1∨x.Since=3)
instance (x:ah_):Decidable (ht_ x):=by unfold ht_;infer_instance
def fI_:Nat→Int→List ah_→List ah_×List Int
  | _,_,[]=>([],[])
  | i,b,x::t=>if 8≤i then (x::t,[]) else (k5_ x::(fI_ (i+1) b t).1,(if ht_ x then [b+i] else [])++(fI_ (i+1) b t).2)
def kP_ (s:am_):am_×List Int:=if VSend s then (⟨s.Base,(fI_ 0 s.Base s.Items).1⟩,(fI_ 0 s.Base s.Items).2) else (km_,[])
theorem sc_ (b:Int) (xs ys:List ah_) (c d:Int) (hb:0≤b∧b≤1000000):∀(t pre:List ah_) (sent:List Int),(pre++t).length≤60→sent.length≤pre.length→OkItems pre.length t→
    Wp (fun k=>cA_ k (pre.length:Int) b xs c sent d ys (pre++t)) (· =(⟨d,pre++(fI_ pre.length b t).1⟩,sent++(fI_ pre.length b t).2))
  | [],pre,sent,hl,hs,hok=>by
    refine Wp.step ?_
    simp only [cA_,List.append_nil]
    simp (disch:=omega) only [af_,if_neg]
    exact Wp.ret (by simp [fI_])
  | x::t,pre,sent,hl,hs,hok=>by
    refine Wp.step ?_
    have hl':=hl
    simp only [List.length_append,List.length_cons] at hl
    simp only [cA_]
    simp only [af_,a0_,if_true,av_,bw_,Option.bind_some,eK_,set_mid]
    simp (disch:=omega) only [aF_]
    refine Wp.ite (fun h8=> ?_) (fun h8=> ?_)
    ·have ih:=fun y sent' hs'=>sc_ b xs ys c d hb t (pre++[y]) sent' (by simpa using hl') hs' (by rw [List.length_append,List.length_singleton];exact hok.2)
     have ih':∀(y:ah_) (sent':List Int),sent'.length≤pre.length+1→k5_ x=y→sent'=sent++(if ht_ x then [b+(pre.length:Int)] else [])→
      Wp (fun k=>b4_ k (pre.length:Int) b xs c sent' d ys (pre++y::t)) (· =(⟨d,pre++(fI_ pre.length b (x::t)).1⟩,sent++(fI_ pre.length b (x::t)).2)):=by
       intro y sent' hs' hy hs2
       refine Wp.step ?_
       simp only [b4_]
       have:=ih y sent' (by simpa using hs')
       rw [←aE_,←aR_,List.length_append,List.length_singleton] at this
       rw [aF_ (by omega) (by omega)]
       refine this.mono fun r hr=> ?_
       rw [hr]
       simp only [fI_]
       rw [if_neg (by omega),hs2,hy]
       simp
     refine Wp.bif (fun hh=>ih' x sent (by omega) (by simp [k5_,hh]) (by simp [ht_,hh])) (fun hh=> ?_)
     have hx:=hok.1
     refine Wp.ite (fun h1=> ?_) (fun h1=> ?_)
     ·refine Wp.opt (bf_ (by simp;omega)) ?_
      exact ih' _ _ (by simp;omega) (by simp [k5_,hh,h1]) (by simp [ht_,hh,h1])
     refine Wp.ite (fun h2=> ?_) (fun h2=> ?_)
     ·refine Wp.opt (bf_ (by simp;omega)) ?_
      exact ih' _ _ (by simp;omega) (by simp [k5_,hh,h2]) (by simp [ht_,hh,h2])
     ·have:=hx.2.1
      rw [aF_ (by omega) (by omega)]
      exact ih' _ _ (by omega) (by simp [k5_,hh,h1,h2]) (by simp [ht_,hh,h1,h2])
    ·refine Wp.ret ?_
     simp only [fI_]
     rw [if_pos (by omega)];simp
theorem so_ (ys:List ah_) (c d:Int) (hb:0≤d∧d≤1000000):∀(t pre:List ah_) (sent:List Int),(pre++t).length≤60→sent.length≤pre.length→OkItems pre.length t→
    Wp (fun k=>cz_ k (pre.length:Int) c d sent ys (pre++t)) (· =(⟨d,pre++(fI_ pre.length d t).1⟩,sent++(fI_ pre.length d t).2))
  | [],pre,sent,hl,hs,hok=>by
    refine Wp.step ?_
    simp only [cz_,List.append_nil]
    simp (disch:=omega) only [af_,if_neg]
    exact Wp.ret (by simp [fI_])
  | x::t,pre,sent,hl,hs,hok=>by
    refine Wp.step ?_
    have hl':=hl
    simp only [List.length_append,List.length_cons] at hl
    simp only [cz_]
    simp only [af_,a0_,if_true,av_,bw_,Option.bind_some,eK_,set_mid]
    simp (disch:=omega) only [aF_]
    refine Wp.ite (fun h8=> ?_) (fun h8=> ?_)
    ·have ih:=fun y sent' hs'=>so_ ys c d hb t (pre++[y]) sent' (by simpa using hl') hs' (by rw [List.length_append,List.length_singleton];exact hok.2)
     have ih':∀(y:ah_) (sent':List Int),sent'.length≤pre.length+1→k5_ x=y→sent'=sent++(if ht_ x then [d+(pre.length:Int)] else [])→
      Wp (fun k=>b2_ k (pre.length:Int) c d sent' ys (pre++y::t)) (· =(⟨d,pre++(fI_ pre.length d (x::t)).1⟩,sent++(fI_ pre.length d (x::t)).2)):=by
       intro y sent' hs' hy hs2
       refine Wp.step ?_
       simp only [b2_]
       have:=ih y sent' (by simpa using hs')
       rw [←aE_,←aR_,List.length_append,List.length_singleton] at this
       rw [aF_ (by omega) (by omega)]
       refine this.mono fun r hr=> ?_
       rw [hr]
       simp only [fI_]
       rw [if_neg (by omega),hs2,hy]
       simp
     refine Wp.bif (fun hh=>ih' x sent (by omega) (by simp [k5_,hh]) (by simp [ht_,hh])) (fun hh=> ?_)
     have hx:=hok.1
     refine Wp.ite (fun h1=> ?_) (fun h1=> ?_)
     ·refine Wp.opt (bf_ (by simp;omega)) ?_
      exact ih' _ _ (by simp;omega) (by simp [k5_,hh,h1]) (by simp [ht_,hh,h1])
     refine Wp.ite (fun h2=> ?_) (fun h2=> ?_)
     ·refine Wp.opt (bf_ (by simp;omega)) ?_
      exact ih' _ _ (by simp;omega) (by simp [k5_,hh,h2]) (by simp [ht_,hh,h2])
     ·have:=hx.2.1
      rw [aF_ (by omega) (by omega)]
      exact ih' _ _ (by omega) (by simp [k5_,hh,h1,h2]) (by simp [ht_,hh,h1,h2])
    ·refine Wp.ret ?_
     simp only [fI_]
     rw [if_pos (by omega)];simp
theorem vj_ (s:am_):Wp (fun k=>f3_ k s) (· =kP_ s):=by
  unfold f3_ kP_
  refine Wp.bind (de_ s) (fun _ e=> ?_);subst e
  simp only [aD_,af_]
  refine Wp.ite (fun h=> ?_) (fun h=>Wp.ret (by rw [if_neg h]))
  rw [if_pos h]
  refine Wp.bind (ji_ s (by have:=h.1;omega)) (fun _ e=> ?_);subst e
  exact sc_ _ _ _ _ _ h.2.1 _ [] [] (by simpa using h.1) (by simp) h.2.2.2
theorem vh_ (s:am_):Wp (fun k=>ge_ k s) (· =kP_ s):=by
  unfold ge_ kP_
  refine Wp.bind (fT_ s) (fun _ e=> ?_);subst e
  simp only [aD_,af_]
  refine Wp.ite (fun h=> ?_) (fun h=>Wp.ret (by rw [if_neg h]))
  rw [if_pos h]
  refine Wp.bind (qG_ s (by have:=h.1;omega)) (fun _ e=> ?_);subst e
  exact so_ _ _ _ h.2.1 _ [] [] (by simpa using h.1) (by simp) h.2.2.2
end Km.X
namespace Km.X
open Go Km
set_option linter.unusedVariables false
set_option linter.unusedSimpArgs false
theorem s1_:VSend km_:=⟨by simp,by simp,by simp,trivial⟩
theorem qF_:∀{l:List ah_} {i:Nat},OkItems i l→∀x∈l,x.Part.Text.size≤20
  | [],_,_,x,h=>by simp at h
  | y::t,i,⟨h1,h2⟩,x,h=>by
    rcases List.mem_cons.mp h with rfl | h
    ·exact h1.1
    ·exact qF_ h2 x h
theorem VSend.sm {s:am_} (h:VSend s):lE_ s:=by
  unfold lE_ smL
  refine ⟨by have:=h.1;omega,fun x hx=> ?_⟩
  have:=qF_ h.2.2.2 x hx
  show x.Part.Text.size≤1048576
  omega
theorem yb_ (x:ah_):(k5_ x).Part=x.Part:=by unfold k5_;repeat' split<;>try rfl
theorem sT_:∀(t:List ah_) (i:Nat) (b:Int),OkItems i t→OkItems i (fI_ i b t).1∧(fI_ i b t).1.length=t.length∧(fI_ i b t).2.length≤t.length
  | [],i,b,h=>⟨trivial,rfl,by simp [fI_]⟩
  | x::t,i,b,⟨h1,h2⟩=>by
    simp only [fI_]
    split
    ·exact ⟨⟨h1,h2⟩,rfl,by simp⟩
    ·have:=sT_ t (i+1) b h2
     refine ⟨⟨?_,this.1⟩,by simp [this.2.1], ?_⟩
     ·obtain ⟨a1,a2,a3,a4⟩:=h1
      refine ⟨by rw [yb_];exact a1, ?_,fun _=>by omega, ?_⟩
      ·unfold k5_;split
       ·exact a2
       ·split
        ·simp
        ·split
         ·simp
         ·simp only;omega
      ·unfold k5_;split
       ·exact a4
       ·rename_i hh
        split
        ·intro h;exact absurd h hh
        ·split<;>(intro h;exact absurd h hh)
     ·have h3:=this.2.2
      simp only [List.length_append,List.length_cons]
      split<;>simp<;>omega
theorem to_ (s:am_):VSend (kP_ s).1∧(kP_ s).2.length≤60:=by
  unfold kP_
  split
  ·rename_i h
   have:=sT_ s.Items 0 s.Base h.2.2.2
   refine ⟨⟨by simp only;rw [this.2.1];exact h.1,h.2.1,by simp only;rw [this.2.1];exact h.2.2.1,this.1⟩,by have:=h.1;simp only;omega⟩
  ·exact ⟨s1_,by simp⟩
end Km.X
namespace Km.X
open Go Km
set_option linter.unusedVariables false
set_option linter.unusedSimpArgs false
def iU_ (x:ao_):Prop:=lE_ x.Send∧l5_ x.Take
theorem Ao_ (x:ao_) (h:iU_ x):Wp (fun k=>jP_ k x) (· =x):=by
  unfold iU_ at h
  obtain ⟨h0,h1⟩:=h
  unfold jP_
  refine Wp.bind (zq_ _ h0) (fun _ e=> ?_);subst e
  refine Wp.bind (zk_ _ h1) (fun _ e=> ?_);subst e
  exact Wp.ret rfl
theorem AM_ (x:ao_) (hw:w4_ x) (a:Int) (ha:0≤a∧a≤1048576):Wp (fun k=>jI_ k x a) (fun r=>r≤1048576∧(0≤r→iU_ x)):=by
  unfold iU_
  obtain ⟨w0,w1,w2,w3,w4,w5,w6,w7⟩:=hw
  unfold jI_
  refine Wp.bind (zL_ _ w6 a (by omega)) (fun r0 e0=> ?_)
  first | refine Wp.dec (fun h=>Wp.ret ⟨by omega,fun h=>by omega⟩) (fun h0=> ?_) | refine Wp.ite (fun h=>Wp.ret ⟨by omega,fun h=>by omega⟩) (fun h0=> ?_)
  refine Wp.bind (z5_ _ w7 r0 (by omega)) (fun r1 e1=> ?_)
  first | refine Wp.dec (fun h=>Wp.ret ⟨by omega,fun h=>by omega⟩) (fun h1=>Wp.ret ⟨by omega,fun _=> ?_⟩) | refine Wp.ite (fun h=>Wp.ret ⟨by omega,fun h=>by omega⟩) (fun h1=>Wp.ret ⟨by omega,fun _=> ?_⟩)
  exact ⟨e0.2 (by omega),e1.2 (by omega)⟩
theorem As_ (x:ao_) (h:iU_ x):Wp (fun k=>jO_ k x x) (· =true):=by
  unfold jO_
  unfold iU_ at h
  obtain ⟨h0,h1⟩:=h
  simp only [aF_,af_,aD_,eK_,d4_,cm_,cL_,cond_true,cond_false,Option.bind_some,Bool.not_true,Bool.not_false,if_true,if_false]
  refine Wp.bind (zB_ _ h0) (fun _ e=> ?_);subst e
  simp only [aF_,af_,aD_,eK_,d4_,cm_,cL_,cond_true,cond_false,Option.bind_some,Bool.not_true,Bool.not_false,if_true,if_false]
  refine Wp.bind (yK_ _ h1) (fun _ e=> ?_);subst e
  simp only [aF_,af_,aD_,eK_,d4_,cm_,cL_,cond_true,cond_false,Option.bind_some,Bool.not_true,Bool.not_false,if_true,if_false]
  exact Wp.ret rfl
end Km.X
namespace Km.X
open Go Km
set_option linter.unusedVariables false
set_option linter.unusedSimpArgs false
def e2_ (x:ac_):Prop:=x.Sent.size≤1048576∧x.Bytes.size≤1048576
def es_ (x:ab_):Prop:=x.Text.size≤1048576
def fR_ (x:ae_):Prop:=x.Key.size≤1048576∧smL iU_ x.Ends∧smL e2_ x.Flight∧x.Forged.size≤1048576∧smL es_ x.Given∧smL es_ x.Taken
end Km.X
namespace Km.X
open Go Km
set_option linter.unusedVariables false
set_option linter.unusedSimpArgs false
theorem vN_ (x:ac_) (h:e2_ x):Wp (fun k=>if_ k x) (· =x):=Wp.ret rfl
theorem vs_ (x:ab_) (h:es_ x):Wp (fun k=>hU_ k x) (· =x):=Wp.ret rfl
theorem yq_ (xs:List ao_) (h:smL iU_ xs):Wp (fun k=>hV_ k xs) (· =xs):=by
  unfold hV_
  obtain ⟨hl,hp⟩:=h
  refine Wp.opt (x:=xs.length) (by rw [if_pos rfl];exact la_ (by omega)) ?_
  refine Wp.loop (n:=xs.length) (f:=fun k i (ys:List ao_)=>dm_ k xs (i:Int) ys) (Inv:=fun i ys=>ys.length=xs.length∧ys.take i=xs.take i) (Q:=(· =xs)) ?_ ?_ xs.length 0 _ (by omega) ⟨by simp,by simp⟩
  ·rintro i ys hi ⟨h1,h2⟩ ih
   refine Wp.step ?_
   simp only [dm_]
   simp (disch:=omega) only [af_,if_pos,r5_,A6_,Option.bind_some,aF_,hi_,Int.ofNat_lt]
   refine Wp.bind (Ao_ _ (hp _ (List.getElem_mem hi))) (fun _ e=> ?_);subst e
   refine ih _ ⟨by simpa using h1, ?_⟩
   rw [Int.toNat_natCast,List.take_add_one,List.take_add_one,List.getElem?_set_self (by omega),List.take_set,List.set_eq_of_length_le (by simp;omega),h2,List.getElem?_eq_getElem hi]
  ·rintro ys ⟨h1,h2⟩
   refine Wp.step ?_
   simp only [dm_]
   simp (disch:=omega) only [af_,if_neg]
   rw [List.take_of_length_le (by omega),List.take_of_length_le (by omega)] at h2
   exact Wp.ret h2
theorem uR_ (xs:List ac_) (h:smL e2_ xs):Wp (fun k=>fB_ k xs) (· =xs):=by
  unfold fB_
  obtain ⟨hl,hp⟩:=h
  refine Wp.opt (x:=xs.length) (by rw [if_pos rfl];exact la_ (by omega)) ?_
  refine Wp.loop (n:=xs.length) (f:=fun k i (ys:List ac_)=>ci_ k xs (i:Int) ys) (Inv:=fun i ys=>ys.length=xs.length∧ys.take i=xs.take i) (Q:=(· =xs)) ?_ ?_ xs.length 0 _ (by omega) ⟨by simp,by simp⟩
  ·rintro i ys hi ⟨h1,h2⟩ ih
   refine Wp.step ?_
   simp only [ci_]
   simp (disch:=omega) only [af_,if_pos,r5_,A6_,Option.bind_some,aF_,hi_,Int.ofNat_lt]
   refine Wp.bind (vN_ _ (hp _ (List.getElem_mem hi))) (fun _ e=> ?_);subst e
   refine ih _ ⟨by simpa using h1, ?_⟩
   rw [Int.toNat_natCast,List.take_add_one,List.take_add_one,List.getElem?_set_self (by omega),List.take_set,List.set_eq_of_length_le (by simp;omega),h2,List.getElem?_eq_getElem hi]
  ·rintro ys ⟨h1,h2⟩
   refine Wp.step ?_
   simp only [ci_]
   simp (disch:=omega) only [af_,if_neg]
   rw [List.take_of_length_le (by omega),List.take_of_length_le (by omega)] at h2
   exact Wp.ret h2
theorem nN_ (xs:List ab_) (h:smL es_ xs):Wp (fun k=>ej_ k xs) (· =xs):=by
  unfold ej_
  obtain ⟨hl,hp⟩:=h
  refine Wp.opt (x:=xs.length) (by rw [if_pos rfl];exact la_ (by omega)) ?_
  refine Wp.loop (n:=xs.length) (f:=fun k i (ys:List ab_)=>cg_ k xs (i:Int) ys) (Inv:=fun i ys=>ys.length=xs.length∧ys.take i=xs.take i) (Q:=(· =xs)) ?_ ?_ xs.length 0 _ (by omega) ⟨by simp,by simp⟩
  ·rintro i ys hi ⟨h1,h2⟩ ih
   refine Wp.step ?_
   simp only [cg_]
   simp (disch:=omega) only [af_,if_pos,r5_,A6_,Option.bind_some,aF_,hi_,Int.ofNat_lt]
   refine Wp.bind (vs_ _ (hp _ (List.getElem_mem hi))) (fun _ e=> ?_);subst e
   refine ih _ ⟨by simpa using h1, ?_⟩
   rw [Int.toNat_natCast,List.take_add_one,List.take_add_one,List.getElem?_set_self (by omega),List.take_set,List.set_eq_of_length_le (by simp;omega),h2,List.getElem?_eq_getElem hi]
  ·rintro ys ⟨h1,h2⟩
   refine Wp.step ?_
   simp only [cg_]
   simp (disch:=omega) only [af_,if_neg]
   rw [List.take_of_length_le (by omega),List.take_of_length_le (by omega)] at h2
   exact Wp.ret h2
theorem jJ_ (x:ae_) (h:fR_ x):Wp (fun k=>dJ_ k x) (· =x):=by
  unfold fR_ at h
  obtain ⟨h0,h1,h2,h3,h4,h5⟩:=h
  unfold dJ_
  refine Wp.bind (yq_ _ h1) (fun _ e=> ?_);subst e
  refine Wp.bind (uR_ _ h2) (fun _ e=> ?_);subst e
  refine Wp.bind (nN_ _ h4) (fun _ e=> ?_);subst e
  refine Wp.bind (nN_ _ h5) (fun _ e=> ?_);subst e
  exact Wp.ret rfl
theorem vu_ (x:ac_) (hw:jy_ x) (a:Int) (ha:0≤a∧a≤1048576):Wp (fun k=>gb_ k x a) (fun r=>r≤1048576∧(0≤r→e2_ x)):=by
  unfold e2_
  unfold jy_ at hw
  unfold gb_
  obtain ⟨_,h1,h2⟩:=hw
  have h1:x.Sent.size≤2^63-1:=h1
  have h2:x.Bytes.size≤2^63-1:=h2
  try simp (disch:=omega) only [aF_,af_]
  refine Wp.ite (fun h=>Wp.ret ⟨by omega,fun h=>by omega⟩) (fun h=> ?_)
  try simp (disch:=omega) only [aF_]
  refine Wp.ite (fun h=>Wp.ret ⟨by omega,fun h=>by omega⟩) (fun h=>Wp.ret ⟨by omega,fun _=>by omega⟩)
theorem vM_ (x:ab_) (hw:iQ_ x) (a:Int) (ha:0≤a∧a≤1048576):Wp (fun k=>f2_ k x a) (fun r=>r≤1048576∧(0≤r→es_ x)):=by
  unfold es_
  unfold iQ_ at hw
  unfold f2_
  have h1:x.Text.size≤2^63-1:=by first | exact hw.1 | exact hw.2.2.2.2.2.2.2.2 | exact hw.2.2.2.2 | exact hw.2.2.2
  try simp (disch:=omega) only [aF_,af_]
  refine Wp.ite (fun h=>Wp.ret ⟨by omega,fun h=>by omega⟩) (fun h=>Wp.ret ⟨by omega,fun _=>by omega⟩)
theorem yD_ (xs:List ao_) (hw:xs.length≤maxLen∧∀y∈xs,yr_ y) (a:Int) (ha:0≤a∧a≤1048576):Wp (fun k=>hS_ k xs a) (fun r=>r≤1048576∧(0≤r→smL iU_ xs)):=by
  obtain ⟨hl,hp⟩:=hw
  have hl:xs.length≤2^63-1:=hl
  unfold hS_
  try simp (disch:=omega) only [aF_,af_]
  refine Wp.ite (fun h=>Wp.ret ⟨by omega,fun h=>by omega⟩) (fun h=> ?_)
  refine Wp.loop (n:=xs.length) (f:=fun k i (l:Int)=>dq_ k xs l (i:Int)) (Inv:=fun i l=>(0≤l∧l≤1048576)∧∀j (hj:j<xs.length),j<i→iU_ xs[j]) (Q:=fun r=>r≤1048576∧(0≤r→smL iU_ xs)) ?_ ?_ xs.length 0 (a-xs.length) (by omega) ⟨by omega,fun j _ h=>by omega⟩
  ·rintro i l hi ⟨h1,h2⟩ ih
   refine Wp.step ?_
   simp only [dq_]
   simp (disch:=omega) only [af_,if_pos,r5_,Option.bind_some,aF_,hi_]
   refine Wp.bind (AM_ _ (hp _ (List.getElem_mem hi)) l h1) (fun r hr=> ?_)
   refine Wp.ite (fun h=>Wp.ret ⟨by omega,fun h=>by omega⟩) (fun h=> ?_)
   refine ih _ ⟨by omega,fun j hj hji=> ?_⟩
   by_cases e:j=i
   ·subst e;exact hr.2 (by omega)
   ·exact h2 j hj (by omega)
  ·rintro l ⟨h1,h2⟩
   refine Wp.step ?_
   simp only [dq_]
   simp (disch:=omega) only [af_,if_neg]
   refine Wp.ret ⟨by omega,fun _=>⟨by omega,fun y hy=> ?_⟩⟩
   obtain ⟨j,hj,rfl⟩:=List.getElem_of_mem hy
   exact h2 j hj hj
theorem tH_ (xs:List ac_) (hw:xs.length≤maxLen∧∀y∈xs,pA_ y) (a:Int) (ha:0≤a∧a≤1048576):Wp (fun k=>fu_ k xs a) (fun r=>r≤1048576∧(0≤r→smL e2_ xs)):=by
  obtain ⟨hl,hp⟩:=hw
  have hl:xs.length≤2^63-1:=hl
  unfold fu_
  try simp (disch:=omega) only [aF_,af_]
  refine Wp.ite (fun h=>Wp.ret ⟨by omega,fun h=>by omega⟩) (fun h=> ?_)
  refine Wp.loop (n:=xs.length) (f:=fun k i (l:Int)=>cd_ k xs l (i:Int)) (Inv:=fun i l=>(0≤l∧l≤1048576)∧∀j (hj:j<xs.length),j<i→e2_ xs[j]) (Q:=fun r=>r≤1048576∧(0≤r→smL e2_ xs)) ?_ ?_ xs.length 0 (a-xs.length) (by omega) ⟨by omega,fun j _ h=>by omega⟩
  ·rintro i l hi ⟨h1,h2⟩ ih
   refine Wp.step ?_
   simp only [cd_]
   simp (disch:=omega) only [af_,if_pos,r5_,Option.bind_some,aF_,hi_]
   refine Wp.bind (vu_ _ (hp _ (List.getElem_mem hi)) l h1) (fun r hr=> ?_)
   refine Wp.ite (fun h=>Wp.ret ⟨by omega,fun h=>by omega⟩) (fun h=> ?_)
   refine ih _ ⟨by omega,fun j hj hji=> ?_⟩
   by_cases e:j=i
   ·subst e;exact hr.2 (by omega)
   ·exact h2 j hj (by omega)
  ·rintro l ⟨h1,h2⟩
   refine Wp.step ?_
   simp only [cd_]
   simp (disch:=omega) only [af_,if_neg]
   refine Wp.ret ⟨by omega,fun _=>⟨by omega,fun y hy=> ?_⟩⟩
   obtain ⟨j,hj,rfl⟩:=List.getElem_of_mem hy
   exact h2 j hj hj
theorem nn_ (xs:List ab_) (hw:xs.length≤maxLen∧∀y∈xs,mh_ y) (a:Int) (ha:0≤a∧a≤1048576):Wp (fun k=>d9_ k xs a) (fun r=>r≤1048576∧(0≤r→smL es_ xs)):=by
  obtain ⟨hl,hp⟩:=hw
  have hl:xs.length≤2^63-1:=hl
  unfold d9_
  try simp (disch:=omega) only [aF_,af_]
  refine Wp.ite (fun h=>Wp.ret ⟨by omega,fun h=>by omega⟩) (fun h=> ?_)
  refine Wp.loop (n:=xs.length) (f:=fun k i (l:Int)=>cj_ k xs l (i:Int)) (Inv:=fun i l=>(0≤l∧l≤1048576)∧∀j (hj:j<xs.length),j<i→es_ xs[j]) (Q:=fun r=>r≤1048576∧(0≤r→smL es_ xs)) ?_ ?_ xs.length 0 (a-xs.length) (by omega) ⟨by omega,fun j _ h=>by omega⟩
  ·rintro i l hi ⟨h1,h2⟩ ih
   refine Wp.step ?_
   simp only [cj_]
   simp (disch:=omega) only [af_,if_pos,r5_,Option.bind_some,aF_,hi_]
   refine Wp.bind (vM_ _ (hp _ (List.getElem_mem hi)) l h1) (fun r hr=> ?_)
   refine Wp.ite (fun h=>Wp.ret ⟨by omega,fun h=>by omega⟩) (fun h=> ?_)
   refine ih _ ⟨by omega,fun j hj hji=> ?_⟩
   by_cases e:j=i
   ·subst e;exact hr.2 (by omega)
   ·exact h2 j hj (by omega)
  ·rintro l ⟨h1,h2⟩
   refine Wp.step ?_
   simp only [cj_]
   simp (disch:=omega) only [af_,if_neg]
   refine Wp.ret ⟨by omega,fun _=>⟨by omega,fun y hy=> ?_⟩⟩
   obtain ⟨j,hj,rfl⟩:=List.getElem_of_mem hy
   exact h2 j hj hj
theorem xs_ (x:ae_) (hw:tu_ x) (a:Int) (ha:0≤a∧a≤1048576):Wp (fun k=>gO_ k x a) (fun r=>r≤1048576∧(0≤r→fR_ x)):=by
  unfold fR_
  obtain ⟨w0,w1,w2,w3,w4,w5,w6⟩:=hw
  unfold gO_
  have s0:x.Key.size≤2^63-1:=w0
  try simp (disch:=omega) only [aF_,af_]
  refine Wp.ite (fun h=>Wp.ret ⟨by omega,fun h=>by omega⟩) (fun h0=> ?_)
  refine Wp.bind (yD_ _ w2 (a-(x.Key.size:Int)) (by omega)) (fun r1 e1=> ?_)
  first | refine Wp.dec (fun h=>Wp.ret ⟨by omega,fun h=>by omega⟩) (fun h1=> ?_) | refine Wp.ite (fun h=>Wp.ret ⟨by omega,fun h=>by omega⟩) (fun h1=> ?_)
  refine Wp.bind (tH_ _ w3 r1 (by omega)) (fun r2 e2=> ?_)
  first | refine Wp.dec (fun h=>Wp.ret ⟨by omega,fun h=>by omega⟩) (fun h2=> ?_) | refine Wp.ite (fun h=>Wp.ret ⟨by omega,fun h=>by omega⟩) (fun h2=> ?_)
  have s3:x.Forged.size≤2^63-1:=w4
  try simp (disch:=omega) only [aF_,af_]
  refine Wp.ite (fun h=>Wp.ret ⟨by omega,fun h=>by omega⟩) (fun h3=> ?_)
  refine Wp.bind (nn_ _ w5 (r2-(x.Forged.size:Int)) (by omega)) (fun r4 e4=> ?_)
  first | refine Wp.dec (fun h=>Wp.ret ⟨by omega,fun h=>by omega⟩) (fun h4=> ?_) | refine Wp.ite (fun h=>Wp.ret ⟨by omega,fun h=>by omega⟩) (fun h4=> ?_)
  refine Wp.bind (nn_ _ w6 r4 (by omega)) (fun r5 e5=> ?_)
  first | refine Wp.dec (fun h=>Wp.ret ⟨by omega,fun h=>by omega⟩) (fun h5=>Wp.ret ⟨by omega,fun _=> ?_⟩) | refine Wp.ite (fun h=>Wp.ret ⟨by omega,fun h=>by omega⟩) (fun h5=>Wp.ret ⟨by omega,fun _=> ?_⟩)
  exact ⟨(by omega),e1.2 (by omega),e2.2 (by omega),(by omega),e4.2 (by omega),e5.2 (by omega)⟩
theorem wu_ (x:ac_) (h:e2_ x):Wp (fun k=>gl_ k x x) (· =true):=by
  unfold gl_
  unfold e2_ at h
  obtain ⟨h0,h1⟩:=h
  simp only [aF_,af_,aD_,eK_,d4_,cm_,cL_,cond_true,cond_false,Option.bind_some,Bool.not_true,Bool.not_false,if_true,if_false]
  exact Wp.ret rfl
theorem vP_ (x:ab_) (h:es_ x):Wp (fun k=>f5_ k x x) (· =true):=by
  unfold f5_
  unfold es_ at h
  have h0:=h
  simp only [aF_,af_,aD_,eK_,d4_,cm_,cL_,cond_true,cond_false,Option.bind_some,Bool.not_true,Bool.not_false,if_true,if_false]
  exact Wp.ret rfl
theorem zw_ (xs:List ao_) (h:smL iU_ xs):Wp (fun k=>hR_ k xs xs) (· =true):=by
  unfold hR_
  obtain ⟨hl,hp⟩:=h
  simp only [d4_,if_true]
  refine Wp.loop (n:=xs.length) (f:=fun k i (_:Unit)=>dr_ k xs xs (i:Int)) (Inv:=fun _ _=>True) (Q:=(· =true)) ?_ ?_ xs.length 0 () (by omega) trivial
  ·rintro i _ hi _ ih
   refine Wp.step ?_
   simp only [dr_]
   simp (disch:=omega) only [af_,if_pos,r5_,Option.bind_some,aF_,hi_]
   refine Wp.bind (As_ _ (hp _ (List.getElem_mem hi))) (fun _ e=> ?_);subst e
   simp only [aF_,af_,aD_,eK_,d4_,cm_,cL_,cond_true,cond_false,Option.bind_some,Bool.not_true,Bool.not_false,if_true,if_false]
   exact ih () trivial
  ·rintro _ _
   refine Wp.step ?_
   simp only [dr_]
   simp (disch:=omega) only [af_,if_neg]
   exact Wp.ret rfl
theorem uh_ (xs:List ac_) (h:smL e2_ xs):Wp (fun k=>fy_ k xs xs) (· =true):=by
  unfold fy_
  obtain ⟨hl,hp⟩:=h
  simp only [d4_,if_true]
  refine Wp.loop (n:=xs.length) (f:=fun k i (_:Unit)=>ch_ k xs xs (i:Int)) (Inv:=fun _ _=>True) (Q:=(· =true)) ?_ ?_ xs.length 0 () (by omega) trivial
  ·rintro i _ hi _ ih
   refine Wp.step ?_
   simp only [ch_]
   simp (disch:=omega) only [af_,if_pos,r5_,Option.bind_some,aF_,hi_]
   refine Wp.bind (wu_ _ (hp _ (List.getElem_mem hi))) (fun _ e=> ?_);subst e
   simp only [aF_,af_,aD_,eK_,d4_,cm_,cL_,cond_true,cond_false,Option.bind_some,Bool.not_true,Bool.not_false,if_true,if_false]
   exact ih () trivial
  ·rintro _ _
   refine Wp.step ?_
   simp only [ch_]
   simp (disch:=omega) only [af_,if_neg]
   exact Wp.ret rfl
theorem nv_ (xs:List ab_) (h:smL es_ xs):Wp (fun k=>ef_ k xs xs) (· =true):=by
  unfold ef_
  obtain ⟨hl,hp⟩:=h
  simp only [d4_,if_true]
  refine Wp.loop (n:=xs.length) (f:=fun k i (_:Unit)=>cb_ k xs xs (i:Int)) (Inv:=fun _ _=>True) (Q:=(· =true)) ?_ ?_ xs.length 0 () (by omega) trivial
  ·rintro i _ hi _ ih
   refine Wp.step ?_
   simp only [cb_]
   simp (disch:=omega) only [af_,if_pos,r5_,Option.bind_some,aF_,hi_]
   refine Wp.bind (vP_ _ (hp _ (List.getElem_mem hi))) (fun _ e=> ?_);subst e
   simp only [aF_,af_,aD_,eK_,d4_,cm_,cL_,cond_true,cond_false,Option.bind_some,Bool.not_true,Bool.not_false,if_true,if_false]
   exact ih () trivial
  ·rintro _ _
   refine Wp.step ?_
   simp only [cb_]
   simp (disch:=omega) only [af_,if_neg]
   exact Wp.ret rfl
theorem jE_ (x:ae_) (h:fR_ x):Wp (fun k=>dR_ k x x) (· =true):=by
  unfold dR_
  unfold fR_ at h
  obtain ⟨h0,h1,h2,h3,h4,h5⟩:=h
  simp only [aF_,af_,aD_,eK_,d4_,cm_,cL_,cond_true,cond_false,Option.bind_some,Bool.not_true,Bool.not_false,if_true,if_false]
  refine Wp.bind (zw_ _ h1) (fun _ e=> ?_);subst e
  simp only [aF_,af_,aD_,eK_,d4_,cm_,cL_,cond_true,cond_false,Option.bind_some,Bool.not_true,Bool.not_false,if_true,if_false]
  refine Wp.bind (uh_ _ h2) (fun _ e=> ?_);subst e
  simp only [aF_,af_,aD_,eK_,d4_,cm_,cL_,cond_true,cond_false,Option.bind_some,Bool.not_true,Bool.not_false,if_true,if_false]
  refine Wp.bind (nv_ _ h4) (fun _ e=> ?_);subst e
  simp only [aF_,af_,aD_,eK_,d4_,cm_,cL_,cond_true,cond_false,Option.bind_some,Bool.not_true,Bool.not_false,if_true,if_false]
  refine Wp.bind (nv_ _ h5) (fun _ e=> ?_);subst e
  simp only [aF_,af_,aD_,eK_,d4_,cm_,cL_,cond_true,cond_false,Option.bind_some,Bool.not_true,Bool.not_false,if_true,if_false]
  exact Wp.ret rfl
end Km.X
namespace Km.X
open Go Km
set_option linter.unusedVariables false
set_option linter.unusedSimpArgs false
def fC_:Int→List ac_→Prop
  | _,[]=>True
  | k,x::t=>(x.To=k∧x.Sent=mt (k+1)∧x.Bytes=mt (k+2))∧fC_ (k+3) t
theorem ix_:∀(t pre:List ac_) (k:Int),(pre++t).length≤100000000→0≤k→k+3*t.length≤100000000000000→fC_ k t→Wp (fun n=>bk_ n (pre++t) k (pre.length:Int)) (· =k+3*t.length)
  | [],pre,k,hl,h0,hk,_=>by
    refine Wp.step ?_
    simp only [bk_,List.append_nil]
    simp (disch:=omega) only [af_,if_neg]
    exact Wp.ret (by simp)
  | x::t,pre,k,hl,h0,hk,hm=>by
    simp only [fC_] at hm
    obtain ⟨hm,hm2⟩:=hm
    simp only [List.length_append,List.length_cons] at hl hk
    refine Wp.step ?_
    simp only [bk_]
    have hlt:=a0_ (pre:=pre) (t:=t) (x:=x)
    obtain ⟨m0,m1,m2⟩:=hm
    simp (disch:=first | omega | rfl | assumption) only [af_,d4_,aD_,cL_,cm_,if_pos,if_neg,if_true,eq_self,Int.reduceAdd,av_,Option.bind_some,aF_,aW_,oL_,hlt,m0,m1,m2]
    refine Wp.bind (bs_ (by omega)) (fun _ e=> ?_);subst e
    try simp (disch:=first | omega | rfl | assumption) only [af_,d4_,aD_,cL_,cm_,if_pos,if_neg,if_true,eq_self,Int.reduceAdd,av_,Option.bind_some,aF_,aW_,oL_,hlt,m0,m1,m2]
    refine Wp.bind (bs_ (by omega)) (fun _ e=> ?_);subst e
    try simp (disch:=first | omega | rfl | assumption) only [af_,d4_,aD_,cL_,cm_,if_pos,if_neg,if_true,eq_self,Int.reduceAdd,av_,Option.bind_some,aF_,aW_,oL_,hlt,m0,m1,m2]
    have ih:Wp (fun n=>bk_ n (pre++x::t) (k+3) ((pre.length:Int)+1)) (· =k+3+3*t.length):=by
      have:=ix_ t (pre++[x]) (k+3) (by simp;omega) (by omega) (by omega) hm2
      rwa [←aE_,←aR_] at this
    exact ih.mono (fun r hr=>by simp only [List.length_cons];omega)
theorem q4_ {k:Int} {l:List ac_} (h0:0≤k) (hk:k+3*l.length≤100000000000000) (hl:l.length≤100000000) (hm:fC_ k l):Wp (fun n=>ev_ n l k) (· =k+3*l.length):=by
  unfold ev_
  exact ix_ l [] k (by simpa using hl) h0 hk hm
theorem iC_:∀(t pre:List ac_) (k:Int),(pre++t).length≤100000000→0≤k→k+3*t.length≤100000000000000→Wp (fun n=>bg_ n k (pre.length:Int) (pre++t)) (fun r=>r.1=k+3*t.length∧∃t',r.2=pre++t'∧t'.length=t.length∧fC_ k t')
  | [],pre,k,hl,h0,hk=>by
    refine Wp.step ?_
    simp only [bg_,List.append_nil]
    simp (disch:=omega) only [af_,if_neg]
    exact Wp.ret ⟨by simp,[],by simp,rfl,trivial⟩
  | x::t,pre,k,hl,h0,hk=>by
    simp only [List.length_append,List.length_cons] at hl hk
    refine Wp.step ?_
    simp only [bg_]
    simp (disch:=omega) only [af_,if_pos,if_true,Int.reduceAdd,a0_,av_,bw_,set_mid,Option.bind_some,aF_,aW_,oL_]
    refine Wp.bind (bs_ (by omega)) (fun _ e=> ?_);subst e
    try simp (disch:=omega) only [af_,if_pos,if_true,Int.reduceAdd,a0_,av_,bw_,set_mid,Option.bind_some,aF_,aW_,oL_]
    refine Wp.bind (bs_ (by omega)) (fun _ e=> ?_);subst e
    try simp (disch:=omega) only [af_,if_pos,if_true,Int.reduceAdd,a0_,av_,bw_,set_mid,Option.bind_some,aF_,aW_,oL_]
    have key:∀y:ac_,(y.To=k∧y.Sent=mt (k+1)∧y.Bytes=mt (k+2))→Wp (fun n=>bg_ n (k+3) ((pre.length:Int)+1) (pre++y::t)) (fun r=>r.1=k+3*(x::t).length∧∃t',r.2=pre++t'∧t'.length=(x::t).length∧fC_ k t'):=fun y hy=>by
      have:=iC_ t (pre++[y]) (k+3) (by simp;omega) (by omega) (by omega)
      rw [←aE_,←aR_] at this
      refine this.mono ?_
      rintro ⟨r1,r2⟩ ⟨e1,t',e2,e3,e4⟩
      refine ⟨by simp only [List.length_cons] at*;omega,y::t',by rw [e2];simp,by simp [e3], ?_⟩
      simp only [fC_]
      exact ⟨hy,e4⟩
    exact key _ (by simp)
theorem qX_ {k:Int} {l:List ac_} (h0:0≤k) (hk:k+3*l.length≤100000000000000) (hl:l.length≤100000000):Wp (fun n=>ex_ n l k) (fun r=>r.1=k+3*l.length∧r.2.length=l.length∧fC_ k r.2):=by
  unfold ex_
  refine (iC_ l [] k (by simpa using hl) h0 hk).mono ?_
  rintro ⟨r1,r2⟩ ⟨e1,t',e2,e3,e4⟩
  simp only [List.nil_append] at e2
  subst e2
  exact ⟨e1,e3,e4⟩
def fJ_:Int→List ab_→Prop
  | _,[]=>True
  | k,x::t=>(x.From=k∧x.A=(k+1)∧x.B=(k+2)∧x.Text=mt (k+3))∧fJ_ (k+4) t
theorem is_:∀(t pre:List ab_) (k:Int),(pre++t).length≤100000000→0≤k→k+4*t.length≤100000000000000→fJ_ k t→Wp (fun n=>bl_ n (pre++t) k (pre.length:Int)) (· =k+4*t.length)
  | [],pre,k,hl,h0,hk,_=>by
    refine Wp.step ?_
    simp only [bl_,List.append_nil]
    simp (disch:=omega) only [af_,if_neg]
    exact Wp.ret (by simp)
  | x::t,pre,k,hl,h0,hk,hm=>by
    simp only [fJ_] at hm
    obtain ⟨hm,hm2⟩:=hm
    simp only [List.length_append,List.length_cons] at hl hk
    refine Wp.step ?_
    simp only [bl_]
    have hlt:=a0_ (pre:=pre) (t:=t) (x:=x)
    obtain ⟨m0,m1,m2,m3⟩:=hm
    simp (disch:=first | omega | rfl | assumption) only [af_,d4_,aD_,cL_,cm_,if_pos,if_neg,if_true,eq_self,Int.reduceAdd,av_,Option.bind_some,aF_,aW_,oL_,hlt,m0,m1,m2,m3]
    refine Wp.bind (bs_ (by omega)) (fun _ e=> ?_);subst e
    try simp (disch:=first | omega | rfl | assumption) only [af_,d4_,aD_,cL_,cm_,if_pos,if_neg,if_true,eq_self,Int.reduceAdd,av_,Option.bind_some,aF_,aW_,oL_,hlt,m0,m1,m2,m3]
    have ih:Wp (fun n=>bl_ n (pre++x::t) (k+4) ((pre.length:Int)+1)) (· =k+4+4*t.length):=by
      have:=is_ t (pre++[x]) (k+4) (by simp;omega) (by omega) (by omega) hm2
      rwa [←aE_,←aR_] at this
    exact ih.mono (fun r hr=>by simp only [List.length_cons];omega)
theorem kp_ {k:Int} {l:List ab_} (h0:0≤k) (hk:k+4*l.length≤100000000000000) (hl:l.length≤100000000) (hm:fJ_ k l):Wp (fun n=>dl_ n l k) (· =k+4*l.length):=by
  unfold dl_
  exact is_ l [] k (by simpa using hl) h0 hk hm
theorem iE_:∀(t pre:List ab_) (k:Int),(pre++t).length≤100000000→0≤k→k+4*t.length≤100000000000000→Wp (fun n=>bm_ n k (pre.length:Int) (pre++t)) (fun r=>r.1=k+4*t.length∧∃t',r.2=pre++t'∧t'.length=t.length∧fJ_ k t')
  | [],pre,k,hl,h0,hk=>by
    refine Wp.step ?_
    simp only [bm_,List.append_nil]
    simp (disch:=omega) only [af_,if_neg]
    exact Wp.ret ⟨by simp,[],by simp,rfl,trivial⟩
  | x::t,pre,k,hl,h0,hk=>by
    simp only [List.length_append,List.length_cons] at hl hk
    refine Wp.step ?_
    simp only [bm_]
    simp (disch:=omega) only [af_,if_pos,if_true,Int.reduceAdd,a0_,av_,bw_,set_mid,Option.bind_some,aF_,aW_,oL_]
    refine Wp.bind (bs_ (by omega)) (fun _ e=> ?_);subst e
    try simp (disch:=omega) only [af_,if_pos,if_true,Int.reduceAdd,a0_,av_,bw_,set_mid,Option.bind_some,aF_,aW_,oL_]
    have key:∀y:ab_,(y.From=k∧y.A=(k+1)∧y.B=(k+2)∧y.Text=mt (k+3))→Wp (fun n=>bm_ n (k+4) ((pre.length:Int)+1) (pre++y::t)) (fun r=>r.1=k+4*(x::t).length∧∃t',r.2=pre++t'∧t'.length=(x::t).length∧fJ_ k t'):=fun y hy=>by
      have:=iE_ t (pre++[y]) (k+4) (by simp;omega) (by omega) (by omega)
      rw [←aE_,←aR_] at this
      refine this.mono ?_
      rintro ⟨r1,r2⟩ ⟨e1,t',e2,e3,e4⟩
      refine ⟨by simp only [List.length_cons] at*;omega,y::t',by rw [e2];simp,by simp [e3], ?_⟩
      simp only [fJ_]
      exact ⟨hy,e4⟩
    exact key _ (by simp)
theorem ks_ {k:Int} {l:List ab_} (h0:0≤k) (hk:k+4*l.length≤100000000000000) (hl:l.length≤100000000):Wp (fun n=>di_ n l k) (fun r=>r.1=k+4*l.length∧r.2.length=l.length∧fJ_ k r.2):=by
  unfold di_
  refine (iE_ l [] k (by simpa using hl) h0 hk).mono ?_
  rintro ⟨r1,r2⟩ ⟨e1,t',e2,e3,e4⟩
  simp only [List.nil_append] at e2
  subst e2
  exact ⟨e1,e3,e4⟩
end Km.X
namespace Km.X
open Go Km
set_option linter.unusedVariables false
set_option linter.unusedSimpArgs false
set_option maxRecDepth 10000
set_option maxHeartbeats 2000000
def og_ (x:ao_):Int:=9+4*(x.Send.Items.length:Int)+3*(x.Take.Held.length:Int)+1*(x.Take.Ready.length:Int)
def fO_:List ao_→Int
  | []=>0
  | x::t=>og_ x+fO_ t
theorem vv_ {x:ao_} (h:iU_ x):0≤og_ x∧og_ x≤8388617:=by
  obtain ⟨h1,h2,_,h3⟩:=h
  have:=h1.1;have:=h2.1;have:=h3.1
  unfold og_;omega
theorem tp_:∀{t:List ao_},(∀x∈t,iU_ x)→0≤fO_ t∧fO_ t≤8388617*t.length
  | [],_=>by simp [fO_]
  | x::t,h=>by
    have h1:=vv_ (h x (List.mem_cons_self ..))
    have h2:=tp_ (t:=t) fun y hy=>h y (List.mem_cons_of_mem _ hy)
    simp only [fO_,List.length_cons];omega
def DY_ (k:Int) (x:ao_):Prop:=
  x.Number=k∧x.Up=((k+1)%3==0)∧x.Life=k+2∧x.Peer=k+3∧x.Since=k+4∧x.Owes=((k+5)%3==0)∧x.Send.Base=k+6∧hY_ (k+7) x.Send.Items∧
    x.Take.Next=k+7+4*(x.Send.Items.length:Int)∧hj_ (k+8+4*(x.Send.Items.length:Int)) x.Take.Held∧x.Take.Open=mt (k+8+4*(x.Send.Items.length:Int)+3*(x.Take.Held.length:Int))∧
    eg_ (k+9+4*(x.Send.Items.length:Int)+3*(x.Take.Held.length:Int)) x.Take.Ready
def w9_:Int→List ao_→Prop
  | _,[]=>True
  | k,x::t=>DY_ k x∧w9_ (k+og_ x) t
theorem lM_:∀(t pre:List ao_) (k:Int),(pre++t).length≤100000000→0≤k→(∀x∈t,iU_ x)→k+fO_ t≤100000000000000→
    Wp (fun n=>bY_ n k (pre.length:Int) (pre++t)) (fun r=>r.1=k+fO_ t∧∃t',r.2=pre++t'∧t'.length=t.length∧w9_ k t'∧t'.map og_=t.map og_)
  | [],pre,k,hl,h0,hs,hk=>by
    refine Wp.step ?_
    simp only [bY_,List.append_nil]
    simp (disch:=omega) only [af_,if_neg]
    exact Wp.ret ⟨by simp [fO_],[],by simp,rfl,trivial,rfl⟩
  | x::t,pre,k,hl,h0,hs,hk=>by
    have hx:=hs x (List.mem_cons_self ..)
    have hb:=tp_ (t:=t) fun y hy=>hs y (List.mem_cons_of_mem _ hy)
    have hn:=vv_ hx
    obtain ⟨⟨hi,_⟩,⟨hh,_⟩,_,⟨hr,_⟩⟩:=hx
    obtain ⟨n,u,li,p,s,ow,⟨b,i⟩,⟨nn,h,o,l⟩⟩:=x
    simp only [fO_,og_] at hk hn
    dsimp only at hi hh hr hk hn
    simp only [List.length_append,List.length_cons] at hl
    refine Wp.step ?_
    simp only [bY_]
    simp (disch:=omega) only [af_,if_pos,if_true,Int.reduceAdd,a0_,av_,bw_,set_mid,Option.bind_some,aF_,aW_,oL_]
    refine Wp.bind (ua_ (by omega) (by omega) (by omega)) ?_
    rintro ⟨a1,i'⟩ ⟨e1,e2,e3⟩
    dsimp only at e1 e2 e3⊢
    subst e1
    try simp (disch:=omega) only [af_,if_pos,if_true,Int.reduceAdd,a0_,av_,bw_,set_mid,Option.bind_some,aF_,aW_]
    refine Wp.bind (ux_ (by omega) (by omega) (by omega)) ?_
    rintro ⟨a2,h'⟩ ⟨f1,f2,f3⟩
    dsimp only at f1 f2 f3⊢
    subst f1
    try simp (disch:=omega) only [af_,if_pos,if_true,Int.reduceAdd,a0_,av_,bw_,set_mid,Option.bind_some,aF_,aW_]
    refine Wp.bind (bs_ (by omega)) (fun _ e=> ?_);subst e
    try simp (disch:=omega) only [af_,if_pos,if_true,Int.reduceAdd,a0_,av_,bw_,set_mid,Option.bind_some,aF_,aW_]
    refine Wp.bind (rq_ (by omega) (by omega) (by omega)) ?_
    rintro ⟨a3,l'⟩ ⟨g1,g2,g3⟩
    dsimp only at g1 g2 g3⊢
    subst g1
    try simp (disch:=omega) only [af_,if_pos,if_true,Int.reduceAdd,a0_,av_,bw_,set_mid,Option.bind_some,aF_,aW_]
    have key:∀(y:ao_) (q:Int),q=k+(9+4*(i.length:Int)+3*(h.length:Int)+1*(l.length:Int))→og_ y=9+4*(i.length:Int)+3*(h.length:Int)+1*(l.length:Int)→DY_ k y→
     Wp (fun n=>bY_ n q ((pre.length:Int)+1) (pre++y::t)) (fun r=>r.1=k+fO_ (⟨n,u,li,p,s,ow,⟨b,i⟩,⟨nn,h,o,l⟩⟩::t)∧∃t',r.2=pre++t'∧t'.length=(⟨n,u,li,p,s,ow,⟨b,i⟩,⟨nn,h,o,l⟩⟩::t:List ao_).length∧w9_ k t'∧t'.map og_=(⟨n,u,li,p,s,ow,⟨b,i⟩,⟨nn,h,o,l⟩⟩::t:List ao_).map og_):=by
      intro y q hq hy hm
      subst hq
      have:=lM_ t (pre++[y]) (k+(9+4*(i.length:Int)+3*(h.length:Int)+1*(l.length:Int))) (by simp;omega) (by omega) (fun y hy=>hs y (List.mem_cons_of_mem _ hy)) (by omega)
      rw [←aE_,←aR_] at this
      refine this.mono ?_
      rintro ⟨r1,r2⟩ ⟨q1,t',q2,q3,q4,q5⟩
      refine ⟨by simp only [fO_,og_];dsimp only at q1;omega,y::t',by dsimp only at q2;rw [q2];simp,by simp [q3],⟨hm,by rw [hy];exact q4⟩, ?_⟩
      rw [List.map_cons,List.map_cons,q5,hy];rfl
    refine key _ _ (by omega) ?_ ?_
    ·simp only [og_,e2,f2,g2]
    ·refine ⟨rfl,rfl,rfl,rfl,rfl,rfl,rfl,e3, ?_, ?_, ?_, ?_⟩
     ·dsimp only;rw [e2]
     ·dsimp only;rw [e2];exact (show k+7+4*(i.length:Int)+1=k+8+4*(i.length:Int) by omega)▸f3
     ·dsimp only;rw [e2,f2];congr 1;omega
     ·dsimp only;rw [e2,f2];exact (show k+7+4*(i.length:Int)+1+3*(h.length:Int)+1=k+9+4*(i.length:Int)+3*(h.length:Int) by omega)▸g3
theorem ut_:∀{t t':List ao_},t'.map og_=t.map og_→fO_ t'=fO_ t
  | [],[],_=>rfl
  | [],_::_,h=>by simp at h
  | _::_,[],h=>by simp at h
  | x::t,y::t',h=>by
    simp only [List.map_cons,List.cons.injEq] at h
    simp only [fO_,h.1,ut_ h.2]
theorem mm_:∀(t pre:List ao_) (k:Int),(pre++t).length≤100000000→0≤k→(∀x∈t,og_ x≤8388617)→0≤fO_ t→k+fO_ t≤100000000000000→w9_ k t→
    Wp (fun n=>b3_ n (pre++t) k (pre.length:Int)) (· =k+fO_ t)
  | [],pre,k,hl,h0,hs,_,hk,_=>by
    refine Wp.step ?_
    simp only [b3_,List.append_nil]
    simp (disch:=omega) only [af_,if_neg]
    exact Wp.ret (by simp [fO_])
  | x::t,pre,k,hl,h0,hs,hz,hk,hm=>by
    have hx:=hs x (List.mem_cons_self ..)
    obtain ⟨hm,hm2⟩:=hm
    have hlt:=a0_ (pre:=pre) (t:=t) (x:=x)
    have hnn:0≤og_ x:=by unfold og_;omega
    have hz':0≤fO_ t:=by
      have:∀t:List ao_,0≤fO_ t:=fun t=>by
        induction t with
        | nil=>simp [fO_]
        | cons y t ih=>simp only [fO_,og_];omega
      exact this t
    obtain ⟨m0,m1,m2,m3,m4,m5,m6,m7,m8,m9,m10,m11⟩:=hm
    simp only [fO_] at hk hz⊢
    have hxe:og_ x=9+4*(x.Send.Items.length:Int)+3*(x.Take.Held.length:Int)+1*(x.Take.Ready.length:Int):=rfl
    have ih:=mm_ t (pre++[x]) (k+og_ x) (by simpa using hl) (by omega) (fun y hy=>hs y (List.mem_cons_of_mem _ hy)) hz' (by omega) hm2
    rw [←aE_,←aR_] at ih
    generalize og_ x=N at hk hx hz hxe ih hnn⊢
    have m9':hj_ (k+7+4*(x.Send.Items.length:Int)+1) x.Take.Held:=(show k+8+4*(x.Send.Items.length:Int)=k+7+4*(x.Send.Items.length:Int)+1 by omega)▸m9
    have m10':x.Take.Open=mt (k+7+4*(x.Send.Items.length:Int)+1+3*(x.Take.Held.length:Int)):=by rw [m10];congr 1;omega
    have m11':eg_ (k+7+4*(x.Send.Items.length:Int)+1+3*(x.Take.Held.length:Int)+1) x.Take.Ready:=(show k+9+4*(x.Send.Items.length:Int)+3*(x.Take.Held.length:Int)=k+7+4*(x.Send.Items.length:Int)+1+3*(x.Take.Held.length:Int)+1 by omega)▸m11
    clear m9 m10 m11
    simp only [List.length_append,List.length_cons] at hl
    refine Wp.step ?_
    simp only [b3_]
    simp (disch:=first | omega | rfl | assumption) only [af_,d4_,aD_,cL_,cm_,if_pos,if_neg,if_true,eq_self,Int.reduceAdd,av_,Option.bind_some,aF_,aW_,oL_,hlt,m0,m1,m2,m3,m4,m5,m6]
    refine Wp.bind (tz_ (by omega) (by omega) (by omega) m7) (fun _ e=> ?_);subst e
    try simp (disch:=first | omega | rfl | assumption) only [af_,d4_,aD_,cL_,cm_,if_pos,if_neg,if_true,eq_self,Int.reduceAdd,av_,Option.bind_some,aF_,aW_,hlt,m8]
    refine Wp.bind (uP_ (by omega) (by omega) (by omega) m9') (fun _ e=> ?_);subst e
    try simp (disch:=first | omega | rfl | assumption) only [af_,d4_,aD_,cL_,cm_,if_pos,if_neg,if_true,eq_self,Int.reduceAdd,av_,Option.bind_some,aF_,aW_,hlt]
    refine Wp.bind (bs_ (by omega)) (fun _ e=> ?_);subst e
    try simp (disch:=first | omega | rfl | assumption) only [af_,d4_,aD_,cL_,cm_,if_pos,if_neg,if_true,eq_self,Int.reduceAdd,av_,Option.bind_some,aF_,aW_,hlt,m10']
    refine Wp.bind (ru_ (by omega) (by omega) (by omega) m11') (fun _ e=> ?_);subst e
    try simp (disch:=first | omega | rfl | assumption) only [af_,d4_,aD_,cL_,cm_,if_pos,if_neg,if_true,eq_self,Int.reduceAdd,av_,Option.bind_some,aF_,aW_,hlt]
    have key:∀(q:Int),q=k+N→Wp (fun f=>b3_ f (pre++x::t) q ((pre.length:Int)+1)) (· =k+(N+fO_ t)):=by
      intro q hq
      subst hq
      exact ih.mono fun r hr=>by omega
    exact key _ (by omega)
theorem wo_ {l:List ao_} {k:Int} (h0:0≤k) (hs:smL iU_ l) (hk:k≤1000000):
    Wp (fun n=>gi_ n l k) (fun r=>r.1=k+fO_ l∧k≤r.1∧r.1≤10000000000000∧Wp (fun n=>gd_ n r.2 k) (· =r.1)):=by
  have hb:=tp_ hs.2
  have hl:=hs.1
  unfold gi_
  refine (lM_ l [] k (by simp;omega) h0 hs.2 (by omega)).mono ?_
  rintro ⟨r1,r2⟩ ⟨e1,t',e2,e3,e4,e5⟩
  simp only [List.nil_append] at e2
  dsimp only at e1
  subst e2
  refine ⟨e1,by dsimp only;omega,by dsimp only;omega, ?_⟩
  dsimp only
  unfold gd_
  have hm:=ut_ e5
  have he:∀x∈r2,og_ x≤8388617:=fun x hx=>by
    have:og_ x∈l.map og_:=by rw [←e5];exact List.mem_map_of_mem hx
    obtain ⟨y,hy,e⟩:=List.mem_map.mp this
    rw [←e];exact (vv_ (hs.2 y hy)).2
  have:=mm_ r2 [] k (by simp;omega) h0 he (by omega) (by omega) e4
  refine this.mono fun r hr=>by omega
theorem nE_ {x:ae_} (h:fR_ x):Wp (fun n=>eb_ n x 1) (fun r=>0≤r.1∧∀ky w f,Wp (fun n=>ea_ n (⟨ky,w,r.2.1,r.2.2.1,f,r.2.2.2.1,r.2.2.2.2⟩:ae_) 1) (· =r.1)):=by
  obtain ⟨_,h1,h2,_,h3,h4⟩:=h
  have l2:=h2.1;have l3:=h3.1;have l4:=h4.1
  unfold eb_
  refine Wp.bind (wo_ (by omega) h1 (by omega)) ?_
  rintro ⟨k1,xs⟩ ⟨_,a1,a2,a3⟩
  dsimp only at a1 a2 a3⊢
  refine Wp.bind (qX_ (by omega) (by omega) (by omega)) ?_
  rintro ⟨k2,ps⟩ ⟨b1,b2,b3⟩
  dsimp only at b1 b2 b3⊢
  refine Wp.bind (ks_ (by omega) (by omega) (by omega)) ?_
  rintro ⟨k3,gs⟩ ⟨c1,c2,c3⟩
  dsimp only at c1 c2 c3⊢
  refine Wp.bind (ks_ (by omega) (by omega) (by omega)) ?_
  rintro ⟨k4,ts⟩ ⟨d1,d2,d3⟩
  dsimp only at d1 d2 d3⊢
  refine Wp.ret ⟨by dsimp only;omega,fun ky w f=> ?_⟩
  dsimp only
  unfold ea_
  dsimp only
  refine Wp.bind a3 (fun _ e=> ?_);subst e
  refine Wp.dec (fun g=>by omega) (fun _=> ?_)
  refine Wp.bind (q4_ (by omega) (by omega) (by omega) b3) (fun _ e=> ?_);subst e
  refine Wp.dec (fun g=>by omega) (fun _=> ?_)
  refine Wp.bind (kp_ (by omega) (by omega) (by omega) (by rw [b2,←b1];exact c3)) (fun _ e=> ?_);subst e
  refine Wp.dec (fun g=>by omega) (fun _=> ?_)
  refine Wp.bind (kp_ (by omega) (by omega) (by omega) (by rw [b2,c2,←b1,←c1];exact d3)) (fun _ e=> ?_);subst e
  refine Wp.dec (fun g=>by omega) (fun _=>Wp.ret ?_)
  omega
end Km.X
namespace Km.X
open Go Km
set_option linter.unusedVariables false
set_option linter.unusedSimpArgs false
def Aa_:Nat→ByteArray→List aA_
  | 0,_=>[]
  | n+1,s=>if 20<s.size then ⟨s.extract 0 20,false⟩::Aa_ n (s.extract 20 s.size) else [⟨s,true⟩]
theorem wY_:∀(n:Nat) (s:ByteArray) (acc:List aA_),s.size≤20*n→acc.length+n≤100→0<n→Wp (fun k=>gA_ k s acc) (· =acc++Aa_ n s)
  | 0,s,acc,h,hl,h0=>by omega
  | n+1,s,acc,h,hl,h0=>by
    refine Wp.step ?_
    simp only [gA_,Aa_]
    simp only [af_]
    refine Wp.ite (fun h1=> ?_) (fun h1=> ?_)
    ·have h1':20<s.size:=by omega
     rw [if_pos h1']
     refine Wp.opt (dz_ (by omega)) ?_
     refine Wp.opt (bf_ (by simp;omega)) ?_
     refine Wp.opt (dz_ (by omega)) ?_
     have:=wY_ n (s.extract 20 s.size) (acc++[⟨s.extract 0 20,false⟩]) (by rw [ByteArray.size_extract];omega) (by simp;omega) (by omega)
     simp only [List.append_assoc,List.cons_append,List.nil_append] at this
     exact this
    ·rw [if_neg (by omega)]
     refine Wp.opt (bf_ (by simp;omega)) ?_
     exact Wp.ret rfl
def AK_ (s:ByteArray):List aA_:=if 200<s.size then [] else Aa_ 10 s
theorem xl_ (s:ByteArray):Wp (fun k=>oP_ k s) (· =AK_ s):=by
  unfold oP_ AK_
  simp only [af_]
  refine Wp.ite (fun h=> ?_) (fun h=> ?_)
  ·rw [if_pos (by omega)];exact Wp.ret rfl
  ·rw [if_neg (by omega)];exact wY_ 10 s [] (by omega) (by simp) (by omega)
theorem yn_:∀(n:Nat) (s:ByteArray),s.size≤20*n→(Aa_ n s).length≤n∧∀p∈Aa_ n s,p.Text.size≤20
  | 0,s,h=>⟨by simp [Aa_],fun p hp=>by simp [Aa_] at hp⟩
  | n+1,s,h=>by
    simp only [Aa_]
    split
    ·have:=yn_ n (s.extract 20 s.size) (by rw [ByteArray.size_extract];omega)
     refine ⟨by simp [this.1],fun p hp=> ?_⟩
     rcases List.mem_cons.mp hp with rfl | hp
     ·simp only [ByteArray.size_extract];omega
     ·exact this.2 p hp
    ·refine ⟨by simp,fun p hp=> ?_⟩
     simp only [List.mem_singleton] at hp
     subst hp;simp only;omega
theorem BY_ (s:ByteArray):(AK_ s).length≤10∧∀p∈AK_ s,p.Text.size≤20:=by
  unfold AK_
  split
  ·exact ⟨by simp,fun p hp=>by simp at hp⟩
  ·exact yn_ 10 s (by omega)
def E9_ (p:aA_):ah_:=⟨p,false,-1⟩
def ze_ (s:am_) (t:ByteArray):am_×Int:=
  if VSend s∧t.size≤200 then
   if s.Items.length+(AK_ t).length≤60∧s.Base+(s.Items.length+(AK_ t).length:Nat)≤1000000 then (⟨s.Base,s.Items++(AK_ t).map E9_⟩,0) else (km_,3)
  else (km_,1)
theorem t1_ (c b:Int) (e:List ah_):∀(t pre:List aA_) (acc:List ah_),(pre++t).length≤100→acc.length+t.length≤1000→
    Wp (fun k=>cy_ k (pre.length:Int) c (pre++t) b e acc) (· =(⟨b,acc++t.map E9_⟩,0))
  | [],pre,acc,hl,ha=>by
    refine Wp.step ?_
    simp only [cy_,List.append_nil]
    simp (disch:=omega) only [af_,if_neg]
    exact Wp.ret (by simp)
  | x::t,pre,acc,hl,ha=>by
    refine Wp.step ?_
    have hl':=hl
    simp only [List.length_append,List.length_cons] at hl ha
    simp only [cy_]
    simp only [af_,a0_,if_true,av_,bw_,Option.bind_some]
    refine Wp.opt (bf_ (by simp;omega)) ?_
    simp (disch:=omega) only [aF_]
    have ih:=t1_ c b e t (pre++[x]) (acc++[E9_ x]) (by simpa using hl') (by simp;omega)
    rw [←aE_,←aR_] at ih
    simp only [List.append_assoc,List.cons_append,List.nil_append] at ih
    exact ih
theorem vO_ (s:am_) (t:ByteArray):Wp (fun k=>gh_ k s t) (· =ze_ s t):=by
  unfold gh_ ze_
  refine Wp.bind (de_ s) (fun _ e=> ?_);subst e
  simp only [aD_,af_]
  refine Wp.ite (fun h=> ?_) (fun h=>Wp.ret (by rw [if_neg (fun g=>h g.1)]))
  refine Wp.ite (fun h2=>Wp.ret (by rw [if_neg (fun g=>by omega)])) (fun h2=> ?_)
  rw [if_pos ⟨h,by omega⟩]
  refine Wp.bind (xl_ t) (fun _ e=> ?_);subst e
  have:=h.1;have hb:=h.2.1;have hc:=(BY_ t).1
  simp (disch:=omega) only [aF_]
  refine Wp.ite (fun h3=>Wp.ret (by rw [if_neg (fun g=>by omega)])) (fun h3=> ?_)
  refine Wp.ite (fun h4=>Wp.ret (by rw [if_neg (fun g=>by omega)])) (fun h4=> ?_)
  rw [if_pos ⟨by omega,by omega⟩]
  refine Wp.bind (ji_ s (by omega)) (fun _ e=> ?_);subst e
  exact t1_ _ _ _ (AK_ t) [] _ (by simp;omega) (by omega)
def hu_:List ah_→Nat
  | []=>0
  | x::t=>if 0≤x.Since then hu_ t+1 else 0
theorem pp_:∀l:List ah_,hu_ l≤l.length
  | []=>Nat.le_refl _
  | x::t=>by have:=pp_ t;simp only [hu_,List.length_cons];split<;>omega
def uQ_:Nat→Nat→List ah_→List ah_
  | _,_,[]=>[]
  | i,m,x::t=>(if i<8∧m%2=1∧0≤x.Since then ⟨x.Part,true,x.Since⟩ else x)::uQ_ (i+1) (m/2) t
theorem vX_:∀(i m:Nat) (l:List ah_),8≤i→uQ_ i m l=l
  | i,m,[],h=>rfl
  | i,m,x::t,h=>by simp only [uQ_];rw [if_neg (by omega),vX_ (i+1) _ t (by omega)]
def wi_ (s:am_) (n m:Int):am_:=
  if VSend s then
   if s.Base≤n∧n≤s.Base+hu_ s.Items∧0≤m∧m≤255 then ⟨n,uQ_ 0 m.toNat (s.Items.drop (n-s.Base).toNat)⟩ else s
  else km_
theorem rR_ (b:Int):∀(t pre:List ah_),(pre++t).length≤1000→Wp (fun k=>cT_ k (pre.length:Int) b (pre++t)) (· =((pre.length+hu_ t:Nat):Int))
  | [],pre,hl=>by
    refine Wp.step ?_
    simp only [cT_,List.append_nil]
    simp (disch:=omega) only [af_,if_neg]
    exact Wp.ret rfl
  | x::t,pre,hl=>by
    refine Wp.step ?_
    have hl':=hl
    simp only [List.length_append,List.length_cons] at hl
    simp only [cT_]
    simp only [af_,a0_,if_true,av_,bw_,Option.bind_some]
    simp only [hu_]
    refine Wp.ite (fun h=> ?_) (fun h=> ?_)
    ·rw [if_pos (by omega)]
     simp (disch:=omega) only [aF_]
     have ih:=rR_ b t (pre++[x]) (by simpa using hl')
     rw [←aE_,←aR_] at ih
     refine ih.mono fun r hr=> ?_
     rw [hr,List.length_append,List.length_singleton];omega
    ·rw [if_neg (by omega)];exact Wp.ret rfl
theorem Dp_ (m:Nat):oK_ (m:Int) 2=some ((m%2:Nat):Int):=by rw [aW_ (by omega) (by omega)];simp
theorem Dl_ (m:Nat):yC_ (m:Int) 2=some ((m/2:Nat):Int):=by rw [v6_ (by omega) (by omega)];simp
theorem li_ (c b:Int) (e:List ah_) (xs:List ah_) (hx:xs.length≤1000):∀(d i m:Nat),i+d=8→xs.length≤i→m≤255→
    Wp (fun k=>bb_ k (m:Int) (i:Int) c b e xs) (· =⟨b,xs⟩)
  | 0,i,m,h,hi,hm=>by
    refine Wp.step ?_
    simp only [bb_]
    simp (disch:=omega) only [af_,if_neg]
    exact Wp.ret rfl
  | d+1,i,m,h,hi,hm=>by
    refine Wp.step ?_
    simp only [bb_]
    simp (disch:=omega) only [af_,if_pos,Dp_,Option.bind_some,eK_]
    have ih:=li_ c b e xs hx d (i+1) (m/2) (by omega) (by omega) (by omega)
    have G:Wp (fun k=>a6_ k (m:Int) (i:Int) c b e xs) (· =⟨b,xs⟩):=by
      refine Wp.step ?_
      simp only [a6_]
      simp (disch:=omega) only [Dl_,Option.bind_some,aF_,hi_]
      exact ih
    refine Wp.ite (fun h1=> ?_) (fun h1=>G)
    simp (disch:=omega) only [if_neg]
    exact G
theorem uW_ (c b:Int) (e:List ah_):∀(t pre:List ah_) (m:Nat),(pre++t).length≤1000→m≤255→
    Wp (fun k=>bb_ k (m:Int) (pre.length:Int) c b e (pre++t)) (· =⟨b,pre++uQ_ pre.length m t⟩)
  | [],pre,m,hl,hm=>by
    rw [List.append_nil] at hl⊢
    simp only [uQ_,List.append_nil]
    by_cases h8:pre.length≤8
    ·exact li_ c b e pre hl (8-pre.length) pre.length m (by omega) (Nat.le_refl _) hm
    ·refine Wp.step ?_
     simp only [bb_]
     simp (disch:=omega) only [af_,if_neg]
     exact Wp.ret rfl
  | x::t,pre,m,hl,hm=>by
    refine Wp.step ?_
    have hl':=hl
    simp only [List.length_append,List.length_cons] at hl
    simp only [bb_]
    simp only [af_,a0_,if_true,av_,bw_,Option.bind_some,set_mid,eK_]
    refine Wp.ite (fun h8=> ?_) (fun h8=>Wp.ret (by rw [vX_ _ _ _ (by omega)]))
    have ih:∀y:ah_,(if pre.length<8∧m%2=1∧0≤x.Since then ⟨x.Part,true,x.Since⟩ else x)=y→
     Wp (fun k=>a6_ k (m:Int) (pre.length:Int) c b e (pre++y::t)) (· =⟨b,pre++uQ_ pre.length m (x::t)⟩):=by
      intro y hy
      refine Wp.step ?_
      simp only [a6_]
      simp (disch:=omega) only [Dl_,Option.bind_some,aF_]
      have:=uW_ c b e t (pre++[y]) (m/2) (by simpa using hl') (by omega)
      rw [←aE_,←aR_,List.length_append,List.length_singleton] at this
      refine this.mono fun r hr=> ?_
      rw [hr]
      simp only [uQ_,List.append_assoc,List.cons_append,List.nil_append,hy]
    simp (disch:=omega) only [Dp_,Option.bind_some]
    refine Wp.ite (fun h1=> ?_) (fun h1=>ih x (by rw [if_neg (by omega)]))
    refine Wp.ite (fun h2=>ih _ (by rw [if_pos (by omega)])) (fun h2=>ih x (by rw [if_neg (by omega)]))
theorem vk_ (s:am_) (n m:Int):Wp (fun k=>f7_ k s n m) (· =wi_ s n m):=by
  unfold f7_ wi_
  refine Wp.bind (de_ s) (fun _ e=> ?_);subst e
  simp only [aD_,af_]
  refine Wp.ite (fun h=> ?_) (fun h=>Wp.ret (by rw [if_neg h]))
  rw [if_pos h]
  have:=h.1;have hb:=h.2.1
  refine Wp.bind (ji_ s (by omega)) (fun r2 e=> ?_);rw [e]
  refine Wp.ite (fun h2=>Wp.ret (by rw [if_neg (by omega)])) (fun h2=> ?_)
  refine Wp.bind (P:=fun r=>r=((0+hu_ s.Items:Nat):Int)) (rR_ s.Base s.Items [] (by simp;omega)) (fun _ e=> ?_);subst e
  have hf:=pp_ s.Items
  simp (disch:=omega) only [aF_]
  refine Wp.ite (fun h3=>Wp.ret (by rw [if_neg (by omega)])) (fun h3=> ?_)
  refine Wp.bind (cU_ _ _ _) (fun _ e=> ?_);subst e
  simp only [inB,af_]
  refine Wp.ite (fun h4=> ?_) (fun h4=>Wp.ret (by rw [if_neg (by omega)]))
  rw [if_pos (by omega)]
  refine Wp.opt (dz_ (by omega)) ?_
  refine Wp.opt (bf_ (by simp [dS_];omega)) ?_
  have e1:([]:List ah_)++dS_ s.Items (n-s.Base).toNat (s.Items.length:Int).toNat=s.Items.drop (n-s.Base).toNat:=by simp [dS_]
  rw [e1]
  have:=uW_ 0 n [] (s.Items.drop (n-s.Base).toNat) [] m.toNat (by simp;omega) (by omega)
  simp only [List.nil_append,List.length_nil,Int.toNat_of_nonneg h4.1] at this
  exact this
theorem Al_ (n:Nat) (hn:n<281474976710656):zD_ .i64 (n:Int) 1=((n%2:Nat):Int):=by
  have e:∀m:Nat,BitVec.ofInt 64 (m:Int)=BitVec.ofNat 64 m:=fun m=>by
    apply BitVec.eq_of_toNat_eq
    simp [BitVec.toNat_ofInt]
  show IntKind.wrap .i64 ((BitVec.ofInt 64 (n:Int)&&&BitVec.ofInt 64 ((1:Nat):Int)).toNat:Int)=_
  rw [e,e,BitVec.toNat_and,BitVec.toNat_ofNat,BitVec.toNat_ofNat,Nat.mod_eq_of_lt (by omega),Nat.mod_eq_of_lt (by omega),Nat.and_one_is_mod]
  exact aF_ (by omega) (by omega)
theorem DE_ (n i:Nat) (h:i≤64):shift .shr .i64 (n:Int) (i:Int)=some ((n/2^i:Nat):Int):=by
  simp only [shift]
  rw [if_neg (by omega)]
  congr 1
  rw [Int.toNat_natCast,show IntKind.i64.bits=64 from rfl,Nat.min_eq_left h,Int.fdiv_eq_ediv_of_nonneg _ (by exact Int.le_of_lt (Int.pow_pos (by decide)))]
  simp
theorem qB_ (c b d:Int) (e:List ah_) (M:Nat) (hM:M≤255):∀(t pre:List ah_),(pre++t).length≤1000→
    Wp (fun k=>bo_ k (M:Int) (pre.length:Int) c b e (pre++t)) (· =⟨b,pre++uQ_ pre.length (M/2^pre.length) t⟩)
  | [],pre,hl=>by
    refine Wp.step ?_
    rw [List.append_nil] at hl⊢
    simp only [bo_,uQ_,List.append_nil]
    simp (disch:=omega) only [af_,if_neg]
    exact Wp.ite (fun h=>Wp.ret rfl) (fun h=>Wp.ret rfl)
  | x::t,pre,hl=>by
    refine Wp.step ?_
    have hl':=hl
    simp only [List.length_append,List.length_cons] at hl
    simp only [bo_]
    simp only [af_,a0_,if_true,av_,bw_,Option.bind_some,set_mid,eK_]
    refine Wp.ite (fun h8=> ?_) (fun h8=>Wp.ret (by rw [vX_ _ _ _ (by omega)]))
    have ih:∀y:ah_,(if pre.length<8∧M/2^pre.length%2=1∧0≤x.Since then ⟨x.Part,true,x.Since⟩ else x)=y→
     Wp (fun k=>cf_ k (M:Int) (pre.length:Int) c b e (pre++y::t)) (· =⟨b,pre++uQ_ pre.length (M/2^pre.length) (x::t)⟩):=by
      intro y hy
      refine Wp.step ?_
      simp only [cf_]
      simp (disch:=omega) only [aF_]
      have:=qB_ c b d e M hM t (pre++[y]) (by simpa using hl')
      rw [←aE_,←aR_,List.length_append,List.length_singleton] at this
      refine this.mono fun r hr=> ?_
      rw [hr]
      simp only [uQ_,List.append_assoc,List.cons_append,List.nil_append,hy,Nat.div_div_eq_div_mul,Nat.pow_succ]
    have hlt:M/2^pre.length<281474976710656:=Nat.lt_of_le_of_lt (Nat.div_le_self _ _) (by omega)
    rw [DE_ _ _ (by omega)]
    simp only [Option.bind_some]
    rw [Al_ _ hlt]
    refine Wp.ite (fun h1=> ?_) (fun h1=>ih x (by rw [if_neg (by omega)]))
    refine Wp.ite (fun h2=>ih _ (by rw [if_pos (by omega)])) (fun h2=>ih x (by rw [if_neg (by omega)]))
theorem xC_ (n m c b:Int) (e:List ah_) (hb:0≤b∧b≤1000000):∀(t pre:List ah_),(pre++t).length≤1000→
    Wp (fun k=>cF_ k n m (pre.length:Int) c b e (pre++t)) (· =if b≤n∧n≤b+(pre.length+hu_ t:Nat)∧0≤m∧m≤255 then ⟨n,uQ_ 0 m.toNat ((pre++t).drop (n-b).toNat)⟩ else ⟨b,pre++t⟩):=by
  have F:∀(xs:List ah_) (j:Nat),xs.length≤1000→j≤xs.length→Wp (fun k=>if n<b then some (⟨b,xs⟩:am_) else if n>IntKind.wrap .i64 (b+(j:Int)) then some ⟨b,xs⟩ else
   (aQ_ k m 0 255).bind fun r4=>bif !r4 then some ⟨b,xs⟩ else
     (wnd xs.length (IntKind.wrap .i64 (n-b)) (xs.length:Int)).bind fun p5=>
     (app 40 ([]:List ah_) (dS_ xs p5.1 p5.2)).bind fun l6=>bo_ k m 0 c n e l6)
   (· =if b≤n∧n≤b+(j:Nat)∧0≤m∧m≤255 then ⟨n,uQ_ 0 m.toNat (xs.drop (n-b).toNat)⟩ else ⟨b,xs⟩):=by
    intro xs j hx hj
    refine Wp.ite (fun h2=>Wp.ret (by rw [if_neg (by omega)])) (fun h2=> ?_)
    simp (disch:=omega) only [aF_]
    refine Wp.ite (fun h3=>Wp.ret (by rw [if_neg (by omega)])) (fun h3=> ?_)
    refine Wp.bind (md_ _ _ _) (fun _ e=> ?_);subst e
    simp only [inB,af_,aD_]
    refine Wp.ite (fun h4=> ?_) (fun h4=>Wp.ret (by rw [if_neg (by omega)]))
    rw [if_pos (by omega)]
    refine Wp.opt (dz_ (by omega)) ?_
    refine Wp.opt (bf_ (by simp [dS_];omega)) ?_
    have e1:([]:List ah_)++dS_ xs (n-b).toNat (xs.length:Int).toNat=xs.drop (n-b).toNat:=by simp [dS_]
    rw [e1]
    have:=qB_ c n 0 e m.toNat (by omega) (xs.drop (n-b).toNat) [] (by simp;omega)
    simp only [List.nil_append,List.length_nil,Int.toNat_of_nonneg h4.1,Nat.pow_zero,Nat.div_one] at this
    exact this
  intro t
  induction t with
  | nil=>
    intro pre hl
    refine Wp.step ?_
    simp only [cF_]
    rw [List.append_nil] at hl⊢
    simp (disch:=omega) only [af_,if_neg]
    exact F pre pre.length hl (Nat.le_refl _)
  | cons x t ih=>
    intro pre hl
    refine Wp.step ?_
    simp only [cF_]
    simp only [af_,a0_,if_true,av_,bw_,Option.bind_some]
    have hl':=hl
    simp only [List.length_append,List.length_cons] at hl
    refine Wp.ite (fun h=> ?_) (fun h=> ?_)
    ·rw [aF_ (by omega) (by omega)]
     have:=ih (pre++[x]) (by simpa using hl')
     rw [←aE_,←aR_,List.length_append,List.length_singleton] at this
     have e:pre.length+hu_ (x::t)=pre.length+1+hu_ t:=by simp only [hu_];rw [if_pos h];omega
     simp only [e]
     exact this
    ·have e:hu_ (x::t)=0:=by simp only [hu_];rw [if_neg h]
     simp only [e]
     exact F (pre++x::t) pre.length (by simpa using hl') (by simp)
theorem v2_ (s:am_) (n m:Int):Wp (fun k=>gf_ k s n m) (· =wi_ s n m):=by
  unfold gf_ wi_
  refine Wp.bind (fT_ s) (fun _ e=> ?_);subst e
  simp only [aD_,af_]
  refine Wp.ite (fun h=> ?_) (fun h=>Wp.ret (by rw [if_neg h]))
  rw [if_pos h]
  have:=h.1;have hb:=h.2.1
  refine Wp.bind (qG_ s (by omega)) (fun r2 e=> ?_);rw [e]
  have:=xC_ n m 0 s.Base [] hb s.Items [] (by simp;omega)
  simp only [List.nil_append,List.length_nil,Nat.zero_add] at this
  exact this
theorem OkItem.mono {i j:Nat} {x:ah_} (h:OkItem j x) (hij:i≤j):OkItem i x:=⟨h.1,h.2.1,fun h8=>h.2.2.1 (by omega),h.2.2.2⟩
theorem OkItems.mono:∀{l:List ah_} {i j:Nat},OkItems j l→i≤j→OkItems i l
  | [],_,_,_,_=>trivial
  | x::t,i,j,⟨h1,h2⟩,hij=>⟨h1.mono hij,h2.mono (by omega)⟩
theorem OkItems.drop:∀{l:List ah_} {i:Nat} (d:Nat),OkItems i l→OkItems i (l.drop d)
  | l,i,0,h=>h
  | [],i,d+1,h=>trivial
  | x::t,i,d+1,⟨_,h2⟩=>(OkItems.drop d h2).mono (by omega)
theorem p9_:∀{l:List ah_} {i m:Nat},OkItems i l→OkItems i (uQ_ i m l)
  | [],_,_,_=>trivial
  | x::t,i,m,⟨h1,h2⟩=>by
    refine ⟨?_,p9_ h2⟩
    split
    ·rename_i h;exact ⟨h1.1,h1.2.1,h1.2.2.1,fun _=>h.2.2⟩
    ·exact h1
theorem k8_:∀(i m:Nat) (l:List ah_),(uQ_ i m l).length=l.length
  | _,_,[]=>rfl
  | i,m,x::t=>by simp [uQ_,k8_ (i+1) (m/2) t]
theorem Ag_ (s:am_) (n m:Int):VSend (wi_ s n m):=by
  unfold wi_
  split
  ·rename_i h
   split
   ·rename_i h2
    have hf:=pp_ s.Items
    obtain ⟨v1,v2,v3,v4⟩:=h
    refine ⟨?_, ?_, ?_,p9_ (v4.drop _)⟩
    ·simp only [k8_,List.length_drop];omega
    ·simp only;omega
    ·simp only [k8_,List.length_drop];omega
   ·assumption
  ·exact s1_
end Km.X
namespace Km.X
open Go Km
set_option linter.unusedVariables false
set_option linter.unusedSimpArgs false
def goes (o:ByteArray) (r:List ByteArray) (p:aA_):Prop:=o.size+p.Text.size≤200∧(p.Last=true→r.length<4)
instance (o:ByteArray) (r:List ByteArray) (p:aA_):Decidable (goes o r p):=by unfold goes;infer_instance
theorem zl_ (n:Int) (h:List ai_) (o:ByteArray) (r:List ByteArray) (p:aA_) (ho:o.size≤1048576) (hp:p.Text.size≤1048576):Wp (fun k=>eG_ k ⟨n,h,o,r⟩ p) (· =decide (goes o r p)):=by
  unfold eG_
  simp (disch:=omega) only [aF_,af_,aD_]
  refine Wp.ite (fun h1=> ?_) (fun h1=>Wp.ret (decide_eq_false fun h=>by have:=h.1;omega).symm)
  refine Wp.bif (fun h2=> ?_) (fun h2=> ?_)
  ·refine Wp.ret ?_
   rw [decide_eq_decide]
   exact ⟨fun h=>⟨by omega,fun _=>by omega⟩,fun h=>by have:=h.2 h2;omega⟩
  ·exact Wp.ret (decide_eq_true ⟨by omega,fun h=>by rw [h2] at h;cases h⟩).symm
theorem Cb_ (n:Int) (h:List ai_) (o:ByteArray) (r:List ByteArray) (p:aA_) (ho:o.size≤1048576) (hp:p.Text.size≤1048576):Wp (fun k=>gv_ k ⟨n,h,o,r⟩ p) (· =decide (goes o r p)):=zl_ n h o r p ho hp
def WHs (n:Int):Int→List ai_→Prop
  | _,[]=>True
  | p,x::t=>(p<x.Seq∧x.Seq≤n+7∧x.Seq≤999999∧x.Part.Text.size≤20)∧WHs n x.Seq t
instance Dz_ (n:Int):(p:Int)→(l:List ai_)→Decidable (WHs n p l)
  | _,[]=> .isTrue trivial
  | p,x::t=>by
    have:=Dz_ n x.Seq t
    unfold WHs;infer_instance
def xh_ (n:Int) (o:ByteArray) (r:List ByteArray) (l:List ai_):Prop:=∀x∈l,x.Seq=n→¬goes o r x.Part
instance (n:Int) (o:ByteArray) (r:List ByteArray) (l:List ai_):Decidable (xh_ n o r l):=by unfold xh_;infer_instance
def SmR (l:List ByteArray):Prop:=∀s∈l,s.size≤200
instance (l:List ByteArray):Decidable (SmR l):=by unfold SmR;infer_instance
def VTake (t:al_):Prop:=(0≤t.Next∧t.Next≤1000000)∧t.Held.length≤8∧t.Open.size≤200∧t.Ready.length≤4∧SmR t.Ready∧WHs t.Next (t.Next-1) t.Held∧xh_ t.Next t.Open t.Ready t.Held
instance (t:al_):Decidable (VTake t):=by unfold VTake;infer_instance
def dy_ (n:Int) (pre:List ai_):Int:=match pre.getLast? with | none=>n-1 | some y=>y.Seq
theorem ie_ (n:Int) (pre:List ai_) (x:ai_):dy_ n (pre++[x])=x.Seq:=by simp [dy_]
theorem r1_ (n:Int) (pre t:List ai_) (h:0<pre.length):∃y,idx (pre++t) ((pre.length:Int)-1)=some y∧dy_ n pre=y.Seq:=by
  rcases List.eq_nil_or_concat pre with rfl | ⟨l,y,rfl⟩
  ·simp at h
  ·refine ⟨y, ?_,by simp [dy_]⟩
   simp only [List.concat_eq_append,List.length_append,List.length_singleton]
   rw [show ((l.length+1:Nat):Int)-1=(l.length:Int) by omega,mN_]
   simp
theorem zz_ (n s:Int) (h:List ai_) (o:ByteArray) (r:List ByteArray) (hn:0≤n∧n≤1000000):Wp (fun k=>gB_ k ⟨n,h,o,r⟩ s) (· =decide (n≤s∧s≤n+7∧s≤999999)):=by
  unfold gB_
  simp (disch:=omega) only [aF_]
  refine Wp.bind (cU_ _ _ _) (fun _ e=> ?_);subst e
  simp only [inB,af_]
  refine Wp.ite (fun h1=>Wp.ret ?_) (fun h1=>Wp.ret (decide_eq_false (by omega)).symm)
  rw [decide_eq_decide];omega
theorem jX_ (n:Int) (o:ByteArray) (r:List ByteArray) (hn:0≤n∧n≤1000000) (ho:o.size≤200):∀(t pre:List ai_),(pre++t).length≤1000→n-1≤dy_ n pre→
    Wp (fun k=>aM_ k (pre.length:Int) n (pre++t) o r) (· =decide (WHs n (dy_ n pre) t∧xh_ n o r t))
  | [],pre,hl,hp=>by
    refine Wp.step ?_
    simp only [aM_,List.append_nil]
    simp (disch:=omega) only [af_,if_neg]
    exact Wp.ret (decide_eq_true ⟨trivial,fun x hx=>by simp at hx⟩).symm
  | x::t,pre,hl,hp=>by
    refine Wp.step ?_
    have hl':=hl
    simp only [List.length_append,List.length_cons] at hl
    simp only [aM_]
    simp only [af_,a0_,if_true,av_,Option.bind_some]
    have F:¬(WHs n (dy_ n pre) (x::t)∧xh_ n o r (x::t))→Wp (fun _=>some false) (· =decide (WHs n (dy_ n pre) (x::t)∧xh_ n o r (x::t))):=fun h=>Wp.ret (decide_eq_false h).symm
    refine Wp.bind (zz_ n x.Seq _ o r hn) (fun _ e=> ?_);subst e
    simp only [af_,aD_]
    refine Wp.ite (fun h1=> ?_) (fun h1=>F fun h'=>by have:=h'.1.1;omega)
    refine Wp.ite (fun h2=>F fun h'=>by have:=h'.1.1;omega) (fun h2=> ?_)
    have ih:=jX_ n o r hn ho t (pre++[x]) (by simpa using hl') (by rw [ie_];omega)
    rw [←aE_,←aR_,ie_] at ih
    have G:(x.Seq=n→¬goes o r x.Part)→dy_ n pre<x.Seq→Wp (fun k=>aM_ k ((pre.length:Int)+1) n (pre++x::t) o r) (· =decide (WHs n (dy_ n pre) (x::t)∧xh_ n o r (x::t))):=fun h h'=>by
      refine Wp.mono ih fun v hv=> ?_
      rw [hv,decide_eq_decide]
      constructor
      ·rintro ⟨g1,g2⟩
       refine ⟨⟨⟨h',by omega,by omega,by omega⟩,g1⟩,fun y hy=> ?_⟩
       rcases List.mem_cons.mp hy with rfl | hy
       ·exact h
       ·exact g2 y hy
      ·rintro ⟨g1,g2⟩
       exact ⟨g1.2,fun y hy=>g2 y (List.mem_cons_of_mem _ hy)⟩
    have C:dy_ n pre<x.Seq→Wp (fun k=>bif x.Seq==n then (eG_ k ⟨n,pre++x::t,o,r⟩ x.Part).bind fun r6=>bif r6 then some false else aM_ k (IntKind.wrap .i64 ((pre.length:Int)+1)) n (pre++x::t) o r
     else aM_ k (IntKind.wrap .i64 ((pre.length:Int)+1)) n (pre++x::t) o r) (· =decide (WHs n (dy_ n pre) (x::t)∧xh_ n o r (x::t))):=fun h'=>by
      simp (disch:=omega) only [aF_,eK_]
      refine Wp.ite (fun h3=> ?_) (fun h3=>G (fun g=>absurd g h3) h')
      refine Wp.bind (zl_ n _ o r x.Part (by omega) (by omega)) (fun _ e=> ?_);subst e
      simp only [af_]
      exact Wp.ite (fun h4=>F fun g=>g.2 x (List.mem_cons_self ..) h3 h4) (fun h4=>G (fun _=>h4) h')
    refine Wp.ite (fun h3=> ?_) (fun h3=> ?_)
    ·obtain ⟨y,hy,hy'⟩:=r1_ n pre (x::t) (by omega)
     rw [aF_ (by omega) (by omega),hy]
     simp only [Option.bind_some]
     refine Wp.ite (fun h4=>F fun h'=>by have:=h'.1.1;omega) (fun h4=> ?_)
     exact C (by omega)
    ·have:pre=[]:=List.length_eq_zero_iff.mp (by omega)
     exact C (by subst this;simp [dy_];omega)
theorem jx_ (n:Int) (o:ByteArray) (h:List ai_) (hn:0≤n∧n≤1000000) (ho:o.size≤200) (hh:h.length≤8) (rr:List ByteArray):∀(t pre:List ByteArray),pre++t=rr→(pre++t).length≤1000→
    Wp (fun k=>cc_ k (pre.length:Int) n h o (pre++t)) (· =decide (SmR t∧WHs n (n-1) h∧xh_ n o rr h))
  | [],pre,hr,hl=>by
    refine Wp.step ?_
    simp only [cc_]
    rw [hr] at hl⊢
    rw [List.append_nil] at hr
    subst hr
    simp (disch:=omega) only [af_,if_neg]
    have:=jX_ n o pre hn ho h [] (by simp;omega) (by simp [dy_])
    refine this.mono fun v hv=> ?_
    rw [hv,decide_eq_decide]
    exact ⟨fun g=>⟨fun s hs=>by simp at hs,g⟩,fun g=>g.2⟩
  | x::t,pre,hr,hl=>by
    refine Wp.step ?_
    have hl':=hl
    simp only [List.length_append,List.length_cons] at hl
    simp only [cc_]
    simp only [af_,a0_,if_true,av_,Option.bind_some]
    refine Wp.ite (fun h1=>Wp.ret (decide_eq_false fun h'=>by have:=h'.1 x (List.mem_cons_self ..);omega).symm) (fun h1=> ?_)
    simp (disch:=omega) only [aF_]
    have ih:=jx_ n o h hn ho hh rr t (pre++[x]) (by simpa using hr) (by simpa using hl')
    rw [←aE_,←aR_] at ih
    refine ih.mono fun v hv=> ?_
    rw [hv,decide_eq_decide]
    constructor
    ·rintro ⟨g1,g2⟩
     refine ⟨fun y hy=> ?_,g2⟩
     rcases List.mem_cons.mp hy with rfl | hy
     ·omega
     ·exact g1 y hy
    ·rintro ⟨g1,g2⟩
     exact ⟨fun y hy=>g1 y (List.mem_cons_of_mem _ hy),g2⟩
theorem ep_ (t:al_):Wp (fun k=>cK_ k t) (· =decide (VTake t)):=by
  unfold cK_
  simp only [af_,aD_]
  have F:¬VTake t→Wp (fun _=>some false) (· =decide (VTake t)):=fun h=>Wp.ret (decide_eq_false h).symm
  refine Wp.bind (cU_ _ _ _) (fun _ e=> ?_);subst e
  simp only [inB,af_]
  refine Wp.ite (fun h1=> ?_) (fun h1=>F fun h'=>h1 h'.1)
  refine Wp.ite (fun h2=>F fun h'=>by have:=h'.2.1;omega) (fun h2=> ?_)
  refine Wp.ite (fun h3=>F fun h'=>by have:=h'.2.2.1;omega) (fun h3=> ?_)
  refine Wp.ite (fun h4=>F fun h'=>by have:=h'.2.2.2.1;omega) (fun h4=> ?_)
  refine Wp.mono (jx_ t.Next t.Open t.Held h1 (by omega) (by omega) t.Ready t.Ready [] rfl (by simp;omega)) fun v hv=> ?_
  rw [hv,decide_eq_decide]
  exact ⟨fun g=>⟨h1,by omega,by omega,by omega,g⟩,fun g=>g.2.2.2.2⟩
theorem ke_:∀(t pre:List ByteArray),(pre++t).length≤1000→
    Wp (fun k=>bT_ k (pre++t) ((pre++t).length:Int) (pre.length:Int)) (· =decide (SmR t))
  | [],pre,hl=>by
    refine Wp.step ?_
    simp only [bT_,List.append_nil]
    simp (disch:=omega) only [af_,if_neg]
    exact Wp.ret (decide_eq_true fun s hs=>by simp at hs).symm
  | x::t,pre,hl=>by
    refine Wp.step ?_
    have hl':=hl
    simp only [List.length_append,List.length_cons] at hl
    simp only [bT_]
    simp only [af_,a0_,if_true,av_,Option.bind_some]
    refine Wp.ite (fun h1=>Wp.ret (decide_eq_false fun h'=>by have:=h' x (List.mem_cons_self ..);omega).symm) (fun h1=> ?_)
    simp (disch:=omega) only [aF_]
    have ih:=ke_ t (pre++[x]) (by simpa using hl')
    rw [←aE_,←aR_] at ih
    refine ih.mono fun v hv=> ?_
    rw [hv,decide_eq_decide]
    constructor
    ·intro g1 y hy
     rcases List.mem_cons.mp hy with rfl | hy
     ·omega
     ·exact g1 y hy
    ·exact fun g1 y hy=>g1 y (List.mem_cons_of_mem _ hy)
theorem ma_ (n:Int) (o:ByteArray) (r:List ByteArray) (hn:0≤n∧n≤1000000) (ho:o.size≤200) (hr:r.length≤4):∀(t pre:List ai_),(pre++t).length≤1000→n-1≤dy_ n pre→
    Wp (fun k=>aN_ k (pre++t) ((pre++t).length:Int) (pre.length:Int) n (pre++t) o r) (· =decide ((WHs n (dy_ n pre) t∧xh_ n o r t)∧SmR r))
  | [],pre,hl,hp=>by
    refine Wp.step ?_
    simp only [aN_,List.append_nil]
    simp (disch:=omega) only [af_,if_neg]
    refine Wp.mono (ke_ r [] (by simp;omega)) fun v hv=> ?_
    rw [hv,decide_eq_decide]
    exact ⟨fun g=>⟨⟨trivial,fun x hx=>by simp at hx⟩,g⟩,fun g=>g.2⟩
  | x::t,pre,hl,hp=>by
    refine Wp.step ?_
    have hl':=hl
    simp only [List.length_append,List.length_cons] at hl
    simp only [aN_]
    simp only [af_,a0_,if_true,av_,Option.bind_some]
    have F:¬(WHs n (dy_ n pre) (x::t)∧xh_ n o r (x::t))→Wp (fun _=>some false) (· =decide ((WHs n (dy_ n pre) (x::t)∧xh_ n o r (x::t))∧SmR r)):=fun h=>Wp.ret (decide_eq_false fun g=>h g.1).symm
    simp (disch:=omega) only [aF_]
    refine Wp.bind (md_ _ _ _) (fun _ e=> ?_);subst e
    simp only [inB,af_,aD_]
    refine Wp.ite (fun h1=> ?_) (fun h1=>F fun h'=>by have:=h'.1.1;omega)
    refine Wp.ite (fun h1'=>F fun h'=>by have:=h'.1.1;omega) (fun h1'=> ?_)
    refine Wp.ite (fun h2=>F fun h'=>by have:=h'.1.1;omega) (fun h2=> ?_)
    have ih:=ma_ n o r hn ho hr t (pre++[x]) (by simpa using hl') (by rw [ie_];omega)
    rw [←aE_,←aR_,ie_] at ih
    have G:(x.Seq=n→¬goes o r x.Part)→dy_ n pre<x.Seq→Wp (fun k=>aN_ k (pre++x::t) ((pre++x::t).length:Int) ((pre.length:Int)+1) n (pre++x::t) o r) (· =decide ((WHs n (dy_ n pre) (x::t)∧xh_ n o r (x::t))∧SmR r)):=fun h h'=>by
      refine Wp.mono ih fun v hv=> ?_
      rw [hv,decide_eq_decide]
      constructor
      ·rintro ⟨⟨g1,g2⟩,g3⟩
       refine ⟨⟨⟨⟨h',by omega,by omega,by omega⟩,g1⟩,fun y hy=> ?_⟩,g3⟩
       rcases List.mem_cons.mp hy with rfl | hy
       ·exact h
       ·exact g2 y hy
      ·rintro ⟨⟨g1,g2⟩,g3⟩
       exact ⟨⟨g1.2,fun y hy=>g2 y (List.mem_cons_of_mem _ hy)⟩,g3⟩
    have C:dy_ n pre<x.Seq→Wp (fun k=>if x.Seq=n then (gv_ k ⟨n,pre++x::t,o,r⟩ x.Part).bind fun r6=>bif r6 then some false else aN_ k (pre++x::t) ((pre++x::t).length:Int) ((pre.length:Int)+1) n (pre++x::t) o r
     else aN_ k (pre++x::t) ((pre++x::t).length:Int) ((pre.length:Int)+1) n (pre++x::t) o r) (· =decide ((WHs n (dy_ n pre) (x::t)∧xh_ n o r (x::t))∧SmR r)):=fun h'=>by
      refine Wp.ite (fun h3=> ?_) (fun h3=>G (fun g=>absurd g h3) h')
      refine Wp.bind (Cb_ n _ o r x.Part (by omega) (by omega)) (fun _ e=> ?_);subst e
      simp only [af_]
      exact Wp.ite (fun h4=>F fun g=>g.2 x (List.mem_cons_self ..) h3 h4) (fun h4=>G (fun _=>h4) h')
    simp only [eK_]
    refine Wp.ite (fun h3=> ?_) (fun h3=> ?_)
    ·obtain ⟨y,hy,hy'⟩:=r1_ n pre (x::t) (by omega)
     rw [hy]
     simp only [Option.bind_some]
     refine Wp.ite (fun h4=>F fun h'=>by have:=h'.1.1;omega) (fun h4=> ?_)
     exact C (by omega)
    ·have:pre=[]:=List.length_eq_zero_iff.mp (by omega)
     exact C (by subst this;simp [dy_];omega)
theorem ew_ (t:al_):Wp (fun k=>bL_ k t) (· =decide (VTake t)):=by
  unfold bL_
  simp only [af_,aD_]
  have F:¬VTake t→Wp (fun _=>some false) (· =decide (VTake t)):=fun h=>Wp.ret (decide_eq_false h).symm
  refine Wp.bind (md_ _ _ _) (fun _ e=> ?_);subst e
  simp only [inB,af_]
  refine Wp.ite (fun h1=> ?_) (fun h1=>F fun h'=>h1 h'.1)
  refine Wp.ite (fun h2=>F fun h'=>by have:=h'.2.1;omega) (fun h2=> ?_)
  refine Wp.ite (fun h3=>F fun h'=>by have:=h'.2.2.1;omega) (fun h3=> ?_)
  refine Wp.ite (fun h4=>F fun h'=>by have:=h'.2.2.2.1;omega) (fun h4=> ?_)
  refine Wp.mono (ma_ t.Next t.Open t.Ready h1 (by omega) (by omega) t.Held [] (by simp;omega) (by simp [dy_])) fun v hv=> ?_
  rw [hv,decide_eq_decide]
  exact ⟨fun g=>⟨h1,by omega,by omega,by omega,g.2,g.1⟩,fun g=>⟨g.2.2.2.2.2,g.2.2.2.2.1⟩⟩
theorem lW_ (t:al_) (h:t.Held.length≤1048576) (h':t.Ready.length≤1048576):Wp (fun k=>fk_ k t) (· =t):=by
  unfold fk_
  refine Wp.opt (bf_ (by simp;omega)) ?_
  refine Wp.opt (bf_ (by simp;omega)) ?_
  exact Wp.ret (by rw [List.nil_append,List.nil_append])
theorem qK_ (t:al_) (h:t.Held.length≤1048576) (h':t.Ready.length≤1048576):Wp (fun k=>e0_ k t) (· =t):=lW_ t h h'
abbrev np_:al_:=⟨0,[],noB,[]⟩
theorem sS_:VTake np_:=⟨by simp,by simp,by simp [fz_],by simp,fun s hs=>by simp at hs,trivial,fun x hx=>by simp at hx⟩
theorem wg_ {n:Int}:∀{l:List ai_} {p:Int},WHs n p l→∀x∈l,x.Part.Text.size≤20
  | [],_,_,x,h=>by simp at h
  | y::t,p,⟨h1,h2⟩,x,h=>by
    rcases List.mem_cons.mp h with rfl | h
    ·exact h1.2.2.2
    ·exact wg_ h2 x h
theorem zY_ {n:Int}:∀{l:List ai_} {p:Int},WHs n p l→∀x∈l,p<x.Seq
  | [],_,_,x,h=>by simp at h
  | y::t,p,⟨h1,h2⟩,x,h=>by
    rcases List.mem_cons.mp h with rfl | h
    ·exact h1.1
    ·have:=zY_ h2 x h;omega
theorem wW_ {n n':Int} (hn:n≤n'):∀{l:List ai_} {p:Int},WHs n p l→WHs n' p l
  | [],_,_=>trivial
  | y::t,p,⟨h1,h2⟩=>⟨⟨h1.1,by omega,h1.2.2⟩,wW_ hn h2⟩
theorem VTake.sm {t:al_} (h:VTake t):l5_ t:=by
  obtain ⟨h1,h2,h3,h4,h5,h6,h7⟩:=h
  unfold l5_ smL
  refine ⟨⟨by omega,fun x hx=> ?_⟩,by omega,⟨by omega,fun s hs=>by have:=h5 s hs;omega⟩⟩
  have:=wg_ h6 x hx
  show x.Part.Text.size≤1048576
  omega
def jb_:List ai_→Int→ByteArray→List ByteArray→al_
  | [],n,o,r=>⟨n,[],o,r⟩
  | x::t,n,o,r=>if x.Seq=n∧goes o r x.Part then (if x.Part.Last=true then jb_ t (n+1) noB (r++[o++x.Part.Text]) else jb_ t (n+1) (o++x.Part.Text) r) else ⟨n,x::t,o,r⟩
theorem pW_ (c:Int) (e:ByteArray) (z:List ai_) (w:List ByteArray):∀(h:List ai_) (n:Int) (o:ByteArray) (r:List ByteArray),h.length≤100→(∀x∈h,x.Seq≤999999∧x.Part.Text.size≤1000)→0≤n→o.size≤200→r.length≤4→
    Wp (fun k=>cI_ k n o c e h r z w) (· =jb_ h n o r)
  | [],n,o,r,hl,hx,hn,ho,hr=>by
    refine Wp.step ?_
    simp only [cI_]
    simp (disch:=simp) only [af_,if_neg]
    exact Wp.ret rfl
  | x::t,n,o,r,hl,hx,hn,ho,hr=>by
    refine Wp.step ?_
    obtain ⟨x1,x2⟩:=hx x (List.mem_cons_self ..)
    simp only [List.length_cons] at hl
    simp only [cI_,jb_]
    have e0:idx (x::t) 0=some x:=rfl
    have e1:(x::t)[Int.toNat 0]? =some x:=rfl
    have e2:wnd (x::t).length 1 ((x::t).length:Int)=some (1,(x::t).length):=by rw [dz_ (by simp only [List.length_cons];omega)];simp
    have e3:app 32 ([]:List ai_) (dS_ (x::t) 1 (x::t).length)=some t:=by rw [bf_ (by simp [dS_];omega)];simp [dS_]
    simp only [e0,e1,e2,e3,af_,Option.bind_some,eK_]
    have hpos:((x::t).length:Int)>0:=by simp only [List.length_cons];omega
    simp only [if_pos hpos]
    refine Wp.ite (fun h1=> ?_) (fun h1=>Wp.ret (by rw [if_neg (fun g=>h1 g.1)]))
    refine Wp.bind (zl_ n _ o r x.Part (by omega) (by omega)) (fun _ e=> ?_);subst e
    simp only [af_]
    refine Wp.ite (fun h2=> ?_) (fun h2=>Wp.ret (by rw [if_neg (fun g=>h2 g.2)]))
    rw [if_pos ⟨h1,h2⟩,bz_ (by omega)]
    simp only [Option.bind_some]
    have hx':∀y∈t,y.Seq≤999999∧y.Part.Text.size≤1000:=fun y hy=>hx y (List.mem_cons_of_mem _ hy)
    refine Wp.bif (fun h3=> ?_) (fun h3=> ?_)
    ·rw [if_pos h3,bf_ (by simp;omega)]
     simp (disch:=omega) only [Option.bind_some,aF_]
     exact pW_ c e z w t (n+1) noB _ (by omega) hx' (by omega) (by simp [fz_]) (by have:=h2.2 h3;simp;omega)
    ·rw [if_neg (by simp [h3])]
     simp (disch:=omega) only [aF_]
     exact pW_ c e z w t (n+1) _ _ (by omega) hx' (by omega) (by rw [ba_];exact h2.1) hr
theorem ue_:∀(k:Nat) n o c e h r z w,eH_ k n o c e h r z w=cI_ k n o c e h r z w
  | 0,_,_,_,_,_,_,_,_=>rfl
  | k+1,n,o,c,e,h,r,z,w=>by
    have hi:∀a b,gv_ k a b=eG_ k a b:=fun _ _=>rfl
    simp only [eH_,cI_,ue_ k,hi]
theorem qQ_ (t:al_) (hl:t.Held.length≤100) (hx:∀x∈t.Held,x.Seq≤999999∧x.Part.Text.size≤1000) (hn:0≤t.Next) (ho:t.Open.size≤200) (hr:t.Ready.length≤4):Wp (fun k=>i0_ k t) (· =jb_ t.Held t.Next t.Open t.Ready):=
  pW_ _ _ _ _ t.Held t.Next t.Open t.Ready hl hx hn ho hr
theorem p2_ (t:al_) (hl:t.Held.length≤100) (hx:∀x∈t.Held,x.Seq≤999999∧x.Part.Text.size≤1000) (hn:0≤t.Next) (ho:t.Open.size≤200) (hr:t.Ready.length≤4):Wp (fun k=>eT_ k t) (· =jb_ t.Held t.Next t.Open t.Ready):=by
  have:(fun k=>eT_ k t)=fun k=>i0_ k t:=funext fun k=>ue_ k _ _ _ _ _ _ _ _
  rw [this];exact qQ_ t hl hx hn ho hr
theorem sL_ (n0:Int):∀(h:List ai_) (n:Int) (o:ByteArray) (r:List ByteArray),n0≤n→WHs n0 (n-1) h→h.length≤8→0≤n→n≤1000000→o.size≤200→r.length≤4→SmR r→VTake (jb_ h n o r)
  | [],n,o,r,h0,hw,hl,hn,hn',ho,hr,hs=>⟨⟨hn,hn'⟩,by simp [jb_],ho,hr,hs,trivial,fun x hx=>by simp [jb_] at hx⟩
  | x::t,n,o,r,h0,⟨hw1,hw2⟩,hl,hn,hn',ho,hr,hs=>by
    simp only [List.length_cons] at hl
    simp only [jb_]
    split
    ·rename_i hg
     have hw3:WHs n0 (n+1-1) t:=by rw [show n+1-1=x.Seq by omega];exact hw2
     split
     ·rename_i hl3
      refine sL_ n0 t (n+1) noB _ (by omega) hw3 (by omega) (by omega) (by omega) (by simp [fz_]) (by have:=hg.2.2 hl3;simp;omega) (fun s h'=> ?_)
      simp only [List.mem_append,List.mem_singleton] at h'
      rcases h' with h' | rfl
      ·exact hs s h'
      ·rw [ba_];exact hg.2.1
     ·exact sL_ n0 t (n+1) _ r (by omega) hw3 (by omega) (by omega) (by omega) (by rw [ba_];exact hg.2.1) hr hs
    ·rename_i hg
     refine ⟨⟨hn,hn'⟩,by simp only [List.length_cons];omega,ho,hr,hs,wW_ h0 ⟨hw1,hw2⟩,fun y hy=> ?_⟩
     rcases List.mem_cons.mp hy with rfl | hy
     ·exact fun e g=>hg ⟨e,g⟩
     ·have:=zY_ hw2 y hy
      exact fun e=>by simp only at e;omega
def qi_ (t:al_):al_×ByteArray×Bool:=if VTake t then (match t.Ready with | []=>(t,noB,false) | s::rs=>(jb_ t.Held t.Next t.Open rs,s,true)) else (np_,noB,false)
theorem VTake.small {t:al_} (h:VTake t):∀x∈t.Held,x.Seq≤999999∧x.Part.Text.size≤1000:=by
  have hw:=h.2.2.2.2.2.1
  have G:∀{l:List ai_} {p:Int},WHs t.Next p l→∀x∈l,x.Seq≤999999:=by
    intro l
    induction l with
    | nil=>intro p _ x hx;simp at hx
    | cons y l ih=>
      rintro p ⟨h1,h2⟩ x hx
      rcases List.mem_cons.mp hx with rfl | hx
      ·exact h1.2.2.1
      ·exact ih h2 x hx
  exact fun x hx=>⟨G hw x hx,by have:=wg_ hw x hx;omega⟩
theorem wq_ (t:al_):Wp (fun k=>ga_ k t) (· =qi_ t):=by
  unfold ga_ qi_
  refine Wp.bind (ep_ t) (fun _ e=> ?_);subst e
  simp only [aD_,af_]
  refine Wp.ite (fun h=> ?_) (fun h=>Wp.ret (by rw [if_neg h]))
  rw [if_pos h]
  refine Wp.bind (lW_ t (by have:=h.2.1;omega) (by have:=h.2.2.2.1;omega)) (fun r2 e=> ?_);rw [e]
  simp only [eK_]
  obtain ⟨n,hd,o,r⟩:=t
  cases r with
  | nil=>exact Wp.ret rfl
  | cons s rs=>
    have hr:=h.2.2.2.1
    simp only [List.length_cons] at hr
    have e0:idx (s::rs) 0=some s:=rfl
    have e1:(s::rs)[Int.toNat 0]? =some s:=rfl
    have e2:wnd (s::rs).length 1 ((s::rs).length:Int)=some (1,(s::rs).length):=by rw [dz_ (by simp only [List.length_cons];omega)];simp
    have e3:app 16 ([]:List ByteArray) (dS_ (s::rs) 1 (s::rs).length)=some rs:=by rw [bf_ (by simp [dS_];omega)];simp [dS_]
    simp only [e0,e1,e2,e3,Option.bind_some]
    have hpos:¬((s::rs).length:Int)=0:=by simp only [List.length_cons];omega
    simp only [if_neg hpos]
    refine Wp.bind (qQ_ _ (by have:=h.2.1;simp only at this⊢;omega) h.small h.1.1 h.2.2.1 (by simp only;omega)) (fun _ e=> ?_);subst e
    exact Wp.ret rfl
theorem wf_ (t:al_):Wp (fun k=>gj_ k t) (· =qi_ t):=by
  unfold gj_ qi_
  refine Wp.bind (ew_ t) (fun _ e=> ?_);subst e
  simp only [aD_,af_]
  refine Wp.ite (fun h=> ?_) (fun h=>Wp.ret (by rw [if_neg h]))
  rw [if_pos h]
  refine Wp.bind (qK_ t (by have:=h.2.1;omega) (by have:=h.2.2.2.1;omega)) (fun r2 e=> ?_);rw [e]
  simp only [eK_]
  obtain ⟨n,hd,o,r⟩:=t
  cases r with
  | nil=>exact Wp.ret rfl
  | cons s rs=>
    have hr:=h.2.2.2.1
    simp only [List.length_cons] at hr
    have e0:idx (s::rs) 0=some s:=rfl
    have e1:(s::rs)[Int.toNat 0]? =some s:=rfl
    have e2:wnd (s::rs).length 1 ((s::rs).length:Int)=some (1,(s::rs).length):=by rw [dz_ (by simp only [List.length_cons];omega)];simp
    have e3:app 16 ([]:List ByteArray) (dS_ (s::rs) 1 (s::rs).length)=some rs:=by rw [bf_ (by simp [dS_];omega)];simp [dS_]
    simp only [e0,e1,e2,e3,Option.bind_some]
    have hpos:¬((s::rs).length:Int)=0:=by simp only [List.length_cons];omega
    simp only [if_neg hpos]
    refine Wp.bind (p2_ _ (by have:=h.2.1;simp only at this⊢;omega) h.small h.1.1 h.2.2.1 (by simp only;omega)) (fun _ e=> ?_);subst e
    exact Wp.ret rfl
theorem w0_ (t:al_):VTake (qi_ t).1∧(qi_ t).2.1.size≤200:=by
  unfold qi_
  split
  ·rename_i h
   obtain ⟨n,hd,o,r⟩:=t
   cases r with
   | nil=>exact ⟨h,by simp [fz_]⟩
   | cons s rs=>
     obtain ⟨h1,h2,h3,h4,h5,h6,h7⟩:=h
     simp only [List.length_cons] at h4
     exact ⟨sL_ n hd n o rs (Int.le_refl _) h6 h2 h1.1 h1.2 h3 (by omega) (fun s' hs=>h5 s' (List.mem_cons_of_mem _ hs)),h5 s (List.mem_cons_self ..)⟩
  ·exact ⟨sS_,by simp [fz_]⟩
end Km.X
namespace Km.X
open Go Km
set_option linter.unusedVariables false
set_option linter.unusedSimpArgs false
def v9_ (n:Int):Nat→List ai_→Nat
  | m,[]=>m
  | m,x::t=>v9_ n (m+2^(x.Seq-n).toNat) t
def tkM (t:al_):Int×Int:=if VTake t then (t.Next,((v9_ t.Next 0 t.Held:Nat):Int)) else (0,0)
theorem ho_ {d:Nat} (h:d≤8):(2^d:Nat)≤256:=Nat.pow_le_pow_right (by decide) h
theorem DT_ (n:Int) (m:Nat) (i:Int) (xs:List ai_) (o:ByteArray) (r:List ByteArray) (x:ai_) (hi:idx xs i=some x) (hn:0≤n∧n≤1000000) (hx:n≤x.Seq∧x.Seq≤n+7) (hm:m≤256) (Q:Int×Int→Prop)
    (hq:Wp (fun k=>b1_ k ((m+2^(x.Seq-n).toNat:Nat):Int) (IntKind.wrap .i64 (i+1)) n xs o r) Q):∀(d:Nat) (y:Int),n≤y→y≤x.Seq→d=(x.Seq-y).toNat→Wp (fun k=>cD_ k (m:Int) i ((2^(y-n).toNat:Nat):Int) y n xs o r) Q
  | 0,y,h1,h2,h3=>by
    have hy:y=x.Seq:=by omega
    subst hy
    have hp:=ho_ (d:=(x.Seq-n).toNat) (by omega)
    refine Wp.step ?_
    simp only [cD_,hi,Option.bind_some]
    simp (disch:=omega) only [af_,if_neg]
    generalize 2^(x.Seq-n).toNat=P at*
    rw [aF_ (n:=(m:Int)+_) (by omega) (by omega),show (m:Int)+(P:Int)=((m+P:Nat):Int) by omega]
    exact hq
  | d+1,y,h1,h2,h3=>by
    have hp:=ho_ (d:=(y-n).toNat) (by omega)
    refine Wp.step ?_
    simp only [cD_,hi,Option.bind_some]
    simp (disch:=omega) only [af_,if_pos]
    have:=DT_ n m i xs o r x hi hn hx hm Q hq d (y+1) (by omega) (by omega) (by omega)
    have e:2^(y+1-n).toNat=2^(y-n).toNat*2:=by rw [show (y+1-n).toNat=(y-n).toNat+1 by omega,Nat.pow_succ]
    rw [e] at this
    generalize 2^(y-n).toNat=P at*
    rw [aF_ (n:=(P:Int)*2) (by omega) (by omega),aF_ (n:=y+1) (by omega) (by omega)]
    rwa [show ((P*2:Nat):Int)=(P:Int)*2 by omega] at this
theorem zF_ (n:Int) (o:ByteArray) (r:List ByteArray) (hn:0≤n∧n≤1000000):∀(t pre:List ai_) (p:Int) (m:Nat),(pre++t).length≤1000→n-1≤p→p≤n+7→WHs n p t→m<2^(p-n+1).toNat→
    Wp (fun k=>b1_ k (m:Int) (pre.length:Int) n (pre++t) o r) (· =(n,((v9_ n m t:Nat):Int)))
  | [],pre,p,m,hl,h1,h2,hw,hm=>by
    refine Wp.step ?_
    simp only [b1_,List.append_nil]
    simp (disch:=omega) only [af_,if_neg]
    exact Wp.ret rfl
  | x::t,pre,p,m,hl,h1,h2,⟨hw1,hw2⟩,hm=>by
    refine Wp.step ?_
    have hl':=hl
    simp only [List.length_append,List.length_cons] at hl
    simp only [b1_,v9_]
    simp only [af_,a0_,if_true]
    have hp:=ho_ (d:=(p-n+1).toNat) (by omega)
    have hlt:m+2^(x.Seq-n).toNat<2^(x.Seq-n+1).toNat:=by
      have:2^(p-n+1).toNat≤2^(x.Seq-n).toNat:=Nat.pow_le_pow_right (by decide) (by omega)
      rw [show (x.Seq-n+1).toNat=(x.Seq-n).toNat+1 by omega,Nat.pow_succ];omega
    have ih:=zF_ n o r hn t (pre++[x]) x.Seq (m+2^(x.Seq-n).toNat) (by simpa using hl') (by omega) (by omega) hw2 hlt
    rw [←aE_,←aR_] at ih
    have:=DT_ n m (pre.length:Int) (pre++x::t) o r x av_ hn (by omega) (by omega) (· =(n,((v9_ n (m+2^(x.Seq-n).toNat) t:Nat):Int))) (by rw [aF_ (by omega) (by omega)];exact ih) (x.Seq-n).toNat n (by omega) (by omega) rfl
    rwa [show ((2^(n-n).toNat:Nat):Int)=1 by simp] at this
theorem qn_ (t:al_):Wp (fun k=>d0_ k t) (· =tkM t):=by
  unfold d0_ tkM
  refine Wp.bind (ep_ t) (fun _ e=> ?_);subst e
  simp only [aD_,af_]
  refine Wp.ite (fun h=> ?_) (fun h=>Wp.ret (by rw [if_neg h]))
  rw [if_pos h]
  exact zF_ t.Next t.Open t.Ready h.1 t.Held [] (t.Next-1) 0 (by have:=h.2.1;show t.Held.length≤1000;omega) (by omega) (by omega) h.2.2.2.2.2.1 (Nat.two_pow_pos _)
theorem xp_ (m d:Nat) (h:m<2^d) (hd:d≤8):wC_ .i64 (m:Int) ((2^d:Nat):Int)=((m+2^d:Nat):Int):=by
  have e:∀m:Nat,BitVec.ofInt 64 (m:Int)=BitVec.ofNat 64 m:=fun m=>by
    apply BitVec.eq_of_toNat_eq
    simp [BitVec.toNat_ofInt]
  have hp:=ho_ hd
  show IntKind.wrap .i64 ((BitVec.ofInt 64 ((m:Nat):Int) ||| BitVec.ofInt 64 ((2^d:Nat):Int)).toNat:Int)=_
  rw [e,e,BitVec.toNat_or,BitVec.toNat_ofNat,BitVec.toNat_ofNat,Nat.mod_eq_of_lt (by omega),Nat.mod_eq_of_lt (by omega)]
  have:=Nat.shiftLeft_add_eq_or_of_lt (a:=1) (i:=d) (b:=m) h
  rw [Nat.shiftLeft_eq,Nat.one_mul] at this
  rw [Nat.or_comm,←this,Nat.add_comm]
  generalize 2^d=P at*
  exact aF_ (by omega) (by omega)
theorem FQ_ (d:Nat) (h:d≤8):shift .shl .i64 1 (d:Int)=some ((2^d:Nat):Int):=by
  have hp:=ho_ h
  simp only [shift]
  rw [if_neg (by omega)]
  congr 1
  rw [Int.toNat_natCast,show IntKind.i64.bits=64 from rfl,Nat.min_eq_left (by omega)]
  rw [show (1:Int)*(2:Int)^d=((2^d:Nat):Int) by simp]
  generalize 2^d=P at*
  exact aF_ (by omega) (by omega)
theorem yG_ (n:Int) (o:ByteArray) (r:List ByteArray) (hn:0≤n∧n≤1000000):∀(t pre:List ai_) (p:Int) (m:Nat),(pre++t).length≤1000→n-1≤p→p≤n+7→WHs n p t→m<2^(p-n+1).toNat→
    Wp (fun k=>cx_ k (m:Int) (pre++t) ((pre++t).length:Int) (pre.length:Int) n (pre++t) o r) (· =(n,((v9_ n m t:Nat):Int)))
  | [],pre,p,m,hl,h1,h2,hw,hm=>by
    refine Wp.step ?_
    simp only [cx_,List.append_nil]
    simp (disch:=omega) only [af_,if_neg]
    exact Wp.ret rfl
  | x::t,pre,p,m,hl,h1,h2,⟨hw1,hw2⟩,hm=>by
    refine Wp.step ?_
    have hl':=hl
    simp only [List.length_append,List.length_cons] at hl
    simp only [cx_,v9_]
    simp only [af_,a0_,if_true,av_,Option.bind_some]
    have hp:=ho_ (d:=(p-n+1).toNat) (by omega)
    have hle:2^(p-n+1).toNat≤2^(x.Seq-n).toNat:=Nat.pow_le_pow_right (by decide) (by omega)
    have hlt:m+2^(x.Seq-n).toNat<2^(x.Seq-n+1).toNat:=by
      rw [show (x.Seq-n+1).toNat=(x.Seq-n).toNat+1 by omega,Nat.pow_succ];omega
    have ih:=yG_ n o r hn t (pre++[x]) x.Seq (m+2^(x.Seq-n).toNat) (by simpa using hl') (by omega) (by omega) hw2 hlt
    rw [←aE_,←aR_] at ih
    simp (disch:=omega) only [aF_]
    have e:x.Seq-n=((x.Seq-n).toNat:Int):=by omega
    have e2:=FQ_ (x.Seq-n).toNat (by omega)
    rw [←e] at e2
    simp only [e2,Option.bind_some]
    rw [xp_ m _ (by omega) (by omega)]
    exact ih
theorem qc_ (t:al_):Wp (fun k=>dT_ k t) (· =tkM t):=by
  unfold dT_ tkM
  refine Wp.bind (ew_ t) (fun _ e=> ?_);subst e
  simp only [aD_,af_]
  refine Wp.ite (fun h=> ?_) (fun h=>Wp.ret (by rw [if_neg h]))
  rw [if_pos h]
  exact yG_ t.Next t.Open t.Ready h.1 t.Held [] (t.Next-1) 0 (by have:=h.2.1;show t.Held.length≤1000;omega) (by omega) (by omega) h.2.2.2.2.2.1 (Nat.two_pow_pos _)
end Km.X
namespace Km.X
open Go Km
set_option linter.unusedVariables false
set_option linter.unusedSimpArgs false
def Bb_ (s:am_):Prop:=s.Base=0∧s.Items.length=0
instance (s:am_):Decidable (Bb_ s):=by unfold Bb_;infer_instance
def z9_ (t:al_):Prop:=t.Next=0∧t.Held.length=0∧t.Open=noB∧t.Ready.length=0
instance (t:al_):Decidable (z9_ t):=by unfold z9_;infer_instance
theorem uH_ (a b:Int):(a==b)=decide (a=b):=by by_cases h:a=b<;>simp [h]
theorem ul_ (s:am_):Wp (fun k=>gm_ k s) (· =decide (Bb_ s)):=by
  unfold gm_
  simp only [uH_,af_]
  refine Wp.ite (fun h=>Wp.ret ?_) (fun h=>Wp.ret (decide_eq_false fun g=>h g.1).symm)
  rw [decide_eq_decide];exact ⟨fun g=>⟨h,by omega⟩,fun g=>by have:=g.2;omega⟩
theorem uw_ (t:al_):Wp (fun k=>f8_ k t) (· =decide (z9_ t)):=by
  unfold f8_
  simp only [uH_,cm_,af_]
  have F:¬z9_ t→Wp (fun _=>some false) (· =decide (z9_ t)):=fun h=>Wp.ret (decide_eq_false h).symm
  refine Wp.ite (fun h=> ?_) (fun h=>F fun g=>h g.1)
  refine Wp.ite (fun h2=> ?_) (fun h2=>F fun g=>by have:=g.2.1;omega)
  refine Wp.ite (fun h3=>Wp.ret ?_) (fun h3=>F fun g=>h3 g.2.2.1)
  rw [decide_eq_decide];exact ⟨fun g=>⟨h,by omega,h3,by omega⟩,fun g=>by have:=g.2.2.2;omega⟩
def VEnd (e:ao_):Prop:=(1≤e.Number∧e.Number≤2)∧(1≤e.Life∧e.Life≤1000)∧(0≤e.Peer∧e.Peer≤1000)∧(0≤e.Since∧e.Since≤1000000)∧VSend e.Send∧VTake e.Take∧(e.Peer=0→Bb_ e.Send∧z9_ e.Take)∧(e.Up=false→e.Peer=0∧e.Since=0∧e.Owes=false)
instance (e:ao_):Decidable (VEnd e):=by unfold VEnd;infer_instance
theorem VEnd.sm {e:ao_} (h:VEnd e):iU_ e:=⟨h.2.2.2.2.1.sm,h.2.2.2.2.2.1.sm⟩
theorem yF_ (e:ao_) (h:(1≤e.Number∧e.Number≤2)∧(1≤e.Life∧e.Life≤1000)∧(0≤e.Peer∧e.Peer≤1000)∧(0≤e.Since∧e.Since≤1000000)∧VSend e.Send∧VTake e.Take) (h':e.Peer=0→Bb_ e.Send∧z9_ e.Take):
    Wp (fun _=>bif e.Up then some true else bif e.Peer==0 then bif e.Since==0 then some (!e.Owes) else some false else some false) (· =decide (VEnd e)):=by
  obtain ⟨h1,h2,h3,h4,h5,h6⟩:=h
  simp only [eK_]
  refine Wp.bif (fun u=>Wp.ret (decide_eq_true ⟨h1,h2,h3,h4,h5,h6,h',fun g=>by rw [u] at g;cases g⟩).symm) (fun u=> ?_)
  refine Wp.ite (fun h7=> ?_) (fun h7=>Wp.ret (decide_eq_false fun g=>h7 (g.2.2.2.2.2.2.2 u).1).symm)
  refine Wp.ite (fun h8=>Wp.ret ?_) (fun h8=>Wp.ret (decide_eq_false fun g=>h8 (g.2.2.2.2.2.2.2 u).2.1).symm)
  by_cases ho:e.Owes=true
  ·rw [ho];exact (decide_eq_false fun g=>by have:=(g.2.2.2.2.2.2.2 u).2.2;rw [ho] at this;cases this).symm
  ·have ho:e.Owes=false:=by simpa using ho
   rw [ho];exact (decide_eq_true ⟨h1,h2,h3,h4,h5,h6,h',fun _=>⟨h7,h8,ho⟩⟩).symm
theorem bQ_ (e:ao_):Wp (fun k=>bO_ k e) (· =decide (VEnd e)):=by
  unfold bO_
  have F:¬VEnd e→Wp (fun _=>some false) (· =decide (VEnd e)):=fun h=>Wp.ret (decide_eq_false h).symm
  refine Wp.bind (cU_ _ _ _) (fun _ q=> ?_);subst q
  simp only [inB,af_,aD_]
  refine Wp.ite (fun h1=> ?_) (fun h1=>F fun g=>h1 g.1)
  refine Wp.bind (cU_ _ _ _) (fun _ q=> ?_);subst q
  simp only [inB,af_]
  refine Wp.ite (fun h2=> ?_) (fun h2=>F fun g=>h2 g.2.1)
  refine Wp.bind (cU_ _ _ _) (fun _ q=> ?_);subst q
  simp only [inB,af_]
  refine Wp.ite (fun h3=> ?_) (fun h3=>F fun g=>h3 g.2.2.1)
  refine Wp.bind (cU_ _ _ _) (fun _ q=> ?_);subst q
  simp only [inB,af_]
  refine Wp.ite (fun h4=> ?_) (fun h4=>F fun g=>h4 g.2.2.2.1)
  refine Wp.bind (de_ _) (fun _ q=> ?_);subst q
  simp only [af_]
  refine Wp.ite (fun h5=> ?_) (fun h5=>F fun g=>h5 g.2.2.2.2.1)
  refine Wp.bind (ep_ _) (fun _ q=> ?_);subst q
  simp only [af_]
  refine Wp.ite (fun h6=> ?_) (fun h6=>F fun g=>h6 g.2.2.2.2.2.1)
  have T:=yF_ e ⟨h1,h2,h3,h4,h5,h6⟩
  simp only [eK_] at T⊢
  refine Wp.ite (fun h7=> ?_) (fun h7=>T fun g=>absurd g h7)
  refine Wp.bind (ul_ _) (fun _ q=> ?_);subst q
  simp only [af_]
  refine Wp.ite (fun h8=> ?_) (fun h8=>F fun g=>h8 (g.2.2.2.2.2.2.1 h7).1)
  refine Wp.bind (uw_ _) (fun _ q=> ?_);subst q
  simp only [af_]
  exact Wp.ite (fun h9=>T fun _=>⟨h8,h9⟩) (fun h9=>F fun g=>h9 (g.2.2.2.2.2.2.1 h7).2)
theorem dH_ (e:ao_):Wp (fun k=>da_ k e) (· =decide (VEnd e)):=by
  unfold da_
  have F:¬VEnd e→Wp (fun _=>some false) (· =decide (VEnd e)):=fun h=>Wp.ret (decide_eq_false h).symm
  have M:(1≤e.Number∧e.Number≤2)→Wp (fun k=>(aQ_ k e.Life 1 1000).bind fun r8=>
    bif (!r8) then
      some false
    else
      (aQ_ k e.Peer 0 1000).bind fun r9=>
      bif (!r9) then
        some false
      else
        (aQ_ k e.Since 0 1000000).bind fun r10=>
        bif (!r10) then
          some false
        else
          (bq_ k e.Send).bind fun r11=>
          bif (!r11) then
            some false
          else
            (bL_ k e.Take).bind fun r12=>
            bif (!r12) then
              some false
            else
              bif (e.Peer==0) then
                (ih_ k e.Send).bind fun r13=>
                bif r13 then
                  (h8_ k e.Take).bind fun r14=>
                  bif (!r14) then
                    some false
                  else
                    bif e.Up then
                      some true
                    else
                      bif (e.Peer==0) then
                        bif (e.Since==0) then
                          some (!e.Owes)
                        else
                          some false
                      else
                        some false
                else
                  some false
              else
                bif e.Up then
                  some true
                else
                  bif (e.Peer==0) then
                    bif (e.Since==0) then
                      some (!e.Owes)
                    else
                      some false
                  else
                    some false) (· =decide (VEnd e)):=fun h1=>by
    refine Wp.bind (md_ _ _ _) (fun _ q=> ?_);subst q
    simp only [inB,af_,aD_]
    refine Wp.ite (fun h2=> ?_) (fun h2=>F fun g=>h2 g.2.1)
    refine Wp.bind (md_ _ _ _) (fun _ q=> ?_);subst q
    simp only [inB,af_]
    refine Wp.ite (fun h3=> ?_) (fun h3=>F fun g=>h3 g.2.2.1)
    refine Wp.bind (md_ _ _ _) (fun _ q=> ?_);subst q
    simp only [inB,af_]
    refine Wp.ite (fun h4=> ?_) (fun h4=>F fun g=>h4 g.2.2.2.1)
    refine Wp.bind (fT_ _) (fun _ q=> ?_);subst q
    simp only [af_]
    refine Wp.ite (fun h5=> ?_) (fun h5=>F fun g=>h5 g.2.2.2.2.1)
    refine Wp.bind (ew_ _) (fun _ q=> ?_);subst q
    simp only [af_]
    refine Wp.ite (fun h6=> ?_) (fun h6=>F fun g=>h6 g.2.2.2.2.2.1)
    have T:=yF_ e ⟨h1,h2,h3,h4,h5,h6⟩
    simp only [eK_] at T⊢
    refine Wp.ite (fun h7=> ?_) (fun h7=>T fun g=>absurd g h7)
    refine Wp.bind (P:=fun r=>r=decide (Bb_ e.Send)) (ul_ _) (fun _ q=> ?_);subst q
    simp only [af_]
    refine Wp.ite (fun h8=> ?_) (fun h8=>F fun g=>h8 (g.2.2.2.2.2.2.1 h7).1)
    refine Wp.bind (P:=fun r=>r=decide (z9_ e.Take)) (uw_ _) (fun _ q=> ?_);subst q
    simp only [af_]
    exact Wp.ite (fun h9=>T fun _=>⟨h8,h9⟩) (fun h9=>F fun g=>h9 (g.2.2.2.2.2.2.1 h7).2)
  simp only [d4_]
  refine Wp.ite (fun h=>M (by omega)) (fun h=> ?_)
  exact Wp.ite (fun h2=>M (by omega)) (fun h2=>F fun g=>by have:=g.1;omega)
theorem fG_ (e:ao_) (h:VEnd e):Wp (fun k=>cJ_ k e) (· =e):=by
  unfold cJ_
  obtain ⟨h1,h2⟩:=h.sm
  refine Wp.bind (ji_ _ h1.1) (fun r q=> ?_);subst q
  refine Wp.bind (lW_ _ h2.1.1 h2.2.2.1) (fun r q=> ?_);subst q
  exact Wp.ret rfl
theorem hx_ (e:ao_) (h:VEnd e):Wp (fun k=>dF_ k e) (· =e):=fG_ e h
abbrev n5_:ao_:=⟨0,false,0,0,0,false,km_,np_⟩
theorem FR_:Bb_ km_:=⟨rfl,rfl⟩
theorem F1_:z9_ np_:=⟨rfl,rfl,rfl,rfl⟩
def Ch_ (e:ao_):ao_:=if VEnd e then ⟨e.Number,false,e.Life,0,0,false,km_,np_⟩ else n5_
theorem ww_ (e:ao_):Wp (fun k=>hd_ k e) (· =Ch_ e):=by
  unfold hd_ Ch_
  refine Wp.bind (bQ_ _) (fun _ q=> ?_);subst q
  simp only [af_,aD_]
  exact Wp.ite (fun h1=>Wp.ret (by rw [if_pos h1])) (fun h1=>Wp.ret (by rw [if_neg h1]))
def BA_ (e:ao_):ao_:=if VEnd e then (if e.Up=true then e else if 1000≤e.Life then e else ⟨e.Number,true,e.Life+1,0,0,false,km_,np_⟩) else n5_
theorem wk_ (e:ao_):Wp (fun k=>g5_ k e) (· =BA_ e):=by
  unfold g5_ BA_
  refine Wp.bind (bQ_ _) (fun _ q=> ?_);subst q
  simp only [af_,aD_]
  refine Wp.ite (fun h1=> ?_) (fun h1=>Wp.ret (by rw [if_neg h1]))
  rw [if_pos h1]
  refine Wp.bif (fun u=> ?_) (fun u=> ?_)
  ·rw [if_pos u];refine Wp.bind (fG_ e h1) (fun r q=> ?_);rw [q];exact Wp.ret rfl
  ·rw [if_neg (by simp [u])]
   refine Wp.ite (fun h2=> ?_) (fun h2=> ?_)
   ·rw [if_pos (by omega)];refine Wp.bind (fG_ e h1) (fun r q=> ?_);rw [q];exact Wp.ret rfl
   ·rw [if_neg (by omega)]
    have:=h1.2.1
    rw [aF_ (by omega) (by omega)];exact Wp.ret rfl
def ly_ (e:ao_):ay_:=if VEnd e then (if e.Up=true then (if (qi_ e.Take).2.2=true then ⟨0,⟨e.Number,e.Up,e.Life,e.Peer,e.Since,true,e.Send,(qi_ e.Take).1⟩,[],(qi_ e.Take).2.1⟩ else ⟨4,n5_,[],noB⟩) else ⟨2,n5_,[],noB⟩) else ⟨1,n5_,[],noB⟩
theorem uc_ (e:ao_):Wp (fun k=>hf_ k e) (· =ly_ e):=by
  unfold hf_ ly_
  refine Wp.bind (bQ_ _) (fun _ q=> ?_);subst q
  simp only [af_,aD_]
  refine Wp.ite (fun h1=> ?_) (fun h1=>Wp.ret (by rw [if_neg h1]))
  rw [if_pos h1]
  refine Wp.bif (fun u=> ?_) (fun u=>Wp.ret (by rw [if_neg (by simp [u])]))
  rw [if_pos u]
  refine Wp.bind (wq_ _) (fun _ q=> ?_);subst q
  refine Wp.bif (fun v=> ?_) (fun v=>Wp.ret (by rw [if_neg (by simp [v])]))
  rw [if_pos v]
  refine Wp.bind (fG_ e h1) (fun r q=> ?_);rw [q];exact Wp.ret rfl
theorem up_ (e:ao_):Wp (fun k=>g4_ k e) (· =ly_ e):=by
  unfold g4_ ly_
  refine Wp.bind (dH_ _) (fun _ q=> ?_);subst q
  simp only [af_,aD_]
  refine Wp.ite (fun h1=> ?_) (fun h1=>Wp.ret (by rw [if_neg h1]))
  rw [if_pos h1]
  refine Wp.bif (fun u=> ?_) (fun u=>Wp.ret (by rw [if_neg (by simp [u])]))
  rw [if_pos u]
  refine Wp.bind (wf_ _) (fun _ q=> ?_);subst q
  refine Wp.bif (fun v=> ?_) (fun v=>Wp.ret (by rw [if_neg (by simp [v])]))
  rw [if_pos v]
  refine Wp.bind (hx_ e h1) (fun r q=> ?_);rw [q];exact Wp.ret rfl
def An_ (e:ao_) (t:ByteArray):ay_:=if VEnd e then (if e.Up=true then (if e.Peer=0 then ⟨2,n5_,[],noB⟩ else if (ze_ e.Send t).2=0 then ⟨0,⟨e.Number,e.Up,e.Life,e.Peer,e.Since,e.Owes,(ze_ e.Send t).1,e.Take⟩,[],noB⟩ else ⟨(ze_ e.Send t).2,n5_,[],noB⟩) else ⟨2,n5_,[],noB⟩) else ⟨1,n5_,[],noB⟩
theorem u5_ (e:ao_) (t:ByteArray):Wp (fun k=>gI_ k e t) (· =An_ e t):=by
  unfold gI_ An_
  refine Wp.bind (bQ_ _) (fun _ q=> ?_);subst q
  simp only [af_,aD_,eK_,d4_]
  refine Wp.ite (fun h1=> ?_) (fun h1=>Wp.ret (by rw [if_neg h1]))
  rw [if_pos h1]
  refine Wp.bif (fun u=> ?_) (fun u=>Wp.ret (by rw [if_neg (by simp [u])]))
  rw [if_pos u]
  refine Wp.ite (fun h2=>Wp.ret (by rw [if_pos h2])) (fun h2=> ?_)
  rw [if_neg h2]
  refine Wp.bind (vO_ _ _) (fun _ q=> ?_);subst q
  refine Wp.ite (fun h3=> ?_) (fun h3=>Wp.ret (by rw [if_neg h3]))
  rw [if_pos h3]
  refine Wp.bind (fG_ e h1) (fun r q=> ?_);rw [q];exact Wp.ret rfl
end Km.X
namespace Km.X
open Go Km
set_option linter.unusedVariables false
set_option linter.unusedSimpArgs false
theorem qC_:∀(t:List ah_) (i:Nat) (b:Int),∀q∈(fI_ i b t).2,b+i≤q∧q<b+i+t.length
  | [],i,b,q,h=>by simp [fI_] at h
  | x::t,i,b,q,h=>by
    simp only [fI_] at h
    split at h
    ·simp at h
    ·simp only [List.length_cons]
     rcases List.mem_append.mp h with h | h
     ·split at h
      ·simp only [List.mem_singleton] at h;omega
      ·simp at h
     ·have:=qC_ t (i+1) b q h
      omega
def sj_ (l:List ah_) (i:Int):aA_:=match l[i.toNat]? with | some x=>x.Part | none=>⟨noB,false⟩
def nV_ (n li p b:Int) (l:List ah_) (q:Int):ad_:=⟨2,n,li,p,0,0,q,(sj_ l (q-b)).Last,(sj_ l (q-b)).Text⟩
def eA_ (e:ao_):am_×List Int:=if e.Peer=0 then (e.Send,[]) else kP_ e.Send
def upS (e:ao_):Int:=if e.Since<1000000 then e.Since+1 else e.Since
def gE_ (e:ao_):ay_:=if VEnd e then
    (if e.Up=true then
      (if e.Owes=true∨6≤upS e then ⟨0,⟨e.Number,e.Up,e.Life,e.Peer,0,false,(eA_ e).1,e.Take⟩,(eA_ e).2.map (nV_ e.Number e.Life e.Peer (eA_ e).1.Base (eA_ e).1.Items)++[⟨1,e.Number,e.Life,e.Peer,(tkM e.Take).1,(tkM e.Take).2,0,false,noB⟩],noB⟩
      else ⟨0,⟨e.Number,e.Up,e.Life,e.Peer,upS e,e.Owes,(eA_ e).1,e.Take⟩,(eA_ e).2.map (nV_ e.Number e.Life e.Peer (eA_ e).1.Base (eA_ e).1.Items),noB⟩)
    else ⟨0,e,[],noB⟩) else ⟨1,n5_,[],noB⟩
theorem tU_ (x0 x1:Int) (x2:Bool) (x3 x4 x5:Int) (x6:Bool) (x7 x8:Int) (x9 x10:ByteArray) (n:Int) (u:Bool) (li p s:Int) (w:Bool) (b nn:Int) (o:ByteArray) (out:List ad_) (y1:List ah_) (y2:List ai_) (y3:List ByteArray) (y4:List ad_) (it:List ah_) (h:List ai_) (r:List ByteArray) (ho:out.length≤1000):
    Wp (fun k=>dd_ k x0 x1 x2 x3 x4 x5 x6 x7 x8 x9 x10 n u li p s w b nn o out y1 y2 y3 y4 it h r) (· =if w=true∨6≤s then ⟨0,⟨n,u,li,p,0,false,⟨b,it⟩,⟨nn,h,o,r⟩⟩,out++[⟨1,n,li,p,(tkM ⟨nn,h,o,r⟩).1,(tkM ⟨nn,h,o,r⟩).2,0,false,noB⟩],noB⟩ else ⟨0,⟨n,u,li,p,s,w,⟨b,it⟩,⟨nn,h,o,r⟩⟩,out,noB⟩):=by
  refine Wp.step ?_
  simp only [dd_]
  have G:w=true∨6≤s→Wp (fun k=>(d0_ k ⟨nn,h,o,r⟩).bind fun r8=>(app 80 out ([(⟨1,n,li,p,r8.1,r8.2,0,false,(⟨#[]⟩:ByteArray)⟩:ad_)]:List ad_)).bind fun l9=>
   bZ_ k x0 x1 x2 x3 x4 x5 x6 x7 x8 x9 x10 n u li p 0 false b nn o l9 y1 y2 y3 y4 it h r) (· =if w=true∨6≤s then ⟨0,⟨n,u,li,p,0,false,⟨b,it⟩,⟨nn,h,o,r⟩⟩,out++[⟨1,n,li,p,(tkM ⟨nn,h,o,r⟩).1,(tkM ⟨nn,h,o,r⟩).2,0,false,noB⟩],noB⟩ else ⟨0,⟨n,u,li,p,s,w,⟨b,it⟩,⟨nn,h,o,r⟩⟩,out,noB⟩):=fun g=>by
    rw [if_pos g]
    refine Wp.bind (qn_ _) (fun _ q=> ?_);subst q
    refine Wp.opt (bf_ (by simp;omega)) ?_
    refine Wp.step ?_
    simp only [bZ_]
    exact Wp.ret rfl
  refine Wp.bif (fun g=>G (.inl g)) (fun g=> ?_)
  simp only [af_]
  refine Wp.ite (fun g2=>G (.inr g2)) (fun g2=> ?_)
  rw [if_neg (by rw [g];intro h;rcases h with h | h;cases h;omega)]
  refine Wp.step ?_
  simp only [bZ_]
  exact Wp.ret (by rw [g])
theorem u2_ (x0 x1:Int) (x2:Bool) (x3 x4 x5:Int) (x6:Bool) (x7 x8:Int) (x9 x10:ByteArray) (n:Int) (u:Bool) (li p s:Int) (w:Bool) (b c nn:Int) (o:ByteArray) (y1:List ah_) (y2:List ai_) (y3:List ByteArray) (y4:List ad_) (it:List ah_) (h:List ai_) (r:List ByteArray) (hit:it.length≤60) (hb:0≤b∧b≤1000000):∀(t pre:List Int) (out:List ad_),(pre++t).length≤60→out.length≤pre.length→(∀q∈t,b≤q∧q<b+it.length)→
    Wp (fun k=>cw_ k (pre.length:Int) x0 x1 x2 x3 x4 x5 x6 x7 x8 x9 x10 n u li p s w c nn o out b (pre++t) y1 y2 y3 y4 it h r) (· =if w=true∨6≤s then ⟨0,⟨n,u,li,p,0,false,⟨c,it⟩,⟨nn,h,o,r⟩⟩,(out++t.map (nV_ n li p b it))++[⟨1,n,li,p,(tkM ⟨nn,h,o,r⟩).1,(tkM ⟨nn,h,o,r⟩).2,0,false,noB⟩],noB⟩ else ⟨0,⟨n,u,li,p,s,w,⟨c,it⟩,⟨nn,h,o,r⟩⟩,out++t.map (nV_ n li p b it),noB⟩)
  | [],pre,out,hl,ho,hq=>by
    refine Wp.step ?_
    simp only [cw_,List.append_nil,List.map_nil] at*
    simp (disch:=omega) only [af_,if_neg]
    exact tU_ _ _ _ _ _ _ _ _ _ _ _ _ _ _ _ _ _ _ _ _ _ _ _ _ _ _ _ _ (by omega)
  | q::t,pre,out,hl,ho,hq=>by
    refine Wp.step ?_
    have hl':=hl
    simp only [List.length_append,List.length_cons] at hl
    have hq1:=hq q (List.mem_cons_self ..)
    simp only [cw_]
    simp only [af_,a0_,if_true,av_,bw_,Option.bind_some]
    rw [aF_ (n:=q-b) (by omega) (by omega)]
    have hlt:(q-b).toNat<it.length:=by omega
    have e1:idx it (q-b)=some it[(q-b).toNat]:=by
      have:=zm_ hlt
      rwa [Int.toNat_of_nonneg (by omega)] at this
    have e2:it[(q-b).toNat]? =some it[(q-b).toNat]:=List.getElem?_eq_getElem hlt
    have e3:sj_ it (q-b)=it[(q-b).toNat].Part:=by unfold sj_;rw [e2]
    simp only [e1,e2,Option.bind_some]
    rw [←e3]
    refine Wp.opt (bf_ (by simp;omega)) ?_
    simp (disch:=omega) only [aF_]
    have ih:=u2_ x0 x1 x2 x3 x4 x5 x6 x7 x8 x9 x10 n u li p s w b c nn o y1 y2 y3 y4 it h r hit hb t (pre++[q]) (out++[nV_ n li p b it q]) (by simpa using hl') (by simp;omega) (fun q' h'=>hq q' (List.mem_cons_of_mem _ h'))
    rw [←aE_,←aR_] at ih
    simp only [List.append_assoc,List.cons_append,List.nil_append] at ih
    simp only [List.map_cons,List.append_assoc,List.cons_append]
    exact ih
theorem ui_ (x0 x1:Int) (x2:Bool) (x3 x4 x5:Int) (x6:Bool) (x7 x8:Int) (x9 x10:ByteArray) (cd n:Int) (u:Bool) (li p s:Int) (w:Bool) (b nn:Int) (o tx:ByteArray) (out:List ad_) (y1:List ah_) (y2:List ai_) (y3:List ByteArray) (y4:List ad_) (it:List ah_) (h:List ai_) (r:List ByteArray) (ho:out.length≤1000):
    Wp (fun k=>db_ k x0 x1 x2 x3 x4 x5 x6 x7 x8 x9 x10 cd n u li p s w b nn o tx y1 y2 y3 y4 it h r out) (· =if w=true∨6≤s then ⟨cd,⟨n,u,li,p,0,false,⟨b,it⟩,⟨nn,h,o,r⟩⟩,out++[⟨1,n,li,p,(tkM ⟨nn,h,o,r⟩).1,(tkM ⟨nn,h,o,r⟩).2,0,false,noB⟩],tx⟩ else ⟨cd,⟨n,u,li,p,s,w,⟨b,it⟩,⟨nn,h,o,r⟩⟩,out,tx⟩):=by
  refine Wp.step ?_
  simp only [db_]
  have G:w=true∨6≤s→Wp (fun k=>(dT_ k ⟨nn,h,o,r⟩).bind fun r8=>(app 80 out ([(⟨1,n,li,p,r8.1,r8.2,0,false,(⟨#[]⟩:ByteArray)⟩:ad_)]:List ad_)).bind fun l9=>
   b0_ k x0 x1 x2 x3 x4 x5 x6 x7 x8 x9 x10 cd n u li p 0 false b nn o tx y1 y2 y3 y4 it h r l9) (· =if w=true∨6≤s then ⟨cd,⟨n,u,li,p,0,false,⟨b,it⟩,⟨nn,h,o,r⟩⟩,out++[⟨1,n,li,p,(tkM ⟨nn,h,o,r⟩).1,(tkM ⟨nn,h,o,r⟩).2,0,false,noB⟩],tx⟩ else ⟨cd,⟨n,u,li,p,s,w,⟨b,it⟩,⟨nn,h,o,r⟩⟩,out,tx⟩):=fun g=>by
    rw [if_pos g]
    refine Wp.bind (qc_ _) (fun _ q=> ?_);subst q
    refine Wp.opt (bf_ (by simp;omega)) ?_
    refine Wp.step ?_
    simp only [b0_]
    exact Wp.ret rfl
  refine Wp.bif (fun g=>G (.inl g)) (fun g=> ?_)
  simp only [af_]
  refine Wp.ite (fun g2=>G (.inr g2)) (fun g2=> ?_)
  rw [if_neg (by rw [g];intro h;rcases h with h | h;cases h;omega)]
  refine Wp.step ?_
  simp only [b0_]
  exact Wp.ret (by rw [g])
theorem t0_ (x0 x1:Int) (x2:Bool) (x3 x4 x5:Int) (x6:Bool) (x7 x8:Int) (x9 x10:ByteArray) (cd n:Int) (u:Bool) (li p s:Int) (w:Bool) (b nn:Int) (o tx:ByteArray) (y1:List ah_) (y2:List ai_) (y3:List ByteArray) (y4:List ad_) (it:List ah_) (h:List ai_) (r:List ByteArray) (hit:it.length≤60) (hb:0≤b∧b≤1000000):∀(t pre:List Int) (out:List ad_),(pre++t).length≤60→out.length≤pre.length→(∀q∈t,b≤q∧q<b+it.length)→
    Wp (fun k=>cE_ k ((pre++t).length:Int) (pre.length:Int) x0 x1 x2 x3 x4 x5 x6 x7 x8 x9 x10 cd n u li p s w b nn o tx (pre++t) y1 y2 y3 y4 it h r out) (· =if w=true∨6≤s then ⟨cd,⟨n,u,li,p,0,false,⟨b,it⟩,⟨nn,h,o,r⟩⟩,(out++t.map (nV_ n li p b it))++[⟨1,n,li,p,(tkM ⟨nn,h,o,r⟩).1,(tkM ⟨nn,h,o,r⟩).2,0,false,noB⟩],tx⟩ else ⟨cd,⟨n,u,li,p,s,w,⟨b,it⟩,⟨nn,h,o,r⟩⟩,out++t.map (nV_ n li p b it),tx⟩)
  | [],pre,out,hl,ho,hq=>by
    refine Wp.step ?_
    simp only [cE_,List.append_nil,List.map_nil] at*
    simp (disch:=omega) only [af_,if_neg]
    exact ui_ _ _ _ _ _ _ _ _ _ _ _ _ _ _ _ _ _ _ _ _ _ _ _ _ _ _ _ _ _ _ (by omega)
  | q::t,pre,out,hl,ho,hq=>by
    refine Wp.step ?_
    have hl':=hl
    simp only [List.length_append,List.length_cons] at hl
    have hq1:=hq q (List.mem_cons_self ..)
    simp only [cE_]
    simp only [af_,a0_,if_true,av_,bw_,Option.bind_some]
    rw [aF_ (n:=q-b) (by omega) (by omega)]
    have hlt:(q-b).toNat<it.length:=by omega
    have e1:idx it (q-b)=some it[(q-b).toNat]:=by
      have:=zm_ hlt
      rwa [Int.toNat_of_nonneg (by omega)] at this
    have e2:it[(q-b).toNat]? =some it[(q-b).toNat]:=List.getElem?_eq_getElem hlt
    have e3:sj_ it (q-b)=it[(q-b).toNat].Part:=by unfold sj_;rw [e2]
    simp only [e1,e2,Option.bind_some]
    rw [←e3]
    refine Wp.opt (bf_ (by simp;omega)) ?_
    simp (disch:=omega) only [aF_]
    have ih:=t0_ x0 x1 x2 x3 x4 x5 x6 x7 x8 x9 x10 cd n u li p s w b nn o tx y1 y2 y3 y4 it h r hit hb t (pre++[q]) (out++[nV_ n li p b it q]) (by simpa using hl') (by simp;omega) (fun q' h'=>hq q' (List.mem_cons_of_mem _ h'))
    rw [←aE_,←aR_] at ih
    simp only [List.append_assoc,List.cons_append,List.nil_append] at ih
    simp only [List.map_cons,List.append_assoc,List.cons_append]
    exact ih
theorem pn_ (s:am_) (h:VSend s):∀q∈(kP_ s).2,(kP_ s).1.Base≤q∧q<(kP_ s).1.Base+(kP_ s).1.Items.length:=by
  unfold kP_
  rw [if_pos h]
  intro q hq
  have:=qC_ s.Items 0 s.Base q hq
  have e:=(sT_ s.Items 0 s.Base h.2.2.2).2.1
  simp only
  rw [e];omega
theorem nQ_ (e:ao_):Wp (fun k=>gG_ k e) (· =gE_ e):=by
  unfold gG_ gE_
  refine Wp.bind (bQ_ _) (fun _ q=> ?_);subst q
  simp only [af_,aD_]
  refine Wp.ite (fun h1=> ?_) (fun h1=>Wp.ret (by rw [if_neg h1]))
  rw [if_pos h1]
  refine Wp.bind (fG_ e h1) (fun r q=> ?_);rw [q]
  refine Wp.bif (fun u=> ?_) (fun u=>Wp.ret (by rw [if_neg (by simp [u])]))
  rw [if_pos u]
  have hS:=h1.2.2.2.1
  have M:∀s:Int,s=upS e→Wp (fun k=>dL_ k 0 0 false 0 0 0 false 0 0 (⟨#[]⟩:ByteArray) (⟨#[]⟩:ByteArray) e.Number e.Up e.Life e.Peer s e.Owes e.Send.Base e.Take.Next e.Take.Open ([]:List ad_) ([]:List ah_) ([]:List ai_) ([]:List ByteArray) ([]:List ad_) e.Send.Items e.Take.Held e.Take.Ready) (· =if e.Owes=true∨6≤upS e then ⟨0,⟨e.Number,e.Up,e.Life,e.Peer,0,false,(eA_ e).1,e.Take⟩,(eA_ e).2.map (nV_ e.Number e.Life e.Peer (eA_ e).1.Base (eA_ e).1.Items)++[⟨1,e.Number,e.Life,e.Peer,(tkM e.Take).1,(tkM e.Take).2,0,false,noB⟩],noB⟩
   else ⟨0,⟨e.Number,e.Up,e.Life,e.Peer,upS e,e.Owes,(eA_ e).1,e.Take⟩,(eA_ e).2.map (nV_ e.Number e.Life e.Peer (eA_ e).1.Base (eA_ e).1.Items),noB⟩):=fun s hs=>by
    subst hs
    refine Wp.step ?_
    simp only [dL_,d4_]
    unfold eA_
    refine Wp.ite (fun h2=> ?_) (fun h2=> ?_)
    ·rw [if_pos h2]
     exact tU_ _ _ _ _ _ _ _ _ _ _ _ _ _ _ _ _ _ _ _ _ _ _ _ _ _ _ _ _ (by simp)
    ·rw [if_neg h2]
     refine Wp.bind (vj_ _) (fun _ q=> ?_);subst q
     obtain ⟨v1,v2⟩:=to_ e.Send
     exact u2_ _ _ _ _ _ _ _ _ _ _ _ _ _ _ _ _ _ _ _ _ _ _ _ _ _ _ _ _ v1.1 v1.2.1 (kP_ e.Send).2 [] [] (by simpa using v2) (by simp) (pn_ e.Send h1.2.2.2.2.1)
  refine Wp.ite (fun h2=>M _ ?_) (fun h2=>M _ ?_)
  ·rw [aF_ (by omega) (by omega)];unfold upS;rw [if_pos h2]
  ·unfold upS;rw [if_neg h2]
theorem nC_ (e:ao_):Wp (fun k=>gM_ k e) (· =gE_ e):=by
  unfold gM_ gE_
  refine Wp.bind (dH_ _) (fun _ q=> ?_);subst q
  simp only [af_,aD_]
  refine Wp.ite (fun h1=> ?_) (fun h1=>Wp.ret (by rw [if_neg h1]))
  rw [if_pos h1]
  refine Wp.bind (hx_ e h1) (fun r q=> ?_);rw [q]
  refine Wp.bif (fun u=> ?_) (fun u=>Wp.ret (by rw [if_neg (by simp [u])]))
  rw [if_pos u]
  have hS:=h1.2.2.2.1
  have M:∀s:Int,s=upS e→Wp (fun k=>dG_ k 0 0 false 0 0 0 false 0 0 (⟨#[]⟩:ByteArray) (⟨#[]⟩:ByteArray) 0 e.Number e.Up e.Life e.Peer s e.Owes e.Send.Base e.Take.Next e.Take.Open (⟨#[]⟩:ByteArray) ([]:List ah_) ([]:List ai_) ([]:List ByteArray) ([]:List ad_) e.Send.Items e.Take.Held e.Take.Ready ([]:List ad_)) (· =if e.Owes=true∨6≤upS e then ⟨0,⟨e.Number,e.Up,e.Life,e.Peer,0,false,(eA_ e).1,e.Take⟩,(eA_ e).2.map (nV_ e.Number e.Life e.Peer (eA_ e).1.Base (eA_ e).1.Items)++[⟨1,e.Number,e.Life,e.Peer,(tkM e.Take).1,(tkM e.Take).2,0,false,noB⟩],noB⟩
   else ⟨0,⟨e.Number,e.Up,e.Life,e.Peer,upS e,e.Owes,(eA_ e).1,e.Take⟩,(eA_ e).2.map (nV_ e.Number e.Life e.Peer (eA_ e).1.Base (eA_ e).1.Items),noB⟩):=fun s hs=>by
    subst hs
    refine Wp.step ?_
    simp only [dG_,d4_]
    unfold eA_
    refine Wp.ite (fun h2=> ?_) (fun h2=> ?_)
    ·rw [if_pos h2]
     exact ui_ _ _ _ _ _ _ _ _ _ _ _ _ _ _ _ _ _ _ _ _ _ _ _ _ _ _ _ _ _ _ (by simp)
    ·rw [if_neg h2]
     refine Wp.bind (vh_ _) (fun _ q=> ?_);subst q
     obtain ⟨v1,v2⟩:=to_ e.Send
     exact t0_ _ _ _ _ _ _ _ _ _ _ _ _ _ _ _ _ _ _ _ _ _ _ _ _ _ _ _ _ _ v1.1 v1.2.1 (kP_ e.Send).2 [] [] (by simpa using v2) (by simp) (pn_ e.Send h1.2.2.2.2.1)
  refine Wp.ite (fun h2=>M _ ?_) (fun h2=>M _ ?_)
  ·rw [aF_ (by omega) (by omega)];unfold upS;rw [if_pos h2]
  ·unfold upS;rw [if_neg h2]
theorem yV_ (e:ao_) (h:VEnd e):VSend (eA_ e).1∧(eA_ e).2.length≤60:=by
  unfold eA_;split
  ·exact ⟨h.2.2.2.2.1,by simp⟩
  ·exact to_ _
end Km.X
