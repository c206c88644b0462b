/- A part of the proof of FnTop: plain laws of these functions. There is no condition. -/
import Derived.Test.YtgffmpjadffjkaaGreatKyPureTop1
import Derived.Test.YtgffmpjadffjkaaGreatKyPureTop2
import Derived.Test.YtgffmpjadffjkaaGreatKxDef2
namespace Km.X
open Go Km
set_option linter.unusedVariables false
set_option linter.unusedSimpArgs false
theorem gf_:∀(ps qs:List aA_) (o:ByteArray) (out g:List ByteArray) (o':ByteArray),eo_ ps o out=(g,o',true)→eo_ (ps++qs) o out=eo_ qs o' g
  | [],qs,o,out,g,o',h=>by
    simp only [eo_,Prod.mk.injEq] at h
    obtain ⟨rfl,rfl,_⟩:=h;rfl
  | p::ps,qs,o,out,g,o',h=>by
    simp only [eo_,List.cons_append] at h⊢
    split at h
    ·simp only [Prod.mk.injEq] at h;exact absurd h.2.2 (by simp)
    ·rename_i h1
     rw [if_neg h1]
     split at h
     ·rename_i h2;rw [if_pos h2];exact gf_ ps qs _ _ _ _ h
     ·rename_i h2;rw [if_neg h2];exact gf_ ps qs _ _ _ _ h
theorem oy_:∀(ps:List aA_) (o:ByteArray) (out g:List ByteArray) (o':ByteArray),eo_ ps o out=(g,o',true)→∃m,g=out++m
  | [],o,out,g,o',h=>by
    simp only [eo_,Prod.mk.injEq] at h
    exact ⟨[],by rw [←h.1];simp⟩
  | p::ps,o,out,g,o',h=>by
    simp only [eo_] at h
    split at h
    ·simp only [Prod.mk.injEq] at h;exact absurd h.2.2 (by simp)
    ·split at h
     ·obtain ⟨m,hm⟩:=oy_ ps _ _ _ _ h
      exact ⟨[o++p.Text]++m,by rw [hm];simp⟩
     ·exact oy_ ps _ _ _ _ h
structure TInv (P:List aA_) (t:ai_) (g:List ByteArray):Prop where
  V:VTake t
  M:∀x∈t.Held,0≤x.Seq∧P[x.Seq.toNat]? =some x.Part
  N:t.Next≤P.length
  J:eo_ (P.take t.Next.toNat) noB []=(g++t.Ready,t.Open,true)
theorem zP_ {P:List aA_} {i:Int} {p:aA_} (h0:0≤i) (h:P[i.toNat]? =some p):i<P.length:=by
  have:=(List.getElem?_eq_some_iff.mp h).1;omega
theorem jX_ (P:List aA_) (n0:Int):∀(h:List ak_) (n:Int) (o:ByteArray) (r g:List ByteArray),n0≤n→WHs n0 (n-1) h→h.length≤8→0≤n→n≤1000000→o.size≤200→r.length≤4→SmR r→
    (∀x∈h,0≤x.Seq∧P[x.Seq.toNat]? =some x.Part)→n≤P.length→eo_ (P.take n.toNat) noB []=(g++r,o,true)→
    TInv P (d4_ h n o r) g∧n≤(d4_ h n o r).Next∧∀x∈h,x.Seq<(d4_ h n o r).Next∨x∈(d4_ h n o r).Held
  | [],n,o,r,g,h0,hw,hl,hn,hn',ho,hr,hs,hM,hN,hJ=>by
    refine ⟨⟨mQ_ n0 [] n o r h0 hw hl hn hn' ho hr hs,fun x hx=>by simp [d4_] at hx,hN,hJ⟩,by simp [d4_],fun x hx=>by simp at hx⟩
  | x::t,n,o,r,g,h0,hw,hl,hn,hn',ho,hr,hs,hM,hN,hJ=>by
    have hV:=mQ_ n0 (x::t) n o r h0 hw hl hn hn' ho hr hs
    obtain ⟨hw1,hw2⟩:=hw
    simp only [List.length_cons] at hl
    simp only [d4_] at hV⊢
    have hM2:∀y∈t,0≤y.Seq∧P[y.Seq.toNat]? =some y.Part:=fun y hy=>hM y (List.mem_cons_of_mem _ hy)
    obtain ⟨hx0,hx1⟩:=hM x (List.mem_cons_self ..)
    have hxl:=zP_ hx0 hx1
    split
    ·rename_i hg
     have hw3:WHs n0 (n+1-1) t:=by rw [show n+1-1=x.Seq by omega];exact hw2
     have hT:P.take (n+1).toNat=P.take n.toNat++[x.Part]:=by
       rw [show (n+1).toNat=n.toNat+1 by omega,List.take_add_one]
       rw [hg.1] at hx1;rw [hx1];rfl
     have hJ2:=gf_ _ [x.Part] _ _ _ _ hJ
     rw [←hT] at hJ2
     simp only [eo_] at hJ2
     have hg2:=hg.2.1
     rw [if_neg (by have:=hw1.2.2.2;omega)] at hJ2
     split
     ·rename_i hl3
      rw [if_pos hl3] at hJ2
      obtain ⟨a1,a2,a3⟩:=jX_ P n0 t (n+1) noB (r++[o++x.Part.Text]) g (by omega) hw3 (by omega) (by omega) (by omega) (by simp [d0_]) (by have:=hg.2.2 hl3;simp;omega) (fun s h'=>by
        simp only [List.mem_append,List.mem_singleton] at h'
        rcases h' with h' | rfl
        ·exact hs s h'
        ·rw [aD_];exact hg2) hM2 (by omega) (by rw [hJ2,List.append_assoc])
      refine ⟨a1,by omega,fun y hy=> ?_⟩
      rcases List.mem_cons.mp hy with rfl | hy
      ·exact .inl (by omega)
      ·exact a3 y hy
     ·rename_i hl3
      rw [if_neg hl3] at hJ2
      obtain ⟨a1,a2,a3⟩:=jX_ P n0 t (n+1) (o++x.Part.Text) r g (by omega) hw3 (by omega) (by omega) (by omega) (by rw [aD_];exact hg2) hr hs hM2 (by omega) hJ2
      refine ⟨a1,by omega,fun y hy=> ?_⟩
      rcases List.mem_cons.mp hy with rfl | hy
      ·exact .inl (by omega)
      ·exact a3 y hy
    ·rename_i hg
     rw [if_neg hg] at hV
     exact ⟨⟨hV,hM,hN,hJ⟩,Int.le_refl _,fun y hy=> .inr hy⟩
theorem th_ {q:Int} {p:aA_}:∀{t h:List ak_},nw_ q p t=some h→(∀x∈h,x=⟨q,p⟩∨x∈t)∧⟨q,p⟩∈h∧∀x∈t,x∈h
  | [],h,e=>by
    simp only [nw_,Option.some.injEq] at e;subst e
    simp
  | x::t,h,e=>by
    simp only [nw_] at e
    split at e
    ·cases e
    ·split at e
     ·simp only [Option.some.injEq] at e;subst e
      refine ⟨fun y hy=>by simpa using hy,by simp,fun y hy=>List.mem_cons_of_mem _ hy⟩
     ·cases ht:nw_ q p t with
      | none=>rw [ht] at e;cases e
      | some h'=>
        rw [ht] at e
        simp only [Option.map_some,Option.some.injEq] at e;subst e
        obtain ⟨a1,a2,a3⟩:=th_ ht
        refine ⟨fun y hy=> ?_,List.mem_cons_of_mem _ a2,fun y hy=> ?_⟩
        ·rcases List.mem_cons.mp hy with rfl | hy
         ·exact .inr (List.mem_cons_self ..)
         ·rcases a1 y hy with h | h
          ·exact .inl h
          ·exact .inr (List.mem_cons_of_mem _ h)
        ·rcases List.mem_cons.mp hy with rfl | hy
         ·exact List.mem_cons_self ..
         ·exact List.mem_cons_of_mem _ (a3 y hy)
theorem tR_ {q:Int} {p:aA_}:∀{t:List ak_},nw_ q p t=none→∃x∈t,x.Seq=q
  | [],e=>by simp [nw_] at e
  | x::t,e=>by
    simp only [nw_] at e
    split at e
    ·rename_i h;exact ⟨x,List.mem_cons_self ..,h⟩
    ·split at e
     ·cases e
     ·cases ht:nw_ q p t with
      | none=>obtain ⟨y,hy,h⟩:=tR_ ht;exact ⟨y,List.mem_cons_of_mem _ hy,h⟩
      | some h'=>rw [ht] at e;cases e
theorem pK_ {t:ai_} (h:VTake t) (hr:t.Ready=[]):cy_ t=(t,noB,false):=by
  unfold cy_;rw [if_pos h,hr]
theorem xh_ {P:List aA_} {t:ai_} {g:List ByteArray} (h:TInv P t g) {s:ByteArray} {rs:List ByteArray} (hr:t.Ready=s::rs):
    (cy_ t).2=(s,true)∧TInv P (cy_ t).1 (g++[s])∧t.Next≤(cy_ t).1.Next∧(cy_ t).1=d4_ t.Held t.Next t.Open rs:=by
  obtain ⟨v1,v2,v3,v4,v5,v6,v7⟩:=h.V
  unfold cy_
  rw [if_pos h.V,hr]
  rw [hr] at v4 v5
  simp only [List.length_cons] at v4
  have hJ:=h.J
  rw [hr] at hJ
  obtain ⟨b1,b2,b3⟩:=jX_ P t.Next t.Held t.Next t.Open rs (g++[s]) (Int.le_refl _) v6 v2 v1.1 v1.2 v3 (by omega) (fun y hy=>v5 y (List.mem_cons_of_mem _ hy)) h.M h.N (by rw [hJ];simp)
  exact ⟨rfl,b1,b2,rfl⟩
theorem TInv.len {P:List aA_} {t:ai_} {g:List ByteArray} (h:TInv P t g) (hP:P.length≤1000):g.length+t.Ready.length≤1000:=by
  have:=(sQ_ (P.take t.Next.toNat) noB [] (by simp [d0_]) (fun y hy=>by simp at hy)).1
  rw [h.J] at this
  simp only [List.length_append,List.length_nil,List.length_take] at this
  omega
theorem TInv.pre {P:List aA_} {t:ai_} {g:List ByteArray} (h:TInv P t g) {T:List ByteArray} {ot:ByteArray} (hT:eo_ P noB []=(T,ot,true)):∃m,T=(g++t.Ready)++m:=by
  have:=gf_ _ (P.drop t.Next.toNat) _ _ _ _ h.J
  rw [List.take_append_drop,hT] at this
  exact oy_ _ _ _ _ _ this.symm
theorem yO_ {p:aA_} {ps:List aA_} {o:ByteArray} {out:List ByteArray} {T:List ByteArray} {ot:ByteArray} (h:eo_ (p::ps) o out=(T,ot,true)):p.Text.size≤20∧o.size+p.Text.size≤200:=by
  simp only [eo_] at h
  split at h
  ·simp only [Prod.mk.injEq] at h;exact absurd h.2.2 (by simp)
  ·omega
theorem TInv.fit {P:List aA_} {t:ai_} {g:List ByteArray} (h:TInv P t g) {T:List ByteArray} {ot:ByteArray} (hT:eo_ P noB []=(T,ot,true)) {p:aA_} (hp:P[t.Next.toNat]? =some p):t.Open.size+p.Text.size≤200:=by
  have:=gf_ _ (P.drop t.Next.toNat) _ _ _ _ h.J
  rw [List.take_append_drop,hT] at this
  obtain ⟨hlt,e⟩:=List.getElem?_eq_some_iff.mp hp
  rw [List.drop_eq_getElem_cons hlt,e] at this
  exact (yO_ this.symm).2
theorem z4_ {P:List aA_} {t:ai_} {g:List ByteArray} (h:TInv P t g) {T:List ByteArray} {ot:ByteArray} (hT:eo_ P noB []=(T,ot,true)) {x:ak_} (hx:x∈t.Held) (hn:x.Seq=t.Next):t.Ready.length=4:=by
  have hm:=(h.M x hx).2
  rw [hn] at hm
  have hf:=h.fit hT hm
  have hng:=h.V.2.2.2.2.2.2 x hx hn
  have h4:=h.V.2.2.2.1
  by_cases h5:t.Ready.length<4
  ·exact absurd ⟨hf,fun _=>h5⟩ hng
  ·omega
theorem Dk_ {P:List aA_} {t:ai_} {g:List ByteArray} (h:TInv P t g) {T:List ByteArray} {ot:ByteArray} (hT:eo_ P noB []=(T,ot,true)) {x:ak_} (hx:x∈t.Held) (hn:x.Seq=t.Next) {s:ByteArray} {rs:List ByteArray} (hr:t.Ready=s::rs):t.Next<(cy_ t).1.Next:=by
  obtain ⟨a1,a2,a3,a4⟩:=xh_ h hr
  have hm:=(h.M x hx).2
  rw [hn] at hm
  have hf:=h.fit hT hm
  obtain ⟨v1,v2,v3,v4,v5,v6,v7⟩:=h.V
  rw [hr] at v4
  simp only [List.length_cons] at v4
  by_cases hlt:t.Next<(cy_ t).1.Next
  ·exact hlt
  ·exfalso
   have hJ:=h.J
   rw [hr] at hJ v5
   have b3:=(jX_ P t.Next t.Held t.Next t.Open rs (g++[s]) (Int.le_refl _) v6 v2 v1.1 v1.2 v3 (by omega) (fun y hy=>v5 y (List.mem_cons_of_mem _ hy)) h.M h.N (by rw [hJ];simp)).2.2
   rw [←a4] at b3
   have he:(cy_ t).1.Next=t.Next:=by omega
   rcases b3 x hx with h' | h'
   ·omega
   ·have hng:=a2.V.2.2.2.2.2.2 x h' (by omega)
    have hf':=a2.fit hT (by rw [he];exact hm)
    have:=z4_ a2 hT h' (by omega)
    have hlen:((cy_ t).1).Ready.length≤3:=by
      rw [a4] at he⊢
      clear a2 hng hf' this b3 h' a4 a1 a3 hlt
      cases hh:t.Held with
      | nil=>rw [hh] at hx;simp at hx
      | cons y tl=>
        rw [hh] at he
        simp only [d4_] at he⊢
        split
        ·rename_i hg
         rw [if_pos hg] at he
         exfalso
         rw [hh] at v6 v2
         have hM:=h.M
         rw [hh] at hM
         have hw3:WHs t.Next (t.Next+1-1) tl:=by rw [show t.Next+1-1=y.Seq by omega];exact v6.2
         simp only [List.length_cons] at v2
         have mono:∀(l:List ak_) (n:Int) (o:ByteArray) (r:List ByteArray),n≤(d4_ l n o r).Next:=by
           intro l
           induction l with
           | nil=>intro n o r;exact Int.le_refl _
           | cons z l ih=>
             intro n o r
             simp only [d4_]
             split
             ·split
              ·have:=ih (n+1) noB (r++[o++z.Part.Text]);omega
              ·have:=ih (n+1) (o++z.Part.Text) r;omega
             ·exact Int.le_refl _
         split at he
         ·have:=mono tl (t.Next+1) noB (rs++[t.Open++y.Part.Text]);omega
         ·have:=mono tl (t.Next+1) (t.Open++y.Part.Text) rs;omega
        ·simp only;omega
    omega
end Km.X
namespace Km.X
open Go Km
set_option linter.unusedVariables false
set_option linter.unusedSimpArgs false
theorem rP_ (n:Int) (o:ByteArray) (r:List ByteArray):∀(t pre:List ak_),(pre++t).length≤1000→Wp (fun k=>ew_ k (pre.length:Int) n (pre++t) o r n (pre++t) o r) (· =true)
  | [],pre,hl=>by
    refine Wp.step ?_
    simp only [ew_,List.append_nil]
    have hn':¬(pre.length:Int)<(pre.length:Int):=by omega
    simp only [al_,if_neg hn']
    exact Wp.ret rfl
  | x::t,pre,hl=>by
    refine Wp.step ?_
    have hl':=hl
    simp only [List.length_append,List.length_cons] at hl
    simp only [ew_]
    simp only [al_,cZ_,if_true,aI_,Option.bind_some,beq_self_eq_true,Bool.and_self,Bool.not_true,cond_false]
    rw [aS_ (by omega) (by omega)]
    have ih:=rP_ n o r t (pre++[x]) (by simpa using hl')
    rw [←aX_,←bd_] at ih
    exact ih
theorem BJ_ (t:ai_) (h:VTake t):Wp (fun k=>j5_ k t t) (· =true):=by
  unfold j5_
  simp only [ma_,if_true,bf_,mb_]
  refine Wp.bind (uq_ _ (by have:=h.2.2.2.1;omega)) (fun _ q=> ?_);subst q
  simp only [cond_true]
  exact rP_ _ _ _ t.Held [] (by have:=h.2.1;simp;omega)
section
variable {P:List aA_} {T:List ByteArray} {ot:ByteArray} (hT:eo_ P noB []=(T,ot,true)) (hP:P.length≤60)
include hT hP
end
end Km.X
namespace Km.X
open Go Km
set_option linter.unusedVariables false
set_option linter.unusedSimpArgs false
theorem rE_ (b:Int):∀(t pre:List ag_),(pre++t).length≤1000→Wp (fun k=>ez_ k (pre.length:Int) b (pre++t) b (pre++t)) (· =true)
  | [],pre,hl=>by
    refine Wp.step ?_
    simp only [ez_,List.append_nil]
    have hn':¬(pre.length:Int)<(pre.length:Int):=by omega
    simp only [al_,if_neg hn']
    exact Wp.ret rfl
  | x::t,pre,hl=>by
    refine Wp.step ?_
    have hl':=hl
    simp only [List.length_append,List.length_cons] at hl
    simp only [ez_]
    simp only [al_,cZ_,if_true,aI_,Option.bind_some,beq_self_eq_true,Bool.and_self,Bool.not_true,cond_false]
    rw [aS_ (by omega) (by omega)]
    have ih:=rE_ b t (pre++[x]) (by simpa using hl')
    rw [←aX_,←bd_] at ih
    exact ih
theorem BC_ (s:aj_) (h:VSend s):Wp (fun k=>jW_ k s s) (· =true):=by
  unfold jW_
  simp only [ma_,if_true]
  exact rE_ s.Base s.Items [] (by have:=h.1;show s.Items.length≤1000;omega)
end Km.X
namespace Km.X
open Go Km
set_option linter.unusedVariables false
set_option linter.unusedSimpArgs false
theorem Dp_ (e:an_) (h:VEnd e):Wp (fun k=>lG_ k e e) (· =true):=by
  unfold lG_
  simp only [fl_,Fk_,if_true]
  refine Wp.bind (BC_ _ h.2.2.2.2.1) (fun _ q=> ?_);subst q
  simp only [cond_true]
  refine Wp.bind (BJ_ _ h.2.2.2.2.2.1) (fun _ q=> ?_);subst q
  exact Wp.ret rfl
theorem lV_:∀(t pre:List aa_),(pre++t).length≤1000→Wp (fun k=>cI_ k (pre++t) (pre++t) (pre.length:Int)) (· =true)
  | [],pre,hl=>by
    refine Wp.step ?_
    simp only [cI_,List.append_nil]
    exact Wp.dec (fun g=>by omega) (fun _=>Wp.ret rfl)
  | x::t,pre,hl=>by
    have hl':=hl
    simp only [List.length_append,List.length_cons] at hl
    refine Wp.step ?_
    simp only [cI_]
    refine Wp.dec (fun _=> ?_) (fun g=>absurd (by simp;omega) g)
    simp only [aI_,Option.bind_some,beq_self_eq_true,Bool.and_self,Bool.not_true,cond_false]
    rw [aS_ (by omega) (by omega)]
    have:=lV_ t (pre++[x]) (by simpa using hl')
    simpa using this
theorem pM_ (l:List aa_) (h:l.length≤1000):Wp (fun k=>fz_ k l l) (· =true):=by
  unfold fz_
  simp only [ma_,if_true]
  exact lV_ l [] (by simpa using h)
theorem wW9 (K Fo:ByteArray) (W:Int) (Es:List an_) (Gi Ta:List aa_):∀(t pre:List ad_),(pre++t).length≤2000→Wp (fun k=>dR_ k (pre.length:Int) K W Es (pre++t) Fo Gi Ta K W Es (pre++t) Fo Gi Ta) (· =true)
  | [],pre,hl=>by
    refine Wp.step ?_
    simp only [dR_,List.append_nil]
    exact Wp.dec (fun g=>by omega) (fun _=>Wp.ret rfl)
  | x::t,pre,hl=>by
    have hl':=hl
    simp only [List.length_append,List.length_cons] at hl
    refine Wp.step ?_
    simp only [dR_]
    refine Wp.dec (fun _=> ?_) (fun g=>absurd (by simp;omega) g)
    simp only [aI_,Option.bind_some,beq_self_eq_true,Bool.and_self,Bool.not_true,cond_false]
    rw [aS_ (by omega) (by omega)]
    have:=wW9 K Fo W Es Gi Ta t (pre++[x]) (by simpa using hl')
    simpa using this
theorem wW4 (K Fo:ByteArray) (W:Int) (Fl:List ad_) (Gi Ta:List aa_) (hF:Fl.length≤2000):∀(t pre:List an_),(pre++t).length≤1000→(∀e∈t,VEnd e)→Wp (fun k=>dU_ k (pre.length:Int) K W (pre++t) Fl Fo Gi Ta K W (pre++t) Fl Fo Gi Ta) (· =true)
  | [],pre,hl,hv=>by
    refine Wp.step ?_
    simp only [dU_,List.append_nil]
    exact Wp.dec (fun g=>by omega) (fun _=>wW9 K Fo W pre Gi Ta Fl [] (by simpa using hF))
  | x::t,pre,hl,hv=>by
    have hl':=hl
    simp only [List.length_append,List.length_cons] at hl
    refine Wp.step ?_
    simp only [dU_]
    refine Wp.dec (fun _=> ?_) (fun g=>absurd (by simp;omega) g)
    simp only [aI_,Option.bind_some]
    refine Wp.bind (Dp_ x (hv x (by simp))) (fun _ q=> ?_);subst q
    simp only [Bool.not_true,cond_false]
    rw [aS_ (by omega) (by omega)]
    have:=wW4 K Fo W Fl Gi Ta hF t (pre++[x]) (by simpa using hl') (fun e he=>hv e (by simp [he]))
    simpa using this
theorem uB_ (w:ac_) (h:au_ w∨w=hP_):Wp (fun k=>gO_ k w w) (· =true):=by
  have hs:(w.Given.length≤1000∧w.Taken.length≤1000)∧w.Flight.length≤2000∧w.Ends.length≤1000∧∀e∈w.Ends,VEnd e:=by
    rcases h with h | rfl
    ·have h4:=h.2.2.2.1
     have h3:=h.2.2.1
     obtain ⟨e,f,he,a1,_,a2,_⟩:=df_ h.2.2.2.2.1
     refine ⟨by omega,by omega,by rw [he];simp,fun x hx=> ?_⟩
     rw [he] at hx
     simp only [List.mem_cons,List.not_mem_nil,or_false] at hx
     rcases hx with rfl | rfl
     ·exact a1
     ·exact a2
    ·exact ⟨⟨by simp [hP_],by simp [hP_]⟩,by simp [hP_],by simp [hP_],fun e he=>by simp [hP_] at he⟩
  unfold gO_
  simp only [bf_,mb_,ma_,if_true]
  refine Wp.bind (pM_ _ hs.1.1) (fun _ q=> ?_);subst q
  simp only [cond_true]
  refine Wp.bind (pM_ _ hs.1.2) (fun _ q=> ?_);subst q
  simp only [cond_true]
  exact wW4 w.Key w.Forged w.Width w.Flight w.Given w.Taken hs.2.1 w.Ends [] (by simpa using hs.2.2.1) hs.2.2.2
end Km.X
namespace Km.X
open Go Km
set_option linter.unusedVariables false
set_option linter.unusedSimpArgs false
def EP (P:an_→Prop) (l:List an_):Prop:=∀n,1≤n∧n≤2→P (af_ n l)
theorem bz_ {l:List an_} (h:iO_ l) {n m:Int} (hn:1≤n∧n≤2) (hm:1≤m∧m≤2) (x:an_):af_ m (c1_ n x l)=if m=n then x else af_ m l:=by
  obtain ⟨e,f,rfl,_⟩:=df_ h
  by_cases h1:n=1
  ·subst h1
   by_cases h2:m=1
   ·subst h2;simp [af_,c1_]
   ·simp [af_,c1_,h2]
  ·by_cases h2:m=1
   ·subst h2;rw [if_neg (fun g=>h1 g.symm)];simp [af_,c1_,h1]
   ·have:m=n:=by omega
    subst this;simp [af_,c1_,h1]
theorem AO_ {P:an_→Prop} {l:List an_} (h:iO_ l) (hB:EP P l) {n:Int} (hn:1≤n∧n≤2) {x:an_} (hx:P x):EP P (c1_ n x l):=fun m hm=>by
  rw [bz_ h hn hm]
  split
  ·exact hx
  ·exact hB m hm
theorem EQ_ {P P':an_→Prop} {w:ac_} (h:au_ w) (v:as_) (hP:EP P w.Ends)
    (H0:∀e,VEnd e→P e→P' e) (H1:∀e,VEnd e→P e→P' (a1_ e).End) (H2:∀e p,VEnd e→P e→P' (eL_ e p).End) (H3:∀e t,VEnd e→P e→(gk_ e t).Code=0→P' (gk_ e t).End)
    (H4:∀e,VEnd e→P e→(d8_ e).Code=0→P' (d8_ e).End) (H5:∀e,VEnd e→P e→P' (jn_ e)) (H6:∀e,VEnd e→P e→v.Kind=8→P' (lt_ e)):EP P' (doW w v).Ends:=by
  have h5:=h.2.2.2.2.1
  have same:EP P' w.Ends:=fun n hn=>H0 _ (a6_ h5 hn).1 (hP n hn)
  have br:∀w':ac_,w'.Ends=w.Ends→∀p,vn_ p→EP P' (aT_ w' p).Ends:=fun w' hw' p hp=>by
    unfold aT_
    split
    ·dsimp only
     rw [hw']
     exact AO_ h5 same hp.1 (H2 _ _ (a6_ h5 hp.1).1 (hP _ hp.1))
    ·rw [hw'];exact same
  unfold doW
  split
  ·intro m hm
   have ee:af_ m (aZ_ w).Ends=if m=1 then (a1_ (af_ 1 w.Ends)).End else (a1_ (af_ 2 w.Ends)).End:=rfl
   rw [ee]
   split
   ·exact H1 _ (a6_ h5 (by omega)).1 (hP 1 (by omega))
   ·exact H1 _ (a6_ h5 (by omega)).1 (hP 2 (by omega))
  split
  ·split
   ·split
    ·rename_i p hp
     have hvp:=h.2.2.2.2.2.1 p (List.mem_of_getElem? hp)
     have hs:∀fl,EP P' (cd_ w fl).Ends:=fun fl=>same
     unfold hS_
     split
     ·exact br (cd_ w (w.Flight.eraseIdx v.A.toNat)) rfl p hvp
     split
     ·split
      ·exact hs _
      ·exact same
     split
     ·exact hs _
     split
     ·split
      ·exact hs _
      ·exact same
     split
     ·split
      ·exact hs _
      ·exact same
     ·exact hs _
    ·exact same
   ·exact same
  split
  ·rename_i hk
   have hn:=hk.2
   have hv:=(a6_ h5 hn).1
   have hb:=hP _ hn
   unfold kU_
   split
   ·rename_i h8
    exact AO_ h5 same hn (H6 _ hv hb h8)
   split
   ·exact AO_ h5 same hn (H5 _ hv hb)
   split
   ·unfold mx_
    split
    ·rename_i hc
     exact AO_ h5 same hn (H3 _ _ hv hb hc.2)
    ·exact same
   ·unfold eb_
    split
    ·rename_i hc
     exact AO_ h5 same hn (H4 _ hv hb hc.2)
    ·exact same
  ·exact same
def mn_ (e:an_):Int:=e.Life+if e.Up=true then 0 else 1
theorem rW_ {e:an_} (h:VEnd e):(a1_ e).End.Life=e.Life∧(a1_ e).End.Up=e.Up:=by
  unfold a1_
  rw [if_pos h]
  split
  ·split<;>exact ⟨rfl,rfl⟩
  ·exact ⟨rfl,rfl⟩
theorem uE_ (e:an_) (p:ae_):(jM_ e p).Life=e.Life∧(jM_ e p).Up=e.Up:=by unfold jM_;split<;>exact ⟨rfl,rfl⟩
theorem yE_ (e:an_) (p:ae_):(gZ_ e p).End.Life=e.Life∧(gZ_ e p).End.Up=e.Up:=by
  unfold gZ_
  split
  ·split<;>exact ⟨rfl,rfl⟩
  ·exact ⟨rfl,rfl⟩
theorem rI_ {e:an_} (h:VEnd e) (p:ae_):(eL_ e p).End.Life=e.Life∧(eL_ e p).End.Up=e.Up:=by
  unfold eL_
  rw [if_pos h]
  split
  ·have h1:=uE_ e p
   have h2:=yE_ (jM_ e p) p
   exact ⟨h2.1.trans h1.1,h2.2.trans h1.2⟩
  ·exact ⟨rfl,rfl⟩
theorem ra_ {e:an_} {t:ByteArray} (hc:(gk_ e t).Code=0):(gk_ e t).End=⟨e.Number,e.Up,e.Life,e.Peer,e.Since,e.Owes,(mk_ e.Send t).1,e.Take⟩∧e.Up=true∧e.Peer≠0:=by
  unfold gk_ at hc⊢
  split
  ·rename_i h1;rw [if_pos h1] at hc
   split
   ·rename_i h2;rw [if_pos h2] at hc
    split
    ·rename_i h3;rw [if_pos h3] at hc;cases hc
    ·rename_i h3;rw [if_neg h3] at hc
     split
     ·exact ⟨rfl,h2,h3⟩
     ·rename_i h4;rw [if_neg h4] at hc;exact absurd hc h4
   ·rename_i h2;rw [if_neg h2] at hc;cases hc
  ·rename_i h1;rw [if_neg h1] at hc;cases hc
theorem fa_ {e:an_} (hc:(d8_ e).Code=0):d8_ e=⟨0,⟨e.Number,e.Up,e.Life,e.Peer,e.Since,true,e.Send,(cy_ e.Take).1⟩,[],(cy_ e.Take).2.1⟩∧e.Up=true∧(cy_ e.Take).2.2=true:=by
  unfold d8_ at hc⊢
  split
  ·rename_i h1;rw [if_pos h1] at hc
   split
   ·rename_i h2;rw [if_pos h2] at hc
    split
    ·rename_i h3;exact ⟨rfl,h2,h3⟩
    ·rename_i h3;rw [if_neg h3] at hc;cases hc
   ·rename_i h2;rw [if_neg h2] at hc;cases hc
  ·rename_i h1;rw [if_neg h1] at hc;cases hc
theorem yq_ {e:an_} (h:VEnd e):mn_ (jn_ e)≤mn_ e:=by
  unfold jn_
  rw [if_pos h]
  split
  ·exact Int.le_refl _
  ·rename_i hu
   split
   ·exact Int.le_refl _
   ·unfold mn_;dsimp only;rw [if_neg hu];simp
theorem x1_ {e:an_} (h:VEnd e):mn_ (lt_ e)≤mn_ e+1:=by
  unfold lt_
  rw [if_pos h]
  unfold mn_
  simp
  split<;>omega
theorem sf_ {e f:an_} (h:f.Life=e.Life∧f.Up=e.Up):mn_ f=mn_ e:=by unfold mn_;rw [h.1,h.2]
theorem yh_ {f s:Nat} {w:ac_} (h:Reach f s w):EP (fun e=>mn_ e≤1+f) w.Ends:=by
  induction h with
  | @new b wd h1 h2=>
    intro m hm
    unfold vi_
    rw [if_pos ⟨h2,h1⟩]
    unfold af_ yP_ mn_
    dsimp only
    split<;>simp
  | @step n m w v hw ih=>
    refine EQ_ (P:=fun e=>mn_ e≤1+(n:Int)) hw.V v ih ?_ ?_ ?_ ?_ ?_ ?_ ?_
    ·intro e _ he;split<;>omega
    ·intro e hv he;rw [sf_ (rW_ hv)];split<;>omega
    ·intro e p hv he;rw [sf_ (rI_ hv p)];split<;>omega
    ·intro e t hv he hc;rw [sf_ (e:=e) (by rw [(ra_ hc).1];exact ⟨rfl,rfl⟩)];split<;>omega
    ·intro e hv he hc;rw [sf_ (e:=e) (by rw [(fa_ hc).1];exact ⟨rfl,rfl⟩)];split<;>omega
    ·intro e hv he;have:=yq_ hv;split<;>omega
    ·intro e hv he hk;have:=x1_ hv;rw [if_pos hk];omega
  | @more n m n' m' w h1 h2 hw ih=>
    intro k hk
    have:=ih k hk
    dsimp only at this⊢
    omega
theorem p5_ (w:ac_) (p:ad_):(aT_ w p).Given=w.Given:=by unfold aT_;split<;>rfl
theorem x7_ (w:ac_) (n:Int):(eb_ w n).Given=w.Given:=by unfold eb_;split<;>rfl
theorem ri_ (ev:Int):∀(t:List ad_) (h:List DKey) (w:ac_),(bR_ ev t h w).1.Given=w.Given
  | [],h,w=>rfl
  | p::t,h,w=>by
    simp only [bR_,ri_ ev t]
    split
    ·exact p5_ w p
    ·rfl
theorem kW_ (n:Int):∀(d:Nat) (w:ac_),(a5_ n d w).Given=w.Given
  | 0,w=>rfl
  | d+1,w=>by
    simp only [a5_]
    split
    ·rfl
    ·rw [kW_ n d,x7_]
theorem wu_ (ev:Int) (s:ac_×List DKey):(aC_ ev s).1.Given=s.1.Given:=by
  unfold aC_
  dsimp only
  rw [kW_,kW_,ri_];rfl
end Km.X
namespace Km.X
open Go Km
set_option linter.unusedVariables false
set_option linter.unusedSimpArgs false
theorem xC_ (n:Int):∀(t:List ak_) (p:Int) (m:Nat),WHs n p t→n-1≤p∧p≤n+7→m<2^(p+1-n).toNat→nN_ n m t<256
  | [],p,m,h,hp,hm=>by
    simp only [nN_]
    have:2^(p+1-n).toNat≤256:=gW_ (by omega)
    omega
  | x::t,p,m,h,hp,hm=>by
    simp only [nN_]
    obtain ⟨h1,h2⟩:=h
    have hx:p<x.Seq∧x.Seq≤n+7:=by
      have:=h1
      omega
    refine xC_ n t x.Seq _ h2 (by omega) ?_
    have e:(x.Seq+1-n).toNat=(x.Seq-n).toNat+1:=by omega
    have hle:2^(p+1-n).toNat≤2^(x.Seq-n).toNat:=Nat.pow_le_pow_right (by decide) (by omega)
    rw [e,Nat.pow_succ]
    omega
theorem oQ_ {t:ai_} (h:VTake t):(tkM t).1=t.Next∧(0≤(tkM t).2∧(tkM t).2≤255):=by
  unfold tkM
  rw [if_pos h]
  have:=xC_ t.Next t.Held (t.Next-1) 0 h.2.2.2.2.2.1 (by omega) (by simp)
  refine ⟨rfl, ?_, ?_⟩<;>dsimp only<;>omega
theorem tq_ {l:List ag_} (h:OkItems 0 l) (i:Int):(iG_ l i).Text.size≤20:=by
  unfold iG_
  split
  ·rename_i x hx;exact (e7_ h _ x hx).1
  ·exact Nat.zero_le _
theorem pN_ {e:an_} (h:VEnd e):∀q∈(bm_ e).2,0≤q∧q≤999999:=by
  have hS:=h.2.2.2.2.1
  have hv:=(s2_ e h).1
  unfold bm_ at hv⊢
  split
  ·intro q hq;cases hq
  ·rename_i hp
   rw [if_neg hp] at hv
   intro q hq
   have:=iD_ e.Send hS q hq
   have:=hv.2.1
   have:=hv.2.2.1
   omega
theorem gM_ {e:an_} (h:VEnd e):∀q∈(a1_ e).Out,iL_ q∧q.From=e.Number∧q.Mine=e.Life∧q.Yours=e.Peer:=by
  have hr:=pN_ h
  have hv:=(s2_ e h).1
  have hw:∀q∈(bm_ e).2.map (jg_ e.Number e.Life e.Peer (bm_ e).1.Base (bm_ e).1.Items),iL_ q∧q.From=e.Number∧q.Mine=e.Life∧q.Yours=e.Peer:=fun q hq=>by
    obtain ⟨i,hi,rfl⟩:=List.mem_map.mp hq
    have:=hr i hi
    exact ⟨⟨h.1,h.2.1,h.2.2.1, .inr ⟨rfl,rfl,rfl,by dsimp only [jg_];omega,tq_ hv.2.2.2 _⟩⟩,rfl,rfl,rfl⟩
  have hk:=oQ_ h.2.2.2.2.2.1
  have hn:=h.2.2.2.2.2.1.1
  unfold a1_
  rw [if_pos h]
  split
  ·split
   ·intro q hq
    rcases List.mem_append.mp hq with hq | hq
    ·exact hw q hq
    ·simp only [List.mem_singleton] at hq
     subst hq
     exact ⟨⟨h.1,h.2.1,h.2.2.1, .inl ⟨rfl,by dsimp only;omega,hk.2,rfl,rfl,rfl⟩⟩,rfl,rfl,rfl⟩
   ·exact hw
  ·intro q hq;cases hq
end Km.X
namespace Km.X
open Go Km
set_option linter.unusedVariables false
set_option linter.unusedSimpArgs false
def iQ_ (Gi:List aa_) (i A B:Int):List aA_:=(aE_ Gi ⟨i,A,B⟩).flatMap qF_
theorem pW_ (Gi:List aa_) (r:aa_) (i A B:Int):iQ_ (Gi++[r]) i A B=iQ_ Gi i A B++(if (⟨i,A,B⟩:DPair)=kf r then qF_ r.Text else []):=by
  unfold iQ_
  rw [bt_]
  split
  ·rw [List.flatMap_append];simp
  ·simp
theorem xG_:∀(l:List ByteArray) (out:List ByteArray),(∀s∈l,s.size≤200)→eo_ (l.flatMap qF_) noB out=(out++l,noB,true)
  | [],out,h=>by simp [eo_]
  | s::l,out,h=>by
    rw [List.flatMap_cons,AM_,xG_ l _ (fun t ht=>h t (List.mem_cons_of_mem _ ht))]
    unfold zz_
    rw [if_pos (h s (List.mem_cons_self ..))]
    simp
theorem ya_ {l:List aa_} {key:DPair} {s:ByteArray} (h:s∈aE_ l key):∃r∈l,kf r=key∧r.Text=s:=by
  unfold aE_ at h
  obtain ⟨r,hr,e⟩:=List.mem_map.mp h
  obtain ⟨h1,h2⟩:=List.mem_filter.mp hr
  exact ⟨r,h1,of_decide_eq_true h2,e⟩
theorem kT_ {l:List aa_} {key:DPair} (h:∀r∈l,kf r≠key):aE_ l key=[]:=by
  unfold aE_
  rw [List.filter_eq_nil_iff.mpr (fun r hr=>by simpa using h r hr)];rfl
theorem px_ {Gi:List aa_} (h:fL_ Gi) (i A B:Int):eo_ (iQ_ Gi i A B) noB []=(aE_ Gi ⟨i,A,B⟩,noB,true):=by
  unfold iQ_
  rw [xG_ _ _ (fun s hs=>by obtain ⟨r,h1,_,rfl⟩:=ya_ hs;exact (h r h1).2.2.2)]
  simp
theorem xm_:∀l:List ByteArray,(l.flatMap qF_).length≤10*l.length
  | []=>by simp
  | s::l=>by have:=(sP_ s).1;have:=xm_ l;simp only [List.flatMap_cons,List.length_append,List.length_cons];omega
theorem n9_ (Gi:List aa_) (i A B:Int):(iQ_ Gi i A B).length≤10*Gi.length:=by
  unfold iQ_
  have:=xm_ (aE_ Gi ⟨i,A,B⟩)
  have:=fg_ Gi ⟨i,A,B⟩
  omega
def Had (t:ai_) (s:Int):Prop:=s<t.Next∨∃x∈t.Held,x.Seq=s
theorem TInv.app {P:List aA_} {t:ai_} {g:List ByteArray} (h:TInv P t g) (Q:List aA_):TInv (P++Q) t g:=by
  refine ⟨h.V,fun x hx=> ?_,by have:=h.N;simp only [List.length_append];omega, ?_⟩
  ·obtain ⟨a,b⟩:=h.M x hx
   have:=zP_ a b
   exact ⟨a,by rw [List.getElem?_append_left (by omega)];exact b⟩
  ·have:=h.N
   have:=h.V.1
   rw [List.take_append_of_le_length (by omega)];exact h.J
theorem TInv.none (P:List aA_):TInv P iM_ []:=⟨jZ_,fun x hx=>(by cases hx),(by show (0:Int)≤_;omega),rfl⟩
theorem oq_ {P:List aA_} {t:ai_} {g:List ByteArray} (h:TInv P t g) {q:Int} {p:aA_} (hq:0≤q) (hp:P[q.toNat]? =some p) (hp2:p.Text.size≤20) (hP:P.length≤1000000):
    TInv P (iS_ t q p) g∧t.Next≤(iS_ t q p).Next∧(∀s,Had t s→Had (iS_ t q p) s)∧(q≤t.Next+7→Had (iS_ t q p) q):=by
  have hql:=zP_ hq hp
  unfold iS_
  rw [if_pos h.V]
  split
  ·rename_i g1
   cases ht:nw_ q p t.Held with
   | none=>
     refine ⟨h,Int.le_refl _,fun _ h=>h,fun _=> .inr ?_⟩
     exact tR_ ht
   | some hh=>
     obtain ⟨v1,v2,v3,v4,v5,v6,v7⟩:=h.V
     have hw:=Am_ q p g1.1.2.1 g1.1.2.2 g1.2 (by omega) v6 ht
     have hlen:=ws_ hw (by omega)
     obtain ⟨a1,a2,a3⟩:=th_ ht
     obtain ⟨b1,b2,b3⟩:=jX_ P t.Next hh t.Next t.Open t.Ready g (Int.le_refl _) hw (by omega) v1.1 v1.2 v3 v4 v5 (fun x hx=>by
       rcases a1 x hx with rfl | hx
       ·exact ⟨hq,hp⟩
       ·exact h.M x hx) h.N h.J
     refine ⟨b1,b2,fun s hs=> ?_,fun _=> ?_⟩
     ·rcases hs with hs | ⟨x,hx,rfl⟩
      ·exact .inl (by dsimp only;omega)
      ·rcases b3 _ (a3 x hx) with h' | h'
       ·exact .inl h'
       ·exact .inr ⟨x,h',rfl⟩
     rcases b3 _ a2 with h' | h'
     ·exact .inl h'
     ·exact .inr ⟨_,h',rfl⟩
  ·rename_i g1
   refine ⟨h,Int.le_refl _,fun _ h=>h,fun h7=> .inl ?_⟩
   by_cases hlt:q<t.Next
   ·exact hlt
   ·exact absurd ⟨⟨by omega,h7,by omega⟩,hp2⟩ g1
theorem tg_ {P:List aA_} {t:ai_} {g:List ByteArray} (h:TInv P t g) (hr:(cy_ t).2.2=true):
    TInv P (cy_ t).1 (g++[(cy_ t).2.1])∧t.Next≤(cy_ t).1.Next∧∀s,Had t s→Had (cy_ t).1 s:=by
  cases hR:t.Ready with
  | nil=>rw [pK_ h.V hR] at hr;cases hr
  | cons s rs=>
    obtain ⟨a1,a2,a3,a4⟩:=xh_ h hR
    rw [a1]
    refine ⟨a2,a3,fun u hu=> ?_⟩
    obtain ⟨v1,v2,v3,v4,v5,v6,v7⟩:=h.V
    have hJ:=h.J
    rw [hR] at hJ v5 v4
    simp only [List.length_cons] at v4
    have b3:=(jX_ P t.Next t.Held t.Next t.Open rs (g++[s]) (Int.le_refl _) v6 v2 v1.1 v1.2 v3 (by omega) (fun y hy=>v5 y (List.mem_cons_of_mem _ hy)) h.M h.N (by rw [hJ];simp)).2.2
    rw [←a4] at b3
    rcases hu with hu | ⟨x,hx,rfl⟩
    ·exact .inl (by omega)
    ·rcases b3 x hx with h' | h'
     ·exact .inl h'
     ·exact .inr ⟨x,h',rfl⟩
theorem ur_ (n:Int):∀(t:List ak_) (p:Int) (m k:Nat),WHs n p t→n-1≤p→m<2^(p+1-n).toNat→(nN_ n m t).testBit k=true→m.testBit k=true∨∃x∈t,x.Seq=n+k
  | [],p,m,k,h,hp,hm,hk=> .inl hk
  | x::t,p,m,k,h,hp,hm,hk=>by
    simp only [nN_] at hk
    obtain ⟨h1,h2⟩:=h
    have hx:p<x.Seq:=h1.1
    have e:(x.Seq+1-n).toNat=(x.Seq-n).toNat+1:=by omega
    have hle:2^(p+1-n).toNat≤2^(x.Seq-n).toNat:=Nat.pow_le_pow_right (by decide) (by omega)
    rcases ur_ n t x.Seq _ k h2 (by omega) (by rw [e,Nat.pow_succ];omega) hk with h | ⟨y,hy,hh⟩
    ·rw [Nat.add_comm] at h
     rcases Nat.lt_trichotomy k (x.Seq-n).toNat with g | g | g
     ·rw [Nat.testBit_two_pow_add_gt g] at h;exact .inl h
     ·exact .inr ⟨x,List.mem_cons_self ..,by omega⟩
     ·have:2^(x.Seq-n).toNat+m<2^k:=by
        have:2^((x.Seq-n).toNat+1)≤2^k:=Nat.pow_le_pow_right (by decide) g
        rw [Nat.pow_succ] at this;omega
      rw [Nat.testBit_lt_two_pow this] at h;cases h
    ·exact .inr ⟨y,List.mem_cons_of_mem _ hy,hh⟩
theorem Cv_ {t:ai_} (h:VTake t) (k:Nat) (hk:(tkM t).2.toNat.testBit k=true):Had t (t.Next+k):=by
  unfold tkM at hk
  rw [if_pos h] at hk
  rcases ur_ t.Next t.Held (t.Next-1) 0 k h.2.2.2.2.2.1 (by omega) (by simp) hk with h | h
  ·simp at h
  ·exact .inr h
theorem sY_:∀(l:List ag_) (i m j:Nat),(oG_ i m l)[j]? =l[j]?.map (fun x=>if i+j<8∧m.testBit j=true∧0≤x.Since then ⟨x.Part,true,x.Since⟩ else x)
  | [],i,m,j=>by simp [oG_]
  | x::t,i,m,0=>by
    simp only [oG_,List.getElem?_cons_zero,Option.map_some,Nat.add_zero,Nat.testBit_zero,decide_eq_true_eq]
  | x::t,i,m,j+1=>by
    simp only [oG_,List.getElem?_cons_succ]
    rw [sY_ t (i+1) (m/2) j]
    simp only [Nat.testBit_succ,show i+1+j=i+(j+1) by omega]
theorem ij_:∀(t:List ag_) (i:Nat) (b:Int) (j:Nat),(dx_ i b t).1[j]? =t[j]?.map (fun x=>if i+j<8 then fQ_ x else x)
  | [],i,b,j=>by simp [dx_]
  | x::t,i,b,j=>by
    simp only [dx_]
    split
    ·rename_i h
     dsimp only
     cases hh:(x::t)[j]? with
     | none=>rfl
     | some y=>simp only [Option.map_some];rw [if_neg (by omega)]
    ·rename_i h
     dsimp only
     cases j with
     | zero=>simp;omega
     | succ j=>
       simp only [List.getElem?_cons_succ]
       rw [ij_ t (i+1) b j]
       simp only [show i+1+j=i+(j+1) by omega]
theorem rs_ (x:ag_):(fQ_ x).Part=x.Part∧(fQ_ x).Has=x.Has:=by unfold fQ_;repeat' split<;>try exact ⟨rfl,rfl⟩
theorem vm_ {e:an_} (h:VEnd e) (j:Nat):∀y,(bm_ e).1.Items[j]? =some y→∃x,e.Send.Items[j]? =some x∧y.Part=x.Part∧y.Has=x.Has:=fun y hy=>by
  unfold bm_ at hy
  split at hy
  ·exact ⟨y,hy,rfl,rfl⟩
  ·unfold hT_ at hy
   rw [if_pos h.2.2.2.2.1] at hy
   dsimp only at hy
   rw [ij_] at hy
   cases hx:e.Send.Items[j]? with
   | none=>rw [hx] at hy;cases hy
   | some x=>
     rw [hx,Option.map_some] at hy
     have:=rs_ x
     refine ⟨x,rfl, ?_⟩
     split at hy<;>(cases hy;first | exact this | exact ⟨rfl,rfl⟩)
theorem ih_ {e:an_} (h:VEnd e):(bm_ e).1.Base=e.Send.Base∧(bm_ e).1.Items.length=e.Send.Items.length:=by
  unfold bm_
  split
  ·exact ⟨rfl,rfl⟩
  ·unfold hT_
   rw [if_pos h.2.2.2.2.1]
   exact ⟨rfl,(n6_ _ _ _ h.2.2.2.2.1.2.2.2).2.1⟩
theorem sX_:∀(h:List ak_) (n:Int) (o:ByteArray) (r:List ByteArray) (s:Int),Had (d4_ h n o r) s→s<n∨∃x∈h,x.Seq=s
  | [],n,o,r,s,hs=>hs
  | x::t,n,o,r,s,hs=>by
    simp only [d4_] at hs
    have go:∀o' r',Had (d4_ t (n+1) o' r') s→x.Seq=n→s<n∨∃y∈x::t,y.Seq=s:=fun o' r' g e=>by
      rcases sX_ t (n+1) o' r' s g with h | ⟨y,hy,h⟩
      ·by_cases e':s=n
       ·exact .inr ⟨x,List.mem_cons_self ..,by omega⟩
       ·exact .inl (by omega)
      ·exact .inr ⟨y,List.mem_cons_of_mem _ hy,h⟩
    split at hs
    ·rename_i hg
     split at hs
     ·exact go _ _ hs hg.1
     ·exact go _ _ hs hg.1
    ·exact hs
theorem B1_ {t:ai_} (hv:VTake t) (q:Int) (p:aA_) (s:Int) (h:Had (iS_ t q p) s):Had t s∨s=q:=by
  unfold iS_ at h
  rw [if_pos hv] at h
  split at h
  ·cases ht:nw_ q p t.Held with
   | none=>rw [ht] at h;exact .inl h
   | some hh=>
     rw [ht] at h
     dsimp only at h
     rcases sX_ _ _ _ _ _ h with h | ⟨x,hx,e⟩
     ·exact .inl (.inl h)
     ·rcases (th_ ht).1 x hx with rfl | hx
      ·exact .inr e.symm
      ·exact .inl (.inr ⟨x,hx,e⟩)
  ·exact .inl h
theorem Bt_ {t:ai_} (hv:VTake t) (s:Int) (h:Had (cy_ t).1 s):Had t s:=by
  unfold cy_ at h
  rw [if_pos hv] at h
  split at h
  ·exact h
  ·exact sX_ _ _ _ _ _ h
theorem B5_ {P:List aA_} {t:ai_} {g:List ByteArray} (h:TInv P t g) {s:Int} (hs:Had t s):s<P.length:=by
  rcases hs with hs | ⟨x,hx,rfl⟩
  ·have:=h.N;omega
  ·obtain ⟨a,b⟩:=h.M x hx
   exact zP_ a b
theorem ot_ {x:ag_} (h:0≤x.Since∨fb_ x):0≤(fQ_ x).Since:=by
  unfold fQ_
  split
  ·rename_i hh
   rcases h with h | h
   ·exact h
   ·exact absurd hh h.1
  ·split
   ·exact Int.le_refl _
   ·split
    ·exact Int.le_refl _
    ·rename_i h1 h3
     rcases h with h | h
     ·dsimp only;omega
     ·rcases h.2 with g | g
      ·exact absurd g h1
      ·exact absurd g h3
theorem mH_:∀(t:List ag_) (i:Nat) (b q:Int),q∈(dx_ i b t).2→∃(k:Nat) (x:ag_),t[k]? =some x∧q=b+i+k∧i+k<8∧fb_ x
  | [],i,b,q,h=>by simp [dx_] at h
  | x::t,i,b,q,h=>by
    simp only [dx_] at h
    split at h
    ·simp at h
    ·rename_i hi
     rcases List.mem_append.mp h with h | h
     ·split at h
      ·rename_i hs
       simp only [List.mem_singleton] at h
       exact ⟨0,x,rfl,by omega,by omega,hs⟩
      ·simp at h
     ·obtain ⟨k,y,h1,h2,h3,h4⟩:=mH_ t (i+1) b q h
      exact ⟨k+1,y,by simpa using h1,by omega,by omega,h4⟩
theorem vH_ {e:an_} (h:VEnd e) (j:Nat):∀y,(bm_ e).1.Items[j]? =some y→∃x,e.Send.Items[j]? =some x∧(0≤x.Since→0≤y.Since):=fun y hy=>by
  unfold bm_ at hy
  split at hy
  ·exact ⟨y,hy,fun g=>g⟩
  ·unfold hT_ at hy
   rw [if_pos h.2.2.2.2.1] at hy
   dsimp only at hy
   rw [ij_] at hy
   cases hx:e.Send.Items[j]? with
   | none=>rw [hx] at hy;cases hy
   | some x=>
     rw [hx,Option.map_some] at hy
     refine ⟨x,rfl,fun g=> ?_⟩
     split at hy<;>cases hy
     ·exact ot_ (.inl g)
     ·exact g
theorem xQ_ {e:an_} (h:VEnd e) {q:Int} (hq:q∈(bm_ e).2) (k:Nat) (y:ag_) (hy:(bm_ e).1.Items[k]? =some y) (hk:q=e.Send.Base+k):0≤y.Since:=by
  unfold bm_ at hq hy
  split at hq
  ·cases hq
  ·rename_i hp
   rw [if_neg hp] at hy
   unfold hT_ at hq hy
   rw [if_pos h.2.2.2.2.1] at hq hy
   dsimp only at hq hy
   obtain ⟨j,x,h1,h2,h3,h4⟩:=mH_ _ _ _ _ hq
   have:j=k:=by omega
   subst this
   rw [ij_,h1,Option.map_some] at hy
   rw [if_pos (by omega)] at hy
   cases hy
   exact ot_ (.inr h4)
end Km.X
namespace Km.X
open Go Km
set_option linter.unusedVariables false
set_option linter.unusedSimpArgs false
structure Dir (i:Int) (e f:an_) (Gi Ta:List aa_):Prop where
  pe:f.Peer≤e.Life
  gf:∀r∈Gi,r.From=i→r.A<e.Life∨(r.A=e.Life∧(e.Up=true→r.B≤e.Peer))
  tf:∀r∈Ta,r.From=i→r.B<f.Life∨(r.B=f.Life∧(f.Up=true→r.A≤f.Peer))
  it:e.Peer≠0→e.Send.Base.toNat+e.Send.Items.length=(iQ_ Gi i e.Life e.Peer).length∧∀k x,e.Send.Items[k]? =some x→(iQ_ Gi i e.Life e.Peer)[e.Send.Base.toNat+k]? =some x.Part
  tk:f.Peer≠0→TInv (iQ_ Gi i f.Peer f.Life) f.Take (aE_ Ta ⟨i,f.Peer,f.Life⟩)
  rt:∀A B,∃m,aE_ Gi ⟨i,A,B⟩=aE_ Ta ⟨i,A,B⟩++m
  p1:e.Peer=f.Life→f.Peer=e.Life→e.Send.Base≤f.Take.Next∧∀(k:Nat) (x:ag_),e.Send.Items[k]? =some x→x.Has=true→Had f.Take (e.Send.Base+k)
  p2:e.Peer=f.Life→f.Up=true→f.Peer≠e.Life→e.Send.Base=0∧∀(k:Nat) (x:ag_),e.Send.Items[k]? =some x→¬x.Has=true
  p3:e.Peer=f.Life→f.Peer=e.Life→∀(k:Nat) (x:ag_),e.Send.Items[k]? =some x→Had f.Take (e.Send.Base+k)→0≤x.Since
structure Gen (i:Int) (e f:an_) (Gi:List aa_) (q:ae_):Prop where
  a:q.Mine≤e.Life
  b:q.Mine=e.Life→e.Up=true→q.Yours≤e.Peer
  c:q.Yours≤f.Life
  d:q.Kind=2→(iQ_ Gi i q.Mine q.Yours)[q.Seq.toNat]? =some ⟨q.Part,q.Last⟩
  w:q.Kind=1→q.Mine=e.Life→e.Up=true→q.Yours=e.Peer→q.Next≤e.Take.Next∧∀k:Nat,q.Mask.toNat.testBit k=true→Had e.Take (q.Next+k)
  s:q.Kind=2→q.Mine=e.Life→e.Up=true→q.Yours=e.Peer→∀(k:Nat) (x:ag_),e.Send.Items[k]? =some x→q.Seq=e.Send.Base+k→0≤x.Since
def Two (n:Int) (x y:an_) (Gi Ta:List aa_):Prop:=Dir n x y Gi Ta∧Dir (3-n) y x Gi Ta
structure Stp (n:Int) (x x' y:an_) (Gi Ta Gi' Ta':List aa_):Prop where
  two:Two n x' y Gi' Ta'
  mine:∀q,Gen n x y Gi q→Gen n x' y Gi' q
  yours:∀q,Gen (3-n) y x Gi q→Gen (3-n) y x' Gi' q
theorem Stp.refl {n:Int} {x y:an_} {Gi Ta:List aa_} (h:Two n x y Gi Ta):Stp n x x y Gi Ta Gi Ta:=⟨h,fun _ g=>g,fun _ g=>g⟩
theorem Stp.trans {n:Int} {x x' x'' y:an_} {Gi Ta Gi' Ta' Gi'' Ta'':List aa_} (h:Stp n x x' y Gi Ta Gi' Ta') (g:Stp n x' x'' y Gi' Ta' Gi'' Ta''):Stp n x x'' y Gi Ta Gi'' Ta'':=
  ⟨g.two,fun q a=>g.mine q (h.mine q a),fun q a=>g.yours q (h.yours q a)⟩
section
variable {n:Int} {x x' y:an_} {Gi Ta:List aa_}
theorem xo_ (h:Two n x y Gi Ta) (hl:x'.Life=x.Life) (hu:x'.Up=x.Up) (hp:x'.Peer=x.Peer) (ht:x'.Take=x.Take)
    (hb:0≤x.Send.Base∧x.Send.Base≤x'.Send.Base∧x'.Send.Base+x'.Send.Items.length=x.Send.Base+x.Send.Items.length)
    (hs:∀(k:Nat) z,x'.Send.Items[k]? =some z→∃(j:Nat) (u:ag_),x.Send.Items[j]? =some u∧x'.Send.Base+k=x.Send.Base+j∧z.Part=u.Part∧(0≤u.Since→0≤z.Since)∧(x.Peer=y.Life→y.Up=true→z.Has=true→u.Has=true∨(y.Peer=x.Life∧Had y.Take (x'.Send.Base+k))))
    (hyu:y.Peer=x.Life→y.Up=true)
    (h1:x.Peer=y.Life→y.Peer=x.Life→x'.Send.Base≤y.Take.Next) (h2:x.Peer=y.Life→y.Up=true→y.Peer≠x.Life→x'.Send.Base=x.Send.Base):Stp n x x' y Gi Ta Gi Ta:=by
  obtain ⟨⟨a1,a2,a3,a4,a5,a6,a7,a8,a9⟩,⟨b1,b2,b3,b4,b5,b6,b7,b8,b9⟩⟩:=h
  refine ⟨⟨⟨?_, ?_,a3, ?_,a5,a6, ?_, ?_, ?_⟩,⟨?_,b2, ?_,b4, ?_,b6, ?_, ?_, ?_⟩⟩,fun q g=>⟨?_, ?_,g.c,g.d, ?_, ?_⟩,fun q g=>⟨g.a,g.b, ?_,g.d,g.w,g.s⟩⟩
  all_goals simp only [hl,hu,hp,ht]
  ·exact a1
  ·exact a2
  ·intro hp0
   obtain ⟨c1,c2⟩:=a4 hp0
   refine ⟨by omega,fun k z hz=> ?_⟩
   obtain ⟨j,u,d1,d2,d3,_⟩:=hs k z hz
   have:=c2 j u d1
   rw [d3,←this];congr 1;omega
  ·intro e1 e2
   obtain ⟨c1,c2⟩:=a7 e1 e2
   refine ⟨h1 e1 e2,fun k z hz hh=> ?_⟩
   obtain ⟨j,u,d1,d2,d3,d4,d5⟩:=hs k z hz
   rcases d5 e1 (hyu e2) hh with g | g
   ·rw [d2];exact c2 j u d1 g
   ·exact g.2
  ·intro e1 e2 e3
   obtain ⟨c1,c2⟩:=a8 e1 e2 e3
   refine ⟨by rw [h2 e1 e2 e3];exact c1,fun k z hz hh=> ?_⟩
   obtain ⟨j,u,d1,d2,d3,d4,d5⟩:=hs k z hz
   rcases d5 e1 e2 hh with g | g
   ·exact c2 j u d1 g
   ·exact e3 g.1
  ·intro e1 e2 k z hz hh
   obtain ⟨j,u,d1,d2,d3,d4,d5⟩:=hs k z hz
   exact d4 (a9 e1 e2 j u d1 (by rw [←d2];exact hh))
  ·exact b1
  ·exact b3
  ·exact b5
  ·exact b7
  ·exact b8
  ·exact b9
  ·exact g.a
  ·exact g.b
  ·exact g.w
  ·intro k1 k2 k3 k4 k z hz hh
   obtain ⟨j,u,d1,d2,d3,d4,d5⟩:=hs k z hz
   exact d4 (g.s k1 k2 k3 k4 j u d1 (by omega))
  ·exact g.c
theorem sp_ (h:Two n x y Gi Ta) (hl:x'.Life=x.Life) (hu:x'.Up=x.Up) (hp:x'.Peer=x.Peer) (hs:x'.Send=x.Send)
    (ht:x.Peer≠0→TInv (iQ_ Gi (3-n) x.Peer x.Life) x'.Take (aE_ Ta ⟨3-n,x.Peer,x.Life⟩)) (hn:x.Take.Next≤x'.Take.Next) (hh:∀s,Had x.Take s→Had x'.Take s)
    (h3:y.Peer=x.Life→x.Peer=y.Life→∀(k:Nat) (z:ag_),y.Send.Items[k]? =some z→Had x'.Take (y.Send.Base+k)→0≤z.Since):Stp n x x' y Gi Ta Gi Ta:=by
  obtain ⟨⟨a1,a2,a3,a4,a5,a6,a7,a8,a9⟩,⟨b1,b2,b3,b4,b5,b6,b7,b8,b9⟩⟩:=h
  refine ⟨⟨⟨?_, ?_,a3, ?_,a5,a6, ?_, ?_, ?_⟩,⟨?_,b2, ?_,b4, ?_,b6, ?_, ?_, ?_⟩⟩,fun q g=>⟨?_, ?_,g.c,g.d, ?_, ?_⟩,fun q g=>⟨g.a,g.b, ?_,g.d,g.w,g.s⟩⟩
  all_goals simp only [hl,hu,hp,hs]
  ·exact a1
  ·exact a2
  ·exact a4
  ·exact a7
  ·exact a8
  ·exact a9
  ·exact b1
  ·exact b3
  ·exact ht
  ·intro e1 e2
   obtain ⟨c1,c2⟩:=b7 e1 e2
   exact ⟨by omega,fun k z hz hz'=>hh _ (c2 k z hz hz')⟩
  ·exact b8
  ·exact h3
  ·exact g.a
  ·exact g.b
  ·intro k1 k2 k3 k4
   obtain ⟨c1,c2⟩:=g.w k1 k2 k3 k4
   exact ⟨by omega,fun k hk=>hh _ (c2 k hk)⟩
  ·exact g.s
  ·exact g.c
theorem fH_ (hv:VEnd x):(a1_ x).End.Life=x.Life∧(a1_ x).End.Up=x.Up∧(a1_ x).End.Peer=x.Peer∧(a1_ x).End.Take=x.Take∧((a1_ x).End.Send=(bm_ x).1∨(a1_ x).End.Send=x.Send):=by
  unfold a1_
  rw [if_pos hv]
  split
  ·split
   ·exact ⟨rfl,rfl,rfl,rfl, .inl rfl⟩
   ·exact ⟨rfl,rfl,rfl,rfl, .inl rfl⟩
  ·exact ⟨rfl,rfl,rfl,rfl, .inr rfl⟩
theorem BZ_ {x y:an_} (hv:VEnd x) (hy:VEnd y) (h:y.Peer=x.Life):y.Up=true:=by
  cases hh:y.Up with
  | true=>rfl
  | false=>have:=(hy.2.2.2.2.2.2.2 hh).1;have:=hv.2.1;omega
theorem xa_ (h:Two n x y Gi Ta) (hv:VEnd x) (hy:VEnd y):Stp n x (a1_ x).End y Gi Ta Gi Ta:=by
  obtain ⟨e1,e2,e3,e4,e5⟩:=fH_ hv
  obtain ⟨g1,g2⟩:=ih_ hv
  have key:(a1_ x).End.Send.Base=x.Send.Base∧(a1_ x).End.Send.Items.length=x.Send.Items.length∧∀(j:Nat) z,(a1_ x).End.Send.Items[j]? =some z→∃u,x.Send.Items[j]? =some u∧z.Part=u.Part∧z.Has=u.Has∧(0≤u.Since→0≤z.Since):=by
    rcases e5 with e | e
    ·rw [e]
     refine ⟨g1,g2,fun j z hz=> ?_⟩
     obtain ⟨u,hu,hz1,hz2⟩:=vm_ hv j z hz
     obtain ⟨u',hu',hz3⟩:=vH_ hv j z hz
     rw [hu] at hu';cases hu'
     exact ⟨u,hu,hz1,hz2,hz3⟩
    ·rw [e];exact ⟨rfl,rfl,fun j z hz=>⟨z,hz,rfl,rfl,fun g=>g⟩⟩
  obtain ⟨k1,k2,k3⟩:=key
  refine xo_ h e1 e2 e3 e4 ⟨hv.2.2.2.2.1.2.1.1,by rw [k1];exact Int.le_refl _,by rw [k1,k2]⟩ (fun k z hz=> ?_) (BZ_ hv hy) (fun q1 q2=>by rw [k1];exact (h.1.p1 q1 q2).1) (fun _ _ _=>k1)
  obtain ⟨u,hu,hz1,hz2,hz3⟩:=k3 k z hz
  exact ⟨k,u,hu,by rw [k1],hz1,hz3,fun _ _ hh=> .inl (by rw [←hz2];exact hh)⟩
theorem w5_ (hv:VEnd x):∀q∈(a1_ x).Out,x.Up=true∧((q.Kind=1∧q.Next=(tkM x.Take).1∧q.Mask=(tkM x.Take).2)∨(x.Peer≠0∧q.Kind=2∧q.Seq∈(bm_ x).2∧iG_ (bm_ x).1.Items (q.Seq-x.Send.Base)=⟨q.Part,q.Last⟩)):=by
  have hb:=(ih_ hv).1
  have hm:∀q∈(bm_ x).2.map (jg_ x.Number x.Life x.Peer (bm_ x).1.Base (bm_ x).1.Items),x.Peer≠0∧q.Kind=2∧q.Seq∈(bm_ x).2∧iG_ (bm_ x).1.Items (q.Seq-x.Send.Base)=⟨q.Part,q.Last⟩:=fun q hq=>by
    obtain ⟨j,hj,rfl⟩:=List.mem_map.mp hq
    refine ⟨fun e=> ?_,rfl,hj,by rw [hb];rfl⟩
    unfold bm_ at hj;rw [if_pos e] at hj;cases hj
  unfold a1_
  rw [if_pos hv]
  split
  ·rename_i hu
   split
   ·intro q hq
    rcases List.mem_append.mp hq with hq | hq
    ·exact ⟨hu, .inr (hm q hq)⟩
    ·simp only [List.mem_singleton] at hq
     subst hq
     exact ⟨hu, .inl ⟨rfl,rfl,rfl⟩⟩
   ·exact fun q hq=>⟨hu, .inr (hm q hq)⟩
  ·intro q hq;cases hq
theorem wZ_ (h:Two n x y Gi Ta) (hv:VEnd x):∀q∈(a1_ x).Out,Gen n (a1_ x).End y Gi q:=fun q hq=>by
  obtain ⟨e1,e2,e3,e4,e5⟩:=fH_ hv
  obtain ⟨f1,f2,f3,f4⟩:=gM_ hv q hq
  obtain ⟨o1,o2⟩:=w5_ hv q hq
  have hpl:=h.2.pe
  refine ⟨by omega,fun _ _=>by omega,by omega,fun hk=> ?_,fun hk _ _ _=> ?_,fun hk _ _ _ k z hz hq=> ?_⟩
  ·rcases o2 with ⟨o,_⟩ | ⟨o3,_,o4,o5⟩
   ·omega
   ·have hr:=pN_ hv q.Seq o4
    obtain ⟨c1,c2⟩:=h.1.it o3
    have hS:=iD_ x.Send hv.2.2.2.2.1 q.Seq (by unfold bm_ at o4;rw [if_neg o3] at o4;exact o4)
    have hS':x.Send.Base≤q.Seq∧q.Seq<x.Send.Base+(bm_ x).1.Items.length:=by
      have hb:=(ih_ hv).1
      unfold bm_ at hb⊢
      rw [if_neg o3] at hb⊢
      rw [hb] at hS;exact hS
    have hlt:(q.Seq-x.Send.Base).toNat<(bm_ x).1.Items.length:=by omega
    unfold iG_ at o5
    rw [List.getElem?_eq_getElem hlt] at o5
    dsimp only at o5
    obtain ⟨u,hu,hz1,hz2⟩:=vm_ hv _ _ (List.getElem?_eq_getElem hlt)
    have:=c2 _ _ hu
    have hb0:=hv.2.2.2.2.1.2.1.1
    rw [f3,f4,←o5,hz1,←this]
    congr 1;omega
  ·rcases o2 with ⟨_,o3,o4⟩ | ⟨_,o,_⟩
   ·rw [e4,o3,o4,(oQ_ hv.2.2.2.2.2.1).1]
    exact ⟨Int.le_refl _,fun k hk=>Cv_ hv.2.2.2.2.2.1 k hk⟩
   ·omega
  ·rcases o2 with ⟨o,_⟩ | ⟨o3,_,o4,_⟩
   ·omega
   ·have hs:(a1_ x).End.Send=(bm_ x).1:=by
      unfold a1_;rw [if_pos hv,if_pos o1];split<;>rfl
    rw [hs] at hz hq
    exact xQ_ hv o4 k z hz (by rw [hq,(ih_ hv).1])
theorem vp_ (h:Two n x y Gi Ta) (hv:VEnd x) (hy:VEnd y) {p:ae_} (hu:x.Up=true) (hg:Gen (3-n) y x Gi p):Stp n x (jM_ x p) y Gi Ta Gi Ta:=by
  unfold jM_
  split
  ·rename_i hm
   obtain ⟨⟨a1,a2,a3,a4,a5,a6,a7,a8,a9⟩,⟨b1,b2,b3,b4,b5,b6,b7,b8,b9⟩⟩:=h
   have hx0:=hv.2.2.1
   have hyb:=hy.2.2.2.2.1.2.1.1
   have ga:=hg.a
   have hnext:=hy.2.2.2.2.2.1.1
   refine ⟨⟨⟨a1,fun r hr e=> ?_,a3,fun hp=> ?_,a5,a6,fun _ _=>⟨hnext.1,fun k z hz=>by cases hz⟩,fun _ _ _=>⟨rfl,fun k z hz=>by cases hz⟩,fun _ _ k z hz=>by cases hz⟩,⟨ga,b2,fun r hr e=> ?_,b4,fun hp=> ?_,b6,fun e1 e2=> ?_,fun e1 e2 e3=> ?_,fun _ _ k z hz hh=> ?_⟩⟩,fun q g=>⟨g.a,fun e1 e2=> ?_,g.c,g.d,fun k1 k2 k3 k4=> ?_,fun _ _ _ _ k z hz=>by cases hz⟩,fun q g=>⟨g.a,g.b,g.c,g.d,g.w,g.s⟩⟩
   ·rcases a2 r hr e with g | ⟨g,g'⟩
    ·exact .inl g
    ·exact .inr ⟨g,fun _=>by have:=g' hu;dsimp only;omega⟩
   ·have e:aE_ Gi ⟨n,x.Life,p.Mine⟩=[]:=kT_ fun r hr e=>by
      simp only [kf,DPair.mk.injEq] at e
      rcases a2 r hr e.1 with g | ⟨g,g'⟩
      ·omega
      ·have:=g' hu;omega
    dsimp only
    unfold iQ_
    rw [e]
    exact ⟨rfl,fun k z hz=>by cases hz⟩
   ·rcases b3 r hr e with g | ⟨g,g'⟩
    ·exact .inl g
    ·exact .inr ⟨g,fun _=>by have:=g' hu;dsimp only;omega⟩
   ·have e:aE_ Ta ⟨3-n,p.Mine,x.Life⟩=[]:=kT_ fun r hr e=>by
      simp only [kf,DPair.mk.injEq] at e
      rcases b3 r hr e.1 with g | ⟨g,g'⟩
      ·omega
      ·have:=g' hu;omega
    dsimp only
    rw [e]
    exact TInv.none _
   ·dsimp only at e1 e2
    obtain ⟨c1,c2⟩:=b8 e1 hu (by omega)
    exact ⟨by rw [c1];exact Int.le_refl _,fun k z hz hh=>absurd hh (c2 k z hz)⟩
   ·dsimp only at e1 e2 e3
    exact b8 e1 hu (by omega)
   ·rcases hh with hh | ⟨u,hu,_⟩
    ·change y.Send.Base+(k:Int)<0 at hh;omega
    ·cases hu
   ·have:=g.b e1 hu
    dsimp only at this⊢;omega
   ·dsimp only at k2 k4
    have:=g.b k2 hu;omega
  ·exact Stp.refl h
theorem BN_ (h:Two n x y Gi Ta) (hv:VEnd x) (hy:VEnd y) {p:ae_} (hu:x.Up=true) (hf:iL_ p) (hg:Gen (3-n) y x Gi p) (hk:p.Kind=1) (hl:p.Yours=x.Life) (hp:p.Mine=x.Peer):
    Stp n x ⟨x.Number,x.Up,x.Life,x.Peer,x.Since,x.Owes,ir_ x.Send p.Next p.Mask,x.Take⟩ y Gi Ta Gi Ta:=by
  have hS:=hv.2.2.2.2.1
  have hb0:=hS.2.1.1
  by_cases hc:x.Send.Base≤p.Next∧p.Next≤x.Send.Base+ge_ x.Send.Items∧0≤p.Mask∧p.Mask≤255
  ·have hw:ir_ x.Send p.Next p.Mask=⟨p.Next,oG_ 0 p.Mask.toNat (x.Send.Items.drop (p.Next-x.Send.Base).toNat)⟩:=by unfold ir_;rw [if_pos hS,if_pos hc]
   rw [hw]
   have hfr:=ja_ x.Send.Items
   have hget:∀(k:Nat) z,(oG_ 0 p.Mask.toNat (x.Send.Items.drop (p.Next-x.Send.Base).toNat))[k]? =some z→∃u,x.Send.Items[(p.Next-x.Send.Base).toNat+k]? =some u∧z.Part=u.Part∧z.Since=u.Since∧(z.Has=true→u.Has=true∨p.Mask.toNat.testBit k=true):=fun k z hz=>by
     rw [sY_,List.getElem?_drop] at hz
     cases hu:x.Send.Items[(p.Next-x.Send.Base).toNat+k]? with
     | none=>rw [hu] at hz;cases hz
     | some u=>
       rw [hu,Option.map_some] at hz
       refine ⟨u,rfl, ?_⟩
       split at hz
       ·rename_i hh;cases hz;exact ⟨rfl,rfl,fun _=> .inr hh.2.1⟩
       ·cases hz;exact ⟨rfl,rfl,fun g=> .inl g⟩
   have pair:x.Peer=y.Life→y.Up=true→y.Peer=x.Life∧p.Next≤y.Take.Next∧∀k:Nat,p.Mask.toNat.testBit k=true→Had y.Take (p.Next+k):=fun q1 hyu=>by
     have hb:=hg.b (by omega) hyu
     have hpe:=h.1.pe
     exact ⟨by omega,hg.w hk (by omega) hyu (by omega)⟩
   refine xo_ h rfl rfl rfl rfl ⟨hb0,hc.1, ?_⟩ (fun k z hz=> ?_) (BZ_ hv hy) (fun q1 q2=>(pair q1 (BZ_ hv hy q2)).2.1) (fun q1 q2 q3=>absurd (pair q1 q2).1 q3)
   ·dsimp only;rw [gX_,List.length_drop];omega
   ·obtain ⟨u,hu1,hu2,hu3,hu4⟩:=hget k z hz
    refine ⟨_,u,hu1,by dsimp only;omega,hu2,by rw [hu3];exact fun g=>g,fun q1 q2 hh=> ?_⟩
    rcases hu4 hh with g | g
    ·exact .inl g
    ·exact .inr ⟨(pair q1 q2).1,(pair q1 q2).2.2 k g⟩
  ·have hw:ir_ x.Send p.Next p.Mask=x.Send:=by unfold ir_;rw [if_pos hS,if_neg hc]
   rw [hw]
   exact sp_ h rfl rfl rfl rfl h.2.tk (Int.le_refl _) (fun _ g=>g) h.2.p3
theorem B2_ (h:Two n x y Gi Ta) (hv:VEnd x) (hy:VEnd y) (hgl:Gi.length≤400) {p:ae_} (hu:x.Up=true) (hf:iL_ p) (hg:Gen (3-n) y x Gi p) (hp:p.Mine=x.Peer):Stp n x (gZ_ x p).End y Gi Ta Gi Ta:=by
  unfold gZ_
  split
  ·rename_i hl
   split
   ·rename_i hk
    exact BN_ h hv hy hu hf hg hk hl hp
   ·rename_i hk
    have hk2:p.Kind=2∧(0≤p.Seq∧p.Seq≤999999)∧p.Part.size≤20:=by
      rcases hf.2.2.2 with g | g
      ·exact absurd g.1 hk
      ·exact ⟨g.1,g.2.2.2.1,g.2.2.2.2⟩
    have hd:=hg.d hk2.1
    rw [hp,hl] at hd
    have hp0:x.Peer≠0:=by have:=hf.2.1;omega
    obtain ⟨t1,t2,t3,t4⟩:=oq_ (h.2.tk hp0) hk2.2.1.1 hd hk2.2.2 (by have:=n9_ Gi (3-n) x.Peer x.Life;omega)
    refine sp_ h rfl rfl rfl rfl (fun _=>t1) t2 t3 (fun e1 e2 k z hz hh=> ?_)
    rcases B1_ (h.2.tk hp0).V _ _ _ hh with g | g
    ·exact h.2.p3 e1 e2 k z hz g
    ·exact hg.s hk2.1 (by omega) (BZ_ hv hy e1) (by omega) k z hz g.symm
  ·exact sp_ h rfl rfl rfl rfl h.2.tk (Int.le_refl _) (fun _ g=>g) h.2.p3
theorem uN_ (h:Two n x y Gi Ta) (hv:VEnd x) (hy:VEnd y) (hgl:Gi.length≤400) {p:ae_} (hg:x.Up=true→¬p.From=x.Number→Gen (3-n) y x Gi p):Stp n x (eL_ x p).End y Gi Ta Gi Ta:=by
  unfold eL_
  rw [if_pos hv]
  split
  ·rename_i hc
   obtain ⟨c1,c2,c3,c4⟩:=hc
   have hg:=hg c1 c3
   have s1:=vp_ h hv hy c1 hg
   obtain ⟨v1,v2⟩:=vk_ hv c1 c2
   exact s1.trans (B2_ s1.two v1 hy hgl v2 c2 (s1.yours _ hg) (iU_ hv c2 c4).symm)
  ·exact Stp.refl h
theorem Bs_ (h:Two n x y Gi Ta) (hv:VEnd x) (hy:VEnd y):Stp n x (lt_ x) y Gi Ta Gi Ta:=by
  unfold lt_
  rw [if_pos hv]
  obtain ⟨⟨a1,a2,a3,a4,a5,a6,a7,a8,a9⟩,⟨b1,b2,b3,b4,b5,b6,b7,b8,b9⟩⟩:=h
  have hxl:=hv.2.1
  have hyl:=hy.2.1
  have no:∀q:Prop,(false=true→q):=fun q g=>by cases g
  refine ⟨⟨⟨a1,fun r hr e=> ?_,a3,fun hp=>absurd rfl hp,a5,a6,fun e1 _=> ?_,fun e1=> ?_,fun e1=> ?_⟩,⟨?_,b2,fun r hr e=> ?_,b4,fun hp=>absurd rfl hp,b6,fun _ e2=> ?_,fun _ e2=>no _ e2,fun _ e2=> ?_⟩⟩,fun q g=>⟨g.a,fun _=>no _,g.c,g.d,fun _ _=>no _,fun _ _=>no _⟩,fun q g=>⟨g.a,g.b,g.c,g.d,g.w,g.s⟩⟩
  ·rcases a2 r hr e with g | g
   ·exact .inl g
   ·exact .inr ⟨g.1,no _⟩
  ·dsimp only at e1;omega
  ·dsimp only at e1;omega
  ·dsimp only at e1;omega
  ·show 0≤y.Life;omega
  ·rcases b3 r hr e with g | g
   ·exact .inl g
   ·exact .inr ⟨g.1,no _⟩
  ·dsimp only at e2;omega
  ·dsimp only at e2;omega
theorem A5_ (h:Two n x y Gi Ta) (hv:VEnd x) (hy:VEnd y):Stp n x (jn_ x) y Gi Ta Gi Ta:=by
  unfold jn_
  rw [if_pos hv]
  split
  ·exact Stp.refl h
  split
  ·exact Stp.refl h
  obtain ⟨⟨a1,a2,a3,a4,a5,a6,a7,a8,a9⟩,⟨b1,b2,b3,b4,b5,b6,b7,b8,b9⟩⟩:=h
  have hxl:=hv.2.1
  have hyl:=hy.2.1
  refine ⟨⟨⟨?_,fun r hr e=> ?_,a3,fun hp=>absurd rfl hp,a5,a6,fun e1 _=> ?_,fun e1=> ?_,fun e1=> ?_⟩,⟨?_,b2,fun r hr e=> ?_,b4,fun hp=>absurd rfl hp,b6,fun _ e2=> ?_,fun e1 _ _=> ?_,fun _ e2=> ?_⟩⟩,fun q g=>⟨?_,fun e _=> ?_,g.c,g.d,fun _ e=> ?_,fun _ e=> ?_⟩,fun q g=>⟨g.a,g.b, ?_,g.d,g.w,g.s⟩⟩
  ·dsimp only;omega
  ·left
   rcases a2 r hr e with g | g
   ·dsimp only;omega
   ·have:=g.1;dsimp only;omega
  ·dsimp only at e1;omega
  ·dsimp only at e1;omega
  ·dsimp only at e1;omega
  ·show 0≤y.Life;omega
  ·left
   rcases b3 r hr e with g | g
   ·dsimp only;omega
   ·have:=g.1;dsimp only;omega
  ·dsimp only at e2;omega
  ·dsimp only at e1;omega
  ·dsimp only at e2;omega
  ·have:=g.a;dsimp only;omega
  ·have:=g.a;dsimp only at e;omega
  ·have:=g.a;dsimp only at e;omega
  ·have:=g.a;dsimp only at e;omega
  ·have:=g.c;dsimp only;omega
theorem Bm_ (h:Two n x y Gi Ta) (hv:VEnd x) (hy:VEnd y) (hn:1≤n∧n≤2) {t:ByteArray} (hc:(gk_ x t).Code=0):Stp n x (gk_ x t).End y Gi Ta (Gi++[⟨n,x.Life,x.Peer,t⟩]) Ta:=by
  obtain ⟨f1,f2,f3⟩:=ra_ hc
  have hS:=hv.2.2.2.2.1
  have hm:(mk_ x.Send t).1=⟨x.Send.Base,x.Send.Items++(qF_ t).map zS_⟩:=by
    unfold gk_ at hc
    rw [if_pos hv,if_pos f2,if_neg f3] at hc
    unfold mk_ at hc⊢
    split
    ·rename_i g;rw [if_pos g] at hc
     split
     ·rfl
     ·rename_i g2;rw [if_neg g2] at hc;simp at hc
    ·rename_i g;rw [if_neg g] at hc;simp at hc
  rw [f1,hm]
  obtain ⟨⟨a1,a2,a3,a4,a5,a6,a7,a8,a9⟩,⟨b1,b2,b3,b4,b5,b6,b7,b8,b9⟩⟩:=h
  have old:∀A B,iQ_ (Gi++[⟨n,x.Life,x.Peer,t⟩]) (3-n) A B=iQ_ Gi (3-n) A B:=fun A B=>by
    rw [pW_,if_neg (by simp only [kf,DPair.mk.injEq];omega),List.append_nil]
  have grow:∀A B,∃Q,iQ_ (Gi++[⟨n,x.Life,x.Peer,t⟩]) n A B=iQ_ Gi n A B++Q:=fun A B=>⟨_,pW_ _ _ _ _ _⟩
  have new:iQ_ (Gi++[⟨n,x.Life,x.Peer,t⟩]) n x.Life x.Peer=iQ_ Gi n x.Life x.Peer++qF_ t:=by
    have e:(⟨n,x.Life,x.Peer⟩:DPair)=kf ⟨n,x.Life,x.Peer,t⟩:=rfl
    rw [pW_,if_pos e]
  have new? :∀(k:Nat) z,(x.Send.Items++(qF_ t).map zS_)[k]? =some z→x.Send.Items[k]? =some z∨(x.Send.Items.length≤k∧¬z.Has=true∧(qF_ t)[k-x.Send.Items.length]? =some z.Part):=fun k z hz=>by
    rw [List.getElem?_append] at hz
    split at hz
    ·exact .inl hz
    ·rename_i hlt
     rw [List.getElem?_map] at hz
     cases hh:(qF_ t)[k-x.Send.Items.length]? with
     | none=>rw [hh] at hz;cases hz
     | some p=>rw [hh,Option.map_some] at hz;cases hz;exact .inr ⟨by omega,by simp [zS_],rfl⟩
  have hg:∀r,r∈Gi++[(⟨n,x.Life,x.Peer,t⟩:aa_)]→r∈Gi∨r=⟨n,x.Life,x.Peer,t⟩:=fun r hr=>by simpa using hr
  have gd:∀i,(∀A B,∃Q,iQ_ (Gi++[⟨n,x.Life,x.Peer,t⟩]) i A B=iQ_ Gi i A B++Q)→∀q:ae_,(q.Kind=2→(iQ_ Gi i q.Mine q.Yours)[q.Seq.toNat]? =some ⟨q.Part,q.Last⟩)→(q.Kind=2→(iQ_ (Gi++[⟨n,x.Life,x.Peer,t⟩]) i q.Mine q.Yours)[q.Seq.toNat]? =some ⟨q.Part,q.Last⟩):=fun i hi q g hk=>by
    obtain ⟨Q,e⟩:=hi q.Mine q.Yours
    have:=g hk
    rw [e,List.getElem?_append_left (List.getElem?_eq_some_iff.mp this).1];exact this
  refine ⟨⟨⟨a1,fun r hr e=> ?_,a3,fun hp=> ?_,fun hp=> ?_,fun A B=> ?_,fun e1 e2=> ?_,fun e1 e2 e3=> ?_,fun e1 e2 k z hz hh=> ?_⟩,⟨b1,fun r hr e=> ?_,b3,fun hp=> ?_,fun hp=> ?_,fun A B=> ?_,b7,b8,b9⟩⟩,fun q g0=>⟨g0.a,g0.b,g0.c,gd n grow q g0.d,g0.w,fun k1 k2 k3 k4 k z hz hh=> ?_⟩,fun q g=>⟨g.a,g.b,g.c,gd (3-n) (fun A B=>⟨[],by rw [old];simp⟩) q g.d,g.w,g.s⟩⟩
  ·rcases hg r hr with hr | rfl
   ·exact a2 r hr e
   ·exact .inr ⟨rfl,fun _=>Int.le_refl _⟩
  ·obtain ⟨c1,c2⟩:=a4 f3
   dsimp only
   rw [new]
   refine ⟨by simp only [List.length_append,List.length_map];omega,fun k z hz=> ?_⟩
   rcases new? k z hz with g | ⟨g1,g2,g3⟩
   ·have:=c2 k z g
    rw [List.getElem?_append_left (List.getElem?_eq_some_iff.mp this).1];exact this
   ·rw [List.getElem?_append_right (by omega),←g3];congr 1;omega
  ·obtain ⟨Q,e⟩:=grow y.Peer y.Life
   rw [e];exact (a5 hp).app Q
  ·obtain ⟨m,hm⟩:=a6 A B
   rw [bt_]
   split
   ·exact ⟨m++[t],by rw [hm];simp⟩
   ·exact ⟨m,hm⟩
  ·obtain ⟨c1,c2⟩:=a7 e1 e2
   refine ⟨c1,fun k z hz hh=> ?_⟩
   rcases new? k z hz with g | ⟨_,g,_⟩
   ·exact c2 k z g hh
   ·exact absurd hh g
  ·obtain ⟨c1,c2⟩:=a8 e1 e2 e3
   refine ⟨c1,fun k z hz hh=> ?_⟩
   rcases new? k z hz with g | ⟨_,g,_⟩
   ·exact c2 k z g hh
   ·exact absurd hh g
  ·obtain ⟨c1,c2⟩:=a4 f3
   rcases new? k z hz with g | ⟨g,_,_⟩
   ·exact a9 e1 e2 k z g hh
   ·have hp:y.Peer≠0:=by have:=hv.2.1;dsimp only at e2;omega
    have:=B5_ (a5 hp) hh
    dsimp only at e1 e2 this
    rw [e2,←e1] at this
    have:=hS.2.1.1
    omega
  ·rcases hg r hr with hr | rfl
   ·exact b2 r hr e
   ·dsimp only at e;omega
  ·rw [old];exact b4 hp
  ·dsimp only;rw [old];exact b5 hp
  ·obtain ⟨m,hm⟩:=b6 A B
   rw [bt_,if_neg (by simp only [kf,DPair.mk.injEq];omega)]
   exact ⟨m,hm⟩
  ·obtain ⟨c1,c2⟩:=a4 f3
   rcases new? k z hz with g | ⟨g,_,_⟩
   ·exact g0.s k1 k2 k3 k4 k z g hh
   ·have:=g0.d k1
    dsimp only at k2 k4
    rw [k2,k4] at this
    have e1:q.Seq.toNat<x.Send.Base.toNat+x.Send.Items.length:=by rw [c1];exact (List.getElem?_eq_some_iff.mp this).1
    have e2:=hS.2.1.1
    dsimp only at hh
    omega
theorem wO_ (h:Two n x y Gi Ta) (hv:VEnd x) (hy:VEnd y) (hn:1≤n∧n≤2) (hgi:fL_ Gi) (hc:(d8_ x).Code=0):Stp n x (d8_ x).End y Gi Ta Gi (Ta++[⟨3-n,x.Peer,x.Life,(d8_ x).Text⟩]):=by
  obtain ⟨f1,f2,f3⟩:=fa_ hc
  obtain ⟨_,_,hp0,_⟩:=sq_ hv hc
  rw [f1]
  dsimp only
  obtain ⟨⟨a1,a2,a3,a4,a5,a6,a7,a8,a9⟩,⟨b1,b2,b3,b4,b5,b6,b7,b8,b9⟩⟩:=h
  obtain ⟨t1,t2,t3⟩:=tg_ (b5 hp0) f3
  have old:∀A B,aE_ (Ta++[⟨3-n,x.Peer,x.Life,(cy_ x.Take).2.1⟩]) ⟨n,A,B⟩=aE_ Ta ⟨n,A,B⟩:=fun A B=>by
    rw [bt_,if_neg (by simp only [kf,DPair.mk.injEq];omega)]
  have hg:∀r,r∈Ta++[(⟨3-n,x.Peer,x.Life,(cy_ x.Take).2.1⟩:aa_)]→r∈Ta∨r=⟨3-n,x.Peer,x.Life,(cy_ x.Take).2.1⟩:=fun r hr=>by simpa using hr
  have new:aE_ (Ta++[⟨3-n,x.Peer,x.Life,(cy_ x.Take).2.1⟩]) ⟨3-n,x.Peer,x.Life⟩=aE_ Ta ⟨3-n,x.Peer,x.Life⟩++[(cy_ x.Take).2.1]:=by
    have e:(⟨3-n,x.Peer,x.Life⟩:DPair)=kf ⟨3-n,x.Peer,x.Life,(cy_ x.Take).2.1⟩:=rfl
    rw [bt_,if_pos e]
  refine ⟨⟨⟨a1,a2,fun r hr e=> ?_,a4,fun hp=> ?_,fun A B=> ?_,a7,a8,a9⟩,⟨b1,b2,fun r hr e=> ?_,b4,fun hp=> ?_,fun A B=> ?_,fun e1 e2=> ?_,b8,fun e1 e2 k z hz hh=>b9 e1 e2 k z hz (Bt_ (b5 hp0).V _ hh)⟩⟩,fun q g=>⟨g.a,g.b,g.c,g.d,fun k1 k2 k3 k4=> ?_,g.s⟩,fun q g=>⟨g.a,g.b,g.c,g.d,g.w,g.s⟩⟩
  ·rcases hg r hr with hr | rfl
   ·exact a3 r hr e
   ·dsimp only at e;omega
  ·rw [old];exact a5 hp
  ·rw [old];exact a6 A B
  ·rcases hg r hr with hr | rfl
   ·exact b3 r hr e
   ·exact .inr ⟨rfl,fun _=>Int.le_refl _⟩
  ·dsimp only;rw [new];exact t1
  ·by_cases e:A=x.Peer∧B=x.Life
   ·obtain ⟨rfl,rfl⟩:=e
    rw [new]
    obtain ⟨m,hm⟩:=t1.pre (px_ hgi (3-n) x.Peer x.Life)
    exact ⟨(cy_ x.Take).1.Ready++m,by rw [hm];simp⟩
   ·rw [bt_,if_neg (by simp only [kf,DPair.mk.injEq];omega)]
    exact b6 A B
  ·obtain ⟨c1,c2⟩:=b7 e1 e2
   exact ⟨by dsimp only;omega,fun k z hz hz'=>t3 _ (c2 k z hz hz')⟩
  ·obtain ⟨c1,c2⟩:=g.w k1 k2 k3 k4
   exact ⟨by dsimp only;omega,fun k hk=>t3 _ (c2 k hk)⟩
end
end Km.X
namespace Km.X
open Go Km
set_option linter.unusedVariables false
set_option linter.unusedSimpArgs false
def tn_ (l:List an_) (Gi:List aa_) (q:ae_):Prop:=Gen q.From (af_ q.From l) (af_ (3-q.From) l) Gi q
def Snt (l:List an_) (Gi:List aa_) (K:ByteArray) (W:Int) (s:ByteArray):Prop:=∃q,iL_ q∧s=dn_ q K W∧tn_ l Gi q
structure WInv (w:ac_):Prop where
  two:∀n,1≤n∧n≤2→Dir n (af_ n w.Ends) (af_ (3-n) w.Ends) w.Given w.Taken
  fl:∀p∈w.Flight,Snt w.Ends w.Given w.Key w.Width p.Sent
theorem eH_ (n:Int):3-(3-n)=n:=by omega
theorem WInv.pair {w:ac_} (h:WInv w) {n:Int} (hn:1≤n∧n≤2):Two n (af_ n w.Ends) (af_ (3-n) w.Ends) w.Given w.Taken:=by
  refine ⟨h.two n hn, ?_⟩
  have:=h.two (3-n) (by omega)
  rwa [eH_] at this
theorem D1_ {l:List an_} {Gi Ta:List aa_} {n:Int} (hn:1≤n∧n≤2) (h:Two n (af_ n l) (af_ (3-n) l) Gi Ta):∀m,1≤m∧m≤2→Dir m (af_ m l) (af_ (3-m) l) Gi Ta:=fun m hm=>by
  by_cases e:m=n
  ·subst e;exact h.1
  ·have:m=3-n:=by omega
   subst this
   rw [eH_];exact h.2
theorem iX_ {l:List an_} (hl:iO_ l) {Gi Ta Gi' Ta':List aa_} {n:Int} (hn:1≤n∧n≤2) {x':an_} (s:Stp n (af_ n l) x' (af_ (3-n) l) Gi Ta Gi' Ta'):
    (∀m,1≤m∧m≤2→Dir m (af_ m (c1_ n x' l)) (af_ (3-m) (c1_ n x' l)) Gi' Ta')∧∀q:ae_,(1≤q.From∧q.From≤2)→tn_ l Gi q→tn_ (c1_ n x' l) Gi' q:=by
  have e1:af_ n (c1_ n x' l)=x':=by rw [bz_ hl hn hn,if_pos rfl]
  have e2:af_ (3-n) (c1_ n x' l)=af_ (3-n) l:=by rw [bz_ hl hn (by omega),if_neg (by omega)]
  refine ⟨D1_ hn (by rw [e1,e2];exact s.two),fun q hq q3=> ?_⟩
  unfold tn_ at q3⊢
  by_cases e:q.From=n
  ·rw [e] at q3⊢
   rw [e1,e2]
   exact s.mine q q3
  ·have:q.From=3-n:=by omega
   rw [this] at q3⊢
   rw [eH_] at q3⊢
   rw [e1,e2]
   exact s.yours q q3
theorem xO_ {l l':List an_} {Gi Gi':List aa_} (h:∀q:ae_,(1≤q.From∧q.From≤2)→tn_ l Gi q→tn_ l' Gi' q) {K:ByteArray} {W:Int} {b:ByteArray} (g:Snt l Gi K W b):Snt l' Gi' K W b:=by
  obtain ⟨q,q1,q2,q3⟩:=g
  exact ⟨q,q1,q2,h q q1.1 q3⟩
theorem step_end {w:ac_} (hV:au_ w) (h:WInv w) {n:Int} (hn:1≤n∧n≤2) {x':an_} {Gi' Ta':List aa_} (s:Stp n (af_ n w.Ends) x' (af_ (3-n) w.Ends) w.Given w.Taken Gi' Ta') {fl':List ad_} (F':ByteArray)
    (hfl:∀p∈fl',∃p0∈w.Flight,p.Sent=p0.Sent):WInv ⟨w.Key,w.Width,c1_ n x' w.Ends,fl',F',Gi',Ta'⟩:=by
  obtain ⟨a1,a2⟩:=iX_ hV.2.2.2.2.1 hn s
  refine ⟨a1,fun p hp=> ?_⟩
  obtain ⟨p0,h0,e⟩:=hfl p hp
  rw [e]
  exact xO_ a2 (h.fl p0 h0)
theorem jT_ {w:ac_} (h:WInv w) {fl':List ad_} (hfl:∀p∈fl',∃p0∈w.Flight,p.Sent=p0.Sent):WInv (cd_ w fl'):=by
  refine ⟨h.two,fun p hp=> ?_⟩
  obtain ⟨p0,h0,e⟩:=hfl p hp
  show Snt _ _ _ _ p.Sent
  rw [e]
  exact h.fl p0 h0
theorem z1_ {l:List an_} (h:iO_ l) (x y:an_):c1_ 2 y (c1_ 1 x l)=[x,y]:=by
  obtain ⟨e,f,rfl,_⟩:=df_ h
  rfl
theorem wM_ {b:ByteArray} {wd to:Int} {out:List ae_} {fl:List ad_} {p:ad_} (h:p∈v1_ b wd to out fl):p∈fl∨∃q∈out,p=to_ b wd to q:=by
  unfold v1_ at h
  rcases List.mem_append.mp h with h | h
  ·exact .inl h
  ·have:=List.mem_of_mem_take h
   obtain ⟨q,hq,e⟩:=List.mem_map.mp this
   exact .inr ⟨q,hq,e.symm⟩
theorem xE_ {w:ac_} (hV:au_ w) (hD:∀n,1≤n∧n≤2→Dir n (af_ n w.Ends) (af_ (3-n) w.Ends) w.Given w.Taken):
    (∀n,1≤n∧n≤2→Dir n (af_ n (aZ_ w).Ends) (af_ (3-n) (aZ_ w).Ends) w.Given w.Taken)∧(∀q:ae_,(1≤q.From∧q.From≤2)→tn_ w.Ends w.Given q→tn_ (aZ_ w).Ends w.Given q)∧
    ∀n,1≤n∧n≤2→∀q∈(a1_ (af_ n w.Ends)).Out,tn_ (aZ_ w).Ends w.Given q:=by
  have hE:=hV.2.2.2.2.1
  obtain ⟨v1,n1⟩:=a6_ hE (n:=1) (by omega)
  obtain ⟨v2,n2⟩:=a6_ hE (n:=2) (by omega)
  have t1:Two 1 (af_ 1 w.Ends) (af_ 2 w.Ends) w.Given w.Taken:=⟨hD 1 (by omega),hD 2 (by omega)⟩
  have s1:=xa_ t1 v1 v2
  have g1:=wZ_ t1 v1
  obtain ⟨a1,a2⟩:=iX_ hE (n:=1) (x':=(a1_ (af_ 1 w.Ends)).End) (Gi:=w.Given) (Ta:=w.Taken) (Gi':=w.Given) (Ta':=w.Taken) (by omega) s1
  have hE1:iO_ (c1_ 1 (a1_ (af_ 1 w.Ends)).End w.Ends):=pG_ hE (by omega) (sw_ v1) ((oH_ v1).trans n1)
  have e1:af_ 1 (c1_ 1 (a1_ (af_ 1 w.Ends)).End w.Ends)=(a1_ (af_ 1 w.Ends)).End:=by rw [bz_ hE (by omega) (by omega),if_pos rfl]
  have e2:af_ 2 (c1_ 1 (a1_ (af_ 1 w.Ends)).End w.Ends)=af_ 2 w.Ends:=by rw [bz_ hE (by omega) (by omega),if_neg (by omega)]
  have t2:Two 2 (af_ 2 w.Ends) (a1_ (af_ 1 w.Ends)).End w.Given w.Taken:=⟨s1.two.2,s1.two.1⟩
  have s2:=xa_ t2 v2 (sw_ v1)
  have g2:=wZ_ t2 v2
  obtain ⟨b1,b2⟩:=iX_ hE1 (n:=2) (x':=(a1_ (af_ 2 w.Ends)).End) (Gi:=w.Given) (Ta:=w.Taken) (Gi':=w.Given) (Ta':=w.Taken) (by omega) (by
    rw [show (3:Int)-2=1 by omega,e1,e2];exact s2)
  rw [z1_ hE] at b1 b2
  refine ⟨b1,fun q hq g=>b2 q hq (a2 q hq g),fun n hn q hq=> ?_⟩
  have:n=1∨n=2:=by omega
  rcases this with rfl | rfl
  ·have hf:q.From=1:=by rw [(gM_ v1 q hq).2.1,n1]
   refine b2 q (by omega) ?_
   unfold tn_
   rw [hf,show (3:Int)-1=2 by omega,e1,e2]
   exact g1 q hq
  ·have hf:q.From=2:=by rw [(gM_ v2 q hq).2.1,n2]
   show tn_ [(a1_ (af_ 1 w.Ends)).End,(a1_ (af_ 2 w.Ends)).End] w.Given q
   unfold tn_
   rw [hf,show (3:Int)-2=1 by omega]
   exact g2 q hq
theorem xd_ {w:ac_} (hV:au_ w) (h:WInv w):WInv (aZ_ w):=by
  have hE:=hV.2.2.2.2.1
  obtain ⟨t1,t2,t3⟩:=xE_ hV h.two
  refine ⟨t1,fun p hp=> ?_⟩
  change p∈v1_ w.Key w.Width 1 (a1_ (af_ 2 w.Ends)).Out (v1_ w.Key w.Width 2 (a1_ (af_ 1 w.Ends)).Out w.Flight) at hp
  rcases wM_ hp with hp | ⟨q,hq,rfl⟩
  ·rcases wM_ hp with hp | ⟨q,hq,rfl⟩
   ·exact xO_ t2 (h.fl p hp)
   ·exact ⟨q,(gM_ (a6_ hE (n:=1) (by omega)).1 q hq).1,rfl,t3 1 (by omega) q hq⟩
  ·exact ⟨q,(gM_ (a6_ hE (n:=2) (by omega)).1 q hq).1,rfl,t3 2 (by omega) q hq⟩
theorem BO_ {s b:ByteArray} {w:Int} (h:(hd_ s b w).2=true):s≠noB:=fun e=>by
  obtain ⟨_,_,h1,h2,_⟩:=x5_ h
  rw [e,d0_] at h2;omega
theorem hK_ {w:ac_} {p:ad_} (h:(aT_ w p).Forged=noB):w.Forged=noB∧((hd_ p.Bytes w.Key w.Width).2=true→p.Bytes=p.Sent):=by
  unfold aT_ at h
  split at h
  ·rename_i hr
   dsimp only at h
   split at h
   ·exact absurd h (BO_ hr)
   ·rename_i hc
    refine ⟨h,fun _=> ?_⟩
    by_cases e:p.Bytes=p.Sent
    ·exact e
    ·exact absurd ⟨e,h⟩ hc
  ·rename_i hr
   exact ⟨h,fun g=>absurd g hr⟩
theorem oK_ (w:ac_) (n:Int) (t:ByteArray):(mx_ w n t).Forged=w.Forged:=by unfold mx_;split<;>rfl
theorem kO_ (w:ac_) (n:Int):(eb_ w n).Forged=w.Forged:=by unfold eb_;split<;>rfl
theorem t9_ {w:ac_} (hV:au_ w) (h:WInv w) {p:ad_} (hp:vn_ p) (hs:Snt w.Ends w.Given w.Key w.Width p.Sent) (hf:(aT_ w p).Forged=noB):WInv (aT_ w p):=by
  obtain ⟨_,hb⟩:=hK_ hf
  unfold aT_
  split
  ·rename_i hr
   have hb:=hb hr
   obtain ⟨q,q1,q2,q3⟩:=hs
   have hw:=hV.1
   have hk:=hV.2.1
   have hq:hd_ p.Bytes w.Key w.Width=(q,true):=by rw [hb,q2];exact lS_ q1 hw hk
   rw [hq]
   have hE:=hV.2.2.2.2.1
   obtain ⟨v1,n1⟩:=a6_ hE hp.1
   obtain ⟨v2,n2⟩:=a6_ hE (n:=3-p.To) (by have:=hp.1;omega)
   refine step_end hV h hp.1 (uN_ (h.pair hp.1) v1 v2 (by have:=hV.2.2.2.1;omega) (fun _ hne=> ?_)) _ (fun p0 h0=>⟨p0,h0,rfl⟩)
   dsimp only at hne⊢
   have hn1:=hp.1
   have hn2:=q1.1
   have:q.From=3-p.To:=by omega
   unfold tn_ at q3
   rw [this,eH_] at q3
   exact q3
  ·exact h
theorem xy_ {w:ac_} (hV:au_ w) (h:WInv w) {n:Int} (hn:1≤n∧n≤2):WInv (eb_ w n):=by
  unfold eb_
  split
  ·rename_i hc
   have hE:=hV.2.2.2.2.1
   exact step_end hV h hn (wO_ (h.pair hn) (a6_ hE hn).1 (a6_ hE (n:=3-n) (by omega)).1 hn hV.2.2.2.2.2.2.1 hc.2) _ (fun p0 h0=>⟨p0,h0,rfl⟩)
  ·exact h
theorem BE_ {w:ac_} (hV:au_ w) (h:WInv w) {n:Int} (hn:1≤n∧n≤2) (t:ByteArray):WInv (mx_ w n t):=by
  unfold mx_
  split
  ·rename_i hc
   have hE:=hV.2.2.2.2.1
   exact step_end hV h hn (Bm_ (h.pair hn) (a6_ hE hn).1 (a6_ hE (n:=3-n) (by omega)).1 hn hc.2) _ (fun p0 h0=>⟨p0,h0,rfl⟩)
  ·exact h
theorem mw_ {w:ac_} {v:as_} (h:(doW w v).Forged=noB):w.Forged=noB:=by
  unfold doW at h
  split at h
  ·exact h
  split at h
  ·split at h
   ·split at h
    ·unfold hS_ at h
     split at h
     ·exact (hK_ h).1
     ·repeat' split at h
      all_goals exact h
    ·exact h
   ·exact h
  split at h
  ·unfold kU_ at h
   split at h
   ·exact h
   split at h
   ·exact h
   split at h
   ·rwa [oK_] at h
   ·rwa [kO_] at h
  ·exact h
theorem sG_ {w:ac_} (hV:au_ w) (h:WInv w) (v:as_) (hf:(doW w v).Forged=noB):WInv (doW w v):=by
  have hE:=hV.2.2.2.2.1
  unfold doW at hf⊢
  split
  ·exact xd_ hV h
  rename_i k1
  rw [if_neg k1] at hf
  split
  ·rename_i k2
   rw [if_pos k2] at hf
   split
   ·rename_i k3
    rw [if_pos k3] at hf
    split
    ·rename_i p hp
     rw [hp] at hf
     dsimp only at hf
     have hm:=List.mem_of_getElem? hp
     have hvp:=hV.2.2.2.2.2.1 p hm
     have mem:∀i (q:ad_),q.Sent=p.Sent→∀p1∈w.Flight.set i q,∃p0∈w.Flight,p1.Sent=p0.Sent:=fun i q e p1 h1=>by
       rcases List.mem_or_eq_of_mem_set h1 with h' | h'
       ·exact ⟨p1,h',rfl⟩
       ·exact ⟨p,hm,by rw [h',e]⟩
     have era:∀i,∀p1∈w.Flight.eraseIdx i,∃p0∈w.Flight,p1.Sent=p0.Sent:=fun i p1 h1=>⟨p1,List.mem_of_mem_eraseIdx h1,rfl⟩
     unfold hS_ at hf⊢
     split
     ·rename_i k4
      rw [if_pos k4] at hf
      have hel:(w.Flight.eraseIdx v.A.toNat).length≤1000:=by have:=List.length_eraseIdx_le w.Flight v.A.toNat;have:=hV.2.2.1;omega
      exact t9_ (hO_ hV hel (so_ hV.2.2.2.2.2.1 _)) (jT_ h (era _)) hvp (h.fl p hm) hf
     split
     ·split
      ·exact jT_ h (fun p1 h1=>by
         rcases List.mem_append.mp h1 with h1 | h1
         ·exact ⟨p1,h1,rfl⟩
         ·simp only [List.mem_singleton] at h1;exact ⟨p,hm,by rw [h1]⟩)
      ·exact h
     split
     ·exact jT_ h (era _)
     split
     ·split
      ·exact jT_ h (mem _ _ rfl)
      ·exact h
     split
     ·split
      ·exact jT_ h (mem _ _ rfl)
      ·exact h
     ·exact jT_ h (mem _ _ rfl)
    ·exact h
   ·exact h
  rename_i k2
  split
  ·rename_i k3
   have hn:=k3.2
   obtain ⟨v1,n1⟩:=a6_ hE hn
   obtain ⟨v2,n2⟩:=a6_ hE (n:=3-v.A) (by omega)
   unfold kU_
   split
   ·exact step_end hV h hn (Bs_ (h.pair hn) v1 v2) _ (fun p0 h0=>⟨p0,h0,rfl⟩)
   split
   ·exact step_end hV h hn (A5_ (h.pair hn) v1 v2) _ (fun p0 h0=>⟨p0,h0,rfl⟩)
   split
   ·exact BE_ hV h hn _
   ·exact xy_ hV h hn
  ·exact h
theorem CE_ {b:ByteArray} {wd:Int} (hb:b.size≤30) (hw:1≤wd∧wd≤8):WInv (vi_ b wd):=by
  unfold vi_
  rw [if_pos ⟨hw,hb⟩]
  have e:∀m,1≤m∧m≤2→af_ m [yP_ 1,yP_ 2]=yP_ m∧yP_ m=⟨m,true,1,0,0,false,id_,iM_⟩:=fun m hm=>by
    have:m=1∨m=2:=by omega
    rcases this with rfl | rfl<;>exact ⟨rfl,rfl⟩
  refine ⟨fun n hn=> ?_,fun p hp=>by cases hp⟩
  dsimp only
  rw [(e n hn).1,(e (3-n) (by omega)).1,(e n hn).2,(e (3-n) (by omega)).2]
  exact ⟨(by show (0:Int)≤1;omega),fun r hr=>(by cases hr),fun r hr=>(by cases hr),fun h=>absurd rfl h,fun h=>absurd rfl h,fun A B=>⟨[],rfl⟩,fun h=>(by cases h),fun h=>(by cases h),fun h=>(by cases h)⟩
theorem tz_ {f s:Nat} {w:ac_} (h:Reach f s w) (hf:w.Forged=noB):WInv w:=by
  induction h with
  | new h1 h2=>exact CE_ h1 h2
  | step v hw ih=>exact sG_ hw.V (ih (mw_ hf)) v hf
  | more _ _ _ ih=>exact ih hf
theorem xI_ (G:List aa_):∀(t pre:List aa_),(∀r∈t,∃m,aE_ G (kf r)=aE_ (pre++t) (kf r)++m)→ic_ G pre t=true
  | [],pre,h=>rfl
  | r::t,pre,h=>by
    simp only [ic_,Bool.and_eq_true,decide_eq_true_eq]
    refine ⟨?_,xI_ G t (pre++[r]) (fun u hu=>by
      obtain ⟨m,hm⟩:=h u (List.mem_cons_of_mem _ hu)
      exact ⟨m,by rw [hm];simp⟩)⟩
    obtain ⟨m,hm⟩:=h r (List.mem_cons_self ..)
    rw [hm]
    have e:aE_ (pre++r::t) (kf r)=aE_ pre (kf r)++r.Text::aE_ t (kf r):=by
      have:aE_ (pre++r::t) (kf r)=aE_ pre (kf r)++aE_ (r::t) (kf r):=by unfold aE_;rw [List.filter_append,List.map_append]
      rw [this,is_,if_pos rfl]
    rw [e]
    simp
theorem uC_ {w:ac_} (hV:au_ w) (h:WInv w):rQ_ w=true:=by
  unfold rQ_
  rw [decide_eq_true hV,Bool.true_and]
  refine xI_ _ _ _ (fun r hr=> ?_)
  have:=(hV.2.2.2.2.2.2.2 r hr).1
  exact (h.two r.From this).rt r.A r.B
end Km.X
namespace Km.X
open Go Km
set_option linter.unusedVariables false
set_option linter.unusedSimpArgs false
structure MonE (x x':an_):Prop where
  life:x'.Life=x.Life
  up:x'.Up=x.Up
  peer:x.Peer≤x'.Peer
  base:x'.Peer=x.Peer→x.Send.Base≤x'.Send.Base∧x'.Send.Base+x'.Send.Items.length=x.Send.Base+x.Send.Items.length
  next:x'.Peer=x.Peer→x.Take.Next≤x'.Take.Next∧∀s,Had x.Take s→Had x'.Take s
  len:x'.Send.Items.length≤x.Send.Items.length
theorem MonE.refl (x:an_):MonE x x:=⟨rfl,rfl,Int.le_refl _,fun _=>⟨Int.le_refl _,rfl⟩,fun _=>⟨Int.le_refl _,fun _ h=>h⟩,Nat.le_refl _⟩
theorem MonE.trans {x y z:an_} (h:MonE x y) (g:MonE y z):MonE x z:=by
  have h1:=h.peer
  have g1:=g.peer
  refine ⟨g.life.trans h.life,g.up.trans h.up,by omega,fun e=> ?_,fun e=> ?_,Nat.le_trans g.len h.len⟩
  ·obtain ⟨a,b⟩:=h.base (by omega)
   obtain ⟨c,d⟩:=g.base (by omega)
   exact ⟨by omega,by omega⟩
  ·obtain ⟨a,b⟩:=h.next (by omega)
   obtain ⟨c,d⟩:=g.next (by omega)
   exact ⟨by omega,fun s hs=>d s (b s hs)⟩
structure FrzE (x x':an_):Prop where
  since:x'.Since=x.Since
  items:x'.Peer=x.Peer→x'.Send.Base=x.Send.Base→∀(k:Nat) (z:ag_),x'.Send.Items[k]? =some z→∃u,x.Send.Items[k]? =some u∧z.Since=u.Since
theorem FrzE.refl (x:an_):FrzE x x:=⟨rfl,fun _ _ k z hz=>⟨z,hz,rfl⟩⟩
theorem FrzE.trans {x y z:an_} (m1:MonE x y) (m2:MonE y z) (h:FrzE x y) (g:FrzE y z):FrzE x z:=by
  have h1:=m1.peer
  have g1:=m2.peer
  refine ⟨g.since.trans h.since,fun e b k u hu=> ?_⟩
  have b1:=(m1.base (by omega)).1
  have b2:=(m2.base (by omega)).1
  obtain ⟨v,hv,e1⟩:=g.items (by omega) (by omega) k u hu
  obtain ⟨w,hw,e2⟩:=h.items (by omega) (by omega) k v hv
  exact ⟨w,hw,e1.trans e2⟩
theorem ta_ {x:an_} (hv:VEnd x):MonE x (a1_ x).End:=by
  obtain ⟨e1,e2,e3,e4,e5⟩:=fH_ hv
  obtain ⟨g1,g2⟩:=ih_ hv
  refine ⟨e1,e2,by omega,fun _=> ?_,fun _=> ?_, ?_⟩
  ·rcases e5 with e | e<;>rw [e]
   ·rw [g1,g2];exact ⟨Int.le_refl _,rfl⟩
   ·exact ⟨Int.le_refl _,rfl⟩
  ·rw [e4];exact ⟨Int.le_refl _,fun _ h=>h⟩
  ·rcases e5 with e | e<;>rw [e]
   ·rw [g2];exact Nat.le_refl _
   ·exact Nat.le_refl _
theorem s6_ (s:aj_) (hS:VSend s) (n m:Int):s.Base≤(ir_ s n m).Base∧(ir_ s n m).Base+(ir_ s n m).Items.length=s.Base+s.Items.length∧((ir_ s n m).Base=s.Base→∀(k:Nat) (z:ag_),(ir_ s n m).Items[k]? =some z→∃u,s.Items[k]? =some u∧z.Since=u.Since):=by
  unfold ir_
  rw [if_pos hS]
  have hfr:=ja_ s.Items
  split
  ·rename_i hc
   refine ⟨hc.1, ?_,fun e k z hz=> ?_⟩
   ·dsimp only;rw [gX_,List.length_drop];omega
   ·dsimp only at e hz
    rw [e,Int.sub_self,Int.toNat_zero,List.drop_zero,sY_] at hz
    cases hu:s.Items[k]? with
    | none=>rw [hu] at hz;cases hz
    | some u=>
      rw [hu,Option.map_some] at hz
      refine ⟨u,rfl, ?_⟩
      split at hz<;>(cases hz;rfl)
  ·exact ⟨Int.le_refl _,rfl,fun _ k z hz=>⟨z,hz,rfl⟩⟩
theorem Dn_ (x:an_) (p:ae_):MonE x (jM_ x p)∧FrzE x (jM_ x p):=by
  unfold jM_
  split
  ·rename_i h
   refine ⟨⟨rfl,rfl,by dsimp only;omega,fun e=> ?_,fun e=> ?_,Nat.zero_le _⟩,⟨rfl,fun e=> ?_⟩⟩<;>(dsimp only at e;omega)
  ·exact ⟨MonE.refl x,FrzE.refl x⟩
theorem B0_ {x:an_} (hv:VEnd x) {p:ae_} (hf:iL_ p) {P:List aA_} {g:List ByteArray} (hP:P.length≤1000000) (ht:TInv P x.Take g) (hd:p.Kind=2→p.Yours=x.Life→P[p.Seq.toNat]? =some ⟨p.Part,p.Last⟩):
    MonE x (gZ_ x p).End∧FrzE x (gZ_ x p).End:=by
  unfold gZ_
  split
  ·rename_i hl
   split
   ·obtain ⟨a,b,c⟩:=s6_ x.Send hv.2.2.2.2.1 p.Next p.Mask
    exact ⟨⟨rfl,rfl,Int.le_refl _,fun _=>⟨a,b⟩,fun _=>⟨Int.le_refl _,fun _ h=>h⟩,by dsimp only;omega⟩,⟨rfl,fun _ e=>c e⟩⟩
   ·rename_i hk
    have hk2:p.Kind=2∧(0≤p.Seq∧p.Seq≤999999)∧p.Part.size≤20:=by
      rcases hf.2.2.2 with g | g
      ·exact absurd g.1 hk
      ·exact ⟨g.1,g.2.2.2.1,g.2.2.2.2⟩
    obtain ⟨t1,t2,t3,t4⟩:=oq_ ht hk2.2.1.1 (hd hk2.1 hl) hk2.2.2 hP
    exact ⟨⟨rfl,rfl,Int.le_refl _,fun _=>⟨Int.le_refl _,rfl⟩,fun _=>⟨t2,t3⟩,Nat.le_refl _⟩,⟨rfl,fun _ _ k z hz=>⟨z,hz,rfl⟩⟩⟩
  ·exact ⟨⟨rfl,rfl,Int.le_refl _,fun _=>⟨Int.le_refl _,rfl⟩,fun _=>⟨Int.le_refl _,fun _ h=>h⟩,Nat.le_refl _⟩,⟨rfl,fun _ _ k z hz=>⟨z,hz,rfl⟩⟩⟩
theorem Bx_ {n:Int} {x y:an_} {Gi Ta:List aa_} (h:Two n x y Gi Ta) (hv:VEnd x) (hy:VEnd y) (hgl:Gi.length≤400) {p:ae_} (hg:x.Up=true→¬p.From=x.Number→Gen (3-n) y x Gi p):MonE x (eL_ x p).End∧FrzE x (eL_ x p).End:=by
  unfold eL_
  rw [if_pos hv]
  split
  ·rename_i hc
   obtain ⟨c1,c2,c3,c4⟩:=hc
   have hg:=hg c1 c3
   have s1:=vp_ h hv hy c1 hg
   obtain ⟨v1,v2⟩:=vk_ hv c1 c2
   have hpe:=iU_ hv c2 c4
   have hp0:(jM_ x p).Peer≠0:=by have:=c2.2.1;omega
   obtain ⟨m1,f1⟩:=Dn_ x p
   obtain ⟨m2,f2⟩:=B0_ v1 c2 (by have:=n9_ Gi (3-n) (jM_ x p).Peer (jM_ x p).Life;omega) (s1.two.2.tk hp0) (fun hk hl=>by
     have:=hg.d hk
     rw [hl,←hpe] at this;exact this)
   exact ⟨m1.trans m2,f1.trans m1 m2 f2⟩
  ·exact ⟨MonE.refl x,FrzE.refl x⟩
theorem BY_ {n:Int} {x y:an_} {Gi Ta:List aa_} (h:Two n x y Gi Ta) (hv:VEnd x) (hc:(d8_ x).Code=0):MonE x (d8_ x).End∧FrzE x (d8_ x).End:=by
  obtain ⟨f1,f2,f3⟩:=fa_ hc
  obtain ⟨_,_,hp0,_⟩:=sq_ hv hc
  obtain ⟨t1,t2,t3⟩:=tg_ (h.2.tk hp0) f3
  rw [f1]
  exact ⟨⟨rfl,rfl,Int.le_refl _,fun _=>⟨Int.le_refl _,rfl⟩,fun _=>⟨t2,t3⟩,Nat.le_refl _⟩,⟨rfl,fun _ _ k z hz=>⟨z,hz,rfl⟩⟩⟩
def Keeps (x x':an_):Prop:=x.Up=true→x'.Up=true→x.Life=x'.Life→x.Peer=x'.Peer→x.Send.Base≤x'.Send.Base∧x.Take.Next≤x'.Take.Next
theorem MonE.keeps {x x':an_} (h:MonE x x'):Keeps x x':=fun _ _ _ e=>⟨(h.base e.symm).1,(h.next e.symm).1⟩
theorem Keeps.refl (x:an_):Keeps x x:=fun _ _ _ _=>⟨Int.le_refl _,Int.le_refl _⟩
end Km.X
namespace Km.X
open Go Km
set_option linter.unusedVariables false
set_option linter.unusedSimpArgs false
def pot (A:Int→Int) (Gi:List aa_) (n:Int) (x:an_):Nat:=
  if x.Peer=A (3-n) then x.Take.Ready.length+((iQ_ Gi (3-n) (A (3-n)) (A n)).length-x.Take.Next.toNat)
  else x.Take.Ready.length+x.Take.Held.length+(iQ_ Gi (3-n) (A (3-n)) (A n)).length
theorem n3_:∀(h:List ak_) (n:Int) (o:ByteArray) (r:List ByteArray),((d4_ h n o r).Ready.length:Int)+n≤r.length+(d4_ h n o r).Next∧(d4_ h n o r).Ready.length+(d4_ h n o r).Held.length≤r.length+h.length
  | [],n,o,r=>⟨Int.le_refl _,Nat.le_refl _⟩
  | x::t,n,o,r=>by
    simp only [d4_]
    split
    ·split
     ·have:=n3_ t (n+1) noB (r++[o++x.Part.Text])
      simp only [List.length_append,List.length_cons,List.length_nil] at this⊢
      omega
     ·have:=n3_ t (n+1) (o++x.Part.Text) r
      simp only [List.length_cons] at this⊢
      omega
    ·exact ⟨Int.le_refl _,Nat.le_refl _⟩
theorem Bf_ {t:ai_} (hv:VTake t) (q:Int) (p:aA_):((iS_ t q p).Ready.length:Int)+t.Next≤t.Ready.length+(iS_ t q p).Next:=by
  unfold iS_
  rw [if_pos hv]
  split
  ·cases nw_ q p t.Held with
   | none=>exact Int.le_refl _
   | some h=>exact (n3_ _ _ _ _).1
  ·exact Int.le_refl _
theorem xx_ {t:ai_} (hv:VTake t) (h:(cy_ t).2.2=true):((cy_ t).1.Ready.length:Int)+1+t.Next≤t.Ready.length+(cy_ t).1.Next∧(cy_ t).1.Ready.length+(cy_ t).1.Held.length+1≤t.Ready.length+t.Held.length:=by
  cases hR:t.Ready with
  | nil=>rw [pK_ hv hR] at h;cases h
  | cons s rs=>
    unfold cy_
    rw [if_pos hv,hR]
    have:=n3_ t.Held t.Next t.Open rs
    simp only [List.length_cons]
    omega
structure Core0 (A:Int→Int) (Gi:List aa_) (w:ac_):Prop where
  V:au_ w
  D:∀n,1≤n∧n≤2→Dir n (af_ n w.Ends) (af_ (3-n) w.Ends) w.Given w.Taken
  F:w.Forged=noB
  G:w.Given=Gi
  up:∀n,1≤n∧n≤2→(af_ n w.Ends).Up=true∧(af_ n w.Ends).Life=A n
structure gV_ (S:Nat) (A:Int→Int) (Gi:List aa_) (w:ac_):Prop extends Core0 A Gi w where
  room:Gi.length+w.Taken.length+pot A Gi 1 (af_ 1 w.Ends)+pot A Gi 2 (af_ 2 w.Ends)≤S
  cap:S≤400
structure he_ (A:Int→Int) (w:ac_) (p:ad_) (q:ae_):Prop where
  eq:p.Bytes=p.Sent
  fit:iL_ q
  snt:p.Sent=dn_ q w.Key w.Width
  to:p.To=3-q.From
  mine:q.Mine=A q.From
  gen:tn_ w.Ends w.Given q
  near:q.Kind=2→q.Yours=A (3-q.From)→((af_ (3-q.From) w.Ends).Peer=A q.From→q.Seq≤(af_ (3-q.From) w.Ends).Take.Next+7)∧(¬(af_ (3-q.From) w.Ends).Peer=A q.From→q.Seq≤7)
def Mon (w w':ac_):Prop:=∀n,1≤n∧n≤2→MonE (af_ n w.Ends) (af_ n w'.Ends)
def Frz (w w':ac_):Prop:=∀n,1≤n∧n≤2→FrzE (af_ n w.Ends) (af_ n w'.Ends)
theorem Mon.refl (w:ac_):Mon w w:=fun n _=>MonE.refl _
theorem Mon.trans {w x y:ac_} (h:Mon w x) (g:Mon x y):Mon w y:=fun n hn=>(h n hn).trans (g n hn)
theorem Frz.refl (w:ac_):Frz w w:=fun n _=>FrzE.refl _
theorem Frz.trans {w x y:ac_} (m1:Mon w x) (m2:Mon x y) (h:Frz w x) (g:Frz x y):Frz w y:=fun n hn=>FrzE.trans (m1 n hn) (m2 n hn) (h n hn) (g n hn)
section
variable {S:Nat} {A:Int→Int} {Gi:List aa_} {w:ac_}
theorem Core0.pair (h:Core0 A Gi w) {n:Int} (hn:1≤n∧n≤2):Two n (af_ n w.Ends) (af_ (3-n) w.Ends) w.Given w.Taken:=by
  refine ⟨h.D n hn, ?_⟩
  have:=h.D (3-n) (by omega)
  rwa [eH_] at this
theorem Core0.ve (h:Core0 A Gi w) {n:Int} (hn:1≤n∧n≤2):VEnd (af_ n w.Ends):=(a6_ h.V.2.2.2.2.1 hn).1
theorem Core0.num (h:Core0 A Gi w) {n:Int} (hn:1≤n∧n≤2):(af_ n w.Ends).Number=n:=(a6_ h.V.2.2.2.2.1 hn).2
theorem Core0.peer (h:Core0 A Gi w) {n:Int} (hn:1≤n∧n≤2):(af_ n w.Ends).Peer≤A (3-n):=by
  have:=(h.D (3-n) (by omega)).pe
  rw [eH_,(h.up (3-n) (by omega)).2] at this
  exact this
theorem Core0.pos (h:Core0 A Gi w) {n:Int} (hn:1≤n∧n≤2):1≤A n:=by
  have:=(h.ve hn).2.1
  rw [(h.up n hn).2] at this
  exact this.1
theorem Core0.glen (h:Core0 A Gi w):w.Given.length≤400:=by have:=h.V.2.2.2.1;omega
theorem z2_ {w':ac_} (h:∀m,1≤m∧m≤2→pot A Gi m (af_ m w'.Ends)≤pot A Gi m (af_ m w.Ends)):pot A Gi 1 (af_ 1 w'.Ends)+pot A Gi 2 (af_ 2 w'.Ends)≤pot A Gi 1 (af_ 1 w.Ends)+pot A Gi 2 (af_ 2 w.Ends):=by
  have:=h 1 (by omega);have:=h 2 (by omega);omega
theorem EJ_ (h:gV_ S A Gi w) {w':ac_} (h':gV_ S A Gi w') (m:Mon w w') {n:Int} (hn:1≤n∧n≤2) (hp:(af_ n w.Ends).Peer=A (3-n)):(af_ n w'.Ends).Peer=A (3-n):=by
  have:=(m n hn).peer
  have:=h'.peer hn
  omega
theorem xW_ (h:gV_ S A Gi w) {w':ac_} (h':gV_ S A Gi w') (hk:w'.Key=w.Key) (hw:w'.Width=w.Width) (hg:∀q:ae_,(1≤q.From∧q.From≤2)→tn_ w.Ends w.Given q→tn_ w'.Ends w'.Given q) (hm:Mon w w') {p:ad_} {q:ae_} (f:he_ A w p q):he_ A w' p q:=by
  have hq:=f.fit.1
  refine ⟨f.eq,f.fit,by rw [hk,hw];exact f.snt,f.to,f.mine,hg q hq f.gen,fun k1 k2=> ?_⟩
  obtain ⟨n1,n2⟩:=f.near k1 k2
  have hn:1≤3-q.From∧3-q.From≤2:=by omega
  have hpe:=(hm _ hn).peer
  have hpa:=h'.peer hn
  rw [eH_] at hpa
  refine ⟨fun e=> ?_,fun e=> ?_⟩
  ·by_cases e0:(af_ (3-q.From) w.Ends).Peer=A q.From
   ·have:=n1 e0
    have:=((hm _ hn).next (by omega)).1
    omega
   ·have:=n2 e0
    have:=(h'.ve hn).2.2.2.2.2.1.1.1
    omega
  ·exact n2 (fun e0=>e (by omega))
theorem tf_ (h:gV_ S A Gi w) {p:ad_} {q:ae_} (f:he_ A w p q):aT_ w p=r6_ w (3-q.From) (eL_ (af_ (3-q.From) w.Ends) q).End:=by
  have hq:hd_ p.Bytes w.Key w.Width=(q,true):=by rw [f.eq,f.snt];exact lS_ f.fit h.V.1 h.V.2.1
  unfold aT_
  rw [hq,if_pos rfl,f.to,if_neg (fun g=>g.1 f.eq)]
  rfl
theorem BI_ {n:Int} {x y:an_} {Ta:List aa_} (h:Two n x y Gi Ta) (hv:VEnd x) (hy:VEnd y) (hgl:Gi.length≤400) (hl:x.Life=A n) (hpl:x.Peer≤A (3-n)) {q:ae_} (hm:q.Mine=A (3-n)) (hg:Gen (3-n) y x Gi q):pot A Gi n (eL_ x q).End≤pot A Gi n x:=by
  unfold eL_
  rw [if_pos hv]
  split
  ·rename_i hc
   obtain ⟨c1,c2,c3,c4⟩:=hc
   have s1:=vp_ h hv hy c1 hg
   obtain ⟨v1,v2⟩:=vk_ hv c1 c2
   have hpe:=iU_ hv c2 c4
   have hl1:(jM_ x q).Life=A n:=by rw [(uE_ x q).1,hl]
   have hp0:(jM_ x q).Peer≠0:=by have:=c2.2.1;omega
   have k1:pot A Gi n (jM_ x q)≤pot A Gi n x:=by
     unfold jM_
     split
     ·unfold pot
      dsimp only
      rw [if_pos hm,if_neg (by omega)]
      simp only [iM_,List.length_nil]
      omega
     ·exact Nat.le_refl _
   refine Nat.le_trans ?_ k1
   unfold gZ_
   split
   ·rename_i hl2
    split
    ·exact Nat.le_refl _
    ·rename_i hk
     have hk2:q.Kind=2∧(0≤q.Seq∧q.Seq≤999999)∧q.Part.size≤20:=by
       rcases c2.2.2.2 with g | g
       ·exact absurd g.1 hk
       ·exact ⟨g.1,g.2.2.2.1,g.2.2.2.2⟩
     have hd:=(s1.yours q hg).d hk2.1
     rw [hl2,←hpe] at hd
     have tk:=s1.two.2.tk hp0
     obtain ⟨t1,t2,t3,t4⟩:=oq_ tk hk2.2.1.1 hd hk2.2.2 (by have:=n9_ Gi (3-n) (jM_ x q).Peer (jM_ x q).Life;omega)
     have hN:=t1.N
     have hpo:=Bf_ tk.V q.Seq ⟨q.Part,q.Last⟩
     have hn0:=tk.V.1.1
     rw [hpe,hm,hl1] at hN
     unfold pot
     dsimp only
     rw [if_pos (by rw [hpe,hm]),if_pos (by rw [hpe,hm])]
     omega
   ·exact Nat.le_refl _
  ·exact Nat.le_refl _
theorem h3_ (h:gV_ S A Gi w) {p:ad_} {q:ae_} (f:he_ A w p q):gV_ S A Gi (aT_ w p)∧Mon w (aT_ w p)∧Frz w (aT_ w p)∧(∀p' q',he_ A w p' q'→he_ A (aT_ w p) p' q'):=by
  rw [tf_ h f]
  have hq:=f.fit.1
  have hn:1≤3-q.From∧3-q.From≤2:=by omega
  have hE:=h.V.2.2.2.2.1
  have v1:=h.ve hn
  have v2:=h.ve (n:=3-(3-q.From)) (by omega)
  have t:=h.pair hn
  have hgen:Gen (3-(3-q.From)) (af_ (3-(3-q.From)) w.Ends) (af_ (3-q.From) w.Ends) w.Given q:=by rw [eH_];exact f.gen
  obtain ⟨a1,a2⟩:=iX_ hE hn (uN_ t v1 v2 h.glen (fun _ _=>hgen))
  obtain ⟨m1,m2⟩:=Bx_ t v1 v2 h.glen (p:=q) (fun _ _=>hgen)
  have hm:Mon w (r6_ w (3-q.From) (eL_ (af_ (3-q.From) w.Ends) q).End):=fun m hm=>by
    show MonE _ (af_ m (c1_ (3-q.From) _ w.Ends))
    rw [bz_ hE hn hm]
    split
    ·rename_i e;rw [e];exact m1
    ·exact MonE.refl _
  have hc:gV_ S A Gi (r6_ w (3-q.From) (eL_ (af_ (3-q.From) w.Ends) q).End):=by
    refine ⟨⟨vE_ h.V hn (zM_ _ v1) ((tP_ _ v1).trans (h.num hn)),a1,h.F,h.G,fun m hmm=> ?_⟩, ?_,h.cap⟩
    ·have:=hm m hmm
     exact ⟨this.up.trans (h.up m hmm).1,this.life.trans (h.up m hmm).2⟩
    ·refine Nat.le_trans ?_ h.room
     have:pot A Gi 1 (af_ 1 (r6_ w (3-q.From) (eL_ (af_ (3-q.From) w.Ends) q).End).Ends)+pot A Gi 2 (af_ 2 (r6_ w (3-q.From) (eL_ (af_ (3-q.From) w.Ends) q).End).Ends)≤pot A Gi 1 (af_ 1 w.Ends)+pot A Gi 2 (af_ 2 w.Ends):=by
       refine z2_ (fun m hmm=> ?_)
       show pot A Gi m (af_ m (c1_ (3-q.From) _ w.Ends))≤_
       rw [bz_ hE hn hmm]
       split
       ·rename_i e
        rw [e]
        have t':=t
        rw [h.G] at t' hgen
        exact BI_ t' v1 v2 (by have:=h.glen;rw [h.G] at this;exact this) (h.up _ hn).2 (h.peer hn) (by rw [eH_];exact f.mine) hgen
       ·exact Nat.le_refl _
     show Gi.length+w.Taken.length+_+_≤_
     omega
  refine ⟨hc,hm,fun m hmm=> ?_,fun p' q' f'=>xW_ h hc rfl rfl a2 hm f'⟩
  show FrzE _ (af_ m (c1_ (3-q.From) _ w.Ends))
  rw [bz_ hE hn hmm]
  split
  ·rename_i e;rw [e];exact m2
  ·exact FrzE.refl _
theorem l6_ {x:an_} (hv:VEnd x) (hu:x.Up=true) (hr:x.Take.Ready≠[]):(d8_ x).Code=0:=by
  unfold d8_
  rw [if_pos hv,if_pos hu]
  cases hR:x.Take.Ready with
  | nil=>exact absurd hR hr
  | cons s rs=>rw [if_pos (by unfold cy_;rw [if_pos hv.2.2.2.2.2.1,hR])]
theorem CT_ {x:an_} (hv:VEnd x) (hu:x.Up=true) (hr:x.Take.Ready=[]):¬(d8_ x).Code=0:=by
  unfold d8_
  rw [if_pos hv,if_pos hu,pK_ hv.2.2.2.2.2.1 hr]
  simp
theorem uH_ (h:gV_ S A Gi w) {n:Int} (hn:1≤n∧n≤2) (hr:(af_ n w.Ends).Take.Ready≠[]):w.Given.length+w.Taken.length<400:=by
  have h1:=h.room
  have hcap:=h.cap
  have hp:1≤pot A Gi n (af_ n w.Ends):=by
    have:1≤(af_ n w.Ends).Take.Ready.length:=by
      cases hR:(af_ n w.Ends).Take.Ready with
      | nil=>exact absurd hR hr
      | cons s rs=>simp
    unfold pot
    split<;>omega
  rw [h.G]
  have:n=1∨n=2:=by omega
  rcases this with rfl | rfl<;>omega
theorem wD_ (h:gV_ S A Gi w) {n:Int} (hn:1≤n∧n≤2) (hr:(af_ n w.Ends).Take.Ready≠[]):
    eb_ w n=⟨w.Key,w.Width,c1_ n (d8_ (af_ n w.Ends)).End w.Ends,w.Flight,w.Forged,w.Given,w.Taken++[⟨3-n,(af_ n w.Ends).Peer,(af_ n w.Ends).Life,(d8_ (af_ n w.Ends)).Text⟩]⟩:=by
  unfold eb_
  rw [if_pos ⟨uH_ h hn hr,l6_ (h.ve hn) (h.up n hn).1 hr⟩]
theorem u7_ (h:gV_ S A Gi w) {n:Int} (hn:1≤n∧n≤2) (hr:(af_ n w.Ends).Take.Ready=[]):eb_ w n=w:=by
  unfold eb_
  rw [if_neg (fun g=>CT_ (h.ve hn) (h.up n hn).1 hr g.2)]
theorem Ak_ {n:Int} {x y:an_} {Ta:List aa_} (h:Two n x y Gi Ta) (hv:VEnd x) (hl:x.Life=A n) (hc:(d8_ x).Code=0):pot A Gi n (d8_ x).End+1≤pot A Gi n x:=by
  obtain ⟨f1,f2,f3⟩:=fa_ hc
  obtain ⟨_,_,hp0,_⟩:=sq_ hv hc
  have tk:=h.2.tk hp0
  obtain ⟨t1,t2,t3⟩:=tg_ tk f3
  obtain ⟨p1,p2⟩:=xx_ hv.2.2.2.2.2.1 f3
  have hN:=t1.N
  have hn0:=hv.2.2.2.2.2.1.1.1
  rw [f1]
  unfold pot
  dsimp only
  split
  ·rename_i e
   rw [e,hl] at hN
   omega
  ·omega
theorem l1_ (h:gV_ S A Gi w) {n:Int} (hn:1≤n∧n≤2):gV_ S A Gi (eb_ w n)∧Mon w (eb_ w n)∧Frz w (eb_ w n):=by
  by_cases hr:(af_ n w.Ends).Take.Ready=[]
  ·rw [u7_ h hn hr];exact ⟨h,Mon.refl w,Frz.refl w⟩
  have hV:=mv_ h.V hn
  have hE:=h.V.2.2.2.2.1
  have v1:=h.ve hn
  have hc:=l6_ v1 (h.up n hn).1 hr
  have hroom:=uH_ h hn hr
  rw [wD_ h hn hr] at hV⊢
  have t:=h.pair hn
  obtain ⟨a1,a2⟩:=iX_ hE hn (wO_ t v1 (h.ve (n:=3-n) (by omega)) hn h.V.2.2.2.2.2.2.1 hc)
  obtain ⟨m1,m2⟩:=BY_ t v1 hc
  have hm:∀m,1≤m∧m≤2→MonE (af_ m w.Ends) (af_ m (c1_ n (d8_ (af_ n w.Ends)).End w.Ends)):=fun m hm=>by
    rw [bz_ hE hn hm]
    split
    ·rename_i e;rw [e];exact m1
    ·exact MonE.refl _
  refine ⟨⟨⟨hV,a1,h.F,h.G,fun m hmm=> ?_⟩, ?_,h.cap⟩,hm,fun m hmm=> ?_⟩
  ·have:=hm m hmm
   exact ⟨this.up.trans (h.up m hmm).1,this.life.trans (h.up m hmm).2⟩
  ·have hp:pot A Gi n (d8_ (af_ n w.Ends)).End+1≤pot A Gi n (af_ n w.Ends):=by
     have t':=t
     rw [h.G] at t'
     exact Ak_ t' v1 (h.up n hn).2 hc
   have hroom:=h.room
   simp only [List.length_append,List.length_cons,List.length_nil]
   rw [bz_ hE hn (by omega),bz_ hE hn (by omega)]
   have:n=1∨n=2:=by omega
   rcases this with rfl | rfl
   ·rw [if_pos rfl,if_neg (by omega)];omega
   ·rw [if_neg (by omega),if_pos rfl];omega
  ·show FrzE _ (af_ m (c1_ n _ w.Ends))
   rw [bz_ hE hn hmm]
   split
   ·rename_i e;rw [e];exact m2
   ·exact FrzE.refl _
theorem dh_ {n:Int} (hn:1≤n∧n≤2):∀(d:Nat) {w:ac_},gV_ S A Gi w→gV_ S A Gi (a5_ n d w)∧Mon w (a5_ n d w)∧Frz w (a5_ n d w)
  | 0,w,h=>⟨h,Mon.refl w,Frz.refl w⟩
  | d+1,w,h=>by
    simp only [a5_]
    split
    ·exact ⟨h,Mon.refl w,Frz.refl w⟩
    ·obtain ⟨a,b,c⟩:=l1_ h hn
     obtain ⟨a',b',c'⟩:=dh_ hn d a
     exact ⟨a',b.trans b',Frz.trans b b' c c'⟩
theorem hG_ (w:ac_) {n:Int} (hn:1≤n∧n≤2):af_ n (aZ_ w).Ends=(a1_ (af_ n w.Ends)).End:=by
  have:n=1∨n=2:=by omega
  rcases this with rfl | rfl<;>rfl
theorem sc_ {w:ac_} (h:au_ w) (hf:w.Flight=[]) (p:ad_):p∈(aZ_ w).Flight↔∃n q,(1≤n∧n≤2)∧q∈(a1_ (af_ n w.Ends)).Out∧p=to_ w.Key w.Width (3-n) q:=by
  have hE:=h.2.2.2.2.1
  have l1:=ib_ (a6_ hE (n:=1) (by omega)).1
  have l2:=ib_ (a6_ hE (n:=2) (by omega)).1
  have e:(aZ_ w).Flight=(a1_ (af_ 1 w.Ends)).Out.map (to_ w.Key w.Width 2)++(a1_ (af_ 2 w.Ends)).Out.map (to_ w.Key w.Width 1):=by
    show v1_ _ _ _ _ (v1_ _ _ _ _ w.Flight)=_
    unfold v1_
    rw [hf]
    simp only [List.nil_append,List.length_nil,List.length_take,List.length_map]
    rw [List.take_of_length_le (by simp;omega),List.take_of_length_le (by simp;omega)]
  rw [e,List.mem_append]
  constructor
  ·rintro (g | g)
   ·obtain ⟨q,hq,rfl⟩:=List.mem_map.mp g
    exact ⟨1,q,by omega,hq,rfl⟩
   ·obtain ⟨q,hq,rfl⟩:=List.mem_map.mp g
    exact ⟨2,q,by omega,hq,rfl⟩
  ·rintro ⟨n,q,hn,hq,rfl⟩
   have:n=1∨n=2:=by omega
   rcases this with rfl | rfl
   ·exact .inl (List.mem_map.mpr ⟨q,hq,rfl⟩)
   ·exact .inr (List.mem_map.mpr ⟨q,hq,rfl⟩)
theorem jB_ (h:gV_ S A Gi w) (hf:w.Flight=[]):gV_ S A Gi (cd_ (aZ_ w) [])∧Mon w (cd_ (aZ_ w) [])∧∀p∈(aZ_ w).Flight,∃q,he_ A (cd_ (aZ_ w) []) p q:=by
  obtain ⟨t1,t2,t3⟩:=xE_ h.V h.D
  have hm:Mon w (cd_ (aZ_ w) []):=fun n hn=>by
    show MonE _ (af_ n (aZ_ w).Ends)
    rw [hG_ w hn]
    exact ta_ (h.ve hn)
  have hc:gV_ S A Gi (cd_ (aZ_ w) []):=by
    refine ⟨⟨pX_ (jD_ h.V),t1,h.F,h.G,fun m hmm=> ?_⟩, ?_,h.cap⟩
    ·have:=hm m hmm
     exact ⟨this.up.trans (h.up m hmm).1,this.life.trans (h.up m hmm).2⟩
    ·refine Nat.le_trans ?_ h.room
     have:pot A Gi 1 (af_ 1 (cd_ (aZ_ w) []).Ends)+pot A Gi 2 (af_ 2 (cd_ (aZ_ w) []).Ends)≤pot A Gi 1 (af_ 1 w.Ends)+pot A Gi 2 (af_ 2 w.Ends):=z2_ (fun m hmm=>by
       show pot A Gi m (af_ m (aZ_ w).Ends)≤_
       rw [hG_ w hmm]
       obtain ⟨e1,e2,e3,e4,e5⟩:=fH_ (h.ve hmm)
       unfold pot
       rw [e3,e4]
       exact Nat.le_refl _)
     show Gi.length+w.Taken.length+_+_≤_
     omega
  refine ⟨hc,hm,fun p hp=> ?_⟩
  obtain ⟨n,q,hn,hq,rfl⟩:=(sc_ h.V hf p).mp hp
  have v:=h.ve hn
  obtain ⟨f1,f2,f3,f4⟩:=gM_ v q hq
  have hfr:q.From=n:=f2.trans (h.num hn)
  refine ⟨q,rfl,f1,rfl,by rw [hfr];rfl,by rw [f3,hfr,(h.up n hn).2],t3 n hn q hq,fun k1 k2=> ?_⟩
  have hn3:1≤3-n∧3-n≤2:=by omega
  rw [hfr] at k2⊢
  show ((af_ (3-n) (aZ_ w).Ends).Peer=A n→q.Seq≤(af_ (3-n) (aZ_ w).Ends).Take.Next+7)∧(¬(af_ (3-n) (aZ_ w).Ends).Peer=A n→q.Seq≤7)
  rw [hG_ w hn3]
  obtain ⟨e1,e2,e3,e4,e5⟩:=fH_ (h.ve hn3)
  rw [e3,e4]
  have hseq:q.Seq≤(af_ n w.Ends).Send.Base+7:=by
    rcases (w5_ v q hq).2 with o | ⟨o1,o2,o3,o4⟩
    ·omega
    ·unfold bm_ at o3
     rw [if_neg o1] at o3
     unfold hT_ at o3
     rw [if_pos v.2.2.2.2.1] at o3
     obtain ⟨k,x,_,g2,g3,_⟩:=mH_ _ _ _ _ o3
     omega
  have hd:=h.D n hn
  have hl3:=(h.up (3-n) hn3).2
  have hl:=(h.up n hn).2
  have hpe:(af_ n w.Ends).Peer=(af_ (3-n) w.Ends).Life:=by rw [←f4,k2,hl3]
  refine ⟨fun e=> ?_,fun e=> ?_⟩
  ·have:=(hd.p1 hpe (by rw [e,hl])).1
   omega
  ·have:=(hd.p2 hpe (h.up (3-n) hn3).1 (by rw [hl];exact e)).1
   omega
theorem fE_ {ev:Int}:∀(t:List ad_) (k:List DKey) {w:ac_},gV_ S A Gi w→(∀p∈t,∃q,he_ A w p q)→gV_ S A Gi (bR_ ev t k w).1∧Mon w (bR_ ev t k w).1∧Frz w (bR_ ev t k w).1
  | [],k,w,h,_=>⟨h,Mon.refl w,Frz.refl w⟩
  | p::t,k,w,h,hf=>by
    simp only [bR_]
    split
    ·obtain ⟨q,fq⟩:=hf p (List.mem_cons_self ..)
     obtain ⟨a,b,c,d⟩:=h3_ h fq
     obtain ⟨a',b',c'⟩:=fE_ (ev:=ev) t (k++[pk p]) a (fun p' hp'=>by
       obtain ⟨q',fq'⟩:=hf p' (List.mem_cons_of_mem _ hp')
       exact ⟨q',d p' q' fq'⟩)
     exact ⟨a',b.trans b',Frz.trans b b' c c'⟩
    ·exact fE_ (ev:=ev) t (k++[pk p]) h (fun p' hp'=>hf p' (List.mem_cons_of_mem _ hp'))
theorem AU_ {c ev:Int} (h:1≤ev∧ev≤10) (hc:0≤c):(c+1)%ev=0∨(c+1)%ev=c%ev+1:=by
  have:ev=1∨ev=2∨ev=3∨ev=4∨ev=5∨ev=6∨ev=7∨ev=8∨ev=9∨ev=10:=by omega
  rcases this with rfl | rfl | rfl | rfl | rfl | rfl | rfl | rfl | rfl | rfl<;>omega
def Bp_ (S:Nat) (A:Int→Int) (Gi:List aa_) (Z:ac_→Prop):Prop:=∀w w',gV_ S A Gi w→gV_ S A Gi w'→Mon w w'→Z w→Z w'
theorem xi_ {ev:Int} (hev:1≤ev∧ev≤10) {Z:ac_→Prop} (st:Bp_ S A Gi Z) {key:DKey}:∀(t:List ad_) (k:List DKey) {w:ac_},gV_ S A Gi w→(∀p∈t,∃q,he_ A w p q)→
    (∀w' p q,gV_ S A Gi w'→he_ A w' p q→Mon w w'→w'.Key=w.Key∧w'.Width=w.Width→pk p=key→Z (aT_ w' p))→
    Z (bR_ ev t k w).1∨((cG_ (bR_ ev t k w).2 key:Nat):Int)%ev=(cG_ k key:Nat)%ev+((t.filter (fun p=>decide (pk p=key))).length:Nat)
  | [],k,w,h,_,_=> .inr (by simp [bR_])
  | p::t,k,w,h,hf,hit=>by
    simp only [bR_]
    obtain ⟨q,fq⟩:=hf p (List.mem_cons_self ..)
    have step:∀w',gV_ S A Gi w'→(∀p∈t,∃q,he_ A w' p q)→Mon w w'→w'.Key=w.Key∧w'.Width=w.Width→Z (bR_ ev t (k++[pk p]) w').1∨((cG_ (bR_ ev t (k++[pk p]) w').2 key:Nat):Int)%ev=(cG_ (k++[pk p]) key:Nat)%ev+((t.filter (fun p=>decide (pk p=key))).length:Nat):=fun w' h' hf' m e=>
      xi_ hev st t _ h' hf' (fun w'' p' q' a b m' c d=>hit w'' p' q' a b (m.trans m') ⟨c.1.trans e.1,c.2.trans e.2⟩ d)
    have hf0:∀p∈t,∃q,he_ A w p q:=fun p' hp'=>hf p' (List.mem_cons_of_mem _ hp')
    obtain ⟨a,b,c,d⟩:=h3_ h fq
    have hf1:∀p'∈t,∃q,he_ A (aT_ w p) p' q:=fun p' hp'=>by
      obtain ⟨q',fq'⟩:=hf0 p' hp'
      exact ⟨q',d p' q' fq'⟩
    have hkw:(aT_ w p).Key=w.Key∧(aT_ w p).Width=w.Width:=by rw [tf_ h fq];exact ⟨rfl,rfl⟩
    by_cases e:pk p=key
    ·have hc:cG_ (k++[pk p]) key=cG_ k key+1:=by rw [iE_,if_pos e.symm]
     rw [e]
     rw [e] at hc step
     split
     ·rename_i hp
      have hz:=hit w p q h fq (Mon.refl w) ⟨rfl,rfl⟩ e
      have:=fE_ (ev:=ev) t (k++[key]) a hf1
      exact .inl (st _ _ a this.1 this.2.1 hz)
     ·rename_i hp
      rcases step w h hf0 (Mon.refl w) ⟨rfl,rfl⟩ with g | g
      ·exact .inl g
      ·refine .inr ?_
       rw [g,hc]
       rcases AU_ hev (c:=((cG_ k key:Nat):Int)) (by omega) with g2 | g2
       ·exact absurd g2 hp
       ·rw [List.filter_cons_of_pos (by simpa using e),List.length_cons]
        push_cast
        rw [g2];omega
    ·have hc:cG_ (k++[pk p]) key=cG_ k key:=by rw [iE_,if_neg (fun g=>e g.symm)]
     rw [List.filter_cons_of_neg (by simpa using e)]
     rw [hc] at step
     split
     ·exact step _ a hf1 b hkw
     ·exact step w h hf0 (Mon.refl w) ⟨rfl,rfl⟩
end
end Km.X
namespace Km.X
open Go Km
set_option linter.unusedVariables false
set_option linter.unusedSimpArgs false
section
variable {S:Nat} {A:Int→Int} {Gi:List aa_} {ev:Int}
structure qE_ (S:Nat) (A:Int→Int) (Gi:List aa_) (s:ac_×List DKey):Prop where
  core:gV_ S A Gi s.1
  fl:s.1.Flight=[]
def SameK (w w':ac_):Prop:=w'.Key=w.Key∧w'.Width=w.Width
theorem SameK.trans {w x y:ac_} (h:SameK w x) (g:SameK x y):SameK w y:=⟨g.1.trans h.1,g.2.trans h.2⟩
theorem Bb_ (w:ac_) (p:ad_):SameK w (aT_ w p):=by unfold aT_;split<;>exact ⟨rfl,rfl⟩
theorem Dc_ (w:ac_) (n:Int):SameK w (eb_ w n):=by unfold eb_;split<;>exact ⟨rfl,rfl⟩
theorem wh_:∀(t:List ad_) (k:List DKey) (w:ac_),SameK w (bR_ ev t k w).1
  | [],k,w=>⟨rfl,rfl⟩
  | p::t,k,w=>by
    simp only [bR_]
    split
    ·exact (Bb_ w p).trans (wh_ t _ _)
    ·exact wh_ t _ _
theorem su_ (n:Int):∀(d:Nat) (w:ac_),SameK w (a5_ n d w)
  | 0,w=>⟨rfl,rfl⟩
  | d+1,w=>by
    simp only [a5_]
    split
    ·exact ⟨rfl,rfl⟩
    ·exact (Dc_ w n).trans (su_ n d _)
theorem xF_ (s:ac_×List DKey):SameK s.1 (aC_ ev s).1:=by
  unfold aC_
  dsimp only
  exact (SameK.trans (SameK.trans (wh_ (ev:=ev) (aZ_ s.1).Flight s.2 (cd_ (aZ_ s.1) [])) (su_ 1 4 _)) (su_ 2 4 _))
theorem ED_ (w:ac_) (n:Int):(eb_ w n).Flight=w.Flight:=by unfold eb_;split<;>rfl
theorem v9_ (n:Int):∀(d:Nat) (w:ac_),(a5_ n d w).Flight=w.Flight
  | 0,w=>rfl
  | d+1,w=>by
    simp only [a5_]
    split
    ·rfl
    ·rw [v9_ n d,ED_]
theorem sl_ (s:ac_×List DKey):(aC_ ev s).1.Flight=[]:=by
  unfold aC_
  dsimp only
  rw [v9_,v9_]
  have:=sz_ ev (aZ_ s.1).Flight s.2 (cd_ (aZ_ s.1) [])
  rw [this];rfl
theorem eK_ {s:ac_×List DKey} (h:qE_ S A Gi s):qE_ S A Gi (aC_ ev s)∧Mon s.1 (aC_ ev s).1∧Frz (cd_ (aZ_ s.1) []) (aC_ ev s).1∧Mon (cd_ (aZ_ s.1) []) (aC_ ev s).1:=by
  obtain ⟨a1,a2,a3⟩:=jB_ h.core h.fl
  obtain ⟨b1,b2,b3⟩:=fE_ (ev:=ev) (aZ_ s.1).Flight s.2 a1 a3
  obtain ⟨c1,c2,c3⟩:=dh_ (n:=1) (by omega) 4 b1
  obtain ⟨d1,d2,d3⟩:=dh_ (n:=2) (by omega) 4 c1
  have m:Mon (cd_ (aZ_ s.1) []) (aC_ ev s).1:=b2.trans (c2.trans d2)
  exact ⟨⟨d1,sl_ s⟩,a2.trans m,Frz.trans b2 (c2.trans d2) b3 (Frz.trans c2 d2 c3 d3),m⟩
theorem cq_:∀(d:Nat) {s:ac_×List DKey},qE_ S A Gi s→qE_ S A Gi (a2_ ev d s)∧Mon s.1 (a2_ ev d s).1
  | 0,s,h=>⟨h,Mon.refl _⟩
  | d+1,s,h=>by
    obtain ⟨a,b,_⟩:=eK_ (ev:=ev) h
    obtain ⟨c,e⟩:=cq_ d a
    exact ⟨c,b.trans e⟩
theorem dX_:∀(a b:Nat) (s:ac_×List DKey),a2_ ev (a+b) s=a2_ ev b (a2_ ev a s)
  | 0,b,s=>by rw [Nat.zero_add];rfl
  | a+1,b,s=>by rw [show a+1+b=(a+b)+1 by omega];exact dX_ a b (aC_ ev s)
theorem aU_ {Z:ac_→Prop} (st:Bp_ S A Gi Z) {s:ac_×List DKey} (h:qE_ S A Gi s) (hz:Z s.1) (d:Nat):Z (a2_ ev d s).1:=by
  obtain ⟨a,b⟩:=cq_ (ev:=ev) d h
  exact st _ _ h.core a.core b hz
theorem uF_ (hev:1≤ev∧ev≤10) {Z:ac_→Prop} (st:Bp_ S A Gi Z) {s:ac_×List DKey} (h:qE_ S A Gi s) {key:DKey}
    (hit:∀w' p q,gV_ S A Gi w'→he_ A w' p q→Mon s.1 w'→SameK s.1 w'→pk p=key→Z (aT_ w' p)):
    Z (aC_ ev s).1∨((cG_ (aC_ ev s).2 key:Nat):Int)%ev=(cG_ s.2 key:Nat)%ev+(((aZ_ s.1).Flight.filter (fun p=>decide (pk p=key))).length:Nat):=by
  obtain ⟨a1,a2,a3⟩:=jB_ h.core h.fl
  obtain ⟨b1,b2,b3⟩:=fE_ (ev:=ev) (aZ_ s.1).Flight s.2 a1 a3
  obtain ⟨c1,c2,c3⟩:=dh_ (n:=1) (by omega) 4 b1
  obtain ⟨d1,d2,d3⟩:=dh_ (n:=2) (by omega) 4 c1
  rcases xi_ hev st (key:=key) (aZ_ s.1).Flight s.2 a1 a3 (fun w' p q g1 g2 g3 g4 g5=>hit w' p q g1 g2 (a2.trans g3) ⟨g4.1,g4.2⟩ g5) with g | g
  ·exact .inl (st _ _ b1 d1 (c2.trans d2) g)
  ·exact .inr g
theorem om_ {w:ac_} (h:gV_ S A Gi w) {p:ad_} {q:ae_} (f:he_ A w p q) {m:Int} (hm:1≤m∧m≤2):af_ m (aT_ w p).Ends=if m=3-q.From then (eL_ (af_ (3-q.From) w.Ends) q).End else af_ m w.Ends:=by
  rw [tf_ h f]
  have:=f.fit.1
  exact bz_ h.V.2.2.2.2.1 (by omega) hm _
theorem v7_ {w:ac_} (h:gV_ S A Gi w) {p:ad_} {q:ae_} (f:he_ A w p q):(eL_ (af_ (3-q.From) w.Ends) q).End=(gZ_ (jM_ (af_ (3-q.From) w.Ends) q) q).End∧(jM_ (af_ (3-q.From) w.Ends) q).Peer=A q.From:=by
  have hq:=f.fit.1
  have hn:1≤3-q.From∧3-q.From≤2:=by omega
  have hv:=h.ve hn
  have hp:=h.peer hn
  rw [eH_] at hp
  have hm:=f.mine
  have hnum:=h.num hn
  have hlt:¬q.Mine<(af_ (3-q.From) w.Ends).Peer:=by omega
  refine ⟨?_,(iU_ hv f.fit hlt).trans hm⟩
  unfold eL_
  rw [if_pos hv,if_pos ⟨(h.up _ hn).1,f.fit,by omega,hlt⟩]
theorem zW_ (x:an_) (q:ae_):(gZ_ x q).End.Peer=x.Peer:=by
  unfold gZ_
  split
  ·split<;>rfl
  ·rfl
def Kn (A:Int→Int) (n:Int) (w:ac_):Prop:=(af_ n w.Ends).Peer=A (3-n)
theorem dg_ {n:Int} (hn:1≤n∧n≤2):Bp_ S A Gi (Kn A n):=fun w w' h h' m hk=>EJ_ h h' m hn hk
theorem s9_ {w:ac_} (h:gV_ S A Gi w) {p:ad_} {q:ae_} (f:he_ A w p q):Kn A (3-q.From) (aT_ w p):=by
  have hq:=f.fit.1
  obtain ⟨a,b⟩:=v7_ h f
  unfold Kn
  rw [om_ h f (by omega),if_pos rfl,a,zW_,b,eH_]
theorem Cc_ {x:an_} {q:ae_} (h:x.Peer=q.Mine):jM_ x q=x:=by unfold jM_;rw [if_neg (by omega)]
theorem w8_:∀(l:List ag_) (d:Nat),(∀k,k<d→∃x,l[k]? =some x∧0≤x.Since)→d≤ge_ l
  | l,0,_=>Nat.zero_le _
  | [],d+1,h=>by obtain ⟨x,hx,_⟩:=h 0 (by omega);cases hx
  | y::t,d+1,h=>by
    obtain ⟨x,hx,h0⟩:=h 0 (by omega)
    cases hx
    simp only [ge_]
    rw [if_pos h0]
    have:=w8_ t d (fun k hk=>by
      obtain ⟨z,hz,hz0⟩:=h (k+1) (by omega)
      exact ⟨z,by simpa using hz,hz0⟩)
    omega
theorem yl_ {w:ac_} (h:Core0 A Gi w) {n:Int} (hn:1≤n∧n≤2) (hk:Kn A n w):TInv (iQ_ Gi (3-n) (A (3-n)) (A n)) (af_ n w.Ends).Take (aE_ w.Taken ⟨3-n,A (3-n),A n⟩):=by
  have hp:=h.pos (n:=3-n) (by omega)
  have:=(h.D (3-n) (by omega)).tk
  rw [eH_,h.G,(h.up n hn).2,hk] at this
  exact this (by omega)
theorem vs_ {w:ac_} (h:Core0 A Gi w) {n:Int} (hn:1≤n∧n≤2) (hk:Kn A n w):(af_ n w.Ends).Send.Base.toNat+(af_ n w.Ends).Send.Items.length=(iQ_ Gi n (A n) (A (3-n))).length∧∀k x,(af_ n w.Ends).Send.Items[k]? =some x→(iQ_ Gi n (A n) (A (3-n)))[(af_ n w.Ends).Send.Base.toNat+k]? =some x.Part:=by
  have hp:=h.pos (n:=3-n) (by omega)
  have:=(h.D n hn).it
  rw [h.G,(h.up n hn).2,hk] at this
  exact this (by omega)
theorem AR_ {w:ac_} (h:Core0 A Gi w) {n:Int} (hn:1≤n∧n≤2) (h1:Kn A n w) (h2:Kn A (3-n) w):(af_ n w.Ends).Send.Base≤(af_ (3-n) w.Ends).Take.Next∧∀(k:Nat) (x:ag_),(af_ n w.Ends).Send.Items[k]? =some x→x.Has=true→Had (af_ (3-n) w.Ends).Take ((af_ n w.Ends).Send.Base+k):=
  (h.D n hn).p1 (by rw [h1,(h.up (3-n) (by omega)).2]) (by rw [h2,eH_,(h.up n hn).2])
theorem EG_ {w:ac_} (h:Core0 A Gi w) {n:Int} (hn:1≤n∧n≤2) (h1:Kn A n w) (h2:Kn A (3-n) w):∀(k:Nat) (x:ag_),(af_ n w.Ends).Send.Items[k]? =some x→Had (af_ (3-n) w.Ends).Take ((af_ n w.Ends).Send.Base+k)→0≤x.Since:=
  (h.D n hn).p3 (by rw [h1,(h.up (3-n) (by omega)).2]) (by rw [h2,eH_,(h.up n hn).2])
theorem yx_ {w:ac_} (h:gV_ S A Gi w) {p:ad_} {q:ae_} (f:he_ A w p q) {n:Int} (hn:1≤n∧n≤2) (hf:q.From=3-n) (h1:Kn A n w) (h2:Kn A (3-n) w) (hk:q.Kind=1) (hy:q.Yours=A n):q.Next≤(af_ n (aT_ w p).Ends).Send.Base:=by
  have e3:3-q.From=n:=by omega
  obtain ⟨a,b⟩:=v7_ h f
  have hat:=om_ h f hn
  rw [e3] at a b hat
  rw [if_pos rfl,a] at hat
  have hmine:=f.mine
  rw [hf] at hmine
  rw [Cc_ (by rw [hmine];exact h1)] at hat
  rw [hat]
  have hul:=h.up n hn
  unfold gZ_
  rw [if_pos (by rw [hy,hul.2]),if_pos hk]
  dsimp only
  have hv:=h.ve hn
  have hS:=hv.2.2.2.2.1
  have hgen:=f.gen
  unfold tn_ at hgen
  rw [hf] at hgen
  have hw:=(hgen.w hk (by rw [hmine,(h.up (3-n) (by omega)).2]) (h.up (3-n) (by omega)).1 (by rw [hy,h2,eH_])).1
  by_cases hb:q.Next≤(af_ n w.Ends).Send.Base
  ·have:=(s6_ (af_ n w.Ends).Send hS q.Next q.Mask).1
   omega
  ·have hm:0≤q.Mask∧q.Mask≤255:=by
     rcases f.fit.2.2.2 with g | g
     ·exact g.2.2.1
     ·omega
   obtain ⟨i1,i2⟩:=vs_ h.toCore0 hn h1
   have tk:=yl_ h.toCore0 (n:=3-n) (by omega) h2
   rw [eH_] at tk
   have hN:=tk.N
   have hb0:=hS.2.1.1
   have hfr:(q.Next-(af_ n w.Ends).Send.Base).toNat≤ge_ (af_ n w.Ends).Send.Items:=w8_ _ _ (fun k hk=>by
     have hlt:k<(af_ n w.Ends).Send.Items.length:=by omega
     exact ⟨_,List.getElem?_eq_getElem hlt,EG_ h.toCore0 hn h1 h2 k _ (List.getElem?_eq_getElem hlt) (.inl (by omega))⟩)
   unfold ir_
   rw [if_pos hS,if_pos ⟨by omega,by omega,hm.1,hm.2⟩]
   exact Int.le_refl _
theorem xZ_ {w:ac_} (h:gV_ S A Gi w) {p:ad_} {q:ae_} (f:he_ A w p q) {n:Int} (hn:1≤n∧n≤2) (hf:q.From=3-n) (h1:Kn A n w) (hk:q.Kind=2) (hy:q.Yours=A n):Had (af_ n (aT_ w p).Ends).Take q.Seq:=by
  have e3:3-q.From=n:=by omega
  obtain ⟨a,b⟩:=v7_ h f
  have hat:=om_ h f hn
  rw [e3] at a b hat
  rw [if_pos rfl,a] at hat
  have hmine:=f.mine
  rw [hf] at hmine
  rw [Cc_ (by rw [hmine];exact h1)] at hat
  rw [hat]
  have hul:=h.up n hn
  unfold gZ_
  rw [if_pos (by rw [hy,hul.2]),if_neg (by omega)]
  dsimp only
  have hgen:=f.gen
  unfold tn_ at hgen
  rw [hf] at hgen
  have hd:=hgen.d hk
  rw [hmine,hy,h.G] at hd
  have hnear:=f.near hk (by rw [hy,e3])
  rw [e3,hf] at hnear
  have hk2:(0≤q.Seq∧q.Seq≤999999)∧q.Part.size≤20:=by
    rcases f.fit.2.2.2 with g | g
    ·omega
    ·exact ⟨g.2.2.2.1,g.2.2.2.2⟩
  have hgl:=h.glen
  rw [h.G] at hgl
  exact (oq_ (yl_ h.toCore0 hn h1) hk2.1.1 hd hk2.2 (by have:=n9_ Gi (3-n) (A (3-n)) (A n);omega)).2.2.2 (hnear.1 h1)
def np_ (x:an_):ae_:=⟨1,x.Number,x.Life,x.Peer,(tkM x.Take).1,(tkM x.Take).2,0,false,noB⟩
theorem zR_ {x:an_} (h:VEnd x):iL_ (np_ x):=by
  obtain ⟨k1,k2⟩:=oQ_ h.2.2.2.2.2.1
  have hn:=h.2.2.2.2.2.1.1
  exact ⟨h.1,h.2.1,h.2.2.1, .inl ⟨rfl,by show 0≤(tkM x.Take).1∧(tkM x.Take).1≤1000000;omega,k2,rfl,rfl,rfl⟩⟩
theorem zD_ {x:an_} (hv:VEnd x) (hu:x.Up=true):(np_ x∈(a1_ x).Out∧(a1_ x).End.Since=0)∨((a1_ x).End.Since=upS x∧upS x<6):=by
  unfold a1_
  rw [if_pos hv,if_pos hu]
  split
  ·left
   exact ⟨by simp [np_],rfl⟩
  ·rename_i hc
   right
   refine ⟨rfl, ?_⟩
   by_cases h6:6≤upS x
   ·exact absurd (.inr h6) hc
   ·omega
def wmu (ev:Int) (c:Nat) (since:Int):Int:=(ev-1-(c:Int)%ev)*6+(if 6-since≤1 then 1 else 6-since)
theorem ob_ (hev:1≤ev∧ev≤10) {n:Int} (hn:1≤n∧n≤2) {q0:ae_} {Z Inv:ac_→Prop} {K:ByteArray} {W:Int} (st:Bp_ S A Gi Z)
    (keep:∀s,qE_ S A Gi s→Inv s.1→Z (aC_ ev s).1∨Inv (aC_ ev s).1)
    (txt:∀w,gV_ S A Gi w→Inv w→np_ (af_ n w.Ends)=q0)
    (hit:∀s w' p,qE_ S A Gi s→Inv s.1→gV_ S A Gi w'→Mon s.1 w'→he_ A w' p q0→Z (aT_ w' p)):
    ∀(m:Nat) (s:ac_×List DKey),qE_ S A Gi s→Inv s.1→s.1.Key=K→s.1.Width=W→wmu ev (cG_ s.2 ⟨3-n,dn_ q0 K W⟩) (af_ n s.1.Ends).Since≤m→Z (a2_ ev m s).1
  | 0,s,h,hI,hK,hW,hm=>by
    exfalso
    unfold wmu at hm
    have h1:=Int.emod_lt_of_pos ((cG_ s.2 ⟨3-n,dn_ q0 K W⟩:Nat):Int) (show 0<ev by omega)
    split at hm<;>omega
  | m+1,s,h,hI,hK,hW,hm=>by
    obtain ⟨r1,r2,r3,r4⟩:=eK_ (ev:=ev) h
    show Z (a2_ ev m (aC_ ev s)).1
    have kw:=xF_ (ev:=ev) s
    have hv:=h.core.ve hn
    have hu:=(h.core.up n hn).1
    have tq:=txt s.1 h.core hI
    have hq0:iL_ q0:=by rw [←tq];exact zR_ hv
    rcases keep s h hI with g | g
    ·exact aU_ st r1 g m
    ·rcases uF_ hev st h (key:=⟨3-n,dn_ q0 K W⟩) (fun w' p q g1 g2 g3 g4 g5=>by
       have e:q=q0:=by
         have e1:p.Bytes=dn_ q0 K W:=by have:=congrArg DKey.bytes g5;exact this
         rw [g2.eq,g2.snt,g4.1,g4.2,hK,hW] at e1
         exact xr_ g2.fit hq0 (by rw [←hW];exact h.core.V.1) (by rw [←hK];exact h.core.V.2.1) e1
       subst e
       exact hit s w' p h hI g1 g3 g2) with z | z
     ·exact aU_ st r1 z m
     ·refine ob_ hev hn st keep txt hit m (aC_ ev s) r1 g (kw.1.trans hK) (kw.2.trans hW) ?_
      have hs:(af_ n (aC_ ev s).1.Ends).Since=(a1_ (af_ n s.1.Ends)).End.Since:=by
        rw [(r3 n hn).since]
        show (af_ n (aZ_ s.1).Ends).Since=_
        rw [hG_ s.1 hn]
      unfold wmu at hm⊢
      rw [hs,z]
      have hsn:=hv.2.2.2.1
      rcases zD_ hv hu with ⟨o1,o2⟩ | ⟨o1,o2⟩
      ·have hc:1≤((aZ_ s.1).Flight.filter (fun p=>decide (pk p=⟨3-n,dn_ q0 K W⟩))).length:=by
         refine List.length_pos_of_mem (List.mem_filter.mpr ⟨(sc_ h.core.V h.fl _).mpr ⟨n,np_ (af_ n s.1.Ends),hn,o1,rfl⟩, ?_⟩)
         rw [tq]
         simp only [decide_eq_true_eq]
         unfold pk to_
         rw [hK,hW]
       rw [o2]
       split at hm<;>split<;>omega
      ·rw [o1]
       unfold upS at o2⊢
       split at o2
       ·rename_i g1;rw [if_pos g1]
        split at hm<;>split<;>omega
       ·omega
theorem Az_ (hev:1≤ev∧ev≤10) (c:Nat) {since:Int} (h:0≤since):wmu ev c since≤6*ev:=by
  unfold wmu
  have h1:=Int.emod_nonneg (c:Int) (show ev≠0 by omega)
  split<;>omega
theorem ua_:∀(t:List ag_) (i:Nat) (b:Int) (k:Nat) (u:ag_),t[k]? =some u→i+k<8→fb_ u→b+i+k∈(dx_ i b t).2
  | [],i,b,k,u,h,_,_=>by cases h
  | x::t,i,b,0,u,h,h8,hs=>by
    cases h
    simp only [dx_]
    rw [if_neg (by omega)]
    dsimp only
    rw [if_pos hs]
    exact List.mem_append_left _ (by simp)
  | x::t,i,b,k+1,u,h,h8,hs=>by
    simp only [dx_]
    rw [if_neg (by omega)]
    have:=ua_ t (i+1) b k u (by simpa using h) (by omega) hs
    refine List.mem_append_right _ ?_
    rw [show b+((i+1:Nat):Int)+(k:Int)=b+(i:Int)+((k+1:Nat):Int) by omega] at this
    exact this
def dmu (ev:Int) (c:Nat) (since:Int):Int:=(ev-1-(c:Int)%ev)*4+(if since= -1 then 1 else 4-since)
def iK_ (A:Int→Int) (n:Int) (seq:Int) (p:aA_):ae_:=⟨2,n,A n,A (3-n),0,0,seq,p.Last,p.Text⟩
theorem AN_ {w:ac_} (h:gV_ S A Gi w) {n:Int} (hn:1≤n∧n≤2) (h1:Kn A n w) {k:Nat} (hk:k<8) {u:ag_} (hu:(af_ n w.Ends).Send.Items[k]? =some u):
    (a1_ (af_ n w.Ends)).End.Send.Items[k]? =some (fQ_ u)∧(fb_ u→iK_ A n ((af_ n w.Ends).Send.Base+k) u.Part∈(a1_ (af_ n w.Ends)).Out):=by
  have hv:=h.ve hn
  have hul:=h.up n hn
  have hp:=h.pos (n:=3-n) (by omega)
  have hp0:¬(af_ n w.Ends).Peer=0:=by have:(af_ n w.Ends).Peer=A (3-n):=h1;omega
  have e1:(bm_ (af_ n w.Ends))=(⟨(af_ n w.Ends).Send.Base,(dx_ 0 (af_ n w.Ends).Send.Base (af_ n w.Ends).Send.Items).1⟩,(dx_ 0 (af_ n w.Ends).Send.Base (af_ n w.Ends).Send.Items).2):=by
    unfold bm_ hT_
    rw [if_neg hp0,if_pos hv.2.2.2.2.1]
  have hget:(dx_ 0 (af_ n w.Ends).Send.Base (af_ n w.Ends).Send.Items).1[k]? =some (fQ_ u):=by
    rw [ij_,hu,Option.map_some,if_pos (by omega)]
  have hin:fb_ u→(af_ n w.Ends).Send.Base+k∈(dx_ 0 (af_ n w.Ends).Send.Base (af_ n w.Ends).Send.Items).2:=fun hs=>by
    have:=ua_ (af_ n w.Ends).Send.Items 0 (af_ n w.Ends).Send.Base k u hu (by omega) hs
    simpa using this
  have hout:fb_ u→iK_ A n ((af_ n w.Ends).Send.Base+k) u.Part∈(bm_ (af_ n w.Ends)).2.map (jg_ (af_ n w.Ends).Number (af_ n w.Ends).Life (af_ n w.Ends).Peer (bm_ (af_ n w.Ends)).1.Base (bm_ (af_ n w.Ends)).1.Items):=fun hs=>by
    refine List.mem_map.mpr ⟨_,by rw [e1];exact hin hs, ?_⟩
    rw [e1]
    unfold jg_ iK_ iG_
    dsimp only
    rw [show (af_ n w.Ends).Send.Base+(k:Int)-(af_ n w.Ends).Send.Base=(k:Int) by omega,Int.toNat_natCast,hget]
    dsimp only
    rw [(rs_ u).1,h.num hn,hul.2,show (af_ n w.Ends).Peer=A (3-n) from h1]
  unfold a1_
  rw [if_pos hv,if_pos hul.1]
  split
  ·exact ⟨by rw [e1];exact hget,fun hs=>List.mem_append_left _ (hout hs)⟩
  ·exact ⟨by rw [e1];exact hget,hout⟩
end
end Km.X
namespace Km.X
open Go Km
set_option linter.unusedVariables false
set_option linter.unusedSimpArgs false
section
variable {S:Nat} {A:Int→Int} {Gi:List aa_} {ev:Int}
theorem AT_ {w:ac_} (h:gV_ S A Gi w) {n:Int} (hn:1≤n∧n≤2) (h1:Kn A n w) {k:Nat} {u:ag_} (hu:(af_ n w.Ends).Send.Items[k]? =some u):iL_ (iK_ A n ((af_ n w.Ends).Send.Base+k) u.Part):=by
  have hv:=h.ve hn
  have hl:=(h.up n hn).2
  have hp:(af_ n w.Ends).Peer=A (3-n):=h1
  have h2:=hv.2.1
  have h3:=hv.2.2.1
  rw [hl] at h2
  rw [hp] at h3
  have hS:=hv.2.2.2.2.1
  have hlt:=(List.getElem?_eq_some_iff.mp hu).1
  have h4:=hS.2.1
  have h5:=hS.2.2.1
  exact ⟨hn,h2,h3, .inr ⟨rfl,rfl,rfl,by show 0≤_+(k:Int)∧_+(k:Int)≤999999;omega,(e7_ hS.2.2.2 k u hu).1⟩⟩
def Zd (A:Int→Int) (n b:Int) (k:Nat) (w:ac_):Prop:=Kn A n w∧Kn A (3-n) w∧(b<(af_ n w.Ends).Send.Base∨Had (af_ (3-n) w.Ends).Take (b+k))
theorem c3_ {n:Int} (hn:1≤n∧n≤2) {w w':ac_} (h:gV_ S A Gi w) (h':gV_ S A Gi w') (m:Mon w w') (hk:Kn A n w):Kn A n w'∧(af_ n w.Ends).Send.Base≤(af_ n w'.Ends).Send.Base∧(af_ n w'.Ends).Send.Base+(af_ n w'.Ends).Send.Items.length=(af_ n w.Ends).Send.Base+(af_ n w.Ends).Send.Items.length∧(af_ n w.Ends).Take.Next≤(af_ n w'.Ends).Take.Next∧∀s,Had (af_ n w.Ends).Take s→Had (af_ n w'.Ends).Take s:=by
  have hk':=dg_ hn w w' h h' m hk
  have e:(af_ n w'.Ends).Peer=(af_ n w.Ends).Peer:=by
    have a:(af_ n w'.Ends).Peer=A (3-n):=hk'
    have b:(af_ n w.Ends).Peer=A (3-n):=hk
    rw [a,b]
  obtain ⟨b1,b2⟩:=(m n hn).base e
  obtain ⟨c1,c2⟩:=(m n hn).next e
  exact ⟨hk',b1,b2,c1,c2⟩
theorem C5_ {n b:Int} {k:Nat} (hn:1≤n∧n≤2):Bp_ S A Gi (Zd A n b k):=fun w w' h h' m hz=>by
  obtain ⟨z1,z2,z3⟩:=hz
  obtain ⟨a1,a2,a3,a4,a5⟩:=c3_ hn h h' m z1
  obtain ⟨c1,c2,c3,c4,c5⟩:=c3_ (n:=3-n) (by omega) h h' m z2
  refine ⟨a1,c1, ?_⟩
  rcases z3 with z | z
  ·exact .inl (by omega)
  ·exact .inr (c5 _ z)
theorem wQ_ (hev:1≤ev∧ev≤10) {n:Int} (hn:1≤n∧n≤2) {b:Int} {k:Nat} (hk8:k<8) {pt:aA_} {K:ByteArray} {W:Int}:
    ∀(m:Nat) (s:ac_×List DKey),qE_ S A Gi s→Kn A n s.1→Kn A (3-n) s.1→(af_ n s.1.Ends).Send.Base=b→∀u,(af_ n s.1.Ends).Send.Items[k]? =some u→u.Part=pt→s.1.Key=K→s.1.Width=W→
     dmu ev (cG_ s.2 ⟨3-n,dn_ (iK_ A n (b+k) pt) K W⟩) u.Since≤m→Zd A n b k (a2_ ev m s).1
  | 0,s,h,h1,h2,hb,u,hu,hpt,hK,hW,hm=>by
    exfalso
    have ok:=e7_ (h.core.ve hn).2.2.2.2.1.2.2.2 k u hu
    have:=ok.2.1
    unfold dmu at hm
    have h1:=Int.emod_lt_of_pos ((cG_ s.2 ⟨3-n,dn_ (iK_ A n (b+k) pt) K W⟩:Nat):Int) (show 0<ev by omega)
    split at hm<;>omega
  | m+1,s,h,h1,h2,hb,u,hu,hpt,hK,hW,hm=>by
    obtain ⟨r1,r2,r3,r4⟩:=eK_ (ev:=ev) h
    show Zd A n b k (a2_ ev m (aC_ ev s)).1
    have kw:=xF_ (ev:=ev) s
    have st:=C5_ (S:=S) (A:=A) (Gi:=Gi) (n:=n) (b:=b) (k:=k) hn
    have ok:=e7_ (h.core.ve hn).2.2.2.2.1.2.2.2 k u hu
    have hsn:=ok.2.1
    have hq0:iL_ (iK_ A n (b+k) pt):=by rw [←hb,←hpt];exact AT_ h.core hn h1 hu
    by_cases hh:u.Has=true
    ·have:=(AR_ h.core.toCore0 hn h1 h2).2 k u hu hh
     rw [hb] at this
     have z:Zd A n b k s.1:=⟨h1,h2, .inr this⟩
     exact aU_ st r1 (st _ _ h.core r1.core r2 z) m
    rcases uF_ hev st h (key:=⟨3-n,dn_ (iK_ A n (b+k) pt) K W⟩) (fun w' p q g1 g2 g3 g4 g5=>by
        have e:q=iK_ A n (b+k) pt:=by
          have e1:p.Bytes=dn_ (iK_ A n (b+k) pt) K W:=by have:=congrArg DKey.bytes g5;exact this
          rw [g2.eq,g2.snt,g4.1,g4.2,hK,hW] at e1
          exact xr_ g2.fit hq0 (by rw [←hW];exact h.core.V.1) (by rw [←hK];exact h.core.V.2.1) e1
        subst e
        obtain ⟨c1,c2,_⟩:=h3_ g1 g2
        have k1:=dg_ (S:=S) (Gi:=Gi) hn _ _ h.core g1 g3 h1
        have k2:=dg_ (Gi:=Gi) (n:=3-n) (by omega) _ _ h.core g1 g3 h2
        refine ⟨dg_ hn _ _ g1 c1 c2 k1,dg_ (by omega) _ _ g1 c1 c2 k2, .inr ?_⟩
        exact xZ_ g1 g2 (n:=3-n) (by omega) (by rw [eH_];rfl) k2 rfl rfl) with z | z
    ·exact aU_ st r1 z m
    obtain ⟨k1,k2,k3,_⟩:=c3_ hn h.core r1.core r2 h1
    obtain ⟨k4,_⟩:=c3_ (n:=3-n) (by omega) h.core r1.core r2 h2
    by_cases hb':b<(af_ n (aC_ ev s).1.Ends).Send.Base
    ·exact aU_ st r1 ⟨k1,k4, .inl hb'⟩ m
    have hbe:(af_ n (aC_ ev s).1.Ends).Send.Base=b:=by omega
    have hlt:=(List.getElem?_eq_some_iff.mp hu).1
    have hlt':k<(af_ n (aC_ ev s).1.Ends).Send.Items.length:=by omega
    obtain ⟨t1,t2⟩:=AN_ h.core hn h1 hk8 hu
    have tb:(af_ n (cd_ (aZ_ s.1) []).Ends)=(a1_ (af_ n s.1.Ends)).End:=hG_ s.1 hn
    have tsm:=fH_ (h.core.ve hn)
    have tbase:(a1_ (af_ n s.1.Ends)).End.Send.Base=b:=by
      have:=(ta_ (h.core.ve hn)).base tsm.2.2.1
      have m4:=r4 n hn
      rw [tb] at m4
      have:=(m4.base (by rw [tsm.2.2.1];have a:(af_ n (aC_ ev s).1.Ends).Peer=A (3-n):=k1;have b:(af_ n s.1.Ends).Peer=A (3-n):=h1;rw [a,b])).1
      omega
    have fz:=r3 n hn
    rw [tb] at fz
    obtain ⟨u1,hu1,hs1⟩:=fz.items (by rw [tsm.2.2.1];have a:(af_ n (aC_ ev s).1.Ends).Peer=A (3-n):=k1;have b:(af_ n s.1.Ends).Peer=A (3-n):=h1;rw [a,b]) (by rw [hbe,tbase]) k _ (List.getElem?_eq_getElem hlt')
    rw [t1] at hu1
    cases hu1
    have hpt':((af_ n (aC_ ev s).1.Ends).Send.Items[k]).Part=pt:=by
      have a:=(vs_ r1.core.toCore0 hn k1).2 k _ (List.getElem?_eq_getElem hlt')
      have b':=(vs_ h.core.toCore0 hn h1).2 k u hu
      rw [hbe] at a
      rw [hb,a] at b'
      rw [Option.some.inj b'];exact hpt
    refine wQ_ hev hn hk8 m (aC_ ev s) r1 k1 k4 hbe _ (List.getElem?_eq_getElem hlt') hpt' (kw.1.trans hK) (kw.2.trans hW) ?_
    rw [hs1]
    unfold dmu at hm⊢
    rw [z]
    by_cases hs:fb_ u
    ·have hc:1≤((aZ_ s.1).Flight.filter (fun p=>decide (pk p=⟨3-n,dn_ (iK_ A n (b+k) pt) K W⟩))).length:=by
       have:=t2 hs
       rw [hb,hpt] at this
       refine List.length_pos_of_mem (List.mem_filter.mpr ⟨(sc_ h.core.V h.fl _).mpr ⟨n,_,hn,this,rfl⟩, ?_⟩)
       simp only [decide_eq_true_eq]
       unfold pk to_
       rw [hK,hW]
     have e:(fQ_ u).Since=0:=by
       unfold fQ_
       rw [if_neg hh]
       rcases hs.2 with g | g
       ·rw [if_pos g]
       ·rw [if_neg (by omega),if_pos g]
     rw [e]
     have:=hs.2
     split at hm<;>split<;>omega
    ·have h3:¬u.Since= -1∧¬u.Since=3:=⟨fun e=>hs ⟨hh, .inl e⟩,fun e=>hs ⟨hh, .inr e⟩⟩
     have e:(fQ_ u).Since=u.Since+1:=by
       unfold fQ_
       rw [if_neg hh,if_neg h3.1,if_neg h3.2]
     rw [e]
     split at hm<;>split<;>omega
theorem EH_ (hev:1≤ev∧ev≤10) (c:Nat) {since:Int} (h: -1≤since):dmu ev c since≤4*ev:=by
  unfold dmu
  have h1:=Int.emod_nonneg (c:Int) (show ev≠0 by omega)
  split<;>omega
theorem Ar_ {w:ac_} (h:gV_ S A Gi w) {m:Int} (hm:1≤m∧m≤2) (hr:(af_ m w.Ends).Take.Ready≠[]):(af_ m (eb_ w m).Ends).Take=(cy_ (af_ m w.Ends).Take).1∧(af_ m (eb_ w m).Ends).Peer=(af_ m w.Ends).Peer:=by
  rw [wD_ h hm hr]
  show (af_ m (c1_ m _ w.Ends)).Take=_∧_
  rw [bz_ h.V.2.2.2.2.1 hm hm,if_pos rfl]
  have:=(fa_ (l6_ (h.ve hm) (h.up m hm).1 hr)).1
  rw [this]
  exact ⟨rfl,rfl⟩
theorem yy_ {w:ac_} (h:gV_ S A Gi w) {m j:Int} (hm:1≤m∧m≤2) (hj:1≤j∧j≤2) (hne:¬j=m):af_ j (eb_ w m).Ends=af_ j w.Ends:=by
  by_cases hr:(af_ m w.Ends).Take.Ready=[]
  ·rw [u7_ h hm hr]
  ·rw [wD_ h hm hr]
   show af_ j (c1_ m _ w.Ends)=_
   rw [bz_ h.V.2.2.2.2.1 hm hj,if_neg hne]
theorem k7_ {m j:Int} (hm:1≤m∧m≤2) (hj:1≤j∧j≤2) (hne:¬j=m):∀(d:Nat) {w:ac_},gV_ S A Gi w→af_ j (a5_ m d w).Ends=af_ j w.Ends
  | 0,w,h=>rfl
  | d+1,w,h=>by
    simp only [a5_]
    split
    ·rfl
    ·rw [k7_ hm hj hne d (l1_ h hm).1,yy_ h hm hj hne]
theorem mp_ {m:Int} (hm:1≤m∧m≤2) {U:Int}:∀(d:Nat) {w:ac_},gV_ S A Gi w→Kn A m w→(∀i,0≤i→i<U→Had (af_ m w.Ends).Take i)→
    (af_ m w.Ends).Take.Next+d≤(af_ m (a5_ m d w).Ends).Take.Next∨U≤(af_ m (a5_ m d w).Ends).Take.Next
  | 0,w,h,hk,hU=> .inl (by simp [a5_])
  | d+1,w,h,hk,hU=>by
    have tk:=yl_ h.toCore0 hm hk
    have hT:=px_ (Gi:=Gi) (by rw [←h.G];exact h.V.2.2.2.2.2.2.1) (3-m) (A (3-m)) (A m)
    have hat:(af_ m w.Ends).Take.Next<U→∃x∈(af_ m w.Ends).Take.Held,x.Seq=(af_ m w.Ends).Take.Next:=fun hlt=>by
      rcases hU _ tk.V.1.1 hlt with g | g
      ·omega
      ·exact g
    simp only [a5_]
    split
    ·rename_i hr
     right
     by_cases hlt:(af_ m w.Ends).Take.Next<U
     ·obtain ⟨x,hx,e⟩:=hat hlt
      have:=z4_ tk hT hx e
      rw [hr] at this;cases this
     ·omega
    ·rename_i hr
     obtain ⟨c1,c2,_⟩:=l1_ h hm
     obtain ⟨k1,_,_,k4,k5⟩:=c3_ hm h c1 c2 hk
     have ih:=mp_ hm (U:=U) d c1 k1 (fun i h0 hi=>k5 _ (hU i h0 hi))
     by_cases hlt:(af_ m w.Ends).Take.Next<U
     ·obtain ⟨x,hx,e⟩:=hat hlt
      cases hR:(af_ m w.Ends).Take.Ready with
      | nil=>exact absurd hR hr
      | cons s rs=>
        have:=Dk_ tk hT hx e hR
        rw [(Ar_ h hm hr).1] at ih
        rcases ih with g | g
        ·left;push_cast;omega
        ·exact .inr g
     ·right
      rcases ih with g | g<;>omega
theorem rZ_ {m:Int} (hm:1≤m∧m≤2) {U:Int} {s:ac_×List DKey} (h:qE_ S A Gi s) (hk:Kn A m s.1) (hU:∀i,0≤i→i<U→Had (af_ m s.1.Ends).Take i):
    (af_ m s.1.Ends).Take.Next+4≤(af_ m (aC_ ev s).1.Ends).Take.Next∨U≤(af_ m (aC_ ev s).1.Ends).Take.Next:=by
  obtain ⟨a1,a2,a3⟩:=jB_ h.core h.fl
  obtain ⟨b1,b2,b3⟩:=fE_ (ev:=ev) (aZ_ s.1).Flight s.2 a1 a3
  obtain ⟨c1,c2,c3⟩:=dh_ (n:=1) (by omega) 4 b1
  obtain ⟨d1,d2,d3⟩:=dh_ (n:=2) (by omega) 4 c1
  obtain ⟨k1,_,_,k4,k5⟩:=c3_ hm h.core b1 (a2.trans b2) hk
  have:m=1∨m=2:=by omega
  rcases this with rfl | rfl
  ·have:=mp_ (S:=S) (A:=A) (Gi:=Gi) (m:=1) (by omega) (U:=U) 4 b1 k1 (fun i h0 hi=>k5 _ (hU i h0 hi))
   obtain ⟨e1,_,_,e4,_⟩:=c3_ (n:=1) (by omega) b1 c1 c2 k1
   obtain ⟨f1,_,_,f4,_⟩:=c3_ (n:=1) (by omega) c1 d1 d2 e1
   unfold aC_
   dsimp only
   rcases this with g | g
   ·left;omega
   ·right;omega
  ·obtain ⟨e1,_,_,e4,e5⟩:=c3_ (n:=2) (by omega) b1 c1 c2 k1
   have:=mp_ (S:=S) (A:=A) (Gi:=Gi) (m:=2) (by omega) (U:=U) 4 c1 e1 (fun i h0 hi=>e5 _ (k5 _ (hU i h0 hi)))
   unfold aC_
   dsimp only
   rcases this with g | g
   ·left;omega
   ·right;omega
theorem CB_ {m:Int} (hm:1≤m∧m≤2) {w:ac_} (h:gV_ S A Gi w) (h1:Kn A (3-m) w) (h2:Kn A m w) {i:Int} (hi:Had (af_ m w.Ends).Take i) (hb:(af_ (3-m) w.Ends).Send.Base≤i):i<(af_ (3-m) w.Ends).Send.Base+8∧i<(af_ (3-m) w.Ends).Send.Base+(af_ (3-m) w.Ends).Send.Items.length:=by
  have hn:1≤3-m∧3-m≤2:=by omega
  have tk:=yl_ h.toCore0 hm h2
  have hlt:=B5_ tk hi
  obtain ⟨i1,i2⟩:=vs_ h.toCore0 hn h1
  rw [eH_] at i1 i2
  have hS:=(h.ve hn).2.2.2.2.1
  have hb0:=hS.2.1.1
  have hk:(i-(af_ (3-m) w.Ends).Send.Base).toNat<(af_ (3-m) w.Ends).Send.Items.length:=by omega
  have e:(af_ (3-m) w.Ends).Send.Base+((i-(af_ (3-m) w.Ends).Send.Base).toNat:Int)=i:=by omega
  have hx:=List.getElem?_eq_getElem hk
  have:=EG_ h.toCore0 hn h1 (by rw [eH_];exact h2) _ _ hx (by rw [eH_,e];exact hi)
  have ok:=e7_ hS.2.2.2 _ _ hx
  refine ⟨?_,by omega⟩
  by_cases h8:8≤(i-(af_ (3-m) w.Ends).Send.Base).toNat
  ·have:=ok.2.2.1 (by omega);omega
  ·omega
def Zb (A:Int→Int) (n b:Int) (w:ac_):Prop:=Kn A n w∧Kn A (3-n) w∧b<(af_ n w.Ends).Send.Base
theorem CD_ {n b:Int} (hn:1≤n∧n≤2):Bp_ S A Gi (Zb A n b):=fun w w' h h' m hz=>by
  obtain ⟨z1,z2,z3⟩:=hz
  obtain ⟨a1,a2,_⟩:=c3_ hn h h' m z1
  obtain ⟨c1,_⟩:=c3_ (n:=3-n) (by omega) h h' m z2
  exact ⟨a1,c1,by omega⟩
theorem DE_ (hev:1≤ev∧ev≤10) {n:Int} (hn:1≤n∧n≤2) {s:ac_×List DKey} (h:qE_ S A Gi s) (h1:Kn A n s.1) (h2:Kn A (3-n) s.1) (hne:(af_ n s.1.Ends).Send.Items≠[]):Zb A n (af_ n s.1.Ends).Send.Base (a2_ ev (12*ev.toNat) s).1:=by
  have hm:1≤3-n∧3-n≤2:=by omega
  generalize hb:(af_ n s.1.Ends).Send.Base=b
  have hlen:1≤(af_ n s.1.Ends).Send.Items.length:=by
    cases hh:(af_ n s.1.Ends).Send.Items with
    | nil=>exact absurd hh hne
    | cons x t=>simp
  generalize hN:(af_ n s.1.Ends).Send.Items.length=N at hlen
  have hb0:=(h.core.ve hn).2.2.2.2.1.2.1.1
  have st:=CD_ (S:=S) (A:=A) (Gi:=Gi) (n:=n) (b:=b) hn
  obtain ⟨r1,r2⟩:=cq_ (ev:=ev) (4*ev.toNat) h
  obtain ⟨k1,k2,k3,_⟩:=c3_ hn h.core r1.core r2 h1
  obtain ⟨k4,_⟩:=c3_ hm h.core r1.core r2 h2
  have e12:12*ev.toNat=4*ev.toNat+(2+(6*ev.toNat+(2*ev.toNat-2))):=by omega
  rw [e12,dX_,dX_,dX_]
  generalize hs1:a2_ ev (4*ev.toNat) s=s1 at*
  by_cases hb1:b<(af_ n s1.1.Ends).Send.Base
  ·have z:Zb A n b s1.1:=⟨k1,k4,hb1⟩
   obtain ⟨r1',_⟩:=cq_ (ev:=ev) 2 r1
   obtain ⟨r1'',_⟩:=cq_ (ev:=ev) (6*ev.toNat) r1'
   exact aU_ st r1'' (aU_ st r1' (aU_ st r1 z 2) _) _
  have hbe:(af_ n s1.1.Ends).Send.Base=b:=by omega
  have hNe:(af_ n s1.1.Ends).Send.Items.length=N:=by omega
  have hall:∀i,0≤i→i<b+min 8 (N:Int)→Had (af_ (3-n) s1.1.Ends).Take i:=fun i h0 hi=>by
    by_cases hib:i<b
    ·exact .inl (by have:=(AR_ r1.core.toCore0 hn k1 k4).1;omega)
    ·have hk:(i-b).toNat<(af_ n s.1.Ends).Send.Items.length:=by omega
     have:=wQ_ (S:=S) (A:=A) (Gi:=Gi) hev hn (b:=b) (k:=(i-b).toNat) (by omega) (pt:=(af_ n s.1.Ends).Send.Items[(i-b).toNat].Part) (K:=s.1.Key) (W:=s.1.Width) (4*ev.toNat) s h h1 h2 hb _ (List.getElem?_eq_getElem hk) rfl rfl rfl (by
       have ok:=e7_ (h.core.ve hn).2.2.2.2.1.2.2.2 _ _ (List.getElem?_eq_getElem hk)
       have:=EH_ hev (cG_ s.2 ⟨3-n,dn_ (iK_ A n (b+((i-b).toNat:Nat)) (af_ n s.1.Ends).Send.Items[(i-b).toNat].Part) s.1.Key s.1.Width⟩) ok.2.1.1
       omega)
     rw [hs1] at this
     rcases this.2.2 with g | g
     ·exact absurd g hb1
     ·rwa [show b+((i-b).toNat:Int)=i by omega] at g
  obtain ⟨u1,u2,_⟩:=eK_ (ev:=ev) r1
  obtain ⟨v1,v2,_⟩:=eK_ (ev:=ev) u1
  have e2:a2_ ev 2 s1=aC_ ev (aC_ ev s1):=rfl
  rw [e2]
  obtain ⟨l1,l2,l3,_⟩:=c3_ hn r1.core u1.core u2 k1
  obtain ⟨l4,_,_,l5,l6⟩:=c3_ hm r1.core u1.core u2 k4
  obtain ⟨m1,m2,m3,_⟩:=c3_ hn u1.core v1.core v2 l1
  obtain ⟨m4,_,_,m5,m6⟩:=c3_ hm u1.core v1.core v2 l4
  have n1:=rZ_ (ev:=ev) hm (U:=b+min 8 (N:Int)) r1 k4 hall
  have n2:=rZ_ (ev:=ev) hm (U:=b+min 8 (N:Int)) u1 l4 (fun i h0 hi=>l6 _ (hall i h0 hi))
  have hnx:=(AR_ r1.core.toCore0 hn k1 k4).1
  have hU:b+min 8 (N:Int)≤(af_ (3-n) (aC_ ev (aC_ ev s1)).1.Ends).Take.Next:=by omega
  generalize hs2:aC_ ev (aC_ ev s1)=s2 at*
  by_cases hb2:b<(af_ n s2.1.Ends).Send.Base
  ·have z:Zb A n b s2.1:=⟨m1,m4,hb2⟩
   obtain ⟨r1'',_⟩:=cq_ (ev:=ev) (6*ev.toNat) v1
   exact aU_ st r1'' (aU_ st v1 z _) _
  have run:=ob_ (S:=S) (A:=A) (Gi:=Gi) hev (n:=3-n) hm (q0:=⟨1,3-n,A (3-n),A n,b+min 8 (N:Int),0,0,false,noB⟩) (Z:=Zb A n b)
    (Inv:=fun w=>Kn A n w∧Kn A (3-n) w∧(af_ n w.Ends).Send.Base=b∧(af_ n w.Ends).Send.Items.length=N∧b+min 8 (N:Int)≤(af_ (3-n) w.Ends).Take.Next) (K:=s2.1.Key) (W:=s2.1.Width) st
    (fun s h hI=>by
      obtain ⟨i1,i2,i3,i4,i5⟩:=hI
      obtain ⟨r1,r2,_⟩:=eK_ (ev:=ev) h
      obtain ⟨k1,k2,k3,_⟩:=c3_ hn h.core r1.core r2 i1
      obtain ⟨k4,_,_,k5,_⟩:=c3_ hm h.core r1.core r2 i2
      by_cases hb':b<(af_ n (aC_ ev s).1.Ends).Send.Base
      ·exact .inl ⟨k1,k4,hb'⟩
      ·exact .inr ⟨k1,k4,by omega,by omega,by omega⟩)
    (fun w h hI=>by
      obtain ⟨i1,i2,i3,i4,i5⟩:=hI
      have hv:=h.ve hm
      have top:∀i,Had (af_ (3-n) w.Ends).Take i→i<b+min 8 (N:Int):=fun i hi=>by
        by_cases hib:i<b
        ·omega
        ·have:=CB_ hm h (by rw [eH_];exact i1) i2 hi (by rw [eH_];omega)
         rw [eH_] at this
         omega
      have hnext:(af_ (3-n) w.Ends).Take.Next=b+min 8 (N:Int):=by
        by_cases hh:(af_ (3-n) w.Ends).Take.Next=b+min 8 (N:Int)
        ·exact hh
        ·have:=top ((af_ (3-n) w.Ends).Take.Next-1) (.inl (by omega))
         omega
      have hheld:(af_ (3-n) w.Ends).Take.Held=[]:=by
        cases hh:(af_ (3-n) w.Ends).Take.Held with
        | nil=>rfl
        | cons x t=>
          have:=top x.Seq (.inr ⟨x,by rw [hh];simp,rfl⟩)
          have hw:=hv.2.2.2.2.2.1.2.2.2.2.2.1
          rw [hh] at hw
          have:=hw.1.1
          omega
      have htk:tkM (af_ (3-n) w.Ends).Take=(b+min 8 (N:Int),0):=by
        unfold tkM
        rw [if_pos hv.2.2.2.2.2.1,hheld,hnext]
        rfl
      unfold np_
      rw [htk,h.num hm,(h.up _ hm).2]
      have:(af_ (3-n) w.Ends).Peer=A n:=by have:(af_ (3-n) w.Ends).Peer=A (3-(3-n)):=i2;rwa [eH_] at this
      rw [this])
    (fun s w' p h hI hc hmn f=>by
      obtain ⟨i1,i2,i3,i4,i5⟩:=hI
      have j1:=dg_ (S:=S) (Gi:=Gi) hn _ _ h.core hc hmn i1
      have j2:=dg_ (Gi:=Gi) hm _ _ h.core hc hmn i2
      obtain ⟨c1,c2,_⟩:=h3_ hc f
      have:=yx_ hc f hn rfl j1 j2 rfl rfl
      have hle:b+min 8 (N:Int)≤(af_ n (aT_ w' p).Ends).Send.Base:=this
      exact ⟨dg_ hn _ _ hc c1 c2 j1,dg_ hm _ _ hc c1 c2 j2,by omega⟩)
  have z:=run (6*ev.toNat) s2 v1 ⟨m1,m4,by omega,by omega,hU⟩ rfl rfl (by
    have:=Az_ hev (cG_ s2.2 ⟨3-(3-n),dn_ ⟨1,3-n,A (3-n),A n,b+min 8 (N:Int),0,0,false,noB⟩ s2.1.Key s2.1.Width⟩) (v1.core.ve hm).2.2.2.1.1
    omega)
  exact aU_ st (cq_ (ev:=ev) (6*ev.toNat) v1).1 z _
def Em (A:Int→Int) (n:Int) (w:ac_):Prop:=Kn A n w∧(af_ n w.Ends).Send.Items=[]
theorem ms_ {n:Int} (hn:1≤n∧n≤2):Bp_ S A Gi (Em A n):=fun w w' h h' m hz=>by
  obtain ⟨a1,a2,a3,_⟩:=c3_ hn h h' m hz.1
  refine ⟨a1, ?_⟩
  rw [hz.2] at a3
  simp only [List.length_nil] at a3
  exact List.length_eq_zero_iff.mp (by omega)
theorem Dl_ (hev:1≤ev∧ev≤10) {n:Int} (hn:1≤n∧n≤2):∀(N:Nat) {s:ac_×List DKey},qE_ S A Gi s→Kn A n s.1→Kn A (3-n) s.1→(af_ n s.1.Ends).Send.Items.length≤N→Em A n (a2_ ev (12*ev.toNat*N) s).1
  | 0,s,h,h1,h2,hl=>by
    have e:Em A n s.1:=⟨h1,List.length_eq_zero_iff.mp (by omega)⟩
    exact aU_ (ms_ hn) h e _
  | N+1,s,h,h1,h2,hl=>by
    by_cases hne:(af_ n s.1.Ends).Send.Items=[]
    ·exact aU_ (ms_ hn) h ⟨h1,hne⟩ _
    ·have d:=DE_ hev hn h h1 h2 hne
     rw [show 12*ev.toNat*(N+1)=12*ev.toNat+12*ev.toNat*N by rw [Nat.mul_succ];omega,dX_]
     obtain ⟨r1,r2⟩:=cq_ (ev:=ev) (12*ev.toNat) h
     obtain ⟨k1,k2,k3,_⟩:=c3_ hn h.core r1.core r2 h1
     exact Dl_ hev hn N r1 d.1 d.2.1 (by have:=d.2.2;omega)
end
end Km.X
namespace Km.X
open Go Km
set_option linter.unusedVariables false
set_option linter.unusedSimpArgs false
section
variable {S:Nat} {A:Int→Int} {Gi:List aa_} {ev:Int}
theorem pT_ {n:Int} (hn:1≤n∧n≤2):∀(t:List ad_) (k:List DKey) {w:ac_},gV_ S A Gi w→(∀p∈t,∃q,he_ A w p q)→Kn A n (bR_ ev t k w).1∨af_ n (bR_ ev t k w).1.Ends=af_ n w.Ends
  | [],k,w,h,_=> .inr rfl
  | p::t,k,w,h,hf=>by
    simp only [bR_]
    split
    ·obtain ⟨q,fq⟩:=hf p (List.mem_cons_self ..)
     obtain ⟨a,b,c,d⟩:=h3_ h fq
     have hf':∀p'∈t,∃q,he_ A (aT_ w p) p' q:=fun p' hp'=>by
       obtain ⟨q',fq'⟩:=hf p' (List.mem_cons_of_mem _ hp')
       exact ⟨q',d p' q' fq'⟩
     by_cases e:n=3-q.From
     ·have k1:=s9_ h fq
      rw [←e] at k1
      obtain ⟨a',b',_⟩:=fE_ (ev:=ev) t (k++[pk p]) a hf'
      exact .inl (dg_ hn _ _ a a' b' k1)
     ·rcases pT_ hn t (k++[pk p]) a hf' with g | g
      ·exact .inl g
      ·refine .inr (g.trans ?_)
       rw [om_ h fq hn,if_neg e]
    ·exact pT_ hn t (k++[pk p]) h (fun p' hp'=>hf p' (List.mem_cons_of_mem _ hp'))
def Phi (n:Int) (w:ac_):Nat:=(af_ n w.Ends).Take.Ready.length+(af_ n w.Ends).Take.Held.length
theorem lN_ {m:Int} (hm:1≤m∧m≤2):∀(d:Nat) {w:ac_},gV_ S A Gi w→(af_ m (a5_ m d w).Ends).Take.Ready=[]∨Phi m (a5_ m d w)+d≤Phi m w
  | 0,w,h=> .inr (Nat.le_refl _)
  | d+1,w,h=>by
    simp only [a5_]
    split
    ·rename_i hr;exact .inl hr
    ·rename_i hr
     obtain ⟨c1,c2,_⟩:=l1_ h hm
     rcases lN_ hm d c1 with g | g
     ·exact .inl g
     ·right
      have hc:=l6_ (h.ve hm) (h.up m hm).1 hr
      have:=(xx_ (h.ve hm).2.2.2.2.2.1 (fa_ hc).2.2).2
      unfold Phi at g⊢
      rw [(Ar_ h hm hr).1] at g
      omega
theorem ys_ {m:Int} {w:ac_} (hr:(af_ m w.Ends).Take.Ready=[]):∀d,a5_ m d w=w
  | 0=>rfl
  | d+1=>by simp only [a5_];rw [if_pos hr]
theorem rU_ {s:ac_×List DKey} (h:qE_ S A Gi s):Kn A 1 (aC_ ev s).1∨((af_ 1 (aC_ ev s).1.Ends).Take.Ready=[]∨Phi 1 (aC_ ev s).1+4≤Phi 1 s.1)∧((af_ 1 s.1.Ends).Take.Ready=[]→(af_ 1 (aC_ ev s).1.Ends).Take=(af_ 1 s.1.Ends).Take∧(af_ 1 (aC_ ev s).1.Ends).Peer=(af_ 1 s.1.Ends).Peer):=by
  obtain ⟨a1,a2,a3⟩:=jB_ h.core h.fl
  obtain ⟨b1,b2,b3⟩:=fE_ (ev:=ev) (aZ_ s.1).Flight s.2 a1 a3
  obtain ⟨c1,c2,c3⟩:=dh_ (n:=1) (by omega) 4 b1
  obtain ⟨d1,d2,d3⟩:=dh_ (n:=2) (by omega) 4 c1
  have ef:af_ 1 (aC_ ev s).1.Ends=af_ 1 (a5_ 1 4 (bR_ ev (aZ_ s.1).Flight s.2 (cd_ (aZ_ s.1) [])).1).Ends:=by
    unfold aC_
    exact k7_ (m:=2) (j:=1) (by omega) (by omega) (by omega) 4 c1
  rcases pT_ (ev:=ev) (n:=1) (by omega) (aZ_ s.1).Flight s.2 a1 a3 with g | g
  ·exact .inl (dg_ (by omega) _ _ b1 d1 (c2.trans d2) g)
  ·right
   have tb:af_ 1 (cd_ (aZ_ s.1) []).Ends=(a1_ (af_ 1 s.1.Ends)).End:=hG_ s.1 (by omega)
   obtain ⟨e1,e2,e3,e4,e5⟩:=fH_ (h.core.ve (n:=1) (by omega))
   rw [tb] at g
   have hp:=lN_ (S:=S) (A:=A) (Gi:=Gi) (m:=1) (by omega) 4 b1
   refine ⟨?_,fun hr=> ?_⟩
   ·rw [ef]
    unfold Phi at hp⊢
    rw [ef]
    rw [g,e4] at hp
    exact hp
   ·rw [ef,ys_ (by rw [g,e4];exact hr),g,e4,e3]
    exact ⟨rfl,rfl⟩
theorem Gx_ (s:ac_×List DKey) (h:qE_ S A Gi s):Kn A 1 (a2_ ev 3 s).1∨(af_ 1 (a2_ ev 3 s).1.Ends).Take.Ready=[]:=by
  have e3:a2_ ev 3 s=aC_ ev (aC_ ev (aC_ ev s)):=rfl
  rw [e3]
  obtain ⟨r1,m1,_⟩:=eK_ (ev:=ev) h
  obtain ⟨r2,m2,_⟩:=eK_ (ev:=ev) r1
  obtain ⟨r3,m3,_⟩:=eK_ (ev:=ev) r2
  have v:=(h.core.ve (n:=1) (by omega)).2.2.2.2.2.1
  have hphi:Phi 1 s.1≤12:=by have:=v.2.1;have:=v.2.2.2.1;unfold Phi;omega
  have step:∀{s:ac_×List DKey} (x:Nat),qE_ S A Gi s→((af_ 1 s.1.Ends).Take.Ready=[]∨Phi 1 s.1≤x)→Kn A 1 (aC_ ev s).1∨((af_ 1 (aC_ ev s).1.Ends).Take.Ready=[]∨Phi 1 (aC_ ev s).1+4≤x):=fun x h hx=>by
    rcases rU_ (ev:=ev) h with g | ⟨g1,g2⟩
    ·exact .inl g
    ·right
     rcases hx with hx | hx
     ·left;rw [(g2 hx).1];exact hx
     ·rcases g1 with g1 | g1
      ·exact .inl g1
      ·exact .inr (by omega)
  have st:=dg_ (S:=S) (A:=A) (Gi:=Gi) (n:=1) (by omega)
  rcases step 12 h (.inr hphi) with g | g
  ·exact .inl (st _ _ r2.core r3.core m3 (st _ _ r1.core r2.core m2 g))
  rcases step 8 r1 (by rcases g with g | g;exact .inl g;exact .inr (by omega)) with g | g
  ·exact .inl (st _ _ r2.core r3.core m3 g)
  rcases step 4 r2 (by rcases g with g | g;exact .inl g;exact .inr (by omega)) with g | g
  ·exact .inl g
  ·right
   rcases g with g | g
   ·exact g
   ·unfold Phi at g
    exact List.length_eq_zero_iff.mp (by omega)
theorem Ej_ (hev:1≤ev∧ev≤10) {s:ac_×List DKey} (h:qE_ S A Gi s) (h1:¬Kn A 1 s.1) (h2:¬Kn A 2 s.1) (hr:(af_ 1 s.1.Ends).Take.Ready=[]):Kn A 1 (a2_ ev (6*ev.toNat) s).1∨Kn A 2 (a2_ ev (6*ev.toNat) s).1:=by
  have st:Bp_ S A Gi (fun w=>Kn A 1 w∨Kn A 2 w):=fun w w' h h' m hz=>by
    rcases hz with z | z
    ·exact .inl (dg_ (by omega) _ _ h h' m z)
    ·exact .inr (dg_ (by omega) _ _ h h' m z)
  refine ob_ (S:=S) (A:=A) (Gi:=Gi) hev (n:=1) (by omega) (q0:=⟨1,1,A 1,(af_ 1 s.1.Ends).Peer,(tkM (af_ 1 s.1.Ends).Take).1,(tkM (af_ 1 s.1.Ends).Take).2,0,false,noB⟩) (Z:=fun w=>Kn A 1 w∨Kn A 2 w)
    (Inv:=fun w=>(af_ 1 w.Ends).Take=(af_ 1 s.1.Ends).Take∧(af_ 1 w.Ends).Peer=(af_ 1 s.1.Ends).Peer) (K:=s.1.Key) (W:=s.1.Width) st ?_ ?_ ?_ (6*ev.toNat) s h ⟨rfl,rfl⟩ rfl rfl ?_
  ·intro s' h' hI
   rcases rU_ (ev:=ev) h' with g | ⟨g1,g2⟩
   ·exact .inl (.inl g)
   ·right
    have:=g2 (by rw [hI.1];exact hr)
    exact ⟨this.1.trans hI.1,this.2.trans hI.2⟩
  ·intro w hw hI
   unfold np_
   rw [hI.1,hI.2,hw.num (by omega),(hw.up 1 (by omega)).2]
  ·intro s' w' p h' hI hc hm f
   right
   exact s9_ hc f
  ·have:=Az_ hev (cG_ s.2 ⟨3-1,dn_ ⟨1,1,A 1,(af_ 1 s.1.Ends).Peer,(tkM (af_ 1 s.1.Ends).Take).1,(tkM (af_ 1 s.1.Ends).Take).2,0,false,noB⟩ s.1.Key s.1.Width⟩) (h.core.ve (n:=1) (by omega)).2.2.2.1.1
   omega
theorem lq_ {w:ac_} (h:Core0 A Gi w) {n:Int} (hn:1≤n∧n≤2) (hk:¬Kn A n w):iQ_ Gi n (A n) (A (3-n))=[]:=by
  have e:aE_ Gi ⟨n,A n,A (3-n)⟩=[]:=kT_ fun r hr e=>by
    simp only [kf,DPair.mk.injEq] at e
    have hlt:=h.peer hn
    have hne:¬(af_ n w.Ends).Peer=A (3-n):=hk
    rw [←h.G] at hr
    have hul:=h.up n hn
    rcases (h.D n hn).gf r hr e.1 with g | ⟨g,g'⟩
    ·rw [hul.2] at g;omega
    ·have:=g' hul.1;omega
  unfold iQ_
  rw [e];rfl
theorem AC_ {w:ac_} (h:Core0 A Gi w) {n:Int} (hn:1≤n∧n≤2) (hk:Kn A n w) (hp:iQ_ Gi (3-n) (A (3-n)) (A n)=[]):(af_ n w.Ends).Take.Next=0∧(af_ n w.Ends).Take.Held=[]∧(af_ n w.Ends).Take.Ready=[]:=by
  have tk:=yl_ h hn hk
  rw [hp] at tk
  have hN:=tk.N
  have h0:=tk.V.1.1
  have hJ:=tk.J
  simp only [List.take_nil,eo_,Prod.mk.injEq] at hJ
  refine ⟨by simp at hN;omega, ?_, ?_⟩
  ·cases hh:(af_ n w.Ends).Take.Held with
   | nil=>rfl
   | cons x t=>
     have:=(tk.M x (by rw [hh];simp)).2
     simp at this
  ·have:=hJ.1
   have:=List.append_eq_nil_iff.mp this.symm
   exact this.2
theorem Cn_ (hev:1≤ev∧ev≤10) {n:Int} (hn:1≤n∧n≤2) {s:ac_×List DKey} (h:qE_ S A Gi s) (h1:Kn A n s.1):Kn A n (a2_ ev (6*ev.toNat) s).1∧Kn A (3-n) (a2_ ev (6*ev.toNat) s).1:=by
  refine ⟨aU_ (dg_ hn) h h1 _, ?_⟩
  by_cases h2:Kn A (3-n) s.1
  ·exact aU_ (dg_ (by omega)) h h2 _
  have hm:1≤3-n∧3-n≤2:=by omega
  have hp:=lq_ h.core.toCore0 hm h2
  rw [eH_] at hp
  refine ob_ (S:=S) (A:=A) (Gi:=Gi) hev (n:=n) hn (q0:=⟨1,n,A n,A (3-n),0,0,0,false,noB⟩) (Z:=Kn A (3-n)) (Inv:=Kn A n) (K:=s.1.Key) (W:=s.1.Width) (dg_ hm) ?_ ?_ ?_ (6*ev.toNat) s h h1 rfl rfl ?_
  ·intro s' h' hI
   obtain ⟨r1,r2,_⟩:=eK_ (ev:=ev) h'
   exact .inr (dg_ hn _ _ h'.core r1.core r2 hI)
  ·intro w hw hI
   obtain ⟨t1,t2,t3⟩:=AC_ hw.toCore0 hn hI hp
   have htk:tkM (af_ n w.Ends).Take=(0,0):=by
     unfold tkM
     rw [if_pos (hw.ve hn).2.2.2.2.2.1,t1,t2]
     rfl
   unfold np_
   rw [htk,hw.num hn,(hw.up n hn).2,show (af_ n w.Ends).Peer=A (3-n) from hI]
  ·intro s' w' p h' hI hc hm f
   exact s9_ hc f
  ·have:=Az_ hev (cG_ s.2 ⟨3-n,dn_ ⟨1,n,A n,A (3-n),0,0,0,false,noB⟩ s.1.Key s.1.Width⟩) (h.core.ve hn).2.2.2.1.1
   omega
theorem zx_ (hev:1≤ev∧ev≤10) {s:ac_×List DKey} (h:qE_ S A Gi s):Kn A 1 (a2_ ev (3+12*ev.toNat) s).1∧Kn A 2 (a2_ ev (3+12*ev.toNat) s).1:=by
  rw [show 3+12*ev.toNat=3+(6*ev.toNat+6*ev.toNat) by omega,dX_,dX_]
  obtain ⟨r1,r2⟩:=cq_ (ev:=ev) 3 h
  have d:=Gx_ (ev:=ev) s h
  generalize a2_ ev 3 s=s3 at*
  obtain ⟨u1,u2⟩:=cq_ (ev:=ev) (6*ev.toNat) r1
  have both:Kn A 1 (a2_ ev (6*ev.toNat) s3).1∨Kn A 2 (a2_ ev (6*ev.toNat) s3).1:=by
    by_cases k1:Kn A 1 s3.1
    ·exact .inl (aU_ (dg_ (by omega)) r1 k1 _)
    by_cases k2:Kn A 2 s3.1
    ·exact .inr (aU_ (dg_ (by omega)) r1 k2 _)
    rcases d with g | g
    ·exact absurd g k1
    ·exact Ej_ hev r1 k1 k2 g
  rcases both with g | g
  ·have:=Cn_ hev (n:=1) (by omega) u1 g
   exact this
  ·have:=Cn_ hev (n:=2) (by omega) u1 g
   exact ⟨this.2,this.1⟩
structure Cj_ (S:Nat) (A:Int→Int) (Gi:List aa_) (w:ac_):Prop where
  core:gV_ S A Gi w
  kn:Kn A 1 w∧Kn A 2 w
  items:(af_ 1 w.Ends).Send.Items=[]∧(af_ 2 w.Ends).Send.Items=[]
  ready:(af_ 1 w.Ends).Take.Ready=[]∧(af_ 2 w.Ends).Take.Ready=[]
theorem mz_ {w:ac_} (h:gV_ S A Gi w) {n:Int} (hn:1≤n∧n≤2) (h1:Kn A n w) (h2:Em A (3-n) w):(af_ n w.Ends).Take.Held=[]∧(af_ n w.Ends).Take.Open=noB∧aE_ Gi ⟨3-n,A (3-n),A n⟩=aE_ w.Taken ⟨3-n,A (3-n),A n⟩++(af_ n w.Ends).Take.Ready:=by
  have hm:1≤3-n∧3-n≤2:=by omega
  obtain ⟨i1,i2⟩:=vs_ h.toCore0 hm h2.1
  rw [h2.2,eH_] at i1
  have p1:=(AR_ h.toCore0 hm h2.1 (by rw [eH_];exact h1)).1
  rw [eH_] at p1
  have tk:=yl_ h.toCore0 hn h1
  have hN:=tk.N
  have hb0:=(h.ve hm).2.2.2.2.1.2.1.1
  simp only [List.length_nil,Nat.add_zero] at i1
  have hnext:(af_ n w.Ends).Take.Next=(iQ_ Gi (3-n) (A (3-n)) (A n)).length:=by omega
  have hJ:=tk.J
  rw [List.take_of_length_le (by omega),px_ (by rw [←h.G];exact h.V.2.2.2.2.2.2.1)] at hJ
  simp only [Prod.mk.injEq] at hJ
  refine ⟨?_,hJ.2.1.symm,hJ.1⟩
  cases hh:(af_ n w.Ends).Take.Held with
  | nil=>rfl
  | cons x t=>
    obtain ⟨m1,m2⟩:=tk.M x (by rw [hh];simp)
    have:=zP_ m1 m2
    have hw:=tk.V.2.2.2.2.2.1
    rw [hh] at hw
    have:=hw.1.1
    omega
theorem oz_ (d:Nat) (s:ac_×List DKey):a2_ ev (d+1) s=aC_ ev (a2_ ev d s):=by rw [dX_];rfl
theorem Ay_ {s:ac_×List DKey} (h:qE_ S A Gi s) (h1:Em A 1 s.1) (h2:Em A 2 s.1):Cj_ S A Gi (aC_ ev s).1:=by
  obtain ⟨a1,a2,a3⟩:=jB_ h.core h.fl
  obtain ⟨b1,b2,b3⟩:=fE_ (ev:=ev) (aZ_ s.1).Flight s.2 a1 a3
  obtain ⟨c1,c2,c3⟩:=dh_ (n:=1) (by omega) 4 b1
  obtain ⟨d1,d2,d3⟩:=dh_ (n:=2) (by omega) 4 c1
  have e1:=ms_ (S:=S) (A:=A) (Gi:=Gi) (n:=1) (by omega)
  have e2:=ms_ (S:=S) (A:=A) (Gi:=Gi) (n:=2) (by omega)
  have f1:=e1 _ _ h.core b1 (a2.trans b2) h1
  have f2:=e2 _ _ h.core b1 (a2.trans b2) h2
  have g1:=e1 _ _ b1 c1 c2 f1
  have g2:=e2 _ _ b1 c1 c2 f2
  have k1:=e1 _ _ c1 d1 d2 g1
  have k2:=e2 _ _ c1 d1 d2 g2
  have p1:=lN_ (S:=S) (A:=A) (Gi:=Gi) (m:=1) (by omega) 4 b1
  have p2:=lN_ (S:=S) (A:=A) (Gi:=Gi) (m:=2) (by omega) 4 c1
  have ef:af_ 1 (a5_ 2 4 (a5_ 1 4 (bR_ ev (aZ_ s.1).Flight s.2 (cd_ (aZ_ s.1) [])).1)).Ends=af_ 1 (a5_ 1 4 (bR_ ev (aZ_ s.1).Flight s.2 (cd_ (aZ_ s.1) [])).1).Ends:=
    k7_ (m:=2) (j:=1) (by omega) (by omega) (by omega) 4 c1
  have h1':=(mz_ b1 (n:=1) (by omega) f1.1 f2).1
  have h2':=(mz_ c1 (n:=2) (by omega) g2.1 g1).1
  have r1:=(b1.ve (n:=1) (by omega)).2.2.2.2.2.1.2.2.2.1
  have r2:=(c1.ve (n:=2) (by omega)).2.2.2.2.2.1.2.2.2.1
  unfold aC_
  refine ⟨d1,⟨k1.1,k2.1⟩,⟨k1.2,k2.2⟩, ?_, ?_⟩
  ·dsimp only
   rw [ef]
   rcases p1 with g | g
   ·exact g
   ·unfold Phi at g
    rw [h1'] at g
    simp only [List.length_nil] at g
    exact List.length_eq_zero_iff.mp (by omega)
  ·dsimp only
   rcases p2 with g | g
   ·exact g
   ·unfold Phi at g
    rw [h2'] at g
    simp only [List.length_nil] at g
    exact List.length_eq_zero_iff.mp (by omega)
theorem DT_ (hev:1≤ev∧ev≤10) {s:ac_×List DKey} (h:qE_ S A Gi s) {N R:Nat} (h1:(af_ 1 s.1.Ends).Send.Items.length≤N) (h2:(af_ 2 s.1.Ends).Send.Items.length≤N) (hR:3+12*ev.toNat+12*ev.toNat*N+1≤R):Cj_ S A Gi (a2_ ev R s).1:=by
  obtain ⟨d,rfl⟩:∃d,R=3+12*ev.toNat+(12*ev.toNat*N+(d+1)):=⟨R-(3+12*ev.toNat+12*ev.toNat*N+1),by omega⟩
  rw [dX_,dX_,oz_]
  have hk:=zx_ hev h
  obtain ⟨r1,m1⟩:=cq_ (ev:=ev) (3+12*ev.toNat) h
  have l1:=(m1 1 (by omega)).len
  have l2:=(m1 2 (by omega)).len
  generalize a2_ ev (3+12*ev.toNat) s=s1 at*
  have e1:=Dl_ hev (n:=1) (by omega) N r1 hk.1 hk.2 (by omega)
  have e2:=Dl_ hev (n:=2) (by omega) N r1 hk.2 hk.1 (by omega)
  obtain ⟨r2,_⟩:=cq_ (ev:=ev) (12*ev.toNat*N) r1
  generalize a2_ ev (12*ev.toNat*N) s1=s2 at*
  obtain ⟨r3,_⟩:=cq_ (ev:=ev) d r2
  exact Ay_ r3 (aU_ (ms_ (by omega)) r2 e1 d) (aU_ (ms_ (by omega)) r2 e2 d)
end
end Km.X
namespace Km.X
open Go Km
set_option linter.unusedVariables false
set_option linter.unusedSimpArgs false
section
variable {S:Nat} {A:Int→Int} {Gi:List aa_} {ev:Int}
def Lv (A:Int→Int) (w:ac_):Prop:=∀n,1≤n∧n≤2→(af_ n w.Ends).Up=true∧(af_ n w.Ends).Life=A n
theorem DS_ {l:List an_} (hl:iO_ l) (h:∀n,1≤n∧n≤2→(af_ n l).Up=true∧(af_ n l).Life=A n) {n:Int} (hn:1≤n∧n≤2) {x:an_} (hx:x.Up=(af_ n l).Up∧x.Life=(af_ n l).Life):∀m,1≤m∧m≤2→(af_ m (c1_ n x l)).Up=true∧(af_ m (c1_ n x l)).Life=A m:=fun m hm=>by
  rw [bz_ hl hn hm]
  split
  ·rename_i e;rw [e,hx.1,hx.2];exact h n hn
  ·exact h m hm
theorem A6_ {w:ac_} (hV:au_ w) (h:Lv A w) {p:ad_} (hp:vn_ p):Lv A (aT_ w p):=by
  unfold aT_
  split
  ·have:=rI_ (a6_ hV.2.2.2.2.1 hp.1).1 (hd_ p.Bytes w.Key w.Width).1
   exact DS_ hV.2.2.2.2.1 h hp.1 ⟨this.2,this.1⟩
  ·exact h
theorem Cz_ {w:ac_} (hV:au_ w) (h:Lv A w) {n:Int} (hn:1≤n∧n≤2):Lv A (eb_ w n):=by
  unfold eb_
  split
  ·rename_i hc
   have:=(fa_ hc.2).1
   exact DS_ hV.2.2.2.2.1 h hn (by rw [this];exact ⟨rfl,rfl⟩)
  ·exact h
theorem kD_:∀(t:List ad_) (k:List DKey) (w:ac_),(bR_ ev t k w).1.Forged=noB→w.Forged=noB
  | [],k,w,h=>h
  | p::t,k,w,h=>by
    simp only [bR_] at h
    have:=kD_ t _ _ h
    split at this
    ·exact (hK_ this).1
    ·exact this
theorem gg_ (n:Int):∀(d:Nat) (w:ac_),(a5_ n d w).Forged=w.Forged
  | 0,w=>rfl
  | d+1,w=>by
    simp only [a5_]
    split
    ·rfl
    ·rw [gg_ n d,kO_]
theorem uf_ {s:ac_×List DKey} (h:(aC_ ev s).1.Forged=noB):s.1.Forged=noB:=by
  unfold aC_ at h
  dsimp only at h
  rw [gg_,gg_] at h
  have:=kD_ _ _ _ h
  exact this
theorem ip_:∀(d:Nat) {s:ac_×List DKey},(a2_ ev d s).1.Forged=noB→s.1.Forged=noB
  | 0,s,h=>h
  | d+1,s,h=>uf_ (ip_ d (s:=aC_ ev s) h)
theorem mj_ (t0:List ad_) (h1:t0.length≤1000) (h2:hY_ t0):∀(t:List ad_) (k:List DKey) (w:ac_),(∀p∈t,p∈t0)→au_ w→WInv (cd_ w t0)→Lv A w→(bR_ ev t k w).1.Forged=noB→
    au_ (bR_ ev t k w).1∧WInv (cd_ (bR_ ev t k w).1 t0)∧Lv A (bR_ ev t k w).1∧(bR_ ev t k w).1.Given=w.Given∧(bR_ ev t k w).1.Taken=w.Taken
  | [],k,w,ht,hV,hI,hL,hf=>⟨hV,hI,hL,rfl,rfl⟩
  | p::t,k,w,ht,hV,hI,hL,hf=>by
    simp only [bR_] at hf⊢
    have hp:=ht p (List.mem_cons_self ..)
    have ht':∀p∈t,p∈t0:=fun p' h'=>ht p' (List.mem_cons_of_mem _ h')
    split
    ·rename_i hc
     rw [if_pos hc] at hf
     have hfb:=kD_ _ _ _ hf
     have hb:WInv (cd_ (aT_ w p) t0):=by
       rw [←pP_]
       refine t9_ (hO_ hV h1 h2) hI (h2 p hp) (hI.fl p hp) ?_
       rw [pP_];exact hfb
     obtain ⟨a,b,c,d,e⟩:=mj_ t0 h1 h2 t _ (aT_ w p) ht' (lr_ hV (h2 p hp).1) hb (A6_ hV hL (h2 p hp)) hf
     refine ⟨a,b,c,d.trans (p5_ w p),e.trans ?_⟩
     unfold aT_;split<;>rfl
    ·rename_i hc
     rw [if_neg hc] at hf
     exact mj_ t0 h1 h2 t _ w ht' hV hI hL hf
theorem kF_ {n:Int} (hn:1≤n∧n≤2):∀(d:Nat) (w:ac_),au_ w→WInv w→Lv A w→au_ (a5_ n d w)∧WInv (a5_ n d w)∧Lv A (a5_ n d w)∧(a5_ n d w).Taken.length≤w.Taken.length+d
  | 0,w,hV,hI,hL=>⟨hV,hI,hL,Nat.le_refl _⟩
  | d+1,w,hV,hI,hL=>by
    simp only [a5_]
    split
    ·exact ⟨hV,hI,hL,by omega⟩
    ·obtain ⟨a,b,c,e⟩:=kF_ hn d (eb_ w n) (mv_ hV hn) (xy_ hV hI hn) (Cz_ hV hL hn)
     refine ⟨a,b,c, ?_⟩
     have:(eb_ w n).Taken.length≤w.Taken.length+1:=by unfold eb_;split<;>simp
     omega
theorem xR_ {w:ac_} (h:Core0 A Gi w):pot A Gi 1 (af_ 1 w.Ends)+pot A Gi 2 (af_ 2 w.Ends)≤132:=by
  have one:∀n,1≤n∧n≤2→Kn A n w→Kn A (3-n) w→pot A Gi n (af_ n w.Ends)≤64:=fun n hn k1 k2=>by
    have hm:1≤3-n∧3-n≤2:=by omega
    have v:=(h.ve hn).2.2.2.2.2.1.2.2.2.1
    have hS:=(h.ve hm).2.2.2.2.1
    obtain ⟨i1,i2⟩:=vs_ h hm k2
    have p1:=(AR_ h hm k2 (by rw [eH_];exact k1)).1
    rw [eH_] at i1 p1
    have:=hS.1
    have:=hS.2.1.1
    unfold pot
    rw [if_pos (show (af_ n w.Ends).Peer=A (3-n) from k1)]
    omega
  have none:∀n,1≤n∧n≤2→¬Kn A n w→pot A Gi n (af_ n w.Ends)≤12+(iQ_ Gi (3-n) (A (3-n)) (A n)).length:=fun n hn k1=>by
    have v:=(h.ve hn).2.2.2.2.2.1
    have:=v.2.1
    have:=v.2.2.2.1
    unfold pot
    rw [if_neg (show¬(af_ n w.Ends).Peer=A (3-n) from k1)]
    omega
  have half:∀n,1≤n∧n≤2→Kn A n w→¬Kn A (3-n) w→pot A Gi n (af_ n w.Ends)=0∧pot A Gi (3-n) (af_ (3-n) w.Ends)≤72:=fun n hn k1 k2=>by
    have hm:1≤3-n∧3-n≤2:=by omega
    have hp:=lq_ h hm k2
    rw [eH_] at hp
    obtain ⟨t1,t2,t3⟩:=AC_ h hn k1 hp
    refine ⟨?_, ?_⟩
    ·unfold pot
     rw [if_pos (show (af_ n w.Ends).Peer=A (3-n) from k1),t3,hp]
     simp
    ·have hb:=none (3-n) hm k2
     rw [eH_] at hb
     obtain ⟨i1,i2⟩:=vs_ h hn k1
     have hl:=(h.up (3-n) hm)
     have e2:¬(af_ (3-n) w.Ends).Peer=A n:=fun e=>k2 (by unfold Kn;rw [eH_];exact e)
     have p2:=((h.D n hn).p2 (by rw [hl.2];exact k1) hl.1 (by rw [(h.up n hn).2];exact e2)).1
     have hS:=(h.ve hn).2.2.2.2.1.1
     rw [p2] at i1
     simp only [Int.toNat_zero,Nat.zero_add] at i1
     omega
  have hm:(1:Int)≤1∧(1:Int)≤2:=by omega
  have hn:(1:Int)≤2∧(2:Int)≤2:=by omega
  by_cases k1:Kn A 1 w
  ·by_cases k2:Kn A 2 w
   ·have:=one 1 hm k1 k2
    have:=one 2 hn k2 k1
    omega
   ·have:=half 1 hm k1 k2
    have:=this.1
    have:pot A Gi 2 (af_ 2 w.Ends)≤72:=(half 1 hm k1 k2).2
    omega
  ·by_cases k2:Kn A 2 w
   ·have h1:=(half 2 hn k2 k1).1
    have:pot A Gi 1 (af_ 1 w.Ends)≤72:=(half 2 hn k2 k1).2
    omega
   ·have h1:=none 1 hm k1
    have h2:=none 2 hn k2
    have e1:=lq_ h hn k2
    have e2:=lq_ h hm k1
    rw [show iQ_ Gi (3-1) (A (3-1)) (A 1)=[] from e1] at h1
    rw [show iQ_ Gi (3-2) (A (3-2)) (A 2)=[] from e2] at h2
    simp only [List.length_nil] at h1 h2
    omega
theorem DV_ {w:ac_} {k:List DKey} (hV:au_ w) (hI:WInv w) (hL:Lv A w) (hf:(aC_ ev (w,k)).1.Forged=noB):Core0 A w.Given (aC_ ev (w,k)).1∧(aC_ ev (w,k)).1.Taken.length≤w.Taken.length+8:=by
  have hfl:(bR_ ev (aZ_ w).Flight k (cd_ (aZ_ w) [])).1.Forged=noB:=by
    unfold aC_ at hf
    dsimp only at hf
    rwa [gg_,gg_] at hf
  have tV:=jD_ hV
  have tI:=xd_ hV hI
  have tL:Lv A (aZ_ w):=fun n hn=>by
    rw [hG_ w hn]
    have:=rW_ (a6_ hV.2.2.2.2.1 hn).1
    rw [this.1,this.2];exact hL n hn
  obtain ⟨a1,a2,a3,a4,a5⟩:=mj_ (A:=A) (ev:=ev) (aZ_ w).Flight tV.2.2.1 tV.2.2.2.2.2.1 (aZ_ w).Flight k (cd_ (aZ_ w) []) (fun _ h=>h) (pX_ tV) tI tL hfl
  have b0:WInv (bR_ ev (aZ_ w).Flight k (cd_ (aZ_ w) [])).1:=by
    refine ⟨a2.two,fun p hp=> ?_⟩
    rw [sz_] at hp
    cases hp
  obtain ⟨b1,b2,b3,b4⟩:=kF_ (A:=A) (n:=1) (by omega) 4 _ a1 b0 a3
  obtain ⟨c1,c2,c3,c4⟩:=kF_ (A:=A) (n:=2) (by omega) 4 _ b1 b2 b3
  have hg:(aC_ ev (w,k)).1.Given=w.Given:=wu_ ev (w,k)
  have core0:Core0 A w.Given (aC_ ev (w,k)).1:=⟨c1,c2.two,hf,hg,c3⟩
  refine ⟨core0, ?_⟩
  unfold aC_
  dsimp only
  have:(bR_ ev (aZ_ w).Flight k (cd_ (aZ_ w) [])).1.Taken=w.Taken:=a5
  rw [this] at b4
  omega
theorem vO_ {w:ac_} {k:List DKey} (hV:au_ w) (hI:WInv w) (hL:Lv A w) (hr:w.Given.length+w.Taken.length≤260) (hf:(aC_ ev (w,k)).1.Forged=noB):qE_ 400 A w.Given (aC_ ev (w,k)):=by
  obtain ⟨core0,ht⟩:=DV_ hV hI hL hf
  have hp:=xR_ core0
  exact ⟨⟨core0,by omega,Nat.le_refl _⟩,sl_ _⟩
theorem zV_ {x:an_} (hv:VEnd x) (p:ae_):(eL_ x p).End.Send.Items.length≤x.Send.Items.length:=by
  unfold eL_
  rw [if_pos hv]
  split
  ·rename_i hc
   have hS:=(vk_ hv hc.1 hc.2.1).1.2.2.2.2.1
   have h1:(jM_ x p).Send.Items.length≤x.Send.Items.length:=by unfold jM_;split<;>simp [id_]
   refine Nat.le_trans ?_ h1
   unfold gZ_
   split
   ·split
    ·have:=s6_ (jM_ x p).Send hS p.Next p.Mask
     dsimp only;omega
    ·exact Nat.le_refl _
   ·exact Nat.le_refl _
  ·exact Nat.le_refl _
def LenLe (w w':ac_):Prop:=∀n,1≤n∧n≤2→(af_ n w'.Ends).Send.Items.length≤(af_ n w.Ends).Send.Items.length
theorem LenLe.trans {w x y:ac_} (h:LenLe w x) (g:LenLe x y):LenLe w y:=fun n hn=>Nat.le_trans (g n hn) (h n hn)
theorem Ck_ {w:ac_} (hV:au_ w) {n:Int} (hn:1≤n∧n≤2) {x:an_} (hx:x.Send.Items.length≤(af_ n w.Ends).Send.Items.length):∀m,1≤m∧m≤2→(af_ m (c1_ n x w.Ends)).Send.Items.length≤(af_ m w.Ends).Send.Items.length:=fun m hm=>by
  rw [bz_ hV.2.2.2.2.1 hn hm]
  split
  ·rename_i e;rw [e];exact hx
  ·exact Nat.le_refl _
theorem An_ {w:ac_} (hV:au_ w) {p:ad_} (hp:vn_ p):LenLe w (aT_ w p):=by
  unfold aT_
  split
  ·exact Ck_ hV hp.1 (zV_ (a6_ hV.2.2.2.2.1 hp.1).1 _)
  ·exact fun n hn=>Nat.le_refl _
theorem r2_:∀(t:List ad_) (k:List DKey) {w:ac_},au_ w→hY_ t→LenLe w (bR_ ev t k w).1
  | [],k,w,hV,ht=>fun n hn=>Nat.le_refl _
  | p::t,k,w,hV,ht=>by
    simp only [bR_]
    have hp:=ht p (List.mem_cons_self ..)
    have ht':hY_ t:=fun p' h'=>ht p' (List.mem_cons_of_mem _ h')
    split
    ·exact (An_ hV hp).trans (r2_ t _ (lr_ hV hp.1) ht')
    ·exact r2_ t _ hV ht'
theorem o9_ {n:Int} (hn:1≤n∧n≤2):∀(d:Nat) {w:ac_},au_ w→LenLe w (a5_ n d w)
  | 0,w,hV=>fun n hn=>Nat.le_refl _
  | d+1,w,hV=>by
    simp only [a5_]
    split
    ·exact fun n hn=>Nat.le_refl _
    ·refine LenLe.trans ?_ (o9_ hn d (mv_ hV hn))
     unfold eb_
     split
     ·rename_i hc
      exact Ck_ hV hn (by rw [(fa_ hc.2).1];exact Nat.le_refl _)
     ·exact fun n hn=>Nat.le_refl _
theorem zq_ {s:ac_×List DKey} (hV:au_ s.1):LenLe s.1 (aC_ ev s).1:=by
  have tV:=jD_ hV
  have h1:LenLe s.1 (cd_ (aZ_ s.1) []):=fun n hn=>by
    show (af_ n (aZ_ s.1).Ends).Send.Items.length≤_
    have hv:=(a6_ hV.2.2.2.2.1 hn).1
    rw [hG_ s.1 hn]
    exact (ta_ hv).len
  have h2:=r2_ (ev:=ev) (aZ_ s.1).Flight s.2 (pX_ tV) tV.2.2.2.2.2.1
  have v2:=s8_ ev (aZ_ s.1).Flight s.2 (cd_ (aZ_ s.1) []) (pX_ tV) tV.2.2.2.2.2.1
  have h3:=o9_ (n:=1) (by omega) 4 v2
  have v3:=lm_ (n:=1) (by omega) 4 _ v2
  have h4:=o9_ (n:=2) (by omega) 4 v3
  exact h1.trans (h2.trans (h3.trans h4))
theorem BH_ (hev:1≤ev∧ev≤10) {w:ac_} (hV:au_ w) (hI:WInv w) (hL:Lv A w) (hr:w.Given.length+w.Taken.length≤260) {R:Int} {N:Nat} (h1:(af_ 1 w.Ends).Send.Items.length≤N) (h2:(af_ 2 w.Ends).Send.Items.length≤N)
    (hR:((3+12*ev.toNat+12*ev.toNat*N+2:Nat):Int)≤R∧R≤5000) (hf:(kX_ w R ev).Forged=noB):Cj_ 400 A w.Given (kX_ w R ev):=by
  unfold kX_ at hf⊢
  rw [if_pos ⟨hV,hev⟩] at hf⊢
  obtain ⟨d,hd⟩:∃d,(min R 5000).toNat=d+1:=⟨(min R 5000).toNat-1,by omega⟩
  rw [hd] at hf⊢
  have hf1:=ip_ d (s:=aC_ ev (w,[])) hf
  have r1:=vO_ (A:=A) hV hI hL hr hf1
  have len:=zq_ (ev:=ev) (s:=(w,[])) hV
  exact DT_ hev r1 (N:=N) (Nat.le_trans (len 1 (by omega)) h1) (Nat.le_trans (len 2 (by omega)) h2) (by omega)
end
end Km.X
namespace Km.X
open Go Km
set_option linter.unusedVariables false
set_option linter.unusedSimpArgs false
theorem rh_ (l:List aa_) (i a b:Int) (hl:l.length≤1048576):∀(t pre:List aa_),pre++t=l→Wp (fun k=>eC_ k l i a b (pre.length:Int) (aE_ pre ⟨i,a,b⟩)) (· =aE_ l ⟨i,a,b⟩)
  | [],pre,he=>by
    have he':pre=l:=by simpa using he
    refine Wp.step ?_
    simp only [eC_]
    exact Wp.dec (fun g=>by rw [he'] at g;omega) (fun _=>Wp.ret (by rw [he']))
  | r::t,pre,he=>by
    have hlen:pre.length+(t.length+1)=l.length:=by rw [←he];simp
    have hr:=fg_ pre ⟨i,a,b⟩
    have ih:=rh_ l i a b hl t (pre++[r]) (by rw [←he];simp)
    have l4:∀acc,acc=aE_ (pre++[r]) ⟨i,a,b⟩→Wp (fun k=>dA_ k l i a b (pre.length:Int) acc) (· =aE_ l ⟨i,a,b⟩):=fun acc e=>by
      refine Wp.step ?_
      simp only [dA_]
      rw [aS_ (by omega) (by omega),e]
      rw [show ((pre++[r]).length:Int)=(pre.length:Int)+1 by simp] at ih
      exact ih
    refine Wp.step ?_
    simp only [eC_]
    have i1:idx l (pre.length:Int)=some r:=by rw [←he];exact aI_
    refine Wp.dec (fun _=> ?_) (fun g=>by omega)
    simp only [i1,Option.bind_some,fl_]
    refine Wp.ite (fun h1=> ?_) (fun h1=>l4 _ (by rw [bt_,if_neg (fun e=>h1 (by simp only [kf,DPair.mk.injEq] at e;exact e.1.symm))]))
    refine Wp.ite (fun h2=> ?_) (fun h2=>l4 _ (by rw [bt_,if_neg (fun e=>h2 (by simp only [kf,DPair.mk.injEq] at e;exact e.2.1.symm))]))
    refine Wp.ite (fun h3=> ?_) (fun h3=>l4 _ (by rw [bt_,if_neg (fun e=>h3 (by simp only [kf,DPair.mk.injEq] at e;exact e.2.2.symm))]))
    refine Wp.opt (aQ_ (by simp;omega)) ?_
    exact l4 _ (by rw [bt_,if_pos (by simp only [kf,DPair.mk.injEq];exact ⟨h1.symm,h2.symm,h3.symm⟩)])
theorem wX_ (l:List aa_) (i a b:Int) (hl:l.length≤1048576):Wp (fun k=>h1_ k l i a b) (· =aE_ l ⟨i,a,b⟩):=by
  unfold h1_
  exact rh_ l i a b hl l [] rfl
section
variable {S:Nat} {A:Int→Int} {Gi:List aa_}
theorem zO_ {w:ac_} (h:Cj_ S A Gi w):decide (yu_ w)=true:=by
  have e1:=(mz_ h.core (n:=1) (by omega) h.kn.1 ⟨h.kn.2,h.items.2⟩)
  have e2:=(mz_ h.core (n:=2) (by omega) h.kn.2 ⟨h.kn.1,h.items.1⟩)
  have u1:=h.core.up 1 (by omega)
  have u2:=h.core.up 2 (by omega)
  have k1:(af_ 1 w.Ends).Peer=A 2:=h.kn.1
  have k2:(af_ 2 w.Ends).Peer=A 1:=h.kn.2
  have i1:=h.items
  have r1:=h.ready
  refine decide_eq_true ⟨h.core.V, ?_⟩
  obtain ⟨a,b,hab,_⟩:=df_ h.core.V.2.2.2.2.1
  rw [hab] at e1 e2 u1 u2 k1 k2 i1 r1⊢
  have ea:af_ 1 [a,b]=a:=rfl
  have eb:af_ 2 [a,b]=b:=rfl
  rw [ea] at e1 u1 k1 i1 r1
  rw [eb] at e2 u2 k2 i1 r1
  exact ⟨⟨u1.1,by rw [k1,u2.2],by rw [i1.1];rfl,by rw [e1.1];rfl,e1.2.1,by rw [r1.1];rfl⟩,⟨u2.1,by rw [k2,u1.2],by rw [i1.2];rfl,by rw [e2.1];rfl,e2.2.1,by rw [r1.2];rfl⟩⟩
theorem vl_ {w:ac_} (h:Cj_ S A Gi w) {n:Int} (hn:1≤n∧n≤2):aE_ w.Given ⟨n,A n,A (3-n)⟩=aE_ w.Taken ⟨n,A n,A (3-n)⟩:=by
  have:n=1∨n=2:=by omega
  rw [h.core.G]
  rcases this with rfl | rfl
  ·have:=(mz_ h.core (n:=2) (by omega) h.kn.2 ⟨h.kn.1,h.items.1⟩).2.2
   rw [h.ready.2,List.append_nil] at this
   exact this
  ·have:=(mz_ h.core (n:=1) (by omega) h.kn.1 ⟨h.kn.2,h.items.2⟩).2.2
   rw [h.ready.1,List.append_nil] at this
   exact this
theorem BL_ {w:ac_} (h:Cj_ S A Gi w) (hfl:w.Flight=[]):WInv w:=⟨h.core.D,fun p hp=>by rw [hfl] at hp;cases hp⟩
end
theorem xk_ {ev:Int} (hev:1≤ev∧ev≤4) {w:ac_} (hV:au_ w) (hI:w.Forged=noB→WInv w) (hu:∀n,1≤n∧n≤2→(af_ n w.Ends).Up=true) (hr:w.Given.length+w.Taken.length≤260) {R:Int} {l:Nat} (hl:(af_ 1 w.Ends).Send.Items.length+(af_ 2 w.Ends).Send.Items.length=l)
    (hR:R=40+12*ev*(6+l)∧R≤5000∨R=5000) (hf:(kX_ w R ev).Forged=noB):Cj_ 400 (fun n=>(af_ n w.Ends).Life) w.Given (kX_ w R ev):=by
  have hev':1≤ev∧ev≤10:=by omega
  have hf0:w.Forged=noB:=by
    unfold kX_ at hf
    rw [if_pos ⟨hV,hev'⟩] at hf
    exact ip_ _ hf
  have s1:=(a6_ hV.2.2.2.2.1 (n:=1) (by omega)).1.2.2.2.2.1.1
  have s2:=(a6_ hV.2.2.2.2.1 (n:=2) (by omega)).1.2.2.2.2.1.1
  refine BH_ (A:=fun n=>(af_ n w.Ends).Life) hev' hV (hI hf0) (fun n hn=>⟨hu n hn,rfl⟩) hr (N:=max (af_ 1 w.Ends).Send.Items.length (af_ 2 w.Ends).Send.Items.length) (by omega) (by omega) ?_ hf
  generalize (af_ 1 w.Ends).Send.Items.length=x at*
  generalize (af_ 2 w.Ends).Send.Items.length=y at*
  generalize hm:max x y=N
  have hN:N≤60∧N≤l:=by omega
  have:ev=1∨ev=2∨ev=3∨ev=4:=by omega
  rcases this with rfl | rfl | rfl | rfl<;>(simp only [Int.reduceToNat];omega)
theorem DW_ (K Fo:ByteArray) (W:Int) (F:List ad_) (Gi Ta:List aa_) (e f:an_) (hg:Gi.length≤1000) (ht:Ta.length≤1000) (h1:aE_ Gi ⟨1,e.Life,f.Life⟩=aE_ Ta ⟨1,e.Life,f.Life⟩) (h2:aE_ Gi ⟨2,f.Life,e.Life⟩=aE_ Ta ⟨2,f.Life,e.Life⟩):
    Wp (fun k=>cn_ k 1 K W Fo [e,f] F Gi Ta) (· =true):=by
  have step:∀(n:Int) (a b:an_),(n=1∨n=2)→idx [e,f] (n-1)=some a→[e,f][(n-1).toNat]? =some a→idx [e,f] (2-n)=some b→[e,f][(2-n).toNat]? =some b→aE_ Gi ⟨n,a.Life,b.Life⟩=aE_ Ta ⟨n,a.Life,b.Life⟩→
   Wp (fun k=>cn_ k (n+1) K W Fo [e,f] F Gi Ta) (· =true)→Wp (fun k=>cn_ k n K W Fo [e,f] F Gi Ta) (· =true):=fun n a b hn i1 i2 i3 i4 hh nx=>by
    refine Wp.step ?_
    simp only [cn_]
    refine Wp.dec (fun _=> ?_) (fun g=>by omega)
    rw [aS_ (n:=n-1) (by omega) (by omega),aS_ (n:=2-n) (by omega) (by omega),aS_ (n:=n+1) (by omega) (by omega)]
    simp only [i1,i2,i3,i4,Option.bind_some]
    refine Wp.bind (wX_ Ta n a.Life b.Life (by omega)) (fun _ q=> ?_);subst q
    refine Wp.bind (wX_ Gi n a.Life b.Life (by omega)) (fun _ q=> ?_);subst q
    rw [hh]
    refine Wp.bind (uq_ _ (by have:=fg_ Ta ⟨n,a.Life,b.Life⟩;omega)) (fun _ q=> ?_);subst q
    exact nx
  refine step 1 e f (.inl rfl) rfl rfl rfl rfl h1 ?_
  refine step 2 f e (.inr rfl) rfl rfl rfl rfl h2 ?_
  refine Wp.step ?_
  simp only [cn_]
  exact Wp.dec (fun g=>by omega) (fun _=>Wp.ret rfl)
theorem Ee_ {ev:Int} (hev:1≤ev∧ev≤4) {w:ac_} (hV:au_ w) (R:Int) (hfl:0<R) (h0:(kX_ w R ev).Forged=noB→Cj_ 400 (fun n=>(af_ n w.Ends).Life) w.Given (kX_ w R ev)):Wp (fun k=>fr_ k ev R w.Key w.Width w.Ends w.Flight w.Forged w.Given w.Taken) (· =true):=by
  refine Wp.step ?_
  simp only [fr_]
  refine Wp.bind (vy_ w (e4_ hV) R ev) (fun x hx=> ?_)
  have hxV:au_ x:=by rw [hx];exact CQ_ hV (by omega)
  simp only [bf_,mb_]
  refine Wp.ite (fun hf=> ?_) (fun _=> ?_)
  ·have hf':(kX_ w R ev).Forged=noB:=by rw [←hx];exact hf
   have e0:=h0 hf'
   have xfl:(kX_ w R ev).Flight=[]:=by
     unfold kX_
     rw [if_pos ⟨hV,by omega⟩]
     obtain ⟨d,hd⟩:∃d,(min R 5000).toNat=d+1:=⟨(min R 5000).toNat-1,by omega⟩
     rw [hd,oz_]
     exact sl_ _
   rw [←hx] at e0 xfl
   refine Wp.bind (wf_ x (e4_ hxV)) (fun _ q=> ?_);subst q
   rw [zO_ e0]
   simp only [cond_true]
   have hr:=uC_ hxV (BL_ e0 xfl)
   refine Wp.bind (mW_ x (e4_ hxV)) (fun _ q=> ?_);subst q
   rw [hr]
   simp only [cond_true]
   refine Wp.bind (uv_ x (e4_ hxV)) (fun _ q=> ?_);subst q
   rw [hr]
   simp only [cond_true]
   obtain ⟨a,b,hab,_⟩:=df_ hxV.2.2.2.2.1
   have l1:=(e0.core.up 1 (by omega)).2
   have l2:=(e0.core.up 2 (by omega)).2
   have c1:=vl_ e0 (n:=1) (by omega)
   have c2:=vl_ e0 (n:=2) (by omega)
   have hlen:=hxV.2.2.2.1
   rw [hab] at l1 l2⊢
   have l1':a.Life=(af_ 1 w.Ends).Life:=l1
   have l2':b.Life=(af_ 2 w.Ends).Life:=l2
   exact DW_ _ _ _ _ _ _ a b (by omega) (by omega) (by rw [l1',l2'];exact c1) (by rw [l1',l2'];exact c2)
  ·refine Wp.bind (cr_ x (e4_ hxV)) (fun _ q=> ?_);subst q
   exact Wp.ret (decide_eq_true hxV)
theorem Bq_ {ev:Int} (hev:1≤ev∧ev≤4) {w:ac_} (hV:au_ w) (hI:w.Forged=noB→WInv w) (hu:∀n,1≤n∧n≤2→(af_ n w.Ends).Up=true):Wp (fun k=>jY_ k w ev) (· =true):=by
  unfold jY_
  obtain ⟨a,b,hab,va,_,vb,_⟩:=df_ hV.2.2.2.2.1
  have hlen:=hV.2.2.2.1
  have l1:=va.2.2.2.2.1.1
  have l2:=vb.2.2.2.2.1.1
  simp only [ma_]
  refine Wp.ite (fun _=> ?_) (fun g=>absurd (by rw [hab];rfl) g)
  have i1:idx w.Ends 0=some a:=by rw [hab];rfl
  have i2:idx w.Ends 1=some b:=by rw [hab];rfl
  simp only [i1,i2,Option.bind_some]
  rw [aS_ (n:=(w.Given.length:Int)+(w.Taken.length:Int)) (by omega) (by omega)]
  refine Wp.dec (fun _=> ?_) (fun hr=> ?_)
  ·refine Wp.bind (cr_ w (e4_ hV)) (fun _ q=> ?_);subst q
   exact Wp.ret (decide_eq_true hV)
  have hsum:(af_ 1 w.Ends).Send.Items.length+(af_ 2 w.Ends).Send.Items.length=a.Send.Items.length+b.Send.Items.length:=by rw [hab];rfl
  have heq:(IntKind.wrap .i64 (40+(IntKind.wrap .i64 ((IntKind.wrap .i64 (12*ev))*(IntKind.wrap .i64 (6+(IntKind.wrap .i64 ((a.Send.Items.length:Int)+(b.Send.Items.length:Int)))))))))=40+12*ev*(6+((a.Send.Items.length+b.Send.Items.length:Nat):Int)):=by
    have:ev=1∨ev=2∨ev=3∨ev=4:=by omega
    rw [aS_ (n:=(a.Send.Items.length:Int)+(b.Send.Items.length:Int)) (by omega) (by omega),aS_ (n:=6+((a.Send.Items.length:Int)+(b.Send.Items.length:Int))) (by omega) (by omega),aS_ (n:=12*ev) (by omega) (by omega)]
    rcases this with rfl | rfl | rfl | rfl<;>(rw [aS_ (n:=_*_) (by omega) (by omega),aS_ (by omega) (by omega)];push_cast;rfl)
  rw [heq]
  have hpos:0<40+12*ev*(6+((a.Send.Items.length+b.Send.Items.length:Nat):Int)):=by
    have:ev=1∨ev=2∨ev=3∨ev=4:=by omega
    rcases this with rfl | rfl | rfl | rfl<;>omega
  refine Wp.dec (fun _=> ?_) (fun hc=> ?_)
  ·exact Ee_ hev hV 5000 (by omega) (fun hf=>xk_ hev hV hI hu (by omega) hsum (.inr rfl) hf)
  ·exact Ee_ hev hV _ hpos (fun hf=>xk_ hev hV hI hu (by omega) hsum (.inl ⟨rfl,by omega⟩) hf)
end Km.X
