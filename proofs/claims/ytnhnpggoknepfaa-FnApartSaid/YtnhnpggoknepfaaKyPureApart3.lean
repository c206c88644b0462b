/- A part of the proof of FnApart: plain laws of these functions. There is no condition. -/
import Derived.Test.YtnhnpggoknepfaaKyPureApart1
import Derived.Test.YtnhnpggoknepfaaKyPureApart2
import Derived.Test.YtnhnpggoknepfaaKxDef2
namespace Km.X
open Go Km
set_option linter.unusedVariables false
set_option linter.unusedSimpArgs false
theorem gj_:∀(ps qs:List az_) (o:ByteArray) (out g:List ByteArray) (o':ByteArray),d1_ ps o out=(g,o',true)→d1_ (ps++qs) o out=d1_ qs o' g
  | [],qs,o,out,g,o',h=>by
    simp only [d1_,Prod.mk.injEq] at h
    obtain ⟨rfl,rfl,_⟩:=h;rfl
  | p::ps,qs,o,out,g,o',h=>by
    simp only [d1_,List.cons_append] at h⊢
    split at h
    ·simp only [Prod.mk.injEq] at h;exact absurd h.2.2 (by simp)
    ·rename_i h1
     rw [if_neg h1]
     split at h
     ·rename_i h2;rw [if_pos h2];exact gj_ ps qs _ _ _ _ h
     ·rename_i h2;rw [if_neg h2];exact gj_ ps qs _ _ _ _ h
theorem oY_:∀(ps:List az_) (o:ByteArray) (out g:List ByteArray) (o':ByteArray),d1_ ps o out=(g,o',true)→∃m,g=out++m
  | [],o,out,g,o',h=>by
    simp only [d1_,Prod.mk.injEq] at h
    exact ⟨[],by rw [←h.1];simp⟩
  | p::ps,o,out,g,o',h=>by
    simp only [d1_] at h
    split at h
    ·simp only [Prod.mk.injEq] at h;exact absurd h.2.2 (by simp)
    ·split at h
     ·obtain ⟨m,hm⟩:=oY_ ps _ _ _ _ h
      exact ⟨[o++p.Text]++m,by rw [hm];simp⟩
     ·exact oY_ ps _ _ _ _ h
structure TInv (P:List az_) (t:ai_) (g:List ByteArray):Prop where
  V:VTake t
  M:∀x∈t.Held,0≤x.Seq∧P[x.Seq.toNat]? =some x.Part
  N:t.Next≤P.length
  J:d1_ (P.take t.Next.toNat) noB []=(g++t.Ready,t.Open,true)
theorem Ag_ {P:List az_} {i:Int} {p:az_} (h0:0≤i) (h:P[i.toNat]? =some p):i<P.length:=by
  have:=(List.getElem?_eq_some_iff.mp h).1;omega
theorem jL_ (P:List az_) (n0:Int):∀(h:List aj_) (n:Int) (o:ByteArray) (r g:List ByteArray),n0≤n→WHs n0 (n-1) h→h.length≤8→0≤n→n≤1000000→o.size≤200→r.length≤4→SmR r→
    (∀x∈h,0≤x.Seq∧P[x.Seq.toNat]? =some x.Part)→n≤P.length→d1_ (P.take n.toNat) noB []=(g++r,o,true)→
    TInv P (dY_ h n o r) g∧n≤(dY_ h n o r).Next∧∀x∈h,x.Seq<(dY_ h n o r).Next∨x∈(dY_ h n o r).Held
  | [],n,o,r,g,h0,hw,hl,hn,hn',ho,hr,hs,hM,hN,hJ=>by
    refine ⟨⟨l6_ n0 [] n o r h0 hw hl hn hn' ho hr hs,fun x hx=>by simp [dY_] at hx,hN,hJ⟩,by simp [dY_],fun x hx=>by simp at hx⟩
  | x::t,n,o,r,g,h0,hw,hl,hn,hn',ho,hr,hs,hM,hN,hJ=>by
    have hV:=l6_ n0 (x::t) n o r h0 hw hl hn hn' ho hr hs
    obtain ⟨hw1,hw2⟩:=hw
    simp only [List.length_cons] at hl
    simp only [dY_] at hV⊢
    have hM2:∀y∈t,0≤y.Seq∧P[y.Seq.toNat]? =some y.Part:=fun y hy=>hM y (List.mem_cons_of_mem _ hy)
    obtain ⟨hx0,hx1⟩:=hM x (List.mem_cons_self ..)
    have hxl:=Ag_ hx0 hx1
    split
    ·rename_i hg
     have hw3:WHs n0 (n+1-1) t:=by rw [show n+1-1=x.Seq by omega];exact hw2
     have hT:P.take (n+1).toNat=P.take n.toNat++[x.Part]:=by
       rw [show (n+1).toNat=n.toNat+1 by omega,List.take_add_one]
       rw [hg.1] at hx1;rw [hx1];rfl
     have hJ2:=gj_ _ [x.Part] _ _ _ _ hJ
     rw [←hT] at hJ2
     simp only [d1_] at hJ2
     have hg2:=hg.2.1
     rw [if_neg (by have:=hw1.2.2.2;omega)] at hJ2
     split
     ·rename_i hl3
      rw [if_pos hl3] at hJ2
      obtain ⟨a1,a2,a3⟩:=jL_ P n0 t (n+1) noB (r++[o++x.Part.Text]) g (by omega) hw3 (by omega) (by omega) (by omega) (by simp [dX_]) (by have:=hg.2.2 hl3;simp;omega) (fun s h'=>by
        simp only [List.mem_append,List.mem_singleton] at h'
        rcases h' with h' | rfl
        ·exact hs s h'
        ·rw [aD_];exact hg2) hM2 (by omega) (by rw [hJ2,List.append_assoc])
      refine ⟨a1,by omega,fun y hy=> ?_⟩
      rcases List.mem_cons.mp hy with rfl | hy
      ·exact .inl (by omega)
      ·exact a3 y hy
     ·rename_i hl3
      rw [if_neg hl3] at hJ2
      obtain ⟨a1,a2,a3⟩:=jL_ P n0 t (n+1) (o++x.Part.Text) r g (by omega) hw3 (by omega) (by omega) (by omega) (by rw [aD_];exact hg2) hr hs hM2 (by omega) hJ2
      refine ⟨a1,by omega,fun y hy=> ?_⟩
      rcases List.mem_cons.mp hy with rfl | hy
      ·exact .inl (by omega)
      ·exact a3 y hy
    ·rename_i hg
     rw [if_neg hg] at hV
     exact ⟨⟨hV,hM,hN,hJ⟩,Int.le_refl _,fun y hy=> .inr hy⟩
theorem rJ_ {q:Int} {p:az_}:∀{t h:List aj_},mP_ q p t=some h→(∀x∈h,x=⟨q,p⟩∨x∈t)∧⟨q,p⟩∈h∧∀x∈t,x∈h
  | [],h,e=>by
    simp only [mP_,Option.some.injEq] at e;subst e
    simp
  | x::t,h,e=>by
    simp only [mP_] at e
    split at e
    ·cases e
    ·split at e
     ·simp only [Option.some.injEq] at e;subst e
      refine ⟨fun y hy=>by simpa using hy,by simp,fun y hy=>List.mem_cons_of_mem _ hy⟩
     ·cases ht:mP_ q p t with
      | none=>rw [ht] at e;cases e
      | some h'=>
        rw [ht] at e
        simp only [Option.map_some,Option.some.injEq] at e;subst e
        obtain ⟨a1,a2,a3⟩:=rJ_ ht
        refine ⟨fun y hy=> ?_,List.mem_cons_of_mem _ a2,fun y hy=> ?_⟩
        ·rcases List.mem_cons.mp hy with rfl | hy
         ·exact .inr (List.mem_cons_self ..)
         ·rcases a1 y hy with h | h
          ·exact .inl h
          ·exact .inr (List.mem_cons_of_mem _ h)
        ·rcases List.mem_cons.mp hy with rfl | hy
         ·exact List.mem_cons_self ..
         ·exact List.mem_cons_of_mem _ (a3 y hy)
theorem tq_ {q:Int} {p:az_}:∀{t:List aj_},mP_ q p t=none→∃x∈t,x.Seq=q
  | [],e=>by simp [mP_] at e
  | x::t,e=>by
    simp only [mP_] at e
    split at e
    ·rename_i h;exact ⟨x,List.mem_cons_self ..,h⟩
    ·split at e
     ·cases e
     ·cases ht:mP_ q p t with
      | none=>obtain ⟨y,hy,h⟩:=tq_ ht;exact ⟨y,List.mem_cons_of_mem _ hy,h⟩
      | some h'=>rw [ht] at e;cases e
theorem pb_ {t:ai_} (h:VTake t) (hr:t.Ready=[]):cB_ t=(t,noB,false):=by
  unfold cB_;rw [if_pos h,hr]
theorem wZ_ {P:List az_} {t:ai_} {g:List ByteArray} (h:TInv P t g) {s:ByteArray} {rs:List ByteArray} (hr:t.Ready=s::rs):
    (cB_ t).2=(s,true)∧TInv P (cB_ t).1 (g++[s])∧t.Next≤(cB_ t).1.Next∧(cB_ t).1=dY_ t.Held t.Next t.Open rs:=by
  obtain ⟨v1,v2,v3,v4,v5,v6,v7⟩:=h.V
  unfold cB_
  rw [if_pos h.V,hr]
  rw [hr] at v4 v5
  simp only [List.length_cons] at v4
  have hJ:=h.J
  rw [hr] at hJ
  obtain ⟨b1,b2,b3⟩:=jL_ P t.Next t.Held t.Next t.Open rs (g++[s]) (Int.le_refl _) v6 v2 v1.1 v1.2 v3 (by omega) (fun y hy=>v5 y (List.mem_cons_of_mem _ hy)) h.M h.N (by rw [hJ];simp)
  exact ⟨rfl,b1,b2,rfl⟩
theorem TInv.len {P:List az_} {t:ai_} {g:List ByteArray} (h:TInv P t g) (hP:P.length≤1000):g.length+t.Ready.length≤1000:=by
  have:=(rN_ (P.take t.Next.toNat) noB [] (by simp [dX_]) (fun y hy=>by simp at hy)).1
  rw [h.J] at this
  simp only [List.length_append,List.length_nil,List.length_take] at this
  omega
theorem TInv.pre {P:List az_} {t:ai_} {g:List ByteArray} (h:TInv P t g) {T:List ByteArray} {ot:ByteArray} (hT:d1_ P noB []=(T,ot,true)):∃m,T=(g++t.Ready)++m:=by
  have:=gj_ _ (P.drop t.Next.toNat) _ _ _ _ h.J
  rw [List.take_append_drop,hT] at this
  exact oY_ _ _ _ _ _ this.symm
theorem xu_ {p:az_} {ps:List az_} {o:ByteArray} {out:List ByteArray} {T:List ByteArray} {ot:ByteArray} (h:d1_ (p::ps) o out=(T,ot,true)):p.Text.size≤20∧o.size+p.Text.size≤200:=by
  simp only [d1_] at h
  split at h
  ·simp only [Prod.mk.injEq] at h;exact absurd h.2.2 (by simp)
  ·omega
theorem TInv.fit {P:List az_} {t:ai_} {g:List ByteArray} (h:TInv P t g) {T:List ByteArray} {ot:ByteArray} (hT:d1_ P noB []=(T,ot,true)) {p:az_} (hp:P[t.Next.toNat]? =some p):t.Open.size+p.Text.size≤200:=by
  have:=gj_ _ (P.drop t.Next.toNat) _ _ _ _ h.J
  rw [List.take_append_drop,hT] at this
  obtain ⟨hlt,e⟩:=List.getElem?_eq_some_iff.mp hp
  rw [List.drop_eq_getElem_cons hlt,e] at this
  exact (xu_ this.symm).2
theorem zM_ {P:List az_} {t:ai_} {g:List ByteArray} (h:TInv P t g) {T:List ByteArray} {ot:ByteArray} (hT:d1_ P noB []=(T,ot,true)) {x:aj_} (hx:x∈t.Held) (hn:x.Seq=t.Next):t.Ready.length=4:=by
  have hm:=(h.M x hx).2
  rw [hn] at hm
  have hf:=h.fit hT hm
  have hng:=h.V.2.2.2.2.2.2 x hx hn
  have h4:=h.V.2.2.2.1
  by_cases h5:t.Ready.length<4
  ·exact absurd ⟨hf,fun _=>h5⟩ hng
  ·omega
theorem Cx_ {P:List az_} {t:ai_} {g:List ByteArray} (h:TInv P t g) {T:List ByteArray} {ot:ByteArray} (hT:d1_ P noB []=(T,ot,true)) {x:aj_} (hx:x∈t.Held) (hn:x.Seq=t.Next) {s:ByteArray} {rs:List ByteArray} (hr:t.Ready=s::rs):t.Next<(cB_ t).1.Next:=by
  obtain ⟨a1,a2,a3,a4⟩:=wZ_ h hr
  have hm:=(h.M x hx).2
  rw [hn] at hm
  have hf:=h.fit hT hm
  obtain ⟨v1,v2,v3,v4,v5,v6,v7⟩:=h.V
  rw [hr] at v4
  simp only [List.length_cons] at v4
  by_cases hlt:t.Next<(cB_ t).1.Next
  ·exact hlt
  ·exfalso
   have hJ:=h.J
   rw [hr] at hJ v5
   have b3:=(jL_ P t.Next t.Held t.Next t.Open rs (g++[s]) (Int.le_refl _) v6 v2 v1.1 v1.2 v3 (by omega) (fun y hy=>v5 y (List.mem_cons_of_mem _ hy)) h.M h.N (by rw [hJ];simp)).2.2
   rw [←a4] at b3
   have he:(cB_ t).1.Next=t.Next:=by omega
   rcases b3 x hx with h' | h'
   ·omega
   ·have hng:=a2.V.2.2.2.2.2.2 x h' (by omega)
    have hf':=a2.fit hT (by rw [he];exact hm)
    have:=zM_ a2 hT h' (by omega)
    have hlen:((cB_ t).1).Ready.length≤3:=by
      rw [a4] at he⊢
      clear a2 hng hf' this b3 h' a4 a1 a3 hlt
      cases hh:t.Held with
      | nil=>rw [hh] at hx;simp at hx
      | cons y tl=>
        rw [hh] at he
        simp only [dY_] at he⊢
        split
        ·rename_i hg
         rw [if_pos hg] at he
         exfalso
         rw [hh] at v6 v2
         have hM:=h.M
         rw [hh] at hM
         have hw3:WHs t.Next (t.Next+1-1) tl:=by rw [show t.Next+1-1=y.Seq by omega];exact v6.2
         simp only [List.length_cons] at v2
         have mono:∀(l:List aj_) (n:Int) (o:ByteArray) (r:List ByteArray),n≤(dY_ l n o r).Next:=by
           intro l
           induction l with
           | nil=>intro n o r;exact Int.le_refl _
           | cons z l ih=>
             intro n o r
             simp only [dY_]
             split
             ·split
              ·have:=ih (n+1) noB (r++[o++z.Part.Text]);omega
              ·have:=ih (n+1) (o++z.Part.Text) r;omega
             ·exact Int.le_refl _
         split at he
         ·have:=mono tl (t.Next+1) noB (rs++[t.Open++y.Part.Text]);omega
         ·have:=mono tl (t.Next+1) (t.Open++y.Part.Text) rs;omega
        ·simp only;omega
    omega
end Km.X
namespace Km.X
open Go Km
set_option linter.unusedVariables false
set_option linter.unusedSimpArgs false
section
variable {P:List az_} {T:List ByteArray} {ot:ByteArray} (hT:d1_ P noB []=(T,ot,true)) (hP:P.length≤60)
include hT hP
end
end Km.X
namespace Km.X
open Go Km
set_option linter.unusedVariables false
set_option linter.unusedSimpArgs false
end Km.X
namespace Km.X
open Go Km
set_option linter.unusedVariables false
set_option linter.unusedSimpArgs false
end Km.X
namespace Km.X
open Go Km
set_option linter.unusedVariables false
set_option linter.unusedSimpArgs false
def EP (P:am_→Prop) (l:List am_):Prop:=∀n,1≤n∧n≤2→P (af_ n l)
theorem bG_ {l:List am_} (h:iO_ l) {n m:Int} (hn:1≤n∧n≤2) (hm:1≤m∧m≤2) (x:am_):af_ m (dl_ n x l)=if m=n then x else af_ m l:=by
  obtain ⟨e,f,rfl,_⟩:=ej_ h
  by_cases h1:n=1
  ·subst h1
   by_cases h2:m=1
   ·subst h2;simp [af_,dl_]
   ·simp [af_,dl_,h2]
  ·by_cases h2:m=1
   ·subst h2;rw [if_neg (fun g=>h1 g.symm)];simp [af_,dl_,h1]
   ·have:m=n:=by omega
    subst this;simp [af_,dl_,h1]
theorem yG_ {P:am_→Prop} {l:List am_} (h:iO_ l) (hB:EP P l) {n:Int} (hn:1≤n∧n≤2) {x:am_} (hx:P x):EP P (dl_ n x l):=fun m hm=>by
  rw [bG_ h hn hm]
  split
  ·exact hx
  ·exact hB m hm
theorem Dt_ {P P':am_→Prop} {w:ab_} (h:au_ w) (v:aT_) (hP:EP P w.Ends)
    (H0:∀e,VEnd e→P e→P' e) (H1:∀e,VEnd e→P e→P' (a2_ e).End) (H2:∀e p,VEnd e→P e→P' (fg_ e p).End) (H3:∀e t,VEnd e→P e→(e1_ e t).Code=0→P' (e1_ e t).End)
    (H4:∀e,VEnd e→P e→(eb_ e).Code=0→P' (eb_ e).End) (H5:∀e,VEnd e→P e→P' (hf_ e)) (H6:∀e,VEnd e→P e→v.Kind=8→P' (iL_ e)):EP P' (doW w v).Ends:=by
  have h5:=h.2.2.2.2.1
  have same:EP P' w.Ends:=fun n hn=>H0 _ (by_ h5 hn).1 (hP n hn)
  have br:∀w':ab_,w'.Ends=w.Ends→∀p,vj_ p→EP P' (aV_ w' p).Ends:=fun w' hw' p hp=>by
    unfold aV_
    split
    ·dsimp only
     rw [hw']
     exact yG_ h5 same hp.1 (H2 _ _ (by_ h5 hp.1).1 (hP _ hp.1))
    ·rw [hw'];exact same
  unfold doW
  split
  ·intro m hm
   have ee:af_ m (aI_ w).Ends=if m=1 then (a2_ (af_ 1 w.Ends)).End else (a2_ (af_ 2 w.Ends)).End:=rfl
   rw [ee]
   split
   ·exact H1 _ (by_ h5 (by omega)).1 (hP 1 (by omega))
   ·exact H1 _ (by_ h5 (by omega)).1 (hP 2 (by omega))
  split
  ·split
   ·split
    ·rename_i p hp
     have hvp:=h.2.2.2.2.2.1 p (List.mem_of_getElem? hp)
     have hs:∀fl,EP P' (be_ w fl).Ends:=fun fl=>same
     unfold if_
     split
     ·exact br (be_ w (w.Flight.eraseIdx v.A.toNat)) rfl p hvp
     split
     ·split
      ·exact hs _
      ·exact same
     split
     ·exact hs _
     split
     ·split
      ·exact hs _
      ·exact same
     split
     ·split
      ·exact hs _
      ·exact same
     ·exact hs _
    ·exact same
   ·exact same
  split
  ·rename_i hk
   have hn:=hk.2
   have hv:=(by_ h5 hn).1
   have hb:=hP _ hn
   unfold j5_
   split
   ·rename_i h8
    exact yG_ h5 same hn (H6 _ hv hb h8)
   split
   ·exact yG_ h5 same hn (H5 _ hv hb)
   split
   ·unfold k1_
    split
    ·rename_i hc
     exact yG_ h5 same hn (H3 _ _ hv hb hc.2)
    ·exact same
   ·unfold dU_
    split
    ·rename_i hc
     exact yG_ h5 same hn (H4 _ hv hb hc.2)
    ·exact same
  ·exact same
def l1_ (e:am_):Int:=e.Life+if e.Up=true then 0 else 1
theorem qQ_ {e:am_} (h:VEnd e):(a2_ e).End.Life=e.Life∧(a2_ e).End.Up=e.Up:=by
  unfold a2_
  rw [if_pos h]
  split
  ·split<;>exact ⟨rfl,rfl⟩
  ·exact ⟨rfl,rfl⟩
theorem s9_ (e:am_) (p:ae_):(kU_ e p).Life=e.Life∧(kU_ e p).Up=e.Up:=by unfold kU_;split<;>exact ⟨rfl,rfl⟩
theorem w8_ (e:am_) (p:ae_):(hd_ e p).End.Life=e.Life∧(hd_ e p).End.Up=e.Up:=by
  unfold hd_
  split
  ·split<;>exact ⟨rfl,rfl⟩
  ·exact ⟨rfl,rfl⟩
theorem q7_ {e:am_} (h:VEnd e) (p:ae_):(fg_ e p).End.Life=e.Life∧(fg_ e p).End.Up=e.Up:=by
  unfold fg_
  rw [if_pos h]
  split
  ·have h1:=s9_ e p
   have h2:=w8_ (kU_ e p) p
   exact ⟨h2.1.trans h1.1,h2.2.trans h1.2⟩
  ·exact ⟨rfl,rfl⟩
theorem jU_ {e:am_} {t:ByteArray} (hc:(e1_ e t).Code=0):(e1_ e t).End=⟨e.Number,e.Up,e.Life,e.Peer,e.Since,e.Owes,(kv_ e.Send t).1,e.Take⟩∧e.Up=true∧e.Peer≠0:=by
  unfold e1_ at hc⊢
  split
  ·rename_i h1;rw [if_pos h1] at hc
   split
   ·rename_i h2;rw [if_pos h2] at hc
    split
    ·rename_i h3;rw [if_pos h3] at hc;cases hc
    ·rename_i h3;rw [if_neg h3] at hc
     split
     ·exact ⟨rfl,h2,h3⟩
     ·rename_i h4;rw [if_neg h4] at hc;exact absurd hc h4
   ·rename_i h2;rw [if_neg h2] at hc;cases hc
  ·rename_i h1;rw [if_neg h1] at hc;cases hc
theorem fL_ {e:am_} (hc:(eb_ e).Code=0):eb_ e=⟨0,⟨e.Number,e.Up,e.Life,e.Peer,e.Since,true,e.Send,(cB_ e.Take).1⟩,[],(cB_ e.Take).2.1⟩∧e.Up=true∧(cB_ e.Take).2.2=true:=by
  unfold eb_ at hc⊢
  split
  ·rename_i h1;rw [if_pos h1] at hc
   split
   ·rename_i h2;rw [if_pos h2] at hc
    split
    ·rename_i h3;exact ⟨rfl,h2,h3⟩
    ·rename_i h3;rw [if_neg h3] at hc;cases hc
   ·rename_i h2;rw [if_neg h2] at hc;cases hc
  ·rename_i h1;rw [if_neg h1] at hc;cases hc
theorem xv_ {e:am_} (h:VEnd e):l1_ (hf_ e)≤l1_ e:=by
  unfold hf_
  rw [if_pos h]
  split
  ·exact Int.le_refl _
  ·rename_i hu
   split
   ·exact Int.le_refl _
   ·unfold l1_;dsimp only;rw [if_neg hu];simp
theorem yd_ {e:am_} (h:VEnd e):l1_ (iL_ e)≤l1_ e+1:=by
  unfold iL_
  rw [if_pos h]
  unfold l1_
  simp
  split<;>omega
theorem rS_ {e f:am_} (h:f.Life=e.Life∧f.Up=e.Up):l1_ f=l1_ e:=by unfold l1_;rw [h.1,h.2]
theorem yi_ {f s:Nat} {w:ab_} (h:Reach f s w):EP (fun e=>l1_ e≤1+f) w.Ends:=by
  induction h with
  | @new b wd h1 h2=>
    intro m hm
    unfold Aw_
    rw [if_pos ⟨h2,h1⟩]
    unfold af_ zQ_ l1_
    dsimp only
    split<;>simp
  | @step n m w v hw ih=>
    refine Dt_ (P:=fun e=>l1_ e≤1+(n:Int)) hw.V v ih ?_ ?_ ?_ ?_ ?_ ?_ ?_
    ·intro e _ he;split<;>omega
    ·intro e hv he;rw [rS_ (qQ_ hv)];split<;>omega
    ·intro e p hv he;rw [rS_ (q7_ hv p)];split<;>omega
    ·intro e t hv he hc;rw [rS_ (e:=e) (by rw [(jU_ hc).1];exact ⟨rfl,rfl⟩)];split<;>omega
    ·intro e hv he hc;rw [rS_ (e:=e) (by rw [(fL_ hc).1];exact ⟨rfl,rfl⟩)];split<;>omega
    ·intro e hv he;have:=xv_ hv;split<;>omega
    ·intro e hv he hk;have:=yd_ hv;rw [if_pos hk];omega
  | @more n m n' m' w h1 h2 hw ih=>
    intro k hk
    have:=ih k hk
    dsimp only at this⊢
    omega
theorem pn_ (w:ab_) (p:ad_):(aV_ w p).Given=w.Given:=by unfold aV_;split<;>rfl
theorem xA_ (w:ab_) (n:Int):(dU_ w n).Given=w.Given:=by unfold dU_;split<;>rfl
theorem q1_ (ev:Int):∀(t:List ad_) (h:List DKey) (w:ab_),(a8_ ev t h w).1.Given=w.Given
  | [],h,w=>rfl
  | p::t,h,w=>by
    simp only [a8_,q1_ ev t]
    split
    ·exact pn_ w p
    ·rfl
theorem kT_ (n:Int):∀(d:Nat) (w:ab_),(aS_ n d w).Given=w.Given
  | 0,w=>rfl
  | d+1,w=>by
    simp only [aS_]
    split
    ·rfl
    ·rw [kT_ n d,xA_]
theorem uD_ (ev:Int) (s:ab_×List DKey):(aB_ ev s).1.Given=s.1.Given:=by
  unfold aB_
  dsimp only
  rw [kT_,kT_,q1_];rfl
end Km.X
namespace Km.X
open Go Km
set_option linter.unusedVariables false
set_option linter.unusedSimpArgs false
theorem vY_ (n:Int):∀(t:List aj_) (p:Int) (m:Nat),WHs n p t→n-1≤p∧p≤n+7→m<2^(p+1-n).toNat→nC_ n m t<256
  | [],p,m,h,hp,hm=>by
    simp only [nC_]
    have:2^(p+1-n).toNat≤256:=g4_ (by omega)
    omega
  | x::t,p,m,h,hp,hm=>by
    simp only [nC_]
    obtain ⟨h1,h2⟩:=h
    have hx:p<x.Seq∧x.Seq≤n+7:=by
      have:=h1
      omega
    refine vY_ n t x.Seq _ h2 (by omega) ?_
    have e:(x.Seq+1-n).toNat=(x.Seq-n).toNat+1:=by omega
    have hle:2^(p+1-n).toNat≤2^(x.Seq-n).toNat:=Nat.pow_le_pow_right (by decide) (by omega)
    rw [e,Nat.pow_succ]
    omega
theorem oT_ {t:ai_} (h:VTake t):(tkM t).1=t.Next∧(0≤(tkM t).2∧(tkM t).2≤255):=by
  unfold tkM
  rw [if_pos h]
  have:=vY_ t.Next t.Held (t.Next-1) 0 h.2.2.2.2.2.1 (by omega) (by simp)
  refine ⟨rfl, ?_, ?_⟩<;>dsimp only<;>omega
theorem tT_ {l:List ag_} (h:OkItems 0 l) (i:Int):(iI_ l i).Text.size≤20:=by
  unfold iI_
  split
  ·rename_i x hx;exact (eZ_ h _ x hx).1
  ·exact Nat.zero_le _
theorem oZ_ {e:am_} (h:VEnd e):∀q∈(bn_ e).2,0≤q∧q≤999999:=by
  have hS:=h.2.2.2.2.1
  have hv:=(sy_ e h).1
  unfold bn_ at hv⊢
  split
  ·intro q hq;cases hq
  ·rename_i hp
   rw [if_neg hp] at hv
   intro q hq
   have:=ic_ e.Send hS q hq
   have:=hv.2.1
   have:=hv.2.2.1
   omega
theorem gK_ {e:am_} (h:VEnd e):∀q∈(a2_ e).Out,iH_ q∧q.From=e.Number∧q.Mine=e.Life∧q.Yours=e.Peer:=by
  have hr:=oZ_ h
  have hv:=(sy_ e h).1
  have hw:∀q∈(bn_ e).2.map (iT_ e.Number e.Life e.Peer (bn_ e).1.Base (bn_ e).1.Items),iH_ q∧q.From=e.Number∧q.Mine=e.Life∧q.Yours=e.Peer:=fun q hq=>by
    obtain ⟨i,hi,rfl⟩:=List.mem_map.mp hq
    have:=hr i hi
    exact ⟨⟨h.1,h.2.1,h.2.2.1, .inr ⟨rfl,rfl,rfl,by dsimp only [iT_];omega,tT_ hv.2.2.2 _⟩⟩,rfl,rfl,rfl⟩
  have hk:=oT_ h.2.2.2.2.2.1
  have hn:=h.2.2.2.2.2.1.1
  unfold a2_
  rw [if_pos h]
  split
  ·split
   ·intro q hq
    rcases List.mem_append.mp hq with hq | hq
    ·exact hw q hq
    ·simp only [List.mem_singleton] at hq
     subst hq
     exact ⟨⟨h.1,h.2.1,h.2.2.1, .inl ⟨rfl,by dsimp only;omega,hk.2,rfl,rfl,rfl⟩⟩,rfl,rfl,rfl⟩
   ·exact hw
  ·intro q hq;cases hq
end Km.X
namespace Km.X
open Go Km
set_option linter.unusedVariables false
set_option linter.unusedSimpArgs false
def ha_ (Gi:List aa_) (i A B:Int):List az_:=(ax_ Gi ⟨i,A,B⟩).flatMap nF_
theorem pz_ (Gi:List aa_) (r:aa_) (i A B:Int):ha_ (Gi++[r]) i A B=ha_ Gi i A B++(if (⟨i,A,B⟩:DPair)=kf r then nF_ r.Text else []):=by
  unfold ha_
  rw [bL_]
  split
  ·rw [List.flatMap_append];simp
  ·simp
theorem wJ_:∀(l:List ByteArray) (out:List ByteArray),(∀s∈l,s.size≤200)→d1_ (l.flatMap nF_) noB out=(out++l,noB,true)
  | [],out,h=>by simp [d1_]
  | s::l,out,h=>by
    rw [List.flatMap_cons,zm_,wJ_ l _ (fun t ht=>h t (List.mem_cons_of_mem _ ht))]
    unfold yy_
    rw [if_pos (h s (List.mem_cons_self ..))]
    simp
theorem xM_ {l:List aa_} {key:DPair} {s:ByteArray} (h:s∈ax_ l key):∃r∈l,kf r=key∧r.Text=s:=by
  unfold ax_ at h
  obtain ⟨r,hr,e⟩:=List.mem_map.mp h
  obtain ⟨h1,h2⟩:=List.mem_filter.mp hr
  exact ⟨r,h1,of_decide_eq_true h2,e⟩
theorem iu_ {l:List aa_} {key:DPair} (h:∀r∈l,kf r≠key):ax_ l key=[]:=by
  unfold ax_
  rw [List.filter_eq_nil_iff.mpr (fun r hr=>by simpa using h r hr)];rfl
theorem pw_ {Gi:List aa_} (h:fE_ Gi) (i A B:Int):d1_ (ha_ Gi i A B) noB []=(ax_ Gi ⟨i,A,B⟩,noB,true):=by
  unfold ha_
  rw [wJ_ _ _ (fun s hs=>by obtain ⟨r,h1,_,rfl⟩:=xM_ hs;exact (h r h1).2.2.2)]
  simp
theorem v5_:∀l:List ByteArray,(l.flatMap nF_).length≤10*l.length
  | []=>by simp
  | s::l=>by have:=(rY_ s).1;have:=v5_ l;simp only [List.flatMap_cons,List.length_append,List.length_cons];omega
theorem n1_ (Gi:List aa_) (i A B:Int):(ha_ Gi i A B).length≤10*Gi.length:=by
  unfold ha_
  have:=v5_ (ax_ Gi ⟨i,A,B⟩)
  have:=gI_ Gi ⟨i,A,B⟩
  omega
def Had (t:ai_) (s:Int):Prop:=s<t.Next∨∃x∈t.Held,x.Seq=s
theorem TInv.app {P:List az_} {t:ai_} {g:List ByteArray} (h:TInv P t g) (Q:List az_):TInv (P++Q) t g:=by
  refine ⟨h.V,fun x hx=> ?_,by have:=h.N;simp only [List.length_append];omega, ?_⟩
  ·obtain ⟨a,b⟩:=h.M x hx
   have:=Ag_ a b
   exact ⟨a,by rw [List.getElem?_append_left (by omega)];exact b⟩
  ·have:=h.N
   have:=h.V.1
   rw [List.take_append_of_le_length (by omega)];exact h.J
theorem TInv.none (P:List az_):TInv P gR_ []:=⟨jT_,fun x hx=>(by cases hx),(by show (0:Int)≤_;omega),rfl⟩
theorem nU_ {P:List az_} {t:ai_} {g:List ByteArray} (h:TInv P t g) {q:Int} {p:az_} (hq:0≤q) (hp:P[q.toNat]? =some p) (hp2:p.Text.size≤20) (hP:P.length≤1000000):
    TInv P (jk_ t q p) g∧t.Next≤(jk_ t q p).Next∧(∀s,Had t s→Had (jk_ t q p) s)∧(q≤t.Next+7→Had (jk_ t q p) q):=by
  have hql:=Ag_ hq hp
  unfold jk_
  rw [if_pos h.V]
  split
  ·rename_i g1
   cases ht:mP_ q p t.Held with
   | none=>
     refine ⟨h,Int.le_refl _,fun _ h=>h,fun _=> .inr ?_⟩
     exact tq_ ht
   | some hh=>
     obtain ⟨v1,v2,v3,v4,v5,v6,v7⟩:=h.V
     have hw:=y6_ q p g1.1.2.1 g1.1.2.2 g1.2 (by omega) v6 ht
     have hlen:=vC_ hw (by omega)
     obtain ⟨a1,a2,a3⟩:=rJ_ ht
     obtain ⟨b1,b2,b3⟩:=jL_ P t.Next hh t.Next t.Open t.Ready g (Int.le_refl _) hw (by omega) v1.1 v1.2 v3 v4 v5 (fun x hx=>by
       rcases a1 x hx with rfl | hx
       ·exact ⟨hq,hp⟩
       ·exact h.M x hx) h.N h.J
     refine ⟨b1,b2,fun s hs=> ?_,fun _=> ?_⟩
     ·rcases hs with hs | ⟨x,hx,rfl⟩
      ·exact .inl (by dsimp only;omega)
      ·rcases b3 _ (a3 x hx) with h' | h'
       ·exact .inl h'
       ·exact .inr ⟨x,h',rfl⟩
     rcases b3 _ a2 with h' | h'
     ·exact .inl h'
     ·exact .inr ⟨_,h',rfl⟩
  ·rename_i g1
   refine ⟨h,Int.le_refl _,fun _ h=>h,fun h7=> .inl ?_⟩
   by_cases hlt:q<t.Next
   ·exact hlt
   ·exact absurd ⟨⟨by omega,h7,by omega⟩,hp2⟩ g1
theorem su_ {P:List az_} {t:ai_} {g:List ByteArray} (h:TInv P t g) (hr:(cB_ t).2.2=true):
    TInv P (cB_ t).1 (g++[(cB_ t).2.1])∧t.Next≤(cB_ t).1.Next∧∀s,Had t s→Had (cB_ t).1 s:=by
  cases hR:t.Ready with
  | nil=>rw [pb_ h.V hR] at hr;cases hr
  | cons s rs=>
    obtain ⟨a1,a2,a3,a4⟩:=wZ_ h hR
    rw [a1]
    refine ⟨a2,a3,fun u hu=> ?_⟩
    obtain ⟨v1,v2,v3,v4,v5,v6,v7⟩:=h.V
    have hJ:=h.J
    rw [hR] at hJ v5 v4
    simp only [List.length_cons] at v4
    have b3:=(jL_ P t.Next t.Held t.Next t.Open rs (g++[s]) (Int.le_refl _) v6 v2 v1.1 v1.2 v3 (by omega) (fun y hy=>v5 y (List.mem_cons_of_mem _ hy)) h.M h.N (by rw [hJ];simp)).2.2
    rw [←a4] at b3
    rcases hu with hu | ⟨x,hx,rfl⟩
    ·exact .inl (by omega)
    ·rcases b3 x hx with h' | h'
     ·exact .inl h'
     ·exact .inr ⟨x,h',rfl⟩
theorem tw_ (n:Int):∀(t:List aj_) (p:Int) (m k:Nat),WHs n p t→n-1≤p→m<2^(p+1-n).toNat→(nC_ n m t).testBit k=true→m.testBit k=true∨∃x∈t,x.Seq=n+k
  | [],p,m,k,h,hp,hm,hk=> .inl hk
  | x::t,p,m,k,h,hp,hm,hk=>by
    simp only [nC_] at hk
    obtain ⟨h1,h2⟩:=h
    have hx:p<x.Seq:=h1.1
    have e:(x.Seq+1-n).toNat=(x.Seq-n).toNat+1:=by omega
    have hle:2^(p+1-n).toNat≤2^(x.Seq-n).toNat:=Nat.pow_le_pow_right (by decide) (by omega)
    rcases tw_ n t x.Seq _ k h2 (by omega) (by rw [e,Nat.pow_succ];omega) hk with h | ⟨y,hy,hh⟩
    ·rw [Nat.add_comm] at h
     rcases Nat.lt_trichotomy k (x.Seq-n).toNat with g | g | g
     ·rw [Nat.testBit_two_pow_add_gt g] at h;exact .inl h
     ·exact .inr ⟨x,List.mem_cons_self ..,by omega⟩
     ·have:2^(x.Seq-n).toNat+m<2^k:=by
        have:2^((x.Seq-n).toNat+1)≤2^k:=Nat.pow_le_pow_right (by decide) g
        rw [Nat.pow_succ] at this;omega
      rw [Nat.testBit_lt_two_pow this] at h;cases h
    ·exact .inr ⟨y,List.mem_cons_of_mem _ hy,hh⟩
theorem Cm_ {t:ai_} (h:VTake t) (k:Nat) (hk:(tkM t).2.toNat.testBit k=true):Had t (t.Next+k):=by
  unfold tkM at hk
  rw [if_pos h] at hk
  rcases tw_ t.Next t.Held (t.Next-1) 0 k h.2.2.2.2.2.1 (by omega) (by simp) hk with h | h
  ·simp at h
  ·exact .inr h
theorem rG_:∀(l:List ag_) (i m j:Nat),(pk_ i m l)[j]? =l[j]?.map (fun x=>if i+j<8∧m.testBit j=true∧0≤x.Since then ⟨x.Part,true,x.Since⟩ else x)
  | [],i,m,j=>by simp [pk_]
  | x::t,i,m,0=>by
    simp only [pk_,List.getElem?_cons_zero,Option.map_some,Nat.add_zero,Nat.testBit_zero,decide_eq_true_eq]
  | x::t,i,m,j+1=>by
    simp only [pk_,List.getElem?_cons_succ]
    rw [rG_ t (i+1) (m/2) j]
    simp only [Nat.testBit_succ,show i+1+j=i+(j+1) by omega]
theorem hT_:∀(t:List ag_) (i:Nat) (b:Int) (j:Nat),(dx_ i b t).1[j]? =t[j]?.map (fun x=>if i+j<8 then fS_ x else x)
  | [],i,b,j=>by simp [dx_]
  | x::t,i,b,j=>by
    simp only [dx_]
    split
    ·rename_i h
     dsimp only
     cases hh:(x::t)[j]? with
     | none=>rfl
     | some y=>simp only [Option.map_some];rw [if_neg (by omega)]
    ·rename_i h
     dsimp only
     cases j with
     | zero=>simp;omega
     | succ j=>
       simp only [List.getElem?_cons_succ]
       rw [hT_ t (i+1) b j]
       simp only [show i+1+j=i+(j+1) by omega]
theorem ri_ (x:ag_):(fS_ x).Part=x.Part∧(fS_ x).Has=x.Has:=by unfold fS_;repeat' split<;>try exact ⟨rfl,rfl⟩
theorem tQ_ {e:am_} (h:VEnd e) (j:Nat):∀y,(bn_ e).1.Items[j]? =some y→∃x,e.Send.Items[j]? =some x∧y.Part=x.Part∧y.Has=x.Has:=fun y hy=>by
  unfold bn_ at hy
  split at hy
  ·exact ⟨y,hy,rfl,rfl⟩
  ·unfold hL_ at hy
   rw [if_pos h.2.2.2.2.1] at hy
   dsimp only at hy
   rw [hT_] at hy
   cases hx:e.Send.Items[j]? with
   | none=>rw [hx] at hy;cases hy
   | some x=>
     rw [hx,Option.map_some] at hy
     have:=ri_ x
     refine ⟨x,rfl, ?_⟩
     split at hy<;>(cases hy;first | exact this | exact ⟨rfl,rfl⟩)
theorem ia_ {e:am_} (h:VEnd e):(bn_ e).1.Base=e.Send.Base∧(bn_ e).1.Items.length=e.Send.Items.length:=by
  unfold bn_
  split
  ·exact ⟨rfl,rfl⟩
  ·unfold hL_
   rw [if_pos h.2.2.2.2.1]
   exact ⟨rfl,(nS_ _ _ _ h.2.2.2.2.1.2.2.2).2.1⟩
theorem rP_:∀(h:List aj_) (n:Int) (o:ByteArray) (r:List ByteArray) (s:Int),Had (dY_ h n o r) s→s<n∨∃x∈h,x.Seq=s
  | [],n,o,r,s,hs=>hs
  | x::t,n,o,r,s,hs=>by
    simp only [dY_] at hs
    have go:∀o' r',Had (dY_ t (n+1) o' r') s→x.Seq=n→s<n∨∃y∈x::t,y.Seq=s:=fun o' r' g e=>by
      rcases rP_ t (n+1) o' r' s g with h | ⟨y,hy,h⟩
      ·by_cases e':s=n
       ·exact .inr ⟨x,List.mem_cons_self ..,by omega⟩
       ·exact .inl (by omega)
      ·exact .inr ⟨y,List.mem_cons_of_mem _ hy,h⟩
    split at hs
    ·rename_i hg
     split at hs
     ·exact go _ _ hs hg.1
     ·exact go _ _ hs hg.1
    ·exact hs
theorem A7_ {t:ai_} (hv:VTake t) (q:Int) (p:az_) (s:Int) (h:Had (jk_ t q p) s):Had t s∨s=q:=by
  unfold jk_ at h
  rw [if_pos hv] at h
  split at h
  ·cases ht:mP_ q p t.Held with
   | none=>rw [ht] at h;exact .inl h
   | some hh=>
     rw [ht] at h
     dsimp only at h
     rcases rP_ _ _ _ _ _ h with h | ⟨x,hx,e⟩
     ·exact .inl (.inl h)
     ·rcases (rJ_ ht).1 x hx with rfl | hx
      ·exact .inr e.symm
      ·exact .inl (.inr ⟨x,hx,e⟩)
  ·exact .inl h
theorem A0_ {t:ai_} (hv:VTake t) (s:Int) (h:Had (cB_ t).1 s):Had t s:=by
  unfold cB_ at h
  rw [if_pos hv] at h
  split at h
  ·exact h
  ·exact rP_ _ _ _ _ _ h
theorem Bo_ {P:List az_} {t:ai_} {g:List ByteArray} (h:TInv P t g) {s:Int} (hs:Had t s):s<P.length:=by
  rcases hs with hs | ⟨x,hx,rfl⟩
  ·have:=h.N;omega
  ·obtain ⟨a,b⟩:=h.M x hx
   exact Ag_ a b
theorem oe_ {x:ag_} (h:0≤x.Since∨e5_ x):0≤(fS_ x).Since:=by
  unfold fS_
  split
  ·rename_i hh
   rcases h with h | h
   ·exact h
   ·exact absurd hh h.1
  ·split
   ·exact Int.le_refl _
   ·split
    ·exact Int.le_refl _
    ·rename_i h1 h3
     rcases h with h | h
     ·dsimp only;omega
     ·rcases h.2 with g | g
      ·exact absurd g h1
      ·exact absurd g h3
theorem mh_:∀(t:List ag_) (i:Nat) (b q:Int),q∈(dx_ i b t).2→∃(k:Nat) (x:ag_),t[k]? =some x∧q=b+i+k∧i+k<8∧e5_ x
  | [],i,b,q,h=>by simp [dx_] at h
  | x::t,i,b,q,h=>by
    simp only [dx_] at h
    split at h
    ·simp at h
    ·rename_i hi
     rcases List.mem_append.mp h with h | h
     ·split at h
      ·rename_i hs
       simp only [List.mem_singleton] at h
       exact ⟨0,x,rfl,by omega,by omega,hs⟩
      ·simp at h
     ·obtain ⟨k,y,h1,h2,h3,h4⟩:=mh_ t (i+1) b q h
      exact ⟨k+1,y,by simpa using h1,by omega,by omega,h4⟩
theorem u2_ {e:am_} (h:VEnd e) (j:Nat):∀y,(bn_ e).1.Items[j]? =some y→∃x,e.Send.Items[j]? =some x∧(0≤x.Since→0≤y.Since):=fun y hy=>by
  unfold bn_ at hy
  split at hy
  ·exact ⟨y,hy,fun g=>g⟩
  ·unfold hL_ at hy
   rw [if_pos h.2.2.2.2.1] at hy
   dsimp only at hy
   rw [hT_] at hy
   cases hx:e.Send.Items[j]? with
   | none=>rw [hx] at hy;cases hy
   | some x=>
     rw [hx,Option.map_some] at hy
     refine ⟨x,rfl,fun g=> ?_⟩
     split at hy<;>cases hy
     ·exact oe_ (.inl g)
     ·exact g
theorem xO_ {e:am_} (h:VEnd e) {q:Int} (hq:q∈(bn_ e).2) (k:Nat) (y:ag_) (hy:(bn_ e).1.Items[k]? =some y) (hk:q=e.Send.Base+k):0≤y.Since:=by
  unfold bn_ at hq hy
  split at hq
  ·cases hq
  ·rename_i hp
   rw [if_neg hp] at hy
   unfold hL_ at hq hy
   rw [if_pos h.2.2.2.2.1] at hq hy
   dsimp only at hq hy
   obtain ⟨j,x,h1,h2,h3,h4⟩:=mh_ _ _ _ _ hq
   have:j=k:=by omega
   subst this
   rw [hT_,h1,Option.map_some] at hy
   rw [if_pos (by omega)] at hy
   cases hy
   exact oe_ (.inr h4)
end Km.X
namespace Km.X
open Go Km
set_option linter.unusedVariables false
set_option linter.unusedSimpArgs false
structure Dir (i:Int) (e f:am_) (Gi Ta:List aa_):Prop where
  pe:f.Peer≤e.Life
  gf:∀r∈Gi,r.From=i→r.A<e.Life∨(r.A=e.Life∧(e.Up=true→r.B≤e.Peer))
  tf:∀r∈Ta,r.From=i→r.B<f.Life∨(r.B=f.Life∧(f.Up=true→r.A≤f.Peer))
  it:e.Peer≠0→e.Send.Base.toNat+e.Send.Items.length=(ha_ Gi i e.Life e.Peer).length∧∀k x,e.Send.Items[k]? =some x→(ha_ Gi i e.Life e.Peer)[e.Send.Base.toNat+k]? =some x.Part
  tk:f.Peer≠0→TInv (ha_ Gi i f.Peer f.Life) f.Take (ax_ Ta ⟨i,f.Peer,f.Life⟩)
  rt:∀A B,∃m,ax_ Gi ⟨i,A,B⟩=ax_ Ta ⟨i,A,B⟩++m
  p1:e.Peer=f.Life→f.Peer=e.Life→e.Send.Base≤f.Take.Next∧∀(k:Nat) (x:ag_),e.Send.Items[k]? =some x→x.Has=true→Had f.Take (e.Send.Base+k)
  p2:e.Peer=f.Life→f.Up=true→f.Peer≠e.Life→e.Send.Base=0∧∀(k:Nat) (x:ag_),e.Send.Items[k]? =some x→¬x.Has=true
  p3:e.Peer=f.Life→f.Peer=e.Life→∀(k:Nat) (x:ag_),e.Send.Items[k]? =some x→Had f.Take (e.Send.Base+k)→0≤x.Since
structure Gen (i:Int) (e f:am_) (Gi:List aa_) (q:ae_):Prop where
  a:q.Mine≤e.Life
  b:q.Mine=e.Life→e.Up=true→q.Yours≤e.Peer
  c:q.Yours≤f.Life
  d:q.Kind=2→(ha_ Gi i q.Mine q.Yours)[q.Seq.toNat]? =some ⟨q.Part,q.Last⟩
  w:q.Kind=1→q.Mine=e.Life→e.Up=true→q.Yours=e.Peer→q.Next≤e.Take.Next∧∀k:Nat,q.Mask.toNat.testBit k=true→Had e.Take (q.Next+k)
  s:q.Kind=2→q.Mine=e.Life→e.Up=true→q.Yours=e.Peer→∀(k:Nat) (x:ag_),e.Send.Items[k]? =some x→q.Seq=e.Send.Base+k→0≤x.Since
def Two (n:Int) (x y:am_) (Gi Ta:List aa_):Prop:=Dir n x y Gi Ta∧Dir (3-n) y x Gi Ta
structure Stp (n:Int) (x x' y:am_) (Gi Ta Gi' Ta':List aa_):Prop where
  two:Two n x' y Gi' Ta'
  mine:∀q,Gen n x y Gi q→Gen n x' y Gi' q
  yours:∀q,Gen (3-n) y x Gi q→Gen (3-n) y x' Gi' q
theorem Stp.refl {n:Int} {x y:am_} {Gi Ta:List aa_} (h:Two n x y Gi Ta):Stp n x x y Gi Ta Gi Ta:=⟨h,fun _ g=>g,fun _ g=>g⟩
theorem Stp.trans {n:Int} {x x' x'' y:am_} {Gi Ta Gi' Ta' Gi'' Ta'':List aa_} (h:Stp n x x' y Gi Ta Gi' Ta') (g:Stp n x' x'' y Gi' Ta' Gi'' Ta''):Stp n x x'' y Gi Ta Gi'' Ta'':=
  ⟨g.two,fun q a=>g.mine q (h.mine q a),fun q a=>g.yours q (h.yours q a)⟩
section
variable {n:Int} {x x' y:am_} {Gi Ta:List aa_}
theorem v2_ (h:Two n x y Gi Ta) (hl:x'.Life=x.Life) (hu:x'.Up=x.Up) (hp:x'.Peer=x.Peer) (ht:x'.Take=x.Take)
    (hb:0≤x.Send.Base∧x.Send.Base≤x'.Send.Base∧x'.Send.Base+x'.Send.Items.length=x.Send.Base+x.Send.Items.length)
    (hs:∀(k:Nat) z,x'.Send.Items[k]? =some z→∃(j:Nat) (u:ag_),x.Send.Items[j]? =some u∧x'.Send.Base+k=x.Send.Base+j∧z.Part=u.Part∧(0≤u.Since→0≤z.Since)∧(x.Peer=y.Life→y.Up=true→z.Has=true→u.Has=true∨(y.Peer=x.Life∧Had y.Take (x'.Send.Base+k))))
    (hyu:y.Peer=x.Life→y.Up=true)
    (h1:x.Peer=y.Life→y.Peer=x.Life→x'.Send.Base≤y.Take.Next) (h2:x.Peer=y.Life→y.Up=true→y.Peer≠x.Life→x'.Send.Base=x.Send.Base):Stp n x x' y Gi Ta Gi Ta:=by
  obtain ⟨⟨a1,a2,a3,a4,a5,a6,a7,a8,a9⟩,⟨b1,b2,b3,b4,b5,b6,b7,b8,b9⟩⟩:=h
  refine ⟨⟨⟨?_, ?_,a3, ?_,a5,a6, ?_, ?_, ?_⟩,⟨?_,b2, ?_,b4, ?_,b6, ?_, ?_, ?_⟩⟩,fun q g=>⟨?_, ?_,g.c,g.d, ?_, ?_⟩,fun q g=>⟨g.a,g.b, ?_,g.d,g.w,g.s⟩⟩
  all_goals simp only [hl,hu,hp,ht]
  ·exact a1
  ·exact a2
  ·intro hp0
   obtain ⟨c1,c2⟩:=a4 hp0
   refine ⟨by omega,fun k z hz=> ?_⟩
   obtain ⟨j,u,d1,d2,d3,_⟩:=hs k z hz
   have:=c2 j u d1
   rw [d3,←this];congr 1;omega
  ·intro e1 e2
   obtain ⟨c1,c2⟩:=a7 e1 e2
   refine ⟨h1 e1 e2,fun k z hz hh=> ?_⟩
   obtain ⟨j,u,d1,d2,d3,d4,d5⟩:=hs k z hz
   rcases d5 e1 (hyu e2) hh with g | g
   ·rw [d2];exact c2 j u d1 g
   ·exact g.2
  ·intro e1 e2 e3
   obtain ⟨c1,c2⟩:=a8 e1 e2 e3
   refine ⟨by rw [h2 e1 e2 e3];exact c1,fun k z hz hh=> ?_⟩
   obtain ⟨j,u,d1,d2,d3,d4,d5⟩:=hs k z hz
   rcases d5 e1 e2 hh with g | g
   ·exact c2 j u d1 g
   ·exact e3 g.1
  ·intro e1 e2 k z hz hh
   obtain ⟨j,u,d1,d2,d3,d4,d5⟩:=hs k z hz
   exact d4 (a9 e1 e2 j u d1 (by rw [←d2];exact hh))
  ·exact b1
  ·exact b3
  ·exact b5
  ·exact b7
  ·exact b8
  ·exact b9
  ·exact g.a
  ·exact g.b
  ·exact g.w
  ·intro k1 k2 k3 k4 k z hz hh
   obtain ⟨j,u,d1,d2,d3,d4,d5⟩:=hs k z hz
   exact d4 (g.s k1 k2 k3 k4 j u d1 (by omega))
  ·exact g.c
theorem r4_ (h:Two n x y Gi Ta) (hl:x'.Life=x.Life) (hu:x'.Up=x.Up) (hp:x'.Peer=x.Peer) (hs:x'.Send=x.Send)
    (ht:x.Peer≠0→TInv (ha_ Gi (3-n) x.Peer x.Life) x'.Take (ax_ Ta ⟨3-n,x.Peer,x.Life⟩)) (hn:x.Take.Next≤x'.Take.Next) (hh:∀s,Had x.Take s→Had x'.Take s)
    (h3:y.Peer=x.Life→x.Peer=y.Life→∀(k:Nat) (z:ag_),y.Send.Items[k]? =some z→Had x'.Take (y.Send.Base+k)→0≤z.Since):Stp n x x' y Gi Ta Gi Ta:=by
  obtain ⟨⟨a1,a2,a3,a4,a5,a6,a7,a8,a9⟩,⟨b1,b2,b3,b4,b5,b6,b7,b8,b9⟩⟩:=h
  refine ⟨⟨⟨?_, ?_,a3, ?_,a5,a6, ?_, ?_, ?_⟩,⟨?_,b2, ?_,b4, ?_,b6, ?_, ?_, ?_⟩⟩,fun q g=>⟨?_, ?_,g.c,g.d, ?_, ?_⟩,fun q g=>⟨g.a,g.b, ?_,g.d,g.w,g.s⟩⟩
  all_goals simp only [hl,hu,hp,hs]
  ·exact a1
  ·exact a2
  ·exact a4
  ·exact a7
  ·exact a8
  ·exact a9
  ·exact b1
  ·exact b3
  ·exact ht
  ·intro e1 e2
   obtain ⟨c1,c2⟩:=b7 e1 e2
   exact ⟨by omega,fun k z hz hz'=>hh _ (c2 k z hz hz')⟩
  ·exact b8
  ·exact h3
  ·exact g.a
  ·exact g.b
  ·intro k1 k2 k3 k4
   obtain ⟨c1,c2⟩:=g.w k1 k2 k3 k4
   exact ⟨by omega,fun k hk=>hh _ (c2 k hk)⟩
  ·exact g.s
  ·exact g.c
theorem fV_ (hv:VEnd x):(a2_ x).End.Life=x.Life∧(a2_ x).End.Up=x.Up∧(a2_ x).End.Peer=x.Peer∧(a2_ x).End.Take=x.Take∧((a2_ x).End.Send=(bn_ x).1∨(a2_ x).End.Send=x.Send):=by
  unfold a2_
  rw [if_pos hv]
  split
  ·split
   ·exact ⟨rfl,rfl,rfl,rfl, .inl rfl⟩
   ·exact ⟨rfl,rfl,rfl,rfl, .inl rfl⟩
  ·exact ⟨rfl,rfl,rfl,rfl, .inr rfl⟩
theorem Bm_ {x y:am_} (hv:VEnd x) (hy:VEnd y) (h:y.Peer=x.Life):y.Up=true:=by
  cases hh:y.Up with
  | true=>rfl
  | false=>have:=(hy.2.2.2.2.2.2.2 hh).1;have:=hv.2.1;omega
theorem wg_ (h:Two n x y Gi Ta) (hv:VEnd x) (hy:VEnd y):Stp n x (a2_ x).End y Gi Ta Gi Ta:=by
  obtain ⟨e1,e2,e3,e4,e5⟩:=fV_ hv
  obtain ⟨g1,g2⟩:=ia_ hv
  have key:(a2_ x).End.Send.Base=x.Send.Base∧(a2_ x).End.Send.Items.length=x.Send.Items.length∧∀(j:Nat) z,(a2_ x).End.Send.Items[j]? =some z→∃u,x.Send.Items[j]? =some u∧z.Part=u.Part∧z.Has=u.Has∧(0≤u.Since→0≤z.Since):=by
    rcases e5 with e | e
    ·rw [e]
     refine ⟨g1,g2,fun j z hz=> ?_⟩
     obtain ⟨u,hu,hz1,hz2⟩:=tQ_ hv j z hz
     obtain ⟨u',hu',hz3⟩:=u2_ hv j z hz
     rw [hu] at hu';cases hu'
     exact ⟨u,hu,hz1,hz2,hz3⟩
    ·rw [e];exact ⟨rfl,rfl,fun j z hz=>⟨z,hz,rfl,rfl,fun g=>g⟩⟩
  obtain ⟨k1,k2,k3⟩:=key
  refine v2_ h e1 e2 e3 e4 ⟨hv.2.2.2.2.1.2.1.1,by rw [k1];exact Int.le_refl _,by rw [k1,k2]⟩ (fun k z hz=> ?_) (Bm_ hv hy) (fun q1 q2=>by rw [k1];exact (h.1.p1 q1 q2).1) (fun _ _ _=>k1)
  obtain ⟨u,hu,hz1,hz2,hz3⟩:=k3 k z hz
  exact ⟨k,u,hu,by rw [k1],hz1,hz3,fun _ _ hh=> .inl (by rw [←hz2];exact hh)⟩
theorem wI_ (hv:VEnd x):∀q∈(a2_ x).Out,x.Up=true∧((q.Kind=1∧q.Next=(tkM x.Take).1∧q.Mask=(tkM x.Take).2)∨(x.Peer≠0∧q.Kind=2∧q.Seq∈(bn_ x).2∧iI_ (bn_ x).1.Items (q.Seq-x.Send.Base)=⟨q.Part,q.Last⟩)):=by
  have hb:=(ia_ hv).1
  have hm:∀q∈(bn_ x).2.map (iT_ x.Number x.Life x.Peer (bn_ x).1.Base (bn_ x).1.Items),x.Peer≠0∧q.Kind=2∧q.Seq∈(bn_ x).2∧iI_ (bn_ x).1.Items (q.Seq-x.Send.Base)=⟨q.Part,q.Last⟩:=fun q hq=>by
    obtain ⟨j,hj,rfl⟩:=List.mem_map.mp hq
    refine ⟨fun e=> ?_,rfl,hj,by rw [hb];rfl⟩
    unfold bn_ at hj;rw [if_pos e] at hj;cases hj
  unfold a2_
  rw [if_pos hv]
  split
  ·rename_i hu
   split
   ·intro q hq
    rcases List.mem_append.mp hq with hq | hq
    ·exact ⟨hu, .inr (hm q hq)⟩
    ·simp only [List.mem_singleton] at hq
     subst hq
     exact ⟨hu, .inl ⟨rfl,rfl,rfl⟩⟩
   ·exact fun q hq=>⟨hu, .inr (hm q hq)⟩
  ·intro q hq;cases hq
theorem wm_ (h:Two n x y Gi Ta) (hv:VEnd x):∀q∈(a2_ x).Out,Gen n (a2_ x).End y Gi q:=fun q hq=>by
  obtain ⟨e1,e2,e3,e4,e5⟩:=fV_ hv
  obtain ⟨f1,f2,f3,f4⟩:=gK_ hv q hq
  obtain ⟨o1,o2⟩:=wI_ hv q hq
  have hpl:=h.2.pe
  refine ⟨by omega,fun _ _=>by omega,by omega,fun hk=> ?_,fun hk _ _ _=> ?_,fun hk _ _ _ k z hz hq=> ?_⟩
  ·rcases o2 with ⟨o,_⟩ | ⟨o3,_,o4,o5⟩
   ·omega
   ·have hr:=oZ_ hv q.Seq o4
    obtain ⟨c1,c2⟩:=h.1.it o3
    have hS:=ic_ x.Send hv.2.2.2.2.1 q.Seq (by unfold bn_ at o4;rw [if_neg o3] at o4;exact o4)
    have hS':x.Send.Base≤q.Seq∧q.Seq<x.Send.Base+(bn_ x).1.Items.length:=by
      have hb:=(ia_ hv).1
      unfold bn_ at hb⊢
      rw [if_neg o3] at hb⊢
      rw [hb] at hS;exact hS
    have hlt:(q.Seq-x.Send.Base).toNat<(bn_ x).1.Items.length:=by omega
    unfold iI_ at o5
    rw [List.getElem?_eq_getElem hlt] at o5
    dsimp only at o5
    obtain ⟨u,hu,hz1,hz2⟩:=tQ_ hv _ _ (List.getElem?_eq_getElem hlt)
    have:=c2 _ _ hu
    have hb0:=hv.2.2.2.2.1.2.1.1
    rw [f3,f4,←o5,hz1,←this]
    congr 1;omega
  ·rcases o2 with ⟨_,o3,o4⟩ | ⟨_,o,_⟩
   ·rw [e4,o3,o4,(oT_ hv.2.2.2.2.2.1).1]
    exact ⟨Int.le_refl _,fun k hk=>Cm_ hv.2.2.2.2.2.1 k hk⟩
   ·omega
  ·rcases o2 with ⟨o,_⟩ | ⟨o3,_,o4,_⟩
   ·omega
   ·have hs:(a2_ x).End.Send=(bn_ x).1:=by
      unfold a2_;rw [if_pos hv,if_pos o1];split<;>rfl
    rw [hs] at hz hq
    exact xO_ hv o4 k z hz (by rw [hq,(ia_ hv).1])
theorem uW_ (h:Two n x y Gi Ta) (hv:VEnd x) (hy:VEnd y) {p:ae_} (hu:x.Up=true) (hg:Gen (3-n) y x Gi p):Stp n x (kU_ x p) y Gi Ta Gi Ta:=by
  unfold kU_
  split
  ·rename_i hm
   obtain ⟨⟨a1,a2,a3,a4,a5,a6,a7,a8,a9⟩,⟨b1,b2,b3,b4,b5,b6,b7,b8,b9⟩⟩:=h
   have hx0:=hv.2.2.1
   have hyb:=hy.2.2.2.2.1.2.1.1
   have ga:=hg.a
   have hnext:=hy.2.2.2.2.2.1.1
   refine ⟨⟨⟨a1,fun r hr e=> ?_,a3,fun hp=> ?_,a5,a6,fun _ _=>⟨hnext.1,fun k z hz=>by cases hz⟩,fun _ _ _=>⟨rfl,fun k z hz=>by cases hz⟩,fun _ _ k z hz=>by cases hz⟩,⟨ga,b2,fun r hr e=> ?_,b4,fun hp=> ?_,b6,fun e1 e2=> ?_,fun e1 e2 e3=> ?_,fun _ _ k z hz hh=> ?_⟩⟩,fun q g=>⟨g.a,fun e1 e2=> ?_,g.c,g.d,fun k1 k2 k3 k4=> ?_,fun _ _ _ _ k z hz=>by cases hz⟩,fun q g=>⟨g.a,g.b,g.c,g.d,g.w,g.s⟩⟩
   ·rcases a2 r hr e with g | ⟨g,g'⟩
    ·exact .inl g
    ·exact .inr ⟨g,fun _=>by have:=g' hu;dsimp only;omega⟩
   ·have e:ax_ Gi ⟨n,x.Life,p.Mine⟩=[]:=iu_ fun r hr e=>by
      simp only [kf,DPair.mk.injEq] at e
      rcases a2 r hr e.1 with g | ⟨g,g'⟩
      ·omega
      ·have:=g' hu;omega
    dsimp only
    unfold ha_
    rw [e]
    exact ⟨rfl,fun k z hz=>by cases hz⟩
   ·rcases b3 r hr e with g | ⟨g,g'⟩
    ·exact .inl g
    ·exact .inr ⟨g,fun _=>by have:=g' hu;dsimp only;omega⟩
   ·have e:ax_ Ta ⟨3-n,p.Mine,x.Life⟩=[]:=iu_ fun r hr e=>by
      simp only [kf,DPair.mk.injEq] at e
      rcases b3 r hr e.1 with g | ⟨g,g'⟩
      ·omega
      ·have:=g' hu;omega
    dsimp only
    rw [e]
    exact TInv.none _
   ·dsimp only at e1 e2
    obtain ⟨c1,c2⟩:=b8 e1 hu (by omega)
    exact ⟨by rw [c1];exact Int.le_refl _,fun k z hz hh=>absurd hh (c2 k z hz)⟩
   ·dsimp only at e1 e2 e3
    exact b8 e1 hu (by omega)
   ·rcases hh with hh | ⟨u,hu,_⟩
    ·change y.Send.Base+(k:Int)<0 at hh;omega
    ·cases hu
   ·have:=g.b e1 hu
    dsimp only at this⊢;omega
   ·dsimp only at k2 k4
    have:=g.b k2 hu;omega
  ·exact Stp.refl h
theorem Az_ (h:Two n x y Gi Ta) (hv:VEnd x) (hy:VEnd y) {p:ae_} (hu:x.Up=true) (hf:iH_ p) (hg:Gen (3-n) y x Gi p) (hk:p.Kind=1) (hl:p.Yours=x.Life) (hp:p.Mine=x.Peer):
    Stp n x ⟨x.Number,x.Up,x.Life,x.Peer,x.Since,x.Owes,iq_ x.Send p.Next p.Mask,x.Take⟩ y Gi Ta Gi Ta:=by
  have hS:=hv.2.2.2.2.1
  have hb0:=hS.2.1.1
  by_cases hc:x.Send.Base≤p.Next∧p.Next≤x.Send.Base+f8_ x.Send.Items∧0≤p.Mask∧p.Mask≤255
  ·have hw:iq_ x.Send p.Next p.Mask=⟨p.Next,pk_ 0 p.Mask.toNat (x.Send.Items.drop (p.Next-x.Send.Base).toNat)⟩:=by unfold iq_;rw [if_pos hS,if_pos hc]
   rw [hw]
   have hfr:=jp_ x.Send.Items
   have hget:∀(k:Nat) z,(pk_ 0 p.Mask.toNat (x.Send.Items.drop (p.Next-x.Send.Base).toNat))[k]? =some z→∃u,x.Send.Items[(p.Next-x.Send.Base).toNat+k]? =some u∧z.Part=u.Part∧z.Since=u.Since∧(z.Has=true→u.Has=true∨p.Mask.toNat.testBit k=true):=fun k z hz=>by
     rw [rG_,List.getElem?_drop] at hz
     cases hu:x.Send.Items[(p.Next-x.Send.Base).toNat+k]? with
     | none=>rw [hu] at hz;cases hz
     | some u=>
       rw [hu,Option.map_some] at hz
       refine ⟨u,rfl, ?_⟩
       split at hz
       ·rename_i hh;cases hz;exact ⟨rfl,rfl,fun _=> .inr hh.2.1⟩
       ·cases hz;exact ⟨rfl,rfl,fun g=> .inl g⟩
   have pair:x.Peer=y.Life→y.Up=true→y.Peer=x.Life∧p.Next≤y.Take.Next∧∀k:Nat,p.Mask.toNat.testBit k=true→Had y.Take (p.Next+k):=fun q1 hyu=>by
     have hb:=hg.b (by omega) hyu
     have hpe:=h.1.pe
     exact ⟨by omega,hg.w hk (by omega) hyu (by omega)⟩
   refine v2_ h rfl rfl rfl rfl ⟨hb0,hc.1, ?_⟩ (fun k z hz=> ?_) (Bm_ hv hy) (fun q1 q2=>(pair q1 (Bm_ hv hy q2)).2.1) (fun q1 q2 q3=>absurd (pair q1 q2).1 q3)
   ·dsimp only;rw [gP_,List.length_drop];omega
   ·obtain ⟨u,hu1,hu2,hu3,hu4⟩:=hget k z hz
    refine ⟨_,u,hu1,by dsimp only;omega,hu2,by rw [hu3];exact fun g=>g,fun q1 q2 hh=> ?_⟩
    rcases hu4 hh with g | g
    ·exact .inl g
    ·exact .inr ⟨(pair q1 q2).1,(pair q1 q2).2.2 k g⟩
  ·have hw:iq_ x.Send p.Next p.Mask=x.Send:=by unfold iq_;rw [if_pos hS,if_neg hc]
   rw [hw]
   exact r4_ h rfl rfl rfl rfl h.2.tk (Int.le_refl _) (fun _ g=>g) h.2.p3
theorem A5_ (h:Two n x y Gi Ta) (hv:VEnd x) (hy:VEnd y) (hgl:Gi.length≤400) {p:ae_} (hu:x.Up=true) (hf:iH_ p) (hg:Gen (3-n) y x Gi p) (hp:p.Mine=x.Peer):Stp n x (hd_ x p).End y Gi Ta Gi Ta:=by
  unfold hd_
  split
  ·rename_i hl
   split
   ·rename_i hk
    exact Az_ h hv hy hu hf hg hk hl hp
   ·rename_i hk
    have hk2:p.Kind=2∧(0≤p.Seq∧p.Seq≤999999)∧p.Part.size≤20:=by
      rcases hf.2.2.2 with g | g
      ·exact absurd g.1 hk
      ·exact ⟨g.1,g.2.2.2.1,g.2.2.2.2⟩
    have hd:=hg.d hk2.1
    rw [hp,hl] at hd
    have hp0:x.Peer≠0:=by have:=hf.2.1;omega
    obtain ⟨t1,t2,t3,t4⟩:=nU_ (h.2.tk hp0) hk2.2.1.1 hd hk2.2.2 (by have:=n1_ Gi (3-n) x.Peer x.Life;omega)
    refine r4_ h rfl rfl rfl rfl (fun _=>t1) t2 t3 (fun e1 e2 k z hz hh=> ?_)
    rcases A7_ (h.2.tk hp0).V _ _ _ hh with g | g
    ·exact h.2.p3 e1 e2 k z hz g
    ·exact hg.s hk2.1 (by omega) (Bm_ hv hy e1) (by omega) k z hz g.symm
  ·exact r4_ h rfl rfl rfl rfl h.2.tk (Int.le_refl _) (fun _ g=>g) h.2.p3
theorem uu_ (h:Two n x y Gi Ta) (hv:VEnd x) (hy:VEnd y) (hgl:Gi.length≤400) {p:ae_} (hg:x.Up=true→¬p.From=x.Number→Gen (3-n) y x Gi p):Stp n x (fg_ x p).End y Gi Ta Gi Ta:=by
  unfold fg_
  rw [if_pos hv]
  split
  ·rename_i hc
   obtain ⟨c1,c2,c3,c4⟩:=hc
   have hg:=hg c1 c3
   have s1:=uW_ h hv hy c1 hg
   obtain ⟨v1,v2⟩:=wi_ hv c1 c2
   exact s1.trans (A5_ s1.two v1 hy hgl v2 c2 (s1.yours _ hg) (i0_ hv c2 c4).symm)
  ·exact Stp.refl h
theorem Ay_ (h:Two n x y Gi Ta) (hv:VEnd x) (hy:VEnd y):Stp n x (iL_ x) y Gi Ta Gi Ta:=by
  unfold iL_
  rw [if_pos hv]
  obtain ⟨⟨a1,a2,a3,a4,a5,a6,a7,a8,a9⟩,⟨b1,b2,b3,b4,b5,b6,b7,b8,b9⟩⟩:=h
  have hxl:=hv.2.1
  have hyl:=hy.2.1
  have no:∀q:Prop,(false=true→q):=fun q g=>by cases g
  refine ⟨⟨⟨a1,fun r hr e=> ?_,a3,fun hp=>absurd rfl hp,a5,a6,fun e1 _=> ?_,fun e1=> ?_,fun e1=> ?_⟩,⟨?_,b2,fun r hr e=> ?_,b4,fun hp=>absurd rfl hp,b6,fun _ e2=> ?_,fun _ e2=>no _ e2,fun _ e2=> ?_⟩⟩,fun q g=>⟨g.a,fun _=>no _,g.c,g.d,fun _ _=>no _,fun _ _=>no _⟩,fun q g=>⟨g.a,g.b,g.c,g.d,g.w,g.s⟩⟩
  ·rcases a2 r hr e with g | g
   ·exact .inl g
   ·exact .inr ⟨g.1,no _⟩
  ·dsimp only at e1;omega
  ·dsimp only at e1;omega
  ·dsimp only at e1;omega
  ·show 0≤y.Life;omega
  ·rcases b3 r hr e with g | g
   ·exact .inl g
   ·exact .inr ⟨g.1,no _⟩
  ·dsimp only at e2;omega
  ·dsimp only at e2;omega
theorem AF_ (h:Two n x y Gi Ta) (hv:VEnd x) (hy:VEnd y):Stp n x (hf_ x) y Gi Ta Gi Ta:=by
  unfold hf_
  rw [if_pos hv]
  split
  ·exact Stp.refl h
  split
  ·exact Stp.refl h
  obtain ⟨⟨a1,a2,a3,a4,a5,a6,a7,a8,a9⟩,⟨b1,b2,b3,b4,b5,b6,b7,b8,b9⟩⟩:=h
  have hxl:=hv.2.1
  have hyl:=hy.2.1
  refine ⟨⟨⟨?_,fun r hr e=> ?_,a3,fun hp=>absurd rfl hp,a5,a6,fun e1 _=> ?_,fun e1=> ?_,fun e1=> ?_⟩,⟨?_,b2,fun r hr e=> ?_,b4,fun hp=>absurd rfl hp,b6,fun _ e2=> ?_,fun e1 _ _=> ?_,fun _ e2=> ?_⟩⟩,fun q g=>⟨?_,fun e _=> ?_,g.c,g.d,fun _ e=> ?_,fun _ e=> ?_⟩,fun q g=>⟨g.a,g.b, ?_,g.d,g.w,g.s⟩⟩
  ·dsimp only;omega
  ·left
   rcases a2 r hr e with g | g
   ·dsimp only;omega
   ·have:=g.1;dsimp only;omega
  ·dsimp only at e1;omega
  ·dsimp only at e1;omega
  ·dsimp only at e1;omega
  ·show 0≤y.Life;omega
  ·left
   rcases b3 r hr e with g | g
   ·dsimp only;omega
   ·have:=g.1;dsimp only;omega
  ·dsimp only at e2;omega
  ·dsimp only at e1;omega
  ·dsimp only at e2;omega
  ·have:=g.a;dsimp only;omega
  ·have:=g.a;dsimp only at e;omega
  ·have:=g.a;dsimp only at e;omega
  ·have:=g.a;dsimp only at e;omega
  ·have:=g.c;dsimp only;omega
theorem wV_ (h:Two n x y Gi Ta) (hv:VEnd x) (hy:VEnd y) (hn:1≤n∧n≤2) {t:ByteArray} (hc:(e1_ x t).Code=0):Stp n x (e1_ x t).End y Gi Ta (Gi++[⟨n,x.Life,x.Peer,t⟩]) Ta:=by
  obtain ⟨f1,f2,f3⟩:=jU_ hc
  have hS:=hv.2.2.2.2.1
  have hm:(kv_ x.Send t).1=⟨x.Send.Base,x.Send.Items++(nF_ t).map yl_⟩:=by
    unfold e1_ at hc
    rw [if_pos hv,if_pos f2,if_neg f3] at hc
    unfold kv_ at hc⊢
    split
    ·rename_i g;rw [if_pos g] at hc
     split
     ·rfl
     ·rename_i g2;rw [if_neg g2] at hc;simp at hc
    ·rename_i g;rw [if_neg g] at hc;simp at hc
  rw [f1,hm]
  obtain ⟨⟨a1,a2,a3,a4,a5,a6,a7,a8,a9⟩,⟨b1,b2,b3,b4,b5,b6,b7,b8,b9⟩⟩:=h
  have old:∀A B,ha_ (Gi++[⟨n,x.Life,x.Peer,t⟩]) (3-n) A B=ha_ Gi (3-n) A B:=fun A B=>by
    rw [pz_,if_neg (by simp only [kf,DPair.mk.injEq];omega),List.append_nil]
  have grow:∀A B,∃Q,ha_ (Gi++[⟨n,x.Life,x.Peer,t⟩]) n A B=ha_ Gi n A B++Q:=fun A B=>⟨_,pz_ _ _ _ _ _⟩
  have new:ha_ (Gi++[⟨n,x.Life,x.Peer,t⟩]) n x.Life x.Peer=ha_ Gi n x.Life x.Peer++nF_ t:=by
    have e:(⟨n,x.Life,x.Peer⟩:DPair)=kf ⟨n,x.Life,x.Peer,t⟩:=rfl
    rw [pz_,if_pos e]
  have new? :∀(k:Nat) z,(x.Send.Items++(nF_ t).map yl_)[k]? =some z→x.Send.Items[k]? =some z∨(x.Send.Items.length≤k∧¬z.Has=true∧(nF_ t)[k-x.Send.Items.length]? =some z.Part):=fun k z hz=>by
    rw [List.getElem?_append] at hz
    split at hz
    ·exact .inl hz
    ·rename_i hlt
     rw [List.getElem?_map] at hz
     cases hh:(nF_ t)[k-x.Send.Items.length]? with
     | none=>rw [hh] at hz;cases hz
     | some p=>rw [hh,Option.map_some] at hz;cases hz;exact .inr ⟨by omega,by simp [yl_],rfl⟩
  have hg:∀r,r∈Gi++[(⟨n,x.Life,x.Peer,t⟩:aa_)]→r∈Gi∨r=⟨n,x.Life,x.Peer,t⟩:=fun r hr=>by simpa using hr
  have gd:∀i,(∀A B,∃Q,ha_ (Gi++[⟨n,x.Life,x.Peer,t⟩]) i A B=ha_ Gi i A B++Q)→∀q:ae_,(q.Kind=2→(ha_ Gi i q.Mine q.Yours)[q.Seq.toNat]? =some ⟨q.Part,q.Last⟩)→(q.Kind=2→(ha_ (Gi++[⟨n,x.Life,x.Peer,t⟩]) i q.Mine q.Yours)[q.Seq.toNat]? =some ⟨q.Part,q.Last⟩):=fun i hi q g hk=>by
    obtain ⟨Q,e⟩:=hi q.Mine q.Yours
    have:=g hk
    rw [e,List.getElem?_append_left (List.getElem?_eq_some_iff.mp this).1];exact this
  refine ⟨⟨⟨a1,fun r hr e=> ?_,a3,fun hp=> ?_,fun hp=> ?_,fun A B=> ?_,fun e1 e2=> ?_,fun e1 e2 e3=> ?_,fun e1 e2 k z hz hh=> ?_⟩,⟨b1,fun r hr e=> ?_,b3,fun hp=> ?_,fun hp=> ?_,fun A B=> ?_,b7,b8,b9⟩⟩,fun q g0=>⟨g0.a,g0.b,g0.c,gd n grow q g0.d,g0.w,fun k1 k2 k3 k4 k z hz hh=> ?_⟩,fun q g=>⟨g.a,g.b,g.c,gd (3-n) (fun A B=>⟨[],by rw [old];simp⟩) q g.d,g.w,g.s⟩⟩
  ·rcases hg r hr with hr | rfl
   ·exact a2 r hr e
   ·exact .inr ⟨rfl,fun _=>Int.le_refl _⟩
  ·obtain ⟨c1,c2⟩:=a4 f3
   dsimp only
   rw [new]
   refine ⟨by simp only [List.length_append,List.length_map];omega,fun k z hz=> ?_⟩
   rcases new? k z hz with g | ⟨g1,g2,g3⟩
   ·have:=c2 k z g
    rw [List.getElem?_append_left (List.getElem?_eq_some_iff.mp this).1];exact this
   ·rw [List.getElem?_append_right (by omega),←g3];congr 1;omega
  ·obtain ⟨Q,e⟩:=grow y.Peer y.Life
   rw [e];exact (a5 hp).app Q
  ·obtain ⟨m,hm⟩:=a6 A B
   rw [bL_]
   split
   ·exact ⟨m++[t],by rw [hm];simp⟩
   ·exact ⟨m,hm⟩
  ·obtain ⟨c1,c2⟩:=a7 e1 e2
   refine ⟨c1,fun k z hz hh=> ?_⟩
   rcases new? k z hz with g | ⟨_,g,_⟩
   ·exact c2 k z g hh
   ·exact absurd hh g
  ·obtain ⟨c1,c2⟩:=a8 e1 e2 e3
   refine ⟨c1,fun k z hz hh=> ?_⟩
   rcases new? k z hz with g | ⟨_,g,_⟩
   ·exact c2 k z g hh
   ·exact absurd hh g
  ·obtain ⟨c1,c2⟩:=a4 f3
   rcases new? k z hz with g | ⟨g,_,_⟩
   ·exact a9 e1 e2 k z g hh
   ·have hp:y.Peer≠0:=by have:=hv.2.1;dsimp only at e2;omega
    have:=Bo_ (a5 hp) hh
    dsimp only at e1 e2 this
    rw [e2,←e1] at this
    have:=hS.2.1.1
    omega
  ·rcases hg r hr with hr | rfl
   ·exact b2 r hr e
   ·dsimp only at e;omega
  ·rw [old];exact b4 hp
  ·dsimp only;rw [old];exact b5 hp
  ·obtain ⟨m,hm⟩:=b6 A B
   rw [bL_,if_neg (by simp only [kf,DPair.mk.injEq];omega)]
   exact ⟨m,hm⟩
  ·obtain ⟨c1,c2⟩:=a4 f3
   rcases new? k z hz with g | ⟨g,_,_⟩
   ·exact g0.s k1 k2 k3 k4 k z g hh
   ·have:=g0.d k1
    dsimp only at k2 k4
    rw [k2,k4] at this
    have e1:q.Seq.toNat<x.Send.Base.toNat+x.Send.Items.length:=by rw [c1];exact (List.getElem?_eq_some_iff.mp this).1
    have e2:=hS.2.1.1
    dsimp only at hh
    omega
theorem wP_ (h:Two n x y Gi Ta) (hv:VEnd x) (hy:VEnd y) (hn:1≤n∧n≤2) (hgi:fE_ Gi) (hc:(eb_ x).Code=0):Stp n x (eb_ x).End y Gi Ta Gi (Ta++[⟨3-n,x.Peer,x.Life,(eb_ x).Text⟩]):=by
  obtain ⟨f1,f2,f3⟩:=fL_ hc
  obtain ⟨_,_,hp0,_⟩:=sp_ hv hc
  rw [f1]
  dsimp only
  obtain ⟨⟨a1,a2,a3,a4,a5,a6,a7,a8,a9⟩,⟨b1,b2,b3,b4,b5,b6,b7,b8,b9⟩⟩:=h
  obtain ⟨t1,t2,t3⟩:=su_ (b5 hp0) f3
  have old:∀A B,ax_ (Ta++[⟨3-n,x.Peer,x.Life,(cB_ x.Take).2.1⟩]) ⟨n,A,B⟩=ax_ Ta ⟨n,A,B⟩:=fun A B=>by
    rw [bL_,if_neg (by simp only [kf,DPair.mk.injEq];omega)]
  have hg:∀r,r∈Ta++[(⟨3-n,x.Peer,x.Life,(cB_ x.Take).2.1⟩:aa_)]→r∈Ta∨r=⟨3-n,x.Peer,x.Life,(cB_ x.Take).2.1⟩:=fun r hr=>by simpa using hr
  have new:ax_ (Ta++[⟨3-n,x.Peer,x.Life,(cB_ x.Take).2.1⟩]) ⟨3-n,x.Peer,x.Life⟩=ax_ Ta ⟨3-n,x.Peer,x.Life⟩++[(cB_ x.Take).2.1]:=by
    have e:(⟨3-n,x.Peer,x.Life⟩:DPair)=kf ⟨3-n,x.Peer,x.Life,(cB_ x.Take).2.1⟩:=rfl
    rw [bL_,if_pos e]
  refine ⟨⟨⟨a1,a2,fun r hr e=> ?_,a4,fun hp=> ?_,fun A B=> ?_,a7,a8,a9⟩,⟨b1,b2,fun r hr e=> ?_,b4,fun hp=> ?_,fun A B=> ?_,fun e1 e2=> ?_,b8,fun e1 e2 k z hz hh=>b9 e1 e2 k z hz (A0_ (b5 hp0).V _ hh)⟩⟩,fun q g=>⟨g.a,g.b,g.c,g.d,fun k1 k2 k3 k4=> ?_,g.s⟩,fun q g=>⟨g.a,g.b,g.c,g.d,g.w,g.s⟩⟩
  ·rcases hg r hr with hr | rfl
   ·exact a3 r hr e
   ·dsimp only at e;omega
  ·rw [old];exact a5 hp
  ·rw [old];exact a6 A B
  ·rcases hg r hr with hr | rfl
   ·exact b3 r hr e
   ·exact .inr ⟨rfl,fun _=>Int.le_refl _⟩
  ·dsimp only;rw [new];exact t1
  ·by_cases e:A=x.Peer∧B=x.Life
   ·obtain ⟨rfl,rfl⟩:=e
    rw [new]
    obtain ⟨m,hm⟩:=t1.pre (pw_ hgi (3-n) x.Peer x.Life)
    exact ⟨(cB_ x.Take).1.Ready++m,by rw [hm];simp⟩
   ·rw [bL_,if_neg (by simp only [kf,DPair.mk.injEq];omega)]
    exact b6 A B
  ·obtain ⟨c1,c2⟩:=b7 e1 e2
   exact ⟨by dsimp only;omega,fun k z hz hz'=>t3 _ (c2 k z hz hz')⟩
  ·obtain ⟨c1,c2⟩:=g.w k1 k2 k3 k4
   exact ⟨by dsimp only;omega,fun k hk=>t3 _ (c2 k hk)⟩
end
end Km.X
namespace Km.X
open Go Km
set_option linter.unusedVariables false
set_option linter.unusedSimpArgs false
def sM_ (l:List am_) (Gi:List aa_) (q:ae_):Prop:=Gen q.From (af_ q.From l) (af_ (3-q.From) l) Gi q
def Snt (l:List am_) (Gi:List aa_) (K:ByteArray) (W:Int) (s:ByteArray):Prop:=∃q,iH_ q∧s=dk_ q K W∧sM_ l Gi q
structure WInv (w:ab_):Prop where
  two:∀n,1≤n∧n≤2→Dir n (af_ n w.Ends) (af_ (3-n) w.Ends) w.Given w.Taken
  fl:∀p∈w.Flight,Snt w.Ends w.Given w.Key w.Width p.Sent
theorem eC_ (n:Int):3-(3-n)=n:=by omega
theorem WInv.pair {w:ab_} (h:WInv w) {n:Int} (hn:1≤n∧n≤2):Two n (af_ n w.Ends) (af_ (3-n) w.Ends) w.Given w.Taken:=by
  refine ⟨h.two n hn, ?_⟩
  have:=h.two (3-n) (by omega)
  rwa [eC_] at this
theorem DK_ {l:List am_} {Gi Ta:List aa_} {n:Int} (hn:1≤n∧n≤2) (h:Two n (af_ n l) (af_ (3-n) l) Gi Ta):∀m,1≤m∧m≤2→Dir m (af_ m l) (af_ (3-m) l) Gi Ta:=fun m hm=>by
  by_cases e:m=n
  ·subst e;exact h.1
  ·have:m=3-n:=by omega
   subst this
   rw [eC_];exact h.2
theorem hS_ {l:List am_} (hl:iO_ l) {Gi Ta Gi' Ta':List aa_} {n:Int} (hn:1≤n∧n≤2) {x':am_} (s:Stp n (af_ n l) x' (af_ (3-n) l) Gi Ta Gi' Ta'):
    (∀m,1≤m∧m≤2→Dir m (af_ m (dl_ n x' l)) (af_ (3-m) (dl_ n x' l)) Gi' Ta')∧∀q:ae_,(1≤q.From∧q.From≤2)→sM_ l Gi q→sM_ (dl_ n x' l) Gi' q:=by
  have e1:af_ n (dl_ n x' l)=x':=by rw [bG_ hl hn hn,if_pos rfl]
  have e2:af_ (3-n) (dl_ n x' l)=af_ (3-n) l:=by rw [bG_ hl hn (by omega),if_neg (by omega)]
  refine ⟨DK_ hn (by rw [e1,e2];exact s.two),fun q hq q3=> ?_⟩
  unfold sM_ at q3⊢
  by_cases e:q.From=n
  ·rw [e] at q3⊢
   rw [e1,e2]
   exact s.mine q q3
  ·have:q.From=3-n:=by omega
   rw [this] at q3⊢
   rw [eC_] at q3⊢
   rw [e1,e2]
   exact s.yours q q3
theorem wE_ {l l':List am_} {Gi Gi':List aa_} (h:∀q:ae_,(1≤q.From∧q.From≤2)→sM_ l Gi q→sM_ l' Gi' q) {K:ByteArray} {W:Int} {b:ByteArray} (g:Snt l Gi K W b):Snt l' Gi' K W b:=by
  obtain ⟨q,q1,q2,q3⟩:=g
  exact ⟨q,q1,q2,h q q1.1 q3⟩
theorem step_end {w:ab_} (hV:au_ w) (h:WInv w) {n:Int} (hn:1≤n∧n≤2) {x':am_} {Gi' Ta':List aa_} (s:Stp n (af_ n w.Ends) x' (af_ (3-n) w.Ends) w.Given w.Taken Gi' Ta') {fl':List ad_} (F':ByteArray)
    (hfl:∀p∈fl',∃p0∈w.Flight,p.Sent=p0.Sent):WInv ⟨w.Key,w.Width,dl_ n x' w.Ends,fl',F',Gi',Ta'⟩:=by
  obtain ⟨a1,a2⟩:=hS_ hV.2.2.2.2.1 hn s
  refine ⟨a1,fun p hp=> ?_⟩
  obtain ⟨p0,h0,e⟩:=hfl p hp
  rw [e]
  exact wE_ a2 (h.fl p0 h0)
theorem jQ_ {w:ab_} (h:WInv w) {fl':List ad_} (hfl:∀p∈fl',∃p0∈w.Flight,p.Sent=p0.Sent):WInv (be_ w fl'):=by
  refine ⟨h.two,fun p hp=> ?_⟩
  obtain ⟨p0,h0,e⟩:=hfl p hp
  show Snt _ _ _ _ p.Sent
  rw [e]
  exact h.fl p0 h0
theorem zH_ {l:List am_} (h:iO_ l) (x y:am_):dl_ 2 y (dl_ 1 x l)=[x,y]:=by
  obtain ⟨e,f,rfl,_⟩:=ej_ h
  rfl
theorem wq_ {b:ByteArray} {wd to:Int} {out:List ae_} {fl:List ad_} {p:ad_} (h:p∈vy_ b wd to out fl):p∈fl∨∃q∈out,p=sP_ b wd to q:=by
  unfold vy_ at h
  rcases List.mem_append.mp h with h | h
  ·exact .inl h
  ·have:=List.mem_of_mem_take h
   obtain ⟨q,hq,e⟩:=List.mem_map.mp this
   exact .inr ⟨q,hq,e.symm⟩
theorem wY_ {w:ab_} (hV:au_ w) (hD:∀n,1≤n∧n≤2→Dir n (af_ n w.Ends) (af_ (3-n) w.Ends) w.Given w.Taken):
    (∀n,1≤n∧n≤2→Dir n (af_ n (aI_ w).Ends) (af_ (3-n) (aI_ w).Ends) w.Given w.Taken)∧(∀q:ae_,(1≤q.From∧q.From≤2)→sM_ w.Ends w.Given q→sM_ (aI_ w).Ends w.Given q)∧
    ∀n,1≤n∧n≤2→∀q∈(a2_ (af_ n w.Ends)).Out,sM_ (aI_ w).Ends w.Given q:=by
  have hE:=hV.2.2.2.2.1
  obtain ⟨v1,n1⟩:=by_ hE (n:=1) (by omega)
  obtain ⟨v2,n2⟩:=by_ hE (n:=2) (by omega)
  have t1:Two 1 (af_ 1 w.Ends) (af_ 2 w.Ends) w.Given w.Taken:=⟨hD 1 (by omega),hD 2 (by omega)⟩
  have s1:=wg_ t1 v1 v2
  have g1:=wm_ t1 v1
  obtain ⟨a1,a2⟩:=hS_ hE (n:=1) (x':=(a2_ (af_ 1 w.Ends)).End) (Gi:=w.Given) (Ta:=w.Taken) (Gi':=w.Given) (Ta':=w.Taken) (by omega) s1
  have hE1:iO_ (dl_ 1 (a2_ (af_ 1 w.Ends)).End w.Ends):=p3_ hE (by omega) (sa_ v1) ((qd_ v1).trans n1)
  have e1:af_ 1 (dl_ 1 (a2_ (af_ 1 w.Ends)).End w.Ends)=(a2_ (af_ 1 w.Ends)).End:=by rw [bG_ hE (by omega) (by omega),if_pos rfl]
  have e2:af_ 2 (dl_ 1 (a2_ (af_ 1 w.Ends)).End w.Ends)=af_ 2 w.Ends:=by rw [bG_ hE (by omega) (by omega),if_neg (by omega)]
  have t2:Two 2 (af_ 2 w.Ends) (a2_ (af_ 1 w.Ends)).End w.Given w.Taken:=⟨s1.two.2,s1.two.1⟩
  have s2:=wg_ t2 v2 (sa_ v1)
  have g2:=wm_ t2 v2
  obtain ⟨b1,b2⟩:=hS_ hE1 (n:=2) (x':=(a2_ (af_ 2 w.Ends)).End) (Gi:=w.Given) (Ta:=w.Taken) (Gi':=w.Given) (Ta':=w.Taken) (by omega) (by
    rw [show (3:Int)-2=1 by omega,e1,e2];exact s2)
  rw [zH_ hE] at b1 b2
  refine ⟨b1,fun q hq g=>b2 q hq (a2 q hq g),fun n hn q hq=> ?_⟩
  have:n=1∨n=2:=by omega
  rcases this with rfl | rfl
  ·have hf:q.From=1:=by rw [(gK_ v1 q hq).2.1,n1]
   refine b2 q (by omega) ?_
   unfold sM_
   rw [hf,show (3:Int)-1=2 by omega,e1,e2]
   exact g1 q hq
  ·have hf:q.From=2:=by rw [(gK_ v2 q hq).2.1,n2]
   show sM_ [(a2_ (af_ 1 w.Ends)).End,(a2_ (af_ 2 w.Ends)).End] w.Given q
   unfold sM_
   rw [hf,show (3:Int)-2=1 by omega]
   exact g2 q hq
theorem wv_ {w:ab_} (hV:au_ w) (h:WInv w):WInv (aI_ w):=by
  have hE:=hV.2.2.2.2.1
  obtain ⟨t1,t2,t3⟩:=wY_ hV h.two
  refine ⟨t1,fun p hp=> ?_⟩
  change p∈vy_ w.Key w.Width 1 (a2_ (af_ 2 w.Ends)).Out (vy_ w.Key w.Width 2 (a2_ (af_ 1 w.Ends)).Out w.Flight) at hp
  rcases wq_ hp with hp | ⟨q,hq,rfl⟩
  ·rcases wq_ hp with hp | ⟨q,hq,rfl⟩
   ·exact wE_ t2 (h.fl p hp)
   ·exact ⟨q,(gK_ (by_ hE (n:=1) (by omega)).1 q hq).1,rfl,t3 1 (by omega) q hq⟩
  ·exact ⟨q,(gK_ (by_ hE (n:=2) (by omega)).1 q hq).1,rfl,t3 2 (by omega) q hq⟩
theorem At_ {s b:ByteArray} {w:Int} (h:(h4_ s b w).2=true):s≠noB:=fun e=>by
  obtain ⟨_,_,h1,h2,_⟩:=xe_ h
  rw [e,dX_] at h2;omega
theorem jB_ {w:ab_} {p:ad_} (h:(aV_ w p).Forged=noB):w.Forged=noB∧((h4_ p.Bytes w.Key w.Width).2=true→p.Bytes=p.Sent):=by
  unfold aV_ at h
  split at h
  ·rename_i hr
   dsimp only at h
   split at h
   ·exact absurd h (At_ hr)
   ·rename_i hc
    refine ⟨h,fun _=> ?_⟩
    by_cases e:p.Bytes=p.Sent
    ·exact e
    ·exact absurd ⟨e,h⟩ hc
  ·rename_i hr
   exact ⟨h,fun g=>absurd g hr⟩
theorem vt_ (w:ab_) (n:Int) (t:ByteArray):(k1_ w n t).Forged=w.Forged:=by unfold k1_;split<;>rfl
theorem o3_ (w:ab_) (n:Int):(dU_ w n).Forged=w.Forged:=by unfold dU_;split<;>rfl
theorem uy_ {w:ab_} (hV:au_ w) (h:WInv w) {p:ad_} (hp:vj_ p) (hs:Snt w.Ends w.Given w.Key w.Width p.Sent) (hf:(aV_ w p).Forged=noB):WInv (aV_ w p):=by
  obtain ⟨_,hb⟩:=jB_ hf
  unfold aV_
  split
  ·rename_i hr
   have hb:=hb hr
   obtain ⟨q,q1,q2,q3⟩:=hs
   have hw:=hV.1
   have hk:=hV.2.1
   have hq:h4_ p.Bytes w.Key w.Width=(q,true):=by rw [hb,q2];exact lG_ q1 hw hk
   rw [hq]
   have hE:=hV.2.2.2.2.1
   obtain ⟨v1,n1⟩:=by_ hE hp.1
   obtain ⟨v2,n2⟩:=by_ hE (n:=3-p.To) (by have:=hp.1;omega)
   refine step_end hV h hp.1 (uu_ (h.pair hp.1) v1 v2 (by have:=hV.2.2.2.1;omega) (fun _ hne=> ?_)) _ (fun p0 h0=>⟨p0,h0,rfl⟩)
   dsimp only at hne⊢
   have hn1:=hp.1
   have hn2:=q1.1
   have:q.From=3-p.To:=by omega
   unfold sM_ at q3
   rw [this,eC_] at q3
   exact q3
  ·exact h
theorem wB_ {w:ab_} (hV:au_ w) (h:WInv w) {n:Int} (hn:1≤n∧n≤2):WInv (dU_ w n):=by
  unfold dU_
  split
  ·rename_i hc
   have hE:=hV.2.2.2.2.1
   exact step_end hV h hn (wP_ (h.pair hn) (by_ hE hn).1 (by_ hE (n:=3-n) (by omega)).1 hn hV.2.2.2.2.2.2.1 hc.2) _ (fun p0 h0=>⟨p0,h0,rfl⟩)
  ·exact h
theorem AC_ {w:ab_} (hV:au_ w) (h:WInv w) {n:Int} (hn:1≤n∧n≤2) (t:ByteArray):WInv (k1_ w n t):=by
  unfold k1_
  split
  ·rename_i hc
   have hE:=hV.2.2.2.2.1
   exact step_end hV h hn (wV_ (h.pair hn) (by_ hE hn).1 (by_ hE (n:=3-n) (by omega)).1 hn hc.2) _ (fun p0 h0=>⟨p0,h0,rfl⟩)
  ·exact h
theorem xT_ {w:ab_} {v:aT_} (h:(doW w v).Forged=noB):w.Forged=noB:=by
  unfold doW at h
  split at h
  ·exact h
  split at h
  ·split at h
   ·split at h
    ·unfold if_ at h
     split at h
     ·exact (jB_ h).1
     ·repeat' split at h
      all_goals exact h
    ·exact h
   ·exact h
  split at h
  ·unfold j5_ at h
   split at h
   ·exact h
   split at h
   ·exact h
   split at h
   ·rwa [vt_] at h
   ·rwa [o3_] at h
  ·exact h
theorem sF_ {w:ab_} (hV:au_ w) (h:WInv w) (v:aT_) (hf:(doW w v).Forged=noB):WInv (doW w v):=by
  have hE:=hV.2.2.2.2.1
  unfold doW at hf⊢
  split
  ·exact wv_ hV h
  rename_i k1
  rw [if_neg k1] at hf
  split
  ·rename_i k2
   rw [if_pos k2] at hf
   split
   ·rename_i k3
    rw [if_pos k3] at hf
    split
    ·rename_i p hp
     rw [hp] at hf
     dsimp only at hf
     have hm:=List.mem_of_getElem? hp
     have hvp:=hV.2.2.2.2.2.1 p hm
     have mem:∀i (q:ad_),q.Sent=p.Sent→∀p1∈w.Flight.set i q,∃p0∈w.Flight,p1.Sent=p0.Sent:=fun i q e p1 h1=>by
       rcases List.mem_or_eq_of_mem_set h1 with h' | h'
       ·exact ⟨p1,h',rfl⟩
       ·exact ⟨p,hm,by rw [h',e]⟩
     have era:∀i,∀p1∈w.Flight.eraseIdx i,∃p0∈w.Flight,p1.Sent=p0.Sent:=fun i p1 h1=>⟨p1,List.mem_of_mem_eraseIdx h1,rfl⟩
     unfold if_ at hf⊢
     split
     ·rename_i k4
      rw [if_pos k4] at hf
      have hel:(w.Flight.eraseIdx v.A.toNat).length≤1000:=by have:=List.length_eraseIdx_le w.Flight v.A.toNat;have:=hV.2.2.1;omega
      exact uy_ (gS_ hV hel (r5_ hV.2.2.2.2.2.1 _)) (jQ_ h (era _)) hvp (h.fl p hm) hf
     split
     ·split
      ·exact jQ_ h (fun p1 h1=>by
         rcases List.mem_append.mp h1 with h1 | h1
         ·exact ⟨p1,h1,rfl⟩
         ·simp only [List.mem_singleton] at h1;exact ⟨p,hm,by rw [h1]⟩)
      ·exact h
     split
     ·exact jQ_ h (era _)
     split
     ·split
      ·exact jQ_ h (mem _ _ rfl)
      ·exact h
     split
     ·split
      ·exact jQ_ h (mem _ _ rfl)
      ·exact h
     ·exact jQ_ h (mem _ _ rfl)
    ·exact h
   ·exact h
  rename_i k2
  split
  ·rename_i k3
   have hn:=k3.2
   obtain ⟨v1,n1⟩:=by_ hE hn
   obtain ⟨v2,n2⟩:=by_ hE (n:=3-v.A) (by omega)
   unfold j5_
   split
   ·exact step_end hV h hn (Ay_ (h.pair hn) v1 v2) _ (fun p0 h0=>⟨p0,h0,rfl⟩)
   split
   ·exact step_end hV h hn (AF_ (h.pair hn) v1 v2) _ (fun p0 h0=>⟨p0,h0,rfl⟩)
   split
   ·exact AC_ hV h hn _
   ·exact wB_ hV h hn
  ·exact h
theorem BP_ {b:ByteArray} {wd:Int} (hb:b.size≤30) (hw:1≤wd∧wd≤8):WInv (Aw_ b wd):=by
  unfold Aw_
  rw [if_pos ⟨hw,hb⟩]
  have e:∀m,1≤m∧m≤2→af_ m [zQ_ 1,zQ_ 2]=zQ_ m∧zQ_ m=⟨m,true,1,0,0,false,g6_,gR_⟩:=fun m hm=>by
    have:m=1∨m=2:=by omega
    rcases this with rfl | rfl<;>exact ⟨rfl,rfl⟩
  refine ⟨fun n hn=> ?_,fun p hp=>by cases hp⟩
  dsimp only
  rw [(e n hn).1,(e (3-n) (by omega)).1,(e n hn).2,(e (3-n) (by omega)).2]
  exact ⟨(by show (0:Int)≤1;omega),fun r hr=>(by cases hr),fun r hr=>(by cases hr),fun h=>absurd rfl h,fun h=>absurd rfl h,fun A B=>⟨[],rfl⟩,fun h=>(by cases h),fun h=>(by cases h),fun h=>(by cases h)⟩
theorem zY_ {f s:Nat} {w:ab_} (h:Reach f s w) (hf:w.Forged=noB):WInv w:=by
  induction h with
  | new h1 h2=>exact BP_ h1 h2
  | step v hw ih=>exact sF_ hw.V (ih (xT_ hf)) v hf
  | more _ _ _ ih=>exact ih hf
theorem v9_ (G:List aa_):∀(t pre:List aa_),(∀r∈t,∃m,ax_ G (kf r)=ax_ (pre++t) (kf r)++m)→hO_ G pre t=true
  | [],pre,h=>rfl
  | r::t,pre,h=>by
    simp only [hO_,Bool.and_eq_true,decide_eq_true_eq]
    refine ⟨?_,v9_ G t (pre++[r]) (fun u hu=>by
      obtain ⟨m,hm⟩:=h u (List.mem_cons_of_mem _ hu)
      exact ⟨m,by rw [hm];simp⟩)⟩
    obtain ⟨m,hm⟩:=h r (List.mem_cons_self ..)
    rw [hm]
    have e:ax_ (pre++r::t) (kf r)=ax_ pre (kf r)++r.Text::ax_ t (kf r):=by
      have:ax_ (pre++r::t) (kf r)=ax_ pre (kf r)++ax_ (r::t) (kf r):=by unfold ax_;rw [List.filter_append,List.map_append]
      rw [this,in_,if_pos rfl]
    rw [e]
    simp
theorem tZ_ {w:ab_} (hV:au_ w) (h:WInv w):qS_ w=true:=by
  unfold qS_
  rw [decide_eq_true hV,Bool.true_and]
  refine v9_ _ _ _ (fun r hr=> ?_)
  have:=(hV.2.2.2.2.2.2.2 r hr).1
  exact (h.two r.From this).rt r.A r.B
end Km.X
namespace Km.X
open Go Km
set_option linter.unusedVariables false
set_option linter.unusedSimpArgs false
structure MonE (x x':am_):Prop where
  life:x'.Life=x.Life
  up:x'.Up=x.Up
  peer:x.Peer≤x'.Peer
  base:x'.Peer=x.Peer→x.Send.Base≤x'.Send.Base∧x'.Send.Base+x'.Send.Items.length=x.Send.Base+x.Send.Items.length
  next:x'.Peer=x.Peer→x.Take.Next≤x'.Take.Next∧∀s,Had x.Take s→Had x'.Take s
  len:x'.Send.Items.length≤x.Send.Items.length
theorem MonE.refl (x:am_):MonE x x:=⟨rfl,rfl,Int.le_refl _,fun _=>⟨Int.le_refl _,rfl⟩,fun _=>⟨Int.le_refl _,fun _ h=>h⟩,Nat.le_refl _⟩
theorem MonE.trans {x y z:am_} (h:MonE x y) (g:MonE y z):MonE x z:=by
  have h1:=h.peer
  have g1:=g.peer
  refine ⟨g.life.trans h.life,g.up.trans h.up,by omega,fun e=> ?_,fun e=> ?_,Nat.le_trans g.len h.len⟩
  ·obtain ⟨a,b⟩:=h.base (by omega)
   obtain ⟨c,d⟩:=g.base (by omega)
   exact ⟨by omega,by omega⟩
  ·obtain ⟨a,b⟩:=h.next (by omega)
   obtain ⟨c,d⟩:=g.next (by omega)
   exact ⟨by omega,fun s hs=>d s (b s hs)⟩
structure FrzE (x x':am_):Prop where
  since:x'.Since=x.Since
  items:x'.Peer=x.Peer→x'.Send.Base=x.Send.Base→∀(k:Nat) (z:ag_),x'.Send.Items[k]? =some z→∃u,x.Send.Items[k]? =some u∧z.Since=u.Since
theorem FrzE.refl (x:am_):FrzE x x:=⟨rfl,fun _ _ k z hz=>⟨z,hz,rfl⟩⟩
theorem FrzE.trans {x y z:am_} (m1:MonE x y) (m2:MonE y z) (h:FrzE x y) (g:FrzE y z):FrzE x z:=by
  have h1:=m1.peer
  have g1:=m2.peer
  refine ⟨g.since.trans h.since,fun e b k u hu=> ?_⟩
  have b1:=(m1.base (by omega)).1
  have b2:=(m2.base (by omega)).1
  obtain ⟨v,hv,e1⟩:=g.items (by omega) (by omega) k u hu
  obtain ⟨w,hw,e2⟩:=h.items (by omega) (by omega) k v hv
  exact ⟨w,hw,e1.trans e2⟩
theorem wr_ {x:am_} (hv:VEnd x):MonE x (a2_ x).End:=by
  obtain ⟨e1,e2,e3,e4,e5⟩:=fV_ hv
  obtain ⟨g1,g2⟩:=ia_ hv
  refine ⟨e1,e2,by omega,fun _=> ?_,fun _=> ?_, ?_⟩
  ·rcases e5 with e | e<;>rw [e]
   ·rw [g1,g2];exact ⟨Int.le_refl _,rfl⟩
   ·exact ⟨Int.le_refl _,rfl⟩
  ·rw [e4];exact ⟨Int.le_refl _,fun _ h=>h⟩
  ·rcases e5 with e | e<;>rw [e]
   ·rw [g2];exact Nat.le_refl _
   ·exact Nat.le_refl _
theorem v4_ (s:ak_) (hS:VSend s) (n m:Int):s.Base≤(iq_ s n m).Base∧(iq_ s n m).Base+(iq_ s n m).Items.length=s.Base+s.Items.length∧((iq_ s n m).Base=s.Base→∀(k:Nat) (z:ag_),(iq_ s n m).Items[k]? =some z→∃u,s.Items[k]? =some u∧z.Since=u.Since):=by
  unfold iq_
  rw [if_pos hS]
  have hfr:=jp_ s.Items
  split
  ·rename_i hc
   refine ⟨hc.1, ?_,fun e k z hz=> ?_⟩
   ·dsimp only;rw [gP_,List.length_drop];omega
   ·dsimp only at e hz
    rw [e,Int.sub_self,Int.toNat_zero,List.drop_zero,rG_] at hz
    cases hu:s.Items[k]? with
    | none=>rw [hu] at hz;cases hz
    | some u=>
      rw [hu,Option.map_some] at hz
      refine ⟨u,rfl, ?_⟩
      split at hz<;>(cases hz;rfl)
  ·exact ⟨Int.le_refl _,rfl,fun _ k z hz=>⟨z,hz,rfl⟩⟩
theorem CA_ (x:am_) (p:ae_):MonE x (kU_ x p)∧FrzE x (kU_ x p):=by
  unfold kU_
  split
  ·rename_i h
   refine ⟨⟨rfl,rfl,by dsimp only;omega,fun e=> ?_,fun e=> ?_,Nat.zero_le _⟩,⟨rfl,fun e=> ?_⟩⟩<;>(dsimp only at e;omega)
  ·exact ⟨MonE.refl x,FrzE.refl x⟩
theorem Bf_ {x:am_} (hv:VEnd x) {p:ae_} (hf:iH_ p) {P:List az_} {g:List ByteArray} (hP:P.length≤1000000) (ht:TInv P x.Take g) (hd:p.Kind=2→p.Yours=x.Life→P[p.Seq.toNat]? =some ⟨p.Part,p.Last⟩):
    MonE x (hd_ x p).End∧FrzE x (hd_ x p).End:=by
  unfold hd_
  split
  ·rename_i hl
   split
   ·obtain ⟨a,b,c⟩:=v4_ x.Send hv.2.2.2.2.1 p.Next p.Mask
    exact ⟨⟨rfl,rfl,Int.le_refl _,fun _=>⟨a,b⟩,fun _=>⟨Int.le_refl _,fun _ h=>h⟩,by dsimp only;omega⟩,⟨rfl,fun _ e=>c e⟩⟩
   ·rename_i hk
    have hk2:p.Kind=2∧(0≤p.Seq∧p.Seq≤999999)∧p.Part.size≤20:=by
      rcases hf.2.2.2 with g | g
      ·exact absurd g.1 hk
      ·exact ⟨g.1,g.2.2.2.1,g.2.2.2.2⟩
    obtain ⟨t1,t2,t3,t4⟩:=nU_ ht hk2.2.1.1 (hd hk2.1 hl) hk2.2.2 hP
    exact ⟨⟨rfl,rfl,Int.le_refl _,fun _=>⟨Int.le_refl _,rfl⟩,fun _=>⟨t2,t3⟩,Nat.le_refl _⟩,⟨rfl,fun _ _ k z hz=>⟨z,hz,rfl⟩⟩⟩
  ·exact ⟨⟨rfl,rfl,Int.le_refl _,fun _=>⟨Int.le_refl _,rfl⟩,fun _=>⟨Int.le_refl _,fun _ h=>h⟩,Nat.le_refl _⟩,⟨rfl,fun _ _ k z hz=>⟨z,hz,rfl⟩⟩⟩
theorem AH_ {n:Int} {x y:am_} {Gi Ta:List aa_} (h:Two n x y Gi Ta) (hv:VEnd x) (hy:VEnd y) (hgl:Gi.length≤400) {p:ae_} (hg:x.Up=true→¬p.From=x.Number→Gen (3-n) y x Gi p):MonE x (fg_ x p).End∧FrzE x (fg_ x p).End:=by
  unfold fg_
  rw [if_pos hv]
  split
  ·rename_i hc
   obtain ⟨c1,c2,c3,c4⟩:=hc
   have hg:=hg c1 c3
   have s1:=uW_ h hv hy c1 hg
   obtain ⟨v1,v2⟩:=wi_ hv c1 c2
   have hpe:=i0_ hv c2 c4
   have hp0:(kU_ x p).Peer≠0:=by have:=c2.2.1;omega
   obtain ⟨m1,f1⟩:=CA_ x p
   obtain ⟨m2,f2⟩:=Bf_ v1 c2 (by have:=n1_ Gi (3-n) (kU_ x p).Peer (kU_ x p).Life;omega) (s1.two.2.tk hp0) (fun hk hl=>by
     have:=hg.d hk
     rw [hl,←hpe] at this;exact this)
   exact ⟨m1.trans m2,f1.trans m1 m2 f2⟩
  ·exact ⟨MonE.refl x,FrzE.refl x⟩
theorem Ap_ {n:Int} {x y:am_} {Gi Ta:List aa_} (h:Two n x y Gi Ta) (hv:VEnd x) (hc:(eb_ x).Code=0):MonE x (eb_ x).End∧FrzE x (eb_ x).End:=by
  obtain ⟨f1,f2,f3⟩:=fL_ hc
  obtain ⟨_,_,hp0,_⟩:=sp_ hv hc
  obtain ⟨t1,t2,t3⟩:=su_ (h.2.tk hp0) f3
  rw [f1]
  exact ⟨⟨rfl,rfl,Int.le_refl _,fun _=>⟨Int.le_refl _,rfl⟩,fun _=>⟨t2,t3⟩,Nat.le_refl _⟩,⟨rfl,fun _ _ k z hz=>⟨z,hz,rfl⟩⟩⟩
def Keeps (x x':am_):Prop:=x.Up=true→x'.Up=true→x.Life=x'.Life→x.Peer=x'.Peer→x.Send.Base≤x'.Send.Base∧x.Take.Next≤x'.Take.Next
theorem MonE.keeps {x x':am_} (h:MonE x x'):Keeps x x':=fun _ _ _ e=>⟨(h.base e.symm).1,(h.next e.symm).1⟩
theorem Keeps.refl (x:am_):Keeps x x:=fun _ _ _ _=>⟨Int.le_refl _,Int.le_refl _⟩
end Km.X
namespace Km.X
open Go Km
set_option linter.unusedVariables false
set_option linter.unusedSimpArgs false
def pot (A:Int→Int) (Gi:List aa_) (n:Int) (x:am_):Nat:=
  if x.Peer=A (3-n) then x.Take.Ready.length+((ha_ Gi (3-n) (A (3-n)) (A n)).length-x.Take.Next.toNat)
  else x.Take.Ready.length+x.Take.Held.length+(ha_ Gi (3-n) (A (3-n)) (A n)).length
theorem nT_:∀(h:List aj_) (n:Int) (o:ByteArray) (r:List ByteArray),((dY_ h n o r).Ready.length:Int)+n≤r.length+(dY_ h n o r).Next∧(dY_ h n o r).Ready.length+(dY_ h n o r).Held.length≤r.length+h.length
  | [],n,o,r=>⟨Int.le_refl _,Nat.le_refl _⟩
  | x::t,n,o,r=>by
    simp only [dY_]
    split
    ·split
     ·have:=nT_ t (n+1) noB (r++[o++x.Part.Text])
      simp only [List.length_append,List.length_cons,List.length_nil] at this⊢
      omega
     ·have:=nT_ t (n+1) (o++x.Part.Text) r
      simp only [List.length_cons] at this⊢
      omega
    ·exact ⟨Int.le_refl _,Nat.le_refl _⟩
theorem Bc_ {t:ai_} (hv:VTake t) (q:Int) (p:az_):((jk_ t q p).Ready.length:Int)+t.Next≤t.Ready.length+(jk_ t q p).Next:=by
  unfold jk_
  rw [if_pos hv]
  split
  ·cases mP_ q p t.Held with
   | none=>exact Int.le_refl _
   | some h=>exact (nT_ _ _ _ _).1
  ·exact Int.le_refl _
theorem v0_ {t:ai_} (hv:VTake t) (h:(cB_ t).2.2=true):((cB_ t).1.Ready.length:Int)+1+t.Next≤t.Ready.length+(cB_ t).1.Next∧(cB_ t).1.Ready.length+(cB_ t).1.Held.length+1≤t.Ready.length+t.Held.length:=by
  cases hR:t.Ready with
  | nil=>rw [pb_ hv hR] at h;cases h
  | cons s rs=>
    unfold cB_
    rw [if_pos hv,hR]
    have:=nT_ t.Held t.Next t.Open rs
    simp only [List.length_cons]
    omega
structure Core0 (A:Int→Int) (Gi:List aa_) (w:ab_):Prop where
  V:au_ w
  D:∀n,1≤n∧n≤2→Dir n (af_ n w.Ends) (af_ (3-n) w.Ends) w.Given w.Taken
  F:w.Forged=noB
  G:w.Given=Gi
  up:∀n,1≤n∧n≤2→(af_ n w.Ends).Up=true∧(af_ n w.Ends).Life=A n
structure gC_ (S:Nat) (A:Int→Int) (Gi:List aa_) (w:ab_):Prop extends Core0 A Gi w where
  room:Gi.length+w.Taken.length+pot A Gi 1 (af_ 1 w.Ends)+pot A Gi 2 (af_ 2 w.Ends)≤S
  cap:S≤400
structure he_ (A:Int→Int) (w:ab_) (p:ad_) (q:ae_):Prop where
  eq:p.Bytes=p.Sent
  fit:iH_ q
  snt:p.Sent=dk_ q w.Key w.Width
  to:p.To=3-q.From
  mine:q.Mine=A q.From
  gen:sM_ w.Ends w.Given q
  near:q.Kind=2→q.Yours=A (3-q.From)→((af_ (3-q.From) w.Ends).Peer=A q.From→q.Seq≤(af_ (3-q.From) w.Ends).Take.Next+7)∧(¬(af_ (3-q.From) w.Ends).Peer=A q.From→q.Seq≤7)
def Mon (w w':ab_):Prop:=∀n,1≤n∧n≤2→MonE (af_ n w.Ends) (af_ n w'.Ends)
def Frz (w w':ab_):Prop:=∀n,1≤n∧n≤2→FrzE (af_ n w.Ends) (af_ n w'.Ends)
theorem Mon.refl (w:ab_):Mon w w:=fun n _=>MonE.refl _
theorem Mon.trans {w x y:ab_} (h:Mon w x) (g:Mon x y):Mon w y:=fun n hn=>(h n hn).trans (g n hn)
theorem Frz.refl (w:ab_):Frz w w:=fun n _=>FrzE.refl _
theorem Frz.trans {w x y:ab_} (m1:Mon w x) (m2:Mon x y) (h:Frz w x) (g:Frz x y):Frz w y:=fun n hn=>FrzE.trans (m1 n hn) (m2 n hn) (h n hn) (g n hn)
section
variable {S:Nat} {A:Int→Int} {Gi:List aa_} {w:ab_}
theorem Core0.pair (h:Core0 A Gi w) {n:Int} (hn:1≤n∧n≤2):Two n (af_ n w.Ends) (af_ (3-n) w.Ends) w.Given w.Taken:=by
  refine ⟨h.D n hn, ?_⟩
  have:=h.D (3-n) (by omega)
  rwa [eC_] at this
theorem Core0.ve (h:Core0 A Gi w) {n:Int} (hn:1≤n∧n≤2):VEnd (af_ n w.Ends):=(by_ h.V.2.2.2.2.1 hn).1
theorem Core0.num (h:Core0 A Gi w) {n:Int} (hn:1≤n∧n≤2):(af_ n w.Ends).Number=n:=(by_ h.V.2.2.2.2.1 hn).2
theorem Core0.peer (h:Core0 A Gi w) {n:Int} (hn:1≤n∧n≤2):(af_ n w.Ends).Peer≤A (3-n):=by
  have:=(h.D (3-n) (by omega)).pe
  rw [eC_,(h.up (3-n) (by omega)).2] at this
  exact this
theorem Core0.pos (h:Core0 A Gi w) {n:Int} (hn:1≤n∧n≤2):1≤A n:=by
  have:=(h.ve hn).2.1
  rw [(h.up n hn).2] at this
  exact this.1
theorem Core0.glen (h:Core0 A Gi w):w.Given.length≤400:=by have:=h.V.2.2.2.1;omega
theorem yM_ {w':ab_} (h:∀m,1≤m∧m≤2→pot A Gi m (af_ m w'.Ends)≤pot A Gi m (af_ m w.Ends)):pot A Gi 1 (af_ 1 w'.Ends)+pot A Gi 2 (af_ 2 w'.Ends)≤pot A Gi 1 (af_ 1 w.Ends)+pot A Gi 2 (af_ 2 w.Ends):=by
  have:=h 1 (by omega);have:=h 2 (by omega);omega
theorem DC_ (h:gC_ S A Gi w) {w':ab_} (h':gC_ S A Gi w') (m:Mon w w') {n:Int} (hn:1≤n∧n≤2) (hp:(af_ n w.Ends).Peer=A (3-n)):(af_ n w'.Ends).Peer=A (3-n):=by
  have:=(m n hn).peer
  have:=h'.peer hn
  omega
theorem xi_ (h:gC_ S A Gi w) {w':ab_} (h':gC_ S A Gi w') (hk:w'.Key=w.Key) (hw:w'.Width=w.Width) (hg:∀q:ae_,(1≤q.From∧q.From≤2)→sM_ w.Ends w.Given q→sM_ w'.Ends w'.Given q) (hm:Mon w w') {p:ad_} {q:ae_} (f:he_ A w p q):he_ A w' p q:=by
  have hq:=f.fit.1
  refine ⟨f.eq,f.fit,by rw [hk,hw];exact f.snt,f.to,f.mine,hg q hq f.gen,fun k1 k2=> ?_⟩
  obtain ⟨n1,n2⟩:=f.near k1 k2
  have hn:1≤3-q.From∧3-q.From≤2:=by omega
  have hpe:=(hm _ hn).peer
  have hpa:=h'.peer hn
  rw [eC_] at hpa
  refine ⟨fun e=> ?_,fun e=> ?_⟩
  ·by_cases e0:(af_ (3-q.From) w.Ends).Peer=A q.From
   ·have:=n1 e0
    have:=((hm _ hn).next (by omega)).1
    omega
   ·have:=n2 e0
    have:=(h'.ve hn).2.2.2.2.2.1.1.1
    omega
  ·exact n2 (fun e0=>e (by omega))
theorem sh_ (h:gC_ S A Gi w) {p:ad_} {q:ae_} (f:he_ A w p q):aV_ w p=pI_ w (3-q.From) (fg_ (af_ (3-q.From) w.Ends) q).End:=by
  have hq:h4_ p.Bytes w.Key w.Width=(q,true):=by rw [f.eq,f.snt];exact lG_ f.fit h.V.1 h.V.2.1
  unfold aV_
  rw [hq,if_pos rfl,f.to,if_neg (fun g=>g.1 f.eq)]
  rfl
theorem A8_ {n:Int} {x y:am_} {Ta:List aa_} (h:Two n x y Gi Ta) (hv:VEnd x) (hy:VEnd y) (hgl:Gi.length≤400) (hl:x.Life=A n) (hpl:x.Peer≤A (3-n)) {q:ae_} (hm:q.Mine=A (3-n)) (hg:Gen (3-n) y x Gi q):pot A Gi n (fg_ x q).End≤pot A Gi n x:=by
  unfold fg_
  rw [if_pos hv]
  split
  ·rename_i hc
   obtain ⟨c1,c2,c3,c4⟩:=hc
   have s1:=uW_ h hv hy c1 hg
   obtain ⟨v1,v2⟩:=wi_ hv c1 c2
   have hpe:=i0_ hv c2 c4
   have hl1:(kU_ x q).Life=A n:=by rw [(s9_ x q).1,hl]
   have hp0:(kU_ x q).Peer≠0:=by have:=c2.2.1;omega
   have k1:pot A Gi n (kU_ x q)≤pot A Gi n x:=by
     unfold kU_
     split
     ·unfold pot
      dsimp only
      rw [if_pos hm,if_neg (by omega)]
      simp only [gR_,List.length_nil]
      omega
     ·exact Nat.le_refl _
   refine Nat.le_trans ?_ k1
   unfold hd_
   split
   ·rename_i hl2
    split
    ·exact Nat.le_refl _
    ·rename_i hk
     have hk2:q.Kind=2∧(0≤q.Seq∧q.Seq≤999999)∧q.Part.size≤20:=by
       rcases c2.2.2.2 with g | g
       ·exact absurd g.1 hk
       ·exact ⟨g.1,g.2.2.2.1,g.2.2.2.2⟩
     have hd:=(s1.yours q hg).d hk2.1
     rw [hl2,←hpe] at hd
     have tk:=s1.two.2.tk hp0
     obtain ⟨t1,t2,t3,t4⟩:=nU_ tk hk2.2.1.1 hd hk2.2.2 (by have:=n1_ Gi (3-n) (kU_ x q).Peer (kU_ x q).Life;omega)
     have hN:=t1.N
     have hpo:=Bc_ tk.V q.Seq ⟨q.Part,q.Last⟩
     have hn0:=tk.V.1.1
     rw [hpe,hm,hl1] at hN
     unfold pot
     dsimp only
     rw [if_pos (by rw [hpe,hm]),if_pos (by rw [hpe,hm])]
     omega
   ·exact Nat.le_refl _
  ·exact Nat.le_refl _
theorem hQ_ (h:gC_ S A Gi w) {p:ad_} {q:ae_} (f:he_ A w p q):gC_ S A Gi (aV_ w p)∧Mon w (aV_ w p)∧Frz w (aV_ w p)∧(∀p' q',he_ A w p' q'→he_ A (aV_ w p) p' q'):=by
  rw [sh_ h f]
  have hq:=f.fit.1
  have hn:1≤3-q.From∧3-q.From≤2:=by omega
  have hE:=h.V.2.2.2.2.1
  have v1:=h.ve hn
  have v2:=h.ve (n:=3-(3-q.From)) (by omega)
  have t:=h.pair hn
  have hgen:Gen (3-(3-q.From)) (af_ (3-(3-q.From)) w.Ends) (af_ (3-q.From) w.Ends) w.Given q:=by rw [eC_];exact f.gen
  obtain ⟨a1,a2⟩:=hS_ hE hn (uu_ t v1 v2 h.glen (fun _ _=>hgen))
  obtain ⟨m1,m2⟩:=AH_ t v1 v2 h.glen (p:=q) (fun _ _=>hgen)
  have hm:Mon w (pI_ w (3-q.From) (fg_ (af_ (3-q.From) w.Ends) q).End):=fun m hm=>by
    show MonE _ (af_ m (dl_ (3-q.From) _ w.Ends))
    rw [bG_ hE hn hm]
    split
    ·rename_i e;rw [e];exact m1
    ·exact MonE.refl _
  have hc:gC_ S A Gi (pI_ w (3-q.From) (fg_ (af_ (3-q.From) w.Ends) q).End):=by
    refine ⟨⟨vx_ h.V hn (zh_ _ v1) ((t9_ _ v1).trans (h.num hn)),a1,h.F,h.G,fun m hmm=> ?_⟩, ?_,h.cap⟩
    ·have:=hm m hmm
     exact ⟨this.up.trans (h.up m hmm).1,this.life.trans (h.up m hmm).2⟩
    ·refine Nat.le_trans ?_ h.room
     have:pot A Gi 1 (af_ 1 (pI_ w (3-q.From) (fg_ (af_ (3-q.From) w.Ends) q).End).Ends)+pot A Gi 2 (af_ 2 (pI_ w (3-q.From) (fg_ (af_ (3-q.From) w.Ends) q).End).Ends)≤pot A Gi 1 (af_ 1 w.Ends)+pot A Gi 2 (af_ 2 w.Ends):=by
       refine yM_ (fun m hmm=> ?_)
       show pot A Gi m (af_ m (dl_ (3-q.From) _ w.Ends))≤_
       rw [bG_ hE hn hmm]
       split
       ·rename_i e
        rw [e]
        have t':=t
        rw [h.G] at t' hgen
        exact A8_ t' v1 v2 (by have:=h.glen;rw [h.G] at this;exact this) (h.up _ hn).2 (h.peer hn) (by rw [eC_];exact f.mine) hgen
       ·exact Nat.le_refl _
     show Gi.length+w.Taken.length+_+_≤_
     omega
  refine ⟨hc,hm,fun m hmm=> ?_,fun p' q' f'=>xi_ h hc rfl rfl a2 hm f'⟩
  show FrzE _ (af_ m (dl_ (3-q.From) _ w.Ends))
  rw [bG_ hE hn hmm]
  split
  ·rename_i e;rw [e];exact m2
  ·exact FrzE.refl _
theorem lT_ {x:am_} (hv:VEnd x) (hu:x.Up=true) (hr:x.Take.Ready≠[]):(eb_ x).Code=0:=by
  unfold eb_
  rw [if_pos hv,if_pos hu]
  cases hR:x.Take.Ready with
  | nil=>exact absurd hR hr
  | cons s rs=>rw [if_pos (by unfold cB_;rw [if_pos hv.2.2.2.2.2.1,hR])]
theorem CD_ {x:am_} (hv:VEnd x) (hu:x.Up=true) (hr:x.Take.Ready=[]):¬(eb_ x).Code=0:=by
  unfold eb_
  rw [if_pos hv,if_pos hu,pb_ hv.2.2.2.2.2.1 hr]
  simp
theorem tm_ (h:gC_ S A Gi w) {n:Int} (hn:1≤n∧n≤2) (hr:(af_ n w.Ends).Take.Ready≠[]):w.Given.length+w.Taken.length<400:=by
  have h1:=h.room
  have hcap:=h.cap
  have hp:1≤pot A Gi n (af_ n w.Ends):=by
    have:1≤(af_ n w.Ends).Take.Ready.length:=by
      cases hR:(af_ n w.Ends).Take.Ready with
      | nil=>exact absurd hR hr
      | cons s rs=>simp
    unfold pot
    split<;>omega
  rw [h.G]
  have:n=1∨n=2:=by omega
  rcases this with rfl | rfl<;>omega
theorem sr_ (h:gC_ S A Gi w) {n:Int} (hn:1≤n∧n≤2) (hr:(af_ n w.Ends).Take.Ready≠[]):
    dU_ w n=⟨w.Key,w.Width,dl_ n (eb_ (af_ n w.Ends)).End w.Ends,w.Flight,w.Forged,w.Given,w.Taken++[⟨3-n,(af_ n w.Ends).Peer,(af_ n w.Ends).Life,(eb_ (af_ n w.Ends)).Text⟩]⟩:=by
  unfold dU_
  rw [if_pos ⟨tm_ h hn hr,lT_ (h.ve hn) (h.up n hn).1 hr⟩]
theorem tS_ (h:gC_ S A Gi w) {n:Int} (hn:1≤n∧n≤2) (hr:(af_ n w.Ends).Take.Ready=[]):dU_ w n=w:=by
  unfold dU_
  rw [if_neg (fun g=>CD_ (h.ve hn) (h.up n hn).1 hr g.2)]
theorem zc_ {n:Int} {x y:am_} {Ta:List aa_} (h:Two n x y Gi Ta) (hv:VEnd x) (hl:x.Life=A n) (hc:(eb_ x).Code=0):pot A Gi n (eb_ x).End+1≤pot A Gi n x:=by
  obtain ⟨f1,f2,f3⟩:=fL_ hc
  obtain ⟨_,_,hp0,_⟩:=sp_ hv hc
  have tk:=h.2.tk hp0
  obtain ⟨t1,t2,t3⟩:=su_ tk f3
  obtain ⟨p1,p2⟩:=v0_ hv.2.2.2.2.2.1 f3
  have hN:=t1.N
  have hn0:=hv.2.2.2.2.2.1.1.1
  rw [f1]
  unfold pot
  dsimp only
  split
  ·rename_i e
   rw [e,hl] at hN
   omega
  ·omega
theorem jA_ (h:gC_ S A Gi w) {n:Int} (hn:1≤n∧n≤2):gC_ S A Gi (dU_ w n)∧Mon w (dU_ w n)∧Frz w (dU_ w n):=by
  by_cases hr:(af_ n w.Ends).Take.Ready=[]
  ·rw [tS_ h hn hr];exact ⟨h,Mon.refl w,Frz.refl w⟩
  have hV:=mf_ h.V hn
  have hE:=h.V.2.2.2.2.1
  have v1:=h.ve hn
  have hc:=lT_ v1 (h.up n hn).1 hr
  have hroom:=tm_ h hn hr
  rw [sr_ h hn hr] at hV⊢
  have t:=h.pair hn
  obtain ⟨a1,a2⟩:=hS_ hE hn (wP_ t v1 (h.ve (n:=3-n) (by omega)) hn h.V.2.2.2.2.2.2.1 hc)
  obtain ⟨m1,m2⟩:=Ap_ t v1 hc
  have hm:∀m,1≤m∧m≤2→MonE (af_ m w.Ends) (af_ m (dl_ n (eb_ (af_ n w.Ends)).End w.Ends)):=fun m hm=>by
    rw [bG_ hE hn hm]
    split
    ·rename_i e;rw [e];exact m1
    ·exact MonE.refl _
  refine ⟨⟨⟨hV,a1,h.F,h.G,fun m hmm=> ?_⟩, ?_,h.cap⟩,hm,fun m hmm=> ?_⟩
  ·have:=hm m hmm
   exact ⟨this.up.trans (h.up m hmm).1,this.life.trans (h.up m hmm).2⟩
  ·have hp:pot A Gi n (eb_ (af_ n w.Ends)).End+1≤pot A Gi n (af_ n w.Ends):=by
     have t':=t
     rw [h.G] at t'
     exact zc_ t' v1 (h.up n hn).2 hc
   have hroom:=h.room
   simp only [List.length_append,List.length_cons,List.length_nil]
   rw [bG_ hE hn (by omega),bG_ hE hn (by omega)]
   have:n=1∨n=2:=by omega
   rcases this with rfl | rfl
   ·rw [if_pos rfl,if_neg (by omega)];omega
   ·rw [if_neg (by omega),if_pos rfl];omega
  ·show FrzE _ (af_ m (dl_ n _ w.Ends))
   rw [bG_ hE hn hmm]
   split
   ·rename_i e;rw [e];exact m2
   ·exact FrzE.refl _
theorem cF_ {n:Int} (hn:1≤n∧n≤2):∀(d:Nat) {w:ab_},gC_ S A Gi w→gC_ S A Gi (aS_ n d w)∧Mon w (aS_ n d w)∧Frz w (aS_ n d w)
  | 0,w,h=>⟨h,Mon.refl w,Frz.refl w⟩
  | d+1,w,h=>by
    simp only [aS_]
    split
    ·exact ⟨h,Mon.refl w,Frz.refl w⟩
    ·obtain ⟨a,b,c⟩:=jA_ h hn
     obtain ⟨a',b',c'⟩:=cF_ hn d a
     exact ⟨a',b.trans b',Frz.trans b b' c c'⟩
theorem il_ (w:ab_) {n:Int} (hn:1≤n∧n≤2):af_ n (aI_ w).Ends=(a2_ (af_ n w.Ends)).End:=by
  have:n=1∨n=2:=by omega
  rcases this with rfl | rfl<;>rfl
theorem sB_ {w:ab_} (h:au_ w) (hf:w.Flight=[]) (p:ad_):p∈(aI_ w).Flight↔∃n q,(1≤n∧n≤2)∧q∈(a2_ (af_ n w.Ends)).Out∧p=sP_ w.Key w.Width (3-n) q:=by
  have hE:=h.2.2.2.2.1
  have l1:=h3_ (by_ hE (n:=1) (by omega)).1
  have l2:=h3_ (by_ hE (n:=2) (by omega)).1
  have e:(aI_ w).Flight=(a2_ (af_ 1 w.Ends)).Out.map (sP_ w.Key w.Width 2)++(a2_ (af_ 2 w.Ends)).Out.map (sP_ w.Key w.Width 1):=by
    show vy_ _ _ _ _ (vy_ _ _ _ _ w.Flight)=_
    unfold vy_
    rw [hf]
    simp only [List.nil_append,List.length_nil,List.length_take,List.length_map]
    rw [List.take_of_length_le (by simp;omega),List.take_of_length_le (by simp;omega)]
  rw [e,List.mem_append]
  constructor
  ·rintro (g | g)
   ·obtain ⟨q,hq,rfl⟩:=List.mem_map.mp g
    exact ⟨1,q,by omega,hq,rfl⟩
   ·obtain ⟨q,hq,rfl⟩:=List.mem_map.mp g
    exact ⟨2,q,by omega,hq,rfl⟩
  ·rintro ⟨n,q,hn,hq,rfl⟩
   have:n=1∨n=2:=by omega
   rcases this with rfl | rfl
   ·exact .inl (List.mem_map.mpr ⟨q,hq,rfl⟩)
   ·exact .inr (List.mem_map.mpr ⟨q,hq,rfl⟩)
theorem h2_ (h:gC_ S A Gi w) (hf:w.Flight=[]):gC_ S A Gi (be_ (aI_ w) [])∧Mon w (be_ (aI_ w) [])∧∀p∈(aI_ w).Flight,∃q,he_ A (be_ (aI_ w) []) p q:=by
  obtain ⟨t1,t2,t3⟩:=wY_ h.V h.D
  have hm:Mon w (be_ (aI_ w) []):=fun n hn=>by
    show MonE _ (af_ n (aI_ w).Ends)
    rw [il_ w hn]
    exact wr_ (h.ve hn)
  have hc:gC_ S A Gi (be_ (aI_ w) []):=by
    refine ⟨⟨pK_ (ik_ h.V),t1,h.F,h.G,fun m hmm=> ?_⟩, ?_,h.cap⟩
    ·have:=hm m hmm
     exact ⟨this.up.trans (h.up m hmm).1,this.life.trans (h.up m hmm).2⟩
    ·refine Nat.le_trans ?_ h.room
     have:pot A Gi 1 (af_ 1 (be_ (aI_ w) []).Ends)+pot A Gi 2 (af_ 2 (be_ (aI_ w) []).Ends)≤pot A Gi 1 (af_ 1 w.Ends)+pot A Gi 2 (af_ 2 w.Ends):=yM_ (fun m hmm=>by
       show pot A Gi m (af_ m (aI_ w).Ends)≤_
       rw [il_ w hmm]
       obtain ⟨e1,e2,e3,e4,e5⟩:=fV_ (h.ve hmm)
       unfold pot
       rw [e3,e4]
       exact Nat.le_refl _)
     show Gi.length+w.Taken.length+_+_≤_
     omega
  refine ⟨hc,hm,fun p hp=> ?_⟩
  obtain ⟨n,q,hn,hq,rfl⟩:=(sB_ h.V hf p).mp hp
  have v:=h.ve hn
  obtain ⟨f1,f2,f3,f4⟩:=gK_ v q hq
  have hfr:q.From=n:=f2.trans (h.num hn)
  refine ⟨q,rfl,f1,rfl,by rw [hfr];rfl,by rw [f3,hfr,(h.up n hn).2],t3 n hn q hq,fun k1 k2=> ?_⟩
  have hn3:1≤3-n∧3-n≤2:=by omega
  rw [hfr] at k2⊢
  show ((af_ (3-n) (aI_ w).Ends).Peer=A n→q.Seq≤(af_ (3-n) (aI_ w).Ends).Take.Next+7)∧(¬(af_ (3-n) (aI_ w).Ends).Peer=A n→q.Seq≤7)
  rw [il_ w hn3]
  obtain ⟨e1,e2,e3,e4,e5⟩:=fV_ (h.ve hn3)
  rw [e3,e4]
  have hseq:q.Seq≤(af_ n w.Ends).Send.Base+7:=by
    rcases (wI_ v q hq).2 with o | ⟨o1,o2,o3,o4⟩
    ·omega
    ·unfold bn_ at o3
     rw [if_neg o1] at o3
     unfold hL_ at o3
     rw [if_pos v.2.2.2.2.1] at o3
     obtain ⟨k,x,_,g2,g3,_⟩:=mh_ _ _ _ _ o3
     omega
  have hd:=h.D n hn
  have hl3:=(h.up (3-n) hn3).2
  have hl:=(h.up n hn).2
  have hpe:(af_ n w.Ends).Peer=(af_ (3-n) w.Ends).Life:=by rw [←f4,k2,hl3]
  refine ⟨fun e=> ?_,fun e=> ?_⟩
  ·have:=(hd.p1 hpe (by rw [e,hl])).1
   omega
  ·have:=(hd.p2 hpe (h.up (3-n) hn3).1 (by rw [hl];exact e)).1
   omega
theorem eI_ {ev:Int}:∀(t:List ad_) (k:List DKey) {w:ab_},gC_ S A Gi w→(∀p∈t,∃q,he_ A w p q)→gC_ S A Gi (a8_ ev t k w).1∧Mon w (a8_ ev t k w).1∧Frz w (a8_ ev t k w).1
  | [],k,w,h,_=>⟨h,Mon.refl w,Frz.refl w⟩
  | p::t,k,w,h,hf=>by
    simp only [a8_]
    split
    ·obtain ⟨q,fq⟩:=hf p (List.mem_cons_self ..)
     obtain ⟨a,b,c,d⟩:=hQ_ h fq
     obtain ⟨a',b',c'⟩:=eI_ (ev:=ev) t (k++[pk p]) a (fun p' hp'=>by
       obtain ⟨q',fq'⟩:=hf p' (List.mem_cons_of_mem _ hp')
       exact ⟨q',d p' q' fq'⟩)
     exact ⟨a',b.trans b',Frz.trans b b' c c'⟩
    ·exact eI_ (ev:=ev) t (k++[pk p]) h (fun p' hp'=>hf p' (List.mem_cons_of_mem _ hp'))
theorem zD_ {c ev:Int} (h:1≤ev∧ev≤10) (hc:0≤c):(c+1)%ev=0∨(c+1)%ev=c%ev+1:=by
  have:ev=1∨ev=2∨ev=3∨ev=4∨ev=5∨ev=6∨ev=7∨ev=8∨ev=9∨ev=10:=by omega
  rcases this with rfl | rfl | rfl | rfl | rfl | rfl | rfl | rfl | rfl | rfl<;>omega
def AS_ (S:Nat) (A:Int→Int) (Gi:List aa_) (Z:ab_→Prop):Prop:=∀w w',gC_ S A Gi w→gC_ S A Gi w'→Mon w w'→Z w→Z w'
theorem wR_ {ev:Int} (hev:1≤ev∧ev≤10) {Z:ab_→Prop} (st:AS_ S A Gi Z) {key:DKey}:∀(t:List ad_) (k:List DKey) {w:ab_},gC_ S A Gi w→(∀p∈t,∃q,he_ A w p q)→
    (∀w' p q,gC_ S A Gi w'→he_ A w' p q→Mon w w'→w'.Key=w.Key∧w'.Width=w.Width→pk p=key→Z (aV_ w' p))→
    Z (a8_ ev t k w).1∨((cr_ (a8_ ev t k w).2 key:Nat):Int)%ev=(cr_ k key:Nat)%ev+((t.filter (fun p=>decide (pk p=key))).length:Nat)
  | [],k,w,h,_,_=> .inr (by simp [a8_])
  | p::t,k,w,h,hf,hit=>by
    simp only [a8_]
    obtain ⟨q,fq⟩:=hf p (List.mem_cons_self ..)
    have step:∀w',gC_ S A Gi w'→(∀p∈t,∃q,he_ A w' p q)→Mon w w'→w'.Key=w.Key∧w'.Width=w.Width→Z (a8_ ev t (k++[pk p]) w').1∨((cr_ (a8_ ev t (k++[pk p]) w').2 key:Nat):Int)%ev=(cr_ (k++[pk p]) key:Nat)%ev+((t.filter (fun p=>decide (pk p=key))).length:Nat):=fun w' h' hf' m e=>
      wR_ hev st t _ h' hf' (fun w'' p' q' a b m' c d=>hit w'' p' q' a b (m.trans m') ⟨c.1.trans e.1,c.2.trans e.2⟩ d)
    have hf0:∀p∈t,∃q,he_ A w p q:=fun p' hp'=>hf p' (List.mem_cons_of_mem _ hp')
    obtain ⟨a,b,c,d⟩:=hQ_ h fq
    have hf1:∀p'∈t,∃q,he_ A (aV_ w p) p' q:=fun p' hp'=>by
      obtain ⟨q',fq'⟩:=hf0 p' hp'
      exact ⟨q',d p' q' fq'⟩
    have hkw:(aV_ w p).Key=w.Key∧(aV_ w p).Width=w.Width:=by rw [sh_ h fq];exact ⟨rfl,rfl⟩
    by_cases e:pk p=key
    ·have hc:cr_ (k++[pk p]) key=cr_ k key+1:=by rw [gZ_,if_pos e.symm]
     rw [e]
     rw [e] at hc step
     split
     ·rename_i hp
      have hz:=hit w p q h fq (Mon.refl w) ⟨rfl,rfl⟩ e
      have:=eI_ (ev:=ev) t (k++[key]) a hf1
      exact .inl (st _ _ a this.1 this.2.1 hz)
     ·rename_i hp
      rcases step w h hf0 (Mon.refl w) ⟨rfl,rfl⟩ with g | g
      ·exact .inl g
      ·refine .inr ?_
       rw [g,hc]
       rcases zD_ hev (c:=((cr_ k key:Nat):Int)) (by omega) with g2 | g2
       ·exact absurd g2 hp
       ·rw [List.filter_cons_of_pos (by simpa using e),List.length_cons]
        push_cast
        rw [g2];omega
    ·have hc:cr_ (k++[pk p]) key=cr_ k key:=by rw [gZ_,if_neg (fun g=>e g.symm)]
     rw [List.filter_cons_of_neg (by simpa using e)]
     rw [hc] at step
     split
     ·exact step _ a hf1 b hkw
     ·exact step w h hf0 (Mon.refl w) ⟨rfl,rfl⟩
end
end Km.X
namespace Km.X
open Go Km
set_option linter.unusedVariables false
set_option linter.unusedSimpArgs false
section
variable {S:Nat} {A:Int→Int} {Gi:List aa_} {ev:Int}
structure mM_ (S:Nat) (A:Int→Int) (Gi:List aa_) (s:ab_×List DKey):Prop where
  core:gC_ S A Gi s.1
  fl:s.1.Flight=[]
def SameK (w w':ab_):Prop:=w'.Key=w.Key∧w'.Width=w.Width
theorem SameK.trans {w x y:ab_} (h:SameK w x) (g:SameK x y):SameK w y:=⟨g.1.trans h.1,g.2.trans h.2⟩
theorem A4_ (w:ab_) (p:ad_):SameK w (aV_ w p):=by unfold aV_;split<;>exact ⟨rfl,rfl⟩
theorem Cl_ (w:ab_) (n:Int):SameK w (dU_ w n):=by unfold dU_;split<;>exact ⟨rfl,rfl⟩
theorem vF_:∀(t:List ad_) (k:List DKey) (w:ab_),SameK w (a8_ ev t k w).1
  | [],k,w=>⟨rfl,rfl⟩
  | p::t,k,w=>by
    simp only [a8_]
    split
    ·exact (A4_ w p).trans (vF_ t _ _)
    ·exact vF_ t _ _
theorem rF_ (n:Int):∀(d:Nat) (w:ab_),SameK w (aS_ n d w)
  | 0,w=>⟨rfl,rfl⟩
  | d+1,w=>by
    simp only [aS_]
    split
    ·exact ⟨rfl,rfl⟩
    ·exact (Cl_ w n).trans (rF_ n d _)
theorem wu_ (s:ab_×List DKey):SameK s.1 (aB_ ev s).1:=by
  unfold aB_
  dsimp only
  exact (SameK.trans (SameK.trans (vF_ (ev:=ev) (aI_ s.1).Flight s.2 (be_ (aI_ s.1) [])) (rF_ 1 4 _)) (rF_ 2 4 _))
theorem CV_ (w:ab_) (n:Int):(dU_ w n).Flight=w.Flight:=by unfold dU_;split<;>rfl
theorem uS_ (n:Int):∀(d:Nat) (w:ab_),(aS_ n d w).Flight=w.Flight
  | 0,w=>rfl
  | d+1,w=>by
    simp only [aS_]
    split
    ·rfl
    ·rw [uS_ n d,CV_]
theorem wx_ (s:ab_×List DKey):(aB_ ev s).1.Flight=[]:=by
  unfold aB_
  dsimp only
  rw [uS_,uS_]
  have:=lW_ ev (aI_ s.1).Flight s.2 (be_ (aI_ s.1) [])
  rw [this];rfl
theorem d0_ {s:ab_×List DKey} (h:mM_ S A Gi s):mM_ S A Gi (aB_ ev s)∧Mon s.1 (aB_ ev s).1∧Frz (be_ (aI_ s.1) []) (aB_ ev s).1∧Mon (be_ (aI_ s.1) []) (aB_ ev s).1:=by
  obtain ⟨a1,a2,a3⟩:=h2_ h.core h.fl
  obtain ⟨b1,b2,b3⟩:=eI_ (ev:=ev) (aI_ s.1).Flight s.2 a1 a3
  obtain ⟨c1,c2,c3⟩:=cF_ (n:=1) (by omega) 4 b1
  obtain ⟨d1,d2,d3⟩:=cF_ (n:=2) (by omega) 4 c1
  have m:Mon (be_ (aI_ s.1) []) (aB_ ev s).1:=b2.trans (c2.trans d2)
  exact ⟨⟨d1,wx_ s⟩,a2.trans m,Frz.trans b2 (c2.trans d2) b3 (Frz.trans c2 d2 c3 d3),m⟩
theorem bS_:∀(d:Nat) {s:ab_×List DKey},mM_ S A Gi s→mM_ S A Gi (aE_ ev d s)∧Mon s.1 (aE_ ev d s).1
  | 0,s,h=>⟨h,Mon.refl _⟩
  | d+1,s,h=>by
    obtain ⟨a,b,_⟩:=d0_ (ev:=ev) h
    obtain ⟨c,e⟩:=bS_ d a
    exact ⟨c,b.trans e⟩
theorem dN_:∀(a b:Nat) (s:ab_×List DKey),aE_ ev (a+b) s=aE_ ev b (aE_ ev a s)
  | 0,b,s=>by rw [Nat.zero_add];rfl
  | a+1,b,s=>by rw [show a+1+b=(a+b)+1 by omega];exact dN_ a b (aB_ ev s)
theorem aO_ {Z:ab_→Prop} (st:AS_ S A Gi Z) {s:ab_×List DKey} (h:mM_ S A Gi s) (hz:Z s.1) (d:Nat):Z (aE_ ev d s).1:=by
  obtain ⟨a,b⟩:=bS_ (ev:=ev) d h
  exact st _ _ h.core a.core b hz
theorem s3_ (hev:1≤ev∧ev≤10) {Z:ab_→Prop} (st:AS_ S A Gi Z) {s:ab_×List DKey} (h:mM_ S A Gi s) {key:DKey}
    (hit:∀w' p q,gC_ S A Gi w'→he_ A w' p q→Mon s.1 w'→SameK s.1 w'→pk p=key→Z (aV_ w' p)):
    Z (aB_ ev s).1∨((cr_ (aB_ ev s).2 key:Nat):Int)%ev=(cr_ s.2 key:Nat)%ev+(((aI_ s.1).Flight.filter (fun p=>decide (pk p=key))).length:Nat):=by
  obtain ⟨a1,a2,a3⟩:=h2_ h.core h.fl
  obtain ⟨b1,b2,b3⟩:=eI_ (ev:=ev) (aI_ s.1).Flight s.2 a1 a3
  obtain ⟨c1,c2,c3⟩:=cF_ (n:=1) (by omega) 4 b1
  obtain ⟨d1,d2,d3⟩:=cF_ (n:=2) (by omega) 4 c1
  rcases wR_ hev st (key:=key) (aI_ s.1).Flight s.2 a1 a3 (fun w' p q g1 g2 g3 g4 g5=>hit w' p q g1 g2 (a2.trans g3) ⟨g4.1,g4.2⟩ g5) with g | g
  ·exact .inl (st _ _ b1 d1 (c2.trans d2) g)
  ·exact .inr g
theorem n3_ {w:ab_} (h:gC_ S A Gi w) {p:ad_} {q:ae_} (f:he_ A w p q) {m:Int} (hm:1≤m∧m≤2):af_ m (aV_ w p).Ends=if m=3-q.From then (fg_ (af_ (3-q.From) w.Ends) q).End else af_ m w.Ends:=by
  rw [sh_ h f]
  have:=f.fit.1
  exact bG_ h.V.2.2.2.2.1 (by omega) hm _
theorem va_ {w:ab_} (h:gC_ S A Gi w) {p:ad_} {q:ae_} (f:he_ A w p q):(fg_ (af_ (3-q.From) w.Ends) q).End=(hd_ (kU_ (af_ (3-q.From) w.Ends) q) q).End∧(kU_ (af_ (3-q.From) w.Ends) q).Peer=A q.From:=by
  have hq:=f.fit.1
  have hn:1≤3-q.From∧3-q.From≤2:=by omega
  have hv:=h.ve hn
  have hp:=h.peer hn
  rw [eC_] at hp
  have hm:=f.mine
  have hnum:=h.num hn
  have hlt:¬q.Mine<(af_ (3-q.From) w.Ends).Peer:=by omega
  refine ⟨?_,(i0_ hv f.fit hlt).trans hm⟩
  unfold fg_
  rw [if_pos hv,if_pos ⟨(h.up _ hn).1,f.fit,by omega,hlt⟩]
theorem yx_ (x:am_) (q:ae_):(hd_ x q).End.Peer=x.Peer:=by
  unfold hd_
  split
  ·split<;>rfl
  ·rfl
def Kn (A:Int→Int) (n:Int) (w:ab_):Prop:=(af_ n w.Ends).Peer=A (3-n)
theorem bN_ {n:Int} (hn:1≤n∧n≤2):AS_ S A Gi (Kn A n):=fun w w' h h' m hk=>DC_ h h' m hn hk
theorem rM_ {w:ab_} (h:gC_ S A Gi w) {p:ad_} {q:ae_} (f:he_ A w p q):Kn A (3-q.From) (aV_ w p):=by
  have hq:=f.fit.1
  obtain ⟨a,b⟩:=va_ h f
  unfold Kn
  rw [n3_ h f (by omega),if_pos rfl,a,yx_,b,eC_]
theorem By_ {x:am_} {q:ae_} (h:x.Peer=q.Mine):kU_ x q=x:=by unfold kU_;rw [if_neg (by omega)]
theorem wL_:∀(l:List ag_) (d:Nat),(∀k,k<d→∃x,l[k]? =some x∧0≤x.Since)→d≤f8_ l
  | l,0,_=>Nat.zero_le _
  | [],d+1,h=>by obtain ⟨x,hx,_⟩:=h 0 (by omega);cases hx
  | y::t,d+1,h=>by
    obtain ⟨x,hx,h0⟩:=h 0 (by omega)
    cases hx
    simp only [f8_]
    rw [if_pos h0]
    have:=wL_ t d (fun k hk=>by
      obtain ⟨z,hz,hz0⟩:=h (k+1) (by omega)
      exact ⟨z,by simpa using hz,hz0⟩)
    omega
theorem xg_ {w:ab_} (h:Core0 A Gi w) {n:Int} (hn:1≤n∧n≤2) (hk:Kn A n w):TInv (ha_ Gi (3-n) (A (3-n)) (A n)) (af_ n w.Ends).Take (ax_ w.Taken ⟨3-n,A (3-n),A n⟩):=by
  have hp:=h.pos (n:=3-n) (by omega)
  have:=(h.D (3-n) (by omega)).tk
  rw [eC_,h.G,(h.up n hn).2,hk] at this
  exact this (by omega)
theorem x0_ {w:ab_} (h:Core0 A Gi w) {n:Int} (hn:1≤n∧n≤2) (hk:Kn A n w):(af_ n w.Ends).Send.Base.toNat+(af_ n w.Ends).Send.Items.length=(ha_ Gi n (A n) (A (3-n))).length∧∀k x,(af_ n w.Ends).Send.Items[k]? =some x→(ha_ Gi n (A n) (A (3-n)))[(af_ n w.Ends).Send.Base.toNat+k]? =some x.Part:=by
  have hp:=h.pos (n:=3-n) (by omega)
  have:=(h.D n hn).it
  rw [h.G,(h.up n hn).2,hk] at this
  exact this (by omega)
theorem AE_ {w:ab_} (h:Core0 A Gi w) {n:Int} (hn:1≤n∧n≤2) (h1:Kn A n w) (h2:Kn A (3-n) w):(af_ n w.Ends).Send.Base≤(af_ (3-n) w.Ends).Take.Next∧∀(k:Nat) (x:ag_),(af_ n w.Ends).Send.Items[k]? =some x→x.Has=true→Had (af_ (3-n) w.Ends).Take ((af_ n w.Ends).Send.Base+k):=
  (h.D n hn).p1 (by rw [h1,(h.up (3-n) (by omega)).2]) (by rw [h2,eC_,(h.up n hn).2])
theorem DT_ {w:ab_} (h:Core0 A Gi w) {n:Int} (hn:1≤n∧n≤2) (h1:Kn A n w) (h2:Kn A (3-n) w):∀(k:Nat) (x:ag_),(af_ n w.Ends).Send.Items[k]? =some x→Had (af_ (3-n) w.Ends).Take ((af_ n w.Ends).Send.Base+k)→0≤x.Since:=
  (h.D n hn).p3 (by rw [h1,(h.up (3-n) (by omega)).2]) (by rw [h2,eC_,(h.up n hn).2])
theorem yh_ {w:ab_} (h:gC_ S A Gi w) {p:ad_} {q:ae_} (f:he_ A w p q) {n:Int} (hn:1≤n∧n≤2) (hf:q.From=3-n) (h1:Kn A n w) (h2:Kn A (3-n) w) (hk:q.Kind=1) (hy:q.Yours=A n):q.Next≤(af_ n (aV_ w p).Ends).Send.Base:=by
  have e3:3-q.From=n:=by omega
  obtain ⟨a,b⟩:=va_ h f
  have hat:=n3_ h f hn
  rw [e3] at a b hat
  rw [if_pos rfl,a] at hat
  have hmine:=f.mine
  rw [hf] at hmine
  rw [By_ (by rw [hmine];exact h1)] at hat
  rw [hat]
  have hul:=h.up n hn
  unfold hd_
  rw [if_pos (by rw [hy,hul.2]),if_pos hk]
  dsimp only
  have hv:=h.ve hn
  have hS:=hv.2.2.2.2.1
  have hgen:=f.gen
  unfold sM_ at hgen
  rw [hf] at hgen
  have hw:=(hgen.w hk (by rw [hmine,(h.up (3-n) (by omega)).2]) (h.up (3-n) (by omega)).1 (by rw [hy,h2,eC_])).1
  by_cases hb:q.Next≤(af_ n w.Ends).Send.Base
  ·have:=(v4_ (af_ n w.Ends).Send hS q.Next q.Mask).1
   omega
  ·have hm:0≤q.Mask∧q.Mask≤255:=by
     rcases f.fit.2.2.2 with g | g
     ·exact g.2.2.1
     ·omega
   obtain ⟨i1,i2⟩:=x0_ h.toCore0 hn h1
   have tk:=xg_ h.toCore0 (n:=3-n) (by omega) h2
   rw [eC_] at tk
   have hN:=tk.N
   have hb0:=hS.2.1.1
   have hfr:(q.Next-(af_ n w.Ends).Send.Base).toNat≤f8_ (af_ n w.Ends).Send.Items:=wL_ _ _ (fun k hk=>by
     have hlt:k<(af_ n w.Ends).Send.Items.length:=by omega
     exact ⟨_,List.getElem?_eq_getElem hlt,DT_ h.toCore0 hn h1 h2 k _ (List.getElem?_eq_getElem hlt) (.inl (by omega))⟩)
   unfold iq_
   rw [if_pos hS,if_pos ⟨by omega,by omega,hm.1,hm.2⟩]
   exact Int.le_refl _
theorem xZ_ {w:ab_} (h:gC_ S A Gi w) {p:ad_} {q:ae_} (f:he_ A w p q) {n:Int} (hn:1≤n∧n≤2) (hf:q.From=3-n) (h1:Kn A n w) (hk:q.Kind=2) (hy:q.Yours=A n):Had (af_ n (aV_ w p).Ends).Take q.Seq:=by
  have e3:3-q.From=n:=by omega
  obtain ⟨a,b⟩:=va_ h f
  have hat:=n3_ h f hn
  rw [e3] at a b hat
  rw [if_pos rfl,a] at hat
  have hmine:=f.mine
  rw [hf] at hmine
  rw [By_ (by rw [hmine];exact h1)] at hat
  rw [hat]
  have hul:=h.up n hn
  unfold hd_
  rw [if_pos (by rw [hy,hul.2]),if_neg (by omega)]
  dsimp only
  have hgen:=f.gen
  unfold sM_ at hgen
  rw [hf] at hgen
  have hd:=hgen.d hk
  rw [hmine,hy,h.G] at hd
  have hnear:=f.near hk (by rw [hy,e3])
  rw [e3,hf] at hnear
  have hk2:(0≤q.Seq∧q.Seq≤999999)∧q.Part.size≤20:=by
    rcases f.fit.2.2.2 with g | g
    ·omega
    ·exact ⟨g.2.2.2.1,g.2.2.2.2⟩
  have hgl:=h.glen
  rw [h.G] at hgl
  exact (nU_ (xg_ h.toCore0 hn h1) hk2.1.1 hd hk2.2 (by have:=n1_ Gi (3-n) (A (3-n)) (A n);omega)).2.2.2 (hnear.1 h1)
def mN_ (x:am_):ae_:=⟨1,x.Number,x.Life,x.Peer,(tkM x.Take).1,(tkM x.Take).2,0,false,noB⟩
theorem yu_ {x:am_} (h:VEnd x):iH_ (mN_ x):=by
  obtain ⟨k1,k2⟩:=oT_ h.2.2.2.2.2.1
  have hn:=h.2.2.2.2.2.1.1
  exact ⟨h.1,h.2.1,h.2.2.1, .inl ⟨rfl,by show 0≤(tkM x.Take).1∧(tkM x.Take).1≤1000000;omega,k2,rfl,rfl,rfl⟩⟩
theorem y5_ {x:am_} (hv:VEnd x) (hu:x.Up=true):(mN_ x∈(a2_ x).Out∧(a2_ x).End.Since=0)∨((a2_ x).End.Since=upS x∧upS x<6):=by
  unfold a2_
  rw [if_pos hv,if_pos hu]
  split
  ·left
   exact ⟨by simp [mN_],rfl⟩
  ·rename_i hc
   right
   refine ⟨rfl, ?_⟩
   by_cases h6:6≤upS x
   ·exact absurd (.inr h6) hc
   ·omega
def wmu (ev:Int) (c:Nat) (since:Int):Int:=(ev-1-(c:Int)%ev)*6+(if 6-since≤1 then 1 else 6-since)
theorem nX_ (hev:1≤ev∧ev≤10) {n:Int} (hn:1≤n∧n≤2) {q0:ae_} {Z Inv:ab_→Prop} {K:ByteArray} {W:Int} (st:AS_ S A Gi Z)
    (keep:∀s,mM_ S A Gi s→Inv s.1→Z (aB_ ev s).1∨Inv (aB_ ev s).1)
    (txt:∀w,gC_ S A Gi w→Inv w→mN_ (af_ n w.Ends)=q0)
    (hit:∀s w' p,mM_ S A Gi s→Inv s.1→gC_ S A Gi w'→Mon s.1 w'→he_ A w' p q0→Z (aV_ w' p)):
    ∀(m:Nat) (s:ab_×List DKey),mM_ S A Gi s→Inv s.1→s.1.Key=K→s.1.Width=W→wmu ev (cr_ s.2 ⟨3-n,dk_ q0 K W⟩) (af_ n s.1.Ends).Since≤m→Z (aE_ ev m s).1
  | 0,s,h,hI,hK,hW,hm=>by
    exfalso
    unfold wmu at hm
    have h1:=Int.emod_lt_of_pos ((cr_ s.2 ⟨3-n,dk_ q0 K W⟩:Nat):Int) (show 0<ev by omega)
    split at hm<;>omega
  | m+1,s,h,hI,hK,hW,hm=>by
    obtain ⟨r1,r2,r3,r4⟩:=d0_ (ev:=ev) h
    show Z (aE_ ev m (aB_ ev s)).1
    have kw:=wu_ (ev:=ev) s
    have hv:=h.core.ve hn
    have hu:=(h.core.up n hn).1
    have tq:=txt s.1 h.core hI
    have hq0:iH_ q0:=by rw [←tq];exact yu_ hv
    rcases keep s h hI with g | g
    ·exact aO_ st r1 g m
    ·rcases s3_ hev st h (key:=⟨3-n,dk_ q0 K W⟩) (fun w' p q g1 g2 g3 g4 g5=>by
       have e:q=q0:=by
         have e1:p.Bytes=dk_ q0 K W:=by have:=congrArg DKey.bytes g5;exact this
         rw [g2.eq,g2.snt,g4.1,g4.2,hK,hW] at e1
         exact wp_ g2.fit hq0 (by rw [←hW];exact h.core.V.1) (by rw [←hK];exact h.core.V.2.1) e1
       subst e
       exact hit s w' p h hI g1 g3 g2) with z | z
     ·exact aO_ st r1 z m
     ·refine nX_ hev hn st keep txt hit m (aB_ ev s) r1 g (kw.1.trans hK) (kw.2.trans hW) ?_
      have hs:(af_ n (aB_ ev s).1.Ends).Since=(a2_ (af_ n s.1.Ends)).End.Since:=by
        rw [(r3 n hn).since]
        show (af_ n (aI_ s.1).Ends).Since=_
        rw [il_ s.1 hn]
      unfold wmu at hm⊢
      rw [hs,z]
      have hsn:=hv.2.2.2.1
      rcases y5_ hv hu with ⟨o1,o2⟩ | ⟨o1,o2⟩
      ·have hc:1≤((aI_ s.1).Flight.filter (fun p=>decide (pk p=⟨3-n,dk_ q0 K W⟩))).length:=by
         refine List.length_pos_of_mem (List.mem_filter.mpr ⟨(sB_ h.core.V h.fl _).mpr ⟨n,mN_ (af_ n s.1.Ends),hn,o1,rfl⟩, ?_⟩)
         rw [tq]
         simp only [decide_eq_true_eq]
         unfold pk sP_
         rw [hK,hW]
       rw [o2]
       split at hm<;>split<;>omega
      ·rw [o1]
       unfold upS at o2⊢
       split at o2
       ·rename_i g1;rw [if_pos g1]
        split at hm<;>split<;>omega
       ·omega
theorem yv_ (hev:1≤ev∧ev≤10) (c:Nat) {since:Int} (h:0≤since):wmu ev c since≤6*ev:=by
  unfold wmu
  have h1:=Int.emod_nonneg (c:Int) (show ev≠0 by omega)
  split<;>omega
theorem to_:∀(t:List ag_) (i:Nat) (b:Int) (k:Nat) (u:ag_),t[k]? =some u→i+k<8→e5_ u→b+i+k∈(dx_ i b t).2
  | [],i,b,k,u,h,_,_=>by cases h
  | x::t,i,b,0,u,h,h8,hs=>by
    cases h
    simp only [dx_]
    rw [if_neg (by omega)]
    dsimp only
    rw [if_pos hs]
    exact List.mem_append_left _ (by simp)
  | x::t,i,b,k+1,u,h,h8,hs=>by
    simp only [dx_]
    rw [if_neg (by omega)]
    have:=to_ t (i+1) b k u (by simpa using h) (by omega) hs
    refine List.mem_append_right _ ?_
    rw [show b+((i+1:Nat):Int)+(k:Int)=b+(i:Int)+((k+1:Nat):Int) by omega] at this
    exact this
def dmu (ev:Int) (c:Nat) (since:Int):Int:=(ev-1-(c:Int)%ev)*4+(if since= -1 then 1 else 4-since)
def iC_ (A:Int→Int) (n:Int) (seq:Int) (p:az_):ae_:=⟨2,n,A n,A (3-n),0,0,seq,p.Last,p.Text⟩
theorem zG_ {w:ab_} (h:gC_ S A Gi w) {n:Int} (hn:1≤n∧n≤2) (h1:Kn A n w) {k:Nat} (hk:k<8) {u:ag_} (hu:(af_ n w.Ends).Send.Items[k]? =some u):
    (a2_ (af_ n w.Ends)).End.Send.Items[k]? =some (fS_ u)∧(e5_ u→iC_ A n ((af_ n w.Ends).Send.Base+k) u.Part∈(a2_ (af_ n w.Ends)).Out):=by
  have hv:=h.ve hn
  have hul:=h.up n hn
  have hp:=h.pos (n:=3-n) (by omega)
  have hp0:¬(af_ n w.Ends).Peer=0:=by have:(af_ n w.Ends).Peer=A (3-n):=h1;omega
  have e1:(bn_ (af_ n w.Ends))=(⟨(af_ n w.Ends).Send.Base,(dx_ 0 (af_ n w.Ends).Send.Base (af_ n w.Ends).Send.Items).1⟩,(dx_ 0 (af_ n w.Ends).Send.Base (af_ n w.Ends).Send.Items).2):=by
    unfold bn_ hL_
    rw [if_neg hp0,if_pos hv.2.2.2.2.1]
  have hget:(dx_ 0 (af_ n w.Ends).Send.Base (af_ n w.Ends).Send.Items).1[k]? =some (fS_ u):=by
    rw [hT_,hu,Option.map_some,if_pos (by omega)]
  have hin:e5_ u→(af_ n w.Ends).Send.Base+k∈(dx_ 0 (af_ n w.Ends).Send.Base (af_ n w.Ends).Send.Items).2:=fun hs=>by
    have:=to_ (af_ n w.Ends).Send.Items 0 (af_ n w.Ends).Send.Base k u hu (by omega) hs
    simpa using this
  have hout:e5_ u→iC_ A n ((af_ n w.Ends).Send.Base+k) u.Part∈(bn_ (af_ n w.Ends)).2.map (iT_ (af_ n w.Ends).Number (af_ n w.Ends).Life (af_ n w.Ends).Peer (bn_ (af_ n w.Ends)).1.Base (bn_ (af_ n w.Ends)).1.Items):=fun hs=>by
    refine List.mem_map.mpr ⟨_,by rw [e1];exact hin hs, ?_⟩
    rw [e1]
    unfold iT_ iC_ iI_
    dsimp only
    rw [show (af_ n w.Ends).Send.Base+(k:Int)-(af_ n w.Ends).Send.Base=(k:Int) by omega,Int.toNat_natCast,hget]
    dsimp only
    rw [(ri_ u).1,h.num hn,hul.2,show (af_ n w.Ends).Peer=A (3-n) from h1]
  unfold a2_
  rw [if_pos hv,if_pos hul.1]
  split
  ·exact ⟨by rw [e1];exact hget,fun hs=>List.mem_append_left _ (hout hs)⟩
  ·exact ⟨by rw [e1];exact hget,hout⟩
end
end Km.X
namespace Km.X
open Go Km
set_option linter.unusedVariables false
set_option linter.unusedSimpArgs false
section
variable {S:Nat} {A:Int→Int} {Gi:List aa_} {ev:Int}
theorem zJ_ {w:ab_} (h:gC_ S A Gi w) {n:Int} (hn:1≤n∧n≤2) (h1:Kn A n w) {k:Nat} {u:ag_} (hu:(af_ n w.Ends).Send.Items[k]? =some u):iH_ (iC_ A n ((af_ n w.Ends).Send.Base+k) u.Part):=by
  have hv:=h.ve hn
  have hl:=(h.up n hn).2
  have hp:(af_ n w.Ends).Peer=A (3-n):=h1
  have h2:=hv.2.1
  have h3:=hv.2.2.1
  rw [hl] at h2
  rw [hp] at h3
  have hS:=hv.2.2.2.2.1
  have hlt:=(List.getElem?_eq_some_iff.mp hu).1
  have h4:=hS.2.1
  have h5:=hS.2.2.1
  exact ⟨hn,h2,h3, .inr ⟨rfl,rfl,rfl,by show 0≤_+(k:Int)∧_+(k:Int)≤999999;omega,(eZ_ hS.2.2.2 k u hu).1⟩⟩
def Zd (A:Int→Int) (n b:Int) (k:Nat) (w:ab_):Prop:=Kn A n w∧Kn A (3-n) w∧(b<(af_ n w.Ends).Send.Base∨Had (af_ (3-n) w.Ends).Take (b+k))
theorem c2_ {n:Int} (hn:1≤n∧n≤2) {w w':ab_} (h:gC_ S A Gi w) (h':gC_ S A Gi w') (m:Mon w w') (hk:Kn A n w):Kn A n w'∧(af_ n w.Ends).Send.Base≤(af_ n w'.Ends).Send.Base∧(af_ n w'.Ends).Send.Base+(af_ n w'.Ends).Send.Items.length=(af_ n w.Ends).Send.Base+(af_ n w.Ends).Send.Items.length∧(af_ n w.Ends).Take.Next≤(af_ n w'.Ends).Take.Next∧∀s,Had (af_ n w.Ends).Take s→Had (af_ n w'.Ends).Take s:=by
  have hk':=bN_ hn w w' h h' m hk
  have e:(af_ n w'.Ends).Peer=(af_ n w.Ends).Peer:=by
    have a:(af_ n w'.Ends).Peer=A (3-n):=hk'
    have b:(af_ n w.Ends).Peer=A (3-n):=hk
    rw [a,b]
  obtain ⟨b1,b2⟩:=(m n hn).base e
  obtain ⟨c1,c2⟩:=(m n hn).next e
  exact ⟨hk',b1,b2,c1,c2⟩
theorem Cz_ {n b:Int} {k:Nat} (hn:1≤n∧n≤2):AS_ S A Gi (Zd A n b k):=fun w w' h h' m hz=>by
  obtain ⟨z1,z2,z3⟩:=hz
  obtain ⟨a1,a2,a3,a4,a5⟩:=c2_ hn h h' m z1
  obtain ⟨c1,c2,c3,c4,c5⟩:=c2_ (n:=3-n) (by omega) h h' m z2
  refine ⟨a1,c1, ?_⟩
  rcases z3 with z | z
  ·exact .inl (by omega)
  ·exact .inr (c5 _ z)
theorem wl_ (hev:1≤ev∧ev≤10) {n:Int} (hn:1≤n∧n≤2) {b:Int} {k:Nat} (hk8:k<8) {pt:az_} {K:ByteArray} {W:Int}:
    ∀(m:Nat) (s:ab_×List DKey),mM_ S A Gi s→Kn A n s.1→Kn A (3-n) s.1→(af_ n s.1.Ends).Send.Base=b→∀u,(af_ n s.1.Ends).Send.Items[k]? =some u→u.Part=pt→s.1.Key=K→s.1.Width=W→
     dmu ev (cr_ s.2 ⟨3-n,dk_ (iC_ A n (b+k) pt) K W⟩) u.Since≤m→Zd A n b k (aE_ ev m s).1
  | 0,s,h,h1,h2,hb,u,hu,hpt,hK,hW,hm=>by
    exfalso
    have ok:=eZ_ (h.core.ve hn).2.2.2.2.1.2.2.2 k u hu
    have:=ok.2.1
    unfold dmu at hm
    have h1:=Int.emod_lt_of_pos ((cr_ s.2 ⟨3-n,dk_ (iC_ A n (b+k) pt) K W⟩:Nat):Int) (show 0<ev by omega)
    split at hm<;>omega
  | m+1,s,h,h1,h2,hb,u,hu,hpt,hK,hW,hm=>by
    obtain ⟨r1,r2,r3,r4⟩:=d0_ (ev:=ev) h
    show Zd A n b k (aE_ ev m (aB_ ev s)).1
    have kw:=wu_ (ev:=ev) s
    have st:=Cz_ (S:=S) (A:=A) (Gi:=Gi) (n:=n) (b:=b) (k:=k) hn
    have ok:=eZ_ (h.core.ve hn).2.2.2.2.1.2.2.2 k u hu
    have hsn:=ok.2.1
    have hq0:iH_ (iC_ A n (b+k) pt):=by rw [←hb,←hpt];exact zJ_ h.core hn h1 hu
    by_cases hh:u.Has=true
    ·have:=(AE_ h.core.toCore0 hn h1 h2).2 k u hu hh
     rw [hb] at this
     have z:Zd A n b k s.1:=⟨h1,h2, .inr this⟩
     exact aO_ st r1 (st _ _ h.core r1.core r2 z) m
    rcases s3_ hev st h (key:=⟨3-n,dk_ (iC_ A n (b+k) pt) K W⟩) (fun w' p q g1 g2 g3 g4 g5=>by
        have e:q=iC_ A n (b+k) pt:=by
          have e1:p.Bytes=dk_ (iC_ A n (b+k) pt) K W:=by have:=congrArg DKey.bytes g5;exact this
          rw [g2.eq,g2.snt,g4.1,g4.2,hK,hW] at e1
          exact wp_ g2.fit hq0 (by rw [←hW];exact h.core.V.1) (by rw [←hK];exact h.core.V.2.1) e1
        subst e
        obtain ⟨c1,c2,_⟩:=hQ_ g1 g2
        have k1:=bN_ (S:=S) (Gi:=Gi) hn _ _ h.core g1 g3 h1
        have k2:=bN_ (Gi:=Gi) (n:=3-n) (by omega) _ _ h.core g1 g3 h2
        refine ⟨bN_ hn _ _ g1 c1 c2 k1,bN_ (by omega) _ _ g1 c1 c2 k2, .inr ?_⟩
        exact xZ_ g1 g2 (n:=3-n) (by omega) (by rw [eC_];rfl) k2 rfl rfl) with z | z
    ·exact aO_ st r1 z m
    obtain ⟨k1,k2,k3,_⟩:=c2_ hn h.core r1.core r2 h1
    obtain ⟨k4,_⟩:=c2_ (n:=3-n) (by omega) h.core r1.core r2 h2
    by_cases hb':b<(af_ n (aB_ ev s).1.Ends).Send.Base
    ·exact aO_ st r1 ⟨k1,k4, .inl hb'⟩ m
    have hbe:(af_ n (aB_ ev s).1.Ends).Send.Base=b:=by omega
    have hlt:=(List.getElem?_eq_some_iff.mp hu).1
    have hlt':k<(af_ n (aB_ ev s).1.Ends).Send.Items.length:=by omega
    obtain ⟨t1,t2⟩:=zG_ h.core hn h1 hk8 hu
    have tb:(af_ n (be_ (aI_ s.1) []).Ends)=(a2_ (af_ n s.1.Ends)).End:=il_ s.1 hn
    have tsm:=fV_ (h.core.ve hn)
    have tbase:(a2_ (af_ n s.1.Ends)).End.Send.Base=b:=by
      have:=(wr_ (h.core.ve hn)).base tsm.2.2.1
      have m4:=r4 n hn
      rw [tb] at m4
      have:=(m4.base (by rw [tsm.2.2.1];have a:(af_ n (aB_ ev s).1.Ends).Peer=A (3-n):=k1;have b:(af_ n s.1.Ends).Peer=A (3-n):=h1;rw [a,b])).1
      omega
    have fz:=r3 n hn
    rw [tb] at fz
    obtain ⟨u1,hu1,hs1⟩:=fz.items (by rw [tsm.2.2.1];have a:(af_ n (aB_ ev s).1.Ends).Peer=A (3-n):=k1;have b:(af_ n s.1.Ends).Peer=A (3-n):=h1;rw [a,b]) (by rw [hbe,tbase]) k _ (List.getElem?_eq_getElem hlt')
    rw [t1] at hu1
    cases hu1
    have hpt':((af_ n (aB_ ev s).1.Ends).Send.Items[k]).Part=pt:=by
      have a:=(x0_ r1.core.toCore0 hn k1).2 k _ (List.getElem?_eq_getElem hlt')
      have b':=(x0_ h.core.toCore0 hn h1).2 k u hu
      rw [hbe] at a
      rw [hb,a] at b'
      rw [Option.some.inj b'];exact hpt
    refine wl_ hev hn hk8 m (aB_ ev s) r1 k1 k4 hbe _ (List.getElem?_eq_getElem hlt') hpt' (kw.1.trans hK) (kw.2.trans hW) ?_
    rw [hs1]
    unfold dmu at hm⊢
    rw [z]
    by_cases hs:e5_ u
    ·have hc:1≤((aI_ s.1).Flight.filter (fun p=>decide (pk p=⟨3-n,dk_ (iC_ A n (b+k) pt) K W⟩))).length:=by
       have:=t2 hs
       rw [hb,hpt] at this
       refine List.length_pos_of_mem (List.mem_filter.mpr ⟨(sB_ h.core.V h.fl _).mpr ⟨n,_,hn,this,rfl⟩, ?_⟩)
       simp only [decide_eq_true_eq]
       unfold pk sP_
       rw [hK,hW]
     have e:(fS_ u).Since=0:=by
       unfold fS_
       rw [if_neg hh]
       rcases hs.2 with g | g
       ·rw [if_pos g]
       ·rw [if_neg (by omega),if_pos g]
     rw [e]
     have:=hs.2
     split at hm<;>split<;>omega
    ·have h3:¬u.Since= -1∧¬u.Since=3:=⟨fun e=>hs ⟨hh, .inl e⟩,fun e=>hs ⟨hh, .inr e⟩⟩
     have e:(fS_ u).Since=u.Since+1:=by
       unfold fS_
       rw [if_neg hh,if_neg h3.1,if_neg h3.2]
     rw [e]
     split at hm<;>split<;>omega
theorem DL_ (hev:1≤ev∧ev≤10) (c:Nat) {since:Int} (h: -1≤since):dmu ev c since≤4*ev:=by
  unfold dmu
  have h1:=Int.emod_nonneg (c:Int) (show ev≠0 by omega)
  split<;>omega
theorem zv_ {w:ab_} (h:gC_ S A Gi w) {m:Int} (hm:1≤m∧m≤2) (hr:(af_ m w.Ends).Take.Ready≠[]):(af_ m (dU_ w m).Ends).Take=(cB_ (af_ m w.Ends).Take).1∧(af_ m (dU_ w m).Ends).Peer=(af_ m w.Ends).Peer:=by
  rw [sr_ h hm hr]
  show (af_ m (dl_ m _ w.Ends)).Take=_∧_
  rw [bG_ h.V.2.2.2.2.1 hm hm,if_pos rfl]
  have:=(fL_ (lT_ (h.ve hm) (h.up m hm).1 hr)).1
  rw [this]
  exact ⟨rfl,rfl⟩
theorem xp_ {w:ab_} (h:gC_ S A Gi w) {m j:Int} (hm:1≤m∧m≤2) (hj:1≤j∧j≤2) (hne:¬j=m):af_ j (dU_ w m).Ends=af_ j w.Ends:=by
  by_cases hr:(af_ m w.Ends).Take.Ready=[]
  ·rw [tS_ h hm hr]
  ·rw [sr_ h hm hr]
   show af_ j (dl_ m _ w.Ends)=_
   rw [bG_ h.V.2.2.2.2.1 hm hj,if_neg hne]
theorem kM_ {m j:Int} (hm:1≤m∧m≤2) (hj:1≤j∧j≤2) (hne:¬j=m):∀(d:Nat) {w:ab_},gC_ S A Gi w→af_ j (aS_ m d w).Ends=af_ j w.Ends
  | 0,w,h=>rfl
  | d+1,w,h=>by
    simp only [aS_]
    split
    ·rfl
    ·rw [kM_ hm hj hne d (jA_ h hm).1,xp_ h hm hj hne]
theorem mk_ {m:Int} (hm:1≤m∧m≤2) {U:Int}:∀(d:Nat) {w:ab_},gC_ S A Gi w→Kn A m w→(∀i,0≤i→i<U→Had (af_ m w.Ends).Take i)→
    (af_ m w.Ends).Take.Next+d≤(af_ m (aS_ m d w).Ends).Take.Next∨U≤(af_ m (aS_ m d w).Ends).Take.Next
  | 0,w,h,hk,hU=> .inl (by simp [aS_])
  | d+1,w,h,hk,hU=>by
    have tk:=xg_ h.toCore0 hm hk
    have hT:=pw_ (Gi:=Gi) (by rw [←h.G];exact h.V.2.2.2.2.2.2.1) (3-m) (A (3-m)) (A m)
    have hat:(af_ m w.Ends).Take.Next<U→∃x∈(af_ m w.Ends).Take.Held,x.Seq=(af_ m w.Ends).Take.Next:=fun hlt=>by
      rcases hU _ tk.V.1.1 hlt with g | g
      ·omega
      ·exact g
    simp only [aS_]
    split
    ·rename_i hr
     right
     by_cases hlt:(af_ m w.Ends).Take.Next<U
     ·obtain ⟨x,hx,e⟩:=hat hlt
      have:=zM_ tk hT hx e
      rw [hr] at this;cases this
     ·omega
    ·rename_i hr
     obtain ⟨c1,c2,_⟩:=jA_ h hm
     obtain ⟨k1,_,_,k4,k5⟩:=c2_ hm h c1 c2 hk
     have ih:=mk_ hm (U:=U) d c1 k1 (fun i h0 hi=>k5 _ (hU i h0 hi))
     by_cases hlt:(af_ m w.Ends).Take.Next<U
     ·obtain ⟨x,hx,e⟩:=hat hlt
      cases hR:(af_ m w.Ends).Take.Ready with
      | nil=>exact absurd hR hr
      | cons s rs=>
        have:=Cx_ tk hT hx e hR
        rw [(zv_ h hm hr).1] at ih
        rcases ih with g | g
        ·left;push_cast;omega
        ·exact .inr g
     ·right
      rcases ih with g | g<;>omega
theorem ro_ {m:Int} (hm:1≤m∧m≤2) {U:Int} {s:ab_×List DKey} (h:mM_ S A Gi s) (hk:Kn A m s.1) (hU:∀i,0≤i→i<U→Had (af_ m s.1.Ends).Take i):
    (af_ m s.1.Ends).Take.Next+4≤(af_ m (aB_ ev s).1.Ends).Take.Next∨U≤(af_ m (aB_ ev s).1.Ends).Take.Next:=by
  obtain ⟨a1,a2,a3⟩:=h2_ h.core h.fl
  obtain ⟨b1,b2,b3⟩:=eI_ (ev:=ev) (aI_ s.1).Flight s.2 a1 a3
  obtain ⟨c1,c2,c3⟩:=cF_ (n:=1) (by omega) 4 b1
  obtain ⟨d1,d2,d3⟩:=cF_ (n:=2) (by omega) 4 c1
  obtain ⟨k1,_,_,k4,k5⟩:=c2_ hm h.core b1 (a2.trans b2) hk
  have:m=1∨m=2:=by omega
  rcases this with rfl | rfl
  ·have:=mk_ (S:=S) (A:=A) (Gi:=Gi) (m:=1) (by omega) (U:=U) 4 b1 k1 (fun i h0 hi=>k5 _ (hU i h0 hi))
   obtain ⟨e1,_,_,e4,_⟩:=c2_ (n:=1) (by omega) b1 c1 c2 k1
   obtain ⟨f1,_,_,f4,_⟩:=c2_ (n:=1) (by omega) c1 d1 d2 e1
   unfold aB_
   dsimp only
   rcases this with g | g
   ·left;omega
   ·right;omega
  ·obtain ⟨e1,_,_,e4,e5⟩:=c2_ (n:=2) (by omega) b1 c1 c2 k1
   have:=mk_ (S:=S) (A:=A) (Gi:=Gi) (m:=2) (by omega) (U:=U) 4 c1 e1 (fun i h0 hi=>e5 _ (k5 _ (hU i h0 hi)))
   unfold aB_
   dsimp only
   rcases this with g | g
   ·left;omega
   ·right;omega
theorem Ci_ {m:Int} (hm:1≤m∧m≤2) {w:ab_} (h:gC_ S A Gi w) (h1:Kn A (3-m) w) (h2:Kn A m w) {i:Int} (hi:Had (af_ m w.Ends).Take i) (hb:(af_ (3-m) w.Ends).Send.Base≤i):i<(af_ (3-m) w.Ends).Send.Base+8∧i<(af_ (3-m) w.Ends).Send.Base+(af_ (3-m) w.Ends).Send.Items.length:=by
  have hn:1≤3-m∧3-m≤2:=by omega
  have tk:=xg_ h.toCore0 hm h2
  have hlt:=Bo_ tk hi
  obtain ⟨i1,i2⟩:=x0_ h.toCore0 hn h1
  rw [eC_] at i1 i2
  have hS:=(h.ve hn).2.2.2.2.1
  have hb0:=hS.2.1.1
  have hk:(i-(af_ (3-m) w.Ends).Send.Base).toNat<(af_ (3-m) w.Ends).Send.Items.length:=by omega
  have e:(af_ (3-m) w.Ends).Send.Base+((i-(af_ (3-m) w.Ends).Send.Base).toNat:Int)=i:=by omega
  have hx:=List.getElem?_eq_getElem hk
  have:=DT_ h.toCore0 hn h1 (by rw [eC_];exact h2) _ _ hx (by rw [eC_,e];exact hi)
  have ok:=eZ_ hS.2.2.2 _ _ hx
  refine ⟨?_,by omega⟩
  by_cases h8:8≤(i-(af_ (3-m) w.Ends).Send.Base).toNat
  ·have:=ok.2.2.1 (by omega);omega
  ·omega
def Zb (A:Int→Int) (n b:Int) (w:ab_):Prop:=Kn A n w∧Kn A (3-n) w∧b<(af_ n w.Ends).Send.Base
theorem Cu_ {n b:Int} (hn:1≤n∧n≤2):AS_ S A Gi (Zb A n b):=fun w w' h h' m hz=>by
  obtain ⟨z1,z2,z3⟩:=hz
  obtain ⟨a1,a2,_⟩:=c2_ hn h h' m z1
  obtain ⟨c1,_⟩:=c2_ (n:=3-n) (by omega) h h' m z2
  exact ⟨a1,c1,by omega⟩
theorem CX_ (hev:1≤ev∧ev≤10) {n:Int} (hn:1≤n∧n≤2) {s:ab_×List DKey} (h:mM_ S A Gi s) (h1:Kn A n s.1) (h2:Kn A (3-n) s.1) (hne:(af_ n s.1.Ends).Send.Items≠[]):Zb A n (af_ n s.1.Ends).Send.Base (aE_ ev (12*ev.toNat) s).1:=by
  have hm:1≤3-n∧3-n≤2:=by omega
  generalize hb:(af_ n s.1.Ends).Send.Base=b
  have hlen:1≤(af_ n s.1.Ends).Send.Items.length:=by
    cases hh:(af_ n s.1.Ends).Send.Items with
    | nil=>exact absurd hh hne
    | cons x t=>simp
  generalize hN:(af_ n s.1.Ends).Send.Items.length=N at hlen
  have hb0:=(h.core.ve hn).2.2.2.2.1.2.1.1
  have st:=Cu_ (S:=S) (A:=A) (Gi:=Gi) (n:=n) (b:=b) hn
  obtain ⟨r1,r2⟩:=bS_ (ev:=ev) (4*ev.toNat) h
  obtain ⟨k1,k2,k3,_⟩:=c2_ hn h.core r1.core r2 h1
  obtain ⟨k4,_⟩:=c2_ hm h.core r1.core r2 h2
  have e12:12*ev.toNat=4*ev.toNat+(2+(6*ev.toNat+(2*ev.toNat-2))):=by omega
  rw [e12,dN_,dN_,dN_]
  generalize hs1:aE_ ev (4*ev.toNat) s=s1 at*
  by_cases hb1:b<(af_ n s1.1.Ends).Send.Base
  ·have z:Zb A n b s1.1:=⟨k1,k4,hb1⟩
   obtain ⟨r1',_⟩:=bS_ (ev:=ev) 2 r1
   obtain ⟨r1'',_⟩:=bS_ (ev:=ev) (6*ev.toNat) r1'
   exact aO_ st r1'' (aO_ st r1' (aO_ st r1 z 2) _) _
  have hbe:(af_ n s1.1.Ends).Send.Base=b:=by omega
  have hNe:(af_ n s1.1.Ends).Send.Items.length=N:=by omega
  have hall:∀i,0≤i→i<b+min 8 (N:Int)→Had (af_ (3-n) s1.1.Ends).Take i:=fun i h0 hi=>by
    by_cases hib:i<b
    ·exact .inl (by have:=(AE_ r1.core.toCore0 hn k1 k4).1;omega)
    ·have hk:(i-b).toNat<(af_ n s.1.Ends).Send.Items.length:=by omega
     have:=wl_ (S:=S) (A:=A) (Gi:=Gi) hev hn (b:=b) (k:=(i-b).toNat) (by omega) (pt:=(af_ n s.1.Ends).Send.Items[(i-b).toNat].Part) (K:=s.1.Key) (W:=s.1.Width) (4*ev.toNat) s h h1 h2 hb _ (List.getElem?_eq_getElem hk) rfl rfl rfl (by
       have ok:=eZ_ (h.core.ve hn).2.2.2.2.1.2.2.2 _ _ (List.getElem?_eq_getElem hk)
       have:=DL_ hev (cr_ s.2 ⟨3-n,dk_ (iC_ A n (b+((i-b).toNat:Nat)) (af_ n s.1.Ends).Send.Items[(i-b).toNat].Part) s.1.Key s.1.Width⟩) ok.2.1.1
       omega)
     rw [hs1] at this
     rcases this.2.2 with g | g
     ·exact absurd g hb1
     ·rwa [show b+((i-b).toNat:Int)=i by omega] at g
  obtain ⟨u1,u2,_⟩:=d0_ (ev:=ev) r1
  obtain ⟨v1,v2,_⟩:=d0_ (ev:=ev) u1
  have e2:aE_ ev 2 s1=aB_ ev (aB_ ev s1):=rfl
  rw [e2]
  obtain ⟨l1,l2,l3,_⟩:=c2_ hn r1.core u1.core u2 k1
  obtain ⟨l4,_,_,l5,l6⟩:=c2_ hm r1.core u1.core u2 k4
  obtain ⟨m1,m2,m3,_⟩:=c2_ hn u1.core v1.core v2 l1
  obtain ⟨m4,_,_,m5,m6⟩:=c2_ hm u1.core v1.core v2 l4
  have n1:=ro_ (ev:=ev) hm (U:=b+min 8 (N:Int)) r1 k4 hall
  have n2:=ro_ (ev:=ev) hm (U:=b+min 8 (N:Int)) u1 l4 (fun i h0 hi=>l6 _ (hall i h0 hi))
  have hnx:=(AE_ r1.core.toCore0 hn k1 k4).1
  have hU:b+min 8 (N:Int)≤(af_ (3-n) (aB_ ev (aB_ ev s1)).1.Ends).Take.Next:=by omega
  generalize hs2:aB_ ev (aB_ ev s1)=s2 at*
  by_cases hb2:b<(af_ n s2.1.Ends).Send.Base
  ·have z:Zb A n b s2.1:=⟨m1,m4,hb2⟩
   obtain ⟨r1'',_⟩:=bS_ (ev:=ev) (6*ev.toNat) v1
   exact aO_ st r1'' (aO_ st v1 z _) _
  have run:=nX_ (S:=S) (A:=A) (Gi:=Gi) hev (n:=3-n) hm (q0:=⟨1,3-n,A (3-n),A n,b+min 8 (N:Int),0,0,false,noB⟩) (Z:=Zb A n b)
    (Inv:=fun w=>Kn A n w∧Kn A (3-n) w∧(af_ n w.Ends).Send.Base=b∧(af_ n w.Ends).Send.Items.length=N∧b+min 8 (N:Int)≤(af_ (3-n) w.Ends).Take.Next) (K:=s2.1.Key) (W:=s2.1.Width) st
    (fun s h hI=>by
      obtain ⟨i1,i2,i3,i4,i5⟩:=hI
      obtain ⟨r1,r2,_⟩:=d0_ (ev:=ev) h
      obtain ⟨k1,k2,k3,_⟩:=c2_ hn h.core r1.core r2 i1
      obtain ⟨k4,_,_,k5,_⟩:=c2_ hm h.core r1.core r2 i2
      by_cases hb':b<(af_ n (aB_ ev s).1.Ends).Send.Base
      ·exact .inl ⟨k1,k4,hb'⟩
      ·exact .inr ⟨k1,k4,by omega,by omega,by omega⟩)
    (fun w h hI=>by
      obtain ⟨i1,i2,i3,i4,i5⟩:=hI
      have hv:=h.ve hm
      have top:∀i,Had (af_ (3-n) w.Ends).Take i→i<b+min 8 (N:Int):=fun i hi=>by
        by_cases hib:i<b
        ·omega
        ·have:=Ci_ hm h (by rw [eC_];exact i1) i2 hi (by rw [eC_];omega)
         rw [eC_] at this
         omega
      have hnext:(af_ (3-n) w.Ends).Take.Next=b+min 8 (N:Int):=by
        by_cases hh:(af_ (3-n) w.Ends).Take.Next=b+min 8 (N:Int)
        ·exact hh
        ·have:=top ((af_ (3-n) w.Ends).Take.Next-1) (.inl (by omega))
         omega
      have hheld:(af_ (3-n) w.Ends).Take.Held=[]:=by
        cases hh:(af_ (3-n) w.Ends).Take.Held with
        | nil=>rfl
        | cons x t=>
          have:=top x.Seq (.inr ⟨x,by rw [hh];simp,rfl⟩)
          have hw:=hv.2.2.2.2.2.1.2.2.2.2.2.1
          rw [hh] at hw
          have:=hw.1.1
          omega
      have htk:tkM (af_ (3-n) w.Ends).Take=(b+min 8 (N:Int),0):=by
        unfold tkM
        rw [if_pos hv.2.2.2.2.2.1,hheld,hnext]
        rfl
      unfold mN_
      rw [htk,h.num hm,(h.up _ hm).2]
      have:(af_ (3-n) w.Ends).Peer=A n:=by have:(af_ (3-n) w.Ends).Peer=A (3-(3-n)):=i2;rwa [eC_] at this
      rw [this])
    (fun s w' p h hI hc hmn f=>by
      obtain ⟨i1,i2,i3,i4,i5⟩:=hI
      have j1:=bN_ (S:=S) (Gi:=Gi) hn _ _ h.core hc hmn i1
      have j2:=bN_ (Gi:=Gi) hm _ _ h.core hc hmn i2
      obtain ⟨c1,c2,_⟩:=hQ_ hc f
      have:=yh_ hc f hn rfl j1 j2 rfl rfl
      have hle:b+min 8 (N:Int)≤(af_ n (aV_ w' p).Ends).Send.Base:=this
      exact ⟨bN_ hn _ _ hc c1 c2 j1,bN_ hm _ _ hc c1 c2 j2,by omega⟩)
  have z:=run (6*ev.toNat) s2 v1 ⟨m1,m4,by omega,by omega,hU⟩ rfl rfl (by
    have:=yv_ hev (cr_ s2.2 ⟨3-(3-n),dk_ ⟨1,3-n,A (3-n),A n,b+min 8 (N:Int),0,0,false,noB⟩ s2.1.Key s2.1.Width⟩) (v1.core.ve hm).2.2.2.1.1
    omega)
  exact aO_ st (bS_ (ev:=ev) (6*ev.toNat) v1).1 z _
def Em (A:Int→Int) (n:Int) (w:ab_):Prop:=Kn A n w∧(af_ n w.Ends).Send.Items=[]
theorem l3_ {n:Int} (hn:1≤n∧n≤2):AS_ S A Gi (Em A n):=fun w w' h h' m hz=>by
  obtain ⟨a1,a2,a3,_⟩:=c2_ hn h h' m hz.1
  refine ⟨a1, ?_⟩
  rw [hz.2] at a3
  simp only [List.length_nil] at a3
  exact List.length_eq_zero_iff.mp (by omega)
theorem Ct_ (hev:1≤ev∧ev≤10) {n:Int} (hn:1≤n∧n≤2):∀(N:Nat) {s:ab_×List DKey},mM_ S A Gi s→Kn A n s.1→Kn A (3-n) s.1→(af_ n s.1.Ends).Send.Items.length≤N→Em A n (aE_ ev (12*ev.toNat*N) s).1
  | 0,s,h,h1,h2,hl=>by
    have e:Em A n s.1:=⟨h1,List.length_eq_zero_iff.mp (by omega)⟩
    exact aO_ (l3_ hn) h e _
  | N+1,s,h,h1,h2,hl=>by
    by_cases hne:(af_ n s.1.Ends).Send.Items=[]
    ·exact aO_ (l3_ hn) h ⟨h1,hne⟩ _
    ·have d:=CX_ hev hn h h1 h2 hne
     rw [show 12*ev.toNat*(N+1)=12*ev.toNat+12*ev.toNat*N by rw [Nat.mul_succ];omega,dN_]
     obtain ⟨r1,r2⟩:=bS_ (ev:=ev) (12*ev.toNat) h
     obtain ⟨k1,k2,k3,_⟩:=c2_ hn h.core r1.core r2 h1
     exact Ct_ hev hn N r1 d.1 d.2.1 (by have:=d.2.2;omega)
end
end Km.X
namespace Km.X
open Go Km
set_option linter.unusedVariables false
set_option linter.unusedSimpArgs false
section
variable {S:Nat} {A:Int→Int} {Gi:List aa_} {ev:Int}
theorem pj_ {n:Int} (hn:1≤n∧n≤2):∀(t:List ad_) (k:List DKey) {w:ab_},gC_ S A Gi w→(∀p∈t,∃q,he_ A w p q)→Kn A n (a8_ ev t k w).1∨af_ n (a8_ ev t k w).1.Ends=af_ n w.Ends
  | [],k,w,h,_=> .inr rfl
  | p::t,k,w,h,hf=>by
    simp only [a8_]
    split
    ·obtain ⟨q,fq⟩:=hf p (List.mem_cons_self ..)
     obtain ⟨a,b,c,d⟩:=hQ_ h fq
     have hf':∀p'∈t,∃q,he_ A (aV_ w p) p' q:=fun p' hp'=>by
       obtain ⟨q',fq'⟩:=hf p' (List.mem_cons_of_mem _ hp')
       exact ⟨q',d p' q' fq'⟩
     by_cases e:n=3-q.From
     ·have k1:=rM_ h fq
      rw [←e] at k1
      obtain ⟨a',b',_⟩:=eI_ (ev:=ev) t (k++[pk p]) a hf'
      exact .inl (bN_ hn _ _ a a' b' k1)
     ·rcases pj_ hn t (k++[pk p]) a hf' with g | g
      ·exact .inl g
      ·refine .inr (g.trans ?_)
       rw [n3_ h fq hn,if_neg e]
    ·exact pj_ hn t (k++[pk p]) h (fun p' hp'=>hf p' (List.mem_cons_of_mem _ hp'))
def Phi (n:Int) (w:ab_):Nat:=(af_ n w.Ends).Take.Ready.length+(af_ n w.Ends).Take.Held.length
theorem lj_ {m:Int} (hm:1≤m∧m≤2):∀(d:Nat) {w:ab_},gC_ S A Gi w→(af_ m (aS_ m d w).Ends).Take.Ready=[]∨Phi m (aS_ m d w)+d≤Phi m w
  | 0,w,h=> .inr (Nat.le_refl _)
  | d+1,w,h=>by
    simp only [aS_]
    split
    ·rename_i hr;exact .inl hr
    ·rename_i hr
     obtain ⟨c1,c2,_⟩:=jA_ h hm
     rcases lj_ hm d c1 with g | g
     ·exact .inl g
     ·right
      have hc:=lT_ (h.ve hm) (h.up m hm).1 hr
      have:=(v0_ (h.ve hm).2.2.2.2.2.1 (fL_ hc).2.2).2
      unfold Phi at g⊢
      rw [(zv_ h hm hr).1] at g
      omega
theorem xk_ {m:Int} {w:ab_} (hr:(af_ m w.Ends).Take.Ready=[]):∀d,aS_ m d w=w
  | 0=>rfl
  | d+1=>by simp only [aS_];rw [if_pos hr]
theorem q8_ {s:ab_×List DKey} (h:mM_ S A Gi s):Kn A 1 (aB_ ev s).1∨((af_ 1 (aB_ ev s).1.Ends).Take.Ready=[]∨Phi 1 (aB_ ev s).1+4≤Phi 1 s.1)∧((af_ 1 s.1.Ends).Take.Ready=[]→(af_ 1 (aB_ ev s).1.Ends).Take=(af_ 1 s.1.Ends).Take∧(af_ 1 (aB_ ev s).1.Ends).Peer=(af_ 1 s.1.Ends).Peer):=by
  obtain ⟨a1,a2,a3⟩:=h2_ h.core h.fl
  obtain ⟨b1,b2,b3⟩:=eI_ (ev:=ev) (aI_ s.1).Flight s.2 a1 a3
  obtain ⟨c1,c2,c3⟩:=cF_ (n:=1) (by omega) 4 b1
  obtain ⟨d1,d2,d3⟩:=cF_ (n:=2) (by omega) 4 c1
  have ef:af_ 1 (aB_ ev s).1.Ends=af_ 1 (aS_ 1 4 (a8_ ev (aI_ s.1).Flight s.2 (be_ (aI_ s.1) [])).1).Ends:=by
    unfold aB_
    exact kM_ (m:=2) (j:=1) (by omega) (by omega) (by omega) 4 c1
  rcases pj_ (ev:=ev) (n:=1) (by omega) (aI_ s.1).Flight s.2 a1 a3 with g | g
  ·exact .inl (bN_ (by omega) _ _ b1 d1 (c2.trans d2) g)
  ·right
   have tb:af_ 1 (be_ (aI_ s.1) []).Ends=(a2_ (af_ 1 s.1.Ends)).End:=il_ s.1 (by omega)
   obtain ⟨e1,e2,e3,e4,e5⟩:=fV_ (h.core.ve (n:=1) (by omega))
   rw [tb] at g
   have hp:=lj_ (S:=S) (A:=A) (Gi:=Gi) (m:=1) (by omega) 4 b1
   refine ⟨?_,fun hr=> ?_⟩
   ·rw [ef]
    unfold Phi at hp⊢
    rw [ef]
    rw [g,e4] at hp
    exact hp
   ·rw [ef,xk_ (by rw [g,e4];exact hr),g,e4,e3]
    exact ⟨rfl,rfl⟩
theorem Fx_ (s:ab_×List DKey) (h:mM_ S A Gi s):Kn A 1 (aE_ ev 3 s).1∨(af_ 1 (aE_ ev 3 s).1.Ends).Take.Ready=[]:=by
  have e3:aE_ ev 3 s=aB_ ev (aB_ ev (aB_ ev s)):=rfl
  rw [e3]
  obtain ⟨r1,m1,_⟩:=d0_ (ev:=ev) h
  obtain ⟨r2,m2,_⟩:=d0_ (ev:=ev) r1
  obtain ⟨r3,m3,_⟩:=d0_ (ev:=ev) r2
  have v:=(h.core.ve (n:=1) (by omega)).2.2.2.2.2.1
  have hphi:Phi 1 s.1≤12:=by have:=v.2.1;have:=v.2.2.2.1;unfold Phi;omega
  have step:∀{s:ab_×List DKey} (x:Nat),mM_ S A Gi s→((af_ 1 s.1.Ends).Take.Ready=[]∨Phi 1 s.1≤x)→Kn A 1 (aB_ ev s).1∨((af_ 1 (aB_ ev s).1.Ends).Take.Ready=[]∨Phi 1 (aB_ ev s).1+4≤x):=fun x h hx=>by
    rcases q8_ (ev:=ev) h with g | ⟨g1,g2⟩
    ·exact .inl g
    ·right
     rcases hx with hx | hx
     ·left;rw [(g2 hx).1];exact hx
     ·rcases g1 with g1 | g1
      ·exact .inl g1
      ·exact .inr (by omega)
  have st:=bN_ (S:=S) (A:=A) (Gi:=Gi) (n:=1) (by omega)
  rcases step 12 h (.inr hphi) with g | g
  ·exact .inl (st _ _ r2.core r3.core m3 (st _ _ r1.core r2.core m2 g))
  rcases step 8 r1 (by rcases g with g | g;exact .inl g;exact .inr (by omega)) with g | g
  ·exact .inl (st _ _ r2.core r3.core m3 g)
  rcases step 4 r2 (by rcases g with g | g;exact .inl g;exact .inr (by omega)) with g | g
  ·exact .inl g
  ·right
   rcases g with g | g
   ·exact g
   ·unfold Phi at g
    exact List.length_eq_zero_iff.mp (by omega)
theorem Dg_ (hev:1≤ev∧ev≤10) {s:ab_×List DKey} (h:mM_ S A Gi s) (h1:¬Kn A 1 s.1) (h2:¬Kn A 2 s.1) (hr:(af_ 1 s.1.Ends).Take.Ready=[]):Kn A 1 (aE_ ev (6*ev.toNat) s).1∨Kn A 2 (aE_ ev (6*ev.toNat) s).1:=by
  have st:AS_ S A Gi (fun w=>Kn A 1 w∨Kn A 2 w):=fun w w' h h' m hz=>by
    rcases hz with z | z
    ·exact .inl (bN_ (by omega) _ _ h h' m z)
    ·exact .inr (bN_ (by omega) _ _ h h' m z)
  refine nX_ (S:=S) (A:=A) (Gi:=Gi) hev (n:=1) (by omega) (q0:=⟨1,1,A 1,(af_ 1 s.1.Ends).Peer,(tkM (af_ 1 s.1.Ends).Take).1,(tkM (af_ 1 s.1.Ends).Take).2,0,false,noB⟩) (Z:=fun w=>Kn A 1 w∨Kn A 2 w)
    (Inv:=fun w=>(af_ 1 w.Ends).Take=(af_ 1 s.1.Ends).Take∧(af_ 1 w.Ends).Peer=(af_ 1 s.1.Ends).Peer) (K:=s.1.Key) (W:=s.1.Width) st ?_ ?_ ?_ (6*ev.toNat) s h ⟨rfl,rfl⟩ rfl rfl ?_
  ·intro s' h' hI
   rcases q8_ (ev:=ev) h' with g | ⟨g1,g2⟩
   ·exact .inl (.inl g)
   ·right
    have:=g2 (by rw [hI.1];exact hr)
    exact ⟨this.1.trans hI.1,this.2.trans hI.2⟩
  ·intro w hw hI
   unfold mN_
   rw [hI.1,hI.2,hw.num (by omega),(hw.up 1 (by omega)).2]
  ·intro s' w' p h' hI hc hm f
   right
   exact rM_ hc f
  ·have:=yv_ hev (cr_ s.2 ⟨3-1,dk_ ⟨1,1,A 1,(af_ 1 s.1.Ends).Peer,(tkM (af_ 1 s.1.Ends).Take).1,(tkM (af_ 1 s.1.Ends).Take).2,0,false,noB⟩ s.1.Key s.1.Width⟩) (h.core.ve (n:=1) (by omega)).2.2.2.1.1
   omega
theorem yo_ {w:ab_} (h:Core0 A Gi w) {n:Int} (hn:1≤n∧n≤2) (hk:¬Kn A n w):ha_ Gi n (A n) (A (3-n))=[]:=by
  have e:ax_ Gi ⟨n,A n,A (3-n)⟩=[]:=iu_ fun r hr e=>by
    simp only [kf,DPair.mk.injEq] at e
    have hlt:=h.peer hn
    have hne:¬(af_ n w.Ends).Peer=A (3-n):=hk
    rw [←h.G] at hr
    have hul:=h.up n hn
    rcases (h.D n hn).gf r hr e.1 with g | ⟨g,g'⟩
    ·rw [hul.2] at g;omega
    ·have:=g' hul.1;omega
  unfold ha_
  rw [e];rfl
theorem zi_ {w:ab_} (h:Core0 A Gi w) {n:Int} (hn:1≤n∧n≤2) (hk:Kn A n w) (hp:ha_ Gi (3-n) (A (3-n)) (A n)=[]):(af_ n w.Ends).Take.Next=0∧(af_ n w.Ends).Take.Held=[]∧(af_ n w.Ends).Take.Ready=[]:=by
  have tk:=xg_ h hn hk
  rw [hp] at tk
  have hN:=tk.N
  have h0:=tk.V.1.1
  have hJ:=tk.J
  simp only [List.take_nil,d1_,Prod.mk.injEq] at hJ
  refine ⟨by simp at hN;omega, ?_, ?_⟩
  ·cases hh:(af_ n w.Ends).Take.Held with
   | nil=>rfl
   | cons x t=>
     have:=(tk.M x (by rw [hh];simp)).2
     simp at this
  ·have:=hJ.1
   have:=List.append_eq_nil_iff.mp this.symm
   exact this.2
theorem BD_ (hev:1≤ev∧ev≤10) {n:Int} (hn:1≤n∧n≤2) {s:ab_×List DKey} (h:mM_ S A Gi s) (h1:Kn A n s.1):Kn A n (aE_ ev (6*ev.toNat) s).1∧Kn A (3-n) (aE_ ev (6*ev.toNat) s).1:=by
  refine ⟨aO_ (bN_ hn) h h1 _, ?_⟩
  by_cases h2:Kn A (3-n) s.1
  ·exact aO_ (bN_ (by omega)) h h2 _
  have hm:1≤3-n∧3-n≤2:=by omega
  have hp:=yo_ h.core.toCore0 hm h2
  rw [eC_] at hp
  refine nX_ (S:=S) (A:=A) (Gi:=Gi) hev (n:=n) hn (q0:=⟨1,n,A n,A (3-n),0,0,0,false,noB⟩) (Z:=Kn A (3-n)) (Inv:=Kn A n) (K:=s.1.Key) (W:=s.1.Width) (bN_ hm) ?_ ?_ ?_ (6*ev.toNat) s h h1 rfl rfl ?_
  ·intro s' h' hI
   obtain ⟨r1,r2,_⟩:=d0_ (ev:=ev) h'
   exact .inr (bN_ hn _ _ h'.core r1.core r2 hI)
  ·intro w hw hI
   obtain ⟨t1,t2,t3⟩:=zi_ hw.toCore0 hn hI hp
   have htk:tkM (af_ n w.Ends).Take=(0,0):=by
     unfold tkM
     rw [if_pos (hw.ve hn).2.2.2.2.2.1,t1,t2]
     rfl
   unfold mN_
   rw [htk,hw.num hn,(hw.up n hn).2,show (af_ n w.Ends).Peer=A (3-n) from hI]
  ·intro s' w' p h' hI hc hm f
   exact rM_ hc f
  ·have:=yv_ hev (cr_ s.2 ⟨3-n,dk_ ⟨1,n,A n,A (3-n),0,0,0,false,noB⟩ s.1.Key s.1.Width⟩) (h.core.ve hn).2.2.2.1.1
   omega
theorem zr_ (hev:1≤ev∧ev≤10) {s:ab_×List DKey} (h:mM_ S A Gi s):Kn A 1 (aE_ ev (3+12*ev.toNat) s).1∧Kn A 2 (aE_ ev (3+12*ev.toNat) s).1:=by
  rw [show 3+12*ev.toNat=3+(6*ev.toNat+6*ev.toNat) by omega,dN_,dN_]
  obtain ⟨r1,r2⟩:=bS_ (ev:=ev) 3 h
  have d:=Fx_ (ev:=ev) s h
  generalize aE_ ev 3 s=s3 at*
  obtain ⟨u1,u2⟩:=bS_ (ev:=ev) (6*ev.toNat) r1
  have both:Kn A 1 (aE_ ev (6*ev.toNat) s3).1∨Kn A 2 (aE_ ev (6*ev.toNat) s3).1:=by
    by_cases k1:Kn A 1 s3.1
    ·exact .inl (aO_ (bN_ (by omega)) r1 k1 _)
    by_cases k2:Kn A 2 s3.1
    ·exact .inr (aO_ (bN_ (by omega)) r1 k2 _)
    rcases d with g | g
    ·exact absurd g k1
    ·exact Dg_ hev r1 k1 k2 g
  rcases both with g | g
  ·have:=BD_ hev (n:=1) (by omega) u1 g
   exact this
  ·have:=BD_ hev (n:=2) (by omega) u1 g
   exact ⟨this.2,this.1⟩
structure CT_ (S:Nat) (A:Int→Int) (Gi:List aa_) (w:ab_):Prop where
  core:gC_ S A Gi w
  kn:Kn A 1 w∧Kn A 2 w
  items:(af_ 1 w.Ends).Send.Items=[]∧(af_ 2 w.Ends).Send.Items=[]
  ready:(af_ 1 w.Ends).Take.Ready=[]∧(af_ 2 w.Ends).Take.Ready=[]
theorem lZ_ {w:ab_} (h:gC_ S A Gi w) {n:Int} (hn:1≤n∧n≤2) (h1:Kn A n w) (h2:Em A (3-n) w):(af_ n w.Ends).Take.Held=[]∧(af_ n w.Ends).Take.Open=noB∧ax_ Gi ⟨3-n,A (3-n),A n⟩=ax_ w.Taken ⟨3-n,A (3-n),A n⟩++(af_ n w.Ends).Take.Ready:=by
  have hm:1≤3-n∧3-n≤2:=by omega
  obtain ⟨i1,i2⟩:=x0_ h.toCore0 hm h2.1
  rw [h2.2,eC_] at i1
  have p1:=(AE_ h.toCore0 hm h2.1 (by rw [eC_];exact h1)).1
  rw [eC_] at p1
  have tk:=xg_ h.toCore0 hn h1
  have hN:=tk.N
  have hb0:=(h.ve hm).2.2.2.2.1.2.1.1
  simp only [List.length_nil,Nat.add_zero] at i1
  have hnext:(af_ n w.Ends).Take.Next=(ha_ Gi (3-n) (A (3-n)) (A n)).length:=by omega
  have hJ:=tk.J
  rw [List.take_of_length_le (by omega),pw_ (by rw [←h.G];exact h.V.2.2.2.2.2.2.1)] at hJ
  simp only [Prod.mk.injEq] at hJ
  refine ⟨?_,hJ.2.1.symm,hJ.1⟩
  cases hh:(af_ n w.Ends).Take.Held with
  | nil=>rfl
  | cons x t=>
    obtain ⟨m1,m2⟩:=tk.M x (by rw [hh];simp)
    have:=Ag_ m1 m2
    have hw:=tk.V.2.2.2.2.2.1
    rw [hh] at hw
    have:=hw.1.1
    omega
theorem vT_ (d:Nat) (s:ab_×List DKey):aE_ ev (d+1) s=aB_ ev (aE_ ev d s):=by rw [dN_];rfl
theorem Ah_ {s:ab_×List DKey} (h:mM_ S A Gi s) (h1:Em A 1 s.1) (h2:Em A 2 s.1):CT_ S A Gi (aB_ ev s).1:=by
  obtain ⟨a1,a2,a3⟩:=h2_ h.core h.fl
  obtain ⟨b1,b2,b3⟩:=eI_ (ev:=ev) (aI_ s.1).Flight s.2 a1 a3
  obtain ⟨c1,c2,c3⟩:=cF_ (n:=1) (by omega) 4 b1
  obtain ⟨d1,d2,d3⟩:=cF_ (n:=2) (by omega) 4 c1
  have e1:=l3_ (S:=S) (A:=A) (Gi:=Gi) (n:=1) (by omega)
  have e2:=l3_ (S:=S) (A:=A) (Gi:=Gi) (n:=2) (by omega)
  have f1:=e1 _ _ h.core b1 (a2.trans b2) h1
  have f2:=e2 _ _ h.core b1 (a2.trans b2) h2
  have g1:=e1 _ _ b1 c1 c2 f1
  have g2:=e2 _ _ b1 c1 c2 f2
  have k1:=e1 _ _ c1 d1 d2 g1
  have k2:=e2 _ _ c1 d1 d2 g2
  have p1:=lj_ (S:=S) (A:=A) (Gi:=Gi) (m:=1) (by omega) 4 b1
  have p2:=lj_ (S:=S) (A:=A) (Gi:=Gi) (m:=2) (by omega) 4 c1
  have ef:af_ 1 (aS_ 2 4 (aS_ 1 4 (a8_ ev (aI_ s.1).Flight s.2 (be_ (aI_ s.1) [])).1)).Ends=af_ 1 (aS_ 1 4 (a8_ ev (aI_ s.1).Flight s.2 (be_ (aI_ s.1) [])).1).Ends:=
    kM_ (m:=2) (j:=1) (by omega) (by omega) (by omega) 4 c1
  have h1':=(lZ_ b1 (n:=1) (by omega) f1.1 f2).1
  have h2':=(lZ_ c1 (n:=2) (by omega) g2.1 g1).1
  have r1:=(b1.ve (n:=1) (by omega)).2.2.2.2.2.1.2.2.2.1
  have r2:=(c1.ve (n:=2) (by omega)).2.2.2.2.2.1.2.2.2.1
  unfold aB_
  refine ⟨d1,⟨k1.1,k2.1⟩,⟨k1.2,k2.2⟩, ?_, ?_⟩
  ·dsimp only
   rw [ef]
   rcases p1 with g | g
   ·exact g
   ·unfold Phi at g
    rw [h1'] at g
    simp only [List.length_nil] at g
    exact List.length_eq_zero_iff.mp (by omega)
  ·dsimp only
   rcases p2 with g | g
   ·exact g
   ·unfold Phi at g
    rw [h2'] at g
    simp only [List.length_nil] at g
    exact List.length_eq_zero_iff.mp (by omega)
end
end Km.X
namespace Km.X
open Go Km
set_option linter.unusedVariables false
set_option linter.unusedSimpArgs false
section
variable {S:Nat} {A:Int→Int} {Gi:List aa_} {ev:Int}
def Lv (A:Int→Int) (w:ab_):Prop:=∀n,1≤n∧n≤2→(af_ n w.Ends).Up=true∧(af_ n w.Ends).Life=A n
theorem Di_ {l:List am_} (hl:iO_ l) (h:∀n,1≤n∧n≤2→(af_ n l).Up=true∧(af_ n l).Life=A n) {n:Int} (hn:1≤n∧n≤2) {x:am_} (hx:x.Up=(af_ n l).Up∧x.Life=(af_ n l).Life):∀m,1≤m∧m≤2→(af_ m (dl_ n x l)).Up=true∧(af_ m (dl_ n x l)).Life=A m:=fun m hm=>by
  rw [bG_ hl hn hm]
  split
  ·rename_i e;rw [e,hx.1,hx.2];exact h n hn
  ·exact h m hm
theorem A6_ {w:ab_} (hV:au_ w) (h:Lv A w) {p:ad_} (hp:vj_ p):Lv A (aV_ w p):=by
  unfold aV_
  split
  ·have:=q7_ (by_ hV.2.2.2.2.1 hp.1).1 (h4_ p.Bytes w.Key w.Width).1
   exact Di_ hV.2.2.2.2.1 h hp.1 ⟨this.2,this.1⟩
  ·exact h
theorem CF_ {w:ab_} (hV:au_ w) (h:Lv A w) {n:Int} (hn:1≤n∧n≤2):Lv A (dU_ w n):=by
  unfold dU_
  split
  ·rename_i hc
   have:=(fL_ hc.2).1
   exact Di_ hV.2.2.2.2.1 h hn (by rw [this];exact ⟨rfl,rfl⟩)
  ·exact h
theorem kH_:∀(t:List ad_) (k:List DKey) (w:ab_),(a8_ ev t k w).1.Forged=noB→w.Forged=noB
  | [],k,w,h=>h
  | p::t,k,w,h=>by
    simp only [a8_] at h
    have:=kH_ t _ _ h
    split at this
    ·exact (jB_ this).1
    ·exact this
theorem ga_ (n:Int):∀(d:Nat) (w:ab_),(aS_ n d w).Forged=w.Forged
  | 0,w=>rfl
  | d+1,w=>by
    simp only [aS_]
    split
    ·rfl
    ·rw [ga_ n d,o3_]
theorem uk_ {s:ab_×List DKey} (h:(aB_ ev s).1.Forged=noB):s.1.Forged=noB:=by
  unfold aB_ at h
  dsimp only at h
  rw [ga_,ga_] at h
  have:=kH_ _ _ _ h
  exact this
theorem lp_:∀(d:Nat) {s:ab_×List DKey},(aE_ ev d s).1.Forged=noB→s.1.Forged=noB
  | 0,s,h=>h
  | d+1,s,h=>uk_ (lp_ d (s:=aB_ ev s) h)
theorem mu_ (t0:List ad_) (h1:t0.length≤1000) (h2:ib_ t0):∀(t:List ad_) (k:List DKey) (w:ab_),(∀p∈t,p∈t0)→au_ w→WInv (be_ w t0)→Lv A w→(a8_ ev t k w).1.Forged=noB→
    au_ (a8_ ev t k w).1∧WInv (be_ (a8_ ev t k w).1 t0)∧Lv A (a8_ ev t k w).1∧(a8_ ev t k w).1.Given=w.Given∧(a8_ ev t k w).1.Taken=w.Taken
  | [],k,w,ht,hV,hI,hL,hf=>⟨hV,hI,hL,rfl,rfl⟩
  | p::t,k,w,ht,hV,hI,hL,hf=>by
    simp only [a8_] at hf⊢
    have hp:=ht p (List.mem_cons_self ..)
    have ht':∀p∈t,p∈t0:=fun p' h'=>ht p' (List.mem_cons_of_mem _ h')
    split
    ·rename_i hc
     rw [if_pos hc] at hf
     have hfb:=kH_ _ _ _ hf
     have hb:WInv (be_ (aV_ w p) t0):=by
       rw [←ii_]
       refine uy_ (gS_ hV h1 h2) hI (h2 p hp) (hI.fl p hp) ?_
       rw [ii_];exact hfb
     obtain ⟨a,b,c,d,e⟩:=mu_ t0 h1 h2 t _ (aV_ w p) ht' (lm_ hV (h2 p hp).1) hb (A6_ hV hL (h2 p hp)) hf
     refine ⟨a,b,c,d.trans (pn_ w p),e.trans ?_⟩
     unfold aV_;split<;>rfl
    ·rename_i hc
     rw [if_neg hc] at hf
     exact mu_ t0 h1 h2 t _ w ht' hV hI hL hf
theorem kx_ {n:Int} (hn:1≤n∧n≤2):∀(d:Nat) (w:ab_),au_ w→WInv w→Lv A w→au_ (aS_ n d w)∧WInv (aS_ n d w)∧Lv A (aS_ n d w)∧(aS_ n d w).Taken.length≤w.Taken.length+d
  | 0,w,hV,hI,hL=>⟨hV,hI,hL,Nat.le_refl _⟩
  | d+1,w,hV,hI,hL=>by
    simp only [aS_]
    split
    ·exact ⟨hV,hI,hL,by omega⟩
    ·obtain ⟨a,b,c,e⟩:=kx_ hn d (dU_ w n) (mf_ hV hn) (wB_ hV hI hn) (CF_ hV hL hn)
     refine ⟨a,b,c, ?_⟩
     have:(dU_ w n).Taken.length≤w.Taken.length+1:=by unfold dU_;split<;>simp
     omega
theorem DQ_ {w:ab_} {k:List DKey} (hV:au_ w) (hI:WInv w) (hL:Lv A w) (hf:(aB_ ev (w,k)).1.Forged=noB):Core0 A w.Given (aB_ ev (w,k)).1∧(aB_ ev (w,k)).1.Taken.length≤w.Taken.length+8:=by
  have hfl:(a8_ ev (aI_ w).Flight k (be_ (aI_ w) [])).1.Forged=noB:=by
    unfold aB_ at hf
    dsimp only at hf
    rwa [ga_,ga_] at hf
  have tV:=ik_ hV
  have tI:=wv_ hV hI
  have tL:Lv A (aI_ w):=fun n hn=>by
    rw [il_ w hn]
    have:=qQ_ (by_ hV.2.2.2.2.1 hn).1
    rw [this.1,this.2];exact hL n hn
  obtain ⟨a1,a2,a3,a4,a5⟩:=mu_ (A:=A) (ev:=ev) (aI_ w).Flight tV.2.2.1 tV.2.2.2.2.2.1 (aI_ w).Flight k (be_ (aI_ w) []) (fun _ h=>h) (pK_ tV) tI tL hfl
  have b0:WInv (a8_ ev (aI_ w).Flight k (be_ (aI_ w) [])).1:=by
    refine ⟨a2.two,fun p hp=> ?_⟩
    rw [lW_] at hp
    cases hp
  obtain ⟨b1,b2,b3,b4⟩:=kx_ (A:=A) (n:=1) (by omega) 4 _ a1 b0 a3
  obtain ⟨c1,c2,c3,c4⟩:=kx_ (A:=A) (n:=2) (by omega) 4 _ b1 b2 b3
  have hg:(aB_ ev (w,k)).1.Given=w.Given:=uD_ ev (w,k)
  have core0:Core0 A w.Given (aB_ ev (w,k)).1:=⟨c1,c2.two,hf,hg,c3⟩
  refine ⟨core0, ?_⟩
  unfold aB_
  dsimp only
  have:(a8_ ev (aI_ w).Flight k (be_ (aI_ w) [])).1.Taken=w.Taken:=a5
  rw [this] at b4
  omega
def LenLe (w w':ab_):Prop:=∀n,1≤n∧n≤2→(af_ n w'.Ends).Send.Items.length≤(af_ n w.Ends).Send.Items.length
theorem LenLe.trans {w x y:ab_} (h:LenLe w x) (g:LenLe x y):LenLe w y:=fun n hn=>Nat.le_trans (g n hn) (h n hn)
end
end Km.X
namespace Km.X
open Go Km
set_option linter.unusedVariables false
set_option linter.unusedSimpArgs false
section
variable {S:Nat} {A:Int→Int} {Gi:List aa_}
theorem zw_ {w:ab_} (h:CT_ S A Gi w):decide (x6_ w)=true:=by
  have e1:=(lZ_ h.core (n:=1) (by omega) h.kn.1 ⟨h.kn.2,h.items.2⟩)
  have e2:=(lZ_ h.core (n:=2) (by omega) h.kn.2 ⟨h.kn.1,h.items.1⟩)
  have u1:=h.core.up 1 (by omega)
  have u2:=h.core.up 2 (by omega)
  have k1:(af_ 1 w.Ends).Peer=A 2:=h.kn.1
  have k2:(af_ 2 w.Ends).Peer=A 1:=h.kn.2
  have i1:=h.items
  have r1:=h.ready
  refine decide_eq_true ⟨h.core.V, ?_⟩
  obtain ⟨a,b,hab,_⟩:=ej_ h.core.V.2.2.2.2.1
  rw [hab] at e1 e2 u1 u2 k1 k2 i1 r1⊢
  have ea:af_ 1 [a,b]=a:=rfl
  have eb:af_ 2 [a,b]=b:=rfl
  rw [ea] at e1 u1 k1 i1 r1
  rw [eb] at e2 u2 k2 i1 r1
  exact ⟨⟨u1.1,by rw [k1,u2.2],by rw [i1.1];rfl,by rw [e1.1];rfl,e1.2.1,by rw [r1.1];rfl⟩,⟨u2.1,by rw [k2,u1.2],by rw [i1.2];rfl,by rw [e2.1];rfl,e2.2.1,by rw [r1.2];rfl⟩⟩
theorem tX_ {w:ab_} (h:CT_ S A Gi w) {n:Int} (hn:1≤n∧n≤2):ax_ w.Given ⟨n,A n,A (3-n)⟩=ax_ w.Taken ⟨n,A n,A (3-n)⟩:=by
  have:n=1∨n=2:=by omega
  rw [h.core.G]
  rcases this with rfl | rfl
  ·have:=(lZ_ h.core (n:=2) (by omega) h.kn.2 ⟨h.kn.1,h.items.1⟩).2.2
   rw [h.ready.2,List.append_nil] at this
   exact this
  ·have:=(lZ_ h.core (n:=1) (by omega) h.kn.1 ⟨h.kn.2,h.items.2⟩).2.2
   rw [h.ready.1,List.append_nil] at this
   exact this
theorem AV_ {w:ab_} (h:CT_ S A Gi w) (hfl:w.Flight=[]):WInv w:=⟨h.core.D,fun p hp=>by rw [hfl] at hp;cases hp⟩
end
end Km.X
