/- A part of the proof of FnTop: an abstract machine over the program, sound by its theorems. There is no condition. -/
import Derived.Test.YtgffmpjadffjkaaGreatKmAm1
import Derived.Laws.StructEq
import Derived.Laws.IdiomStrings
import Derived.WideKeyRuns
import Derived.MapKept
namespace Km
open Go
set_option linter.unusedVariables false
set_option linter.unusedSimpArgs false
variable {κ:Type} {Ty:κ→Type} {R:Type}
section
variable {P:Program} {C:Cod κ Ty} {T:TypeId→Option (TI κ Ty)}
variable {Mut:Nat→Prop} {Lent:Org κ Ty} {w0 w w':World} {ρ ρ':Nat→Loc} {env:Env κ Ty} {objs objs':ap_ κ Ty} {a:Act} {tm:Array Value}
theorem pd_ (HT:TOk P C T) {d m:Nat} {xs ys:List (AV κ Ty)} {us qs:List Value} (hx:Cells C w Mut ρ objs xs us) (hy:Cells C w Mut ρ objs ys qs)
    (hE:∀(t:TypeId) (x y:AV κ Ty) (u q:Value) (b:Bool),aeq T d t x y=some b→VRel C w Mut ρ objs x u→VRel C w Mut ρ objs y q→(Op.equalIn (d+m) t u q).run P w= .ok b w):
    ∀ (fs : List Field) (b : Bool), (∀ f ∈ fs, f.name ≠ "_") → zd_ T (aeq T d) (fs.map fun f => (f.offset, f.type)) xs ys = some b → (Op.eqFields (d + m) us.toArray qs.toArray fs).run P w = .ok b w
  | [],b,_,h=>by cases h;rfl
  | f::fs,b,hn,h=>by
    simp only [List.map_cons,zd_] at h
    split at h
    ·rename_i ti ht
     split at h
     ·rename_i p q hp hq
      split at h
      ·rename_i r hr
       split at h
       ·rename_i r' hr'
        cases h
        obtain ⟨u,u1,u2⟩:=j3_ (P:=P) HT ht hx hp
        obtain ⟨v,v1,v2⟩:=j3_ (P:=P) HT ht hy hq
        have he:=hE _ _ _ _ _ _ hr u2 v2
        have hrest:=pd_ HT hx hy hE fs r' (fun g hg=>hn g (List.mem_cons_of_mem _ hg)) hr'
        simp only [Op.eqFields]
        rw [if_pos (hn f (List.mem_cons_self ..))]
        simp only [Sem.run_bind,u1,v1,he,Result.andThen_ok]
        cases r
        ·simp
        ·simpa using hrest
       ·cases h
      ·cases h
     ·cases h
    ·cases h
theorem pV_ (HT:TOk P C T):∀(d m:Nat) (t:TypeId) (x y:AV κ Ty) (u q:Value) (b:Bool),aeq T d t x y=some b→VRel C w Mut ρ objs x u→VRel C w Mut ρ objs y q→(Op.equalIn (d+m) t u q).run P w= .ok b w
  | 0,m,t,x,y,u,q,b,h,_,_=>by cases h
  | d+1,m,t,x,y,u,q,b,h,hx,hy=>by
    rw [show d+1+m=d+m+1 by omega]
    unfold aeq at h
    split at h
    ·cases h
    ·rename_i ti ht
     split at h
     ·rename_i k0 hs
      split at h
      ·split at h
       ·rename_i k p k' q' hk
        have hk:=of_decide_eq_true hk
        subst hk
        obtain ⟨rfl,_⟩:=aR_ hx
        obtain ⟨rfl,_⟩:=aR_ hy
        cases h
        exact run_equalIn_int w _ t _ _ _ _ (HT.int t ti _ ht hs)
       ·cases h
      ·cases h
     ·rename_i hs
      split at h
      ·obtain ⟨rfl,_⟩:=aR_ hx
       obtain ⟨rfl,_⟩:=aR_ hy
       cases h
       exact Ae_ (HT.bool t ti ht hs) _ _ _
      ·cases h
     ·rename_i hs
      split at h
      ·obtain ⟨rfl,_⟩:=aR_ hx
       obtain ⟨rfl,_⟩:=aR_ hy
       cases h
       exact run_equalIn_string w _ t _ _ (HT.str t ti ht hs)
      ·cases h
     ·rename_i fs hs
      split at h
      ·rename_i xs ys
       obtain ⟨fields,hu,hfs,_⟩:=HT.struct t ti fs ht hs
       obtain ⟨hst,_,hnm⟩:=HT.seq t ti fs ht hs
       have hxc:=fV_ (C:=C) (w:=w) (Mut:=Mut) (ρ:=ρ) (objs:=objs) (x:= .agg xs) rfl hx
       have hyc:=fV_ (C:=C) (w:=w) (Mut:=Mut) (ρ:=ρ) (objs:=objs) (x:= .agg ys) rfl hy
       have hfd:P.fieldsOf t=fields:=by simp [Program.fieldsOf,hu]
       cases hx with
       | agg l1 c1 r1=>
         cases hy with
         | agg l2 c2 r2=>
           rename_i us qs
           rw [run_equalIn_struct w _ t _ _ (by rw [hfd];exact hu) hst,hfd]
           refine pd_ HT ⟨l1,c1,r1⟩ ⟨l2,c2,r2⟩ (fun t x y u q b h1 h2 h3=>pV_ HT d m t x y u q b h1 h2 h3) fields.toList b (fun f hf=>hnm fields hu f hf) (by rw [hfs];exact h)
      ·cases h
     ·cases h
theorem yG_ (HT:TOk P C T) {t:TypeId} {ti:TI κ Ty} (ht:T t=some ti) (ha:ti.agg=true) {x y:AV κ Ty} {u q:Value} (ox oy:Operand) (hx:VRel C w Mut ρ objs x u) (hy:VRel C w Mut ρ objs y q) {b:Bool} (h:aeq T 8 t x y=some b):
    (do eqGuard .eql t ox oy u q;binOp .eql t u q:Sem Value).run P w= .ok (.bool b) w∧(do eqGuard .neq t ox oy u q;binOp .neq t u q:Sem Value).run P w= .ok (.bool (!b)) w:=by
  have he:=pV_ (P:=P) HT 8 9992 t x y u q b h hx hy
  have hs:∃fs,ti.shp= .struct fs:=by
    unfold aeq at h
    rw [ht] at h
    simp only [TI.agg] at ha
    split at ha<;>rename_i hs
    ·exact ⟨_,hs⟩
    ·dsimp only at h;rw [hs] at h;cases h
    ·cases ha
  obtain ⟨fs,hs⟩:=hs
  obtain ⟨_,hg,_⟩:=HT.seq t ti fs ht hs
  have hxa:(∃xs,x= .agg xs)∧∃ys,y= .agg ys:=by
    unfold aeq at h
    rw [ht] at h;dsimp only at h
    rw [hs] at h;dsimp only at h
    split at h
    ·exact ⟨⟨_,rfl⟩,_,rfl⟩
    ·cases h
  obtain ⟨⟨xs,rfl⟩,ys,rfl⟩:=hxa
  cases hx with
  | agg l1 c1 r1=>
    cases hy with
    | agg l2 c2 r2=>
      rename_i us qs
      constructor
      ·rw [Sem.run_bind,run_eqGuard_agg (P:=P) w _ t ox oy _ _ hg,Result.andThen_ok,run_eql_struct]
       rw [show (10000:Nat)=8+9992 from rfl,he];rfl
      ·rw [Sem.run_bind,run_eqGuard_agg (P:=P) w _ t ox oy _ _ hg,Result.andThen_ok,run_neq_struct]
       rw [show (10000:Nat)=8+9992 from rfl,he];rfl
theorem SRel.newSlF (S:SRel C Mut Lent w0 ρ env objs tm w) {t:κ} {xs:List (Ty t)} {cap:Nat} {us:Array Value} (e:TypeId) {f1 f2:Nat} (hf:cap*C.sz t≤f1) (hr:w0_ C w Mut ρ objs t xs cap (fun q=>us[q]?)):
    SRel C Mut Lent w0 (upd ρ objs.length ⟨w.heap.size,0,cap,noSub⟩) env (objs++[.sl t xs]) tm (w.alloc (.cells us e (f1,f2))):=by
  refine (S.fresh (o:= .sl t xs) (l:=⟨w.heap.size,0,cap,noSub⟩) (w':=w.alloc (.cells us e (f1,f2))) (fun b h=>bB_ w _ h) (by simp) (Nat.le_refl _) (fun W=> ?_) rfl rfl rfl).2
  have hnew:(w.alloc (.cells us e (f1,f2))).heap[w.heap.size]? =some (.cells us e (f1,f2)):=by
    show (w.heap.push (.cells us e (f1,f2)))[w.heap.size]? =_
    simp
  have hcell:∀q,(w.alloc (.cells us e (f1,f2))).cell? (at' w.heap.size q)=us[q]? :=fun q=>by
    simp only [World.cell?,at',hnew];rfl
  unfold ORel
  rw [bi_,aH_]
  refine ⟨hr.le,fun _=>by simp,fun i x j cl hx hj=> ?_,fun q hq=> ?_⟩
  ·obtain ⟨v,h1,h2⟩:=hr.row i x j cl hx hj
   exact ⟨v,by simp only [Nat.zero_add];rw [hcell];exact h1,h2.step W (by simp) (fP_ _ _)⟩
  ·obtain ⟨v,h1,h2⟩:=hr.room q hq
   refine ⟨v,by simp only [Nat.zero_add];rw [hcell];exact h1,h2, ?_⟩
   simp only [World.frozen?,at',hnew,Nat.zero_add]
   have hq':q<cap*C.sz t:=hq
   simp;omega
theorem q9_ (HT:TOk P C T) (HC:a4_ C) (S:SRel C Mut Lent w0 ρ env objs tm w) {src dst e:TypeId} {ti td te:TI κ Ty} {s:κ} (h1:T src=some ti) (hs1:ti.shp= .str) (h2:T dst=some td) (hs2:td.shp= .slice e s)
    (h3:T e=some te) (hs3:te.shp= .int .u8) {b:ByteArray} {ys:List (Ty s)} (hb:C.ofb s b=some ys):
    ∃u' w' ρ',(convert src dst (.string b)).run P w= .ok u' w'∧SRel C Mut Lent w0 ρ' env (objs++[.sl s ys]) tm w'∧VRel C w' Mut ρ' (objs++[.sl s ys]) (.own objs.length) u':=by
  obtain ⟨hsl,ie,i1,i2,i3⟩:=HT.slice dst td e s h2 hs2
  have hu8:=HT.int e te _ h3 hs3
  have hstr:=HT.str src ti h1 hs1
  obtain ⟨hlen,hrow,hsz⟩:=HC.ofb s b ys hb
  have hrun:=run_bytes_of_string w src dst e b hstr hsl hu8
  have hcap:b.size≤grownCap w b.size 0 e:=(grownCap_ge w b.size 0 e)
  have S':=S.drew
  have hR:w0_ C w.drew Mut ρ objs s ys (grownCap w b.size 0 e) (fun q=>(bytesRow b (grownCap w b.size 0 e))[q]?):=by
    refine ⟨by rw [hlen];exact hcap,fun i x j cl hx hj=> ?_,fun q hq=> ?_⟩
    ·obtain ⟨c,c1,c2⟩:=hrow i x hx
     have hjl:=(List.getElem?_eq_some_iff.mp hj).1
     rw [HC.len,hsz] at hjl
     obtain rfl:j=0:=by omega
     rw [c2] at hj;cases hj
     refine ⟨_, ?_, .lit rfl⟩
     have hlt:=(Array.getElem?_eq_some_iff.mp c1).1
     simp only [bytesRow,hsz,Nat.mul_one,Nat.add_zero]
     rw [Array.getElem?_append_left (by simpa using hlt),Array.getElem?_map,c1];rfl
    ·rw [hsz,Nat.mul_one] at hq
     have hsize:(bytesRow b (grownCap w b.size 0 e)).size=grownCap w b.size 0 e:=by
       simp only [bytesRow,Array.size_append,Array.size_map,Array.size_replicate]
       show b.size+_=_
       omega
     refine ⟨(bytesRow b (grownCap w b.size 0 e))[q]'(by omega),Array.getElem?_eq_getElem _, ?_⟩
     have:∀v∈bytesRow b (grownCap w b.size 0 e),aW_ v=true:=fun v hv=>by
       simp only [bytesRow,Array.mem_append,Array.mem_map,Array.mem_replicate] at hv
       rcases hv with ⟨c,_,rfl⟩ | ⟨_,rfl⟩<;>rfl
     exact this _ (Array.getElem_mem _)
  have hsize:(bytesRow b (grownCap w b.size 0 e)).size=grownCap w b.size 0 e:=by
    simp only [bytesRow,Array.size_append,Array.size_map,Array.size_replicate]
    show b.size+_=_
    omega
  refine ⟨_,_,_,hrun,S'.newSlF e (by rw [hsz,hsize];omega) hR, ?_⟩
  have:=VRel.own (C:=C) (w:=w.drew.alloc (.cells (bytesRow b (grownCap w b.size 0 e)) e ((bytesRow b (grownCap w b.size 0 e)).size,(bytesRow b (grownCap w b.size 0 e)).size+1))) (Mut:=Mut) (ρ:=upd ρ objs.length ⟨w.heap.size,0,grownCap w b.size 0 e,noSub⟩) (bi_ objs (.sl s ys)) (A:=some (at' w.heap.size 0)) (fun _=>by rw [aH_])
  rw [aH_,hlen] at this
  exact this
theorem sa_ (HT:TOk P C T) (HC:a4_ C) (S:SRel C Mut Lent w0 ρ env objs tm w) {t:TypeId} {ti:TI κ Ty} (ht:T t=some ti) {x:AV κ Ty} {u:Value} {k k':IntKind} {h m:Int} (hx:VRel C w Mut ρ objs x u)
    {K:AV κ Ty→Option R} {r:R} (hr:in_ C objs ti.shp x h m K=some r):∃v u',K v=some r∧(Instr.sliceAt t u none (some (.int k h)) (some (.int k' m))).run P w= .ok u' w∧VRel C w Mut ρ objs v u':=by
  unfold in_ at hr
  split at hr
  ·rename_i e s hs
   split at hr
   ·rename_i id
    split at hr
    ·rename_i t' xs hsl
     split at hr
     ·rename_i hsame
      have hst:=HC.same _ _ hsame
      subst hst
      obtain ⟨p,hp,hr⟩:=bind_some hr
      split at hp
      ·rename_i e0
       subst e0
       unfold wnd at hp
       split at hp
       ·rename_i hw
        cases hp
        obtain ⟨u1,ie,i1,i2,i3⟩:=HT.slice t ti e s ht hs
        have hsl':=bx_ hsl
        have ho:=S.ob id
        simp only [ORel,hsl'] at ho
        cases hx with
        | own h1 hA=>
          rw [hsl'] at h1;cases h1
          rename_i A
          refine ⟨_, .slice (if h.toNat=0 then A else A.map (·.add (0*C.sz s))) (h.toNat-0) (h.toNat-0),hr, ?_, .sub hsl' (by omega) (by omega) (Nat.le_refl _) (by have:=ho.1;simp;omega) (fun hc=> ?_)⟩
          ·have hb1:(Instr.sliceBound (.int k' h) (ρ id).cap .slice3Acap).run P w= .ok h.toNat w:=by
             simp only [Instr.sliceBound,asIntOf,Sem.run_bind,Sem.run_pure,Result.andThen_ok]
             rw [if_pos ⟨by omega,by have:=ho.1;omega⟩];rfl
           have hb2:(Instr.sliceBound (.int k h) h.toNat .slice3B).run P w= .ok h.toNat w:=by
             simp only [Instr.sliceBound,asIntOf,Sem.run_bind,Sem.run_pure,Result.andThen_ok]
             rw [if_pos ⟨by omega,by omega⟩];rfl
           simp only [Instr.sliceAt,Instr.sureAddr,Sem.run_bind,Sem.run_pure,Result.andThen_ok,Instr.slice,run_underlying u1,Instr.sliceBounds,if_true,hb1,hb2,ig_ i1,i2]
          ·have hne:h.toNat≠0:=by omega
           have hc':(ρ id).cap≠0:=by have:=ho.1;omega
           rw [if_neg hne,hA hc']
           simp [g3_]
        | ownd hcl hin h1=>rw [h1] at hsl;cases hsl
       ·cases hp
      ·cases hp
     ·cases hr
    ·cases hr
   ·cases hr
  ·cases hr
theorem SRel.storeRows (HC:a4_ C) (S:SRel C Mut Lent w0 ρ env objs tm w) {id p:Nat} {t:κ} {xs zs:List (Ty t)} {us:List Value} (hid:objs[id]? =some (.sl t xs)) (hne:zs≠[]) (hp:p+zs.length≤xs.length) (hus:us.length=zs.length*C.sz t)
    (hisc:∀(q:Nat) (v:Value),us[q]? =some v→aW_ v=true) (hrel:∀i z j cl,zs[i]? =some z→(C.enc t z)[j]? =some cl→∃v,us[i*C.sz t+j]? =some v∧VRel C w Mut ρ objs cl v):
    SRel C Mut Lent w0 ρ env (objs.set id (.sl t (xs.take p++(zs++xs.drop (p+zs.length))))) tm (w.setCells (ρ id).block ((ρ id).off+p*C.sz t) us):=by
  have hlt:=(List.getElem?_eq_some_iff.mp hid).1
  have hzl:=List.length_pos_iff.mpr hne
  have ho:=S.ob id
  simp only [ORel,hid] at ho
  obtain ⟨ho1,ho2,ho3,ho4⟩:=ho
  have hcap:(ρ id).cap≠0:=by omega
  have hfoot:aq_ ρ objs id (ρ id).block:=cj_ hid hcap
  generalize hxs':xs.take p++(zs++xs.drop (p+zs.length))=xs'
  have hlen':xs'.length=xs.length:=by subst hxs';simp;omega
  have hget:∀i,xs'[i]? =if p≤i∧i<p+zs.length then zs[i-p]? else xs[i]? :=fun i=>by
    subst hxs'
    by_cases h1:i<p
    ·rw [List.getElem?_append_left (by simp;omega),List.getElem?_take_of_lt h1,if_neg (by omega)]
    ·rw [List.getElem?_append_right (by simp;omega)]
     have e:i-(xs.take p).length=i-p:=by simp;omega
     rw [e]
     by_cases h2:i<p+zs.length
     ·rw [List.getElem?_append_left (by omega),if_pos (by omega)]
     ·rw [List.getElem?_append_right (by omega),List.getElem?_drop,if_neg (by omega)]
      congr 1;omega
  have hset:(objs.set id (AObj.sl t xs'))[id]? =some (.sl t xs'):=by simp [hlt]
  have hnek:∀k,k≠id→(objs.set id (AObj.sl t xs'))[k]? =objs[k]? :=fun k h=>List.getElem?_set_ne (Ne.symm h)
  have hft:∀k b,aq_ ρ (objs.set id (AObj.sl t xs')) k b→aq_ ρ objs k b:=fun k b h=>by
    by_cases e:k=id
    ·subst e;unfold aq_ at h⊢;rw [hset] at h;rw [hid];exact h
    ·unfold aq_ at h⊢;rw [hnek k e] at h;exact h
  have hpz:(p+zs.length)*C.sz t≤(ρ id).cap*C.sz t:=Nat.mul_le_mul_right _ (by omega)
  rw [Nat.add_mul] at hpz
  have hroom:∀k,k<us.length→∃u,w.cell? (at' (ρ id).block ((ρ id).off+p*C.sz t+k))=some u:=fun k hk=>by
    obtain ⟨v,a1,_⟩:=ho4 (p*C.sz t+k) (by omega)
    exact ⟨v,by rw [←a1];congr 2;omega⟩
  have hcell:=fun q=>gy_ (w:=w) (b:=(ρ id).block) (o:=(ρ id).off+p*C.sz t) (vs:=us) (q:=q) hroom
  have W:WStep w (w.setCells (ρ id).block ((ρ id).off+p*C.sz t) us) (aV_ ρ objs) (aV_ ρ (objs.set id (AObj.sl t xs'))):=
    ⟨fun b _ hb=>bT_ _ _ _ _ _ (fun e=>hb ⟨id,e▸hfoot⟩),by rw [cl_];exact Nat.le_refl _,fun b ⟨k,hk⟩=> .inl ⟨k,hft k b hk⟩⟩
  have hcm:∀k,Compat ρ objs ρ (objs.set id (AObj.sl t xs')) k:=fun k=>by
    by_cases e:k=id
    ·subst e;unfold Compat;rw [hid];exact .inl ⟨_,hset,hlen',rfl⟩
    ·exact Compat.of_eq (fun _=>hnek k e) (fun _=>rfl)
  obtain ⟨o1,o2,o3⟩:=g5_ (ρ id).block us ((ρ id).off+p*C.sz t) w
  refine S.step W (by simp) hcm (fun k=> ?_) (fun k j b hi hj=>S.inj k j b (hft k b hi) (hft j b hj)) o1 o2 o3
  by_cases e:k=id
  ·subst e
   unfold ORel
   rw [hset]
   refine ⟨by rw [hlen'];exact ho1,fun h=>by rw [cl_];exact ho2 h,fun i x j cl hx hj=> ?_,fun q hq=> ?_⟩
   ·have hjs:j<C.sz t:=by have:=(List.getElem?_eq_some_iff.mp hj).1;rwa [HC.len] at this
    rw [hget] at hx
    split at hx
    ·rename_i hin
     obtain ⟨v,a1,a2⟩:=hrel _ _ _ _ hx hj
     refine ⟨v, ?_,a2.step W (by simp) hcm⟩
     have hul:=(List.getElem?_eq_some_iff.mp a1).1
     have hei:i*C.sz t=p*C.sz t+(i-p)*C.sz t:=by rw [←Nat.add_mul];congr 1;omega
     rw [hcell,if_pos (by omega),←a1];congr 1;omega
    ·rename_i hin
     obtain ⟨v,a1,a2⟩:=ho3 i x j cl hx hj
     refine ⟨v, ?_,a2.step W (by simp) hcm⟩
     rw [hcell,if_neg]
     ·exact a1
     ·rintro ⟨b1,b2⟩
      rw [hus] at b2
      by_cases hip:i<p
      ·have:=kp_ (n:=p) (s:=C.sz t) hip hjs;omega
      ·have:(p+zs.length)*C.sz t≤i*C.sz t:=Nat.mul_le_mul_right _ (by omega)
       rw [Nat.add_mul] at this;omega
   ·obtain ⟨v,a1,a2,a3⟩:=ho4 q hq
    by_cases hin:(ρ k).off+p*C.sz t≤(ρ k).off+q∧(ρ k).off+q<(ρ k).off+p*C.sz t+us.length
    ·have hk:us[(ρ k).off+q-((ρ k).off+p*C.sz t)]? =some (us[(ρ k).off+q-((ρ k).off+p*C.sz t)]'(by omega)):=List.getElem?_eq_getElem _
     exact ⟨_,by rw [hcell,if_pos hin];exact hk,hisc _ _ hk,by rw [World.frozen?_setCells];exact a3⟩
    ·exact ⟨v,by rw [hcell,if_neg hin];exact a1,a2,by rw [World.frozen?_setCells];exact a3⟩
  ·exact ORel.step W (by simp) hcm (S.ob k) (hnek k e) rfl (fun b hb=>bT_ _ _ _ _ _ (fun e'=>e (S.inj k id b hb (e'▸hfoot))))
theorem qO_ {size n:Nat} {A:Option Addr} {l l' c c':Nat}:Builtin.firstCells size n (.slice A l c)=Builtin.firstCells size n (.slice A l' c'):=by cases A<;>rfl
theorem ry_ (HC:a4_ C) (S:SRel C Mut Lent w0 ρ env objs tm w) {t1 t2 e ty:TypeId} {t:κ} {ie:TypeInfo} (hu:P.underlying t1=some (.slice e)) (hi:P.info? e=some ie) (hsz:ie.size=C.sz t)
    {id lo hi' c:Nat} {xs ys:List (Ty t)} {A:Option Addr} (hid:objs[id]? =some (.sl t xs)) (hlo:lo≤hi') (hhi:hi'≤xs.length) (hA:hi'-lo≠0→A=some (at' (ρ id).block ((ρ id).off+lo*C.sz t)))
    {B:Option Addr} {cb blk off:Nat} (hB:ys≠[]→B=some (at' blk off)∧blk<w.heap.size) (hrow:∀i y j cl,ys[i]? =some y→(C.enc t y)[j]? =some cl→∃v,w.cell? (at' blk (off+i*C.sz t+j))=some v∧VRel C w Mut ρ objs cl v):
    ∃w',(Builtin.copy_ #[t1,t2] ty #[.slice A (hi'-lo) c, .slice B ys.length cb]).run P w= .ok (.int .i64 (min ys.length (hi'-lo):Nat)) w'∧SRel C Mut Lent w0 ρ env (objs.set id (.sl t (cpy xs lo hi' ys))) tm w':=by
  have hlt:=(List.getElem?_eq_some_iff.mp hid).1
  have hzl:(ys.take (hi'-lo)).length=min (hi'-lo) ys.length:=by simp
  obtain ⟨vs,v1,v2,v3,v4⟩:=gp_ (P:=P) (C:=C) (w:=w) (Mut:=Mut) (ρ:=ρ) (objs:=objs) HC (xs:=ys.take (hi'-lo)) (A:=B) (c:=cb) (blk:=blk) (off:=off) (fun hne=>hB (fun e=>hne (by rw [e];simp))) (fun i y j cl h1 h2=>hrow i y j cl (by
    have hl:=(List.getElem?_eq_some_iff.mp h1).1
    rw [List.getElem?_take_of_lt (by rw [hzl] at hl;omega)] at h1;exact h1) h2)
  have hfc:(Builtin.firstCells (C.sz t) (Nat.min ys.length (hi'-lo)) (.slice B ys.length cb)).run P w= .ok vs.toArray w:=by
    have:=v2 w (fun _=>rfl)
    rw [hzl] at this
    rw [qO_ (l':=min (hi'-lo) ys.length) (c':=cb),show Nat.min ys.length (hi'-lo)=min (hi'-lo) ys.length from Nat.min_comm _ _]
    exact this
  have hcp:∀(w':World) (cs:List Value),(∀a,A=some a→(storeCells a cs).run P w= .ok () w')→(A=none→w'=w)→vs=cs→
   (Builtin.copy_ #[t1,t2] ty #[.slice A (hi'-lo) c, .slice B ys.length cb]).run P w= .ok (.int .i64 (min ys.length (hi'-lo):Nat)) w':=fun w' cs h h0 e=>by
    subst e
    have:((min ys.length (hi'-lo):Nat):Int)=((Nat.min ys.length (hi'-lo):Nat):Int):=rfl
    rw [this]
    simp only [Builtin.copy_,Sem.run_bind,run_underlying hu,Result.andThen_ok,Builtin.lenOf,Sem.run_pure,ig_ hi,hsz]
    simp only [List.getElem?_toArray,List.getElem?_cons_zero,List.getElem?_cons_succ]
    simp only [Sem.run_bind,run_underlying hu,Result.andThen_ok,Builtin.lenOf,Sem.run_pure,ig_ hi,hsz,hfc]
    cases A with
    | none=>rw [h0 rfl];rfl
    | some a=>simp only [Sem.run_bind,h a rfl,Result.andThen_ok,Sem.run_pure];rfl
  by_cases hne:ys.take (hi'-lo)=[]
  ·
    have hvs:vs=[]:=List.length_eq_zero_iff.mp (by rw [v1,hne];simp)
    subst hvs
    have hc0:cpy xs lo hi' ys=xs:=by
      have hm:min (hi'-lo) ys.length=0:=by rw [←hzl,hne];rfl
      unfold cpy
      rw [hne,hm];simp
    refine ⟨w, ?_, ?_⟩
    ·exact hcp w [] (fun a _=>rfl) (fun _=>rfl) rfl
    ·rw [hc0]
     have:objs.set id (.sl t xs)=objs:=by
       apply List.ext_getElem?
       intro k
       by_cases hk:k=id
       ·subst hk;rw [List.getElem?_set_self hlt,hid]
       ·rw [List.getElem?_set_ne (Ne.symm hk)]
     rw [this];exact S
  ·have hpos:=List.length_pos_iff.mpr hne
   rw [hzl] at hpos
   obtain rfl:=hA (by omega)
   have hst:=S.storeRows HC (id:=id) (p:=lo) (zs:=ys.take (hi'-lo)) (us:=vs) hid hne (by rw [hzl];omega) v1 v3 v4
   have ho:=S.ob id
   simp only [ORel,hid] at ho
   have hpz:(lo+min (hi'-lo) ys.length)*C.sz t≤(ρ id).cap*C.sz t:=Nat.mul_le_mul_right _ (by have:=ho.1;omega)
   rw [Nat.add_mul] at hpz
   rw [hzl] at v1
   have hsc:=run_storeCells_cells (P:=P) (ρ id).block ((ρ id).off+lo*C.sz t) vs 0 w (fun j hj=>by
     obtain ⟨v,g1,_⟩:=ho.2.2.2 (lo*C.sz t+j) (by omega)
     simp only [Nat.add_zero];rw [show (⟨(ρ id).block,(ρ id).off+lo*C.sz t+j,none⟩:Addr)=at' (ρ id).block ((ρ id).off+(lo*C.sz t+j)) by simp [at',Nat.add_assoc],g1];rfl) (fun j hj=>by
     obtain ⟨v,_,_,g2⟩:=ho.2.2.2 (lo*C.sz t+j) (by omega)
     simp only [Nat.add_zero];rw [show (⟨(ρ id).block,(ρ id).off+lo*C.sz t+j,none⟩:Addr)=at' (ρ id).block ((ρ id).off+(lo*C.sz t+j)) by simp [at',Nat.add_assoc]];exact g2) (fun v hv=>by
     obtain ⟨q,hq⟩:=List.getElem?_of_mem hv
     exact mt_ (v3 q v hq))
   simp only [Nat.add_zero] at hsc
   refine ⟨w.setCells (ρ id).block ((ρ id).off+lo*C.sz t) vs, ?_, ?_⟩
   ·exact hcp _ vs (fun a ha=>by cases ha;exact hsc) (fun h=>by cases h) rfl
   ·have:cpy xs lo hi' ys=xs.take lo++(ys.take (hi'-lo)++xs.drop (lo+(ys.take (hi'-lo)).length)):=by unfold cpy;rw [hzl]
    rw [this];exact hst
theorem vS_ (HT:TOk P C T) (HC:a4_ C) (S:SRel C Mut Lent w0 ρ env objs a.tmps w) {t1 t2 e1 ty:TypeId} {i1:TI κ Ty} {s1:κ} (h1:T t1=some i1) (hs1:i1.shp= .slice e1 s1) {x y:AV κ Ty} {u q:Value} (hx:VRel C w Mut ρ objs x u) (hy:VRel C w Mut ρ objs y q)
    {K:AV κ Ty→ap_ κ Ty→Option R} {r:R} (h:vg_ C objs s1 x y K=some r):∃n objs' w',K (.lit (.int .i64 n)) objs'=some r∧(Builtin.copy_ #[t1,t2] ty #[u,q]).run P w= .ok (.int .i64 n) w'∧SRel C Mut Lent w0 ρ env objs' a.tmps w':=by
  obtain ⟨hu,ie,i2,i3,_⟩:=HT.slice t1 i1 e1 s1 h1 hs1
  unfold vg_ at h
  split at h
  ·cases h
  ·rename_i s ys hr
   obtain ⟨B,cb,blk,off,rfl,hcb,hB,hrow⟩:=ik_ HC S hy hr
   split at h
   ·rename_i id
    split at h
    ·rename_i t xs hsl
     split at h
     ·rename_i hsame
      have:=HC.same _ _ hsame
      subst this
      obtain ⟨e,h⟩:=jp_ HC h
      subst e
      have hsl':=bx_ hsl
      have ho:=S.ob id
      simp only [ORel,hsl'] at ho
      cases hx with
      | own g1 hA=>
        rename_i A
        rw [hsl'] at g1;cases g1
        have hA':xs.length-0≠0→A=some (at' (ρ id).block ((ρ id).off+0*C.sz s)):=fun hne=>by
          rw [Nat.zero_mul,Nat.add_zero];exact hA (by have:=ho.1;omega)
        obtain ⟨w',k1,k2⟩:=ry_ (P:=P) (ty:=ty) (t2:=t2) HC S hu i2 i3 hsl' (lo:=0) (hi':=xs.length) (c:=(ρ id).cap) (A:=A) (by omega) (Nat.le_refl _) hA' (cb:=cb) hB hrow
        rw [Nat.sub_zero] at k1
        exact ⟨_,_,w',h,k1,k2⟩
      | ownd hcl hin g1=>rw [g1] at hsl;cases hsl
     ·cases h
    ·cases h
   ·rename_i id lo hi
    split at h
    ·rename_i t xs hsl
     split at h
     ·rename_i hsame
      have:=HC.same _ _ hsame
      subst this
      obtain ⟨e,h⟩:=jp_ HC h
      subst e
      have hsl':=bx_ hsl
      cases hx with
      | sub g1 hlo hhi hc hcap hA=>
        rw [hsl'] at g1;cases g1
        obtain ⟨w',k1,k2⟩:=ry_ (P:=P) (ty:=ty) (t2:=t2) HC S hu i2 i3 hsl' hlo hhi (fun hne=>hA (by omega)) (cb:=cb) hB hrow
        exact ⟨_,_,w',h,k1,k2⟩
      | subd hcl hin g1=>rw [g1] at hsl;cases hsl
     ·cases h
    ·cases h
   ·cases h
end
end Km
namespace Km
open Go
set_option linter.unusedVariables false
set_option linter.unusedSimpArgs false
variable {κ:Type} {Ty:κ→Type} {R:Type}
section
variable {P:Program} {C:Cod κ Ty} {T:TypeId→Option (TI κ Ty)}
variable {Mut Mut2:Nat→Prop} {Lent:Org κ Ty} {w0 w w':World} {ρ ρ2:Nat→Loc} {env:Env κ Ty} {objs objs2:ap_ κ Ty} {tm:Array Value} {g:Nat→Option Nat}
def Ren (g:Nat→Option Nat) (ρ:Nat→Loc) (objs:ap_ κ Ty) (ρ2:Nat→Loc) (objs2:ap_ κ Ty):Prop:=
  ∀i j o,g i=some j→objs[i]? =some o→objs2[j]? =some (n2_ g o)∧ρ2 j=ρ i
def qG_ (fl:Bool) (Mut:Nat→Prop) (ρ:Nat→Loc) (objs:ap_ κ Ty) (Mut2:Nat→Prop) (ρ2:Nat→Loc) (objs2:ap_ κ Ty):Prop:=
  ∀b k,(b=true→fl=true)→¬Xs Mut ρ objs b k→¬Xs Mut2 ρ2 objs2 b k
theorem l7_ (HC:a4_ C) {fl:Bool} (hX:qG_ fl Mut ρ objs Mut2 ρ2 objs2) {v:AV κ Ty} {u:Value} (h:VRel C w Mut ρ objs v u):
    ((∃x,v= .lit x)∨(∃b t xs,v= .inl b t xs∧(b=true→fl=true)))→VRel C w Mut2 ρ2 objs2 v u:=by
  induction h with
  | lit h=>intro _;exact .lit h
  | @inl b t xs A c blk off vals hb hc hA hcell hrel ih=>
    rintro (⟨x,h⟩ | ⟨b',t',xs',h,hfl⟩)
    ·cases h
    ·cases h
     refine .inl (blk:=blk) (off:=off) hb hc (fun hne=> ?_) hcell (fun i x j cl hx hj=>ih i x j cl hx hj ?_)
     ·obtain ⟨a1,a2,a3⟩:=hA hne
      exact ⟨a1,a2,hX _ _ hfl a3⟩
     ·rcases HC.deep t x cl (jS_ HC hj) with ⟨q,rfl⟩ | ⟨s,ys,rfl,hs⟩
      ·exact .inl ⟨_,rfl⟩
      ·refine .inr ⟨_,_,_,rfl,fun h=> ?_⟩
       cases hbb:b with
       | true=>exact hfl hbb
       | false=>rw [hb hbb] at h;cases h
  | nil=>rintro (⟨x,h⟩ | ⟨b',t',xs',h,hfl⟩)<;>cases h
  | cadr=>rintro (⟨x,h⟩ | ⟨b',t',xs',h,hfl⟩)<;>cases h
  | ref=>rintro (⟨x,h⟩ | ⟨b',t',xs',h,hfl⟩)<;>cases h
  | refd=>rintro (⟨x,h⟩ | ⟨b',t',xs',h,hfl⟩)<;>cases h
  | eref=>rintro (⟨x,h⟩ | ⟨b',t',xs',h,hfl⟩)<;>cases h
  | erefd=>rintro (⟨x,h⟩ | ⟨b',t',xs',h,hfl⟩)<;>cases h
  | own=>rintro (⟨x,h⟩ | ⟨b',t',xs',h,hfl⟩)<;>cases h
  | ownd=>rintro (⟨x,h⟩ | ⟨b',t',xs',h,hfl⟩)<;>cases h
  | sub=>rintro (⟨x,h⟩ | ⟨b',t',xs',h,hfl⟩)<;>cases h
  | subd=>rintro (⟨x,h⟩ | ⟨b',t',xs',h,hfl⟩)<;>cases h
  | mapv=>rintro (⟨x,h⟩ | ⟨b',t',xs',h,hfl⟩)<;>cases h
  | mapd=>rintro (⟨x,h⟩ | ⟨b',t',xs',h,hfl⟩)<;>cases h
  | agg=>rintro (⟨x,h⟩ | ⟨b',t',xs',h,hfl⟩)<;>cases h
  | tup=>rintro (⟨x,h⟩ | ⟨b',t',xs',h,hfl⟩)<;>cases h
  | void=>rintro (⟨x,h⟩ | ⟨b',t',xs',h,hfl⟩)<;>cases h
  | undef=>rintro (⟨x,h⟩ | ⟨b',t',xs',h,hfl⟩)<;>cases h
theorem wk_ {o:AObj κ Ty} {t:κ} {xs:List (Ty t)} (h:o= .sl t xs):n2_ g o= .sl t xs:=by subst h;rfl
theorem Ren.lt (G:Ren g ρ objs ρ2 objs2) {i j:Nat} (h:g i=some j) (hi:i<objs.length):j<objs2.length:=
  (List.getElem?_eq_some_iff.mp (G i j _ h (List.getElem?_eq_getElem hi)).1).1
theorem Ren.box_none (G:Ren g ρ objs ρ2 objs2) {i j:Nat} (h:g i=some j) (hi:i<objs.length) (hb:fU_ objs i=none):fU_ objs2 j=none:=by
  have h1:=(G i j _ h (List.getElem?_eq_getElem hi)).1
  have h2:=mm_ hb
  rw [List.getElem?_eq_getElem hi] at h2
  unfold fU_;rw [h1]
  cases ho:objs[i] with
  | dead=>rfl
  | box cs=>exact absurd (by rw [ho]) (h2 cs)
  | sl t xs=>rfl
  | mp k v es h=>rfl
theorem Ren.sl_none (G:Ren g ρ objs ρ2 objs2) {i j:Nat} (h:g i=some j) (hi:i<objs.length) (hb:hb_ objs i=none):hb_ objs2 j=none:=by
  have h1:=(G i j _ h (List.getElem?_eq_getElem hi)).1
  have h2:=pU_ hb
  rw [List.getElem?_eq_getElem hi] at h2
  unfold hb_;rw [h1]
  cases ho:objs[i] with
  | dead=>rfl
  | box cs=>rfl
  | sl t xs=>exact absurd (by rw [ho]) (h2 t xs)
  | mp k v es h=>rfl
theorem Ren.mp_none (G:Ren g ρ objs ρ2 objs2) {i j:Nat} (h:g i=some j) (hi:i<objs.length) (hb:ti_ objs i=false):ti_ objs2 j=false:=by
  have h1:=(G i j _ h (List.getElem?_eq_getElem hi)).1
  have h2:=p6_ hb
  rw [List.getElem?_eq_getElem hi] at h2
  unfold ti_;rw [h1]
  cases ho:objs[i] with
  | dead=>rfl
  | box cs=>rfl
  | sl t xs=>rfl
  | mp k v es h=>exact absurd (by rw [ho]) (h2 k v es h)
def Ec_ (g:Nat→Option Nat) (h:Option (Nat×Option Nat)):Option (Nat×Option Nat):=match h with
  | some (i,some j)=>some (i,g j)
  | h=>h
theorem renH_ne {g:Nat→Option Nat} {h:Option (Nat×Option Nat)} {i:Nat}:(∀o,Ec_ g h≠some (i,o))↔∀o,h≠some (i,o):=by
  unfold Ec_
  split
  ·simp
  ·exact Iff.rfl
theorem zE_ (g:Nat→Option Nat) (k v:κ) (es:List (Ty k×Ty v)) (h:Option (Nat×Option Nat)):n2_ g (.mp k v es h)= .mp k v es (Ec_ g h):=rfl
theorem lW_ (HC:a4_ C) {fl:Bool} (G:Ren g ρ objs ρ2 objs2) (hX:qG_ fl Mut ρ objs Mut2 ρ2 objs2) {v:AV κ Ty} {u:Value} (hs:fl=false→AY_ v=true) (h:VRel C w Mut ρ objs v u):
    VRel C w Mut2 ρ2 objs2 (qD_ g v) u:=by
  cases h with
  | lit h=>exact .lit h
  | nil=>exact .nil
  | inl hb hc hA hcell hrel=>
    refine l7_ HC hX (.inl hb hc hA hcell hrel) (.inr ⟨_,_,_,rfl,fun h=> ?_⟩)
    cases hf:fl with
    | true=>rfl
    | false=>have:=hs hf;simp [AY_,h] at this
  | cadr=>exact .undef
  | ref h1=>
    simp only [qD_]
    split
    ·rename_i j hj
     obtain ⟨e1,e2⟩:=G _ _ _ hj h1
     rw [←e2];exact .ref e1
    ·exact .undef
  | refd hc hin h1=>
    simp only [qD_]
    split
    ·rename_i j hj;exact .refd hc (G.lt hj hin) (G.box_none hj hin h1)
    ·exact .undef
  | eref h1 hi=>
    simp only [qD_]
    split
    ·rename_i j hj
     obtain ⟨e1,e2⟩:=G _ _ _ hj h1
     rw [←e2];exact .eref (by rw [e1,wk_ rfl]) hi
    ·exact .undef
  | erefd hc hin h1=>
    simp only [qD_]
    split
    ·rename_i j hj;exact .erefd hc (G.lt hj hin) (G.sl_none hj hin h1)
    ·exact .undef
  | own h1 hA=>
    simp only [qD_]
    split
    ·rename_i j hj
     obtain ⟨e1,e2⟩:=G _ _ _ hj h1
     rw [←e2];exact .own (by rw [e1,wk_ rfl]) (by rw [e2];exact hA)
    ·exact .undef
  | ownd hc hin h1=>
    simp only [qD_]
    split
    ·rename_i j hj;exact .ownd hc (G.lt hj hin) (G.sl_none hj hin h1)
    ·exact .undef
  | sub h1 hlo hhi hc hcap hA=>
    simp only [qD_]
    split
    ·rename_i j hj
     obtain ⟨e1,e2⟩:=G _ _ _ hj h1
     exact .sub (by rw [e1,wk_ rfl]) hlo hhi hc (by rw [e2];exact hcap) (by rw [e2];exact hA)
    ·exact .undef
  | subd hc hin h1=>
    simp only [qD_]
    split
    ·rename_i j hj;exact .subd hc (G.lt hj hin) (G.sl_none hj hin h1)
    ·exact .undef
  | mapv h1=>
    simp only [qD_]
    split
    ·rename_i j hj
     obtain ⟨e1,e2⟩:=G _ _ _ hj h1
     rw [←e2];exact .mapv (by rw [e1,zE_])
    ·exact .undef
  | mapd hc hin h1=>
    simp only [qD_]
    split
    ·rename_i j hj;exact .mapd hc (G.lt hj hin) (G.mp_none hj hin h1)
    ·exact .undef
  | agg=>exact .undef
  | tup=>exact .undef
  | void=>exact .void
  | undef=>exact .undef
theorem xL_ (HC:a4_ C) {fl:Bool} (G:Ren g ρ objs ρ2 objs2) (hX:qG_ fl Mut ρ objs Mut2 ρ2 objs2) {v:AV κ Ty} {u:Value} (hs:fl=false→lZ_ v=true) (h:VRel C w Mut ρ objs v u):
    VRel C w Mut2 ρ2 objs2 (A3_ g v) u:=by
  by_cases hv:∃cs,v= .agg cs
  ·obtain ⟨cs,rfl⟩:=hv
   cases h with
   | agg hl hcell hrel=>
     refine .agg (by simpa using hl) hcell (fun j cl u hj hu=> ?_)
     simp only [List.getElem?_map,Option.map_eq_some_iff] at hj
     obtain ⟨c,hc,rfl⟩:=hj
     refine lW_ HC G hX (fun hf=> ?_) (hrel j c u hc hu)
     have:=hs hf
     simp only [lZ_,List.all_eq_true] at this
     exact this c (List.mem_of_getElem? hc)
  ·have e:A3_ g v=qD_ g v:=by cases v<;>first | rfl | exact absurd ⟨_,rfl⟩ hv
   rw [e]
   refine lW_ HC G hX (fun hf=> ?_) h
   have:=hs hf
   cases v<;>first | exact this | exact absurd ⟨_,rfl⟩ hv | (simp [lZ_] at this)
theorem ol_ (HC:a4_ C) {fl:Bool} (G:Ren g ρ objs ρ2 objs2) (hX:qG_ fl Mut ρ objs Mut2 ρ2 objs2) {v:AV κ Ty} {u:Value} (hs:fl=false→∀vs,v= .tup vs→vs.all lZ_=true) (hs2:fl=false→(∀vs,v≠ .tup vs)→lZ_ v=true) (h:VRel C w Mut ρ objs v u):
    VRel C w Mut2 ρ2 objs2 (oh_ g v) u:=by
  by_cases hv:∃cs,v= .tup cs
  ·obtain ⟨cs,rfl⟩:=hv
   cases h with
   | tup hl hrel=>
     refine .tup (by simpa using hl) (fun j cl u hj hu=> ?_)
     simp only [List.getElem?_map,Option.map_eq_some_iff] at hj
     obtain ⟨c,hc,rfl⟩:=hj
     refine xL_ HC G hX (fun hf=> ?_) (hrel j c u hc hu)
     have:=hs hf cs rfl
     simp only [List.all_eq_true] at this
     exact this c (List.mem_of_getElem? hc)
  ·have e:oh_ g v=A3_ g v:=by cases v<;>first | rfl | exact absurd ⟨_,rfl⟩ hv
   rw [e]
   exact xL_ HC G hX (fun hf=>hs2 hf fun vs e=>hv ⟨vs,e⟩) h
theorem ORel.ren (HC:a4_ C) {fl:Bool} (G:Ren g ρ objs ρ2 objs2) (hX:qG_ fl Mut ρ objs Mut2 ρ2 objs2) {i j:Nat} {o:AObj κ Ty} (hg:g i=some j) (ho:objs[i]? =some o) (hs:fl=false→tt_ C o=true) (h:ORel C w Mut ρ objs i):ORel C w Mut2 ρ2 objs2 j:=by
  obtain ⟨e1,e2⟩:=G i j o hg ho
  unfold ORel at h⊢
  rw [ho] at h
  rw [e1,e2]
  cases o with
  | dead=>trivial
  | box cs=>
    obtain ⟨h1,h2⟩:=h
    refine ⟨h1,fun k cl hk=> ?_⟩
    simp only [List.getElem?_map,Option.map_eq_some_iff] at hk
    obtain ⟨c,hc,rfl⟩:=hk
    obtain ⟨v,a1,a2,a3,a4⟩:=h2 k c hc
    refine ⟨v,a1,a2,lW_ HC G hX (fun hf=> ?_) a3,a4⟩
    have:=hs hf
    simp only [tt_,List.all_eq_true] at this
    exact this c (List.mem_of_getElem? hc)
  | sl t xs=>
    obtain ⟨h1,h2,h3,h4⟩:=h
    refine ⟨h1,h2,fun k x q cl hx hq=> ?_,h4⟩
    obtain ⟨v,a1,a2⟩:=h3 k x q cl hx hq
    refine ⟨v,a1,l7_ HC hX a2 ?_⟩
    rcases HC.deep t x cl (jS_ HC hq) with ⟨y,rfl⟩ | ⟨s,ys,rfl,hb⟩
    ·exact .inl ⟨_,rfl⟩
    ·refine .inr ⟨_,_,_,rfl,fun h=> ?_⟩
     cases hf:fl with
     | true=>rfl
     | false=>
       have:=hs hf
       simp [tt_,h] at this
  | mp k v es hh=>
    have hfl:fl=true:=by
      cases hf:fl with
      | true=>rfl
      | false=>have:=hs hf;simp [tt_] at this
    obtain ⟨mes,h⟩:=h
    refine ⟨mes,h.size,h.at_,fun q e he=> ?_,fun q e me he hm hn=> ?_,fun q o me hq hm=> ?_,fun q o hq=> ?_,fun q hq hn=>h.own q hq (renH_ne.mp hn),fun p q hp hq hnp hnq=>h.disj p q hp hq (renH_ne.mp hnp) (renH_ne.mp hnq)⟩
    ·obtain ⟨h1,me,h2,h3,h4⟩:=h.key q e he
     refine ⟨h1,me,h2,h3, ?_⟩
     generalize hkv:me.key=kv at h4
     cases h4 with
     | agg hl hcell hrel=>
       refine .agg hl hcell fun j cl u hj hu=>l7_ HC hX (hrel j cl u hj hu) (.inl (h1 cl (List.mem_of_getElem? hj)))
    ·have hv:=h.val q e me he hm (renH_ne.mp hn)
     generalize C.enc v e.2=ce at hv⊢
     generalize me.val=mv at hv⊢
     unfold EntR at hv⊢
     split at hv
     ·exact hv
     ·obtain ⟨A,h1,h2,g1,g2,g3,g4⟩:=hv
      refine ⟨A,h1,h2,g1,g2,fun i x j cl hx hj=> ?_,g4⟩
      obtain ⟨u,a1,a2⟩:=g3 i x j cl hx hj
      refine ⟨u,a1,l7_ HC hX a2 ?_⟩
      rcases HC.deep _ x cl (jS_ HC hj) with ⟨y,rfl⟩ | ⟨s,ys,rfl,hb⟩
      ·exact .inl ⟨_,rfl⟩
      ·exact .inr ⟨_,_,_,rfl,fun _=>hfl⟩
     ·exact hv.elim
    ·unfold Ec_ at hq
     split at hq
     ·rename_i q' j'
      cases hq
      obtain ⟨h1,h2⟩:=h.hole q (some j') me rfl hm
      refine ⟨h1,fun j2 hj2=> ?_⟩
      have:=lW_ HC G hX (fun hf=>by rw [hfl] at hf;cases hf) (h2 j' rfl)
      simp only [qD_,hj2] at this
      exact this
     ·rename_i hnot
      obtain ⟨h1,h2⟩:=h.hole q o me hq hm
      refine ⟨h1,fun j2 hj2=> ?_⟩
      subst hj2
      exact absurd hq (hnot q j2)
    ·unfold Ec_ at hq
     split at hq
     ·cases hq;exact h.hlt _ _ rfl
     ·exact h.hlt _ _ hq
end
end Km
namespace Km
open Go
set_option linter.unusedVariables false
set_option linter.unusedSimpArgs false
variable {κ:Type} {Ty:κ→Type} {R:Type}
theorem eR_ (i:Nat):∀(l:List Nat),hg_ i l=true↔i∈l
  | []=>by simp [hg_]
  | j::l=>by
    simp only [hg_]
    split
    ·rename_i h;have:=Nat.eq_of_beq_eq_true h;simp [this]
    ·rename_i h
     have hne:i≠j:=fun e=>by rw [e] at h;simp at h
     rw [eR_ i l];simp [hne]
theorem lR_:∀(l acc:List Nat),acc.Nodup→(mi_ acc l).Nodup∧(∀i,i∈mi_ acc l↔i∈acc∨i∈l)
  | [],acc,h=>⟨h,fun i=>by simp [mi_]⟩
  | i::l,acc,h=>by
    simp only [mi_]
    split
    ·rename_i hi
     have hi:=(eR_ i acc).mp hi
     obtain ⟨h1,h2⟩:=lR_ l acc h
     refine ⟨h1,fun j=> ?_⟩
     rw [h2 j];simp only [List.mem_cons]
     constructor
     ·rintro (h | h)
      ·exact .inl h
      ·exact .inr (.inr h)
     ·rintro (h | rfl | h)
      ·exact .inl h
      ·exact .inl hi
      ·exact .inr h
    ·rename_i hi
     have hi:i∉acc:=fun h=>by rw [(eR_ i acc).mpr h] at hi;cases hi
     obtain ⟨h1,h2⟩:=lR_ l (acc++[i]) (by
       rw [List.nodup_append]
       exact ⟨h,by simp,fun a ha b hb=>by simp at hb;subst hb;rintro rfl;exact hi ha⟩)
     refine ⟨h1,fun j=> ?_⟩
     rw [h2 j];simp only [List.mem_append,List.mem_cons,List.mem_singleton,List.not_mem_nil,or_false,or_assoc]
theorem fM_ {l acc:List Nat} (h:acc.Nodup):(mi_ acc l).Nodup:=(lR_ l acc h).1
theorem or_ {l acc:List Nat} (h:acc.Nodup) (i:Nat):i∈mi_ acc l↔i∈acc∨i∈l:=(lR_ l acc h).2 i
theorem oA_ {objs:ap_ κ Ty} {acc:List Nat} (h:acc.Nodup):(i3_ objs acc).Nodup:=fM_ (fM_ h)
theorem iw_:∀(l acc:List Nat),∃m,mi_ acc l=acc++m
  | [],acc=>⟨[],by simp [mi_]⟩
  | i::l,acc=>by
    simp only [mi_]
    split
    ·exact iw_ l acc
    ·obtain ⟨m,h⟩:=iw_ l (acc++[i])
     exact ⟨i::m,by rw [h];simp⟩
theorem gR_:∀{l:List Nat} {i n j:Nat},lc_ l i n=some j→n≤j∧l[j-n]? =some i
  | [],_,_,_,h=>by simp [lc_] at h
  | k::l,i,n,j,h=>by
    simp only [lc_] at h
    split at h
    ·rename_i hk
     have:=Nat.eq_of_beq_eq_true hk
     cases h;subst this;simp
    ·obtain ⟨h1,h2⟩:=gR_ h
     refine ⟨by omega, ?_⟩
     obtain ⟨d,rfl⟩:∃d,j=n+1+d:=⟨j-(n+1),by omega⟩
     rw [show n+1+d-(n+1)=d by omega] at h2
     rw [show n+1+d-n=d+1 by omega];simpa using h2
theorem lU_:∀{l:List Nat} {i n:Nat},lc_ l i n=none→i∉l
  | [],_,_,_=>by simp
  | k::l,i,n,h=>by
    simp only [lc_] at h
    split at h
    ·cases h
    ·rename_i hk
     have hne:i≠k:=fun e=>by subst e;simp at hk
     have:=lU_ h
     simp [hne,this]
theorem sD_ {l:List Nat} (hn:l.Nodup) {j i:Nat} (h:l[j]? =some i):lc_ l i 0=some j:=by
  cases hp:lc_ l i 0 with
  | none=>exact absurd (List.mem_of_getElem? h) (lU_ hp)
  | some k=>
    obtain ⟨_,h2⟩:=gR_ hp
    simp only [Nat.sub_zero] at h2
    have hk:=(List.getElem?_eq_some_iff.mp h2).1
    have hj:=(List.getElem?_eq_some_iff.mp h).1
    have:=(List.getElem?_inj hk hn).mp (h2.trans h.symm)
    rw [this]
section
variable {P:Program} {C:Cod κ Ty} {T:TypeId→Option (TI κ Ty)}
variable {Mut:Nat→Prop} {Lent:Org κ Ty} {w0 w w':World} {ρ ρ' ρ2:Nat→Loc} {env:Env κ Ty} {objs objs' objs2:ap_ κ Ty} {tm:Array Value}
def SummOk (P:Program) (C:Cod κ Ty) (f:FuncId) (S:aY_ κ Ty):Prop:=
  (∃ fn, P.funcs[f]? = some fn ∧ (fn.name == "runtime.NumGoroutine") = false ∧ fn.body.isSome = true) ∧
  ∀(args:List (AV κ Ty)) (objs:ap_ κ Ty) (r:S.R),S.run args objs=some r→∀(Mut:Nat→Prop) (ρ:Nat→Loc) (vals:Array Value) (w:World),
   vals.size=args.length→(∀(j:Nat) (x:AV κ Ty) (u:Value),args[j]? =some x→vals[j]? =some u→VRel C w Mut ρ objs x u)→
   SRel C Mut ⟨ρ,objs⟩ w ρ [] objs #[] w→
   Calls P f vals w fun e w'=>∃v ρ',e= .returned v∧VRel C w' Mut ρ' (S.ret r).2 (S.ret r).1 v∧SRel C Mut ⟨ρ,objs⟩ w ρ' [] (S.ret r).2 #[] w'∧
     (∀o∈(S.ret r).2,tt_ C o=true)∧(∀vs,(S.ret r).1= .tup vs→vs.all lZ_=true)∧((∀vs,(S.ret r).1≠ .tup vs)→lZ_ (S.ret r).1=true)
theorem SRel.start (hob:∀id,ORel C w Mut ρ objs id) (hinj:∀i j b,aq_ ρ objs i b→aq_ ρ objs j b→i=j) (hlive:∀b,aV_ ρ objs b→¬Mut b) (hmlt:∀b,Mut b→b<w.heap.size):
    SRel C Mut ⟨ρ,objs⟩ w ρ [] objs #[] w where
  env i:= .inl rfl
  ob:=hob
  inj:=hinj
  live b hb:=⟨hlive b hb, .inl hb⟩
  comp id:= .refl id
  len:=Nat.le_refl _
  mlt:=hmlt
  frame _ _ _:=rfl
  size:=Nat.le_refl _
  os:=rfl
  tape:=rfl
  output:=rfl
def fG_ (objs:ap_ κ Ty) (l:List Nat):ap_ κ Ty:=l.map fun i=>match objs[i]? with | some o=>n2_ (lc_ l · 0) o | none=> .dead
def hf_ (ρ:Nat→Loc) (l:List Nat):Nat→Loc:=fun j=>ρ (l.getD j 0)
def gY_ (Mut:Nat→Prop) (ρ:Nat→Loc) (objs:ap_ κ Ty) (l:List Nat):Nat→Prop:=fun b=>Mut b∨∃i,i∉l∧aq_ ρ objs i b
theorem lD_ (ρ:Nat→Loc) (objs:ap_ κ Ty) (l:List Nat):Ren (lc_ l · 0) ρ objs (hf_ ρ l) (fG_ objs l):=by
  intro i j o h ho
  obtain ⟨_,h2⟩:=gR_ h
  simp only [Nat.sub_zero] at h2
  refine ⟨?_, ?_⟩
  ·simp only [fG_,List.getElem?_map,h2,Option.map_some,ho]
  ·simp only [hf_,List.getD,h2,Option.getD_some]
theorem ml_ {g:Nat→Option Nat} {o:AObj κ Ty} {i j b:Nat} (h1:objs[i]? =some o) (h2:objs2[j]? =some (n2_ g o)) (h3:ρ2 j=ρ i):aq_ ρ2 objs2 j b↔aq_ ρ objs i b:=by
  unfold aq_
  rw [h1,h2,h3]
  cases o with
  | mp k v es h=>simp only [zE_,renH_ne]
  | _=>rfl
theorem ej_ {l:List Nat} (hl:∀i∈l,i<objs.length) {j b:Nat} (h:aq_ (hf_ ρ l) (fG_ objs l) j b):∃i,l[j]? =some i∧aq_ ρ objs i b:=by
  have hj:j<l.length:=by
    rcases Nat.lt_or_ge j l.length with h' | h'
    ·exact h'
    ·unfold aq_ at h
     have:(fG_ objs l)[j]? =none:=List.getElem?_eq_none (by simp [fG_];exact h')
     rw [this] at h;exact h.elim
  have hi:=hl _ (List.getElem_mem hj)
  refine ⟨l[j],List.getElem?_eq_getElem hj, ?_⟩
  refine (ml_ (g:=(lc_ l · 0)) (List.getElem?_eq_getElem hi) ?_ ?_).mp h
  ·simp only [fG_,List.getElem?_map,List.getElem?_eq_getElem hj,Option.map_some,List.getElem?_eq_getElem hi]
  ·simp [hf_,List.getD,List.getElem?_eq_getElem hj]
theorem j2_ {l:List Nat} (hl:∀i∈l,i<objs.length):qG_ true Mut ρ objs (gY_ Mut ρ objs l) (hf_ ρ l) (fG_ objs l):=by
  intro b k _ h h'
  rcases h' with ⟨j,hj⟩ | ⟨hb,hm⟩
  ·obtain ⟨i,_,hi⟩:=ej_ hl hj
   exact h (.inl ⟨i,hi⟩)
  ·rcases hm with hm | ⟨i,_,hi⟩
   ·exact h (.inr ⟨hb,hm⟩)
   ·exact h (.inl ⟨i,hi⟩)
theorem yb_ (HC:a4_ C) (S:SRel C Mut Lent w0 ρ env objs tm w) {l:List Nat} (hn:l.Nodup) (hl:∀i∈l,i<objs.length):
    SRel C (gY_ Mut ρ objs l) ⟨hf_ ρ l,fG_ objs l⟩ w (hf_ ρ l) [] (fG_ objs l) #[] w:=by
  refine SRel.start (fun j=> ?_) (fun i j b hi hj=> ?_) (fun b ⟨j,hj⟩ hm=> ?_) (fun b hb=> ?_)
  ·by_cases hj:j<l.length
   ·have hi:=hl _ (List.getElem_mem hj)
    exact ORel.ren HC (lD_ ρ objs l) (j2_ hl) (sD_ hn (List.getElem?_eq_getElem hj)) (List.getElem?_eq_getElem hi) (fun h=>by cases h) (S.ob _)
   ·unfold ORel
    have:(fG_ objs l)[j]? =none:=List.getElem?_eq_none (by simp [fG_];omega)
    rw [this];trivial
  ·obtain ⟨p,h1,h2⟩:=ej_ hl hi
   obtain ⟨q,g1,g2⟩:=ej_ hl hj
   have:=S.inj p q b h2 g2
   subst this
   have hk:=(List.getElem?_eq_some_iff.mp h1).1
   exact (List.getElem?_inj hk hn).mp (h1.trans g1.symm)
  ·obtain ⟨i,h1,h2⟩:=ej_ hl hj
   rcases hm with hm | ⟨q,hq,hf⟩
   ·exact (S.live b ⟨i,h2⟩).1 hm
   ·exact hq (S.inj q i b hf h2▸List.mem_of_getElem? h1)
  ·rcases hb with hb | ⟨i,_,hi⟩
   ·have:=S.mlt b hb;have:=S.size;omega
   ·exact S.flt hi
end
end Km
namespace Km
open Go
set_option linter.unusedVariables false
set_option linter.unusedSimpArgs false
variable {κ:Type} {Ty:κ→Type} {R:Type}
theorem bF_ (g:Nat→Option Nat):∀(l:List Nat) (os objs:ap_ κ Ty),(j8_ g objs l os).length=objs.length
  | [],_,_=>by simp [j8_]
  | i::l,[],_=>by simp [j8_]
  | i::l,o::os,objs=>by simp [j8_,bF_ g l os]
theorem lg_ (g:Nat→Option Nat):∀(l:List Nat) (os objs:ap_ κ Ty) (i:Nat),i∉l→(j8_ g objs l os)[i]? =objs[i]?
  | [],_,_,_,_=>by simp [j8_]
  | k::l,[],_,_,_=>by simp [j8_]
  | k::l,o::os,objs,i,h=>by
    simp only [List.mem_cons,not_or] at h
    simp only [j8_]
    rw [lg_ g l os _ i h.2,List.getElem?_set_ne (Ne.symm h.1)]
theorem tb_ (g:Nat→Option Nat):∀(l:List Nat) (os objs:ap_ κ Ty) (j i:Nat) (o:AObj κ Ty),l.Nodup→(∀i∈l,i<objs.length)→l[j]? =some i→os[j]? =some o→(j8_ g objs l os)[i]? =some (n2_ g o)
  | [],_,_,_,_,_,_,_,h,_=>by simp at h
  | k::l,[],_,_,_,_,_,_,_,h=>by simp at h
  | k::l,o::os,objs,0,i,o',hn,hl,h,ho=>by
    simp at h ho;subst h;subst ho
    simp only [j8_]
    have hk:k∉l:=(List.nodup_cons.mp hn).1
    rw [lg_ g l os _ k hk]
    have:=hl k (by simp)
    simp [this]
  | k::l,o::os,objs,j+1,i,o',hn,hl,h,ho=>by
    simp only [j8_]
    exact tb_ g l os _ j i o' (List.nodup_cons.mp hn).2 (fun i hi=>by simp;exact hl i (by simp [hi])) (by simpa using h) (by simpa using ho)
section
variable {P:Program} {C:Cod κ Ty} {T:TypeId→Option (TI κ Ty)}
variable {Mut:Nat→Prop} {Lent:Org κ Ty} {w0 w w':World} {ρ ρ' ρ2:Nat→Loc} {env:Env κ Ty} {objs objs' objs2:ap_ κ Ty} {tm:Array Value}
def lA_ (ρ ρ':Nat→Loc) (n:Nat) (l:List Nat):Nat→Loc:=fun i=>match lc_ l i 0 with
  | some j=>ρ' j
  | none=>if i<n then ρ i else ρ' (l.length+(i-n))
def eJ_ (objs:ap_ κ Ty) (l:List Nat) (o':ap_ κ Ty):ap_ κ Ty:=j8_ (lK_ objs.length l) objs l o'++(o'.drop l.length).map (n2_ (lK_ objs.length l))
theorem tF_ {l:List Nat} {o':ap_ κ Ty} (hn:l.Nodup) (hl:∀i∈l,i<objs.length) (hlen:l.length≤o'.length) (i:Nat):
    (i<objs.length∧i∉l∧(eJ_ objs l o')[i]? =objs[i]? ∧lA_ ρ ρ' objs.length l i=ρ i)∨
    (∃j o,o'[j]? =some o∧lK_ objs.length l j=some i∧(eJ_ objs l o')[i]? =some (n2_ (lK_ objs.length l) o)∧lA_ ρ ρ' objs.length l i=ρ' j)∨
    (eJ_ objs l o')[i]? =none:=by
  by_cases hi:i<objs.length
  ·cases hp:lc_ l i 0 with
   | none=>
     refine .inl ⟨hi,lU_ hp, ?_,by simp [lA_,hp,hi]⟩
     unfold eJ_
     rw [List.getElem?_append_left (by rw [bF_];exact hi),lg_ _ _ _ _ _ (lU_ hp)]
   | some j=>
     obtain ⟨_,h2⟩:=gR_ hp
     simp only [Nat.sub_zero] at h2
     have hj:=(List.getElem?_eq_some_iff.mp h2).1
     have ho:o'[j]? =some (o'[j]'(by omega)):=List.getElem?_eq_getElem _
     refine .inr (.inl ⟨j,_,ho,by simp [lK_,h2], ?_,by simp [lA_,hp]⟩)
     unfold eJ_
     rw [List.getElem?_append_left (by rw [bF_];exact hi)]
     exact tb_ _ l o' objs j i _ hn hl h2 ho
  ·have hp:lc_ l i 0=none:=by
     cases hp:lc_ l i 0 with
     | none=>rfl
     | some j=>
       obtain ⟨_,h2⟩:=gR_ hp
       simp only [Nat.sub_zero] at h2
       exact absurd (hl i (List.mem_of_getElem? h2)) hi
   by_cases hk:l.length+(i-objs.length)<o'.length
   ·have ho:o'[l.length+(i-objs.length)]? =some (o'[l.length+(i-objs.length)]'hk):=List.getElem?_eq_getElem _
    refine .inr (.inl ⟨_,_,ho, ?_, ?_,by simp [lA_,hp,hi]⟩)
    ·have:l[l.length+(i-objs.length)]? =none:=List.getElem?_eq_none (by omega)
     simp only [lK_,this];congr 1;omega
    ·unfold eJ_
     rw [List.getElem?_append_right (by rw [bF_];omega),bF_,List.getElem?_map,List.getElem?_drop,ho];rfl
   ·refine .inr (.inr ?_)
    refine List.getElem?_eq_none ?_
    simp [eJ_,bF_];omega
theorem A9_ {l:List Nat} {o':ap_ κ Ty} (hn:l.Nodup) (hl:∀i∈l,i<objs.length) (hlen:l.length≤o'.length):Ren (lK_ objs.length l) ρ' o' (lA_ ρ ρ' objs.length l) (eJ_ objs l o'):=by
  intro j i o hg ho
  have hjo:=(List.getElem?_eq_some_iff.mp ho).1
  unfold lK_ at hg
  split at hg
  ·rename_i i' hj
   cases hg
   refine ⟨?_,by simp [lA_,sD_ hn hj]⟩
   unfold eJ_
   rw [List.getElem?_append_left (by rw [bF_];exact hl _ (List.mem_of_getElem? hj))]
   exact tb_ _ l o' objs j i _ hn hl hj ho
  ·rename_i hj
   have hj':l.length≤j:=by
     rcases Nat.lt_or_ge j l.length with h | h
     ·rw [List.getElem?_eq_getElem h] at hj;cases hj
     ·exact h
   cases hg
   have hp:lc_ l (objs.length+(j-l.length)) 0=none:=by
     cases hp:lc_ l (objs.length+(j-l.length)) 0 with
     | none=>rfl
     | some q=>
       obtain ⟨_,h2⟩:=gR_ hp
       simp only [Nat.sub_zero] at h2
       have:=hl _ (List.mem_of_getElem? h2);omega
   refine ⟨?_, ?_⟩
   ·unfold eJ_
    rw [List.getElem?_append_right (by rw [bF_];omega),bF_,List.getElem?_map,List.getElem?_drop]
    rw [show l.length+(objs.length+(j-l.length)-objs.length)=j by omega,ho];rfl
   ·simp only [lA_,hp]
    rw [if_neg (by omega)]
    congr 1;omega
theorem Aj_ (HC:a4_ C) (S:SRel C Mut Lent w0 ρ env objs tm w) {l:List Nat} (hn:l.Nodup) (hl:∀i∈l,i<objs.length) {o':ap_ κ Ty}
    (S':SRel C (gY_ Mut ρ objs l) ⟨hf_ ρ l,fG_ objs l⟩ w ρ' [] o' #[] w') (hs:∀o∈o',tt_ C o=true):
    SRel C Mut Lent w0 (lA_ ρ ρ' objs.length l) env (eJ_ objs l o') tm w'∧
      ∀(v:AV κ Ty) (u:Value),(∀vs,v= .tup vs→vs.all lZ_=true)→((∀vs,v≠ .tup vs)→lZ_ v=true)→VRel C w' (gY_ Mut ρ objs l) ρ' o' v u→VRel C w' Mut (lA_ ρ ρ' objs.length l) (eJ_ objs l o') (oh_ (lK_ objs.length l) v) u:=by
  have hlen:l.length≤o'.length:=by have:=S'.len;simpa [fG_] using this
  have G:=A9_ (ρ:=ρ) (ρ':=ρ') hn hl hlen
  have cs:=tF_ (ρ:=ρ) (ρ':=ρ') hn hl hlen
  have foot:∀i b,aq_ (lA_ ρ ρ' objs.length l) (eJ_ objs l o') i b→(i<objs.length∧i∉l∧aq_ ρ objs i b)∨(∃j,lK_ objs.length l j=some i∧aq_ ρ' o' j b):=by
    intro i b h
    rcases cs i with ⟨h1,h2,h3,h4⟩ | ⟨j,o,h1,h2,h3,h4⟩ | h1
    ·refine .inl ⟨h1,h2, ?_⟩
     unfold aq_ at h⊢;rw [h3,h4] at h;exact h
    ·exact .inr ⟨j,h2,(ml_ h1 h3 h4).mp h⟩
    ·unfold aq_ at h;rw [h1] at h;exact h.elim
  have hX:qG_ false (gY_ Mut ρ objs l) ρ' o' Mut (lA_ ρ ρ' objs.length l) (eJ_ objs l o'):=by
    intro b k hb h h'
    have hb:b=false:=by cases b<;>simp_all
    subst hb
    rcases h' with ⟨i,hi⟩ | ⟨_,hm⟩
    ·rcases foot i k hi with ⟨_,h2,h3⟩ | ⟨j,_,h3⟩
     ·exact h (.inr ⟨rfl, .inr ⟨i,h2,h3⟩⟩)
     ·exact h (.inl ⟨j,h3⟩)
    ·exact h (.inr ⟨rfl, .inl hm⟩)
  have lfoot:∀b,aV_ (hf_ ρ l) (fG_ objs l) b→aV_ ρ objs b:=fun b ⟨j,hj⟩=>by
    obtain ⟨i,_,h⟩:=ej_ hl hj;exact ⟨i,h⟩
  have W:WStep w w' (aV_ ρ objs) (aV_ (lA_ ρ ρ' objs.length l) (eJ_ objs l o')):=by
    refine ⟨fun b hb hf=>S'.frame b hb (fun h=>hf (lfoot b h)),S'.size,fun b ⟨i,hi⟩=> ?_⟩
    rcases foot i b hi with ⟨_,_,h⟩ | ⟨j,_,h⟩
    ·exact .inl ⟨i,h⟩
    ·rcases (S'.live b ⟨j,h⟩).2 with h | h
     ·exact .inl (lfoot b h)
     ·exact .inr h
  have hcm:∀i,Compat ρ objs (lA_ ρ ρ' objs.length l) (eJ_ objs l o') i:=by
    intro i
    by_cases hi:i<objs.length
    ·rcases cs i with ⟨h1,h2,h3,h4⟩ | ⟨j,o,h1,h2,h3,h4⟩ | h1
     ·exact Compat.of_eq (fun _=>h3) (fun _=>h4)
     ·
       have hj:l[j]? =some i:=by
         unfold lK_ at h2
         split at h2
         ·rename_i i' hj;cases h2;exact hj
         ·cases h2;omega
       have hc:=S'.comp j
       have hjl:=(List.getElem?_eq_some_iff.mp hj).1
       have hlo:(fG_ objs l)[j]? =some (n2_ (lc_ l · 0) objs[i]):=by
         simp only [fG_,List.getElem?_map,hj,Option.map_some,List.getElem?_eq_getElem hi]
       have hlρ:hf_ ρ l j=ρ i:=by simp [hf_,List.getD,hj]
       have gone:yr_ o' j→yr_ (eJ_ objs l o') i:=fun ⟨e1,e2,e3⟩=>by
         refine ⟨?_, ?_, ?_⟩
         ·unfold fU_ at e1⊢;rw [h1] at e1;rw [h3];cases o<;>simp_all [n2_]
         ·unfold hb_ at e2⊢;rw [h1] at e2;rw [h3];cases o<;>simp_all [n2_]
         ·unfold ti_ at e3⊢;rw [h1] at e3;rw [h3];cases o<;>simp_all [n2_]
       unfold Compat at hc⊢
       rw [List.getElem?_eq_getElem hi]
       simp only [hlo] at hc
       cases ho:objs[i] with
       | dead=>
         simp only [ho,n2_] at hc⊢
         exact gone hc
       | box cs'=>
         simp only [ho,n2_] at hc⊢
         rcases hc with ⟨cs2,e1,e2⟩ | hc
         ·rw [h1] at e1;cases e1
          exact .inl ⟨_,h3,by rw [h4,e2,hlρ]⟩
         ·exact .inr (gone hc)
       | sl t xs=>
         simp only [ho,n2_] at hc⊢
         rcases hc with ⟨ys,e1,e2,e3⟩ | hc
         ·rw [h1] at e1;cases e1
          exact .inl ⟨_,h3,e2,by rw [h4,e3,hlρ]⟩
         ·exact .inr (gone hc)
       | mp k v es hh=>
         simp only [ho,n2_] at hc⊢
         rcases hc with ⟨es',hh',e1,e2⟩ | hc
         ·rw [h1] at e1;cases e1
          exact .inl ⟨es',_,h3,by rw [h4,e2,hlρ]⟩
         ·exact .inr (gone hc)
     ·have:(eJ_ objs l o').length=objs.length+(o'.length-l.length):=by simp [eJ_,bF_]
      rw [List.getElem?_eq_none_iff] at h1;omega
    ·unfold Compat
     rw [List.getElem?_eq_none (by omega)];trivial
  have hlen2:objs.length≤(eJ_ objs l o').length:=by simp [eJ_,bF_]
  refine ⟨S.step W hlen2 hcm (fun i=> ?_) (fun i j b hi hj=> ?_) S'.os S'.tape S'.output,fun v u h1 h2 h=>ol_ HC G hX (fun _=>h1) (fun _=>h2) h⟩
  ·rcases cs i with ⟨h1,h2,h3,h4⟩ | ⟨j,o,h1,h2,h3,h4⟩ | h1
   ·refine ORel.step W hlen2 hcm (S.ob i) h3 h4 (fun b hb=>S'.frame b (S.flt hb) (fun ⟨j,hj⟩=> ?_))
    obtain ⟨p,g1,g2⟩:=ej_ hl hj
    exact h2 (S.inj i p b hb g2▸List.mem_of_getElem? g1)
   ·exact ORel.ren HC G hX h2 h1 (fun _=>hs o (List.mem_of_getElem? h1)) (S'.ob j)
   ·unfold ORel;rw [h1];trivial
  ·rcases foot i b hi with ⟨h1,h2,h3⟩ | ⟨p,h2,h3⟩<;>rcases foot j b hj with ⟨g1,g2,g3⟩ | ⟨q,g2,g3⟩
   ·exact S.inj i j b h3 g3
   ·exact absurd (.inr ⟨i,h2,h3⟩) (S'.live b ⟨q,g3⟩).1
   ·exact absurd (.inr ⟨j,g2,g3⟩) (S'.live b ⟨p,h3⟩).1
   ·have:=S'.inj p q b h3 g3
    subst this
    rw [h2] at g2;cases g2;rfl
end
end Km
namespace Km
open Go
set_option linter.unusedVariables false
set_option linter.unusedSimpArgs false
variable {κ:Type} {Ty:κ→Type} {R:Type}
section
variable {P:Program} {C:Cod κ Ty} {T:TypeId→Option (TI κ Ty)}
variable {Mut:Nat→Prop} {Lent:Org κ Ty} {w0 w w':World} {ρ ρ' ρ2:Nat→Loc} {env:Env κ Ty} {objs objs' objs2:ap_ κ Ty} {tm:Array Value}
theorem k5_ {v:AV κ Ty} {u:Value} (h:VRel C w Mut ρ objs v u):∀i∈gN_ v,i<objs.length:=by
  intro i hi
  cases h<;>simp only [gN_,List.mem_singleton,List.not_mem_nil] at hi
  case ref h1=>subst hi;exact (List.getElem?_eq_some_iff.mp h1).1
  case refd=>subst hi;assumption
  case eref h1 h2=>subst hi;exact (List.getElem?_eq_some_iff.mp h1).1
  case erefd=>subst hi;assumption
  case own h1 h2=>subst hi;exact (List.getElem?_eq_some_iff.mp h1).1
  case ownd=>subst hi;assumption
  case sub h1 _ _ _ _ _=>subst hi;exact (List.getElem?_eq_some_iff.mp h1).1
  case subd=>subst hi;assumption
  case mapv h1=>subst hi;exact (List.getElem?_eq_some_iff.mp h1).1
  case mapd=>subst hi;assumption
theorem AE_ {v:AV κ Ty} {u:Value} (h:VRel C w Mut ρ objs v u):∀i∈j4_ v,i<objs.length:=by
  by_cases hv:∃cs,v= .agg cs
  ·obtain ⟨cs,rfl⟩:=hv
   intro i hi
   simp only [j4_,List.mem_flatMap] at hi
   obtain ⟨c,hc,hi⟩:=hi
   cases h with
   | agg hl hcell hrel=>
     rename_i us
     obtain ⟨j,hj⟩:=List.getElem?_of_mem hc
     have hjl:=(List.getElem?_eq_some_iff.mp hj).1
     exact k5_ (hrel j c us[j] hj (List.getElem?_eq_getElem (by omega))) i hi
  ·have e:j4_ v=gN_ v:=by cases v<;>first | rfl | exact absurd ⟨_,rfl⟩ hv
   rw [e];exact k5_ h
theorem pn_ {v:AV κ Ty} {u:Value} (h:VRel C w Mut ρ objs v u):∀i∈bG_ v,i<objs.length:=by
  by_cases hv:∃cs,v= .tup cs
  ·obtain ⟨cs,rfl⟩:=hv
   intro i hi
   simp only [bG_,List.mem_flatMap] at hi
   obtain ⟨c,hc,hi⟩:=hi
   cases h with
   | tup hl hrel=>
     rename_i us
     obtain ⟨j,hj⟩:=List.getElem?_of_mem hc
     have hjl:=(List.getElem?_eq_some_iff.mp hj).1
     exact AE_ (hrel j c us[j] hj (List.getElem?_eq_getElem (by omega))) i hi
  ·have e:bG_ v=j4_ v:=by cases v<;>first | rfl | exact absurd ⟨_,rfl⟩ hv
   rw [e];exact AE_ h
theorem CX_ {i:Nat} {o:AObj κ Ty} (ho:objs[i]? =some o) (h:ORel C w Mut ρ objs i):∀k∈yt_ o,k<objs.length:=by
  intro k hk
  unfold ORel at h
  rw [ho] at h
  cases o with
  | dead=>simp [yt_] at hk
  | sl t xs=>simp [yt_] at hk
  | mp k' v es hh=>
    obtain ⟨mes,h⟩:=h
    simp only [yt_] at hk
    split at hk
    ·rename_i i' j
     simp only [List.mem_singleton] at hk
     subst hk
     have hi:=h.hlt _ _ rfl
     have hm:mes[i']? =some (mes[i']'(by rw [h.size];exact hi)):=Array.getElem?_eq_getElem _
     exact k5_ ((h.hole _ _ _ rfl hm).2 _ rfl) _ (by simp [gN_])
    ·simp at hk
  | box cs=>
    simp only [yt_,List.mem_flatMap] at hk
    obtain ⟨c,hc,hk⟩:=hk
    obtain ⟨j,hj⟩:=List.getElem?_of_mem hc
    obtain ⟨v,_,_,h3,_⟩:=h.2 j c hj
    exact k5_ h3 k hk
theorem xg_ (S:SRel C Mut Lent w0 ρ env objs tm w) {acc:List Nat} (hn:acc.Nodup) (h:∀i∈acc,i<objs.length):∀i∈i3_ objs acc,i<objs.length:=by
  have step:∀(l:List Nat),∀i∈l.flatMap (fun i=>match objs[i]? with | some o=>yt_ o | none=>[]),i<objs.length:=by
    intro l i hi
    simp only [List.mem_flatMap] at hi
    obtain ⟨k,_,hi⟩:=hi
    split at hi
    ·rename_i o ho;exact CX_ ho (S.ob k) i hi
    ·simp at hi
  intro i hi
  unfold i3_ at hi
  rw [or_ (fM_ hn)] at hi
  rcases hi with hi | hi
  ·rw [or_ hn] at hi
   rcases hi with hi | hi
   ·exact h i hi
   ·exact step _ i hi
  ·exact step _ i hi
theorem lj_:∀(l m:List Nat),disj l m=true↔∀i∈l,i∉m
  | [],m=>by simp [disj]
  | k::l,m=>by
    simp only [disj]
    split
    ·rename_i h;have:=(eR_ k m).mp h;simp [this]
    ·rename_i h
     have:k∉m:=fun hm=>by rw [(eR_ k m).mpr hm] at h;cases h
     rw [lj_ l m];simp [this]
theorem BR_ (HC:a4_ C) (S:SRel C Mut Lent w0 ρ env objs tm w) {l:List Nat} (hl:∀i∈l,i<objs.length) {x:AV κ Ty} {u:Value} {t:κ} {xs:List (Ty t)} (hx:VRel C w Mut ρ objs x u) (h:hE_ objs x=some ⟨t,xs⟩)
    (hb:∀i∈DC_ x,i∉l):VRel C w (gY_ Mut ρ objs l) (hf_ ρ l) (fG_ objs l) (.inl true t xs) u:=by
  have hX:=j2_ (Mut:=Mut) (ρ:=ρ) hl
  obtain ⟨A,c,blk,off,hu,hle,hA,hrow⟩:=ik_ (a:=⟨tm,[]⟩) HC S hx h
  rw [hu]
  refine .inl (blk:=blk) (off:=off) (vals:=fun i j=>(w.cell? (at' blk (off+i*C.sz t+j))).getD Go.undef) (fun h=>by cases h) hle (fun hne=> ?_) (fun i y j cl h1 h2=> ?_) (fun i y j cl h1 h2=> ?_)
  ·obtain ⟨a1,a2⟩:=hA hne
   refine ⟨a1,a2,fun hXs=> ?_⟩
   rcases hXs with ⟨j,hj⟩ | ⟨hf,_⟩
   ·obtain ⟨i,g1,g2⟩:=ej_ hl hj
    cases x<;>simp only [hE_] at h
    case nil t'=>cases h;exact hne rfl
    case inl b t' ys=>
      cases h
      cases hx with
      | inl hb' hc hA' hcell hrel=>
        obtain ⟨e1,_,e3⟩:=hA' hne
        simp only [Value.slice.injEq] at hu
        rw [hu.1,a1] at e1
        simp only [Option.some.injEq,at',Addr.mk.injEq] at e1
        exact e3 (.inl ⟨i,e1.1▸g2⟩)
    case own id=>
      have hsl:=bx_ h
      cases hx with
      | own k1 k2=>
        have ho:=S.ob id
        simp only [ORel,hsl] at ho
        have hc:(ρ id).cap≠0:=by have:=ho.1;have:=List.length_pos_iff.mpr hne;omega
        have e1:=k2 hc
        simp only [Value.slice.injEq] at hu
        rw [hu.1,a1] at e1
        simp only [Option.some.injEq,at',Addr.mk.injEq] at e1
        have:=S.inj i id blk g2 (e1.1▸cj_ hsl hc)
        subst this
        exact hb i (by simp [DC_]) (List.mem_of_getElem? g1)
      | ownd _ _ k1=>rw [k1] at h;cases h
    case sub id lo hi=>
      split at h
      ·rename_i t' ys hsl0
       cases h
       have hsl:=bx_ hsl0
       cases hx with
       | sub k1 hlo hhi hc hcap hA'=>
         rw [hsl] at k1;cases k1
         have hlen:=dz_ ys lo hi hhi
         have hpos:=List.length_pos_iff.mpr hne
         have e1:=hA' (by omega)
         simp only [Value.slice.injEq] at hu
         rw [hu.1,a1] at e1
         simp only [Option.some.injEq,at',Addr.mk.injEq] at e1
         have:=S.inj i id blk g2 (e1.1▸cj_ hsl (by omega))
         subst this
         exact hb i (by simp [DC_]) (List.mem_of_getElem? g1)
       | subd _ _ k1=>rw [k1] at hsl0;cases hsl0
      ·cases h
    all_goals cases h
   ·cases hf
  ·obtain ⟨v,a1,a2⟩:=hrow i y j cl h1 h2
   rw [a1];rfl
  ·obtain ⟨v,a1,a2⟩:=hrow i y j cl h1 h2
   rw [a1]
   refine l7_ HC hX a2 ?_
   rcases HC.deep t y cl (jS_ HC h2) with ⟨q,rfl⟩ | ⟨s,ys,rfl,_⟩
   ·exact .inl ⟨_,rfl⟩
   ·exact .inr ⟨_,_,_,rfl,fun _=>rfl⟩
theorem wV_ (HC:a4_ C) (S:SRel C Mut Lent w0 ρ env objs tm w) {l:List Nat} (hn:l.Nodup) (hl:∀i∈l,i<objs.length) (m:vb_) {x:AV κ Ty} {u:Value} (hx:VRel C w Mut ρ objs x u) (hb:m= .bo→∀i∈DC_ x,i∉l):
    VRel C w (gY_ Mut ρ objs l) (hf_ ρ l) (fG_ objs l) (qD_ (lc_ l · 0) (vo_ objs m x)) u:=by
  have hr:VRel C w (gY_ Mut ρ objs l) (hf_ ρ l) (fG_ objs l) (qD_ (lc_ l · 0) x) u:=lW_ HC (lD_ ρ objs l) (j2_ hl) (fun h=>by cases h) hx
  cases m with
  | mv=>exact hr
  | pe=>exact hr
  | bo=>
    simp only [vo_]
    split
    ·rename_i t xs h
     exact BR_ HC S hl hx h (hb rfl)
    ·exact hr
theorem tQ_ (HC:a4_ C) (S:SRel C Mut Lent w0 ρ env objs tm w) {l:List Nat} (hn:l.Nodup) (hl:∀i∈l,i<objs.length) (m:vb_) {x:AV κ Ty} {u:Value} (hx:VRel C w Mut ρ objs x u) (hb:∀i∈ES_ m x,i∉l):
    VRel C w (gY_ Mut ρ objs l) (hf_ ρ l) (fG_ objs l) (oh_ (lc_ l · 0) (nT_ objs m x)) u:=by
  by_cases hv:∃cs,x= .agg cs
  ·obtain ⟨cs,rfl⟩:=hv
   cases hx with
   | agg hle hcell hrel=>
     refine .agg (by simpa using hle) hcell (fun j cl u hj hu=> ?_)
     simp only [List.map_map,List.getElem?_map,Option.map_eq_some_iff,Function.comp] at hj
     obtain ⟨c,hc,rfl⟩:=hj
     refine wV_ HC S hn hl m (hrel j c u hc hu) (fun hm i hi=>hb i ?_)
     subst hm
     simp only [ES_,List.mem_flatMap]
     exact ⟨c,List.mem_of_getElem? hc,hi⟩
  ·by_cases ht:∃vs,x= .tup vs
   ·obtain ⟨vs,rfl⟩:=ht
    have e:nT_ objs m (.tup vs)= .tup vs:=by cases m<;>rfl
    rw [e]
    exact ol_ HC (lD_ ρ objs l) (j2_ hl) (fun h=>by cases h) (fun h=>by cases h) hx
   ·have e:nT_ objs m x=vo_ objs m x:=by cases x<;>first | rfl | exact absurd ⟨_,rfl⟩ hv
    have e2:oh_ (lc_ l · 0) (vo_ objs m x)=qD_ (lc_ l · 0) (vo_ objs m x):=by
      cases m<;>simp only [vo_]
      ·cases x<;>first | rfl | exact absurd ⟨_,rfl⟩ hv | exact absurd ⟨_,rfl⟩ ht
      ·split
       ·rfl
       ·cases x<;>first | rfl | exact absurd ⟨_,rfl⟩ hv | exact absurd ⟨_,rfl⟩ ht
      ·cases x<;>first | rfl | exact absurd ⟨_,rfl⟩ hv | exact absurd ⟨_,rfl⟩ ht
    rw [e,e2]
    refine wV_ HC S hn hl m hx (fun hm i hi=>hb i ?_)
    subst hm
    cases x<;>first | exact hi | exact absurd ⟨_,rfl⟩ hv
theorem r0_ (HC:a4_ C) (S:SRel C Mut Lent w0 ρ env objs tm w) {l:List Nat} (hn:l.Nodup) (hl:∀i∈l,i<objs.length):∀(xs:List (AV κ Ty)) (ms:List vb_) (us:List Value),us.length=xs.length→
    (∀(j:Nat) (x:AV κ Ty) (u:Value),xs[j]? =some x→us[j]? =some u→VRel C w Mut ρ objs x u)→(∀i∈Bl_ xs ms,i∉l)→
    (fC_ objs xs ms).length=xs.length∧∀(j:Nat) (x:AV κ Ty) (u:Value),((fC_ objs xs ms).map (oh_ (lc_ l · 0)))[j]? =some x→us[j]? =some u→VRel C w (gY_ Mut ρ objs l) (hf_ ρ l) (fG_ objs l) x u
  | [],ms,us,hlen,_,_=>by cases ms<;>exact ⟨rfl,fun j x u h=>by simp [fC_] at h⟩
  | x::xs,ms,[],hlen,_,_=>by simp at hlen
  | x::xs,m::ms,u::us,hlen,h,hb=>by
    obtain ⟨h1,h2⟩:=r0_ HC S hn hl xs ms us (by simpa using hlen) (fun j y v a b=>h (j+1) y v (by simpa using a) (by simpa using b)) (fun i hi=>hb i (by simp [Bl_,hi]))
    refine ⟨by simp [fC_,h1],fun j y v a b=> ?_⟩
    cases j with
    | zero=>
      simp [fC_] at a b
      subst a;subst b
      exact tQ_ HC S hn hl m (h 0 x _ rfl rfl) (fun i hi=>hb i (by simp [Bl_,hi]))
    | succ j=>exact h2 j y v (by simpa [fC_] using a) (by simpa using b)
  | x::xs,[],u::us,hlen,h,hb=>by
    obtain ⟨h1,h2⟩:=r0_ HC S hn hl xs [] us (by simpa using hlen) (fun j y v a b=>h (j+1) y v (by simpa using a) (by simpa using b)) (fun i hi=>hb i (by simp [Bl_,hi]))
    refine ⟨by simp [fC_,h1],fun j y v a b=> ?_⟩
    cases j with
    | zero=>
      simp [fC_] at a b
      subst a;subst b
      exact tQ_ HC S hn hl .bo (h 0 x _ rfl rfl) (fun i hi=>hb i (by simp [Bl_,hi]))
    | succ j=>exact h2 j y v (by simpa [fC_] using a) (by simpa using b)
theorem BP_ (S:SRel C Mut Lent w0 ρ env objs tm w) (m:vb_) {x:AV κ Ty} {u:Value} (hx:VRel C w Mut ρ objs x u):∀i∈gN_ (vo_ objs m x),i<objs.length:=by
  cases m with
  | mv=>exact k5_ hx
  | pe=>exact k5_ hx
  | bo=>
    simp only [vo_]
    split
    ·intro i hi;simp [gN_] at hi
    ·exact k5_ hx
theorem tZ_ (S:SRel C Mut Lent w0 ρ env objs tm w) (m:vb_) {x:AV κ Ty} {u:Value} (hx:VRel C w Mut ρ objs x u):∀i∈bG_ (nT_ objs m x),i<objs.length:=by
  by_cases hv:∃cs,x= .agg cs
  ·obtain ⟨cs,rfl⟩:=hv
   intro i hi
   simp only [nT_,bG_,j4_,List.mem_flatMap,List.mem_map] at hi
   obtain ⟨c',⟨c,hc,rfl⟩,hi⟩:=hi
   cases hx with
   | agg hle hcell hrel=>
     rename_i us
     obtain ⟨j,hj⟩:=List.getElem?_of_mem hc
     have hjl:=(List.getElem?_eq_some_iff.mp hj).1
     exact BP_ S m (hrel j c us[j] hj (List.getElem?_eq_getElem (by omega))) i hi
  ·have e:nT_ objs m x=vo_ objs m x:=by cases x<;>first | rfl | exact absurd ⟨_,rfl⟩ hv
   rw [e]
   cases m with
   | mv=>exact pn_ hx
   | pe=>exact pn_ hx
   | bo=>
     simp only [vo_]
     split
     ·intro i hi;simp [bG_,j4_,gN_] at hi
     ·exact pn_ hx
theorem pB_ (S:SRel C Mut Lent w0 ρ env objs tm w):∀(xs:List (AV κ Ty)) (ms:List vb_) (us:List Value),us.length=xs.length→
    (∀(j:Nat) (x:AV κ Ty) (u:Value),xs[j]? =some x→us[j]? =some u→VRel C w Mut ρ objs x u)→∀i∈(fC_ objs xs ms).flatMap bG_,i<objs.length
  | [],ms,us,_,_=>by cases ms<;>simp [fC_]
  | x::xs,ms,[],hlen,_=>by simp at hlen
  | x::xs,m::ms,u::us,hlen,h=>by
    intro i hi
    simp only [fC_,List.flatMap_cons,List.mem_append] at hi
    rcases hi with hi | hi
    ·exact tZ_ S m (h 0 x u rfl rfl) i hi
    ·exact pB_ S xs ms us (by simpa using hlen) (fun j y v a b=>h (j+1) y v (by simpa using a) (by simpa using b)) i hi
  | x::xs,[],u::us,hlen,h=>by
    intro i hi
    simp only [fC_,List.flatMap_cons,List.mem_append] at hi
    rcases hi with hi | hi
    ·exact tZ_ S .bo (h 0 x u rfl rfl) i hi
    ·exact pB_ S xs [] us (by simpa using hlen) (fun j y v a b=>h (j+1) y v (by simpa using a) (by simpa using b)) i hi
theorem vM_ (HC:a4_ C) (S:SRel C Mut Lent w0 ρ env objs tm w) {f:FuncId} {Sm:aY_ κ Ty} (hS:SummOk P C f Sm) {xs:List (AV κ Ty)} {us:List Value} (hlen:us.length=xs.length)
    (hx:∀(j:Nat) (x:AV κ Ty) (u:Value),xs[j]? =some x→us[j]? =some u→VRel C w Mut ρ objs x u) {K:AV κ Ty→ap_ κ Ty→Option R} {r:R}
    (h:oR_ objs Sm (Bl_ xs Sm.modes) (fC_ objs xs Sm.modes) K=some r):
    Calls P f us.toArray w fun e w'=>∃v u objs' ρ',e= .returned u∧K v objs'=some r∧SRel C Mut Lent w0 ρ' env objs' tm w'∧VRel C w' Mut ρ' objs' v u:=by
  unfold oR_ at h
  dsimp only at h
  split at h
  ·cases h
  ·rename_i hd
   have hd:=(lj_ _ _).mp hd
   obtain ⟨q,hq,h⟩:=bind_some h
   have hn:(i3_ objs (mi_ [] ((fC_ objs xs Sm.modes).flatMap bG_))).Nodup:=oA_ (fM_ List.nodup_nil)
   have hl:∀i∈i3_ objs (mi_ [] ((fC_ objs xs Sm.modes).flatMap bG_)),i<objs.length:=xg_ S (fM_ List.nodup_nil) (fun i hi=>by
     rw [or_ List.nodup_nil] at hi
     rcases hi with hi | hi
     ·simp at hi
     ·exact pB_ S xs Sm.modes us hlen hx i hi)
   generalize i3_ objs (mi_ [] ((fC_ objs xs Sm.modes).flatMap bG_))=l at h hd hq hn hl
   obtain ⟨a1,a2⟩:=r0_ HC S hn hl xs Sm.modes us hlen hx hd
   refine (hS.2 _ _ q hq (gY_ Mut ρ objs l) (hf_ ρ l) us.toArray w (by simp [a1,hlen]) (fun j x u hj hu=>a2 j x u hj (by simpa using hu)) (yb_ HC S hn hl)).mono ?_
   rintro e w' ⟨v,ρ',rfl,h1,h2,h3,h4,h5⟩
   obtain ⟨b1,b2⟩:=Aj_ HC S hn hl h2 h3
   exact ⟨_,v,_,_,rfl,h,b1,b2 _ _ h4 h5 h1⟩
end
end Km
namespace Km
open Go
set_option linter.unusedVariables false
set_option linter.unusedSimpArgs false
variable {κ:Type} {Ty:κ→Type} {R:Type}
section
variable {P:Program} {C:Cod κ Ty} {T:TypeId→Option (TI κ Ty)}
variable {Mut:Nat→Prop} {Lent:Org κ Ty} {w0 w w':World} {ρ ρ':Nat→Loc} {env:Env κ Ty} {objs objs' objs1:ap_ κ Ty} {tm:Array Value}
theorem SRel.mpset (S:SRel C Mut Lent w0 ρ env objs tm w) {id:Nat} {k v:κ} {es es':List (Ty k×Ty v)} {h h':Option (Nat×Option Nat)} (hid:objs[id]? =some (.mp k v es h))
    (hw:Weaker objs objs1) (hid1:objs1[id]? =objs[id]?) {sub':Nat→Nat×Nat×Nat}
    (hheap:∀b,b≠(ρ id).block→w'.heap[b]? =w.heap[b]?) (hsz:w'.heap.size=w.heap.size) (hos:w'.os=w.os) (htape:w'.tape=w.tape) (hout:w'.output=w.output)
    (hfoot:∀i,i<es'.length→(∀o,h'≠some (i,o))→(sub' i).2.2≠0→aq_ ρ objs id (sub' i).1∨∃j,objs1[j]? =some .dead∧aq_ ρ objs j (sub' i).1)
    (hrel:∀(W:WStep w w' (aV_ ρ objs) (aV_ (upd ρ id {ρ id with sub:=sub'}) (objs1.set id (.mp k v es' h')))) (hl:objs.length≤(objs1.set id (.mp k v es' h')).length)
      (hc:∀q,Compat ρ objs (upd ρ id {ρ id with sub:=sub'}) (objs1.set id (.mp k v es' h')) q),∃mes,MpRel C w' Mut (upd ρ id {ρ id with sub:=sub'}) (objs1.set id (.mp k v es' h')) {ρ id with sub:=sub'} k v es' h' mes):
    SRel C Mut Lent w0 (upd ρ id {ρ id with sub:=sub'}) env (objs1.set id (.mp k v es' h')) tm w'∧
      ∀(x:AV κ Ty) (u:Value),VRel C w Mut ρ objs x u→VRel C w' Mut (upd ρ id {ρ id with sub:=sub'}) (objs1.set id (.mp k v es' h')) x u:=by
  have hlt:id<objs1.length:=by rw [hw.1];exact (List.getElem?_eq_some_iff.mp hid).1
  have hset:(objs1.set id (.mp k v es' h'))[id]? =some (.mp k v es' h'):=by simp [hlt]
  have hne:∀q,q≠id→(objs1.set id (.mp k v es' h'))[q]? =objs1[q]? :=fun q h=>List.getElem?_set_ne (Ne.symm h)
  have hft:∀p b,aq_ (upd ρ id {ρ id with sub:=sub'}) (objs1.set id (.mp k v es' h')) p b→(p≠id∧aq_ ρ objs p b∧objs1[p]? =objs[p]?)∨(p=id∧(aq_ ρ objs id b∨∃j,objs1[j]? =some .dead∧aq_ ρ objs j b)):=fun p b hp=>by
    by_cases e:p=id
    ·subst e
     refine .inr ⟨rfl, ?_⟩
     unfold aq_ at hp
     rw [hset,aH_] at hp
     rcases hp with hp | ⟨i,h1,h2,h3,h4⟩
     ·refine .inl ?_
      unfold aq_;rw [hid];exact .inl hp
     ·rw [←h4];exact hfoot i h1 h2 h3
    ·refine .inl ⟨e, ?_⟩
     unfold aq_ at hp
     rw [hne p e,el_ _ _ _ e] at hp
     rcases hw.2 p with e' | e'
     ·rw [e'] at hp;exact ⟨hp,e'⟩
     ·rw [e'] at hp;exact hp.elim
  have hback:∀p b,aq_ (upd ρ id {ρ id with sub:=sub'}) (objs1.set id (.mp k v es' h')) p b→aV_ ρ objs b:=fun p b hp=>by
    rcases hft p b hp with ⟨_,h,_⟩ | ⟨_,h | ⟨j,_,h⟩⟩
    ·exact ⟨p,h⟩
    ·exact ⟨_,h⟩
    ·exact ⟨j,h⟩
  have hmap:aq_ ρ objs id (ρ id).block:=by unfold aq_;rw [hid];exact .inl rfl
  have W:WStep w w' (aV_ ρ objs) (aV_ (upd ρ id {ρ id with sub:=sub'}) (objs1.set id (.mp k v es' h'))):=
    ⟨fun b _ hn=>hheap b (fun e=>hn ⟨id,by rw [e];exact hmap⟩),by omega,fun b ⟨p,hp⟩=> .inl (hback p b hp)⟩
  have hl:objs.length≤(objs1.set id (.mp k v es' h')).length:=by simp [hw.1]
  have hc:∀q,Compat ρ objs (upd ρ id {ρ id with sub:=sub'}) (objs1.set id (.mp k v es' h')) q:=fun q=>by
    by_cases e:q=id
    ·subst e;unfold Compat;rw [hid];exact .inl ⟨_,_,hset,by rw [aH_]⟩
    ·have hcw:=hw.compat (ρ:=ρ) q
     unfold Compat at hcw⊢
     have e1:(objs1.set id (.mp k v es' h'))[q]? =objs1[q]? :=hne q e
     have gone:yr_ objs1 q→yr_ (objs1.set id (.mp k v es' h')) q:=fun ⟨g1,g2,g3⟩=>by
       refine ⟨?_, ?_, ?_⟩
       ·unfold fU_ at g1⊢;rw [e1];exact g1
       ·unfold hb_ at g2⊢;rw [e1];exact g2
       ·unfold ti_ at g3⊢;rw [e1];exact g3
     rw [el_ _ _ _ e,e1]
     split
     ·rename_i cs eo;rw [eo] at hcw;exact hcw.imp (fun h=>h) gone
     ·rename_i t xs eo;rw [eo] at hcw;exact hcw.imp (fun h=>h) gone
     ·rename_i k' v' es2 ho2 eo;rw [eo] at hcw;exact hcw.imp (fun h=>h) gone
     ·rename_i eo;rw [eo] at hcw;exact gone hcw
     ·trivial
  refine ⟨S.step W hl hc (fun q=> ?_) (fun p q b hp hq=> ?_) hos htape hout,fun x u hx=>hx.step W hl hc⟩
  ·by_cases e:q=id
   ·subst e
    obtain ⟨mes,hm⟩:=hrel W hl hc
    unfold ORel
    rw [hset,aH_]
    exact ⟨mes,hm⟩
   ·rcases hw.2 q with e' | e'
    ·refine ORel.step W hl hc (S.ob q) (by rw [hne q e,e']) (el_ _ _ _ e) (fun b hb=>hheap b fun eb=> ?_)
     rw [eb] at hb
     exact e (S.inj _ _ _ hb hmap)
    ·unfold ORel;rw [hne q e,e'];trivial
  ·have dead:∀j b,objs1[j]? =some .dead→∀p,objs1[p]? =objs[p]? →aq_ ρ objs p b→aq_ ρ objs j b→False:=fun j b hj p hp1 hp hjb=>by
     have:=S.inj _ _ _ hp hjb
     subst this
     unfold aq_ at hp;rw [←hp1,hj] at hp;exact hp
   rcases hft p b hp with ⟨a1,a2,a3⟩ | ⟨a1,a2⟩<;>rcases hft q b hq with ⟨b1,b2,b3⟩ | ⟨b1,b2⟩
   ·exact S.inj _ _ _ a2 b2
   ·rcases b2 with b2 | ⟨j,j1,j2⟩
    ·exact absurd (S.inj _ _ _ a2 b2) a1
    ·exact (dead j b j1 p a3 a2 j2).elim
   ·rcases a2 with a2 | ⟨j,j1,j2⟩
    ·exact absurd (S.inj _ _ _ b2 a2) b1
    ·exact (dead j b j1 q b3 b2 j2).elim
   ·rw [a1,b1]
theorem MpRel.put {L:Loc} {k v:κ} {es:List (Ty k×Ty v)} {h:Option (Nat×Option Nat)} {mes mes':Array MapEntry} (H:MpRel C w Mut ρ objs L k v es h mes) {n:Nat} {e:Ty k×Ty v} (he:es[n]? =some e)
    (hh:∀i o,h=some (i,o)→i=n) {y:Ty v} {L':Nat×Nat×Nat} {val:Value}
    (W:WStep w w' (aV_ ρ objs) (aV_ ρ' objs')) (hl:objs.length≤objs'.length) (hc:∀q,Compat ρ objs ρ' objs' q) (hheap:∀b,b≠L.block→w'.heap[b]? =w.heap[b]?)
    (hat:w'.heap[L.block]? =some (.map mes' mes'.size)) (hs:mes'.size=mes.size) (ho:∀q,q≠n→mes'[q]? =mes[q]?) (hn:∀me,mes[n]? =some me→∃me',mes'[n]? =some me'∧me'.key=me.key∧me'.born=me.born∧me'.val=val)
    (hv:EntR C w' Mut ρ' objs' L' (C.enc v y) val) (hd:∀i,i<es.length→i≠n→(∀o,h≠some (i,o))→(L.sub i).2.2≠0→L'.2.2≠0→(L.sub i).1≠L'.1) (hb:L'.2.2≠0→L'.1≠L.block):
    MpRel C w' Mut ρ' objs' {L with sub:=fun q=>if q=n then L' else L.sub q} k v (es.set n (e.1,y)) none mes':=by
  have hlt:=(List.getElem?_eq_some_iff.mp he).1
  have hset:∀q e',(es.set n (e.1,y))[q]? =some e'→(q=n∧e'=(e.1,y))∨(q≠n∧es[q]? =some e'):=fun q e' hq=>by
    by_cases eq:q=n
    ·subst eq;simp [hlt] at hq;exact .inl ⟨rfl,hq.symm⟩
    ·rw [List.getElem?_set_ne (Ne.symm eq)] at hq;exact .inr ⟨eq,hq⟩
  have hno:∀q,q≠n→∀o,h≠some (q,o):=fun q hq o ho=>hq (hh q o ho)
  refine ⟨by simp [hs,H.size],hat,fun q e' hq=> ?_,fun q e' me hq hm _=> ?_,fun q o me hq=>(by cases hq),fun q o hq=>(by cases hq),fun q hq _ hcap=> ?_,fun p q hp hq _ _ hcp hcq hpq=> ?_⟩
  ·rcases hset q e' hq with ⟨rfl,rfl⟩ | ⟨hqn,hq⟩
   ·obtain ⟨h1,me,h2,h3,h4⟩:=H.key q e he
    obtain ⟨me',g1,g2,g3,_⟩:=hn me h2
    exact ⟨h1,me',g1,by rw [g3,h3],by rw [g2];exact h4.step W hl hc⟩
   ·obtain ⟨h1,me,h2,h3,h4⟩:=H.key q e' hq
    exact ⟨h1,me,by rw [ho q hqn];exact h2,h3,h4.step W hl hc⟩
  ·rcases hset q e' hq with ⟨rfl,rfl⟩ | ⟨hqn,hq⟩
   ·obtain ⟨_,me0,h2,_⟩:=H.key q e he
    obtain ⟨me',g1,_,_,g4⟩:=hn me0 h2
    rw [g1] at hm;cases hm
    simp only [if_true]
    rw [g4];exact hv
   ·rw [ho q hqn] at hm
    simp only [if_neg hqn]
    refine (H.val q e' me hq hm (hno q hqn)).step W hl hc fun b hb1 hb2=>hheap b fun eb=> ?_
    exact H.own q (List.getElem?_eq_some_iff.mp hq).1 (hno q hqn) hb1 (by rw [hb2,eb])
  ·simp only [List.length_set] at hq
   by_cases eq:q=n
   ·subst eq;simp only [if_true] at hcap⊢;exact hb hcap
   ·simp only [if_neg eq] at hcap⊢;exact H.own q hq (hno q eq) hcap
  ·simp only [List.length_set] at hp hq
   by_cases ep:p=n<;>by_cases eq:q=n
   ·rw [ep,eq]
   ·subst ep;simp only [if_true,if_neg eq] at hcp hcq hpq
    exact absurd hpq.symm (hd q hq eq (hno q eq) hcq hcp)
   ·subst eq;simp only [if_true,if_neg ep] at hcp hcq hpq
    exact absurd hpq (hd p hp ep (hno p ep) hcp hcq)
   ·simp only [if_neg ep,if_neg eq] at hcp hcq hpq
    exact H.disj p q hp hq (hno p ep) (hno q eq) hcp hcq hpq
theorem t2_ {j:Nat} {s:κ} {xs:List (Ty s)} (h:objs[j]? =some (.sl s xs)) {u:Value} (hv:VRel C w Mut ρ objs (.own j) u):∃A,u= .slice A xs.length (ρ j).cap∧((ρ j).cap≠0→A=some (at' (ρ j).block (ρ j).off)):=by
  cases hv with
  | own h1 hA=>rw [h] at h1;cases h1;exact ⟨_,rfl,hA⟩
  | ownd hc hin h1=>rw [C8_ h] at h1;cases h1
theorem jF_ (HC:a4_ C) (S:SRel C Mut Lent w0 ρ env objs tm w) (id:Nat):
    ∃ρ',SRel C Mut Lent w0 ρ' env (kw_ C id objs) tm w∧∀(x:AV κ Ty) (u:Value),VRel C w Mut ρ objs x u→VRel C w Mut ρ' (kw_ C id objs) x u:=by
  unfold kw_
  split
  ·rename_i k v es i j hid
   split
   ·rename_i s xs hsl
    split
    ·exact ⟨ρ,S,fun _ _ h=>h⟩
    ·rename_i hne
     split
     ·rename_i y hdec
      have hne:id≠j:=fun e=>by subst e;simp at hne
      have hso:=S.ob id
      simp only [ORel,hid] at hso
      obtain ⟨mes,H⟩:=hso
      have hi:=H.hlt i _ rfl
      have he:es[i]? =some es[i]:=List.getElem?_eq_getElem hi
      have hm:mes[i]? =some (mes[i]'(by rw [H.size];exact hi)):=Array.getElem?_eq_getElem _
      have hv:=(H.hole i (some j) _ rfl hm).2 j rfl
      have hsl':=bx_ hsl
      have hjo:=S.ob j
      simp only [ORel,hsl'] at hjo
      have hjo:SlAt C w Mut ρ objs (ρ j).block (ρ j).off (ρ j).cap s xs:=hjo
      have hmod:es.modify i (fun e=>(e.1,y))=es.set i (es[i].1,y):=by
        apply List.ext_getElem?
        intro q
        rw [List.getElem?_modify,List.getElem?_set]
        by_cases e:i=q
        ·subst e;simp [hi]
        ·simp [e]
      rw [hmod]
      have hfj:(ρ j).cap≠0→aq_ ρ objs j (ρ j).block:=fun hcap=>cj_ hsl' hcap
      have hfi:∀q,q<es.length→(∀o,some (i,some j)≠some (q,o))→((ρ id).sub q).2.2≠0→aq_ ρ objs id ((ρ id).sub q).1:=fun q h1 h2 h3=>by
        unfold aq_;rw [hid];exact .inr ⟨q,h1,h2,h3,rfl⟩
      have hfb:aq_ ρ objs id (ρ id).block:=by unfold aq_;rw [hid];exact .inl rfl
      refine ⟨_,SRel.mpset S hid (objs1:=objs.set j .dead) (.kill objs j) (List.getElem?_set_ne (Ne.symm hne)) (sub':=fun q=>if q=i then ((ρ j).block,(ρ j).off,(ρ j).cap) else (ρ id).sub q) (fun _ _=>rfl) rfl rfl rfl rfl
        (fun q hq _ hcap=> ?_) (fun W hl hc=>⟨mes,H.put he (fun i' o ho=>by cases ho;rfl) (val:=(mes[i]'(by rw [H.size];exact hi)).val) W hl hc (fun _ _=>rfl) H.at_ rfl (fun _ _=>rfl) (fun me hme=>⟨me,hme,rfl,rfl, ?_⟩) ?_ (fun q hq hqi hn hcq hcj e=> ?_) (fun hcj e=> ?_)⟩)⟩
      ·by_cases e:q=i
       ·subst e
        simp only [if_true] at hcap⊢
        have hj:=(List.getElem?_eq_some_iff.mp hsl').1
        exact .inr ⟨j,by simp [hj],hfj hcap⟩
       ·simp only [if_neg e] at hcap⊢
        simp only [List.length_set] at hq
        exact .inl (hfi q hq (fun o ho=>by cases ho;exact e rfl) hcap)
      ·rw [hm] at hme;cases hme;rfl
      ·rw [HC.dec _ _ _ hdec]
       obtain ⟨A,h1,h2⟩:=t2_ hsl' hv
       exact ⟨A,h1,h2,hjo.step W hl hc (fun _=>rfl)⟩
      ·have h1:=hfi q hq hn hcq
       have h2:=hfj hcj
       dsimp only at e
       rw [e] at h1
       exact hne (S.inj _ _ _ h1 h2)
      ·have h2:=hfj hcj
       dsimp only at e
       rw [e] at h2
       exact hne (S.inj _ _ _ hfb h2)
     ·exact ⟨ρ,S,fun _ _ h=>h⟩
   ·exact ⟨ρ,S,fun _ _ h=>h⟩
  ·exact ⟨ρ,S,fun _ _ h=>h⟩
theorem ld_ (HC:a4_ C):∀(n:Nat) (objs:ap_ κ Ty) (ρ:Nat→Loc),SRel C Mut Lent w0 ρ env objs tm w→
    ∃ρ',SRel C Mut Lent w0 ρ' env (qy_ C n objs) tm w∧∀(x:AV κ Ty) (u:Value),VRel C w Mut ρ objs x u→VRel C w Mut ρ' (qy_ C n objs) x u
  | 0,objs,ρ,S=>⟨ρ,S,fun _ _ h=>h⟩
  | n+1,objs,ρ,S=>by
    obtain ⟨ρ1,a1,a2⟩:=jF_ HC S n
    obtain ⟨ρ2,b1,b2⟩:=ld_ HC n _ ρ1 a1
    exact ⟨ρ2,b1,fun x u h=>b2 x u (a2 x u h)⟩
theorem SRel.mpout (S:SRel C Mut Lent w0 ρ env objs tm w) {id:Nat} {k v:κ} {es:List (Ty k×Ty v)} (hid:objs[id]? =some (.mp k v es none)) {mes:Array MapEntry} (H:MpRel C w Mut ρ objs (ρ id) k v es none mes)
    {i:Nat} {e:Ty k×Ty v} (he:es[i]? =some e) {b:Bool} {s:κ} {xs:List (Ty s)} (henc:C.enc v e.2=[.inl b s xs]) {me:MapEntry} (hm:mes[i]? =some me):
    ∃ρ',SRel C Mut Lent w0 ρ' env (objs.set id (.mp k v es (some (i,some objs.length)))++[.sl s xs]) tm w∧VRel C w Mut ρ' (objs.set id (.mp k v es (some (i,some objs.length)))++[.sl s xs]) (.own objs.length) me.val∧
     ∀(x:AV κ Ty) (u:Value),VRel C w Mut ρ objs x u→VRel C w Mut ρ' (objs.set id (.mp k v es (some (i,some objs.length)))++[.sl s xs]) x u:=by
  have hlt:=(List.getElem?_eq_some_iff.mp hid).1
  have hil:=(List.getElem?_eq_some_iff.mp he).1
  have hv:=H.val i e me he hm (fun o h=>by cases h)
  rw [henc] at hv
  obtain ⟨A,hv1,hv2,hv3⟩:=hv
  generalize hO:objs.set id (.mp k v es (some (i,some objs.length)))++[AObj.sl s xs]=O
  generalize hρ:upd ρ objs.length ⟨((ρ id).sub i).1,((ρ id).sub i).2.1,((ρ id).sub i).2.2,noSub⟩=ρ'
  have hlen:(objs.set id (AObj.mp k v es (some (i,some objs.length)))).length=objs.length:=by simp
  have o_new:O[objs.length]? =some (.sl s xs):=by
    rw [←hO,List.getElem?_append_right (by simp)];simp
  have o_id:O[id]? =some (.mp k v es (some (i,some objs.length))):=by
    rw [←hO,c9_ (by rw [hlen];exact hlt)];simp [hlt]
  have o_else:∀q,q≠id→q<objs.length→O[q]? =objs[q]? :=fun q h1 h2=>by
    rw [←hO,c9_ (by rw [hlen];exact h2),List.getElem?_set_ne (Ne.symm h1)]
  have o_out:∀q,objs.length<q→O[q]? =none:=fun q h=>by
    rw [←hO];exact List.getElem?_eq_none (by simp;omega)
  have r_new:ρ' objs.length=⟨((ρ id).sub i).1,((ρ id).sub i).2.1,((ρ id).sub i).2.2,noSub⟩:=by rw [←hρ,aH_]
  have r_else:∀q,q<objs.length→ρ' q=ρ q:=fun q h=>by rw [←hρ];exact el_ _ _ _ (by omega)
  have hblk:aq_ ρ objs id (ρ id).block:=by unfold aq_;rw [hid];exact .inl rfl
  have hent:∀q,q<es.length→((ρ id).sub q).2.2≠0→aq_ ρ objs id ((ρ id).sub q).1:=fun q h1 h3=>by
    unfold aq_;rw [hid];exact .inr ⟨q,h1,fun o h=>(by cases h),h3,rfl⟩
  have hft:∀p b,aq_ ρ' O p b→(p<objs.length∧p≠id∧aq_ ρ objs p b)∨(p=id∧aq_ ρ objs id b∧(((ρ id).sub i).2.2≠0→b≠((ρ id).sub i).1))∨(p=objs.length∧((ρ id).sub i).2.2≠0∧b=((ρ id).sub i).1∧aq_ ρ objs id b):=fun p b hp=>by
    unfold aq_ at hp
    by_cases e1:p=id
    ·subst e1
     rw [o_id,r_else p hlt] at hp
     refine .inr (.inl ⟨rfl, ?_⟩)
     rcases hp with hp | ⟨q,h1,h2,h3,h4⟩
     ·rw [←hp];exact ⟨hblk,fun hc=>Ne.symm (H.own i hil (fun o h=>(by cases h)) hc)⟩
     ·have hqi:q≠i:=fun e=>h2 _ (by rw [e])
      rw [←h4]
      exact ⟨hent q h1 h3,fun hc e=>hqi (H.disj q i h1 hil (fun o h=>(by cases h)) (fun o h=>(by cases h)) h3 hc e)⟩
    ·by_cases e2:p<objs.length
     ·rw [o_else p e1 e2,r_else p e2] at hp
      exact .inl ⟨e2,e1,hp⟩
     ·by_cases e3:p=objs.length
      ·subst e3
       rw [o_new,r_new] at hp
       exact .inr (.inr ⟨rfl,hp.1,hp.2.symm,by rw [←hp.2];exact hent i hil hp.1⟩)
      ·rw [o_out p (by omega)] at hp;exact hp.elim
  have W:WStep w w (aV_ ρ objs) (aV_ ρ' O):=WStep.same fun b ⟨p,hp⟩=>by
    rcases hft p b hp with ⟨_,_,h⟩ | ⟨_,h,_⟩ | ⟨_,_,_,h⟩
    ·exact ⟨p,h⟩
    ·exact ⟨id,h⟩
    ·exact ⟨id,h⟩
  have hl:objs.length≤O.length:=by rw [←hO];simp
  have hc:∀q,Compat ρ objs ρ' O q:=fun q=>by
    by_cases e1:q=id
    ·subst e1;unfold Compat;rw [hid];exact .inl ⟨_,_,o_id,by rw [r_else _ hlt]⟩
    ·exact Compat.of_eq (fun h=>o_else q e1 h) (fun h=>r_else q h)
  have hown:VRel C w Mut ρ' O (.own objs.length) me.val:=by
    have:=VRel.own (C:=C) (w:=w) (Mut:=Mut) (ρ:=ρ') (A:=A) o_new (fun h=>by rw [r_new] at h⊢;exact hv2 h)
    rw [r_new] at this
    rw [hv1];exact this
  refine ⟨ρ',S.step W hl hc (fun q=> ?_) (fun p q b hp hq=> ?_) rfl rfl rfl,hown,fun x u hx=>hx.step W hl hc⟩
  ·by_cases e1:q=id
   ·subst e1
    unfold ORel
    rw [o_id,r_else _ hlt]
    refine ⟨mes,H.size,H.at_,fun q' e' he'=> ?_,fun q' e' me' he' hm' hn=> ?_,fun q' o me' ho hm'=> ?_,fun q' o ho=> ?_,fun q' hq' _=>H.own q' hq' (fun o h=>by cases h),fun p' q' hp' hq' _ _=>H.disj p' q' hp' hq' (fun o h=>by cases h) (fun o h=>by cases h)⟩
    ·obtain ⟨h1,me',h2,h3,h4⟩:=H.key q' e' he'
     exact ⟨h1,me',h2,h3,h4.step W hl hc⟩
    ·exact (H.val q' e' me' he' hm' (fun o h=>by cases h)).step W hl hc (fun _ _ _=>rfl)
    ·cases ho
     rw [hm] at hm';cases hm'
     exact ⟨by rw [hv1];rfl,fun j hj=>by cases hj;exact hown⟩
    ·cases ho;exact hil
   ·by_cases e2:q<objs.length
    ·exact ORel.step W hl hc (S.ob q) (o_else q e1 e2) (r_else q e2) (fun _ _=>rfl)
    ·by_cases e3:q=objs.length
     ·subst e3
      unfold ORel
      rw [o_new,r_new]
      exact hv3.step W hl hc (fun _=>rfl)
     ·unfold ORel;rw [o_out q (by omega)];trivial
  ·rcases hft p b hp with ⟨a1,a2,a3⟩ | ⟨a1,a2,a3⟩ | ⟨a1,a2,a3,a4⟩<;>rcases hft q b hq with ⟨b1,b2,b3⟩ | ⟨b1,b2,b3⟩ | ⟨b1,b2,b3,b4⟩
   ·exact S.inj _ _ _ a3 b3
   ·exact absurd (S.inj _ _ _ a3 b2) a2
   ·exact absurd (S.inj _ _ _ a3 b4) a2
   ·exact absurd (S.inj _ _ _ b3 a2) b2
   ·rw [a1,b1]
   ·exact absurd b3 (a3 b2)
   ·exact absurd (S.inj _ _ _ b3 a4) b2
   ·exact absurd a3 (b3 a2)
   ·rw [a1,b1]
theorem hU_ {α β:Type} {q:α→Bool}:∀{es:List (α×β)} {n:Nat} {p:Nat×β},a3_ q es n=some p→n≤p.1∧∃a,es[p.1-n]? =some (a,p.2)∧q a=true
  | [],n,p,h=>by cases h
  | (a,b)::es,n,p,h=>by
    simp only [a3_] at h
    split at h
    ·rename_i hq;cases h;exact ⟨Nat.le_refl _,a,by simp,hq⟩
    ·obtain ⟨h1,a',h2,h3⟩:=hU_ h
     refine ⟨by omega,a', ?_,h3⟩
     rw [show p.1-n=(p.1-(n+1))+1 by omega];simpa using h2
theorem r8_ {em:Bool} {n:Nat} {t:TypeId} {u:Value} (h:P.underlying t=some .string∨∃q,P.underlying t=some (.int q)):(Instr.checkKey em (n+1) t u).run P w= .ok () w:=by
  rcases h with h | ⟨q,h⟩<;>unfold Instr.checkKey<;>simp only [Sem.run_bind,run_underlying h,Result.andThen_ok]<;>cases u<;>rfl
theorem jl_ (HT:TOk P C T) {t kt et:TypeId} {ti:TI κ Ty} {k v:κ} (ht:T t=some ti) (hs:ti.shp= .map kt et k v) {x:Ty k} {u:Value} (hu:VRel C w Mut ρ objs (.agg (C.enc k x)) u) (em:Bool):
    (Instr.checkKey em 10000 kt u).run P w= .ok () w:=by
  obtain ⟨_,haeq,⟨tk,fs,hk1,hk2,hk3⟩,_⟩:=HT.map t ti kt et k v ht hs
  have ha:=haeq x x
  obtain ⟨fields,hund,hfs,_⟩:=HT.struct kt tk fs hk1 hk2
  obtain ⟨_,_,hnm⟩:=HT.seq kt tk fs hk1 hk2
  have hnm:=hnm fields hund
  unfold aeq at ha
  rw [hk1] at ha;dsimp only at ha
  rw [hk2] at ha;dsimp only at ha
  cases hu with
  | agg l1 c1 r1=>
    rename_i us
    rw [show (10000:Nat)=9999+1 from rfl,Instr.checkKey]
    simp only [Sem.run_bind,run_underlying hund,Result.andThen_ok]
    rw [←Array.forIn_toList]
    rw [←hfs] at ha hk3
    generalize C.keq k x x=b0 at ha
    generalize fields.toList=L at ha hk3 hnm
    induction L generalizing b0 with
    | nil=>simp
    | cons f L ih=>
      simp only [List.map_cons,zd_] at ha
      split at ha
      ·rename_i tf htf
       split at ha
       ·rename_i p q hp hq
        split at ha
        ·rename_i r hr
         split at ha
         ·rename_i r' hr'
          obtain ⟨a,a1,a2⟩:=j3_ (P:=P) HT htf ⟨l1,c1,r1⟩ hp
          obtain ⟨tf',g1,g2⟩:=hk3 _ (List.mem_cons_self ..)
          rw [htf] at g1;cases g1
          have hflat:P.underlying f.type=some .string∨∃q,P.underlying f.type=some (.int q):=by
            rcases g2 with ⟨q,hq⟩ | hq
            ·exact .inr ⟨q,HT.int _ _ _ htf hq⟩
            ·exact .inl (HT.str _ _ htf hq)
          have hn:=hnm f (List.mem_cons_self ..)
          have hck:(Instr.checkKey em 9999 f.type a).run P w= .ok () w:=r8_ (n:=9998) hflat
          simp only [List.forIn_cons,Sem.run_bind,hn,ne_eq,not_false_eq_true,if_true,Result.andThen_ok,a1,hck,Sem.run_pure]
          exact ih r' hr' (fun g hg=>hk3 g (List.mem_cons_of_mem _ hg)) (fun g hg=>hnm g (List.mem_cons_of_mem _ hg))
         ·cases ha
        ·cases ha
       ·cases ha
      ·cases ha
theorem kh_ (HT:TOk P C T) {kt:TypeId} {k v:κ} (haeq:∀x y,aeq T 8 kt (.agg (C.enc k x)) (.agg (C.enc k y))=some (C.keq k x y)) {x:Ty k} {u:Value} (hu:VRel C w Mut ρ objs (.agg (C.enc k x)) u):
    ∀(es:List (Ty k×Ty v)) (ms:List MapEntry) (n:Nat),ms.length=es.length→(∀(q:Nat) (e:Ty k×Ty v),es[q]? =some e→∃me:MapEntry,ms[q]? =some me∧VRel C w Mut ρ objs (.agg (C.enc k e.1)) me.key)→
     (Instr.findAsking kt u ms n).run P w= .ok ((a3_ (C.keq k x) es n).map fun p=>(p.1,((ms[p.1-n]?).map (·.val)).getD default)) w
  | [],[],n,_,_=>by simp [Instr.findAsking,a3_]
  | [],_::_,_,h,_=>by simp at h
  | _::_,[],_,h,_=>by simp at h
  | e::es,m::ms,n,hl,hr=>by
    obtain ⟨me,h1,h2⟩:=hr 0 e rfl
    simp only [List.getElem?_cons_zero,Option.some.injEq] at h1
    subst h1
    have he:(Op.equal kt u m.key).run P w= .ok (C.keq k x e.1) w:=pV_ (P:=P) HT 8 9992 kt _ _ _ _ _ (haeq x e.1) hu h2
    have ih:=kh_ HT haeq hu es ms (n+1) (by simpa using hl) (fun q e' hq=>hr (q+1) e' (by simpa using hq))
    obtain ⟨a,b⟩:=e
    simp only [Instr.findAsking,Sem.run_bind,he,Result.andThen_ok,a3_]
    cases hk:C.keq k x a with
    | true=>simp
    | false=>
      simp only [Bool.false_eq_true,if_false]
      rw [ih]
      cases hm:a3_ (C.keq k x) es (n+1) with
      | none=>rfl
      | some p=>
        obtain ⟨h1,_⟩:=hU_ hm
        simp only [Option.map_some]
        rw [show p.1-n=(p.1-(n+1))+1 by omega,List.getElem?_cons_succ]
theorem k9_ (HT:TOk P C T) {t kt et:TypeId} {ti:TI κ Ty} {k v:κ} (ht:T t=some ti) (hs:ti.shp= .map kt et k v) {x:Ty k} {u:Value} (hu:VRel C w Mut ρ objs (.agg (C.enc k x)) u) {L:Loc} {es:List (Ty k×Ty v)} {h:Option (Nat×Option Nat)}
    {mes:Array MapEntry} (H:MpRel C w Mut ρ objs L k v es h mes):(Instr.findKey kt u mes.toList).run P w= .ok ((a3_ (C.keq k x) es 0).map fun p=>(p.1,((mes[p.1]?).map (·.val)).getD default)) w:=by
  obtain ⟨_,haeq,⟨tk,fs,hk1,hk2,hk3⟩,_⟩:=HT.map t ti kt et k v ht hs
  obtain ⟨fields,hund,_⟩:=HT.struct kt tk fs hk1 hk2
  rw [run_findKey_eq (P:=P) (w:=w) (k:=kt) (by rw [hund])]
  have:=kh_ (v:=v) HT haeq hu es mes.toList 0 (by simp [H.size]) (fun q e hq=>by
    obtain ⟨_,me,h1,_,h3⟩:=H.key q e hq
    exact ⟨me,by simpa using h1,h3⟩)
  rw [this];simp
theorem oE_ (HC:a4_ C) {kt et:TypeId} {k v:κ} {m key:AV κ Ty} {K:Nat→(k v:κ)→List (Ty k×Ty v)→Ty k→Option R} {r:R} (h:Ax_ C objs (.map kt et k v) m key K=some r):
    ∃id es x,m= .mapv id∧objs[id]? =some (.mp k v es none)∧key= .agg (C.enc k x)∧K id k v es x=some r:=by
  unfold Ax_ at h
  split at h
  ·rename_i kt' et' k1 v1 id hsh
   cases hsh
   split at h
   ·rename_i k' v' es hid
    split at h
    ·rename_i hsame
     simp only [Bool.and_eq_true] at hsame
     have e1:=HC.same _ _ hsame.1
     have e2:=HC.same _ _ hsame.2
     subst e1;subst e2
     split at h
     ·rename_i ks _
      split at h
      ·rename_i x hx
       exact ⟨id,es,x,rfl,hid,by rw [HC.dec _ _ _ hx],h⟩
      ·cases h
     ·cases h
    ·cases h
   ·cases h
  ·cases h
theorem os_ {id:Nat} {k v:κ} {es:List (Ty k×Ty v)} {h:Option (Nat×Option Nat)} (hid:objs[id]? =some (.mp k v es h)) {u:Value} (hu:VRel C w Mut ρ objs (.mapv id) u):u= .map (some (ρ id).block):=by
  cases hu with
  | mapv h1=>rfl
  | mapd hc hin h1=>rw [CF_ hid] at h1;cases h1
theorem C1_ {cs:List (AV κ Ty)} (hl:∀c∈cs,∃v,c= .lit v) {u1 u2:Value} (h1:VRel C w Mut ρ objs (.agg cs) u1) (h2:VRel C w Mut ρ objs (.agg cs) u2):u1=u2:=by
  cases h1 with
  | agg l1 c1 r1=>
    cases h2 with
    | agg l2 c2 r2=>
      rename_i us qs
      congr 1
      have:us=qs:=by
        apply List.ext_getElem?
        intro j
        by_cases hj:j<cs.length
        ·have e1:us[j]? =some (us[j]'(by omega)):=List.getElem?_eq_getElem _
         have e2:qs[j]? =some (qs[j]'(by omega)):=List.getElem?_eq_getElem _
         have ec:cs[j]? =some cs[j]:=List.getElem?_eq_getElem hj
         obtain ⟨v,hv⟩:=hl cs[j] (List.getElem_mem hj)
         rw [hv] at ec
         have g1:=(aR_ (r1 j _ _ ec e1)).1
         have g2:=(aR_ (r2 j _ _ ec e2)).1
         rw [e1,e2,g1,g2]
        ·rw [List.getElem?_eq_none (by omega),List.getElem?_eq_none (by omega)]
      rw [this]
theorem sI_ {cs:List (AV κ Ty)} (hl:∀c∈cs,(∃q n,c= .lit (.int q n))∨∃s,c= .lit (.string s)) {u:Value} (h1:VRel C w Mut ρ objs (.agg cs) u) (n:Nat):Instr.sameBits (n+1) u u=true:=by
  cases h1 with
  | agg l1 c1 r1=>
    rename_i us
    simp only [Instr.sameBits,beq_self_eq_true,Bool.true_and,List.all_eq_true]
    intro p hp
    obtain ⟨j,hj⟩:=List.getElem?_of_mem hp
    simp only [List.getElem?_zip_eq_some] at hj
    obtain ⟨h1,h2⟩:=hj
    have hjl:j<cs.length:=by have:=(List.getElem?_eq_some_iff.mp h1).1;omega
    have ec:cs[j]? =some cs[j]:=List.getElem?_eq_getElem hjl
    have e12:p.1=p.2:=by rw [h1] at h2;exact Option.some.inj h2
    rcases hl cs[j] (List.getElem_mem hjl) with ⟨q,m,hv⟩ | ⟨s,hv⟩
    ·rw [hv] at ec
     have g1:=(aR_ (r1 j _ _ ec h1)).1
     rw [←e12,g1];cases n<;>simp [Instr.sameBits]
    ·rw [hv] at ec
     have g1:=(aR_ (r1 j _ _ ec h1)).1
     have hss:(s==s)=true:=by simp [MapKept.bytes_beq]
     rw [←e12,g1];cases n<;>simp [Instr.sameBits,hss]
theorem ss_ (S:SRel C Mut Lent w0 ρ env objs tm w) (t:TypeId) (k v:κ):
    ∃u w' ρ',(Instr.makeMap t none).run P w= .ok u w'∧SRel C Mut Lent w0 ρ' env (objs++[.mp k v [] none]) tm w'∧VRel C w' Mut ρ' (objs++[.mp k v [] none]) (.mapv objs.length) u:=by
  refine ⟨.map (some w.heap.size),w.alloc (.map #[] 0),upd ρ objs.length ⟨w.heap.size,0,0,noSub⟩, ?_, ?_, ?_⟩
  ·rfl
  ·refine (S.fresh (o:= .mp k v [] none) (l:=⟨w.heap.size,0,0,noSub⟩) (w':=w.alloc (.map #[] 0)) (fun b h=>bB_ w _ h) (by simp) (Nat.le_refl _) (fun W=> ?_) rfl rfl rfl).2
   unfold ORel
   rw [bi_,aH_]
   refine ⟨#[],rfl, ?_,fun i e h=>by simp at h,fun i e me h=>by simp at h,fun i o me h=>(by cases h),fun i o h=>(by cases h),fun i h=>by simp at h,fun i j h=>by simp at h⟩
   exact (MapKept.heap_alloc w (.map #[] 0)).1
  ·have:=VRel.mapv (C:=C) (w:=w.alloc (.map #[] 0)) (Mut:=Mut) (ρ:=upd ρ objs.length ⟨w.heap.size,0,0,noSub⟩) (bi_ objs (.mp k v [] none))
   rw [aH_] at this
   exact this
theorem rt_ (S:SRel C Mut Lent w0 ρ env objs tm w) {id:Nat} {k v:κ} {es:List (Ty k×Ty v)} (hid:objs[id]? =some (.mp k v es none)) {mes:Array MapEntry} (H:MpRel C w Mut ρ objs (ρ id) k v es none mes)
    {p:Nat×Ty v} {e:Ty k×Ty v} (he:es[p.1]? =some e) (hp:e.2=p.2) {me:MapEntry} (hm:mes[p.1]? =some me) {K:AV κ Ty→ap_ κ Ty→Option R} {r:R} (h:BB_ C objs id k v es p K=some r):
    ∃x objs' ρ',K x objs'=some r∧SRel C Mut Lent w0 ρ' env objs' tm w∧VRel C w Mut ρ' objs' x me.val:=by
  unfold BB_ at h
  split at h
  ·rename_i u henc
   have hv:=H.val p.1 e me he hm (fun o h=>by cases h)
   rw [hp,henc] at hv
   refine ⟨_,_,ρ,h,S, ?_⟩
   rw [hv.1];exact .lit hv.2.1
  ·rename_i b s xs henc
   obtain ⟨ρ',g1,g2,_⟩:=S.mpout hid H he (by rw [hp];exact henc) hm
   exact ⟨_,_,ρ',h,g1,g2⟩
  ·cases h
theorem Ba_ {et:TypeId} {i:TypeInfo} {z:Value} (h1:P.info? et=some i) (h2:i.zero=some z):(zeroValue et).run P w= .ok z w:=by
  simp [zeroValue,sx_ h1,h2]
theorem yT_ {z:Value} (h:aW_ z=true):z.cells= #[z]:=by
  cases z<;>first | rfl | cases h
theorem ww_ (HT:TOk P C T) {t kt et:TypeId} {ti te:TI κ Ty} {k v:κ} (ht:T t=some ti) (hs:ti.shp= .map kt et k v) (hte:T et=some te) {z:AV κ Ty} (hz:te.zero=[z]):
    ∃u,(zeroValue et).run P w= .ok u w∧CH_ z=some u∧aW_ u=true:=by
  obtain ⟨_,_,_,_,i,u,h1,h2,h3⟩:=HT.map t ti kt et k v ht hs
  obtain ⟨i',z',g1,_,_,g4,g5,_⟩:=HT.info et te hte
  rw [h1] at g1;cases g1
  rw [h2] at g4;cases g4
  refine ⟨u,Ba_ h1 h2, ?_,h3⟩
  rw [yT_ h3,hz] at g5
  simpa using g5.symm
theorem q7_ (HT:TOk P C T) (HC:a4_ C) (S:SRel C Mut Lent w0 ρ env objs tm w) {t kt et:TypeId} {ti te:TI κ Ty} {k v:κ} (ht:T t=some ti) (hs:ti.shp= .map kt et k v) (hte:T et=some te) {z:Value} (hz:te.zero=[.lit z])
    {m key:AV κ Ty} {um uk:Value} (hm:VRel C w Mut ρ objs m um) (hk:VRel C w Mut ρ objs key uk) {K:AV κ Ty→Option R} {r:R} (h:gz_ C objs (.map kt et k v) m key z K=some r):
    ∃u,K (.lit u)=some r∧(Instr.lookup t um uk false).run P w= .ok u w∧aW_ u=true:=by
  unfold gz_ at h
  obtain ⟨id,es,x,rfl,hid,rfl,hK⟩:=oE_ HC h
  clear h
  have h:=hK;clear hK
  have hum:=os_ hid hm
  subst hum
  have hso:=S.ob id
  simp only [ORel,hid] at hso
  obtain ⟨mes,H⟩:=hso
  obtain ⟨hund,_⟩:=HT.map t ti kt et k v ht hs
  have hfk:=k9_ (w:=w) HT ht hs hk H
  have hck:=jl_ (w:=w) HT ht hs hk
  obtain ⟨zu,hz1,hz2,hz3⟩:=ww_ (w:=w) HT ht hs hte hz
  cases hz2
  simp only [Instr.lookup,Sem.run_bind,run_underlying hund,Result.andThen_ok,MapKept.run_getObj_map H.at_,hck,hfk,Sem.run_pure]
  cases hf:a3_ (C.keq k x) es 0 with
  | none=>
    rw [hf] at h
    refine ⟨z,h, ?_,hz3⟩
    simp [hz1]
  | some p=>
    rw [hf] at h
    obtain ⟨_,a,h2,_⟩:=hU_ hf
    rw [Nat.sub_zero] at h2
    obtain ⟨_,me,h3,_⟩:=H.key p.1 _ h2
    have hv:=H.val p.1 _ me h2 h3 (fun o h=>by cases h)
    simp only [optK] at h
    split at h
    ·rename_i u henc
     rw [henc] at hv
     refine ⟨u,h, ?_,hv.2.1⟩
     simp [h3,hv.1]
    ·cases h
theorem q3_ (HT:TOk P C T) (HC:a4_ C) (S:SRel C Mut Lent w0 ρ env objs tm w) {t kt et:TypeId} {ti te:TI κ Ty} {k v:κ} (ht:T t=some ti) (hs:ti.shp= .map kt et k v) (hte:T et=some te) {s:κ} (hz:te.zero=[.nil s])
    {m key:AV κ Ty} {um uk:Value} (hm:VRel C w Mut ρ objs m um) (hk:VRel C w Mut ρ objs key uk) {K:AV κ Ty→ap_ κ Ty→Option R} {r:R} (h:hi_ C objs (.map kt et k v) m key s K=some r):
    ∃y objs' ρ' u,K y objs'=some r∧(Instr.lookup t um uk false).run P w= .ok u w∧SRel C Mut Lent w0 ρ' env objs' tm w∧VRel C w Mut ρ' objs' y u:=by
  unfold hi_ at h
  obtain ⟨ρ1,S,hrel⟩:=jF_ HC S (v0_ m)
  replace hm:=hrel _ _ hm
  replace hk:=hrel _ _ hk
  clear hrel
  generalize kw_ C (v0_ m) objs=objs at h S hm hk
  generalize ρ1=ρ at S hm hk
  dsimp only at h
  obtain ⟨id,es,x,rfl,hid,rfl,hK⟩:=oE_ HC h
  clear h
  have h:=hK;clear hK
  have hum:=os_ hid hm
  subst hum
  have hso:=S.ob id
  simp only [ORel,hid] at hso
  obtain ⟨mes,H⟩:=hso
  obtain ⟨hund,_⟩:=HT.map t ti kt et k v ht hs
  have hfk:=k9_ (w:=w) HT ht hs hk H
  have hck:=jl_ (w:=w) HT ht hs hk
  obtain ⟨zu,hz1,hz2,hz3⟩:=ww_ (w:=w) HT ht hs hte hz
  cases hz2
  simp only [Instr.lookup,Sem.run_bind,run_underlying hund,Result.andThen_ok,MapKept.run_getObj_map H.at_,hck,hfk,Sem.run_pure]
  cases hf:a3_ (C.keq k x) es 0 with
  | none=>
    rw [hf] at h
    refine ⟨_,_,ρ,_,h, ?_,S, .nil (A:=none)⟩
    simp [hz1]
  | some p=>
    rw [hf] at h
    obtain ⟨_,a,h2,_⟩:=hU_ hf
    rw [Nat.sub_zero] at h2
    obtain ⟨_,me,h3,_⟩:=H.key p.1 _ h2
    obtain ⟨y,objs',ρ',g1,g2,g3⟩:=rt_ S hid H h2 rfl h3 h
    refine ⟨y,objs',ρ',me.val,g1, ?_,g2,g3⟩
    simp [h3]
theorem MpRel.push {L:Loc} {k v:κ} {es:List (Ty k×Ty v)} {mes:Array MapEntry} (H:MpRel C w Mut ρ objs L k v es none mes) {x:Ty k} {y:Ty v} {key val:Value}
    (W:WStep w w' (aV_ ρ objs) (aV_ ρ' objs')) (hl:objs.length≤objs'.length) (hc:∀q,Compat ρ objs ρ' objs' q) (hheap:∀b,b≠L.block→w'.heap[b]? =w.heap[b]?)
    (hat:w'.heap[L.block]? =some (.map (mes.push {key:=key,val:=val,born:=mes.size}) (mes.size+1))) (hlit:∀c∈C.enc k x,∃v,c= .lit v) (hk:VRel C w Mut ρ objs (.agg (C.enc k x)) key) (hv:EntR C w' Mut ρ' objs' (0,0,0) (C.enc v y) val):
    MpRel C w' Mut ρ' objs' {L with sub:=fun q=>if q=es.length then (0,0,0) else L.sub q} k v (es++[(x,y)]) none (mes.push {key:=key,val:=val,born:=mes.size}):=by
  have hget:∀q e',(es++[(x,y)])[q]? =some e'→(q=es.length∧e'=(x,y))∨(q<es.length∧es[q]? =some e'):=fun q e' hq=>by
    by_cases e:q<es.length
    ·rw [List.getElem?_append_left e] at hq;exact .inr ⟨e,hq⟩
    ·have:=(List.getElem?_eq_some_iff.mp hq).1
     simp at this
     have e:q=es.length:=by omega
     subst e
     simp at hq;exact .inl ⟨rfl,hq.symm⟩
  have mget:∀q,q<es.length→(mes.push {key:=key,val:=val,born:=mes.size})[q]? =mes[q]? :=fun q hq=>by
    rw [Array.getElem?_push,if_neg (by rw [H.size];omega)]
  have mnew:(mes.push {key:=key,val:=val,born:=mes.size})[es.length]? =some {key:=key,val:=val,born:=mes.size}:=by
    rw [←H.size];simp
  refine ⟨by simp [H.size],by rw [hat];simp,fun q e' hq=> ?_,fun q e' me hq hm _=> ?_,fun q o me hq=>(by cases hq),fun q o hq=>(by cases hq),fun q hq _ hcap=> ?_,fun p q hp hq _ _ hcp hcq hpq=> ?_⟩
  ·rcases hget q e' hq with ⟨rfl,rfl⟩ | ⟨h1,h2⟩
   ·exact ⟨hlit,_,mnew,H.size,hk.step W hl hc⟩
   ·obtain ⟨g1,me,g2,g3,g4⟩:=H.key q e' h2
    exact ⟨g1,me,by rw [mget q h1];exact g2,g3,g4.step W hl hc⟩
  ·rcases hget q e' hq with ⟨rfl,rfl⟩ | ⟨h1,h2⟩
   ·rw [mnew] at hm;cases hm
    simp only [if_true];exact hv
   ·rw [mget q h1] at hm
    simp only [if_neg (Nat.ne_of_lt h1)]
    refine (H.val q e' me h2 hm (fun o h=>by cases h)).step W hl hc fun b hb1 hb2=>hheap b fun eb=> ?_
    exact H.own q h1 (fun o h=>by cases h) hb1 (by rw [hb2,eb])
  ·by_cases e:q=es.length
   ·simp [e] at hcap
   ·simp only [if_neg e] at hcap⊢
    simp at hq
    exact H.own q (by omega) (fun o h=>by cases h) hcap
  ·by_cases e:p=es.length
   ·simp [e] at hcp
   ·by_cases e':q=es.length
    ·simp [e'] at hcq
    ·simp only [if_neg e,if_neg e'] at hcp hcq hpq
     simp at hp hq
     exact H.disj p q (by omega) (by omega) (fun o h=>by cases h) (fun o h=>by cases h) hcp hcq hpq
theorem Aa_ {r:Nat} {o:Obj} (h:w.heap[r]? =some o):({w with heap:=w.heap.setIfInBounds r o}:World)=w:=by
  have:w.heap.setIfInBounds r o=w.heap:=by
    apply Array.ext_getElem?
    intro i
    rw [Array.getElem?_setIfInBounds]
    split
    ·rename_i e;subst e
     split
     ·exact h.symm
     ·rename_i hn;rw [Array.getElem?_eq_none (by omega)]
    ·rfl
  rw [this]
theorem p3_ (HT:TOk P C T) (HC:a4_ C) (S:SRel C Mut Lent w0 ρ env objs tm w) {t kt et:TypeId} {ti te:TI κ Ty} {k v:κ} (ht:T t=some ti) (hs:ti.shp= .map kt et k v) (hte:T et=some te)
    {m key:AV κ Ty} {um uk:Value} (hm:VRel C w Mut ρ objs m um) (hk:VRel C w Mut ρ objs key uk) {K:AV κ Ty→ap_ κ Ty→Option R} {r:R} (h:gc_ C objs (.map kt et k v) m key te K=some r):
    ∃y objs' ρ' u w',K y objs'=some r∧(Instr.mapEntry t um uk).run P w= .ok u w'∧SRel C Mut Lent w0 ρ' env objs' tm w'∧VRel C w' Mut ρ' objs' y u:=by
  unfold gc_ at h
  obtain ⟨ρ1,S,hrel⟩:=jF_ HC S (v0_ m)
  replace hm:=hrel _ _ hm
  replace hk:=hrel _ _ hk
  clear hrel
  generalize kw_ C (v0_ m) objs=objs at h S hm hk
  generalize ρ1=ρ at S hm hk
  dsimp only at h
  obtain ⟨id,es,x,rfl,hid,rfl,hK⟩:=oE_ HC h
  clear h
  have h:=hK;clear hK
  have hum:=os_ hid hm
  subst hum
  have hso:=S.ob id
  simp only [ORel,hid] at hso
  obtain ⟨mes,H⟩:=hso
  obtain ⟨hund,_,_,hlits,_⟩:=HT.map t ti kt et k v ht hs
  have hlit:∀c∈C.enc k x,∃v,c= .lit v:=fun c hc=>by
    rcases hlits x c hc with ⟨q,n,rfl⟩ | ⟨s,rfl⟩<;>exact ⟨_,rfl⟩
  have hfk:=k9_ (w:=w) HT ht hs hk H
  have hck:=jl_ (w:=w) HT ht hs hk
  simp only [Instr.mapEntry,Sem.run_bind,run_underlying hund,Result.andThen_ok,MapKept.run_getObj_map H.at_,hck,hfk,Sem.run_pure]
  cases hf:a3_ (C.keq k x) es 0 with
  | none=>
    rw [hf] at h
    simp only [optK] at h
    split at h
    ·rename_i z y hz hdec
     obtain ⟨zu,hz1,hz2,hz3⟩:=ww_ (w:=w) HT ht hs hte hz
     simp only [Option.map_none,Sem.run_bind,hz1,Result.andThen_ok,MapKept.run_setObj_map _ H.at_,Sem.run_pure]
     have hset:=MapKept.heap_set (o':= .map (mes.push {key:=uk,val:=zu,born:=mes.size}) (mes.size+1)) H.at_
     have hent:∀(w':World) (ρ':Nat→Loc) (objs':ap_ κ Ty),EntR C w' Mut ρ' objs' (0,0,0) (C.enc v y) zu:=fun w' ρ' objs'=>by
       rw [HC.dec _ _ _ hdec,hz]
       cases z with
       | lit z0=>cases hz2;exact ⟨rfl,hz3,rfl⟩
       | nil s=>cases hz2;exact ⟨none,rfl,fun h=>absurd rfl h,Nat.le_refl _,fun h=>absurd rfl h,fun i x j cl hx=>by simp at hx,fun q hq=>by simp at hq⟩
       | _=>simp [CH_] at hz2
     obtain ⟨S',hrel⟩:=S.mpset (w':={w with heap:=w.heap.setIfInBounds (ρ id).block (.map (mes.push {key:=uk,val:=zu,born:=mes.size}) (mes.size+1))}) hid (objs1:=objs) (.refl objs) rfl
       (es':=es++[(x,y)]) (h':=none) (sub':=fun q=>if q=es.length then (0,0,0) else (ρ id).sub q) (fun b hb=>hset.2 b hb) (by simp) rfl rfl rfl
       (fun q hq _ hcap=>by
         by_cases e:q=es.length
         ·simp [e] at hcap
         ·simp only [if_neg e] at hcap⊢
          simp at hq
          refine .inl ?_
          unfold aq_;rw [hid];exact .inr ⟨q,by omega,fun o h=>(by cases h),hcap,rfl⟩)
       (fun W hl hc=>⟨_,H.push W hl hc (fun b hb=>hset.2 b hb) hset.1 hlit hk (hent _ _ _)⟩)
     refine ⟨_,_,_,_,_,h,rfl,S', ?_⟩
     refine .tup (us:=[zu,goInt mes.size]) (by simp) (fun j cl u hj hu=> ?_)
     cases j with
     | zero=>
       simp at hj hu;subst hj;subst hu
       cases z with
       | lit z0=>cases hz2;exact .lit hz3
       | nil s=>cases hz2;exact .nil
       | _=>simp [CH_] at hz2
     | succ j=>
       cases j with
       | zero=>simp at hj hu;subst hj;subst hu;rw [H.size];exact .lit rfl
       | succ j=>simp at hj
    ·cases h
  | some p=>
    rw [hf] at h
    simp only [optK] at h
    obtain ⟨_,a,h2,h2'⟩:=hU_ hf
    rw [Nat.sub_zero] at h2
    have hxa:=HC.keq _ _ _ h2'
    subst hxa
    obtain ⟨_,me,h3,h4,h5⟩:=H.key p.1 _ h2
    have hke:me.key=uk:=C1_ hlit h5 hk
    have hsb:Instr.sameBits 10000 uk uk=true:=sI_ (hlits x) hk 9999
    obtain ⟨y,objs',ρ',g1,g2,g3⟩:=rt_ S hid H h2 rfl h3 h
    have hmod:mes.modify p.1 (fun e=>{e with key:=uk})=mes:=by
      apply Array.ext_getElem?
      intro i
      rw [Array.getElem?_modify]
      split
      ·rename_i e;subst e;rw [h3];simp [←hke]
      ·rfl
    refine ⟨_,objs',ρ', .tuple #[me.val,goInt p.1],w,g1, ?_,g2, ?_⟩
    ·simp only [Option.map_some,h3,Option.getD_some,hke,Instr.keyThatStays,hsb,if_true,Sem.run_bind,Sem.run_pure,Result.andThen_ok,MapKept.run_setObj_map _ H.at_,hmod,h4,Aa_ H.at_]
    ·refine .tup (us:=[me.val,goInt p.1]) (by simp) (fun j cl u hj hu=> ?_)
     cases j with
     | zero=>simp at hj hu;subst hj;subst hu;exact g3
     | succ j=>
       cases j with
       | zero=>simp at hj hu;subst hj;subst hu;exact .lit rfl
       | succ j=>simp at hj
theorem Bo_ {mes:Array MapEntry} (hb:∀(q:Nat) me,mes[q]? =some me→me.born=q) {n:Nat} (hn:n<mes.size):mes.findIdx? (fun e=>(e.born:Int)==(n:Int))=some n:=by
  rw [Array.findIdx?_eq_some_iff_getElem]
  refine ⟨hn, ?_,fun j hj=> ?_⟩
  ·rw [hb n _ (Array.getElem?_eq_getElem hn)];simp
  ·rw [hb j _ (Array.getElem?_eq_getElem (by omega))];simp;omega
theorem SRel.mpstore (S:SRel C Mut Lent w0 ρ env objs tm w) {id:Nat} {k v:κ} {es:List (Ty k×Ty v)} {h:Option (Nat×Option Nat)} (hid:objs[id]? =some (.mp k v es h)) {mes:Array MapEntry} (H:MpRel C w Mut ρ objs (ρ id) k v es h mes)
    {n:Nat} {e:Ty k×Ty v} (he:es[n]? =some e) (hh:∀i o,h=some (i,o)→i=n) {y:Ty v} {u:Value} {L':Nat×Nat×Nat} (hw:Weaker objs objs1) (hid1:objs1[id]? =objs[id]?)
    (hfoot:L'.2.2≠0→∃j,objs1[j]? =some .dead∧j≠id∧aq_ ρ objs j L'.1)
    (hv:∀(w':World) (ρ':Nat→Loc) (objs':ap_ κ Ty),WStep w w' (aV_ ρ objs) (aV_ ρ' objs')→objs.length≤objs'.length→(∀q,Compat ρ objs ρ' objs' q)→(∀b,b≠(ρ id).block→w'.heap[b]? =w.heap[b]?)→EntR C w' Mut ρ' objs' L' (C.enc v y) u):
    ∃ρ',SRel C Mut Lent w0 ρ' env (objs1.set id (.mp k v (es.set n (e.1,y)) none)) tm {w with heap:=w.heap.setIfInBounds (ρ id).block (.map (mes.modify n fun e=>{e with val:=u}) mes.size)}:=by
  have hset:=MapKept.heap_set (o':= .map (mes.modify n fun e=>{e with val:=u}) mes.size) H.at_
  have hfi:∀q,q<es.length→(∀o,h≠some (q,o))→((ρ id).sub q).2.2≠0→aq_ ρ objs id ((ρ id).sub q).1:=fun q h1 h2 h3=>by
    unfold aq_;rw [hid];exact .inr ⟨q,h1,h2,h3,rfl⟩
  have hfb:aq_ ρ objs id (ρ id).block:=by unfold aq_;rw [hid];exact .inl rfl
  refine ⟨_,(S.mpset (w':={w with heap:=w.heap.setIfInBounds (ρ id).block (.map (mes.modify n fun e=>{e with val:=u}) mes.size)}) hid hw hid1 (es':=es.set n (e.1,y)) (h':=none) (sub':=fun q=>if q=n then L' else (ρ id).sub q)
    (fun b hb=>hset.2 b hb) (by simp) rfl rfl rfl (fun q hq _ hcap=> ?_) (fun W hl hc=>⟨_,H.put (mes':=mes.modify n fun e=>{e with val:=u}) he hh (val:=u) W hl hc (fun b hb=>hset.2 b hb) (by rw [hset.1];simp) (by simp) (fun q hq=> ?_) (fun me hme=> ?_) (hv _ _ _ W hl hc (fun b hb=>hset.2 b hb)) (fun q hq hqn hn hcq hcj eb=> ?_) (fun hcj eb=> ?_)⟩)).1⟩
  ·by_cases e1:q=n
   ·subst e1
    simp only [if_true] at hcap⊢
    obtain ⟨j,j1,_,j3⟩:=hfoot hcap
    exact .inr ⟨j,j1,j3⟩
   ·simp only [if_neg e1] at hcap⊢
    simp only [List.length_set] at hq
    exact .inl (hfi q hq (fun o ho=>e1 (hh _ _ ho)) hcap)
  ·rw [Array.getElem?_modify,if_neg (Ne.symm hq)]
  ·exact ⟨{me with val:=u},by rw [Array.getElem?_modify,if_pos rfl,hme];rfl,rfl,rfl,rfl⟩
  ·obtain ⟨j,_,j2,j3⟩:=hfoot hcj
   have h1:=hfi q hq hn hcq
   rw [eb] at h1
   exact j2 (S.inj _ _ _ j3 h1)
  ·obtain ⟨j,_,j2,j3⟩:=hfoot hcj
   rw [eb] at j3
   exact j2 (S.inj _ _ _ j3 hfb)
theorem mJ_ (HT:TOk P C T) (HC:a4_ C) (S:SRel C Mut Lent w0 ρ env objs tm w) {t kt et:TypeId} {ti:TI κ Ty} {k v:κ} (ht:T t=some ti) (hs:ti.shp= .map kt et k v)
    {m stamp x:AV κ Ty} {um us ux:Value} (hm:VRel C w Mut ρ objs m um) (hst:VRel C w Mut ρ objs stamp us) (hx:VRel C w Mut ρ objs x ux) {K:ap_ κ Ty→Option R} {r:R} (h:dw_ C objs ti.shp m stamp x K=some r):
    ∃objs' ρ' w',K objs'=some r∧(Instr.entryStore t um us ux).run P w= .ok () w'∧SRel C Mut Lent w0 ρ' env objs' tm w':=by
  unfold dw_ at h
  split at h
  ·rename_i kt' et' k0 v0 id kk n hsh
   split at h
   ·rename_i k' v' es hh hid
    split at h
    ·rename_i hsame
     have hum:=os_ hid hm
     subst hum
     obtain ⟨rfl,_⟩:=aR_ hst
     have hso:=S.ob id
     simp only [ORel,hid] at hso
     obtain ⟨mes,H⟩:=hso
     have key:∀{e:Ty k'×Ty v'},idx es n=some e→(∀i o,hh=some (i,o)→i=n.toNat)→q4_ C objs v' x (fun y objs=>K (objs.set id (.mp k' v' (es.set n.toNat (e.1,y)) none)))=some r→
      ∃objs' ρ' w',K objs'=some r∧(Instr.entryStore t (.map (some (ρ id).block)) (.int kk n) ux).run P w= .ok () w'∧SRel C Mut Lent w0 ρ' env objs' tm w':=by
       intro e he hho hput
       clear h
       have h:=hput
       clear hput
       have hn0:0≤n:=by
         unfold idx at he;split at he
         ·cases he
         ·omega
       have he':es[n.toNat]? =some e:=by
         unfold idx at he;rw [if_neg (by omega)] at he;exact he
       have hlt:n.toNat<mes.size:=by rw [H.size];exact (List.getElem?_eq_some_iff.mp he').1
       have hrun:(Instr.entryStore t (.map (some (ρ id).block)) (.int kk n) ux).run P w= .ok () {w with heap:=w.heap.setIfInBounds (ρ id).block (.map (mes.modify n.toNat fun e=>{e with val:=ux}) mes.size)}:=by
         have hfb:=Bo_ (mes:=mes) (fun q me hq=>by
           have hql:q<es.length:=by rw [←H.size];exact (Array.getElem?_eq_some_iff.mp hq).1
           obtain ⟨_,me',g1,g2,_⟩:=H.key q _ (List.getElem?_eq_getElem hql)
           rw [hq] at g1;cases g1;exact g2) hlt
         rw [show ((n.toNat:Nat):Int)=n by omega] at hfb
         simp only [Instr.entryStore,Sem.run_bind,MapKept.run_getObj_map H.at_,Result.andThen_ok,asInt,asIntOf,Sem.run_pure,hfb,MapKept.run_setObj_map _ H.at_]
       unfold q4_ at h
       split at h
       ·rename_i u0
        split at h
        ·rename_i y hdec
         obtain ⟨rfl,hcell⟩:=aR_ hx
         obtain ⟨ρ',S'⟩:=S.mpstore hid H he' hho (y:=y) (u:=ux) (L':=(0,0,0)) (.refl objs) rfl (fun h=>absurd rfl h) (fun w' ρ' objs' _ _ _ _=>by
           rw [HC.dec _ _ _ hdec];exact ⟨rfl,hcell,rfl⟩)
         exact ⟨_,ρ',_,h,hrun,S'⟩
        ·cases h
       ·rename_i j
        split at h
        ·rename_i s xs hsl
         split at h
         ·rename_i y hdec
          have hsl':=bx_ hsl
          have hji:j≠id:=fun e=>by rw [e,hid] at hsl';cases hsl'
          have hjl:=(List.getElem?_eq_some_iff.mp hsl').1
          have hjo:=S.ob j
          simp only [ORel,hsl'] at hjo
          have hjo:SlAt C w Mut ρ objs (ρ j).block (ρ j).off (ρ j).cap s xs:=hjo
          obtain ⟨A,h1,h2⟩:=t2_ hsl' hx
          obtain ⟨ρ',S'⟩:=S.mpstore hid H he' hho (y:=y) (u:=ux) (L':=((ρ j).block,(ρ j).off,(ρ j).cap)) (.kill objs j) (List.getElem?_set_ne hji) (fun hc=>⟨j,by simp [hjl],hji,cj_ hsl' hc⟩) (fun w' ρ' objs' W hl hc hheap=>by
            rw [HC.dec _ _ _ hdec]
            refine ⟨A,h1,h2,hjo.step W hl hc fun hcap=>hheap _ fun e=> ?_⟩
            have hf:=cj_ hsl' hcap
            dsimp only at e
            rw [e] at hf
            exact hji (S.inj _ _ _ hf (by unfold aq_;rw [hid];exact .inl rfl)))
          exact ⟨_,ρ',_,h,hrun,S'⟩
         ·cases h
        ·cases h
       ·cases h
     split at h
     ·obtain ⟨e,he,h⟩:=bind_some h
      exact key he (fun i o ho=>by cases ho) h
     ·rename_i i o
      split at h
      ·rename_i hb
       obtain ⟨e,he,h⟩:=bind_some h
       exact key he (fun i' o' ho=>by cases ho;exact Nat.eq_of_beq_eq_true hb) h
      ·cases h
    ·cases h
   ·cases h
  ·cases h
end
end Km
namespace Km
open Go
set_option linter.unusedVariables false
set_option linter.unusedSimpArgs false
variable {κ:Type} {Ty:κ→Type} {R:Type}
section
variable {P:Program} {C:Cod κ Ty} {T:TypeId→Option (TI κ Ty)} {Γ:FuncId→Option (aY_ κ Ty)}
variable {Mut:Nat→Prop} {Lent:Org κ Ty} {w0 w w':World} {ρ ρ' ρ2:Nat→Loc} {env:Env κ Ty} {objs objs' objs2:ap_ κ Ty} {a:Act}
variable {next:Act→World→Prop} {Q:Exit→Act→World→Prop} {o:Oper}
structure Known (P:Program) (C:Cod κ Ty) (T:TypeId→Option (TI κ Ty)) (Γ:FuncId→Option (aY_ κ Ty)):Prop where
  ty:TOk P C T
  el:EOk P C T
  cod:a4_ C
  fn:∀f S,Γ f=some S→SummOk P C f S
theorem t3_ (HT:TOk P C T) (S:SRel C Mut Lent w0 ρ env objs a.tmps w):∀(xs:List Operand) (ts:List TypeId),xs.length=ts.length→(xs.map a.eval).length=(e3_ T env xs ts).length∧
    ∀(j:Nat) (x:AV κ Ty) (u:Value),(e3_ T env xs ts)[j]? =some x→(xs.map a.eval)[j]? =some u→VRel C w Mut ρ objs x u
  | [],[],_=>⟨rfl,fun j x u h=>by simp [e3_] at h⟩
  | [],_::_,h=>by simp at h
  | _::_,[],h=>by simp at h
  | x::xs,t::ts,h=>by
    obtain ⟨h1,h2⟩:=t3_ HT S xs ts (by simpa using h)
    refine ⟨by simp [e3_] at h1⊢;exact h1,fun j y u hj hu=> ?_⟩
    cases j with
    | zero=>simp [e3_] at hj hu;subst hj;subst hu;exact aw_ HT S t x
    | succ j=>exact h2 j y u (by simpa [e3_] using hj) (by simpa using hu)
theorem vG_ (HT:TOk P C T) (HC:a4_ C) (S:SRel C Mut Lent w0 ρ env objs a.tmps w) {t ty:TypeId} {ti:TI κ Ty} (ht:T t=some ti) {x:AV κ Ty} {u:Value} {n:Int} (hx:VRel C w Mut ρ objs x u) (h:lenOf objs ti.shp x=some n):
    (Builtin.len_ #[t] ty #[u]).run P w= .ok (.int .i64 n) w:=by
  unfold lenOf at h
  split at h
  ·rename_i hs
   have hu:=HT.str t ti ht hs
   split at h
   ·obtain ⟨rfl,_⟩:=aR_ hx
    cases h
    simp only [Builtin.len_,List.getElem?_toArray,List.getElem?_cons_zero,Sem.run_bind,run_underlying hu,Result.andThen_ok]
    rfl
   ·cases h
  ·rename_i e s hs
   obtain ⟨hu,_⟩:=HT.slice t ti e s ht hs
   split at h
   ·rename_i t' xs hr
    obtain ⟨A,c,blk,off,rfl,_⟩:=ik_ HC S hx hr
    cases h
    simp only [Builtin.len_,List.getElem?_toArray,List.getElem?_cons_zero,Sem.run_bind,run_underlying hu,Result.andThen_ok]
    rfl
   ·cases h
  ·cases h
theorem At_ (HT:TOk P C T) (S:SRel C Mut Lent w0 ρ env objs a.tmps w) {x:Option Operand} {b:Option Int}
    (h:(match x with | none=>some none | some l=>(match d5_ T env 0 l with | .lit (.int _ n)=>some (some n) | _=>none):Option (Option Int))=some b):Ds_ b (x.map a.eval):=by
  cases x with
  | none=>cases h;exact .none
  | some y=>
    simp only at h
    split at h
    ·rename_i k n he
     cases h
     have:=aw_ HT S 0 y
     rw [he] at this
     obtain ⟨hu,_⟩:=aR_ this
     simp only [Option.map_some,hu]
     exact .some k n
    ·cases h
theorem bk_ {u:Value} {x:Sem Value} (hx:execOp a.eval o=(do pure (.value (←x)))) (h:x.run P w= .ok u w'):(execOp a.eval o).run P w= .ok (.value u) w':=by
  rw [hx];simp [h]
theorem t6_ {x:Sem Unit} (hx:execOp a.eval o=(do x;pure .skip)) (h:x.run P w= .ok () w'):(execOp a.eval o).run P w= .ok .skip w':=by
  rw [hx];simp [h]
theorem un_ (H:Known P C T Γ) (S:SRel C Mut Lent w0 ρ env objs a.tmps w) {K:AV κ Ty→ap_ κ Ty→Option R} {r:R} (h:aop C T Γ o env objs K=some r)
    (hn:∀v objs' ρ' u w',K v objs'=some r→SRel C Mut Lent w0 ρ' env objs' a.tmps w'→VRel C w' Mut ρ' objs' v u→next (a.put o.dst u) w'):o.wp P a w next Q:=by
  unfold aop at h
  split at h
  ·rename_i x ho
   exact aP_ (by simp only [execOp,ho];rfl) (hn _ _ ρ _ w h S (aw_ H.ty S _ x))
  ·rename_i x ho
   exact aP_ (by simp only [execOp,ho];rfl) (hn _ _ ρ _ w h S (aw_ H.ty S _ x))
  ·rename_i c x y ho
   split at h
   ·rename_i t hc
    have h:=lu_ h
    have hcu:=aw_ H.ty S 0 c
    rw [hc] at hcu
    obtain ⟨hcu,_⟩:=aR_ hcu
    refine aP_ (u:=if t=true then a.eval x else a.eval y) (w':=w) ?_ (hn _ _ ρ _ w h S ?_)
    ·simp only [execOp,ho,hcu,asBool];rfl
    ·cases t
     ·exact aw_ H.ty S _ y
     ·exact aw_ H.ty S _ x
   ·cases h
  ·rename_i t ho
   split at h
   ·rename_i ti ht
    split at h
    ·rename_i n e s hs
     split at h
     ·rename_i te hte hle
      split at h
      ·rename_i z hz
       obtain ⟨u',w',ρ',g1,g2,g3⟩:=q0_ (P:=P) H.ty H.cod S ht hs hte (Nat.le_of_ble_eq_true hle) hz
       exact aP_ (bk_ (by simp only [execOp,ho]) g1) (hn _ _ ρ' _ w' h g2 g3)
      ·cases h
     ·cases h
    ·obtain ⟨u',w',ρ',g1,g2,g3⟩:=qN_ (P:=P) H.ty S ht
     exact aP_ (bk_ (by simp only [execOp,ho]) g1) (hn _ _ ρ' _ w' h g2 g3)
   ·cases h
  ·rename_i t x ho
   split at h
   ·rename_i cs hc
    have hx:=aw_ H.ty S t x
    have hcs:=fV_ hc hx
    refine aP_ (u:= .pointer (some (at' w.heap.size 0))) (w':=w.alloc (.cells (a.eval x).cells t)) ?_ (hn _ _ _ _ _ h (S.newBox t hcs) ?_)
    ·simp only [execOp,ho]
     simp [Instr.box,newVar,newRow,World.alloc_eq,at']
    ·have:=VRel.ref (C:=C) (w:=w.alloc (.cells (a.eval x).cells t)) (Mut:=Mut) (ρ:=upd ρ objs.length ⟨w.heap.size,0,0,noSub⟩) (off:=0) (bi_ objs (.box cs))
     rw [aH_] at this
     exact this
   ·cases h
  ·rename_i t ps ho
   split at h
   ·rename_i ti ht
    split at h
    ·rename_i fs hs
     split at h
     ·rename_i cs hf
      obtain ⟨us,g1,g2⟩:=wd_ (P:=P) H.ty ht hs (iB_ H.ty S _ ps.toList) hf
      refine aP_ (bk_ (x:=Instr.build t (ps.map fun (i,x)=>(i,a.eval x))) (by simp only [execOp,ho]) ?_) (hn _ _ ρ _ w h S g2.agg)
      rw [←g1];congr 2
      apply Array.ext';simp
     ·cases h
    ·cases h
   ·cases h
  ·rename_i t n ps ho
   split at h
   ·rename_i ti ht
    split at h
    ·rename_i e s hs
     split at h
     ·rename_i hb
      simp only [Bool.and_eq_true] at hb
      split at h
      ·rename_i hnil
       obtain ⟨hu,ie,i1,i2,i3⟩:=H.ty.slice t ti e s ht hs
       have hn0:n=0:=by have:=Nat.eq_of_beq_eq_true hb.1;rw [hnil] at this;simpa using this.symm
       subst hn0
       have hps:ps= #[]:=by apply Array.ext';exact hnil
       subst hps
       refine aP_ (bk_ (x:=Instr.buildSlice t 0 ((#[]:Array (Nat×Operand)).map fun (i,x)=>(i,a.eval x))) (by simp only [execOp,ho]) (u:= .slice (some (at' w.heap.size 0)) 0 0) (w':=w.alloc (.cells #[] e)) ?_) ?_
       ·simp only [Instr.buildSlice,Sem.run_bind,run_underlying hu,Result.andThen_ok,ig_ i1,i2]
        have e0:Array.range 0= #[]:=rfl
        simp [Instr.fill,newRow,World.alloc_eq,at',e0]
       ·have W:WStep w (w.alloc (.cells #[] e)) (aV_ ρ objs) (aV_ ρ objs):=⟨fun b hb _=>bB_ w _ hb,by simp,fun b h=> .inl h⟩
        exact hn _ _ ρ _ _ h (S.step W (Nat.le_refl _) (fun id=> .refl id) (fun id=>ORel.step W (Nat.le_refl _) (fun id=> .refl id) (S.ob id) rfl rfl (fun b hb=>bB_ w _ (S.flt hb))) (fun i j b hi hj=>S.inj i j b hi hj) rfl rfl rfl) .nil
      have hpl:∀(ps:List (Nat×Operand)) (ty:Nat→TypeId),(eI_ T env ty ps).length=ps.length:=fun ps ty=>by
        induction ps with
        | nil=>rfl
        | cons p ps ih=>obtain ⟨i,x⟩:=p;simp [eI_,ih]
      split at h
      ·split at h
       ·rename_i ys hys
        obtain ⟨u',w',g2,g3,g4⟩:=mc_ (P:=P) H.ty H.el H.cod S ht hs (n:=n) (iB_ H.ty S (fun _=>e) ps.toList) (by rw [hpl];exact Nat.eq_of_beq_eq_true hb.1) (Nat.le_of_ble_eq_true hb.2) hys
        refine aP_ (bk_ (x:=Instr.buildSlice t n (ps.map fun (i,x)=>(i,a.eval x))) (by simp only [execOp,ho]) ?_) (hn _ _ ρ _ w' h g3 g4)
        rw [←g2];congr 2
        apply Array.ext';simp
       ·cases h
      obtain ⟨ys,objs1,u',w',ρ',g1,g2,g3,g4⟩:=nL_ (P:=P) H.ty H.el H.cod S ht hs (n:=n) (iB_ H.ty S (fun _=>e) ps.toList) (by rw [hpl];exact Nat.eq_of_beq_eq_true hb.1) (Nat.le_of_ble_eq_true hb.2) h
      refine aP_ (bk_ (x:=Instr.buildSlice t n (ps.map fun (i,x)=>(i,a.eval x))) (by simp only [execOp,ho]) ?_) (hn _ _ ρ' _ w' g1 g3 g4)
      rw [←g2];congr 2
      apply Array.ext';simp
     ·cases h
    ·cases h
   ·cases h
  ·rename_i t x ho
   split at h
   ·rename_i ti ht
    obtain ⟨v,u',g1,g2,g3⟩:=qs_ (P:=P) H.ty H.cod S ht (aw_ H.ty S 0 x) h
    exact aP_ (bk_ (by simp only [execOp,ho]) g2) (hn _ _ ρ _ w g1 S g3)
   ·cases h
  ·rename_i t x y ho
   split at h
   ·rename_i ti ht
    obtain ⟨objs',w',g1,g2,g3⟩:=uc_ (P:=P) H.ty H.cod S ht (aw_ H.ty S 0 x) (aw_ H.ty S t y) h
    exact xB_ (t6_ (by simp only [execOp,ho]) g2) (hn _ _ ρ _ w' g1 g3 .undef)
   ·cases h
  ·rename_i x ho
   split at h
   ·rename_i ha
    have hx:=aw_ H.ty S o.type x
    obtain ⟨b,k,hu⟩:=m2_ ha hx
    exact aP_ (by simp only [execOp,ho,hu];rfl) (hn _ _ ρ _ w h S (hu▸hx))
   ·cases h
  ·rename_i op t x y ty ho
   split at h
   ·rename_i ti ht
    split at h
    ·rename_i hag
     split at h
     ·rename_i b hb
      obtain ⟨q1,q2⟩:=yG_ (P:=P) H.ty ht hag x y (aw_ H.ty S t x) (aw_ H.ty S t y) hb
      split at h
      ·exact aP_ (bk_ (x:=do eqGuard .eql t x y (a.eval x) (a.eval y);binOp .eql t (a.eval x) (a.eval y)) (by simp only [execOp,ho]) q1) (hn _ _ ρ _ w h S (.lit rfl))
      ·exact aP_ (bk_ (x:=do eqGuard .neq t x y (a.eval x) (a.eval y);binOp .neq t (a.eval x) (a.eval y)) (by simp only [execOp,ho]) q2) (hn _ _ ρ _ w h S (.lit rfl))
      ·cases h
     ·cases h
    ·obtain ⟨v,u,g1,g2,g3⟩:=yz_ (P:=P) H.ty ht x y (aw_ H.ty S t x) (aw_ H.ty S t y) h
     exact aP_ (bk_ (x:=do eqGuard op t x y (a.eval x) (a.eval y);binOp op t (a.eval x) (a.eval y)) (by simp only [execOp,ho]) g2) (hn _ _ ρ _ w g1 S g3)
   ·cases h
  ·rename_i op t x ho
   split at h
   ·split at h
    ·rename_i b hb
     have hx:=aw_ H.ty S o.type x
     rw [hb] at hx
     obtain ⟨hu,_⟩:=aR_ hx
     exact aP_ (bk_ (x:=Op.unary .not (a.eval x)) (by simp only [execOp,ho]) (by rw [hu];rfl)) (hn _ _ ρ _ w h S (.lit rfl))
    ·cases h
   ·cases h
  ·rename_i s d x ho
   split at h
   ·rename_i ti td hti htd
    split at h
    ·rename_i k k' n hk hx0
     split at h
     ·rename_i k2 hk2
      have hx:=aw_ H.ty S o.type x
      rw [hx0] at hx
      obtain ⟨hu,_⟩:=aR_ hx
      have u1:=H.ty.int s ti _ hti hk2
      have u2:=H.ty.int d td _ htd hk
      refine aP_ (bk_ (x:=convert s d (a.eval x)) (by simp only [execOp,ho]) (u:= .int k (k.wrap n)) ?_) (hn _ _ ρ _ w h S (.lit rfl))
      rw [hu]
      simp [convert,run_underlying u1,run_underlying u2,Conv.intToInt]
     ·cases h
    ·rename_i hk
     split at h
     ·rename_i e s' hs
      split at h
      ·rename_i te t xs hte hrows
       split at h
       ·rename_i k hk2
        split at h
        ·split at h
         ·rename_i bs hbs
          have hx:=aw_ H.ty S o.type x
          obtain ⟨A,n,c,hu,hrun⟩:=yJ_ (P:=P) H.cod S hx hrows hbs
          have u1:=(H.ty.slice s ti e s' hti hs).1
          have u2:=H.ty.int e te _ hte hk2
          have u3:=H.ty.str d td htd hk
          refine aP_ (bk_ (x:=convert s d (a.eval x)) (by simp only [execOp,ho]) (u:= .string (i8_ bs)) ?_) (hn _ _ ρ _ w h S (.lit rfl))
          rw [hu] at hrun⊢
          rw [run_convert_bytes_string w s d e A n c u1 u2 u3]
          exact hrun
         ·cases h
        ·cases h
       ·cases h
      ·cases h
     ·cases h
    ·rename_i e s' b hs hx0
     split at h
     ·rename_i te hts hte
      split at h
      ·rename_i k hk2
       split at h
       ·split at h
        ·rename_i ys hys
         have hx:=aw_ H.ty S o.type x
         rw [hx0] at hx
         obtain ⟨hu,_⟩:=aR_ hx
         obtain ⟨u',w',ρ',g1,g2,g3⟩:=q9_ (P:=P) H.ty H.cod S hti hts htd hs hte hk2 hys
         exact aP_ (bk_ (x:=convert s d (a.eval x)) (by simp only [execOp,ho]) (by rw [hu];exact g1)) (hn _ _ ρ' _ w' h g2 g3)
        ·cases h
       ·cases h
      ·cases h
     ·cases h
    ·cases h
   ·cases h
  ·rename_i t n c ho
   split at h
   ·rename_i ti ht
    split at h
    ·rename_i e s hs
     split at h
     ·rename_i te hte
      split at h
      ·rename_i k p k' q hp hq
       replace h:=bind_some h
       obtain ⟨m,hm,h⟩:=h
       split at hm
       ·rename_i he
        subst he
        split at h
        ·rename_i z hz
         split at h
         case h_2=>cases h
         rename_i hall
         have h1:=aw_ H.ty S 0 n
         have h2:=aw_ H.ty S 0 c
         rw [hp] at h1
         rw [hq] at h2
         obtain ⟨e1,_⟩:=aR_ h1
         obtain ⟨e2,_⟩:=aR_ h2
         obtain ⟨u',w',ρ',g1,g2,g3⟩:=o5_ (P:=P) (k:=k) (k':=k') H.ty H.el H.cod S ht hs hte hm hz hall
         exact aP_ (bk_ (x:=Instr.makeSlice t (a.eval n) (a.eval c)) (by simp only [execOp,ho]) (by rw [e1,e2];exact g1)) (hn _ _ ρ' _ w' h g2 g3)
        ·cases h
       ·cases hm
      ·cases h
     ·cases h
    ·cases h
   ·cases h
  ·rename_i t r' ho
   split at h
   ·split at h
    ·rename_i ti ht
     split at h
     ·rename_i kt et k v hs
      obtain ⟨u',w',ρ',g1,g2,g3⟩:=ss_ (P:=P) S t k v
      exact aP_ (bk_ (x:=Instr.makeMap t none) (by simp only [execOp,ho];rfl) g1) (hn _ _ ρ' _ w' h g2 g3)
     ·cases h
    ·cases h
   ·cases h
  ·rename_i t m x ok ho
   split at h
   ·cases h
   ·split at h
    ·rename_i ti ht
     split at h
     ·rename_i kt et k v hs
      split at h
      ·rename_i te hte
       split at h
       ·rename_i z hz
        rw [hs] at h
        obtain ⟨u',g1,g2,g3⟩:=q7_ (P:=P) H.ty H.cod S ht hs hte hz (aw_ H.ty S 0 m) (aw_ H.ty S kt x) h
        exact aP_ (bk_ (by simp only [execOp,ho]) g2) (hn _ _ ρ _ w g1 S (.lit g3))
       ·rename_i s hz
        rw [hs] at h
        obtain ⟨y,objs',ρ',u',g1,g2,g3,g4⟩:=q3_ (P:=P) H.ty H.cod S ht hs hte hz (aw_ H.ty S 0 m) (aw_ H.ty S kt x) h
        exact aP_ (bk_ (by simp only [execOp,ho]) g2) (hn _ _ ρ' _ w g1 g3 g4)
       ·cases h
      ·cases h
     ·cases h
    ·cases h
  ·rename_i t m x ho
   split at h
   ·rename_i ti ht
    split at h
    ·rename_i kt et k v hs
     split at h
     ·rename_i te hte
      rw [hs] at h
      obtain ⟨y,objs',ρ',u',w',g1,g2,g3,g4⟩:=p3_ (P:=P) H.ty H.cod S ht hs hte (aw_ H.ty S 0 m) (aw_ H.ty S kt x) h
      exact aP_ (bk_ (by simp only [execOp,ho]) g2) (hn _ _ ρ' _ w' g1 g3 g4)
     ·cases h
    ·cases h
   ·cases h
  ·rename_i t m n x ho
   split at h
   ·rename_i ti ht
    obtain ⟨kt,et,k,v,hs⟩:∃kt et k v,ti.shp= .map kt et k v:=by
      unfold dw_ at h
      split at h
      ·rename_i hs _;exact ⟨_,_,_,_,by assumption⟩
      ·cases h
    obtain ⟨objs',ρ',w',g1,g2,g3⟩:=mJ_ (P:=P) H.ty H.cod S ht hs (aw_ H.ty S 0 m) (aw_ H.ty S 0 n) (aw_ H.ty S 0 x) h
    exact xB_ (t6_ (by simp only [execOp,ho]) g2) (hn _ _ ρ' _ w' g1 g3 .undef)
   ·cases h
  ·rename_i t x lo hi mx ho
   split at h
   ·rename_i ti ht
    split at h
    ·split at h
     ·rename_i l m hl hm
      have b1:=At_ H.ty S hl
      have b2:=At_ H.ty S hm
      obtain ⟨v,u',g1,g2,g3⟩:=uu_ (P:=P) H.ty H.cod S ht (aw_ H.ty S t x) b1 b2 h
      exact aP_ (bk_ (x:=Instr.sliceAt t (a.eval x) (lo.map a.eval) (hi.map a.eval) ((none:Option Operand).map a.eval)) (by simp only [execOp,ho]) g2) (hn _ _ ρ _ w g1 S g3)
     ·cases h
    ·rename_i m hh
     split at h
     ·rename_i k mm k' hv hm hhv
      have b1:=aw_ H.ty S 0 m
      have b2:=aw_ H.ty S 0 hh
      rw [hm] at b1
      rw [hhv] at b2
      obtain ⟨e1,_⟩:=aR_ b1
      obtain ⟨e2,_⟩:=aR_ b2
      obtain ⟨v,u',g1,g2,g3⟩:=sa_ (P:=P) (k:=k') (k':=k) H.ty H.cod S ht (aw_ H.ty S t x) h
      refine aP_ (bk_ (x:=Instr.sliceAt t (a.eval x) ((none:Option Operand).map a.eval) ((some hh).map a.eval) ((some m).map a.eval)) (by simp only [execOp,ho]) ?_) (hn _ _ ρ _ w g1 S g3)
      simp only [Option.map_some,Option.map_none,e1,e2];exact g2
     ·cases h
    ·cases h
   ·cases h
  ·rename_i s x f ho
   split at h
   ·rename_i ti ht
    split at h
    ·rename_i fs hs
     split at h
     ·rename_i v ha hv
      obtain ⟨fields,hu,hfs,hfi⟩:=H.ty.struct s ti fs ht hs
      have hx:=aw_ H.ty S 0 x
      obtain ⟨b,k,hp⟩:=m2_ ha hx
      rw [hp] at hx
      have hd:∃d t,fs[f]? =some (d,t):=by
        unfold xn_ at hv
        split at hv
        ·cases hv
        ·rename_i d t hd;exact ⟨d,t,hd⟩
      obtain ⟨d,t,hd⟩:=hd
      have hr:=yS_ hd ha hv hx
      have hfd:∃fl,fields[f]? =some fl∧fl.offset=d∧fl∈fields.toList:=by
        rw [←hfs] at hd
        simp only [List.getElem?_map,Option.map_eq_some_iff] at hd
        obtain ⟨fl,e1,e2⟩:=hd
        refine ⟨fl,by rw [←Array.getElem?_toList];exact e1,by simpa using congrArg Prod.fst e2,List.mem_of_getElem? e1⟩
      obtain ⟨fl,f1,f2,f3⟩:=hfd
      obtain ⟨i,i1,i2⟩:=hfi fl f3
      refine aP_ (bk_ (x:=Instr.fieldAt s (a.eval x) f) (by simp only [execOp,ho]) (u:= .pointer (some (at' b (k+d)))) ?_) (hn _ _ ρ _ w h S hr)
      rw [hp]
      simp only [Instr.fieldAt,Sem.run_bind,run_underlying hu,Result.andThen_ok,f1,Instr.sureAddr,Sem.run_pure,fieldPlace,ig_ i1]
      rw [if_neg i2]
      simp [g3_,f2]
     ·cases h
    ·cases h
   ·cases h
  ·rename_i s x f ho
   split at h
   ·rename_i ti cs ht hc
    split at h
    ·rename_i fs hs
     split at h
     ·rename_i d t hd
      split at h
      ·rename_i tf htf
       split at h
       ·rename_i v hv
        obtain ⟨fields,hu,hfs,hfi⟩:=H.ty.struct s ti fs ht hs
        have hx:=aw_ H.ty S s x
        rw [hc] at hx
        have hfd:∃fl,fields[f]? =some fl∧fl.offset=d∧fl.type=t:=by
          rw [←hfs] at hd
          simp only [List.getElem?_map,Option.map_eq_some_iff] at hd
          obtain ⟨fl,e1,e2⟩:=hd
          exact ⟨fl,by rw [←Array.getElem?_toList];exact e1,by simpa using congrArg Prod.fst e2,by simpa using congrArg Prod.snd e2⟩
        obtain ⟨fl,f1,f2,f3⟩:=hfd
        generalize hux:a.eval x=ux at hx
        cases hx with
        | agg hl hcell hrel=>
          rename_i us
          obtain ⟨u,g1,g2⟩:=j3_ (P:=P) H.ty htf (d:=d) ⟨hl,hcell,hrel⟩ hv
          refine aP_ (bk_ (x:=Instr.field s (a.eval x) f) (by simp only [execOp,ho]) (u:=u) ?_) (hn _ _ ρ _ w h S g2)
          rw [hux]
          simp only [Instr.field,Sem.run_bind,run_underlying hu,Result.andThen_ok,f1,asAgg,Sem.run_pure,f2,f3]
          exact g1
       ·cases h
      ·cases h
     ·cases h
    ·cases h
   ·cases h
  ·rename_i t x i ho
   split at h
   ·rename_i ti ht
    obtain ⟨v,u',g1,g2,g3⟩:=nW_ (P:=P) H.ty H.cod S ht (aw_ H.ty S t x) (aw_ H.ty S 0 i) h
    exact aP_ (bk_ (by simp only [execOp,ho]) g2) (hn _ _ ρ _ w g1 S g3)
   ·cases h
  ·rename_i t x i ho
   split at h
   ·rename_i ti ht
    split at h
    ·rename_i hs
     split at h
     ·rename_i s k n hx0 hi0
      obtain ⟨c,hc,h⟩:=bind_some h
      have h1:=aw_ H.ty S t x
      have h2:=aw_ H.ty S 0 i
      rw [hx0] at h1
      rw [hi0] at h2
      obtain ⟨e1,_⟩:=aR_ h1
      obtain ⟨e2,_⟩:=aR_ h2
      have hu:=H.ty.str t ti ht hs
      unfold tl_ at hc
      split at hc
      ·cases hc
      ·rename_i hneg
       refine aP_ (bk_ (x:=Instr.index t (a.eval x) (a.eval i)) (by simp only [execOp,ho]) (u:= .int .u8 c.toNat) ?_) (hn _ _ ρ _ w h S (.lit rfl))
       rw [e1,e2]
       simp only [Instr.index,asIntOf,Sem.run_bind,Sem.run_pure,Result.andThen_ok,run_underlying hu]
       rw [if_pos (by omega),hc]
       rfl
     ·cases h
    ·cases h
   ·cases h
  ·rename_i t i ho
   split at h
   ·rename_i vs hv
    split at h
    ·rename_i v hi
     have hx:=aw_ H.ty S 0 t
     rw [hv] at hx
     generalize hux:a.eval t=ux at hx
     cases hx with
     | tup hl hrel=>
       rename_i us
       have hlt:=(List.getElem?_eq_some_iff.mp hi).1
       have hu:us[i]? =some (us[i]'(by omega)):=List.getElem?_eq_getElem _
       refine aP_ (bk_ (x:=Instr.extract (a.eval t) i) (by simp only [execOp,ho]) (u:=us[i]'(by omega)) ?_) (hn _ _ ρ _ w h S (hrel i v _ hi hu))
       rw [hux]
       simp [Instr.extract,hu]
    ·cases h
   ·cases h
  ·rename_i c ho
   split at h
   ·rename_i b hb
    split at h
    ·
      split at h
      ·rename_i x t hx ht0
       split at h
       ·rename_i ti ht
        split at h
        ·rename_i n hlen
         have hr:=aw_ H.ty S t x
         refine aP_ (u:= .int .i64 n) (w':=w) ?_ (hn _ _ ρ _ w h S (.lit rfl))
         have ha:c.args= #[x]:=by apply Array.ext';exact hx
         have hat:c.argTypes= #[t]:=by apply Array.ext';exact ht0
         have:=vG_ (P:=P) H.ty H.cod S (ty:=o.type) ht hr hlen
         simp only [execOp,ho,resolve,hb,invoke,builtin,ha,hat,Sem.run_bind,Sem.run_pure,Result.andThen_ok]
         simp [this]
        ·cases h
       ·cases h
      ·cases h
    ·
      split at h
      ·rename_i x y t1 t2 hx ht0
       split at h
       ·rename_i i1 i2 h1 h2
        split at h
        ·rename_i e1 s1 e2 s2 hs1 hs2
         obtain ⟨v,objs',u',w',ρ',g1,g2,g3,g4⟩:=sS_ (P:=P) (ty:=o.type) H.ty H.el H.cod S h1 h2 hs1 hs2 (aw_ H.ty S t1 x) (aw_ H.ty S t2 y) h
         refine aP_ (u:=u') (w':=w') ?_ (hn _ _ ρ' _ w' g1 g3 g4)
         have ha:c.args= #[x,y]:=by apply Array.ext';exact hx
         have hat:c.argTypes= #[t1,t2]:=by apply Array.ext';exact ht0
         simp only [execOp,ho,resolve,hb,invoke,builtin,ha,hat,Sem.run_bind,Sem.run_pure,Result.andThen_ok]
         simp [g2]
        ·cases h
       ·cases h
      ·cases h
    ·
      split at h
      ·rename_i x y t1 t2 hx ht0
       split at h
       ·rename_i i1 h1
        split at h
        ·rename_i e1 s1 hs1
         obtain ⟨n,objs',w',g1,g2,g3⟩:=vS_ (P:=P) (ty:=o.type) (t2:=t2) H.ty H.cod S h1 hs1 (aw_ H.ty S t1 x) (aw_ H.ty S t2 y) h
         refine aP_ (u:= .int .i64 n) (w':=w') ?_ (hn _ _ ρ _ w' g1 g3 (.lit rfl))
         have ha:c.args= #[x,y]:=by apply Array.ext';exact hx
         have hat:c.argTypes= #[t1,t2]:=by apply Array.ext';exact ht0
         simp only [execOp,ho,resolve,hb,invoke,builtin,ha,hat,Sem.run_bind,Sem.run_pure,Result.andThen_ok]
         simp [g2]
        ·cases h
       ·cases h
      ·cases h
    ·cases h
   ·rename_i f hf
    split at h
    ·rename_i Sm hlen hΓ
     have hS:=H.fn f Sm hΓ
     obtain ⟨o1,o2⟩:=t3_ H.ty S c.args.toList c.argTypes.toList (Nat.eq_of_beq_eq_true hlen)
     obtain ⟨⟨fn,f1,f2,f3⟩,_⟩:=hS
     have hcall:=vM_ (P:=P) H.cod S (H.fn f Sm hΓ) o1 o2 h
     have hex:(execOp a.eval o).run P w= .ok (.enter f (c.args.toList.map a.eval).toArray) w:=by
       simp only [execOp,ho,resolve,hf,Act.eval,Deferred.ofValue,invoke,Sem.run_bind,Sem.run_pure,Result.andThen_ok,callFunc,run_program,f1]
       have f3':fn.body.isNone=false:=by cases hb:fn.body<;>simp_all
       have f2' : ¬ (fn.name = "runtime.NumGoroutine") := by simpa using f2
       simp [f2',f3']
       apply Array.ext';simp
     simp only [Oper.wp,hex,Oper.upon]
     refine hcall.mono ?_
     rintro e w' ⟨v,u,objs',ρ',rfl,g1,g2,g3⟩
     exact hn _ _ ρ' _ w' g1 g2 g3
    ·cases h
   ·cases h
  ·cases h
end
end Km
namespace Km
open Go
set_option linter.unusedVariables false
set_option linter.unusedSimpArgs false
variable {κ:Type} {Ty:κ→Type} {R:Type}
section
variable {P:Program} {C:Cod κ Ty} {T:TypeId→Option (TI κ Ty)} {Γ:FuncId→Option (aY_ κ Ty)}
variable {Mut:Nat→Prop} {Lent:Org κ Ty} {w0 w w':World} {ρ ρ' ρ2:Nat→Loc} {env:Env κ Ty} {objs objs' objs2:ap_ κ Ty} {a:Act} {tm:Array Value}
variable {next:Act→World→Prop} {Q:Exit→Act→World→Prop} {o:Oper}
theorem fn_ (d:Nat) (v:AV κ Ty) (env:Env κ Ty) (i:Nat):look ((d,v)::env) i=if i=d then v else look env i:=by
  simp only [look]
  by_cases h:i=d
  ·subst h;simp
  ·rw [if_neg h]
   have:Nat.beq d i=false:=by
     cases hb:Nat.beq d i with
     | false=>rfl
     | true=>exact absurd (Nat.eq_of_beq_eq_true hb).symm h
   rw [this]
theorem SRel.setEnv (S:SRel C Mut Lent w0 ρ env objs tm w) {env':Env κ Ty} {tm':Array Value} (h:∀i,look env' i= .undef∨∃u,tm'[i]? =some u∧VRel C w Mut ρ objs (look env' i) u):SRel C Mut Lent w0 ρ env' objs tm' w:=
  {S with env:=h}
theorem SRel.know (S:SRel C Mut Lent w0 ρ env objs tm w) {d:Nat} {v:AV κ Ty} (h:∃u,tm[d]? =some u∧VRel C w Mut ρ objs v u):SRel C Mut Lent w0 ρ ((d,v)::env) objs tm w:=
  S.setEnv fun i=>by
    rw [fn_]
    split
    ·rename_i e;subst e;exact .inr h
    ·exact S.env i
theorem sM_ (S:SRel C Mut Lent w0 ρ env objs a.tmps w) {v:AV κ Ty} {u:Value} (hr:VRel C w Mut ρ objs v u) (hd:∀d,o.dst=some d→d<a.tmps.size):SRel C Mut Lent w0 ρ (put o env v) objs (a.put o.dst u).tmps w:=by
  unfold put
  split
  ·rename_i d hdd
   have hlt:=hd d hdd
   refine S.setEnv fun i=> ?_
   rw [fn_]
   have ht:(a.put o.dst u).tmps=a.tmps.setIfInBounds d u:=by simp [Act.put,hdd]
   rw [ht]
   split
   ·rename_i e;subst e
    exact .inr ⟨u,by simp [hlt],hr⟩
   ·rename_i e
    rcases S.env i with h | ⟨u',h1,h2⟩
    ·exact .inl h
    ·exact .inr ⟨u',by rw [Array.getElem?_setIfInBounds_ne (Ne.symm e)];exact h1,h2⟩
  ·rename_i hdd
   simpa [Act.put,hdd] using S
theorem n8_ (dst:Option Tmp) (u:Value):(a.put dst u).tmps.size=a.tmps.size:=by cases dst<;>simp [Act.put]
theorem iy_ (dst:Option Tmp) (u:Value):(a.put dst u).defers=a.defers:=by cases dst<;>rfl
theorem eqB_iff {p q:Bool}:eqB p q=true↔p=q:=by cases p<;>cases q<;>simp [eqB]
theorem ph_ (H:Known P C T Γ) {all:Array Oper} (S:SRel C Mut Lent w0 ρ env objs a.tmps w) (hd:∀d,o.dst=some d→d<a.tmps.size) {K:Env κ Ty→ap_ κ Ty→Option R} {r:R} (h:j9_ C T Γ all o env objs K=some r)
    (hn:∀env' objs' ρ' a' w',K env' objs'=some r→SRel C Mut Lent w0 ρ' env' objs' a'.tmps w'→a'.tmps.size=a.tmps.size→a'.defers=a.defers→next a' w'):
    if Region.wanted o (yielded all a.tmps) then o.wp P a w next Q else next (a.put o.dst Go.undef) w:=by
  unfold j9_ at h
  split at h
  ·rename_i hg
   have hw:Region.wanted o (yielded all a.tmps)=true:=by simp [Region.wanted,hg]
   rw [if_pos hw]
   exact un_ H S h fun v objs' ρ' u w' hK S' hv=>hn _ _ ρ' _ w' hK (sM_ S' hv hd) (n8_ _ _) (iy_ _ _)
  ·rename_i j want hg
   split at h
   ·cases h
   ·rename_i d hdst
    split at h
    ·rename_i b hb
     have h:=lu_ h
     have hyd:∃u,a.tmps[d]? =some u∧u= .bool b:=by
       rcases S.env d with e | ⟨u,h1,h2⟩
       ·rw [hb] at e;cases e
       ·rw [hb] at h2;exact ⟨u,h1,(aR_ h2).1⟩
     obtain ⟨u,hu1,rfl⟩:=hyd
     have hy:yielded all a.tmps j=some b:=by simp [yielded,hdst,hu1]
     have S1:SRel C Mut Lent w0 ρ ((d, .lit (.bool b))::env) objs a.tmps w:=S.know ⟨_,hu1, .lit rfl⟩
     split at h
     ·rename_i he
      have he:=eqB_iff.mp he
      have hw:Region.wanted o (yielded all a.tmps)=true:=by simp [Region.wanted,hg,hy,he]
      rw [if_pos hw]
      exact un_ H S1 h fun v objs' ρ' u w' hK S' hv=>hn _ _ ρ' _ w' hK (sM_ S' hv hd) (n8_ _ _) (iy_ _ _)
     ·rename_i he
      have hne:b≠want:=fun e=>by rw [eqB_iff.mpr e] at he;cases he
      have hw:¬Region.wanted o (yielded all a.tmps)=true:=by simp [Region.wanted,hg,hy,hne]
      rw [if_neg hw]
      exact hn _ _ ρ _ w h (sM_ S1 .void hd) (n8_ _ _) (iy_ _ _)
    ·rename_i hb
     have hyd:∃u,a.tmps[d]? =some u∧u=Go.undef:=by
       rcases S.env d with e | ⟨u,h1,h2⟩
       ·rw [hb] at e;cases e
       ·rw [hb] at h2;cases h2;exact ⟨_,h1,rfl⟩
     obtain ⟨u,hu1,rfl⟩:=hyd
     have hy:yielded all a.tmps j=none:=by simp [yielded,hdst,hu1,Go.undef]
     have hw:¬Region.wanted o (yielded all a.tmps)=true:=by simp [Region.wanted,hg,hy]
     rw [if_neg hw]
     exact hn _ _ ρ _ w h (sM_ S .void hd) (n8_ _ _) (iy_ _ _)
    ·cases h
theorem rR_ (H:Known P C T Γ) {all:Array Oper} {nt:Nat}:∀(os:List Oper) (i:Nat) (env:Env κ Ty) (objs:ap_ κ Ty) (ρ:Nat→Loc) (a:Act) (w:World) {K:Env κ Ty→ap_ κ Ty→Option R} {r:R},
    (∀k,os[k]? =all[i+k]?)→(∀o∈os,∀d,o.dst=some d→d<nt)→a.tmps.size=nt→SRel C Mut Lent w0 ρ env objs a.tmps w→EY_ C T Γ all os env objs K=some r→
    (∀env' objs' ρ' a' w',K env' objs'=some r→SRel C Mut Lent w0 ρ' env' objs' a'.tmps w'→a'.tmps.size=nt→a'.defers=a.defers→Q .normal a' w')→
    wpOps P all Q (List.range' i os.length) a w
  | [],i,env,objs,ρ,a,w,K,r,hos,hd,hsz,S,h,hn=>hn _ _ ρ _ _ h S hsz rfl
  | o::os,i,env,objs,ρ,a,w,K,r,hos,hd,hsz,S,h,hn=>by
    have ho:all[i]? =some o:=by have:=hos 0;simpa using this.symm
    simp only [List.length_cons,List.range'_succ,wpOps,ho]
    simp only [EY_] at h
    have hs:=ph_ (next:=wpOps P all Q (List.range' (i+1) os.length)) (Q:=Q) H S (hd:=fun d hdd=>by rw [hsz];exact hd o (by simp) d hdd) h (fun env' objs' ρ' a' w' hK S' hz hdf=>
      rR_ H os (i+1) env' objs' ρ' a' w' (fun k=>by have:=hos (k+1);rw [show i+1+k=i+(k+1) by omega];simpa using this) (fun o ho=>hd o (by simp [ho])) (hz.trans hsz) S' hK
        (fun e2 o2 ρ2 a2 w2 k2 S2 z2 d2=>hn e2 o2 ρ2 a2 w2 k2 S2 z2 (d2.trans hdf)))
    split at hs
    ·rename_i hw;rw [if_pos hw];exact .inl hs
    ·rename_i hw;rw [if_neg hw];exact hs
end
end Km
namespace Km
open Go
set_option linter.unusedVariables false
set_option linter.unusedSimpArgs false
variable {κ:Type} {Ty:κ→Type} {R:Type}
section
variable {P:Program} {C:Cod κ Ty} {T:TypeId→Option (TI κ Ty)} {Γ:FuncId→Option (aY_ κ Ty)}
variable {Mut:Nat→Prop} {Lent:Org κ Ty} {w0 w w':World} {ρ ρ' ρ2:Nat→Loc} {env:Env κ Ty} {objs objs' objs2:ap_ κ Ty} {tm:Array Value}
def OR (C:Cod κ Ty) (w:World) (Mut:Nat→Prop) (ρ:Nat→Loc) (objs:ap_ κ Ty) (v:AV κ Ty):Option Value→Prop
  | some u=>VRel C w Mut ρ objs v u
  | none=>v= .undef
def ORL (C:Cod κ Ty) (w:World) (Mut:Nat→Prop) (ρ:Nat→Loc) (objs:ap_ κ Ty):List (AV κ Ty)→List (Option Value)→Prop
  | [],[]=>True
  | v::vs,u::us=>OR C w Mut ρ objs v u∧ORL C w Mut ρ objs vs us
  | _,_=>False
structure More (C:Cod κ Ty) (w:World) (Mut:Nat→Prop) (ρ:Nat→Loc) (objs:ap_ κ Ty) (ρ':Nat→Loc) (objs':ap_ κ Ty):Prop where
  len:objs.length≤objs'.length
  rel:∀(v:AV κ Ty) (u:Value),VRel C w Mut ρ objs v u→VRel C w Mut ρ' objs' v u
  same:∀i,i<objs.length→objs'[i]? =objs[i]?
theorem More.refl:More C w Mut ρ objs ρ objs:=⟨Nat.le_refl _,fun _ _ h=>h,fun _ _=>rfl⟩
theorem More.trans {ρ3:Nat→Loc} {objs3:ap_ κ Ty} (h:More C w Mut ρ objs ρ' objs') (g:More C w Mut ρ' objs' ρ3 objs3):More C w Mut ρ objs ρ3 objs3:=
  ⟨Nat.le_trans h.len g.len,fun v u x=>g.rel v u (h.rel v u x),fun i hi=>(g.same i (Nat.lt_of_lt_of_le hi h.len)).trans (h.same i hi)⟩
theorem OR.more (h:More C w Mut ρ objs ρ' objs') {v:AV κ Ty} {u:Option Value} (x:OR C w Mut ρ objs v u):OR C w Mut ρ' objs' v u:=by
  cases u with
  | none=>exact x
  | some u=>exact h.rel v u x
theorem ORL.more (h:More C w Mut ρ objs ρ' objs'):∀{vs:List (AV κ Ty)} {us:List (Option Value)},ORL C w Mut ρ objs vs us→ORL C w Mut ρ' objs' vs us
  | [],[],_=>trivial
  | _::_,_::_,⟨a,b⟩=>⟨a.more h,b.more h⟩
theorem SRel.pushNil (S:SRel C Mut Lent w0 ρ env objs tm w) (t:κ):∃ρ',SRel C Mut Lent w0 ρ' env (objs++[.sl t []]) tm w∧More C w Mut ρ objs ρ' (objs++[.sl t []])∧∀A,VRel C w Mut ρ' (objs++[.sl t []]) (.own objs.length) (.slice A 0 0):=by
  have nf:∀b,¬aq_ (upd ρ objs.length ⟨0,0,0,noSub⟩) (objs++[AObj.sl t []]) objs.length b:=fun b hb=>by
    unfold aq_ at hb;rw [bi_,aH_] at hb;exact hb.1 rfl
  have W:WStep w w (aV_ ρ objs) (aV_ (upd ρ objs.length ⟨0,0,0,noSub⟩) (objs++[AObj.sl t []])):=⟨fun _ _ _=>rfl,Nat.le_refl _,fun b ⟨i,hi⟩=>by
    rcases h2_ (fun _=>rfl) hi with ⟨_,h⟩ | ⟨h1,_⟩
    ·exact .inl ⟨i,h⟩
    ·subst h1;exact absurd hi (nf b)⟩
  refine ⟨upd ρ objs.length ⟨0,0,0,noSub⟩, ?_,⟨by simp,fun v u h=>h.step W (by simp) (fP_ _ _),fun i hi=>c9_ hi⟩, ?_⟩
  ·refine S.take (w':=w) (.refl objs) (fun b _ _=>rfl) (Nat.le_refl _) (.inr nf) (fun b _=>rfl) (fun W=> ?_) rfl rfl rfl
   unfold ORel;rw [bi_,aH_]
   exact ⟨Nat.le_refl _,fun h=>absurd rfl h,fun i x j cl hx=>by simp at hx,fun q hq=>by simp at hq⟩
  ·intro A
   have:=VRel.own (C:=C) (w:=w) (Mut:=Mut) (ρ:=upd ρ objs.length ⟨0,0,0,noSub⟩) (bi_ objs (.sl t [])) (A:=A) (fun h=>by rw [aH_] at h;exact absurd rfl h)
   rw [aH_] at this
   exact this
theorem m8_ (S:SRel C Mut Lent w0 ρ env objs tm w) {v:AV κ Ty} {u:Option Value} (h:OR C w Mut ρ objs v u):∃ρ',SRel C Mut Lent w0 ρ' env (nl_ objs v).2 tm w∧More C w Mut ρ objs ρ' (nl_ objs v).2∧OR C w Mut ρ' (nl_ objs v).2 (nl_ objs v).1 u:=by
  unfold nl_
  split
  ·rename_i t
   obtain ⟨ρ',h1,h2,h3⟩:=S.pushNil t
   refine ⟨ρ',h1,h2, ?_⟩
   cases u with
   | none=>cases h
   | some u=>cases h;exact h3 _
  ·exact ⟨ρ,S, .refl,h⟩
theorem jv_:∀(vs:List (AV κ Ty)) (us:List (Option Value)) (objs:ap_ κ Ty) (ρ:Nat→Loc),SRel C Mut Lent w0 ρ env objs tm w→ORL C w Mut ρ objs vs us→
    ∃ρ',SRel C Mut Lent w0 ρ' env (jr_ objs vs).2 tm w∧More C w Mut ρ objs ρ' (jr_ objs vs).2∧ORL C w Mut ρ' (jr_ objs vs).2 (jr_ objs vs).1 us
  | [],[],objs,ρ,S,_=>⟨ρ,S, .refl,trivial⟩
  | v::vs,u::us,objs,ρ,S,⟨h1,h2⟩=>by
    obtain ⟨ρ1,a1,a2,a3⟩:=m8_ S h1
    obtain ⟨ρ2,b1,b2,b3⟩:=jv_ vs us _ ρ1 a1 (h2.more a2)
    exact ⟨ρ2,b1,a2.trans b2,⟨a3.more b2,b3⟩⟩
  | [],_::_,_,_,_,h=>h.elim
  | _::_,[],_,_,_,h=>h.elim
theorem hh_ {cs:List (AV κ Ty)} {us:List Value} (hl:us.length=cs.length) (h:∀(j:Nat) (cl:AV κ Ty) (u:Value),cs[j]? =some cl→us[j]? =some u→VRel C w Mut ρ objs cl u):ORL C w Mut ρ objs cs (us.map some):=by
  induction cs generalizing us with
  | nil=>cases us with | nil=>trivial | cons _ _=>simp at hl
  | cons c cs ih=>
    cases us with
    | nil=>simp at hl
    | cons u us=>exact ⟨h 0 c u rfl rfl,ih (by simpa using hl) (fun j cl u a b=>h (j+1) cl u (by simpa using a) (by simpa using b))⟩
theorem hk_ {cs:List (AV κ Ty)} {us:List Value} (h:ORL C w Mut ρ objs cs (us.map some)):us.length=cs.length∧∀(j:Nat) (cl:AV κ Ty) (u:Value),cs[j]? =some cl→us[j]? =some u→VRel C w Mut ρ objs cl u:=by
  induction cs generalizing us with
  | nil=>cases us with | nil=>exact ⟨rfl,fun j cl u h=>by simp at h⟩ | cons _ _=>exact h.elim
  | cons c cs ih=>
    cases us with
    | nil=>exact h.elim
    | cons u us=>
      obtain ⟨a,b⟩:=ih h.2
      refine ⟨by simp [a],fun j cl u' h1 h2=> ?_⟩
      cases j with
      | zero=>simp at h1 h2;subst h1;subst h2;exact h.1
      | succ j=>exact b j cl u' (by simpa using h1) (by simpa using h2)
theorem ts_ (S:SRel C Mut Lent w0 ρ env objs tm w) {v:AV κ Ty} {u:Option Value} (h:OR C w Mut ρ objs v u):∃ρ',SRel C Mut Lent w0 ρ' env (rS_ objs v).2 tm w∧More C w Mut ρ objs ρ' (rS_ objs v).2∧OR C w Mut ρ' (rS_ objs v).2 (rS_ objs v).1 u:=by
  by_cases hv:∃cs,v= .agg cs
  ·obtain ⟨cs,rfl⟩:=hv
   cases u with
   | none=>cases h
   | some u=>
     cases h with
     | agg hl hcell hrel=>
       obtain ⟨ρ1,a1,a2,a3⟩:=jv_ cs _ objs ρ S (hh_ hl hrel)
       obtain ⟨b1,b2⟩:=hk_ a3
       exact ⟨ρ1,a1,a2, .agg b1 hcell b2⟩
  ·have e:rS_ objs v=nl_ objs v:=by cases v<;>first | rfl | exact absurd ⟨_,rfl⟩ hv
   rw [e];exact m8_ S h
theorem mY_:∀(vs:List (AV κ Ty)) (us:List (Option Value)) (objs:ap_ κ Ty) (ρ:Nat→Loc),SRel C Mut Lent w0 ρ env objs tm w→ORL C w Mut ρ objs vs us→
    ∃ρ',SRel C Mut Lent w0 ρ' env (gr_ objs vs).2 tm w∧More C w Mut ρ objs ρ' (gr_ objs vs).2∧ORL C w Mut ρ' (gr_ objs vs).2 (gr_ objs vs).1 us
  | [],[],objs,ρ,S,_=>⟨ρ,S, .refl,trivial⟩
  | v::vs,u::us,objs,ρ,S,⟨h1,h2⟩=>by
    obtain ⟨ρ1,a1,a2,a3⟩:=ts_ S h1
    obtain ⟨ρ2,b1,b2,b3⟩:=mY_ vs us _ ρ1 a1 (h2.more a2)
    exact ⟨ρ2,b1,a2.trans b2,⟨a3.more b2,b3⟩⟩
  | [],_::_,_,_,_,h=>h.elim
  | _::_,[],_,_,_,h=>h.elim
theorem SRel.rebox (S:SRel C Mut Lent w0 ρ env objs tm w) {n:Nat} {cs cs':List (AV κ Ty)} (h:objs[n]? =some (.box cs)) (hl:cs'.length=cs.length)
    (hc:∀(j:Nat) (cl:AV κ Ty) (v:Value),cs'[j]? =some cl→w.cell? (at' (ρ n).block ((ρ n).off+j))=some v→aW_ v=true→VRel C w Mut ρ objs cl v):
    SRel C Mut Lent w0 ρ env (objs.set n (.box cs')) tm w∧∀(v:AV κ Ty) (u:Value),VRel C w Mut ρ objs v u→VRel C w Mut ρ (objs.set n (.box cs')) v u:=by
  have hlt:=(List.getElem?_eq_some_iff.mp h).1
  have hset:(objs.set n (AObj.box cs'))[n]? =some (.box cs'):=by simp [hlt]
  have hne:∀k,k≠n→(objs.set n (AObj.box cs'))[k]? =objs[k]? :=fun k h=>List.getElem?_set_ne (Ne.symm h)
  have hft:∀k b,aq_ ρ (objs.set n (AObj.box cs')) k b→aq_ ρ objs k b:=fun k b hk=>by
    by_cases e:k=n
    ·subst e;unfold aq_ at hk⊢;rw [hset] at hk;rw [h];exact hk
    ·unfold aq_ at hk⊢;rw [hne k e] at hk;exact hk
  have W:WStep w w (aV_ ρ objs) (aV_ ρ (objs.set n (AObj.box cs'))):=WStep.same fun b ⟨i,hi⟩=>⟨i,hft i b hi⟩
  have hcm:∀k,Compat ρ objs ρ (objs.set n (AObj.box cs')) k:=fun k=>by
    by_cases e:k=n
    ·subst e;unfold Compat;rw [h];exact .inl ⟨_,hset,rfl⟩
    ·exact Compat.of_eq (fun _=>hne k e) (fun _=>rfl)
  refine ⟨S.step W (by simp) hcm (fun k=> ?_) (fun i j b hi hj=>S.inj i j b (hft i b hi) (hft j b hj)) rfl rfl rfl,fun v u hv=>hv.step W (by simp) hcm⟩
  by_cases e:k=n
  ·subst e
   have ho:=S.ob k
   unfold ORel at ho⊢
   rw [h] at ho;rw [hset]
   refine ⟨ho.1,fun j cl hj=> ?_⟩
   have hjl:j<cs.length:=by have:=(List.getElem?_eq_some_iff.mp hj).1;omega
   obtain ⟨v,a1,a2,_,a4⟩:=ho.2 j _ (List.getElem?_eq_getElem hjl)
   exact ⟨v,a1,a2,(hc j cl v hj a1 a2).step W (by simp) hcm,a4⟩
  ·exact ORel.step W (by simp) hcm (S.ob k) (hne k e) rfl (fun _ _=>rfl)
theorem iq_:∀(cs:List (AV κ Ty)) (objs:ap_ κ Ty),(jr_ objs cs).1.length=cs.length
  | [],_=>rfl
  | c::cs,objs=>by simp [jr_,iq_ cs]
theorem na_:∀(n:Nat) (objs:ap_ κ Ty) (ρ:Nat→Loc),SRel C Mut Lent w0 ρ env objs tm w→
    ∃ρ',SRel C Mut Lent w0 ρ' env (hC_ n objs) tm w∧objs.length≤(hC_ n objs).length∧∀(v:AV κ Ty) (u:Value),VRel C w Mut ρ objs v u→VRel C w Mut ρ' (hC_ n objs) v u
  | 0,objs,ρ,S=>⟨ρ,S,Nat.le_refl _,fun _ _ h=>h⟩
  | n+1,objs,ρ,S=>by
    obtain ⟨ρ1,a1,a2,a3⟩:=na_ n objs ρ S
    simp only [hC_]
    split
    ·rename_i cs hcs
     have ho:=a1.ob n
     simp only [ORel,hcs] at ho
     have hor:ORL C w Mut ρ1 (hC_ n objs) cs (((List.range cs.length).map fun j=>(w.cell? (at' (ρ1 n).block ((ρ1 n).off+j))).getD Go.undef).map some):=by
       refine hh_ (by simp) (fun j cl u hj hu=> ?_)
       obtain ⟨v,b1,_,b3,_⟩:=ho.2 j cl hj
       have hjl:=(List.getElem?_eq_some_iff.mp hj).1
       rw [List.getElem?_map,List.getElem?_range hjl] at hu
       simp only [Option.map_some,b1,Option.getD_some,Option.some.injEq] at hu
       rw [←hu];exact b3
     obtain ⟨ρ2,c1,c2,c3⟩:=jv_ cs _ _ ρ1 a1 hor
     obtain ⟨d1,d2⟩:=hk_ c3
     have hn:n<(hC_ n objs).length:=(List.getElem?_eq_some_iff.mp hcs).1
     have hcs2:(jr_ (hC_ n objs) cs).2[n]? =some (.box cs):=by rw [c2.same n hn];exact hcs
     have hρ:∀(u:Value),VRel C w Mut ρ2 (jr_ (hC_ n objs) cs).2 (.ref n 0) u→VRel C w Mut ρ1 (hC_ n objs) (.ref n 0) u→True:=fun _ _ _=>trivial
     have hloc:ρ2 n=ρ1 n∨True:= .inr trivial
     have href:=c2.rel _ _ (VRel.ref (C:=C) (w:=w) (Mut:=Mut) (off:=0) hcs)
     have hblk:(ρ2 n).block=(ρ1 n).block∧(ρ2 n).off=(ρ1 n).off:=by
       generalize hq:Value.pointer (some (at' (ρ1 n).block ((ρ1 n).off+0)))=q at href
       cases href with
       | ref h=>simp [at'] at hq;exact ⟨hq.1.symm,hq.2.symm⟩
       | refd hc hin h=>rw [A7_ hcs2] at h;cases h
     obtain ⟨e1,e2⟩:=c1.rebox hcs2 (iq_ cs _) (fun j cl v hj hv hcl=>by
       have hjl:j<cs.length:=by have:=(List.getElem?_eq_some_iff.mp hj).1;rwa [iq_] at this
       refine d2 j cl v hj ?_
       rw [List.getElem?_map,List.getElem?_range hjl]
       rw [hblk.1,hblk.2] at hv
       simp [hv])
     exact ⟨ρ2,e1,by have:=c2.len;simp;omega,fun v u h=>e2 v u (c2.rel v u (a3 v u h))⟩
    ·exact ⟨ρ1,a1,a2,a3⟩
end
end Km
namespace Km
open Go
set_option linter.unusedVariables false
set_option linter.unusedSimpArgs false
variable {κ:Type} {Ty:κ→Type} {R:Type}
section
variable {P:Program} {C:Cod κ Ty} {T:TypeId→Option (TI κ Ty)} {Γ:FuncId→Option (aY_ κ Ty)}
variable {Mut:Nat→Prop} {Lent:Org κ Ty} {w0 w w':World} {ρ ρ' ρ2:Nat→Loc} {env:Env κ Ty} {objs objs' objs2:ap_ κ Ty} {tm:Array Value}
theorem qC_ {l:List Nat} (hl:∀i∈l,i<objs.length):qG_ true Mut ρ objs Mut (hf_ ρ l) (fG_ objs l):=by
  intro b k _ h h'
  rcases h' with ⟨j,hj⟩ | ⟨hb,hm⟩
  ·obtain ⟨i,_,hi⟩:=ej_ hl hj
   exact h (.inl ⟨i,hi⟩)
  ·exact h (.inr ⟨hb,hm⟩)
theorem SRel.shrink (HC:a4_ C) (S:SRel C Mut Lent w0 ρ env objs tm w) {l:List Nat} (hn:l.Nodup) (hl:∀i∈l,i<objs.length) (hpre:∀i,i<Lent.objs.length→l[i]? =some i):
    SRel C Mut Lent w0 (hf_ ρ l) [] (fG_ objs l) tm w:=by
  refine {S with env:=fun i=> .inl rfl,ob:=fun j=> ?_,inj:=fun i j b hi hj=> ?_,live:=fun b ⟨j,hj⟩=> ?_,comp:=fun i=> ?_,len:= ?_}
  ·by_cases hj:j<l.length
   ·have hi:=hl _ (List.getElem_mem hj)
    exact ORel.ren HC (lD_ ρ objs l) (qC_ hl) (sD_ hn (List.getElem?_eq_getElem hj)) (List.getElem?_eq_getElem hi) (fun h=>by cases h) (S.ob _)
   ·unfold ORel
    have:(fG_ objs l)[j]? =none:=List.getElem?_eq_none (by simp [fG_];omega)
    rw [this];trivial
  ·obtain ⟨p,h1,h2⟩:=ej_ hl hi
   obtain ⟨q,g1,g2⟩:=ej_ hl hj
   have:=S.inj p q b h2 g2
   subst this
   have hk:=(List.getElem?_eq_some_iff.mp h1).1
   exact (List.getElem?_inj hk hn).mp (h1.trans g1.symm)
  ·obtain ⟨i,_,hi⟩:=ej_ hl hj
   exact S.live b ⟨i,hi⟩
  ·by_cases hi:i<Lent.objs.length
   ·have hli:=hpre i hi
    have hio:=hl i (List.mem_of_getElem? hli)
    have hc:=S.comp i
    have hlo:(fG_ objs l)[i]? =some (n2_ (lc_ l · 0) objs[i]):=by
      simp only [fG_,List.getElem?_map,hli,Option.map_some,List.getElem?_eq_getElem hio]
    have hlρ:hf_ ρ l i=ρ i:=by simp [hf_,List.getD,hli]
    have hobj:objs[i]? =some objs[i]:=List.getElem?_eq_getElem hio
    refine hc.trans S.len ?_
    unfold Compat
    rw [hobj]
    cases ho:objs[i] with
    | dead=>rw [ho] at hlo;exact (bg_ hlo)
    | box cs=>rw [ho] at hlo;exact .inl ⟨_,hlo,hlρ⟩
    | sl t xs=>rw [ho] at hlo;exact .inl ⟨xs,hlo,rfl,hlρ⟩
    | mp k v es hh=>rw [ho] at hlo;exact .inl ⟨es,_,hlo,by rw [hlρ]⟩
   ·unfold Compat
    rw [List.getElem?_eq_none (by omega)];trivial
  ·rcases Nat.eq_zero_or_pos Lent.objs.length with h0 | h0
   ·omega
   ·have h1:=hpre (Lent.objs.length-1) (by omega)
    have:=(List.getElem?_eq_some_iff.mp h1).1
    simp [fG_];omega
theorem Bi_ {m:Nat} {l:List Nat}:∀i,i<m→(mi_ (List.range m) l)[i]? =some i:=by
  intro i hi
  obtain ⟨k,hk⟩:=iw_ l (List.range m)
  rw [hk,List.getElem?_append_left (by simpa using hi)]
  simp [hi]
theorem AH_ {acc:List Nat} {m:Nat} (h:∀i,i<m→acc[i]? =some i):∀i,i<m→(i3_ objs acc)[i]? =some i:=by
  intro i hi
  unfold i3_
  have e1:∀(a l:List Nat),(∀i,i<m→a[i]? =some i)→∀i,i<m→(mi_ a l)[i]? =some i:=fun a l ha i hi=>by
    obtain ⟨k,hk⟩:=iw_ l a
    have:=ha i hi
    have hlt:=(List.getElem?_eq_some_iff.mp this).1
    rw [hk,List.getElem?_append_left hlt];exact this
  exact e1 _ _ (e1 _ _ h) i hi
theorem OR.ids {v:AV κ Ty} {u:Option Value} (h:OR C w Mut ρ objs v u):∀i∈bG_ v,i<objs.length:=by
  cases u with
  | none=>cases h;intro i hi;simp [bG_,j4_,gN_] at hi
  | some u=>exact pn_ h
theorem ORL.map (h:∀(v:AV κ Ty) (u:Value),VRel C w Mut ρ objs v u→VRel C w Mut ρ2 objs2 v u):∀{vs:List (AV κ Ty)} {us:List (Option Value)},ORL C w Mut ρ objs vs us→ORL C w Mut ρ2 objs2 vs us
  | [],[],_=>trivial
  | v::vs,u::us,⟨h1,h2⟩=>by
    refine ⟨?_,h2.map h⟩
    cases u with
    | none=>exact h1
    | some u=>exact h _ _ h1
theorem ORL.ids:∀{vs:List (AV κ Ty)} {us:List (Option Value)},ORL C w Mut ρ objs vs us→∀i∈vs.flatMap bG_,i<objs.length
  | [],[],_,i,hi=>by simp at hi
  | v::vs,u::us,⟨h1,h2⟩,i,hi=>by
    simp only [List.flatMap_cons,List.mem_append] at hi
    exact hi.elim (h1.ids i) (h2.ids i)
theorem ORL.ren (HC:a4_ C) {g:Nat→Option Nat} (G:Ren g ρ objs ρ2 objs2) (hX:qG_ true Mut ρ objs Mut ρ2 objs2):∀{vs:List (AV κ Ty)} {us:List (Option Value)},ORL C w Mut ρ objs vs us→ORL C w Mut ρ2 objs2 (vs.map (oh_ g)) us
  | [],[],_=>trivial
  | v::vs,u::us,⟨h1,h2⟩=>by
    refine ⟨?_,h2.ren HC G hX⟩
    cases u with
    | none=>cases h1;exact rfl
    | some u=>exact ol_ HC G hX (fun h=>by cases h) (fun h=>by cases h) h1
theorem qA_ (S:SRel C Mut Lent w0 ρ env objs tm w) {m:Nat} {l:List Nat} {v:AV κ Ty} {u:Option Value} (h:OR C w Mut ρ objs v u):
    ∃ρ',SRel C Mut Lent w0 ρ' env (tv_ m l objs v).2 tm w∧(∀(x:AV κ Ty) (q:Value),VRel C w Mut ρ objs x q→VRel C w Mut ρ' (tv_ m l objs v).2 x q)∧OR C w Mut ρ' (tv_ m l objs v).2 (tv_ m l objs v).1 u:=by
  unfold tv_
  split
  ·rename_i id lo hi
   split
   ·split
    ·rename_i t xs hsl
     have hsl':=bx_ hsl
     have ho:=S.ob id
     simp only [ORel,hsl'] at ho
     obtain ⟨ho1,ho2,ho3,ho4⟩:=ho
     cases u with
     | none=>cases h
     | some u=>
       cases h with
       | subd hcl hin h1=>rw [h1] at hsl;cases hsl
       | @sub _ _ _ c _ _ A h1 hlo hhi hc hcap hA=>
         rw [hsl'] at h1;cases h1
         have hlen:(objs.set id AObj.dead).length=objs.length:=by simp
         have hw:=Weaker.kill objs id
         have hpz:(lo+c)*C.sz t≤(ρ id).cap*C.sz t:=Nat.mul_le_mul_right _ hcap
         rw [Nat.add_mul] at hpz
         have hS:=S.take (w':=w) (objs1:=objs.set id .dead) (o:= .sl t (dY_ xs lo hi)) (l:=⟨(ρ id).block,(ρ id).off+lo*C.sz t,c,noSub⟩) hw (fun b _ _=>rfl) (Nat.le_refl _) (by
           by_cases hc0:c=0
           ·refine .inr fun b hb=> ?_
            unfold aq_ at hb;rw [bi_,aH_] at hb;exact hb.1 hc0
           ·refine .inl (.inr ⟨⟨id,cj_ hsl' (by omega)⟩,fun i hi'=> ?_⟩)
            obtain ⟨g1,g2⟩:=gh_ hi'
            exact g1 (S.inj _ _ _ g2 (cj_ hsl' (by omega)))) (fun b _=>rfl) (fun W=>by
            unfold ORel;rw [bi_,aH_]
            refine ⟨by rw [dz_ _ _ _ hhi];exact hc,fun h=>ho2 (by show (ρ id).cap≠0;have:c≠0:=h;omega),fun i x j cl hx hj=> ?_,fun q hq=> ?_⟩
            ·obtain ⟨hx,_⟩:=jo_ hx
             obtain ⟨v,a1,a2⟩:=ho3 (lo+i) x j cl hx hj
             refine ⟨v, ?_,a2.step W (by simp) (b7_ hw _ _)⟩
             rw [Nat.add_mul] at a1
             rw [←a1]
             show w.cell? (at' (ρ id).block ((ρ id).off+lo*C.sz t+i*C.sz t+j))=_
             congr 2;omega
            ·have hq:q<c*C.sz t:=hq
             obtain ⟨v,a1,a2,a3⟩:=ho4 (lo*C.sz t+q) (by omega)
             have e:at' (ρ id).block ((ρ id).off+lo*C.sz t+q)=at' (ρ id).block ((ρ id).off+(lo*C.sz t+q)):=by rw [Nat.add_assoc]
             refine ⟨v, ?_,a2, ?_⟩
             ·show w.cell? (at' (ρ id).block ((ρ id).off+lo*C.sz t+q))=_
              rw [e];exact a1
             ·show w.frozen? (at' (ρ id).block ((ρ id).off+lo*C.sz t+q))=_
              rw [e];exact a3) rfl rfl rfl
         rw [hlen] at hS
         have hrel:∀(x:AV κ Ty) (q:Value),VRel C w Mut ρ objs x q→VRel C w Mut (upd ρ objs.length ⟨(ρ id).block,(ρ id).off+lo*C.sz t,c,noSub⟩) (objs.set id .dead++[.sl t (dY_ xs lo hi)]) x q:=fun x q hx=>by
           have W:WStep w w (aV_ ρ objs) (aV_ (upd ρ objs.length ⟨(ρ id).block,(ρ id).off+lo*C.sz t,c,noSub⟩) (objs.set id .dead++[.sl t (dY_ xs lo hi)])):=⟨fun _ _ _=>rfl,Nat.le_refl _,fun b ⟨i,hi'⟩=>by
             have hf:=h2_ (objs:=objs.set id .dead) (o:= .sl t (dY_ xs lo hi)) (l:=⟨(ρ id).block,(ρ id).off+lo*C.sz t,c,noSub⟩) (fun _=>rfl) (by rw [hlen];exact hi')
             rcases hf with ⟨_,h⟩ | ⟨h1,h2⟩
             ·exact .inl ⟨i,hw.foot h⟩
             ·by_cases hc0:c=0
              ·exfalso
               rw [hlen] at h1;subst h1
               unfold aq_ at hi'
               rw [show objs.length=(objs.set id AObj.dead).length from hlen.symm,bi_] at hi'
               rw [hlen,aH_] at hi'
               exact hi'.1 hc0
              ·rw [h2];exact .inl ⟨id,cj_ hsl' (by omega)⟩⟩
           refine hx.step W (by simp) (fun i=> ?_)
           have:=b7_ (ρ:=ρ) hw (.sl t (dY_ xs lo hi)) ⟨(ρ id).block,(ρ id).off+lo*C.sz t,c,noSub⟩ i
           rw [hlen] at this;exact this
         refine ⟨_,hS,hrel, ?_⟩
         have:=VRel.own (C:=C) (w:=w) (Mut:=Mut) (ρ:=upd ρ objs.length ⟨(ρ id).block,(ρ id).off+lo*C.sz t,c,noSub⟩) (objs:=objs.set id .dead++[.sl t (dY_ xs lo hi)]) (id:=objs.length) (t:=t) (xs:=dY_ xs lo hi) (A:=A) (by rw [←hlen];exact bi_ _ _) (fun h=>by rw [aH_] at h⊢;exact hA h)
         rw [aH_,dz_ _ _ _ hhi] at this
         exact this
    ·exact ⟨ρ,S,fun _ _ h=>h,h⟩
   ·exact ⟨ρ,S,fun _ _ h=>h,h⟩
  ·exact ⟨ρ,S,fun _ _ h=>h,h⟩
theorem pq_ {m:Nat} {l:List Nat}:∀(vs:List (AV κ Ty)) (us:List (Option Value)) (objs:ap_ κ Ty) (ρ:Nat→Loc),SRel C Mut Lent w0 ρ env objs tm w→ORL C w Mut ρ objs vs us→
    ∃ρ',SRel C Mut Lent w0 ρ' env (yV_ m l objs vs).2 tm w∧(∀(x:AV κ Ty) (q:Value),VRel C w Mut ρ objs x q→VRel C w Mut ρ' (yV_ m l objs vs).2 x q)∧ORL C w Mut ρ' (yV_ m l objs vs).2 (yV_ m l objs vs).1 us
  | [],[],objs,ρ,S,_=>⟨ρ,S,fun _ _ h=>h,trivial⟩
  | v::vs,u::us,objs,ρ,S,⟨h1,h2⟩=>by
    obtain ⟨ρ1,a1,a2,a3⟩:=qA_ S (m:=m) (l:=l) h1
    obtain ⟨ρ2,b1,b2,b3⟩:=pq_ vs us _ ρ1 a1 (h2.map a2)
    refine ⟨ρ2,b1,fun x q h=>b2 x q (a2 x q h),⟨?_,b3⟩⟩
    cases u with
    | none=>exact a3
    | some u=>exact b2 _ _ a3
  | [],_::_,_,_,_,h=>h.elim
  | _::_,[],_,_,_,h=>h.elim
theorem v5_ (S:SRel C Mut Lent w0 ρ env objs tm w) {m:Nat} {l:List Nat} {v:AV κ Ty} {u:Option Value} (h:OR C w Mut ρ objs v u):
    ∃ρ',SRel C Mut Lent w0 ρ' env (yn_ m l objs v).2 tm w∧(∀(x:AV κ Ty) (q:Value),VRel C w Mut ρ objs x q→VRel C w Mut ρ' (yn_ m l objs v).2 x q)∧OR C w Mut ρ' (yn_ m l objs v).2 (yn_ m l objs v).1 u:=by
  by_cases hv:∃cs,v= .agg cs
  ·obtain ⟨cs,rfl⟩:=hv
   cases u with
   | none=>cases h
   | some u=>
     cases h with
     | agg hl hcell hrel=>
       obtain ⟨ρ1,a1,a2,a3⟩:=pq_ (m:=m) (l:=l) cs _ objs ρ S (hh_ hl hrel)
       obtain ⟨b1,b2⟩:=hk_ a3
       exact ⟨ρ1,a1,a2, .agg b1 hcell b2⟩
  ·have e:yn_ m l objs v=tv_ m l objs v:=by cases v<;>first | rfl | exact absurd ⟨_,rfl⟩ hv
   rw [e];exact qA_ S h
theorem pp_ {m:Nat} {l:List Nat}:∀(vs:List (AV κ Ty)) (us:List (Option Value)) (objs:ap_ κ Ty) (ρ:Nat→Loc),SRel C Mut Lent w0 ρ env objs tm w→ORL C w Mut ρ objs vs us→
    ∃ρ',SRel C Mut Lent w0 ρ' env (vK_ m l objs vs).2 tm w∧(∀(x:AV κ Ty) (q:Value),VRel C w Mut ρ objs x q→VRel C w Mut ρ' (vK_ m l objs vs).2 x q)∧ORL C w Mut ρ' (vK_ m l objs vs).2 (vK_ m l objs vs).1 us
  | [],[],objs,ρ,S,_=>⟨ρ,S,fun _ _ h=>h,trivial⟩
  | v::vs,u::us,objs,ρ,S,⟨h1,h2⟩=>by
    obtain ⟨ρ1,a1,a2,a3⟩:=v5_ S (m:=m) (l:=l) h1
    obtain ⟨ρ2,b1,b2,b3⟩:=pp_ vs us _ ρ1 a1 (h2.map a2)
    refine ⟨ρ2,b1,fun x q h=>b2 x q (a2 x q h),⟨?_,b3⟩⟩
    cases u with
    | none=>exact a3
    | some u=>exact b2 _ _ a3
  | [],_::_,_,_,_,h=>h.elim
  | _::_,[],_,_,_,h=>h.elim
theorem kC_ {l:List Nat}:∀(n:Nat) (objs:ap_ κ Ty),SRel C Mut Lent w0 ρ env objs tm w→SRel C Mut Lent w0 ρ env (wm_ l n objs) tm w∧∀(x:AV κ Ty) (q:Value),VRel C w Mut ρ objs x q→VRel C w Mut ρ (wm_ l n objs) x q
  | 0,objs,S=>⟨S,fun _ _ h=>h⟩
  | n+1,objs,S=>by
    simp only [wm_]
    split
    ·exact kC_ n objs S
    ·obtain ⟨h1,h2⟩:=kC_ n _ (S.kill n)
     exact ⟨h1,fun x q h=>h2 x q (h.kill n)⟩
theorem lp_ (HC:a4_ C) (S:SRel C Mut Lent w0 ρ env objs tm w) {vs:List (AV κ Ty)} {us:List (Option Value)} (h:ORL C w Mut ρ objs vs us):
    ∃ρ',SRel C Mut Lent w0 ρ' [] (kL_ C Lent.objs.length vs objs).2 tm w∧ORL C w Mut ρ' (kL_ C Lent.objs.length vs objs).2 (kL_ C Lent.objs.length vs objs).1 us:=by
  unfold kL_
  obtain ⟨ρs,Ss,hs⟩:=ld_ HC objs.length objs ρ S
  generalize qy_ C objs.length objs=objsS at Ss hs
  replace h:=h.map hs
  replace S:=Ss
  clear hs Ss
  generalize objsS=objs at S h
  generalize ρs=ρ at S h
  dsimp only
  have hp:=kC_ (l:=i3_ objs (mi_ (List.range Lent.objs.length) (vs.flatMap bG_))) objs.length objs S
  generalize wm_ (i3_ objs (mi_ (List.range Lent.objs.length) (vs.flatMap bG_))) objs.length objs=objsP at hp
  replace S:=hp.1
  replace h:=h.map hp.2
  clear hp
  generalize objsP=objs at S h
  try dsimp only
  obtain ⟨ρ0,z1,z2,z3⟩:=pp_ (m:=Lent.objs.length) (l:=vs.flatMap bG_++objs.flatMap yt_) vs us objs ρ S h
  revert z1 z2 z3
  generalize vK_ Lent.objs.length (vs.flatMap bG_++objs.flatMap yt_) objs vs=q0
  obtain ⟨vs,objs⟩:=q0
  intro S z2 h
  generalize ρ0=ρ at S z2 h
  dsimp only at S h⊢
  obtain ⟨ρ1,a1,a2,a3⟩:=mY_ vs us objs ρ S h
  obtain ⟨ρ2,b1,b2,b3⟩:=na_ (gr_ objs vs).2.length _ ρ1 a1
  have b4:ORL C w Mut ρ2 (hC_ (gr_ objs vs).2.length (gr_ objs vs).2) (gr_ objs vs).1 us:=by
    exact a3.map b3
  have hlen:Lent.objs.length≤(hC_ (gr_ objs vs).2.length (gr_ objs vs).2).length:=b1.len
  have hn0:(List.range Lent.objs.length).Nodup:=List.nodup_range
  have hn:=oA_ (objs:=hC_ (gr_ objs vs).2.length (gr_ objs vs).2) (fM_ (l:=(gr_ objs vs).1.flatMap bG_) hn0)
  have hl:=xg_ b1 (fM_ (l:=(gr_ objs vs).1.flatMap bG_) hn0) (fun i hi=>by
    rw [or_ hn0] at hi
    rcases hi with hi | hi
    ·simp at hi;omega
    ·exact b4.ids i hi)
  refine ⟨hf_ ρ2 _,b1.shrink HC hn hl (AH_ Bi_), ?_⟩
  exact b4.ren HC (lD_ ρ2 _ _) (qC_ hl)
end
end Km
namespace Km
open Go
set_option linter.unusedVariables false
set_option linter.unusedSimpArgs false
variable {κ:Type} {Ty:κ→Type} {R α:Type}
section
variable {C:Cod κ Ty} {T:TypeId→Option (TI κ Ty)} {Γ:FuncId→Option (aY_ κ Ty)} {objs objs':ap_ κ Ty} {env env':Env κ Ty}
theorem Ct_ (b:Bool) (K:Bool→Option α) (F:α→Option R):ifB b (fun t=>(K t).bind F)=(ifB b K).bind F:=by cases b<;>rfl
theorem Bz_ (op:BinOp) (k:IntKind) (a b:Int) (K:Value→Option α) (F:α→Option R):Dz_ op k a b (fun v=>(K v).bind F)=(Dz_ op k a b K).bind F:=by
  cases op<;>simp [Dz_,Option.bind_assoc]
theorem Bj_ (op:BinOp) (a b:ByteArray) (K:Value→Option α) (F:α→Option R):Dy_ op a b (fun v=>(K v).bind F)=(Dy_ op a b K).bind F:=by
  cases op<;>simp [Dy_,Option.bind_assoc]
theorem BU_ (ti:TI κ Ty) (op:BinOp) (x y:AV κ Ty) (K:AV κ Ty→Option α) (F:α→Option R):DB_ ti op x y (fun v=>(K v).bind F)=(DB_ ti op x y K).bind F:=by
  unfold DB_
  split
  ·split
   ·rw [Option.bind_assoc]
   ·rfl
  ·split
   ·rw [Option.bind_assoc]
   ·rfl
  ·split
   ·split
    ·exact Bz_ _ _ _ _ _ _
    ·rfl
   ·exact Bj_ _ _ _ _ _
   ·split
    ·split<;>rfl
    ·rfl
   ·rfl
theorem zK_ (ti:TI κ Ty) (a:AV κ Ty) (K:AV κ Ty→Option α) (F:α→Option R):ow_ C objs ti a (fun v=>(K v).bind F)=(ow_ C objs ti a K).bind F:=by
  unfold ow_
  split
  ·split
   ·split<;>rfl
   ·rfl
  ·split
   ·rename_i s xs h
    rw [Option.bind_assoc]
    congr 1;funext x
    split<;>rfl
   ·rfl
  ·split<;>rfl
  ·rfl
theorem h4_ {b0:Bool}:∀(ns:List (AV κ Ty)) (objs:ap_ κ Ty) (K:List (AV κ Ty)→ap_ κ Ty→Option α) (F:α→Option R),fD_ C b0 objs ns (fun a b=>(K a b).bind F)=(fD_ C b0 objs ns K).bind F
  | [],objs,K,F=>rfl
  | c::cs,objs,K,F=>by
    cases c<;>simp only [fD_]<;>first
      | rfl
      | exact h4_ cs _ _ _
      | (split
         ·first | exact h4_ cs _ _ _ | (split<;>first | exact h4_ cs _ _ _ | rfl)
         ·rfl)
theorem y0_ (ti:TI κ Ty) (a x:AV κ Ty) (K:ap_ κ Ty→Option α) (F:α→Option R):nj_ C objs ti a x (fun v=>(K v).bind F)=(nj_ C objs ti a x K).bind F:=by
  unfold nj_
  split
  ·rfl
  ·split
   ·rfl
   ·split
    ·split
     ·split<;>rfl
     ·rfl
    ·split
     ·rw [Option.bind_assoc]
      congr 1;funext z
      rw [←h4_]
      congr 1;funext p q
      split
      ·split
       ·split<;>rfl
       ·rfl
      ·rfl
     ·rfl
    ·rfl
theorem qX_ (shp:Shp κ) (x i:AV κ Ty) (K:AV κ Ty→Option α) (F:α→Option R):eB_ C objs shp x i (fun v=>(K v).bind F)=(eB_ C objs shp x i K).bind F:=by
  unfold eB_
  split
  ·split
   ·split
    ·split
     ·split
      ·rw [Option.bind_assoc]
      ·rfl
     ·rfl
    ·split
     ·rw [Option.bind_assoc]
     ·rfl
    ·split
     ·split
      ·rw [Option.bind_assoc]
      ·rfl
     ·rfl
    ·rfl
   ·split
    ·split
     ·split
      ·rw [Option.bind_assoc]
      ·rfl
     ·rfl
    ·rfl
   ·rfl
  ·rfl
theorem yM_ (shp:Shp κ) (x:AV κ Ty) (lo hi:Option Int) (K:AV κ Ty→Option α) (F:α→Option R):lP_ C objs shp x lo hi (fun v=>(K v).bind F)=(lP_ C objs shp x lo hi K).bind F:=by
  unfold lP_
  split
  ·split
   ·rw [Option.bind_assoc]
   ·rfl
  ·split
   ·split
    ·split
     ·rw [Option.bind_assoc]
     ·rfl
    ·rfl
   ·split
    ·rw [Option.bind_assoc]
    ·rfl
   ·rw [Option.bind_assoc]
   ·rfl
  ·split
   ·split
    ·split
     ·rw [Option.bind_assoc]
     ·rfl
    ·rfl
   ·rfl
  ·rfl
theorem tx_ (t:κ):∀(ps:List (Nat×AV κ Ty)) (n:Nat) (objs:ap_ κ Ty) (K:List (Ty t)→ap_ κ Ty→Option α) (F:α→Option R),nK_ C t objs n ps (fun a b=>(K a b).bind F)=(nK_ C t objs n ps K).bind F
  | [],n,objs,K,F=>rfl
  | (i,v)::ps,n,objs,K,F=>by
    simp only [nK_]
    split
    ·rfl
    ·split
     ·rfl
     ·split
      ·rfl
      ·rw [←h4_]
       congr 1;funext p q
       split
       ·exact tx_ t ps _ _ _ _
       ·rfl
theorem v2_ (s1:κ) (x y:AV κ Ty) (K:AV κ Ty→ap_ κ Ty→Option α) (F:α→Option R):i1_ C objs s1 x y (fun a b=>(K a b).bind F)=(i1_ C objs s1 x y K).bind F:=by
  unfold i1_
  split
  ·rfl
  ·rw [Option.bind_assoc]
   congr 1;funext ys
   split
   ·rw [Option.bind_assoc]
   ·split
    ·simp only [Option.bind_assoc]
    ·rfl
   ·split
    ·simp only [Option.bind_assoc]
    ·rfl
   ·rfl
theorem wg_ (shp:Shp κ) (x:AV κ Ty) (h m:Int) (K:AV κ Ty→Option α) (F:α→Option R):in_ C objs shp x h m (fun v=>(K v).bind F)=(in_ C objs shp x h m K).bind F:=by
  unfold in_
  split
  ·split
   ·split
    ·split
     ·rw [Option.bind_assoc]
     ·rfl
    ·rfl
   ·rfl
  ·rfl
theorem Ab_ (s:κ) (x y:AV κ Ty) (K:AV κ Ty→ap_ κ Ty→Option α) (F:α→Option R):vg_ C objs s x y (fun a b=>(K a b).bind F)=(vg_ C objs s x y K).bind F:=by
  unfold vg_
  split
  ·rfl
  ·split
   ·split
    ·split
     ·rw [Option.bind_assoc]
     ·rfl
    ·rfl
   ·split
    ·split
     ·rw [Option.bind_assoc]
     ·rfl
    ·rfl
   ·rfl
theorem AD_ (S:aY_ κ Ty) (bs:List Nat) (args:List (AV κ Ty)) (K:AV κ Ty→ap_ κ Ty→Option α) (F:α→Option R):oR_ objs S bs args (fun a b=>(K a b).bind F)=(oR_ objs S bs args K).bind F:=by
  unfold oR_
  dsimp only
  split
  ·rfl
  ·rw [Option.bind_assoc]
theorem si_ {β:Type} (o:Option β) (K0:Option α) (K1:β→Option α) (F:α→Option R):optK o (K0.bind F) (fun a=>(K1 a).bind F)=(optK o K0 K1).bind F:=by cases o<;>rfl
theorem r7_ (shp:Shp κ) (m key:AV κ Ty) (K:Nat→(k v:κ)→List (Ty k×Ty v)→Ty k→Option α) (F:α→Option R):Ax_ C objs shp m key (fun i k v es x=>(K i k v es x).bind F)=(Ax_ C objs shp m key K).bind F:=by
  unfold Ax_
  split
  ·split
   ·split
    ·split
     ·split<;>rfl
     ·rfl
    ·rfl
   ·rfl
  ·rfl
theorem u1_ (shp:Shp κ) (m key:AV κ Ty) (z:Value) (K:AV κ Ty→Option α) (F:α→Option R):gz_ C objs shp m key z (fun v=>(K v).bind F)=(gz_ C objs shp m key z K).bind F:=by
  unfold gz_
  rw [←r7_]
  congr 1;funext _ k v es x
  rw [←si_]
  congr 1;funext p
  split<;>rfl
theorem xs_ (objs:ap_ κ Ty) (id:Nat) (k v:κ) (es:List (Ty k×Ty v)) (p:Nat×Ty v) (K:AV κ Ty→ap_ κ Ty→Option α) (F:α→Option R):BB_ C objs id k v es p (fun a b=>(K a b).bind F)=(BB_ C objs id k v es p K).bind F:=by
  unfold BB_
  split<;>rfl
theorem ut_ (shp:Shp κ) (m key:AV κ Ty) (s:κ) (K:AV κ Ty→ap_ κ Ty→Option α) (F:α→Option R):hi_ C objs shp m key s (fun a b=>(K a b).bind F)=(hi_ C objs shp m key s K).bind F:=by
  unfold hi_
  dsimp only
  rw [←r7_]
  congr 1;funext _ k v es x
  rw [←si_]
  congr 1;funext p
  exact xs_ _ _ _ _ _ _ _ _
theorem s4_ (shp:Shp κ) (m key:AV κ Ty) (te:TI κ Ty) (K:AV κ Ty→ap_ κ Ty→Option α) (F:α→Option R):gc_ C objs shp m key te (fun a b=>(K a b).bind F)=(gc_ C objs shp m key te K).bind F:=by
  unfold gc_
  dsimp only
  rw [←r7_]
  congr 1;funext _ k v es x
  rw [←si_]
  congr 1
  ·split<;>rfl
  ·funext p
   exact xs_ _ _ _ _ _ _ (fun r objs=>K (.tup [r, .lit (.int .i64 (p.1:Nat))]) objs) _
theorem tC_ (objs:ap_ κ Ty) (v:κ) (x:AV κ Ty) (K:Ty v→ap_ κ Ty→Option α) (F:α→Option R):q4_ C objs v x (fun a b=>(K a b).bind F)=(q4_ C objs v x K).bind F:=by
  unfold q4_
  split
  ·split<;>rfl
  ·split
   ·split<;>rfl
   ·rfl
  ·rfl
theorem qf_ (shp:Shp κ) (m n x:AV κ Ty) (K:ap_ κ Ty→Option α) (F:α→Option R):dw_ C objs shp m n x (fun v=>(K v).bind F)=(dw_ C objs shp m n x K).bind F:=by
  unfold dw_
  split
  ·split
   ·split
    ·split
     ·rw [Option.bind_assoc]
      congr 1;funext e
      exact tC_ _ _ _ _ _
     ·split
      ·rw [Option.bind_assoc]
       congr 1;funext e
       exact tC_ _ _ _ _ _
      ·rfl
    ·rfl
   ·rfl
  ·rfl
theorem Ad_ (o:Oper) (K:AV κ Ty→ap_ κ Ty→Option α) (F:α→Option R):aop C T Γ o env objs (fun a b=>(K a b).bind F)=(aop C T Γ o env objs K).bind F:=by
  unfold aop
  split
  ·rfl
  ·rfl
  ·split
   ·exact Ct_ _ _ _
   ·rfl
  ·split
   ·split
    ·split
     ·split<;>rfl
     ·rfl
    ·rfl
   ·rfl
  ·split<;>rfl
  ·split
   ·split
    ·split<;>rfl
    ·rfl
   ·rfl
  ·split
   ·split
    ·split
     ·split
      ·rfl
      ·split
       ·split<;>rfl
       ·exact tx_ _ _ _ _ _ _
     ·rfl
    ·rfl
   ·rfl
  ·split
   ·exact zK_ _ _ _ _
   ·rfl
  ·split
   ·exact y0_ _ _ _ _ _
   ·rfl
  ·split<;>rfl
  ·split
   ·split
    ·split
     ·split<;>rfl
     ·rfl
    ·exact BU_ _ _ _ _ _ _
   ·rfl
  ·split
   ·split<;>rfl
   ·rfl
  ·split
   ·split
    ·split<;>rfl
    ·split
     ·split
      ·split
       ·split
        ·split<;>rfl
        ·rfl
       ·rfl
      ·rfl
     ·rfl
    ·split
     ·split
      ·split
       ·split<;>rfl
       ·rfl
      ·rfl
     ·rfl
    ·rfl
   ·rfl
  ·split
   ·split
    ·split
     ·split
      ·rw [Option.bind_assoc]
       congr 1;funext m
       split
       ·split<;>rfl
       ·rfl
      ·rfl
     ·rfl
    ·rfl
   ·rfl
  ·split
   ·split
    ·split<;>rfl
    ·rfl
   ·rfl
  ·split
   ·rfl
   ·split
    ·split
     ·split
      ·split
       ·exact u1_ _ _ _ _ _ _
       ·exact ut_ _ _ _ _ _ _
       ·rfl
      ·rfl
     ·rfl
    ·rfl
  ·split
   ·split
    ·split
     ·exact s4_ _ _ _ _ _ _
     ·rfl
    ·rfl
   ·rfl
  ·split
   ·exact qf_ _ _ _ _ _ _
   ·rfl
  ·split
   ·split
    ·split
     ·exact yM_ _ _ _ _ _ _
     ·rfl
    ·split
     ·exact wg_ _ _ _ _ _ _
     ·rfl
    ·rfl
   ·rfl
  ·split
   ·split
    ·split<;>rfl
    ·rfl
   ·rfl
  ·split
   ·split
    ·split
     ·split
      ·split<;>rfl
      ·rfl
     ·rfl
    ·rfl
   ·rfl
  ·split
   ·exact qX_ _ _ _ _ _
   ·rfl
  ·split
   ·split
    ·split
     ·rw [Option.bind_assoc]
     ·rfl
    ·rfl
   ·rfl
  ·split
   ·split<;>rfl
   ·rfl
  ·split
   ·split
    ·split
     ·split
      ·split<;>rfl
      ·rfl
     ·rfl
    ·split
     ·split
      ·split
       ·exact v2_ _ _ _ _ _
       ·rfl
      ·rfl
     ·rfl
    ·split
     ·split
      ·split
       ·exact Ab_ _ _ _ _ _
       ·rfl
      ·rfl
     ·rfl
    ·rfl
   ·split
    ·exact AD_ _ _ _ _ _
    ·rfl
   ·rfl
  ·rfl
abbrev k3_ (C:Cod κ Ty) (T:TypeId→Option (TI κ Ty)) (Γ:FuncId→Option (aY_ κ Ty)) (o:Oper) (env:Env κ Ty) (objs:ap_ κ Ty):Option (AV κ Ty×ap_ κ Ty):=aop C T Γ o env objs fun a b=>some (a,b)
theorem r1_ (o:Oper) (K:AV κ Ty→ap_ κ Ty→Option R):aop C T Γ o env objs K=(k3_ C T Γ o env objs).bind fun p=>K p.1 p.2:=Ad_ o (fun a b=>some (a,b)) fun (p:AV κ Ty×ap_ κ Ty)=>K p.1 p.2
theorem zb_ {o:Oper} {K:AV κ Ty→ap_ κ Ty→Option R} {r:R} (h:aop C T Γ o env objs K=some r):∃v objs1,k3_ C T Γ o env objs=some (v,objs1)∧K v objs1=some r:=by
  rw [r1_] at h
  cases hv:k3_ C T Γ o env objs with
  | none=>rw [hv] at h;cases h
  | some p=>rw [hv] at h;exact ⟨p.1,p.2,rfl,h⟩
def yj_ (xs:List Operand) (env env':Env κ Ty):Prop:=∀t, .tmp t∈xs→look env' t=look env t
theorem jU_ {xs:List Operand} (h:yj_ xs env env') (ty:TypeId) {x:Operand} (hx:x∈xs):d5_ T env' ty x=d5_ T env ty x:=by
  cases x with
  | tmp t=>exact h t hx
  | _=>rfl
theorem iv_ {xs:List Operand} (h:yj_ xs env env') (ty:Nat→TypeId):∀(ps:List (Nat×Operand)),(∀p∈ps,p.2∈xs)→eI_ T env' ty ps=eI_ T env ty ps
  | [],_=>rfl
  | (i,x)::ps,hp=>by simp only [eI_];rw [jU_ h _ (hp (i,x) (by simp)),iv_ h ty ps (fun p m=>hp p (by simp [m]))]
theorem o4_ {xs:List Operand} (h:yj_ xs env env'):∀(as:List Operand) (ts:List TypeId),(∀a∈as,a∈xs)→e3_ T env' as ts=e3_ T env as ts
  | [],ts,_=>by simp [e3_]
  | a::as,[],_=>by simp [e3_]
  | a::as,t::ts,hp=>by simp only [e3_];rw [jU_ h _ (hp a (by simp)),o4_ h as ts (fun p m=>hp p (by simp [m]))]
theorem oI_ {o:Oper} (h:yj_ o.op.operands.toList env env') (K:AV κ Ty→ap_ κ Ty→Option R):aop C T Γ o env' objs K=aop C T Γ o env objs K∧aB_ T Γ o env' objs=aB_ T Γ o env objs:=by
  have E:∀ty x,x∈o.op.operands.toList→d5_ T env' ty x=d5_ T env ty x:=fun ty x hx=>jU_ h ty hx
  obtain ⟨dst,op,type,pos,after,guard⟩:=o
  simp only at E h
  cases op with
  | move x=>simp only [aop,aB_,E type x (by simp [Op.operands])]<;>first | exact ⟨rfl,rfl⟩ | trivial
  | assign x=>simp only [aop,aB_,E type x (by simp [Op.operands])]<;>first | exact ⟨rfl,rfl⟩ | trivial
  | pick c a b=>simp only [aop,aB_,E _ c (by simp [Op.operands]),E _ a (by simp [Op.operands]),E _ b (by simp [Op.operands])]<;>first | exact ⟨rfl,rfl⟩ | trivial
  | alloc t=>exact ⟨rfl,rfl⟩
  | box t x=>simp only [aop,aB_,E _ x (by simp [Op.operands])]<;>first | exact ⟨rfl,rfl⟩ | trivial
  | build t ps=>
    have:=fun ty=>iv_ (T:=T) h ty ps.toList (fun p hp=>by simp only [Op.operands,Array.toList_map,List.mem_map];exact ⟨p,hp,rfl⟩)
    simp only [aop,aB_,this]<;>first | exact ⟨rfl,rfl⟩ | trivial
  | buildSlice t n ps=>
    have:=fun ty=>iv_ (T:=T) h ty ps.toList (fun p hp=>by simp only [Op.operands,Array.toList_map,List.mem_map];exact ⟨p,hp,rfl⟩)
    simp only [aop,aB_,this]
    exact ⟨trivial,trivial⟩
  | load t x=>simp only [aop,aB_,cF_,E _ x (by simp [Op.operands])]<;>first | exact ⟨rfl,rfl⟩ | trivial
  | store t x y=>simp only [aop,aB_,cF_,E _ x (by simp [Op.operands]),E _ y (by simp [Op.operands])]<;>first | exact ⟨rfl,rfl⟩ | trivial
  | nilCheck x=>simp only [aop,aB_,cF_,E _ x (by simp [Op.operands])]<;>first | exact ⟨rfl,rfl⟩ | trivial
  | binOp op t x y z=>simp only [aop,aB_,cF_,E _ x (by simp [Op.operands]),E _ y (by simp [Op.operands])]<;>first | exact ⟨rfl,rfl⟩ | trivial
  | unOp op t x=>simp only [aop,aB_,cF_,E _ x (by simp [Op.operands])]<;>first | exact ⟨rfl,rfl⟩ | trivial
  | convert s d x=>simp only [aop,aB_,cF_,E _ x (by simp [Op.operands])]<;>first | exact ⟨rfl,rfl⟩ | trivial
  | makeSlice t x y=>simp only [aop,aB_,cF_,E _ x (by simp [Op.operands]),E _ y (by simp [Op.operands])]<;>first | exact ⟨rfl,rfl⟩ | trivial
  | makeMap t r=>exact ⟨rfl,rfl⟩
  | lookup t m x ok=>simp only [aop,aB_,cF_,E _ m (by simp [Op.operands]),E _ x (by simp [Op.operands])]<;>first | exact ⟨rfl,rfl⟩ | trivial
  | mapEntry t m x=>simp only [aop,aB_,cF_,E _ m (by simp [Op.operands]),E _ x (by simp [Op.operands])]<;>first | exact ⟨rfl,rfl⟩ | trivial
  | entryStore t m n x=>simp only [aop,aB_,cF_,E _ m (by simp [Op.operands]),E _ n (by simp [Op.operands]),E _ x (by simp [Op.operands])]<;>first | exact ⟨rfl,rfl⟩ | trivial
  | slice t x lo hi mx=>
    have e1:=E t x (by simp [Op.operands])
    have e2:∀l,lo=some l→d5_ T env' 0 l=d5_ T env 0 l:=fun l hl=>E _ l (by subst hl;simp [Op.operands])
    have e3:∀l,hi=some l→d5_ T env' 0 l=d5_ T env 0 l:=fun l hl=>E _ l (by subst hl;simp [Op.operands])
    have e4:∀l,mx=some l→d5_ T env' 0 l=d5_ T env 0 l:=fun l hl=>E _ l (by subst hl;simp [Op.operands])
    simp only [aop,aB_,cF_,e1]
    refine ⟨?_,trivial⟩
    cases lo<;>cases hi<;>cases mx<;>simp [e2,e3,e4]
  | fieldAddr s x f=>simp only [aop,aB_,cF_,E _ x (by simp [Op.operands])]<;>first | exact ⟨rfl,rfl⟩ | trivial
  | field s x f=>simp only [aop,aB_,cF_,E _ x (by simp [Op.operands])]<;>first | exact ⟨rfl,rfl⟩ | trivial
  | indexAddr t x y=>simp only [aop,aB_,cF_,E _ x (by simp [Op.operands]),E _ y (by simp [Op.operands])]<;>first | exact ⟨rfl,rfl⟩ | trivial
  | index t x y=>simp only [aop,aB_,cF_,E _ x (by simp [Op.operands]),E _ y (by simp [Op.operands])]<;>first | exact ⟨rfl,rfl⟩ | trivial
  | extract x i=>simp only [aop,aB_,cF_,E _ x (by simp [Op.operands])]<;>first | exact ⟨rfl,rfl⟩ | trivial
  | call c=>
    have e0:∀a∈c.args.toList,a∈(Op.call c).operands.toList:=fun a ha=>by simp only [Op.operands,Call.operands];simp;exact .inr (by simpa using ha)
    have e1:=o4_ (T:=T) h c.args.toList c.argTypes.toList e0
    simp only [aop,aB_,e1]
    refine ⟨?_,trivial⟩
    cases hc:c.callee with
    | builtin b=>
      cases b<;>try rfl
      ·clear e1
       revert e0
       generalize c.args.toList=A
       generalize c.argTypes.toList=B
       intro e0
       rcases A with _ | ⟨x,_ | ⟨y,_ | ⟨z,A⟩⟩⟩<;>rcases B with _ | ⟨t1,_ | ⟨t2,_ | ⟨t3,B⟩⟩⟩<;>try rfl
       dsimp only
       rw [E t1 x (e0 x (by simp)),E t2 y (e0 y (by simp))]
      ·clear e1
       revert e0
       generalize c.args.toList=A
       generalize c.argTypes.toList=B
       intro e0
       rcases A with _ | ⟨x,_ | ⟨y,_ | ⟨z,A⟩⟩⟩<;>rcases B with _ | ⟨t1,_ | ⟨t2,_ | ⟨t3,B⟩⟩⟩<;>try rfl
       dsimp only
       rw [E t1 x (e0 x (by simp)),E t2 y (e0 y (by simp))]
      ·clear e1
       revert e0
       generalize c.args.toList=A
       generalize c.argTypes.toList=B
       intro e0
       rcases A with _ | ⟨x,_ | ⟨y,A⟩⟩<;>rcases B with _ | ⟨t1,_ | ⟨t2,B⟩⟩<;>try rfl
       dsimp only
       rw [E t1 x (e0 x (by simp))]
    | value f=>cases f<;>rfl
    | invoke r m=>rfl
  | _=>exact ⟨rfl,rfl⟩
end
end Km
namespace Km
open Go
set_option linter.unusedVariables false
set_option linter.unusedSimpArgs false
variable {κ:Type} {Ty:κ→Type} {R α:Type}
section
variable {C:Cod κ Ty} {T:TypeId→Option (TI κ Ty)} {Γ:FuncId→Option (aY_ κ Ty)} {objs objs':ap_ κ Ty} {env env':Env κ Ty}
def Like (l:List Nat) (objs objs':ap_ κ Ty):Prop:=∀id∈l,objs'[id]? =objs[id]?
theorem Like.sub {l m:List Nat} (h:Like l objs objs') (hm:∀i∈m,i∈l):Like m objs objs':=fun id hi=>h id (hm id hi)
theorem eP_ {id:Nat} (h:objs'[id]? =objs[id]?):hb_ objs' id=hb_ objs id:=by unfold hb_;rw [h]
theorem rz_ {id:Nat} (h:objs'[id]? =objs[id]?):fU_ objs' id=fU_ objs id:=by unfold fU_;rw [h]
theorem z9_ {v:AV κ Ty} {i:Nat} (h:i∈gN_ v):i∈bG_ v:=by cases v<;>first | exact h | (simp [gN_] at h)
theorem kR_ {v:AV κ Ty} (h:Like (gN_ v) objs objs'):hE_ objs' v=hE_ objs v:=by
  cases v with
  | own id=>simp only [hE_];exact eP_ (h id (by simp [gN_]))
  | sub id lo hi=>simp only [hE_];rw [eP_ (h id (by simp [gN_]))]
  | _=>rfl
theorem p4_ {v:AV κ Ty} (h:Like (bG_ v) objs objs'):hc_ objs' v=hc_ objs v:=by
  cases v with
  | ref id off=>simp only [hc_];rw [rz_ (h id (by simp [bG_,j4_,gN_]))]
  | eref id i off=>simp only [hc_];rw [eP_ (h id (by simp [bG_,j4_,gN_]))]
  | _=>rfl
theorem xS_ {ti:TI κ Ty} {v:AV κ Ty} (h:Like (bG_ v) objs objs') (K:AV κ Ty→Option R):ow_ C objs' ti v K=ow_ C objs ti v K:=by
  cases v with
  | ref id off=>simp only [ow_];rw [rz_ (h id (by simp [bG_,j4_,gN_]))]
  | eref id i off=>simp only [ow_];rw [eP_ (h id (by simp [bG_,j4_,gN_]))]
  | _=>rfl
theorem pj_ {shp:Shp κ} {x i:AV κ Ty} (h:Like (bG_ x) objs objs') (K:AV κ Ty→Option R):eB_ C objs' shp x i K=eB_ C objs shp x i K:=by
  unfold eB_
  split
  ·split
   ·split
    ·rename_i id;rw [eP_ (h id (by simp [bG_,j4_,gN_]))]
    ·rfl
    ·rename_i id lo hi;rw [eP_ (h id (by simp [bG_,j4_,gN_]))]
    ·rfl
   ·split
    ·rename_i id;rw [eP_ (h id (by simp [bG_,j4_,gN_]))]
    ·rfl
   ·rfl
  ·rfl
theorem vA_ {shp:Shp κ} {x:AV κ Ty} {lo hi:Option Int} (h:Like (bG_ x) objs objs') (K:AV κ Ty→Option R):lP_ C objs' shp x lo hi K=lP_ C objs shp x lo hi K:=by
  unfold lP_
  split
  ·rfl
  ·split
   ·rename_i id;rw [eP_ (h id (by simp [bG_,j4_,gN_]))]
   ·rfl
   ·rfl
   ·rfl
  ·split
   ·rename_i id;rw [eP_ (h id (by simp [bG_,j4_,gN_]))]
   ·rfl
  ·rfl
theorem tS_ {shp:Shp κ} {x:AV κ Ty} {a b:Int} (h:Like (bG_ x) objs objs') (K:AV κ Ty→Option R):in_ C objs' shp x a b K=in_ C objs shp x a b K:=by
  unfold in_
  split
  ·split
   ·rename_i id;rw [eP_ (h id (by simp [bG_,j4_,gN_]))]
   ·rfl
  ·rfl
theorem yY_ {shp:Shp κ} {v:AV κ Ty} (h:Like (bG_ v) objs objs'):lenOf objs' shp v=lenOf objs shp v:=by
  unfold lenOf
  split
  ·rfl
  ·rw [kR_ (h.sub fun i hi=>z9_ hi)]
  ·rfl
theorem tI_ {m:vb_} {v:AV κ Ty} (h:Like (gN_ v) objs objs'):vo_ objs' m v=vo_ objs m v:=by
  cases m<;>simp only [vo_]
  rw [kR_ h]
theorem rT_ {m:vb_} {v:AV κ Ty} (h:Like (bG_ v) objs objs'):nT_ objs' m v=nT_ objs m v:=by
  by_cases hv:∃cs,v= .agg cs
  ·obtain ⟨cs,rfl⟩:=hv
   simp only [nT_,AV.agg.injEq]
   exact List.map_congr_left fun c hc=>tI_ (h.sub fun i hi=>by simp only [bG_,j4_,List.mem_flatMap];exact ⟨c,hc,hi⟩)
  ·have e:∀objs:ap_ κ Ty,nT_ objs m v=vo_ objs m v:=fun objs=>by cases v<;>first | rfl | exact absurd ⟨_,rfl⟩ hv
   rw [e,e];exact tI_ (h.sub fun i hi=>z9_ hi)
theorem mg_:∀{vs:List (AV κ Ty)} (ms:List vb_),Like (vs.flatMap bG_) objs objs'→fC_ objs' vs ms=fC_ objs vs ms
  | [],ms,_=>by cases ms<;>rfl
  | v::vs,m::ms,h=>by
    simp only [fC_]
    rw [rT_ (h.sub fun i hi=>by simp [hi]),mg_ ms (h.sub fun i hi=>by simp only [List.flatMap_cons,List.mem_append];exact .inr hi)]
  | v::vs,[],h=>by
    simp only [fC_]
    rw [rT_ (h.sub fun i hi=>by simp [hi]),mg_ [] (h.sub fun i hi=>by simp only [List.flatMap_cons,List.mem_append];exact .inr hi)]
def Keeps (l:List Nat) (objs objs1:ap_ κ Ty):Prop:=objs.length≤objs1.length∧∀id,id∉l→id<objs.length→objs1[id]? =objs[id]?
theorem Keeps.refl (l:List Nat):Keeps l objs objs:=⟨Nat.le_refl _,fun _ _ _=>rfl⟩
theorem Keeps.trans {l m:List Nat} {o1 o2:ap_ κ Ty} (h:Keeps l objs o1) (h':Keeps m o1 o2):Keeps (l++m) objs o2:=
  ⟨Nat.le_trans h.1 h'.1,fun id hn hi=>by simp at hn;rw [h'.2 id hn.2 (by have:=h.1;omega),h.2 id hn.1 hi]⟩
theorem Keeps.sub {l m:List Nat} {o1:ap_ κ Ty} (h:Keeps l objs o1) (hm:∀i∈l,i∈m):Keeps m objs o1:=⟨h.1,fun id hn hi=>h.2 id (fun h'=>hn (hm id h')) hi⟩
theorem Keeps.set {l:List Nat} {id:Nat} (h:id∈l) (o:AObj κ Ty):Keeps l objs (objs.set id o):=⟨by simp,fun k hk _=>List.getElem?_set_ne (fun e=>hk (by rw [←e];exact h))⟩
theorem Keeps.push {l:List Nat} {o1:ap_ κ Ty} (h:Keeps l objs o1) (os:List (AObj κ Ty)):Keeps l objs (o1++os):=
  ⟨by have:=h.1;simp;omega,fun id hn hi=>by rw [List.getElem?_append_left (by have:=h.1;omega)];exact h.2 id hn hi⟩
theorem fc_ {b0:Bool}:∀{ns:List (AV κ Ty)} {objs:ap_ κ Ty} {K:List (AV κ Ty)→ap_ κ Ty→Option R} {r:R},fD_ C b0 objs ns K=some r→∃ns' o1,K ns' o1=some r∧Keeps (ns.flatMap gN_) objs o1
  | [],objs,K,r,h=>⟨_,_,h, .refl _⟩
  | c::cs,objs,K,r,h=>by
    simp only [fD_] at h
    split at h
    ·rename_i id
     split at h
     ·split at h
      ·obtain ⟨ns',o1,h1,h2⟩:=fc_ h
       exact ⟨_,o1,h1,((Keeps.set (l:=[id]) (by simp) _).trans h2).sub (by simp [gN_])⟩
      ·cases h
     ·cases h
    ·split at h
     ·obtain ⟨ns',o1,h1,h2⟩:=fc_ h
      exact ⟨_,o1,h1,h2.sub (by simp [gN_])⟩
     ·cases h
    ·obtain ⟨ns',o1,h1,h2⟩:=fc_ h
     exact ⟨_,o1,h1,h2.sub (by simp [gN_])⟩
    ·obtain ⟨ns',o1,h1,h2⟩:=fc_ h
     exact ⟨_,o1,h1,h2.sub (by simp [gN_])⟩
    ·cases h
theorem oV_ {x:AV κ Ty} {ns:List (AV κ Ty)} (h:cellsOf x=some ns):∀i∈ns.flatMap gN_,i∈bG_ x:=by
  cases x<;>simp only [cellsOf,Option.some.injEq,reduceCtorEq] at h<;>subst h<;>intro i hi<;>first | (simp [gN_] at hi;done) | (simpa [bG_,j4_] using hi)
theorem tB_ {ti:TI κ Ty} {a x:AV κ Ty} {K:ap_ κ Ty→Option R} {r:R} (h:nj_ C objs ti a x K=some r):∃o1,K o1=some r∧Keeps (bG_ a++bG_ x) objs o1:=by
  unfold nj_ at h
  split at h
  ·cases h
  ·rename_i ns hns
   split at h
   ·cases h
   ·split at h
    ·split at h
     ·split at h
      ·exact ⟨_,h, .set (by simp [bG_,j4_,gN_]) _⟩
      ·cases h
     ·cases h
    ·rename_i id i off
     split at h
     ·obtain ⟨z,_,h⟩:=bind_some h
      obtain ⟨ns',o1,h,hk⟩:=fc_ h
      split at h
      ·split at h
       ·split at h
        ·refine ⟨_,h, ?_⟩
         refine (hk.trans (Keeps.set (l:=[id]) (by simp) _)).sub ?_
         intro j hj
         simp only [List.mem_append] at hj⊢
         rcases hj with hj | hj
         ·exact .inr (oV_ hns j hj)
         ·exact .inl (by simpa [bG_,j4_,gN_] using hj)
        ·cases h
       ·cases h
      ·cases h
     ·cases h
    ·cases h
theorem qw_ {t:κ}:∀{ps:List (Nat×AV κ Ty)} {n:Nat} {objs:ap_ κ Ty} {K:List (Ty t)→ap_ κ Ty→Option R} {r:R},nK_ C t objs n ps K=some r→∃ys o1,K ys o1=some r∧Keeps (ps.flatMap fun p=>bG_ p.2) objs o1
  | [],n,objs,K,r,h=>⟨_,_,h, .refl _⟩
  | (i,v)::ps,n,objs,K,r,h=>by
    simp only [nK_] at h
    split at h
    ·cases h
    ·split at h
     ·cases h
     ·rename_i ns hns
      split at h
      ·cases h
      ·obtain ⟨ns',o1,h,hk⟩:=fc_ h
       split at h
       ·obtain ⟨ys,o2,h,hk'⟩:=qw_ h
        refine ⟨_,o2,h,(hk.trans hk').sub fun i hi=> ?_⟩
        simp only [List.mem_append,List.flatMap_cons] at hi⊢
        exact hi.imp (oV_ hns i) id
       ·cases h
theorem te_ {s1:κ} {x y:AV κ Ty} {K:AV κ Ty→ap_ κ Ty→Option R} {r:R} (h:i1_ C objs s1 x y K=some r):∃v o1,K v o1=some r∧Keeps (bG_ x) objs o1:=by
  unfold i1_ at h
  split at h
  ·cases h
  ·obtain ⟨ys,_,h⟩:=bind_some h
   split at h
   ·obtain ⟨zs,_,h⟩:=bind_some h
    exact ⟨_,_,h,(Keeps.refl _).push _⟩
   ·split at h
    ·obtain ⟨_,_,h⟩:=bind_some h
     obtain ⟨zs,_,h⟩:=bind_some h
     exact ⟨_,_,h,(Keeps.set (by simp [bG_,j4_,gN_]) _).push _⟩
    ·cases h
   ·split at h
    ·obtain ⟨_,_,h⟩:=bind_some h
     obtain ⟨zs,_,h⟩:=bind_some h
     exact ⟨_,_,h,(Keeps.set (by simp [bG_,j4_,gN_]) _).push _⟩
    ·cases h
   ·cases h
theorem wH_ {s1:κ} {x y:AV κ Ty} {K:AV κ Ty→ap_ κ Ty→Option R} {r:R} (h:vg_ C objs s1 x y K=some r):∃v o1,K v o1=some r∧Keeps (bG_ x++bG_ y) objs o1:=by
  unfold vg_ at h
  split at h
  ·cases h
  ·split at h
   ·split at h
    ·split at h
     ·obtain ⟨_,_,h⟩:=bind_some h
      exact ⟨_,_,h,Keeps.set (by simp [bG_,j4_,gN_]) _⟩
     ·cases h
    ·cases h
   ·split at h
    ·split at h
     ·obtain ⟨_,_,h⟩:=bind_some h
      exact ⟨_,_,h,Keeps.set (by simp [bG_,j4_,gN_]) _⟩
     ·cases h
    ·cases h
   ·cases h
theorem nv_ (id:Nat) (objs:ap_ κ Ty):Keeps (iI_ objs [id]) objs (kw_ C id objs):=by
  unfold kw_
  split
  ·rename_i k v es i j hid
   split
   ·split
    ·exact .refl _
    ·split
     ·refine ⟨by simp,fun q hq _=> ?_⟩
      simp only [iI_,List.flatMap_cons,List.flatMap_nil,hid,yt_,List.append_nil,List.mem_append,List.mem_singleton,not_or] at hq
      rw [List.getElem?_set_ne (Ne.symm hq.1),List.getElem?_set_ne (Ne.symm hq.2)]
     ·exact .refl _
   ·exact .refl _
  ·exact .refl _
theorem w6_ {shp:Shp κ} {m key:AV κ Ty} {K:Nat→(k v:κ)→List (Ty k×Ty v)→Ty k→Option R} {r:R} (h:Ax_ C objs shp m key K=some r):∃id k v es x,m= .mapv id∧K id k v es x=some r:=by
  unfold Ax_ at h
  split at h
  ·split at h
   ·split at h
    ·split at h
     ·split at h
      ·exact ⟨_,_,_,_,_,rfl,h⟩
      ·cases h
     ·cases h
    ·cases h
   ·cases h
  ·cases h
theorem u5_ {α:Type} {o:Option α} {K0:Option R} {K1:α→Option R} {r:R} (h:optK o K0 K1=some r):K0=some r∨∃a,K1 a=some r:=by
  cases o with
  | none=>exact .inl h
  | some a=>exact .inr ⟨a,h⟩
theorem rC_ {id:Nat} {k v:κ} {es:List (Ty k×Ty v)} {p:Nat×Ty v} {K:AV κ Ty→ap_ κ Ty→Option R} {r:R} (h:BB_ C objs id k v es p K=some r):∃x o1,K x o1=some r∧Keeps [id] objs o1:=by
  unfold BB_ at h
  split at h
  ·exact ⟨_,_,h, .refl _⟩
  ·exact ⟨_,_,h,(Keeps.set (by simp) _).push _⟩
  ·cases h
theorem pZ_ {objs:ap_ κ Ty} {l:List Nat} {i:Nat} (h:i∈l):i∈iI_ objs l:=by simp [iI_,h]
theorem qS_ {shp:Shp κ} {m key:AV κ Ty} {s:κ} {K:AV κ Ty→ap_ κ Ty→Option R} {r:R} (h:hi_ C objs shp m key s K=some r):∃x o1,K x o1=some r∧Keeps (iI_ objs (bG_ m)) objs o1:=by
  unfold hi_ at h
  dsimp only at h
  obtain ⟨id,k,v,es,x,rfl,h⟩:=w6_ h
  have hs:=nv_ (C:=C) id objs
  rcases u5_ h with h | ⟨p,h⟩
  ·exact ⟨_,_,h,hs⟩
  ·obtain ⟨y,o1,h1,h2⟩:=rC_ h
   exact ⟨y,o1,h1,(hs.trans h2).sub fun q hq=>by
     simp only [List.mem_append,List.mem_singleton] at hq
     rcases hq with hq | rfl
     ·exact hq
     ·exact pZ_ (by simp [bG_,j4_,gN_])⟩
theorem o2_ {shp:Shp κ} {m key:AV κ Ty} {te:TI κ Ty} {K:AV κ Ty→ap_ κ Ty→Option R} {r:R} (h:gc_ C objs shp m key te K=some r):∃x o1,K x o1=some r∧Keeps (iI_ objs (bG_ m)) objs o1:=by
  unfold gc_ at h
  dsimp only at h
  obtain ⟨id,k,v,es,x,rfl,h⟩:=w6_ h
  have hs:=nv_ (C:=C) id objs
  have hsub:∀q∈iI_ objs [id]++[id],q∈iI_ objs (bG_ (AV.mapv (κ:=κ) (Ty:=Ty) id)):=fun q hq=>by
    simp only [List.mem_append,List.mem_singleton] at hq
    rcases hq with hq | rfl
    ·exact hq
    ·exact pZ_ (by simp [bG_,j4_,gN_])
  rcases u5_ h with h | ⟨p,h⟩
  ·split at h
   ·exact ⟨_,_,h,(hs.trans (Keeps.set (l:=[id]) (by simp [v0_]) _)).sub hsub⟩
   ·cases h
  ·obtain ⟨y,o1,h1,h2⟩:=rC_ h
   exact ⟨_,o1,h1,(hs.trans h2).sub hsub⟩
theorem wA_ {v:κ} {x:AV κ Ty} {K:Ty v→ap_ κ Ty→Option R} {r:R} (h:q4_ C objs v x K=some r):∃y o1,K y o1=some r∧Keeps (bG_ x) objs o1:=by
  unfold q4_ at h
  split at h
  ·split at h
   ·exact ⟨_,_,h, .refl _⟩
   ·cases h
  ·split at h
   ·split at h
    ·exact ⟨_,_,h,Keeps.set (by simp [bG_,j4_,gN_]) _⟩
    ·cases h
   ·cases h
  ·cases h
theorem mE_ {shp:Shp κ} {m n x:AV κ Ty} {K:ap_ κ Ty→Option R} {r:R} (h:dw_ C objs shp m n x K=some r):∃o1,K o1=some r∧Keeps (bG_ m++bG_ x) objs o1:=by
  unfold dw_ at h
  split at h
  ·rename_i id kk q
   split at h
   ·split at h
    ·have key:∀{k' v':κ} {es:List (Ty k'×Ty v')},((idx es q).bind fun e=>q4_ C objs v' x fun y objs=>K (objs.set id (.mp k' v' (es.set q.toNat (e.1,y)) none)))=some r→∃o1,K o1=some r∧Keeps (bG_ (AV.mapv (κ:=κ) (Ty:=Ty) id)++bG_ x) objs o1:=fun h=>by
       obtain ⟨e,_,h⟩:=bind_some h
       obtain ⟨y,o1,h1,h2⟩:=wA_ h
       exact ⟨_,h1,(h2.trans (Keeps.set (l:=bG_ (AV.mapv (κ:=κ) (Ty:=Ty) id)) (by simp [bG_,j4_,gN_]) _)).sub fun q hq=>by
         simp only [List.mem_append] at hq⊢;exact hq.symm⟩
     split at h
     ·exact key h
     ·split at h
      ·exact key h
      ·cases h
    ·cases h
   ·cases h
  ·cases h
theorem sE_ {shp:Shp κ} {m key:AV κ Ty} {z:Value} (h:Like (bG_ m) objs objs') (K:AV κ Ty→Option R):gz_ C objs' shp m key z K=gz_ C objs shp m key z K:=by
  unfold gz_ Ax_
  split
  ·rename_i id
   rw [h id (by simp [bG_,j4_,gN_])]
  ·rfl
theorem vV_ {S:aY_ κ Ty} {bs:List Nat} {args:List (AV κ Ty)} {K:AV κ Ty→ap_ κ Ty→Option R} {r:R} (h:oR_ objs S bs args K=some r):
    ∃v o1,K v o1=some r∧Keeps (i3_ objs (mi_ [] (args.flatMap bG_))) objs o1:=by
  unfold oR_ at h
  dsimp only at h
  split at h
  ·cases h
  ·obtain ⟨q,_,h⟩:=bind_some h
   refine ⟨_,_,h,Keeps.push ⟨by rw [bF_];exact Nat.le_refl _,fun id hn hi=>lg_ _ _ _ _ _ hn⟩ _⟩
theorem tw_ {g g':Nat→Option Nat} {v:AV κ Ty} (h:gN_ v=[]):qD_ g v=qD_ g' v:=by cases v<;>first | rfl | (simp [gN_] at h)
theorem tD_ {g g':Nat→Option Nat} {v:AV κ Ty} (h:j4_ v=[]):A3_ g v=A3_ g' v:=by
  by_cases hv:∃cs,v= .agg cs
  ·obtain ⟨cs,rfl⟩:=hv
   simp only [A3_,AV.agg.injEq]
   exact List.map_congr_left fun c hc=>tw_ (by simp only [j4_,List.flatMap_eq_nil_iff] at h;exact h c hc)
  ·have e:∀g,A3_ g v=qD_ g v:=fun g=>by cases v<;>first | rfl | exact absurd ⟨_,rfl⟩ hv
   rw [e,e];exact tw_ (by cases v<;>first | exact h | exact absurd ⟨_,rfl⟩ hv)
theorem AV_ {g g':Nat→Option Nat} {v:AV κ Ty} (h:bG_ v=[]):oh_ g v=oh_ g' v:=by
  by_cases hv:∃vs,v= .tup vs
  ·obtain ⟨vs,rfl⟩:=hv
   simp only [oh_,AV.tup.injEq]
   exact List.map_congr_left fun c hc=>tD_ (by simp only [bG_,List.flatMap_eq_nil_iff] at h;exact h c hc)
  ·have e:∀g,oh_ g v=A3_ g v:=fun g=>by cases v<;>first | rfl | exact absurd ⟨_,rfl⟩ hv
   rw [e,e];exact tD_ (by cases v<;>first | exact h | exact absurd ⟨_,rfl⟩ hv)
theorem isNil_iff {α:Type} {l:List α}:vx_ l=true↔l=[]:=by cases l<;>simp [vx_]
def QuietOk (Γ:FuncId→Option (aY_ κ Ty)):Prop:=∀f S,Γ f=some S→S.quiet=true→∀r,(S.ret r).2=[]∧bG_ (S.ret r).1=[]
theorem wc_ {S:aY_ κ Ty} {bs:List Nat} {args:List (AV κ Ty)} (hS:∀r,(S.ret r).2=[]∧bG_ (S.ret r).1=[]) (ha:args.flatMap bG_=[]) {v:AV κ Ty} {o1:ap_ κ Ty}
    (h:(oR_ objs S bs args fun a b=>some (a,b))=some (v,o1)):o1=objs∧∀objs':ap_ κ Ty,(oR_ objs' S bs args fun a b=>some (a,b))=some (v,objs'):=by
  have hl:∀objs:ap_ κ Ty,i3_ objs (mi_ [] (args.flatMap bG_))=[]:=fun objs=>by rw [ha];rfl
  unfold oR_ at h⊢
  simp only [hl,List.map_nil,List.length_nil,List.drop_zero] at h⊢
  split at h
  ·cases h
  ·obtain ⟨q,hq,h⟩:=bind_some h
   obtain ⟨h1,h2⟩:=hS q
   simp only [h1,List.map_nil,List.append_nil,j8_,Option.some.injEq,Prod.mk.injEq] at h
   refine ⟨h.2.symm,fun objs'=> ?_⟩
   rename_i hd
   simp only [hd,hq,Option.bind_some,h1,List.map_nil,List.append_nil,j8_,Option.some.injEq,Prod.mk.injEq,and_true]
   rw [←h.1]
   exact AV_ h2
theorem jN_ (ty ty':TypeId) (x:Operand):bG_ (d5_ T env ty x)=bG_ (d5_ T env ty' x):=by
  have key:∀v:Value,bG_ (d5_ T env ty (.const v))=[]:=fun v=>by
    unfold d5_;dsimp only
    split
    ·split
     ·split<;>rfl
     ·rfl
    ·rfl
    ·rfl
    ·rfl
  have key':∀v:Value,bG_ (d5_ T env ty' (.const v))=[]:=fun v=>by
    unfold d5_;dsimp only
    split
    ·split
     ·split<;>rfl
     ·rfl
    ·rfl
    ·rfl
    ·rfl
  cases x with
  | const v=>rw [key,key']
  | _=>rfl
theorem ou_ (f g:Nat→TypeId):∀(ps:List (Nat×Operand)),((eI_ T env f ps).flatMap fun p=>bG_ p.2)=(eI_ T env g ps).flatMap fun p=>bG_ p.2
  | []=>rfl
  | (i,x)::ps=>by simp only [eI_,List.flatMap_cons,ou_ f g ps,jN_ (f i) (g i) x]
end
end Km
