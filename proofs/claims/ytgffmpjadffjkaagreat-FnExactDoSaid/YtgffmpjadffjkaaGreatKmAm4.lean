/- A part of the proof of FnExactDo: an abstract machine over the program, sound by its theorems. There is no condition. -/
import Derived.Test.YtgffmpjadffjkaaGreatKmAm3
import Derived.KernelRfl
import Derived.Below
import Derived.ChangeArms
import Derived.IntWalk
import Derived.Laws.Strings
namespace Km
open Go
set_option linter.unusedVariables false
set_option linter.unusedSimpArgs false
variable {κ:Type} {Ty:κ→Type} {R:Type}
section
variable {P:Program} {C:Cod κ Ty} {T:TypeId→Option (TI κ Ty)} {Γ:FuncId→Option (aK_ κ Ty)}
variable {Mut:Nat→Prop} {Lent:Org κ Ty} {w0 w w':World} {ρ ρ' ρ2:Nat→Loc} {env:Env κ Ty} {objs objs' objs2:am_ κ Ty} {a:Act} {tm:Array Value}
def VL (C:Cod κ Ty) (w:World) (Mut:Nat→Prop) (ρ:Nat→Loc) (objs:am_ κ Ty) (vs:List (AV κ Ty)) (us:List Value):Prop:=
  us.length=vs.length∧∀(j:Nat) (v:AV κ Ty) (u:Value),vs[j]? =some v→us[j]? =some u→VRel C w Mut ρ objs v u
theorem VL.weak {vs:List (AV κ Ty)} {us:List Value} (h:VL C w Mut ρ objs vs us) (hw:Weaker objs objs'):VL C w Mut ρ objs' vs us:=
  ⟨h.1,fun j v u a b=>hw.rel (h.2 j v u a b)⟩
theorem VL.cons {v:AV κ Ty} {vs:List (AV κ Ty)} {u:Value} {us:List Value} (h:VRel C w Mut ρ objs v u) (h':VL C w Mut ρ objs vs us):VL C w Mut ρ objs (v::vs) (u::us):=
  ⟨by simp [h'.1],fun j x y a b=>by
    cases j with
    | zero=>simp at a b;subst a;subst b;exact h
    | succ j=>exact h'.2 j x y (by simpa using a) (by simpa using b)⟩
theorem VL.tail {v:AV κ Ty} {vs:List (AV κ Ty)} {u:Value} {us:List Value} (h:VL C w Mut ρ objs (v::vs) (u::us)):VL C w Mut ρ objs vs us:=
  ⟨by simpa using h.1,fun j x y a b=>h.2 (j+1) x y (by simpa using a) (by simpa using b)⟩
theorem zL_ {v:AV κ Ty} {u:Value} (h:VRel C w Mut ρ objs v u) (hv:(∃x,v= .lit x)∨(∃i,v= .own i)∨(∃t,v= .nil t)∨(∃b t xs,v= .inl b t xs)):aL_ u=true:=by
  rcases hv with ⟨x,rfl⟩ | ⟨i,rfl⟩ | ⟨t,rfl⟩ | ⟨b,t,xs,rfl⟩<;>cases h<;>first | rfl | assumption
theorem nc_ (HC:aO_ C):∀(vs:List (AV κ Ty)) (us:List Value) (objs:am_ κ Ty) (K:List (AV κ Ty)→am_ κ Ty→Option R) (r:R),SRel C Mut Lent w0 ρ env objs tm w→VL C w Mut ρ objs vs us→
    B7_ C objs vs K=some r→∃vs' objs',K vs' objs'=some r∧SRel C Mut Lent w0 ρ env objs' tm w∧VL C w Mut ρ objs' vs' us∧Weaker objs objs'
  | [],us,objs,K,r,S,hv,h=>⟨[],objs,h,S,hv, .refl _⟩
  | v::vs,us,objs,K,r,S,hv,h=>by
    obtain ⟨u,us,rfl⟩:∃u us',us=u::us':=by have:=hv.1;cases us with | nil=>simp at this | cons u us=>exact ⟨u,us,rfl⟩
    have hu:VRel C w Mut ρ objs v u:=hv.2 0 v u rfl rfl
    by_cases hag:∃cs,v= .agg cs
    ·obtain ⟨cs,rfl⟩:=hag
     simp only [B7_] at h
     cases hu with
     | agg hl hcell hrel=>
       rename_i us0
       obtain ⟨ns,o1,g1,g2,g3,g4⟩:=fH_ HC cs us0 objs _ r S ⟨hl,hcell,hrel⟩ h
       obtain ⟨vs',o2,k1,k2,k3,k4⟩:=nc_ HC vs us o1 _ r g2 (hv.tail.weak g4) g1
       exact ⟨_,o2,k1,k2, .cons (k4.rel g3.agg) k3,g4.trans k4⟩
    ·have e:B7_ C objs (v::vs) K=dM_ C false objs [v] fun cs' o=>B7_ C o vs fun vs' o'=>K (cs'++vs') o':=by
       cases v<;>first | rfl | exact absurd ⟨_,rfl⟩ hag
     rw [e] at h
     have hcell:aL_ u=true:=zL_ hu (by
       cases v with
       | lit x=>exact .inl ⟨_,rfl⟩
       | own i=>exact .inr (.inl ⟨_,rfl⟩)
       | nil t=>exact .inr (.inr (.inl ⟨_,rfl⟩))
       | inl b t xs=>exact .inr (.inr (.inr ⟨_,_,_,rfl⟩))
       | agg cs=>exact absurd ⟨_,rfl⟩ hag
       | _=>simp [dM_] at h)
     obtain ⟨ns,o1,g1,g2,g3,g4⟩:=fH_ HC [v] [u] objs _ r S ⟨rfl,fun j x hj=>by
       cases j with
       | zero=>simp at hj;subst hj;exact hcell
       | succ j=>simp at hj,fun j x y a b=>by
       cases j with
       | zero=>simp at a b;subst a;subst b;exact hu
       | succ j=>simp at a⟩ h
     obtain ⟨vs',o2,k1,k2,k3,k4⟩:=nc_ HC vs us o1 _ r g2 (hv.tail.weak g4) g1
     obtain ⟨n,rfl⟩:∃n,ns=[n]:=by
       have:=g3.1
       match ns,this with
       | [n],_=>exact ⟨n,rfl⟩
       | [],h=>simp at h
       | _::_::_,h=>simp at h
     exact ⟨_,o2,k1,k2, .cons (k4.rel (g3.2.2 0 n u rfl rfl)) k3,g4.trans k4⟩
theorem Ex_ {vs:List (AV κ Ty)} {us:List Value} (h:VL C w Mut ρ objs vs us):ORL C w Mut ρ objs vs (us.map some):=gW_ h.1 h.2
theorem Dw_ {vs:List (AV κ Ty)} {us:List Value} (h:ORL C w Mut ρ objs vs (us.map some)):VL C w Mut ρ objs vs us:=gX_ h
def EI_ (C:Cod κ Ty) (Mut:Nat→Prop) (Lent:Org κ Ty) (w0:World) (v:AV κ Ty) (objs:am_ κ Ty) (u:Value) (w:World):Prop:=
  ∃ρ,VRel C w Mut ρ objs v u∧SRel C Mut Lent w0 ρ [] objs #[] w∧(∀o∈objs,tw_ C o=true)∧(∀vs,v= .tup vs→vs.all l4_=true)∧((∀vs,v≠ .tup vs)→l4_ v=true)
def DS_ (us:List Value):Value:=match us with | [u]=>u | us=> .tuple us.toArray
theorem CE_ {vs:List (AV κ Ty)} {us:List Value} (h:VL C w Mut ρ objs vs us):VRel C w Mut ρ objs (one vs) (DS_ us):=by
  have hlen:=h.1
  match vs,us with
  | [v],[u]=>exact h.2 0 v u rfl rfl
  | [],[]=>exact .tup h.1 h.2
  | _::_::_,_::_::_=>exact .tup h.1 h.2
  | [],_::_=>simp at hlen
  | _::_,[]=>simp at hlen
  | [_],_::_::_=>simp at hlen
  | _::_::_,[_]=>simp at hlen
theorem vG_ (HC:aO_ C) (S:SRel C Mut Lent w0 ρ env objs tm w) {id:Nat} {K:am_ κ Ty→Option R} {r:R} (h:Cc_ id objs K=some r):
    ∃objs',K objs'=some r∧SRel C Mut Lent w0 ρ env objs' tm w∧∀v u,VRel C w Mut ρ objs v u→VRel C w Mut ρ objs' v u:=by
  unfold Cc_ at h
  split at h
  ·rename_i t xs n e
   obtain ⟨_,hn,h⟩:=bind_some h
   have hn:n=xs.length:=by
     by_cases e:n=xs.length
     ·exact e
     ·rw [if_neg e] at hn;cases hn
   have hlt:=(List.getElem?_eq_some_iff.mp e).1
   have g1:(objs.set id (.rw t xs 0 none))[id]? =some (.rw t xs 0 none):=by simp [hlt]
   have g3:∀k,k≠id→(objs.set id (AObj.rw t xs 0 none))[k]? =objs[k]? :=fun k h=>List.getElem?_set_ne (Ne.symm h)
   have hft:∀k b,ah_ ρ (objs.set id (AObj.rw t xs 0 none)) k b→ah_ ρ objs k b:=fun k b h=>by
     by_cases h1:k=id
     ·subst h1
      unfold ah_ at h⊢
      rw [g1] at h;rw [e];exact h
     ·unfold ah_ at h⊢;rw [g3 k h1] at h;exact h
   have W:WStep w w (aN_ ρ objs) (aN_ ρ (objs.set id (.rw t xs 0 none))):=WStep.same fun b ⟨k,hk⟩=>⟨k,hft k b hk⟩
   have hlen:objs.length≤(objs.set id (AObj.rw t xs 0 none)).length:=by simp
   have hcm:∀k,Compat ρ objs ρ (objs.set id (.rw t xs 0 none)) k:=fun k=>by
     by_cases h1:k=id
     ·subst h1;unfold Compat;rw [e];exact .inl ⟨xs,bb_ g1,rfl, .refl _⟩
     ·exact Compat.of_eq (fun _=>g3 k h1) (fun _=>rfl)
   refine ⟨_,h,S.step W hlen hcm (fun k=> ?_) (fun i j b hi hj=>S.inj i j b (hft i b hi) (hft j b hj)) rfl rfl rfl,fun v u h=>h.step W hlen hcm⟩
   by_cases h1:k=id
   ·subst h1
    have ho:=S.ob k
    simp only [ORel,e] at ho
    unfold ORel
    rw [g1]
    have ho':=ho.step W hlen hcm (fun _ _=>rfl)
    refine {ho' with cell:=fun i x j cl hx hj=> ?_}
    obtain ⟨v,a1,a2⟩:=ho'.cell i x j cl hx hj
    have hi:=(List.getElem?_eq_some_iff.mp hx).1
    rw [AB_,if_pos (by omega)] at a2
    exact ⟨v,a1,a2⟩
   ·exact ORel.step W hlen hcm (S.ob k) (g3 k h1) rfl (fun _ _=>rfl)
  ·exact ⟨objs,h,S,fun v u h=>h⟩
theorem py_ (HC:aO_ C) {K:am_ κ Ty→Option R} {r:R}:∀(n:Nat) {objs:am_ κ Ty},SRel C Mut Lent w0 ρ env objs tm w→CY_ n objs K=some r→
    ∃objs',K objs'=some r∧SRel C Mut Lent w0 ρ env objs' tm w∧∀v u,VRel C w Mut ρ objs v u→VRel C w Mut ρ objs' v u
  | 0,objs,S,h=>⟨objs,h,S,fun v u h=>h⟩
  | n+1,objs,S,h=>by
    obtain ⟨o1,h1,S1,v1⟩:=vG_ HC S h
    obtain ⟨o2,h2,S2,v2⟩:=py_ HC n S1 h1
    exact ⟨o2,h2,S2,fun v u h=>v2 v u (v1 v u h)⟩
theorem VL.map (h:∀v u,VRel C w Mut ρ objs v u→VRel C w Mut ρ' objs' v u) {vs:List (AV κ Ty)} {us:List Value} (x:VL C w Mut ρ objs vs us):VL C w Mut ρ' objs' vs us:=⟨x.1,fun j v u a b=>h _ _ (x.2 j v u a b)⟩
theorem mr_ (HC:aO_ C) (S:SRel C Mut Lent w0 ρ env objs tm w) {dec:AV κ Ty→am_ κ Ty→Option R} {vs:List (AV κ Ty)} {us:List Value} {r:R} (hv:VL C w Mut ρ objs vs us)
    (h:sM_ C Lent.objs.length dec vs objs=some r):∃v objs',dec v objs'=some r∧EI_ C Mut Lent w0 v objs' (DS_ us) w:=by
  unfold sM_ at h
  dsimp only at h
  obtain ⟨ρ',S',hv'⟩:=lB_ HC S (Ex_ hv)
  generalize kY_ C Lent.objs.length vs objs=q at h S' hv'
  obtain ⟨vs',objs'⟩:=q
  dsimp only at h S' hv'
  have hvl0:=Dw_ hv'
  clear hv'
  replace h:=py_ HC _ S' h
  clear S'
  obtain ⟨objs2,h,S',v2⟩:=h
  have hvl:=VL.map v2 hvl0
  clear v2 hvl0
  revert h hvl S'
  generalize objs2=objs'
  intro h S' hvl
  split at h
  ·rename_i hs
   simp only [Bool.and_eq_true] at hs
   refine ⟨_,objs',h,ρ',CE_ hvl,S'.setEnv (fun i=> .inl rfl),by simpa [List.all_eq_true] using hs.2,fun xs e=> ?_,fun hn=> ?_⟩
   ·match vs',hs.1 with
    | [],_=>cases e;rfl
    | [x],hs1=>
      simp only [one] at e
      subst e
      simp [l4_] at hs1
    | x::y::l,hs1=>cases e;exact hs1
   ·match vs',hs.1 with
    | [],_=>exact absurd rfl (hn [])
    | [x],hs1=>show l4_ x=true;simpa using hs1
    | x::y::l,_=>exact absurd rfl (hn _)
  ·cases h
def CK_ (rs:List ResultVar) (tm:Array Value):Sem (List Value):=rs.mapM fun
  | .tmp t=>pure (tm.getD t undef)
  | .cell a t=>do loadVar t (←asAddr (tm.getD a undef))
theorem m0_ (HT:TOk P C T) (HC:aO_ C) (S:SRel C Mut Lent w0 ρ env objs tm w):∀(rs:List ResultVar) {K:List (AV κ Ty)→Option R} {r:R},C5_ C T env objs rs K=some r→
    ∃vs us,K vs=some r∧VL C w Mut ρ objs vs us∧(CK_ rs tm).run P w= .ok us w
  | [],K,r,h=>⟨[],[],h,⟨rfl,fun j v u h=>by simp at h⟩,by simp [CK_]⟩
  | .tmp t::rs,K,r,h=>by
    simp only [C5_] at h
    obtain ⟨vs,us,h1,h2,h3⟩:=m0_ HT HC S rs h
    refine ⟨_,_,h1, .cons (tj_ (a:=⟨tm,[]⟩) S t) h2, ?_⟩
    unfold CK_ at h3⊢
    simp only [List.mapM_cons,Sem.run_bind,Sem.run_pure,Result.andThen_ok,h3]
  | .cell c t::rs,K,r,h=>by
    simp only [C5_] at h
    split at h
    ·rename_i ti ht
     obtain ⟨v,u,h1,h2,h3⟩:=qp_ (P:=P) (a:=⟨tm,[]⟩) HT HC S ht (tj_ (a:=⟨tm,[]⟩) S c) h
     obtain ⟨vs,us,k1,k2,k3⟩:=m0_ HT HC S rs h1
     refine ⟨_,_,k1, .cons h3 k2, ?_⟩
     have h4:(do loadVar t (←asAddr (tm.getD c undef)):Sem Value).run P w= .ok u w:=by
       generalize tm.getD c undef=q at h2⊢
       cases q<;>first
         | (simp [Instr.loadAt,Instr.sureAddr] at h2;done)
         | (rename_i p;cases p<;>first
             | (simp [Instr.loadAt,Instr.sureAddr] at h2;done)
             | simpa [Instr.loadAt,Instr.sureAddr,asAddr] using h2)
     unfold CK_ at k3⊢
     rw [List.mapM_cons,Sem.run_bind]
     dsimp only
     rw [h4,Result.andThen_ok,Sem.run_bind,k3]
     simp only [Result.andThen_ok,Sem.run_pure]
    ·cases h
theorem ud_ (HT:TOk P C T) (HC:aO_ C) (S:SRel C Mut Lent w0 ρ env objs tm w) {frz:Bool} {rs:List ResultVar} {dec:AV κ Ty→am_ κ Ty→Option R} {r:R}
    (h:nV_ C T frz Lent.objs.length rs dec env objs=some r):∃v objs' us,dec v objs'=some r∧EI_ C Mut Lent w0 v objs' (DS_ us) w∧(CK_ rs tm).run P w= .ok us w:=by
  unfold nV_ at h
  obtain ⟨vs,us,h,hv,hr⟩:=m0_ HT HC S rs h
  split at h
  ·obtain ⟨vs',o1,g1,g2,g3,_⟩:=nc_ HC _ _ objs _ r S hv h
   obtain ⟨v,os,k1,k2⟩:=mr_ HC g2 g3 g1
   exact ⟨v,os,us,k1,k2,hr⟩
  ·obtain ⟨v,os,k1,k2⟩:=mr_ HC S hv h
   exact ⟨v,os,us,k1,k2,hr⟩
theorem vN_ {fn:Func} {rs:List ResultVar} (h:fn.results.toList=rs) {tm:Array Value} {w:World} {us:List Value} (hr:(CK_ rs tm).run P w= .ok us w):(results fn tm).run P w= .ok (DS_ us) w:=by
  have hm:fn.results=rs.toArray:=by apply Array.ext';simpa using h
  unfold CK_ at hr
  unfold results
  rw [hm]
  simp only [List.mapM_toArray,Sem.run_bind,map_eq_pure_bind,Sem.run_pure]
  have e:∀(g g':ResultVar→Sem Value),g=g'→(List.mapM g rs).run P w= .ok us w→(List.mapM g' rs).run P w= .ok us w:=fun g g' h=>by rw [h];exact id
  rw [e _ _ (by funext r;cases r<;>rfl) hr]
  simp only [Result.andThen_ok]
  congr 1
  match us with
  | []=>rfl
  | [i]=>rfl
  | i::j::l=>simp [DS_]
def AV_:List Bool→Nat→Nat→List Nat
  | [],_,_=>[]
  | g::gs,i,m=>(if g then [i] else [])++AV_ gs (i+1) m
def q3_ (gs:List Bool) (i:Nat):Option Nat:=match gs.getD i false with
  | true=>(match j4_ (AV_ gs 0 0) i 0 with | some k=>some (gs.length+k) | none=>none)
  | false=>some i
def st_ (gs:List Bool) (objs:am_ κ Ty):am_ κ Ty:=
  (List.range gs.length).map (fun i=>match gs.getD i false with | true=> .dead | false=>(match objs[i]? with | some o=>kw_ (q3_ gs) o | none=> .dead))++
  (AV_ gs 0 0).map (fun i=>match objs[i]? with | some o=>kw_ (q3_ gs) o | none=> .dead)
def AO_ (gs:List Bool) (ρ:Nat→Loc):Nat→Loc:=fun j=>if j<gs.length then ρ j else ρ ((AV_ gs 0 0).getD (j-gs.length) 0)
theorem givN_mem {gs:List Bool} {m:Nat}:∀{i j:Nat},j∈AV_ gs i m↔i≤j∧gs.getD (j-i) false=true:=by
  induction gs with
  | nil=>intro i j;simp [AV_]
  | cons g gs ih=>
    intro i j
    simp only [AV_,List.mem_append,ih]
    constructor
    ·rintro (h | ⟨h1,h2⟩)
     ·cases g<;>simp at h
      subst h;simp
     ·refine ⟨by omega, ?_⟩
      rw [show j-i=(j-(i+1))+1 by omega];simpa using h2
    ·rintro ⟨h1,h2⟩
     by_cases e:j=i
     ·subst e;simp at h2;subst h2;simp
     ·refine .inr ⟨by omega, ?_⟩
      rw [show j-i=(j-(i+1))+1 by omega] at h2;simpa using h2
theorem x6_ {gs:List Bool} {m:Nat}:∀{i:Nat},(AV_ gs i m).Nodup:=by
  induction gs with
  | nil=>intro i;exact .nil
  | cons g gs ih=>
    intro i
    simp only [AV_]
    cases g
    ·simpa using ih
    ·simp only [if_true,List.cons_append,List.nil_append,List.nodup_cons]
     exact ⟨fun h=>by have:=(givN_mem.mp h).1;omega,ih⟩
theorem to_ {gs:List Bool} {objs:am_ κ Ty} (ρ:Nat→Loc) (hl:objs.length=gs.length):Ren (q3_ gs) ρ objs (AO_ gs ρ) (st_ gs objs):=by
  intro i j o hg ho
  have hi:=(List.getElem?_eq_some_iff.mp ho).1
  unfold q3_ at hg
  split at hg
  ·rename_i hb
   split at hg
   ·rename_i k hk
    cases hg
    obtain ⟨_,hk2⟩:=gq_ hk
    rw [Nat.sub_zero] at hk2
    constructor
    ·unfold st_
     rw [List.getElem?_append_right (by simp)]
     obtain ⟨n,e⟩:=iW_ (kw_ (q3_ gs) o)
     exact ⟨n,by rw [←e];simp only [List.length_map,List.length_range,Nat.add_sub_cancel_left,List.getElem?_map,hk2,Option.map_some,ho]⟩
    ·have:¬(gs.length+k<gs.length):=by omega
     unfold AO_
     rw [if_neg this]
     simp [List.getD,hk2]
   ·cases hg
  ·rename_i hb
   cases hg
   constructor
   ·unfold st_
    rw [List.getElem?_append_left (by simp;omega)]
    simp only [List.getElem?_map]
    rw [List.getElem?_range (by omega)]
    obtain ⟨n,e⟩:=iW_ (kw_ (q3_ gs) o)
    exact ⟨n,by rw [←e];simp only [Option.map_some,hb,ho]⟩
   ·simp [AO_];omega
theorem t9_ {gs:List Bool} {objs:am_ κ Ty} (hl:objs.length=gs.length) {j:Nat} {o:AObj κ Ty} (h:(st_ gs objs)[j]? =some o) (hd:o≠ .dead):∃i,q3_ gs i=some j∧i<objs.length∧objs[i]?.map (kw_ (q3_ gs))=some o:=by
  unfold st_ at h
  by_cases hj:j<gs.length
  ·rw [List.getElem?_append_left (by simpa using hj)] at h
   simp only [List.getElem?_map] at h
   rw [List.getElem?_range hj] at h
   simp only [Option.map_some,Option.some.injEq] at h
   split at h
   ·exact absurd h.symm hd
   ·rename_i hb
    refine ⟨j,by unfold q3_;rw [hb],by omega, ?_⟩
    rw [List.getElem?_eq_getElem (by omega:j<objs.length)] at h⊢
    simp only [Option.map_some];rw [←h]
  ·rw [List.getElem?_append_right (by simp;omega)] at h
   simp only [List.length_map,List.length_range,List.getElem?_map,Option.map_eq_some_iff] at h
   obtain ⟨i,h1,h2⟩:=h
   have hm:=givN_mem.mp (List.mem_of_getElem? h1)
   rw [Nat.sub_zero] at hm
   have hlt:i<gs.length:=by
     rcases Nat.lt_or_ge i gs.length with h | h
     ·exact h
     ·have:=hm.2;rw [List.getD_eq_getElem?_getD,List.getElem?_eq_none h] at this;cases this
   refine ⟨i, ?_,by omega, ?_⟩
   ·unfold q3_
    rw [hm.2,sI_ x6_ h1]
    show some (gs.length+(j-gs.length))=some j
    congr 1;omega
   ·rw [List.getElem?_eq_getElem (by omega:i<objs.length)] at h2⊢
    simp only [Option.map_some];rw [←h2]
theorem o4_ {gs:List Bool} {objs:am_ κ Ty} {ρ:Nat→Loc} (hl:objs.length=gs.length) {j b:Nat} (h:ah_ (AO_ gs ρ) (st_ gs objs) j b):∃i,q3_ gs i=some j∧ah_ ρ objs i b:=by
  have hd:∃o,(st_ gs objs)[j]? =some o∧o≠ .dead:=by
    unfold ah_ at h
    split at h
    ·rename_i cs e;exact ⟨_,e,fun h=>by cases h⟩
    ·rename_i t xs e;exact ⟨_,e,fun h=>by cases h⟩
    ·rename_i e;exact ⟨_,e,fun h=>by cases h⟩
    ·rename_i e;exact ⟨_,e,fun h=>by cases h⟩
    ·rename_i e;exact ⟨_,e,fun h=>by cases h⟩
    ·exact h.elim
  obtain ⟨o,ho,hne⟩:=hd
  obtain ⟨i,hi,hlt,_⟩:=t9_ hl ho hne
  have hob:objs[i]? =some objs[i]:=List.getElem?_eq_getElem hlt
  obtain ⟨g1,g2⟩:=to_ ρ hl i j _ hi hob
  exact ⟨i,hi,nb_ hob g1 g2 h⟩
theorem uz_ {gs:List Bool} {objs:am_ κ Ty} (ρ:Nat→Loc) (hl:objs.length=gs.length):n1_ true Mut ρ objs Mut (AO_ gs ρ) (st_ gs objs):=by
  intro b k _ h h'
  rcases h' with ⟨j,hj⟩ | ⟨hb,hm⟩
  ·obtain ⟨i,_,hi⟩:=o4_ hl hj
   exact h (.inl ⟨i,hi⟩)
  ·exact h (.inr ⟨hb,hm⟩)
theorem SRel.give (HC:aO_ C) (S:SRel C Mut ⟨ρ,objs⟩ w ρ [] objs tm w) {gs:List Bool} (hl:objs.length=gs.length):
    SRel C Mut ⟨ρ,objs⟩ w (AO_ gs ρ) [] (st_ gs objs) tm w:=by
  refine {S with env:=fun i=> .inl rfl,ob:=fun j=> ?_,inj:=fun i j b hi hj=> ?_,live:=fun b ⟨j,hj⟩=> ?_,comp:=fun i=> ?_,len:= ?_}
  ·by_cases hd:∃o,(st_ gs objs)[j]? =some o∧o≠ .dead
   ·obtain ⟨o,ho,hne⟩:=hd
    obtain ⟨i,hi,hlt,_⟩:=t9_ hl ho hne
    exact ORel.ren HC (to_ ρ hl) (uz_ ρ hl) hi (List.getElem?_eq_getElem hlt) (fun h=>by cases h) (S.ob i)
   ·unfold ORel
    split
    ·rename_i cs e;exact absurd ⟨_,e,fun h=>by cases h⟩ hd
    ·rename_i t xs e;exact absurd ⟨_,e,fun h=>by cases h⟩ hd
    ·rename_i e;exact absurd ⟨_,e,fun h=>by cases h⟩ hd
    ·rename_i e;exact absurd ⟨_,e,fun h=>by cases h⟩ hd
    ·rename_i e;exact absurd ⟨_,e,fun h=>by cases h⟩ hd
    ·trivial
  ·obtain ⟨p,h1,h2⟩:=o4_ hl hi
   obtain ⟨q,g1,g2⟩:=o4_ hl hj
   have:=S.inj p q b h2 g2
   subst this
   rw [h1] at g1;cases g1;rfl
  ·obtain ⟨i,_,hi⟩:=o4_ hl hj
   exact S.live b ⟨i,hi⟩
  ·show CompW ρ objs (AO_ gs ρ) (st_ gs objs) i
   by_cases hi:i<objs.length
   ·have hob:objs[i]? =some objs[i]:=List.getElem?_eq_getElem hi
    cases hb:gs.getD i false with
    | true=>
      have hdead:(st_ gs objs)[i]? =some .dead:=by
        unfold st_
        rw [List.getElem?_append_left (by simp;omega)]
        simp only [List.getElem?_map]
        rw [List.getElem?_range (by omega)]
        simp only [Option.map_some,hb]
      unfold CompW Compat
      rw [hob]
      cases objs[i] with
      | rw t xs g hh=>exact .inr (aD_ hdead)
      | rp t xs n=>exact .inr (aD_ hdead)
      | dead=>exact (aD_ hdead)
      | box cs=>exact .inr (aD_ hdead)
      | sl t xs=>exact .inr (aD_ hdead)
      | mp k v es hh=>exact .inr (aD_ hdead)
    | false=>
      obtain ⟨⟨n0,g1⟩,g2⟩:=to_ ρ hl i i _ (by unfold q3_;rw [hb]) hob
      unfold CompW Compat
      rw [hob]
      cases ho:objs[i] with
      | rw t xs g hh=>
        rw [ho] at g1
        cases hh with
        | none=>exact .inl ⟨xs,_,none,g1,rfl,by rw [g2];exact .refl _⟩
        | some p=>exact .inr (aD_ g1)
      | rp t xs n=>rw [ho] at g1;exact .inl ⟨xs,c0_ g1,rfl,by rw [g2];exact .refl _⟩
      | dead=>rw [ho] at g1;exact (aD_ g1)
      | box cs=>rw [ho] at g1;exact .inl ⟨_,g1,g2⟩
      | sl t xs=>rw [ho] at g1;exact .inl ⟨xs,g1,rfl,g2⟩
      | mp k v es hh=>rw [ho] at g1;exact .inl ⟨es,_,g1,by rw [g2]⟩
   ·unfold CompW Compat
    rw [List.getElem?_eq_none (by omega)];trivial
  ·show objs.length≤(st_ gs objs).length
   simp [st_];omega
theorem yA_ {f:FuncId} {fn:Func} {body:Code} {S:aK_ κ Ty} {Γ:Nat→FuncId→Option (aK_ κ Ty)} {Λ:Nat→Nat→List (AV κ Ty)→am_ κ Ty→Option S.R} {cuts:List (Nat×List Nat)} {frz:Bool} {rs:List ResultVar} {m:Nat}
    {dec:AV κ Ty→am_ κ Ty→Option S.R}
    (hm : P.follows .mixedOrders = true) (H : ∀ k, Known P C T (Γ k)) (HQ : ∀ k, QuietOk (Γ k)) (hf : P.funcs[f]? = some fn) (hname : (fn.name == "runtime.NumGoroutine") = false) (hb : fn.body = some body) (hres : fn.results.toList = rs)
    (hok:okC fn.ntmps body=true) (hdup:sy_ (tH_ body)=true) (hdec:∀v os r,dec v os=some r→S.ret r=(v,os))
    (h0:∀id vs os,Λ 0 id vs os=none)
    (h1:∀k id vs os r slots,v0_ cuts id=some slots→Λ (k+1) id vs os=some r→∃n todo,b1_ id body []=some todo∧run C T (Γ k) (Λ k) cuts m (nV_ C T frz m rs dec) n true todo (iR_ slots vs) os=some r)
    (gs:List Bool)
    (hrun:∀args os r,S.run args os=some r→args.length≤fn.ntmps∧os.length=m∧gs.length=m∧∃k n,run C T (Γ k) (Λ k) cuts m (nV_ C T frz m rs dec) n false [.code body] (iR_ (List.range (args.map (o5_ (q3_ gs))).length) (args.map (o5_ (q3_ gs)))) (st_ gs os)=some r):
    SummOk P C f S:=by
  refine ⟨⟨fn,hf,hname,by simp [hb]⟩,fun args0 objs0 r hr Mut ρ0 vals w hlen0 hrel0 S00=> ?_⟩
  obtain ⟨hle0,hml,hgl,k,n,hrun⟩:=hrun args0 objs0 r hr
  have hgo:objs0.length=gs.length:=by omega
  have S0:=SRel.give (H 0).cod S00 hgo
  have hrel:∀(j:Nat) (x:AV κ Ty) (u:Value),(args0.map (o5_ (q3_ gs)))[j]? =some x→vals[j]? =some u→VRel C w Mut (AO_ gs ρ0) (st_ gs objs0) x u:=fun j x u hx hu=>by
    simp only [List.getElem?_map,Option.map_eq_some_iff] at hx
    obtain ⟨y,hy,rfl⟩:=hx
    exact o8_ (H 0).cod (to_ ρ0 hgo) (uz_ ρ0 hgo) (fun h=>by cases h) (fun h=>by cases h) (hrel0 j y u hy hu)
  have hlen:vals.size=(args0.map (o5_ (q3_ gs))).length:=by simpa using hlen0
  have hle:(args0.map (o5_ (q3_ gs))).length≤fn.ntmps:=by simpa using hle0
  revert S0 hrel hlen hle hrun
  generalize args0.map (o5_ (q3_ gs))=args
  generalize st_ gs objs0=objs
  generalize AO_ gs ρ0=ρ
  intro hrun S0 hrel hlen hle
  intro cs
  let b:Frame:={(default:Frame) with fn:=f,kind:= .normal}
  let a:Act:={tmps:=vals++Array.replicate (fn.ntmps-vals.size) undef,defers:=[]}
  have henter:Frame.enter P f vals .normal=b.at a [.code body]:=by
    simp [Frame.enter,Frame.at,hf,hb,b,a]
  have hbody:Piece fn.ntmps body body []:=⟨hok,su_ hdup,fun id t h=>h⟩
  have hsz:a.tmps.size=fn.ntmps:=by simp [a];omega
  have hpre:∀(n:Nat) (xs:List (AV κ Ty)) (i:Nat),look (iR_ (List.range' n xs.length) xs) i= .undef∨∃j,i=n+j∧∃x,xs[j]? =some x∧look (iR_ (List.range' n xs.length) xs) i=x:=by
    intro n xs
    induction xs generalizing n with
    | nil=>intro i;exact .inl rfl
    | cons x xs ih=>
      intro i
      simp only [List.length_cons,List.range'_succ,iR_,eO_]
      split
      ·rename_i e;exact .inr ⟨0,by omega,x,rfl,rfl⟩
      ·rcases ih (n+1) i with h | ⟨j,h1,y,h2,h3⟩
       ·exact .inl h
       ·exact .inr ⟨j+1,by omega,y,by simpa using h2,h3⟩
  have S1:SRel C Mut ⟨ρ0,objs0⟩ w ρ (iR_ (List.range args.length) args) objs a.tmps w:=S0.setEnv fun i=>by
    rw [List.range_eq_range']
    rcases hpre 0 args i with h | ⟨j,h1,x,h2,h3⟩
    ·exact .inl h
    ·have hj:=(List.getElem?_eq_some_iff.mp h2).1
     have hij:i=j:=by omega
     subst hij
     have hv:vals[i]? =some (vals[i]'(by omega)):=Array.getElem?_eq_getElem _
     refine .inr ⟨_, ?_,by rw [h3];exact hrel i x _ h2 hv⟩
     simp only [a]
     rw [Array.getElem?_append_left (by omega)];exact hv
  subst hml
  obtain ⟨a',w',todo',env',objs',ρ',g1,g2,g3,g4,g5⟩:=yT_ (Lent:=⟨ρ0,objs0⟩) (b:=b) (cs:=cs) hm H HQ hbody h0 h1 k n false [.code body] _ objs ρ a w ⟨hbody,trivial⟩ hsz rfl S1 hrun
  obtain ⟨v,os,us,k1,⟨ρ2,k2,k3,k4,k5,k6⟩,kr⟩:=ud_ (P:=P) (H 0).ty (H 0).cod g5 g4
  have hret:=hdec v os r k1
  refine ⟨.returned _,w',{b.at a' todo' with mode:= .returning},⟨_,ρ2,rfl, ?_, ?_, ?_, ?_, ?_⟩, ?_,rfl,rfl,g2,rfl,fn,hf,vN_ hres kr⟩
  ·rw [hret];exact k2
  ·rw [hret];exact k3
  ·rw [hret];exact k4
  ·rw [hret];exact k5
  ·rw [hret];exact k6
  ·rw [henter];exact g1
end
end Km
namespace Km
open Go
set_option linter.unusedVariables false
universe u
variable {κ:Type} {Ty:κ→Type} {R:Type}
def ap_ {α:Type u}:List (Nat×α)→Nat→Option α
  | [],_=>none
  | (j,v)::l,i=>match Nat.beq j i with | true=>some v | false=>ap_ l i
theorem eV_ {α:Type u}:∀{l:List (Nat×α)} {i:Nat} {v:α},ap_ l i=some v→(i,v)∈l
  | [],i,v,h=>by cases h
  | (j,x)::l,i,v,h=>by
    simp only [ap_] at h
    split at h
    ·rename_i hb;have:=Nat.eq_of_beq_eq_true hb;cases h;subst this;simp
    ·exact List.mem_cons_of_mem _ (eV_ h)
def qC_:List Value→Bool
  | []=>true
  | v::l=>aL_ v&&qC_ l
theorem ld_:∀{l:List Value},qC_ l=true→∀v∈l,aL_ v=true
  | [],_,v,hv=>by simp at hv
  | x::l,h,v,hv=>by
    simp only [qC_,Bool.and_eq_true] at h
    simp only [List.mem_cons] at hv
    rcases hv with rfl | hv
    ·exact h.1
    ·exact ld_ h.2 v hv
def oW_ (P:Program):List Field→Bool
  | []=>true
  | f::fs=>(match P.info? f.type with | some i=> !(Nat.beq i.size 0) | none=>false)&&oW_ P fs
theorem nn_ {P:Program}:∀{l:List Field},oW_ P l=true→∀f∈l,∃i,P.info? f.type=some i∧i.size≠0
  | [],_,v,hv=>by simp at hv
  | x::l,h,v,hv=>by
    simp only [oW_,Bool.and_eq_true] at h
    simp only [List.mem_cons] at hv
    rcases hv with rfl | hv
    ·have h:=h.1
     split at h
     ·rename_i i hi
      refine ⟨i,hi,fun e=> ?_⟩
      rw [e] at h;simp at h
     ·cases h
    ·exact nn_ h.2 v hv
def AK_:List Field→Bool
  | []=>true
  | f :: fs => f.name != "_" && AK_ fs
theorem vo_ : ∀ {l : List Field}, AK_ l = true → ∀ f ∈ l, f.name ≠ "_"
  | [],_,v,hv=>by simp at hv
  | x::l,h,v,hv=>by
    simp only [AK_,Bool.and_eq_true] at h
    simp only [List.mem_cons] at hv
    rcases hv with rfl | hv
    ·simpa using h.1
    ·exact vo_ h.2 v hv
theorem toList_inj {a b:ByteArray} (h:a.toList=b.toList):a=b:=by
  rw [Go.ByteArray.toList_eq,Go.ByteArray.toList_eq] at h
  apply ByteArray.ext;apply Array.ext';exact h
def wZ_ (T:TypeId→Option (TI κ Ty)):List (Nat×TypeId)→Bool
  | []=>true
  | f::fs=>(match T f.2 with | some tf=>(match tf.shp with | .int _=>true | .str=>true | _=>false) | none=>false)&&wZ_ T fs
theorem r0_ {T:TypeId→Option (TI κ Ty)}:∀{l:List (Nat×TypeId)},wZ_ T l=true→∀f∈l,∃tf,T f.2=some tf∧((∃q,tf.shp= .int q)∨tf.shp= .str)
  | [],_,v,hv=>by simp at hv
  | x::l,h,v,hv=>by
    simp only [wZ_,Bool.and_eq_true] at h
    simp only [List.mem_cons] at hv
    rcases hv with rfl | hv
    ·have h:=h.1
     split at h
     ·rename_i tf hf
      refine ⟨tf,hf, ?_⟩
      split at h
      ·rename_i k hk;exact .inl ⟨k,hk⟩
      ·rename_i hk;exact .inr hk
      ·cases h
     ·cases h
    ·exact r0_ h.2 v hv
def z1_:AV κ Ty→Bool
  | .lit v=>(match v with | .int .. =>true | .string _=>true | _=>false)
  | _=>false
theorem xz_ {c:AV κ Ty} (h:z1_ c=true):(∃q n,c= .lit (.int q n))∨∃s,c= .lit (.string s):=by
  unfold z1_ at h
  split at h
  ·split at h
   ·exact .inl ⟨_,_,rfl⟩
   ·exact .inr ⟨_,rfl⟩
   ·cases h
  ·cases h
structure az_ (P:Program) (C:Cod κ Ty) (T:TypeId→Option (TI κ Ty)) (t:TypeId) (ti:TI κ Ty):Prop where
  info:∃i z d,P.info? t=some i∧i.size=ti.size∧i.bytes=ti.bytes∧i.zero=some z∧z.cells.toList.map some=ti.zero.map CX_∧qC_ z.cells.toList=true∧P.underlying t=some d∧(match d with | .struct _=>true | .array .. =>true | _=>false)=ti.agg∧
    (match ti.shp with
     | .int k=>d= .int k
     | .bool=>d= .bool
     | .str=>d= .string
     | .struct fs=>∃fields,d= .struct fields∧fields.toList.map (fun f=>(f.offset,f.type))=fs∧oW_ P fields.toList=true∧P.stoodInHeld t=false∧P.eqGuardType P.depth t=false∧AK_ fields.toList=true
     | .arr n e s=>d= .array n e∧(∃i,P.info? e=some i∧i.size=C.sz s∧i.bytes=C.by' s)∧∃te,T e=some te∧te.zero.length=C.sz s∧ti.zero=(List.replicate n te.zero).flatten
     | .map kt et k v=>d= .map kt et∧(∀x y,aeq T 8 kt (.agg (C.enc k x)) (.agg (C.enc k y))=some (C.keq k x y))∧(∃tk fs,T kt=some tk∧tk.shp= .struct fs∧wZ_ T fs=true)∧(∀x,(C.enc k x).all z1_=true)∧
        ∃i z,P.info? et=some i∧i.zero=some z∧aL_ z=true
     | .slice e s=>(d= .slice e∧∃i,P.info? e=some i∧i.size=C.sz s∧i.bytes=C.by' s)∧∃i z,P.info? e=some i∧i.zero=some z∧z.cells.size=C.sz s∧qC_ z.cells.toList=true∧0<C.by' s
     | .other=>True)
theorem TOk.of {P:Program} {C:Cod κ Ty} {l:List (Nat×TI κ Ty)} (h:∀e∈l,az_ P C (ap_ l) e.1 e.2):TOk P C (ap_ l):=by
  have key:∀t ti,ap_ l t=some ti→az_ P C (ap_ l) t ti:=fun t ti ht=>h _ (eV_ ht)
  refine ⟨fun t ti ht=> ?_,fun t ti ht=> ?_,fun t ti k ht hs=> ?_,fun t ti ht hs=> ?_,fun t ti ht hs=> ?_,fun t ti fs ht hs=> ?_,fun t ti fs ht hs=> ?_,fun t ti n e s ht hs=> ?_,fun t ti kt et k v ht hs=> ?_,fun t ti e s ht hs=> ?_⟩<;>
    obtain ⟨i,z,d,h1,h2,h3,h4,h5,h6,h7,h8,h9⟩:=(key t ti ht).info
  ·exact ⟨i,z,h1,h2,h3,h4,h5,ld_ h6⟩
  ·exact ⟨d,h7,h8⟩
  ·rw [hs] at h9;rw [h7,h9]
  ·rw [hs] at h9;rw [h7,h9]
  ·rw [hs] at h9;rw [h7,h9]
  ·rw [hs] at h9
   obtain ⟨fields,k1,k2,k3,_⟩:=h9
   exact ⟨fields,by rw [h7,k1],k2,nn_ k3⟩
  ·rw [hs] at h9
   obtain ⟨fields,k1,k2,k3,k4,k5,k6⟩:=h9
   refine ⟨k4,k5,fun fs' hf=> ?_⟩
   rw [h7,k1] at hf;cases hf
   exact vo_ k6
  ·rw [hs] at h9
   exact ⟨by rw [h7,h9.1],h9.2⟩
  ·rw [hs] at h9
   obtain ⟨k1,k2,⟨tk,fs,k3,k4,k5⟩,k6,k7⟩:=h9
   exact ⟨by rw [h7,k1],k2,⟨tk,fs,k3,k4,r0_ k5⟩,fun x c hc=>xz_ (List.all_eq_true.mp (k6 x) c hc),k7⟩
  ·rw [hs] at h9
   exact ⟨by rw [h7,h9.1.1],h9.1.2⟩
theorem EOk.of {P:Program} {C:Cod κ Ty} {l:List (Nat×TI κ Ty)} (h:∀e∈l,az_ P C (ap_ l) e.1 e.2):EOk P C (ap_ l):=by
  intro t ti e s ht hs
  obtain ⟨i,z,d,h1,h2,h3,h4,h5,h6,h7,h8,h9⟩:=(h _ (eV_ ht)).info
  rw [hs] at h9
  obtain ⟨_,i',z',k1,k2,k3,k4,k5⟩:=h9
  exact ⟨i',z',k1,k2,k3,ld_ k4,k5⟩
theorem Known.of {P:Program} {C:Cod κ Ty} {T:TypeId→Option (TI κ Ty)} {l:List (Nat×aK_ κ Ty)} (h1:TOk P C T) (h2:EOk P C T) (h3:aO_ C) (h4:∀e∈l,SummOk P C e.1 e.2):Known P C T (ap_ l):=
  ⟨h1,h2,h3,fun f S h=>h4 _ (eV_ h)⟩
theorem QuietOk.of {l:List (Nat×aK_ κ Ty)} (h:∀e∈l,e.2.quiet=true→∀r,(e.2.ret r).2=[]∧bs_ (e.2.ret r).1=[]):QuietOk (ap_ l):=fun f S hf=>h _ (eV_ hf)
end Km
namespace Km
open Go
universe u
variable {κ:Type} {Ty:κ→Type} {R:Type}
theorem aa_ {α:Type u} {p:α→Prop}:∀e∈([]:List α),p e:=fun _ h=>by cases h
theorem all_cons {α:Type u} {p:α→Prop} {a:α} {l:List α} (h:p a) (t:∀e∈l,p e):∀e∈a::l,p e:=fun e he=>by
  cases he with
  | head=>exact h
  | tail _ he=>exact t e he
structure Cut (κ:Type) (Ty:κ→Type) (R:Type) where
  slots:List Nat
  fn:Nat→List (AV κ Ty)→am_ κ Ty→Option R
def lam (cs:List (Nat×Cut κ Ty R)) (k id:Nat) (vs:List (AV κ Ty)) (os:am_ κ Ty):Option R:=
  match ap_ cs id with | some c=>c.fn k vs os | none=>none
def l3_ (cs:List (Nat×Cut κ Ty R)):List (Nat×List Nat):=cs.map fun c=>(c.1,c.2.slots)
def vj_ (id:Nat) (body:Code):List It:=(b1_ id body []).getD []
def fW_ (f:Func):Code:=f.body.getD .skip
theorem qU_:∀{cs:List (Nat×Cut κ Ty R)} {id:Nat} {slots:List Nat},v0_ (l3_ cs) id=some slots→∃c,ap_ cs id=some c∧slots=c.slots
  | [],id,slots,h=>by cases h
  | (j,c)::cs,id,slots,h=>by
    simp only [l3_,List.map_cons,v0_] at h
    simp only [ap_]
    cases hb:Nat.beq j id with
    | true=>rw [hb] at h;cases h;exact ⟨c,rfl,rfl⟩
    | false=>rw [hb] at h;exact qU_ h
section
variable {P:Program} {C:Cod κ Ty} {T:TypeId→Option (TI κ Ty)}
theorem CH_ {f:FuncId} (fn:Func) {S:aK_ κ Ty} (Γ:Nat→FuncId→Option (aK_ κ Ty)) (cs:List (Nat×Cut κ Ty S.R)) (frz:Bool) (rs:List ResultVar) (m:Nat) (dec:AV κ Ty→am_ κ Ty→Option S.R)
    (hm : P.follows .mixedOrders = true) (H : ∀ k, Known P C T (Γ k)) (HQ : ∀ k, QuietOk (Γ k)) (hf : P.funcs[f]? = some fn) (hname : (fn.name == "runtime.NumGoroutine") = false) (hb : fn.body = some (fW_ fn)) (hres : fn.results.toList = rs)
    (hok:okC fn.ntmps (fW_ fn)=true) (hdup:sy_ (tH_ (fW_ fn))=true) (hdec:∀v os r,dec v os=some r→S.ret r=(v,os))
    (hc:∀c∈cs,(∀vs os,c.2.fn 0 vs os=none)∧(b1_ c.1 (fW_ fn) []).isSome=true∧
      ∀k vs os r,c.2.fn (k+1) vs os=some r→∃n,run C T (Γ k) (lam cs k) (l3_ cs) m (nV_ C T frz m rs dec) n true (vj_ c.1 (fW_ fn)) (iR_ c.2.slots vs) os=some r)
    (gs:List Bool)
    (hrun:∀args os r,S.run args os=some r→args.length≤fn.ntmps∧os.length=m∧gs.length=m∧∃k n,run C T (Γ k) (lam cs k) (l3_ cs) m (nV_ C T frz m rs dec) n false [.code (fW_ fn)] (iR_ (List.range (args.map (o5_ (q3_ gs))).length) (args.map (o5_ (q3_ gs)))) (st_ gs os)=some r):
    SummOk P C f S:=by
  refine yA_ (Λ:=lam cs) (cuts:=l3_ cs) (frz:=frz) (rs:=rs) (m:=m) (dec:=dec) hm H HQ hf hname hb hres hok hdup hdec (fun id vs os=> ?_) (fun k id vs os r slots hs h=> ?_) gs hrun
  ·unfold lam
   split
   ·rename_i c h;exact (hc _ (eV_ h)).1 vs os
   ·rfl
  ·obtain ⟨c,h1,rfl⟩:=qU_ hs
   unfold lam at h
   rw [h1] at h
   obtain ⟨_,k2,k3⟩:=hc _ (eV_ h1)
   obtain ⟨n,hn⟩:=k3 k vs os r h
   cases ht:b1_ id (fW_ fn) [] with
   | none=>rw [ht] at k2;cases k2
   | some t=>exact ⟨n,t,rfl,by rw [vj_,ht] at hn;exact hn⟩
end
end Km
namespace Km
open Go Go.RowKit
set_option linter.unusedVariables false
variable {κ:Type} {Ty:κ→Type} {R:Type} {P:Program} {C:Cod κ Ty}
theorem SRel.zero (w:World):SRel C (fun _=>False) ⟨fun _=>⟨0,0,0,noSub⟩,[]⟩ w (fun _=>⟨0,0,0,noSub⟩) [] ([]:am_ κ Ty) #[] w:=
  SRel.start (fun id=>by simp [ORel]) (fun i j b h=>by simp [ah_] at h) (fun b ⟨i,h⟩=>by simp [ah_] at h) (fun b h=>h.elim)
theorem SummOk.calls {f:FuncId} {S:aK_ κ Ty} (h:SummOk P C f S) {args:List (AV κ Ty)} {r:S.R} (hr:S.run args []=some r) {vals:Array Value} {w:World} (hl:vals.size=args.length)
    (hrel:∀(j:Nat) (x:AV κ Ty) (u:Value),args[j]? =some x→vals[j]? =some u→VRel C w (fun _=>False) (fun _=>⟨0,0,0,noSub⟩) [] x u) {v:Value} (hret:(S.ret r).1= .lit v):
    Calls P f vals w fun e w'=>e= .returned v∧Below w.heap.size w w':=by
  refine (h.2 args [] r hr (fun _=>False) (fun _=>⟨0,0,0,noSub⟩) vals w hl hrel (SRel.zero w)).mono ?_
  rintro e w' ⟨u,ρ',rfl,h1,h2,_⟩
  rw [hret] at h1
  obtain ⟨rfl,_⟩:=aU_ h1
  refine ⟨rfl,h2.os,h2.tape,h2.output,h2.size,fun k hk=>h2.frame k hk (fun ⟨i,hi⟩=>by simp [ah_] at hi)⟩
end Km
namespace Km
open Go
set_option linter.unusedVariables false
set_option linter.unusedSimpArgs false
variable {κ:Type} {Ty:κ→Type} {R:Type} {P:Program} {C:Cod κ Ty} {T:TypeId→Option (TI κ Ty)} {H:Type} {enc:TypeId×Value→H}
def aj_ (C:Cod κ Ty) (T:TypeId→Option (TI κ Ty)):Nat→TypeId→List (AV κ Ty)→Prop
  | 0,_,_=>False
  | n+1,t,avs=>match T t with
    | none=>False
    | some ti=>match ti.shp with
      | .int k=>∃i,avs=[.lit (.int k i)]∧(Lit.int k i).wf=true
      | .bool=>∃b,avs=[.lit (.bool b)]
      | .str=>∃s,avs=[.lit (.string s)]∧s.size≤maxLen
      | .slice e s=>∃xs:List (Ty s),avs=[.inl false s xs]∧xs.length≤maxLen∧∀x∈xs,aj_ C T n e (C.enc s x)
      | .struct fs=>avs.length=ti.size∧∀f∈fs,∃tf,T f.2=some tf∧aj_ C T n f.2 ((avs.drop f.1).take tf.size)
      | _=>False
def g7_ (bo:κ→Bool):Shp κ→Bool | .int _=>true | .bool=>true | .str=>true | .slice _ s=> !(bo s) | .struct _=>true | _=>false
def laid (C:Cod κ Ty) (T:TypeId→Option (TI κ Ty)):Nat→List (Nat×TypeId)→Option Nat
  | n,[]=>some n
  | n,(d,t)::fs=>match T t with
    | some ti=>(match Nat.beq d n&&g7_ C.bor ti.shp with | true=>laid C T (n+ti.size) fs | false=>none)
    | none=>none
theorem no_ (HT:TOk P C T) {t:TypeId} {ti:TI κ Ty} (h:T t=some ti):P.cellsOf t=ti.size:=by
  obtain ⟨i,z,h1,h2,_⟩:=HT.info t ti h
  simp [Program.cellsOf,h1,h2]
variable {W:World} {base:Nat} {sp:Nat→Bool} {held:Bool} {ρ:Nat→Loc}
theorem u8_ {as bs:List (AV κ Ty)} {us vs:List Value} {w:World} {Mut:Nat→Prop} {objs:am_ κ Ty} (h:Cells C w Mut ρ objs as us) (h':Cells C w Mut ρ objs bs vs):Cells C w Mut ρ objs (as++bs) (us++vs):=by
  obtain ⟨h1,h2,h3⟩:=h
  obtain ⟨g1,g2,g3⟩:=h'
  refine ⟨by simp [h1,g1],fun j u hj=> ?_,fun j cl u hj hu=> ?_⟩
  ·by_cases hlt:j<us.length
   ·rw [List.getElem?_append_left hlt] at hj;exact h2 j u hj
   ·rw [List.getElem?_append_right (by omega)] at hj;exact g2 _ u hj
  ·by_cases hlt:j<us.length
   ·rw [List.getElem?_append_left hlt] at hu
    rw [List.getElem?_append_left (by omega)] at hj
    exact h3 j cl u hj hu
   ·rw [List.getElem?_append_right (by omega)] at hu
    rw [List.getElem?_append_right (by omega),←h1] at hj
    exact g3 _ cl u hj hu
theorem jo_ {a:AV κ Ty} {u:Value} {w:World} {Mut:Nat→Prop} {objs:am_ κ Ty} (hc:aL_ u=true) (h:VRel C w Mut ρ objs a u):Cells C w Mut ρ objs [a] [u]:=
  ⟨rfl,fun j v hj=>by
    cases j with
    | zero=>simp at hj;subst hj;exact hc
    | succ j=>simp at hj,fun j cl v a b=>by
    cases j with
    | zero=>simp at a b;subst a;subst b;exact h
    | succ j=>simp at a⟩
theorem pK_ (HT:TOk P C T) {n:Nat} {cs:List Value} (ih:∀(t:TypeId) (cs:List Value) (x:DataW H×List MemPlace) (ti:TI κ Ty),T t=some ti→g7_ C.bor ti.shp=true→DataW.trod enc P W base sp held n t cs=some x→∃avs,aj_ C T n t avs∧Cells C W (fun _=>False) ρ [] avs cs):
    ∀(fs:List (Nat×TypeId)) (off tot:Nat),laid C T off fs=some tot→cs.length=tot→(∀f∈fs,∃x,DataW.trod enc P W base sp held n f.2 ((cs.drop f.1).take (P.cellsOf f.2))=some x)→
     off≤tot∧∃avs:List (AV κ Ty),Cells C W (fun _=>False) ρ [] avs (cs.drop off)∧∀f∈fs,off≤f.1∧∃tf,T f.2=some tf∧aj_ C T n f.2 ((avs.drop (f.1-off)).take tf.size)
  | [],off,tot,hl,hlen,_=>by
    simp only [laid,Option.some.injEq] at hl
    subst hl
    refine ⟨Nat.le_refl _,[], ?_,fun f hf=>by simp at hf⟩
    rw [List.drop_eq_nil_of_le (by omega)]
    exact ⟨rfl,fun j u h=>by simp at h,fun j cl u h=>by simp at h⟩
  | (d,t)::fs,off,tot,hl,hlen,h=>by
    simp only [laid] at hl
    split at hl
    ·rename_i ti hti
     split at hl
     ·rename_i hb
      simp only [Bool.and_eq_true] at hb
      have hd:=Nat.eq_of_beq_eq_true hb.1
      subst hd
      obtain ⟨k1,avs2,k2,k3⟩:=pK_ HT ih fs (d+ti.size) tot hl hlen (fun f hf=>h f (List.mem_cons_of_mem _ hf))
      obtain ⟨x,hx⟩:=h (d,t) (List.mem_cons_self ..)
      dsimp only at hx
      rw [no_ HT hti] at hx
      obtain ⟨avs1,g1,g2⟩:=ih t _ x ti hti hb.2 hx
      have hl1:avs1.length=ti.size:=by rw [←g2.1];simp;omega
      refine ⟨by omega,avs1++avs2, ?_,fun f hf=> ?_⟩
      ·have:=u8_ g2 k2
       rwa [show (cs.drop d).take ti.size++cs.drop (d+ti.size)=cs.drop d by rw [←List.drop_drop];exact List.take_append_drop _ _] at this
      ·simp only [List.mem_cons] at hf
       rcases hf with rfl | hf
       ·refine ⟨Nat.le_refl _,ti,hti, ?_⟩
        dsimp only
        rw [Nat.sub_self,List.drop_zero,←hl1,List.take_left']
        ·exact g1
        ·rfl
       ·obtain ⟨m1,tf,m2,m3⟩:=k3 f hf
        refine ⟨by omega,tf,m2, ?_⟩
        rw [List.drop_append,List.drop_eq_nil_of_le (by omega),List.nil_append,hl1,show f.1-d-ti.size=f.1-(d+ti.size) by omega]
        exact m3
     ·cases hl
    ·cases hl
structure FullC (C:Cod κ Ty) (T:TypeId→Option (TI κ Ty)):Prop where
  laid:∀t ti fs,T t=some ti→ti.shp= .struct fs→laid C T 0 fs=some ti.size
  elem:∀t ti e s,T t=some ti→ti.shp= .slice e s→∃te,T e=some te∧g7_ C.bor te.shp=true
  full:∀t ti e s n avs,T t=some ti→ti.shp= .slice e s→C.bor s=false→aj_ C T n e avs→∃x,C.enc s x=avs
  sz:∀s,0<C.sz s
theorem pG_ {α:Type} {p:Nat→α→Prop}:∀(n:Nat),(∀i,i<n→∃x,p i x)→∃xs:List α,xs.length=n∧∀i x,xs[i]? =some x→p i x
  | 0,_=>⟨[],rfl,fun i x h=>by simp at h⟩
  | n+1,h=>by
    obtain ⟨xs,h1,h2⟩:=pG_ n (fun i hi=>h i (by omega))
    obtain ⟨x,hx⟩:=h n (by omega)
    refine ⟨xs++[x],by simp [h1],fun i y hy=> ?_⟩
    by_cases hi:i<n
    ·rw [List.getElem?_append_left (by omega)] at hy;exact h2 i y hy
    ·rw [List.getElem?_append_right (by omega)] at hy
     have hlt:=(List.getElem?_eq_some_iff.mp hy).1
     simp at hlt
     have:i=n:=by omega
     subst this
     rw [h1] at hy;simp at hy;subst hy;exact hx
theorem x1_ {w:World} {a:Addr} {n:Nat} {cs:List Value} (h:w.cells? base a n=some cs):cs.length=n∧∀i,i<n→w.cell? (a.add i)=cs[i]? :=by
  unfold World.cells? at h
  split at h
  ·exact ⟨by simpa using mapM_some_length h,fun i hi=>mapM_some_get h i i (by simp [hi])⟩
  ·cases h
theorem trod_shaped (HT:TOk P C T) (HC:aO_ C) (HF:FullC C T):∀(fuel:Nat) (t:TypeId) (cs:List Value) (x:DataW H×List MemPlace) (ti:TI κ Ty),T t=some ti→g7_ C.bor ti.shp=true→
    DataW.trod enc P W base sp held fuel t cs=some x→∃avs,aj_ C T fuel t avs∧Cells C W (fun _=>False) ρ [] avs cs
  | 0,t,cs,x,ti,_,_,h=>by simp [DataW.trod] at h
  | fuel+1,t,cs,x,ti,ht,hp,h=>by
    cases hs:ti.shp with
    | int k=>
      obtain ⟨n,rfl,_,hw⟩:=DataW.trod_int (HT.int t ti k ht hs) h
      exact ⟨[.lit (.int k n)],by simp only [aj_,ht,hs];exact ⟨n,rfl,hw⟩,jo_ rfl (.lit rfl)⟩
    | bool=>
      obtain ⟨b,rfl,_⟩:=DataW.trod_bool (HT.bool t ti ht hs) h
      exact ⟨[.lit (.bool b)],by simp only [aj_,ht,hs];exact ⟨b,rfl⟩,jo_ rfl (.lit rfl)⟩
    | str=>
      obtain ⟨s,rfl,_,hl⟩:=DataW.trod_string (HT.str t ti ht hs) h
      exact ⟨[.lit (.string s)],by simp only [aj_,ht,hs];exact ⟨s,rfl,hl⟩,jo_ rfl (.lit rfl)⟩
    | struct fs=>
      obtain ⟨fields,u1,u2,u3⟩:=HT.struct t ti fs ht hs
      obtain ⟨xs,n,hn,_,hl,hxl,hx⟩:=DataW.trod_struct u1 h
      cases hn
      rw [no_ HT ht] at hl
      obtain ⟨_,avs,k1,k2⟩:=pK_ (ρ:=ρ) HT (trod_shaped HT HC HF fuel) fs 0 ti.size (HF.laid t ti fs ht hs) hl (fun f hf=>by
        rw [←u2,List.mem_map] at hf
        obtain ⟨fl,hfl,rfl⟩:=hf
        obtain ⟨i,hi⟩:=List.getElem?_of_mem hfl
        have hi':fields[i]? =some fl:=by simpa using hi
        have hlt:=(Array.getElem?_eq_some_iff.mp hi').1
        have:=hx i fl hi'
        exact ⟨xs[i]'(by omega),by rw [this];exact List.getElem?_eq_getElem _⟩)
      rw [List.drop_zero] at k1
      refine ⟨avs, ?_,k1⟩
      simp only [aj_,ht,hs]
      refine ⟨by rw [←k1.1];exact hl,fun f hf=> ?_⟩
      obtain ⟨_,tf,m1,m2⟩:=k2 f hf
      exact ⟨tf,m1,by simpa using m2⟩
    | slice e s=>
      obtain ⟨u1,i,hi,hi2,_⟩:=HT.slice t ti e s ht hs
      obtain ⟨te,hte,hpe⟩:=HF.elem t ti e s ht hs
      have hsz:P.cellsOf e=C.sz s:=by simp [Program.cellsOf,hi,hi2]
      rcases DataW.trod_slice u1 h with ⟨rfl,_⟩ | ⟨a,len,cap,elems,rest,n,hn,rfl,_,hb,hlc,hcap,hel,hget,_⟩
      ·refine ⟨[.inl false s []],by simp only [aj_,ht,hs];exact ⟨[],rfl,Nat.zero_le _,fun x hx=>by simp at hx⟩,jo_ rfl ?_⟩
       exact .inl (xs:=[]) (blk:=0) (off:=0) (vals:=fun _ _=>Go.undef) (fun _=>by rw [hs] at hp;simpa [g7_] using hp) (Nat.le_refl _) (fun h=>absurd rfl h) (fun i x j cl hx=>by simp at hx) (fun i x j cl hx=>by simp at hx)
      ·cases hn
       have hrow:∀i,i<len→∃y:Ty s,aj_ C T fuel e (C.enc s y)∧∃us,Cells C W (fun _=>False) ρ [] (C.enc s y) us∧us.length=C.sz s∧∀j,j<C.sz s→W.cell? ((a.add (i*C.sz s)).add j)=us[j]? :=fun i hi'=>by
         have h1:=hget i hi'
         rw [hsz,List.getElem?_eq_getElem (by omega),Option.bind_eq_some_iff] at h1
         obtain ⟨us,h2,h3⟩:=h1
         obtain ⟨avs,k1,k2⟩:=trod_shaped HT HC HF fuel e us _ te hte hpe h3
         obtain ⟨y,rfl⟩:=HF.full t ti e s fuel avs ht hs (by rw [hs] at hp;simpa [g7_] using hp) k1
         obtain ⟨g1,g2⟩:=x1_ h2
         exact ⟨y,k1,us,k2,g1,g2⟩
       obtain ⟨ys,hy1,hy2⟩:=pG_ len hrow
       have hspot:ys≠[]→a=at' a.block a.off∧a.block<W.heap.size:=fun hne=>by
         have hpos:=List.length_pos_iff.mpr hne
         obtain ⟨_,us,_,hul,hu⟩:=hy2 0 ys[0] (List.getElem?_eq_getElem hpos)
         have h0:=hu 0 (HF.sz s)
         have hsz0:=HF.sz s
         rw [List.getElem?_eq_getElem (by omega)] at h0
         simp only [Nat.zero_mul,Addr.add,if_true] at h0
         refine ⟨?_,BR_ h0⟩
         obtain ⟨ab,ao,asp⟩:=a
         cases asp with
         | none=>rfl
         | some q=>
           simp only [World.cell?] at h0
           split at h0
           ·simp at h0
           ·cases h0
       refine ⟨[.inl false s ys],by
         simp only [aj_,ht,hs]
         exact ⟨ys,rfl,by omega,fun x hx=>by
           obtain ⟨i,hi'⟩:=List.getElem?_of_mem hx
           exact (hy2 i x hi').1⟩,jo_ rfl ?_⟩
       have hadd:ys≠[]→∀i j,(a.add (i*C.sz s)).add j=at' a.block (a.off+i*C.sz s+j):=fun hne i j=>by
         obtain ⟨e1,_⟩:=hspot hne
         rw [e1,fS_,fS_]
       have:=VRel.inl (C:=C) (w:=W) (Mut:=fun _=>False) (ρ:=ρ) (objs:=[]) (b:=false) (t:=s) (xs:=ys) (A:=some a) (c:=cap) (blk:=a.block) (off:=a.off)
         (vals:=fun i j=>(W.cell? ((a.add (i*C.sz s)).add j)).getD Go.undef) (fun _=>by rw [hs] at hp;simpa [g7_] using hp) (by omega)
         (fun hne=>⟨congrArg some (hspot hne).1,(hspot hne).2,fun hx=>by
           rcases hx with ⟨k,hk⟩ | ⟨_,hk⟩
           ·simp [ah_] at hk
           ·exact hk⟩)
         (fun i x j cl hx hj=>by
           have hne:ys≠[]:=List.ne_nil_of_mem (List.mem_of_getElem? hx)
           obtain ⟨_,us,k1,k2,k3⟩:=hy2 i x hx
           have hjl:=(List.getElem?_eq_some_iff.mp hj).1
           rw [HC.len] at hjl
           have:=k3 j hjl
           rw [←hadd hne,this,List.getElem?_eq_getElem (by omega)];rfl)
         (fun i x j cl hx hj=>by
           obtain ⟨_,us,k1,k2,k3⟩:=hy2 i x hx
           have hjl:=(List.getElem?_eq_some_iff.mp hj).1
           rw [HC.len] at hjl
           have:=k3 j hjl
           rw [this,List.getElem?_eq_getElem (by omega)]
           exact k1.2.2 j cl _ hj (List.getElem?_eq_getElem (by omega)))
       rw [hy1] at this
       exact this
    | arr n e s=>rw [hs] at hp;cases hp
    | map kt et k v=>rw [hs] at hp;cases hp
    | other=>rw [hs] at hp;cases hp
def s3_ (C:Cod κ Ty) (T:TypeId→Option (TI κ Ty)) (e:Nat×TI κ Ty):Bool:=match e.2.shp with
  | .struct fs=>(match laid C T 0 fs with | some n=>Nat.beq n e.2.size | none=>false)
  | .slice e2 _=>(match T e2 with | some te=>g7_ C.bor te.shp | none=>false)
  | _=>true
theorem FullC.of {C:Cod κ Ty} {l:List (Nat×TI κ Ty)} (h1:l.all (s3_ C (ap_ l))=true) (h2:∀e∈l,∀e2 s n avs,e.2.shp= .slice e2 s→C.bor s=false→aj_ C (ap_ l) n e2 avs→∃x,C.enc s x=avs) (h3:∀s,0<C.sz s) (h4:True):FullC C (ap_ l):=by
  have key:∀t ti,ap_ l t=some ti→s3_ C (ap_ l) (t,ti)=true:=fun t ti ht=>(List.all_eq_true.mp h1) _ (eV_ ht)
  refine ⟨fun t ti fs ht hs=> ?_,fun t ti e s ht hs=> ?_,fun t ti e s n avs ht hs=>h2 _ (eV_ ht) e s n avs hs,h3⟩
  ·have:=key t ti ht
   simp only [s3_,hs] at this
   split at this
   ·rename_i n hn;rw [hn,Nat.eq_of_beq_eq_true this]
   ·cases this
  ·have:=key t ti ht
   simp only [s3_,hs] at this
   split at this
   ·rename_i te hte;exact ⟨te,hte,this⟩
   ·cases this
end Km
namespace Km
open Go
set_option linter.unusedVariables false
inductive T1 (κ:Type) where
  | i (k:IntKind) | b | s | l (b:Bool) (t:κ) | o (id:Nat) | r (id off:Nat) | m (id:Nat) | n (t:κ) | u | v | p | sb (id:Nat) | e (id off:Nat) | z (id off:Nat) | w (id:Nat) | a (id off:Nat)
inductive T2 (κ:Type) where
  | c (t:T1 κ) | g (ts:List (T1 κ))
inductive TO (κ:Type) where
  | d | x (ts:List (T1 κ)) | l (t:κ) | m (k v:κ) | w (t:κ) | q (t:κ)
variable {κ:Type} {Ty:κ→Type} {R X Y:Type}
def L1 (Ty:κ→Type):T1 κ→Type
  | .i _=>Int
  | .b=>Bool
  | .s=>ByteArray
  | .l _ t=>List (Ty t)
  | .sb _=>Nat×Nat
  | .e _ _=>Nat
  | .a _ _=>Nat
  | _=>Unit
def FL (Ty:κ→Type) (t:T1 κ) (Y:Type):Type:=match t with
  | .i _=>Int→Y
  | .b=>Bool→Y
  | .s=>ByteArray→Y
  | .l _ t=>List (Ty t)→Y
  | .sb _=>Nat→Nat→Y
  | .e _ _=>Nat→Y
  | .a _ _=>Nat→Y
  | _=>Y
def mk1:(t:T1 κ)→L1 Ty t→AV κ Ty
  | .i k,a=> .lit (.int k a)
  | .b,a=> .lit (.bool a)
  | .s,a=> .lit (.string a)
  | .l b t,a=> .inl b t a
  | .sb id,a=> .sub id a.1 a.2
  | .e id off,a=> .eref id a off
  | .w id,_=> .rwv id
  | .a id off,a=> .rwp id a off
  | .o id,_=> .own id
  | .r id off,_=> .ref id off
  | .m id,_=> .mapv id
  | .n t,_=> .nil t
  | .u,_=> .undef
  | .v,_=> .void
  | .p,_=> .lit (.pointer none)
  | .z id off,_=> .eref id 0 off
def apL:(t:T1 κ)→FL Ty t Y→L1 Ty t→Y
  | .i _,f,a=>f a
  | .b,f,a=>f a
  | .s,f,a=>f a
  | .l _ _,f,a=>f a
  | .sb _,f,a=>f a.1 a.2
  | .e _ _,f,a=>f a
  | .a _ _,f,a=>f a
  | .w _,f,_=>f
  | .o _,f,_=>f
  | .r _ _,f,_=>f
  | .m _,f,_=>f
  | .n _,f,_=>f
  | .u,f,_=>f
  | .v,f,_=>f
  | .p,f,_=>f
  | .z _ _,f,_=>f
def gI (k:IntKind):AV κ Ty→Option Int
  | .lit u=>(match u with | .int k' n=>(match decide (k'=k) with | true=>some n | false=>none) | _=>none)
  | _=>none
def gB:AV κ Ty→Option Bool
  | .lit u=>(match u with | .bool n=>some n | _=>none)
  | _=>none
def gS:AV κ Ty→Option ByteArray
  | .lit u=>(match u with | .string n=>some n | _=>none)
  | _=>none
def gL (C:Cod κ Ty) (b:Bool) (t:κ):AV κ Ty→Option (List (Ty t))
  | .inl b' t' xs=>(match decide (b'=b) with | true=>C.cast t' t xs | false=>none)
  | _=>none
def gSb (id:Nat):AV κ Ty→Option (Nat×Nat)
  | .sub id' lo hi=>(match Nat.beq id' id with | true=>some (lo,hi) | false=>none)
  | _=>none
def gE (id off:Nat):AV κ Ty→Option Nat
  | .eref id' i off'=>(match Nat.beq id' id&&Nat.beq off' off with | true=>some i | false=>none)
  | _=>none
def gA (id off:Nat):AV κ Ty→Option Nat
  | .rwp id' i off'=>(match Nat.beq id' id&&Nat.beq off' off with | true=>some i | false=>none)
  | _=>none
def isV (C:Cod κ Ty):T1 κ→AV κ Ty→Bool
  | .o id, .own id'=>Nat.beq id' id
  | .r id off, .ref id' off'=>Nat.beq id' id&&Nat.beq off' off
  | .m id, .mapv id'=>Nat.beq id' id
  | .w id, .rwv id'=>Nat.beq id' id
  | .n t, .nil t'=>C.same t' t
  | .u, .undef=>true
  | .v, .void=>true
  | .p, .lit u=>(match u with | .pointer q=>(match q with | none=>true | some _=>false) | _=>false)
  | .z id off, .eref id' i off'=>Nat.beq id' id&&(Nat.beq off' off&&Nat.beq i 0)
  | _,_=>false
def Fu_ (C:Cod κ Ty):(t:T1 κ)→AV κ Ty→Option (L1 Ty t)
  | .i k,v=>gI k v
  | .b,v=>gB v
  | .s,v=>gS v
  | .l b t,v=>gL C b t v
  | .sb id,v=>gSb id v
  | .e id off,v=>gE id off v
  | .a id off,v=>gA id off v
  | .w id,v=>match isV C (.w id) v with | true=>some () | false=>none
  | .o id,v=>match isV C (.o id) v with | true=>some () | false=>none
  | .r id off,v=>match isV C (.r id off) v with | true=>some () | false=>none
  | .m id,v=>match isV C (.m id) v with | true=>some () | false=>none
  | .n t,v=>match isV C (.n t) v with | true=>some () | false=>none
  | .u,v=>match isV C .u v with | true=>some () | false=>none
  | .v,v=>match isV C .v v with | true=>some () | false=>none
  | .p,v=>match isV C .p v with | true=>some () | false=>none
  | .z id off,v=>match isV C (.z id off) v with | true=>some () | false=>none
theorem C0_ {C:Cod κ Ty} (HC:aO_ C) {s t:κ} {xs:List (Ty s)} {ys:List (Ty t)} (h:C.cast s t xs=some ys) {b:Bool}:AV.inl (κ:=κ) (Ty:=Ty) b t ys= .inl b s xs:=by
  obtain ⟨e,h⟩:=HC.cast s t xs ys h
  subst e;subst h;rfl
theorem AF_ {b:Bool} {a:Unit} {x:Option Unit} (h:(match b with | true=>some () | false=>none)=x) (hx:x=some a):b=true:=by
  cases b with
  | true=>rfl
  | false=>subst h;cases hx
theorem FT_ {C:Cod κ Ty} {id:Nat} {v:AV κ Ty} (h:isV C (.o id) v=true):v= .own id:=by
  cases v<;>first | (have:=Nat.eq_of_beq_eq_true h;subst this;rfl) | cases h
theorem Fi_ {C:Cod κ Ty} {id off:Nat} {v:AV κ Ty} (h:isV C (.r id off) v=true):v= .ref id off:=by
  cases v<;>first | (simp only [isV,Bool.and_eq_true] at h;have h1:=Nat.eq_of_beq_eq_true h.1;have h2:=Nat.eq_of_beq_eq_true h.2;subst h1;subst h2;rfl) | cases h
theorem FB_ {C:Cod κ Ty} {id:Nat} {v:AV κ Ty} (h:isV C (.m id) v=true):v= .mapv id:=by
  cases v<;>first | (have:=Nat.eq_of_beq_eq_true h;subst this;rfl) | cases h
theorem Ff_ {C:Cod κ Ty} {id:Nat} {v:AV κ Ty} (h:isV C (.w id) v=true):v= .rwv id:=by
  cases v<;>first | (have:=Nat.eq_of_beq_eq_true h;subst this;rfl) | cases h
theorem E6_ {C:Cod κ Ty} (HC:aO_ C) {t:κ} {v:AV κ Ty} (h:isV C (.n t) v=true):v= .nil t:=by
  cases v<;>first | (have:=HC.same _ _ h;subst this;rfl) | cases h
theorem Fl_ {C:Cod κ Ty} {v:AV κ Ty} (h:isV C .u v=true):v= .undef:=by cases v<;>first | rfl | cases h
theorem FM_ {C:Cod κ Ty} {v:AV κ Ty} (h:isV C .v v=true):v= .void:=by cases v<;>first | rfl | cases h
theorem FA_ {C:Cod κ Ty} {v:AV κ Ty} (h:isV C .p v=true):v= .lit (.pointer none):=by
  cases v with
  | lit u=>cases u with
    | pointer q=>cases q with
      | none=>rfl
      | some _=>cases h
    | _=>cases h
  | _=>cases h
theorem E9_ {C:Cod κ Ty} {id off:Nat} {v:AV κ Ty} (h:isV C (.z id off) v=true):v= .eref id 0 off:=by
  cases v with
  | eref id' i off'=>
    simp only [isV,Bool.and_eq_true] at h
    have h1:=Nat.eq_of_beq_eq_true h.1;have h2:=Nat.eq_of_beq_eq_true h.2.1;have h3:=Nat.eq_of_beq_eq_true h.2.2
    subst h1;subst h2;subst h3;rfl
  | _=>cases h
theorem zA_ {C:Cod κ Ty} (HC:aO_ C):∀(t:T1 κ) (v:AV κ Ty) (a:L1 Ty t),Fu_ C t v=some a→mk1 t a=v
  | .i k,v,a,h=>by
    change gI k v=some a at h
    cases v with
    | lit u=>cases u with
      | int k' n=>
        simp only [gI] at h
        by_cases e:k'=k
        ·subst e;simp only [decide_true] at h;cases h;rfl
        ·simp only [e,decide_false] at h;cases h
      | _=>cases h
    | _=>cases h
  | .b,v,a,h=>by
    change gB v=some a at h
    cases v with
    | lit u=>cases u with
      | bool n=>cases h;rfl
      | _=>cases h
    | _=>cases h
  | .s,v,a,h=>by
    change gS v=some a at h
    cases v with
    | lit u=>cases u with
      | string n=>cases h;rfl
      | _=>cases h
    | _=>cases h
  | .l b t,v,a,h=>by
    change gL C b t v=some a at h
    cases v with
    | inl b' t' xs=>
      simp only [gL] at h
      by_cases e:b'=b
      ·subst e;simp only [decide_true] at h;exact C0_ HC h
      ·simp only [e,decide_false] at h;cases h
    | _=>cases h
  | .sb id,v,a,h=>by
    change gSb id v=some a at h
    cases v with
    | sub id' lo hi=>
      simp only [gSb] at h
      split at h
      ·rename_i hb;have:=Nat.eq_of_beq_eq_true hb;subst this;cases h;rfl
      ·cases h
    | _=>cases h
  | .e id off,v,a,h=>by
    change gE id off v=some a at h
    cases v with
    | eref id' i off'=>
      simp only [gE] at h
      split at h
      ·rename_i hb
       simp only [Bool.and_eq_true] at hb
       have h1:=Nat.eq_of_beq_eq_true hb.1;have h2:=Nat.eq_of_beq_eq_true hb.2
       subst h1;subst h2;cases h;rfl
      ·cases h
    | _=>cases h
  | .a id off,v,a,h=>by
    change gA id off v=some a at h
    cases v with
    | rwp id' i off'=>
      simp only [gA] at h
      split at h
      ·rename_i hb
       simp only [Bool.and_eq_true] at hb
       have h1:=Nat.eq_of_beq_eq_true hb.1;have h2:=Nat.eq_of_beq_eq_true hb.2
       subst h1;subst h2;cases h;rfl
      ·cases h
    | _=>cases h
  | .w id,v,a,h=>(Ff_ (AF_ rfl h)).symm
  | .o id,v,a,h=>(FT_ (AF_ rfl h)).symm
  | .r id off,v,a,h=>(Fi_ (AF_ rfl h)).symm
  | .m id,v,a,h=>(FB_ (AF_ rfl h)).symm
  | .n t,v,a,h=>(E6_ HC (AF_ rfl h)).symm
  | .u,v,a,h=>(Fl_ (AF_ rfl h)).symm
  | .v,v,a,h=>(FM_ (AF_ rfl h)).symm
  | .p,v,a,h=>(FA_ (AF_ rfl h)).symm
  | .z id off,v,a,h=>(E9_ (AF_ rfl h)).symm
def A1 (Ty:κ→Type):List (T1 κ)→Type→Type
  | [],X=>X
  | t::ts,X=>L1 Ty t×A1 Ty ts X
def F1 (Ty:κ→Type):List (T1 κ)→Type→Type
  | [],X=>X
  | t::ts,X=>FL Ty t (F1 Ty ts X)
def m7_:(ts:List (T1 κ))→A1 Ty ts X→List (AV κ Ty)×X
  | [],a=>([],a)
  | t::ts,a=>(mk1 t a.1::(m7_ ts a.2).1,(m7_ ts a.2).2)
def uh_:(ts:List (T1 κ))→F1 Ty ts Y→A1 Ty ts X→Y×X
  | [],f,a=>(f,a)
  | t::ts,f,a=>uh_ ts (apL t f a.1) a.2
def DA_ (C:Cod κ Ty):(ts:List (T1 κ))→List (AV κ Ty)→X→Option (A1 Ty ts X)
  | [],vs,x=>match vs with | []=>some x | _::_=>none
  | t::ts,vs,x=>match vs with
    | []=>none
    | v::vs=>(match Fu_ C t v,DA_ C ts vs x with
      | some l,some a=>some (l,a)
      | _,_=>none)
theorem p2_ {C:Cod κ Ty} (HC:aO_ C):∀(ts:List (T1 κ)) (vs:List (AV κ Ty)) (x:X) (a:A1 Ty ts X),DA_ C ts vs x=some a→m7_ ts a=(vs,x)
  | [],vs,x,a,h=>by
    cases vs with
    | nil=>cases h;rfl
    | cons _ _=>cases h
  | t::ts,vs,x,a,h=>by
    cases vs with
    | nil=>cases h
    | cons v vs=>
      simp only [DA_] at h
      split at h
      ·rename_i l b hl hb
       cases h
       simp only [m7_,p2_ HC ts vs x b hb,zA_ HC t v l hl]
      ·cases h
def A2 (Ty:κ→Type):List (T2 κ)→Type→Type
  | [],X=>X
  | .c t::ts,X=>L1 Ty t×A2 Ty ts X
  | .g cs::ts,X=>A1 Ty cs (A2 Ty ts X)
def F2 (Ty:κ→Type):List (T2 κ)→Type→Type
  | [],X=>X
  | .c t::ts,X=>FL Ty t (F2 Ty ts X)
  | .g cs::ts,X=>F1 Ty cs (F2 Ty ts X)
def jU_:(ts:List (T2 κ))→A2 Ty ts X→List (AV κ Ty)×X
  | [],a=>([],a)
  | .c t::ts,a=>(mk1 t a.1::(jU_ ts a.2).1,(jU_ ts a.2).2)
  | .g cs::ts,a=>let p:=m7_ (X:=A2 Ty ts X) cs a;(.agg p.1::(jU_ ts p.2).1,(jU_ ts p.2).2)
def AJ_:(ts:List (T2 κ))→F2 Ty ts Y→A2 Ty ts X→Y×X
  | [],f,a=>(f,a)
  | .c t::ts,f,a=>AJ_ ts (apL t f a.1) a.2
  | .g cs::ts,f,a=>let p:=uh_ (Y:=F2 Ty ts Y) (X:=A2 Ty ts X) cs f a;AJ_ ts p.1 p.2
def Br_:AV κ Ty→Option (List (AV κ Ty))
  | .agg us=>some us
  | _=>none
theorem y8_ {v:AV κ Ty} {us:List (AV κ Ty)} (h:Br_ v=some us):v= .agg us:=by cases v<;>first | (cases h;rfl) | cases h
def C6_ (C:Cod κ Ty):(ts:List (T2 κ))→List (AV κ Ty)→X→Option (A2 Ty ts X)
  | [],vs,x=>match vs with | []=>some x | _::_=>none
  | .c t::ts,vs,x=>match vs with
    | []=>none
    | v::vs=>(match Fu_ C t v,C6_ C ts vs x with
      | some l,some a=>some (l,a)
      | _,_=>none)
  | .g cs::ts,vs,x=>match vs with
    | []=>none
    | v::vs=>(match Br_ v with
      | none=>none
      | some us=>(match C6_ C ts vs x with
        | none=>none
        | some a=>DA_ C cs us a))
theorem qP_ {C:Cod κ Ty} (HC:aO_ C):∀(ts:List (T2 κ)) (vs:List (AV κ Ty)) (x:X) (a:A2 Ty ts X),C6_ C ts vs x=some a→jU_ ts a=(vs,x)
  | [],vs,x,a,h=>by
    cases vs with
    | nil=>cases h;rfl
    | cons _ _=>cases h
  | .c t::ts,vs,x,a,h=>by
    cases vs with
    | nil=>cases h
    | cons v vs=>
      simp only [C6_] at h
      split at h
      ·rename_i l b hl hb
       cases h
       simp only [jU_,qP_ HC ts vs x b hb,zA_ HC t v l hl]
      ·cases h
  | .g cs::ts,vs,x,a,h=>by
    cases vs with
    | nil=>cases h
    | cons v vs=>
      simp only [C6_] at h
      split at h
      ·cases h
      ·rename_i us hu
       split at h
       ·cases h
       ·rename_i b hb
        simp only [jU_,p2_ HC cs us b a h,qP_ HC ts vs x b hb,y8_ hu]
def AO (Ty:κ→Type):List (TO κ)→Type
  | []=>Unit
  | .d::os=>AO Ty os
  | .x cs::os=>A1 Ty cs (AO Ty os)
  | .l t::os=>List (Ty t)×AO Ty os
  | .m k v::os=>List (Ty k×Ty v)×AO Ty os
  | .w t::os=>List (Ty t)×AO Ty os
  | .q t::os=>List (Ty t)×Nat×AO Ty os
def FO (Ty:κ→Type):List (TO κ)→Type→Type
  | [],X=>X
  | .d::os,X=>FO Ty os X
  | .x cs::os,X=>F1 Ty cs (FO Ty os X)
  | .l t::os,X=>List (Ty t)→FO Ty os X
  | .m k v::os,X=>List (Ty k×Ty v)→FO Ty os X
  | .w t::os,X=>List (Ty t)→FO Ty os X
  | .q t::os,X=>List (Ty t)→Nat→FO Ty os X
def hm_:(os:List (TO κ))→AO Ty os→am_ κ Ty
  | [],a=>[]
  | .d::os,a=> .dead::hm_ os a
  | .x cs::os,a=>let p:=m7_ (X:=AO Ty os) cs a; .box p.1::hm_ os p.2
  | .l t::os,a=> .sl t a.1::hm_ os a.2
  | .m k v::os,a=> .mp k v a.1 none::hm_ os a.2
  | .w t::os,a=> .rw t a.1 0 none::hm_ os a.2
  | .q t::os,a=> .rp t a.1 a.2.1::hm_ os a.2.2
def Af_:(os:List (TO κ))→FO Ty os Y→AO Ty os→Y
  | [],f,a=>f
  | .d::os,f,a=>Af_ os f a
  | .x cs::os,f,a=>let p:=uh_ (Y:=FO Ty os Y) (X:=AO Ty os) cs f a;Af_ os p.1 p.2
  | .l t::os,f,a=>Af_ os (f a.1) a.2
  | .m k v::os,f,a=>Af_ os (f a.1) a.2
  | .w t::os,f,a=>Af_ os (f a.1) a.2
  | .q t::os,f,a=>Af_ os (f a.1 a.2.1) a.2.2
def Bp_:AObj κ Ty→Bool | .dead=>true | _=>false
def F2_:AObj κ Ty→Option (List (AV κ Ty)) | .box us=>some us | _=>none
def slC (C:Cod κ Ty) (t:κ):AObj κ Ty→Option (List (Ty t)) | .sl t' xs=>C.cast t' t xs | _=>none
def mpC (C:Cod κ Ty) (k v:κ):AObj κ Ty→Option (List (Ty k×Ty v)) | .mp k' v' es h=>(match h with | none=>C.mcast k' v' k v es | some _=>none) | _=>none
def rwC (C:Cod κ Ty) (t:κ):AObj κ Ty→Option (List (Ty t)) | .rw t' xs g h=>(match h with | none=>(match Nat.beq g 0 with | true=>C.cast t' t xs | false=>none) | some _=>none) | _=>none
def rpC (C:Cod κ Ty) (t:κ):AObj κ Ty→Option (List (Ty t)×Nat) | .rp t' xs n=>(match C.cast t' t xs with | some ys=>some (ys,n) | none=>none) | _=>none
theorem Ai_ {o:AObj κ Ty} (h:Bp_ o=true):o= .dead:=by cases o<;>first | rfl | cases h
theorem Cn_ {o:AObj κ Ty} {us:List (AV κ Ty)} (h:F2_ o=some us):o= .box us:=by cases o<;>first | (cases h;rfl) | cases h
theorem Dx_ {C:Cod κ Ty} (HC:aO_ C) {t:κ} {o:AObj κ Ty} {ys:List (Ty t)} (h:slC C t o=some ys):o= .sl t ys:=by
  cases o with
  | sl t' xs=>
    obtain ⟨e,h⟩:=HC.cast t' t xs ys h
    subst e;subst h;rfl
  | _=>cases h
theorem EJ_ {C:Cod κ Ty} (HC:aO_ C) {t:κ} {o:AObj κ Ty} {ys:List (Ty t)} (h:rwC C t o=some ys):o= .rw t ys 0 none:=by
  cases o with
  | rw t' xs g ho=>
    cases ho with
    | none=>
      simp only [rwC] at h
      split at h
      ·rename_i hb
       have:=Nat.eq_of_beq_eq_true hb
       subst this
       obtain ⟨e,h⟩:=HC.cast t' t xs ys h
       subst e;subst h;rfl
      ·cases h
    | some _=>cases h
  | _=>cases h
theorem Ey_ {C:Cod κ Ty} (HC:aO_ C) {t:κ} {o:AObj κ Ty} {ys:List (Ty t)×Nat} (h:rpC C t o=some ys):o= .rp t ys.1 ys.2:=by
  cases o with
  | rp t' xs n=>
    simp only [rpC] at h
    split at h
    ·rename_i zs hc
     obtain ⟨e,hc⟩:=HC.cast t' t xs zs hc
     subst e;subst hc;cases h;rfl
    ·cases h
  | _=>cases h
theorem Dj_ {C:Cod κ Ty} (HC:aO_ C) {k v:κ} {o:AObj κ Ty} {ys:List (Ty k×Ty v)} (h:mpC C k v o=some ys):o= .mp k v ys none:=by
  cases o with
  | mp k' v' es ho=>
    cases ho with
    | none=>
      obtain ⟨e1,e2,h⟩:=HC.mcast k' v' k v es ys h
      subst e1;subst e2;subst h;rfl
    | some _=>cases h
  | _=>cases h
def w0_ (C:Cod κ Ty):(os:List (TO κ))→am_ κ Ty→Option (AO Ty os)
  | [],ob=>match ob with | []=>some () | _::_=>none
  | .d::os,ob=>match ob with
    | []=>none
    | o::ob=>(match Bp_ o with | true=>w0_ C os ob | false=>none)
  | .x cs::os,ob=>match ob with
    | []=>none
    | o::ob=>(match F2_ o with
      | none=>none
      | some us=>(match w0_ C os ob with
        | none=>none
        | some a=>DA_ C cs us a))
  | .l t::os,ob=>match ob with
    | []=>none
    | o::ob=>(match slC C t o,w0_ C os ob with
      | some ys,some a=>some (ys,a)
      | _,_=>none)
  | .m k v::os,ob=>match ob with
    | []=>none
    | o::ob=>(match mpC C k v o,w0_ C os ob with
      | some ys,some a=>some (ys,a)
      | _,_=>none)
  | .w t::os,ob=>match ob with
    | []=>none
    | o::ob=>(match rwC C t o,w0_ C os ob with
      | some ys,some a=>some (ys,a)
      | _,_=>none)
  | .q t::os,ob=>match ob with
    | []=>none
    | o::ob=>(match rpC C t o,w0_ C os ob with
      | some ys,some a=>some (ys.1,ys.2,a)
      | _,_=>none)
theorem gw_ {C:Cod κ Ty} (HC:aO_ C):∀(os:List (TO κ)) (ob:am_ κ Ty) (a:AO Ty os),w0_ C os ob=some a→hm_ os a=ob
  | [],ob,a,h=>by
    cases ob with
    | nil=>rfl
    | cons _ _=>cases h
  | .d::os,ob,a,h=>by
    cases ob with
    | nil=>cases h
    | cons o ob=>
      simp only [w0_] at h
      split at h
      ·rename_i hd
       simp only [hm_,gw_ HC os ob a h,Ai_ hd]
      ·cases h
  | .x cs::os,ob,a,h=>by
    cases ob with
    | nil=>cases h
    | cons o ob=>
      simp only [w0_] at h
      split at h
      ·cases h
      ·rename_i us hu
       split at h
       ·cases h
       ·rename_i b hb
        simp only [hm_,p2_ HC cs us b a h,gw_ HC os ob b hb,Cn_ hu]
  | .l t::os,ob,a,h=>by
    cases ob with
    | nil=>cases h
    | cons o ob=>
      simp only [w0_] at h
      split at h
      ·rename_i ys b hu hb
       cases h
       simp only [hm_,gw_ HC os ob b hb,Dx_ HC hu]
      ·cases h
  | .m k v::os,ob,a,h=>by
    cases ob with
    | nil=>cases h
    | cons o ob=>
      simp only [w0_] at h
      split at h
      ·rename_i ys b hu hb
       cases h
       simp only [hm_,gw_ HC os ob b hb,Dj_ HC hu]
      ·cases h
  | .w t::os,ob,a,h=>by
    cases ob with
    | nil=>cases h
    | cons o ob=>
      simp only [w0_] at h
      split at h
      ·rename_i ys b hu hb
       cases h
       simp only [hm_,gw_ HC os ob b hb,EJ_ HC hu]
      ·cases h
  | .q t::os,ob,a,h=>by
    cases ob with
    | nil=>cases h
    | cons o ob=>
      simp only [w0_] at h
      split at h
      ·rename_i ys b hu hb
       cases h
       simp only [hm_,gw_ HC os ob b hb,Ey_ HC hu]
      ·cases h
abbrev AA (Ty:κ→Type) (vt:List (T2 κ)) (ot:List (TO κ)):Type:=A2 Ty vt (AO Ty ot)
abbrev FF (Ty:κ→Type) (vt:List (T2 κ)) (ot:List (TO κ)) (R:Type):Type:=F2 Ty vt (FO Ty ot R)
def Bi_ (vt:List (T2 κ)) (ot:List (TO κ)) (f:FF Ty vt ot R) (a:AA Ty vt ot):R:=let p:=AJ_ vt f a;Af_ ot p.1 p.2
def yn_ (vt:List (T2 κ)) (ot:List (TO κ)) (a:AA Ty vt ot):List (AV κ Ty):=(jU_ vt a).1
def xG_ (vt:List (T2 κ)) (ot:List (TO κ)) (a:AA Ty vt ot):am_ κ Ty:=hm_ ot (jU_ vt a).2
def Dc_ (C:Cod κ Ty) (vt:List (T2 κ)) (ot:List (TO κ)) (vs:List (AV κ Ty)) (os:am_ κ Ty):Option (AA Ty vt ot):=
  match w0_ C ot os with | some x=>C6_ C vt vs x | none=>none
theorem qZ_ {C:Cod κ Ty} (HC:aO_ C) {vt:List (T2 κ)} {ot:List (TO κ)} {vs:List (AV κ Ty)} {os:am_ κ Ty} {a:AA Ty vt ot} (h:Dc_ C vt ot vs os=some a):yn_ vt ot a=vs∧xG_ vt ot a=os:=by
  unfold Dc_ at h
  split at h
  ·rename_i x hx
   have h1:=qP_ HC vt vs x a h
   have h2:=gw_ HC ot os x hx
   simp only [yn_,xG_,h1]
   exact ⟨trivial,h2⟩
  ·cases h
def ct (C:Cod κ Ty) (slots:List Nat) (vt:List (T2 κ)) (ot:List (TO κ)) (f:Nat→FF Ty vt ot (Option R)):Cut κ Ty R:=
  ⟨slots,fun k vs os=>match Dc_ C vt ot vs os with | some a=>Bi_ vt ot (f k) a | none=>none⟩
def sm (C:Cod κ Ty) (R:Type) (modes:List q4_) (vt:List (T2 κ)) (ot:List (TO κ)) (f:Nat→FF Ty vt ot (Option R)) (k:Nat) (rv:List (T2 κ)) (ro:List (TO κ)) (un:R→AA Ty rv ro) (_pk:FF Ty rv ro R) (quiet:Bool):aK_ κ Ty where
  R:=R
  modes:=modes
  run:=fun args objs=>match Dc_ C vt ot args objs with | some a=>Bi_ vt ot (f k) a | none=>none
  ret:=fun r=>(one (yn_ rv ro (un r)),xG_ rv ro (un r))
  quiet:=quiet
def F0_:AV κ Ty→Option (List (AV κ Ty)) | .tup vs=>some vs | _=>none
theorem BD_ {v:AV κ Ty} {us:List (AV κ Ty)} (h:F0_ v=some us):v= .tup us:=by cases v<;>first | (cases h;rfl) | cases h
def Cj_ (n:Nat) (v:AV κ Ty):Option (List (AV κ Ty)):=match Nat.beq n 1 with | true=>some [v] | false=>F0_ v
def dc (C:Cod κ Ty) (rv:List (T2 κ)) (ro:List (TO κ)) (pk:FF Ty rv ro R) (v:AV κ Ty) (os:am_ κ Ty):Option R:=
  match Cj_ rv.length v with
  | some vs=>(match Dc_ C rv ro vs os with | some a=>some (Bi_ rv ro pk a) | none=>none)
  | none=>none
theorem gI_:∀(ts:List (T2 κ)) (a:A2 Ty ts X),(jU_ ts a).1.length=ts.length
  | [],a=>rfl
  | .c t::ts,a=>by simp only [jU_,List.length_cons,gI_ ts]
  | .g cs::ts,a=>by simp only [jU_,List.length_cons,gI_ ts]
theorem dQ_:∀(os:List (TO κ)) (a:AO Ty os),(hm_ os a).length=os.length
  | [],a=>rfl
  | .d::os,a=>congrArg (· +1) (dQ_ os a)
  | .x cs::os,a=>by simp only [hm_,List.length_cons,dQ_ os]
  | .l t::os,a=>by simp only [hm_,List.length_cons,dQ_ os]
  | .m k v::os,a=>by simp only [hm_,List.length_cons,dQ_ os]
  | .w t::os,a=>by simp only [hm_,List.length_cons,dQ_ os]
  | .q t::os,a=>by simp only [hm_,List.length_cons,dQ_ os]
theorem y9_ {n:Nat} {v:AV κ Ty} {vs:List (AV κ Ty)} (h:Cj_ n v=some vs) (hl:vs.length=n):one vs=v:=by
  unfold Cj_ at h
  cases hn:Nat.beq n 1 with
  | true=>rw [hn] at h;cases h;rfl
  | false=>
    rw [hn] at h
    have:=BD_ h
    subst this
    match vs,hl with
    | [],_=>rfl
    | [x],hl=>rw [←hl] at hn;cases hn
    | _::_::_,_=>rfl
def Fq_:(t:T1 κ)→(AV κ Ty→(FL Ty t Y→Y)→Prop)→Prop
  | .i k,K=>∀n:Int,K (.lit (.int k n)) (fun f=>f n)
  | .b,K=>∀n:Bool,K (.lit (.bool n)) (fun f=>f n)
  | .s,K=>∀n:ByteArray,K (.lit (.string n)) (fun f=>f n)
  | .l b t,K=>∀n:List (Ty t),K (.inl b t n) (fun f=>f n)
  | .sb id,K=>∀m n:Nat,K (.sub id m n) (fun f=>f m n)
  | .e id off,K=>∀n:Nat,K (.eref id n off) (fun f=>f n)
  | .a id off,K=>∀n:Nat,K (.rwp id n off) (fun f=>f n)
  | .w id,K=>K (.rwv id) (fun f=>f)
  | .o id,K=>K (.own id) (fun f=>f)
  | .r id off,K=>K (.ref id off) (fun f=>f)
  | .m id,K=>K (.mapv id) (fun f=>f)
  | .n t,K=>K (.nil t) (fun f=>f)
  | .u,K=>K .undef (fun f=>f)
  | .v,K=>K .void (fun f=>f)
  | .p,K=>K (.lit (.pointer none)) (fun f=>f)
  | .z id off,K=>K (.eref id 0 off) (fun f=>f)
theorem yM_ (t:T1 κ) (K:AV κ Ty→(FL Ty t Y→Y)→Prop) (h:Fq_ t K) (a:L1 Ty t):K (mk1 t a) (fun f=>apL t f a):=by
  cases t<;>first | exact h a | exact h a.1 a.2 | exact h
def EQ_:(ts:List (T1 κ))→(List (AV κ Ty)→(F1 Ty ts Y→Y)→Prop)→Prop
  | [],K=>K [] (fun f=>f)
  | t::ts,K=>Fq_ t (fun v ap=>EQ_ ts (fun vs ap'=>K (v::vs) (fun f=>ap' (ap f))))
theorem wz_:∀(ts:List (T1 κ)) (K:List (AV κ Ty)→(F1 Ty ts Y→Y)→Prop),EQ_ ts K→∀a:A1 Ty ts X,K (m7_ ts a).1 (fun f=>(uh_ ts f a).1)
  | [],K,h,a=>h
  | t::ts,K,h,a=>wz_ ts _ (yM_ t _ h a.1) a.2
theorem oV_:∀(ts:List (T1 κ)) (f:F1 Ty ts Y) (a:A1 Ty ts X),(uh_ ts f a).2=(m7_ ts a).2
  | [],f,a=>rfl
  | t::ts,f,a=>oV_ ts (apL t f a.1) a.2
def ET_:(ts:List (T2 κ))→(List (AV κ Ty)→(F2 Ty ts Y→Y)→Prop)→Prop
  | [],K=>K [] (fun f=>f)
  | .c t::ts,K=>Fq_ t (fun v ap=>ET_ ts (fun vs ap'=>K (v::vs) (fun f=>ap' (ap f))))
  | .g cs::ts,K=>EQ_ cs (fun us ap=>ET_ ts (fun vs ap'=>K (.agg us::vs) (fun f=>ap' (ap f))))
theorem v7_:∀(ts:List (T2 κ)) (K:List (AV κ Ty)→(F2 Ty ts Y→Y)→Prop),ET_ ts K→∀a:A2 Ty ts X,K (jU_ ts a).1 (fun f=>(AJ_ ts f a).1)
  | [],K,h,a=>h
  | .c t::ts,K,h,a=>v7_ ts _ (yM_ t _ h a.1) a.2
  | .g cs::ts,K,h,a=>by
    have:=v7_ ts _ (wz_ (X:=A2 Ty ts X) cs _ h a) (m7_ (X:=A2 Ty ts X) cs a).2
    have e:(fun f:F1 Ty cs (F2 Ty ts Y)=>(AJ_ ts (uh_ (X:=A2 Ty ts X) cs f a).1 (uh_ (X:=A2 Ty ts X) cs f a).2).1)=fun f=>(AJ_ ts (uh_ (X:=A2 Ty ts X) cs f a).1 (m7_ (X:=A2 Ty ts X) cs a).2).1:=funext fun f=>by rw [oV_ cs f a]
    show K _ (fun f:F1 Ty cs (F2 Ty ts Y)=>(AJ_ ts (uh_ (X:=A2 Ty ts X) cs f a).1 (uh_ (X:=A2 Ty ts X) cs f a).2).1)
    rw [e]
    exact this
theorem tr_:∀(ts:List (T2 κ)) (f:F2 Ty ts Y) (a:A2 Ty ts X),(AJ_ ts f a).2=(jU_ ts a).2
  | [],f,a=>rfl
  | .c t::ts,f,a=>tr_ ts (apL t f a.1) a.2
  | .g cs::ts,f,a=>by
    have e:=oV_ (Y:=F2 Ty ts Y) (X:=A2 Ty ts X) cs f a
    show (AJ_ ts (uh_ (Y:=F2 Ty ts Y) (X:=A2 Ty ts X) cs f a).1 (uh_ (Y:=F2 Ty ts Y) (X:=A2 Ty ts X) cs f a).2).2=(jU_ ts (m7_ (X:=A2 Ty ts X) cs a).2).2
    rw [e]
    exact tr_ ts _ _
def Bl_:(os:List (TO κ))→(am_ κ Ty→(FO Ty os Y→Y)→Prop)→Prop
  | [],K=>K [] (fun f=>f)
  | .d::os,K=>Bl_ os (fun ob ap=>K (.dead::ob) ap)
  | .x cs::os,K=>EQ_ cs (fun us ap=>Bl_ os (fun ob ap'=>K (.box us::ob) (fun f=>ap' (ap f))))
  | .l t::os,K=>∀xs:List (Ty t),Bl_ os (fun ob ap=>K (.sl t xs::ob) (fun f=>ap (f xs)))
  | .m k v::os,K=>∀xs:List (Ty k×Ty v),Bl_ os (fun ob ap=>K (.mp k v xs none::ob) (fun f=>ap (f xs)))
  | .w t::os,K=>∀xs:List (Ty t),Bl_ os (fun ob ap=>K (.rw t xs 0 none::ob) (fun f=>ap (f xs)))
  | .q t::os,K=>∀(xs:List (Ty t)) (n:Nat),Bl_ os (fun ob ap=>K (.rp t xs n::ob) (fun f=>ap (f xs n)))
theorem lm_:∀(os:List (TO κ)) (K:am_ κ Ty→(FO Ty os Y→Y)→Prop),Bl_ os K→∀a:AO Ty os,K (hm_ os a) (fun f=>Af_ os f a)
  | [],K,h,a=>h
  | .d::os,K,h,a=>lm_ os _ h a
  | .x cs::os,K,h,a=>by
    have:=lm_ os _ (wz_ (X:=AO Ty os) cs _ h a) (m7_ (X:=AO Ty os) cs a).2
    have e:(fun f:F1 Ty cs (FO Ty os Y)=>Af_ os (uh_ (X:=AO Ty os) cs f a).1 (uh_ (X:=AO Ty os) cs f a).2)=fun f=>Af_ os (uh_ (X:=AO Ty os) cs f a).1 (m7_ (X:=AO Ty os) cs a).2:=funext fun f=>by rw [oV_ cs f a]
    show K _ (fun f:F1 Ty cs (FO Ty os Y)=>Af_ os (uh_ (X:=AO Ty os) cs f a).1 (uh_ (X:=AO Ty os) cs f a).2)
    rw [e]
    exact this
  | .l t::os,K,h,a=>lm_ os _ (h a.1) a.2
  | .m k v::os,K,h,a=>lm_ os _ (h a.1) a.2
  | .w t::os,K,h,a=>lm_ os _ (h a.1) a.2
  | .q t::os,K,h,a=>lm_ os _ (h a.1 a.2.1) a.2.2
def ES_ (vt:List (T2 κ)) (ot:List (TO κ)) (K:List (AV κ Ty)→am_ κ Ty→(FF Ty vt ot R→R)→Prop):Prop:=
  ET_ (Y:=FO Ty ot R) vt (fun vs ap=>Bl_ ot (fun os ap'=>K vs os (fun f=>ap' (ap f))))
theorem vL_ {vt:List (T2 κ)} {ot:List (TO κ)} {K:List (AV κ Ty)→am_ κ Ty→(FF Ty vt ot R→R)→Prop} (h:ES_ vt ot K) (a:AA Ty vt ot):K (yn_ vt ot a) (xG_ vt ot a) (fun f=>Bi_ vt ot f a):=by
  have:=lm_ ot _ (v7_ (X:=AO Ty ot) vt _ h a) (jU_ vt a).2
  unfold yn_ xG_ Bi_
  simp only [tr_]
  exact this
def zv_ (C:Cod κ Ty) (T:TypeId→Option (TI κ Ty)) (fn:Func) (Γ:Nat→FuncId→Option (aK_ κ Ty)) (cs:List (Nat×Cut κ Ty R)) (m:Nat) (fin:Env κ Ty→am_ κ Ty→Option R) (c:Nat×Cut κ Ty R):Prop:=
  (∀vs os,c.2.fn 0 vs os=none)∧(b1_ c.1 (fW_ fn) []).isSome=true∧
     ∀k vs os r,c.2.fn (k+1) vs os=some r→∃n,run C T (Γ k) (lam cs k) (l3_ cs) m fin n true (vj_ c.1 (fW_ fn)) (iR_ c.2.slots vs) os=some r
theorem aq_ {C:Cod κ Ty} (HC:aO_ C) {T:TypeId→Option (TI κ Ty)} {fn:Func} {Γ:Nat→FuncId→Option (aK_ κ Ty)} {cs:List (Nat×Cut κ Ty R)} {m:Nat} {fin:Env κ Ty→am_ κ Ty→Option R} {id:Nat} {slots:List Nat} {vt:List (T2 κ)} {ot:List (TO κ)} {f:Nat→FF Ty vt ot (Option R)}
    (there:(b1_ id (fW_ fn) []).isSome=true) (zero:ES_ (R:=Option R) vt ot (fun _ _ ap=>ap (f 0)=none))
    (step:∀k,ES_ (R:=Option R) vt ot (fun vs os ap=>run C T (Γ k) (lam cs k) (l3_ cs) m fin 4000 true (vj_ id (fW_ fn)) (iR_ slots vs) os=ap (f (k+1)))):zv_ C T fn Γ cs m fin (id,ct C slots vt ot f):=by
  refine ⟨fun vs os=> ?_,there,fun k vs os r h=> ?_⟩
  ·simp only [ct]
   split
   ·exact vL_ zero _
   ·rfl
  ·simp only [ct] at h
   split at h
   ·rename_i a ha
    obtain ⟨h1,h2⟩:=qZ_ HC ha
    refine ⟨4000, ?_⟩
    show run C T (Γ k) (lam cs k) (l3_ cs) m fin 4000 true (vj_ id (fW_ fn)) (iR_ slots vs) os=some r
    rw [←h1,←h2];exact (vL_ (step k) a).trans h
   ·cases h
theorem aw_ {P:Program} {C:Cod κ Ty} {T:TypeId→Option (TI κ Ty)} (HC:aO_ C) {f:FuncId} {S:Type} {modes:List q4_} {vt:List (T2 κ)} {ot:List (TO κ)} {g:Nat→FF Ty vt ot (Option S)} {k0:Nat} {rv:List (T2 κ)} {ro:List (TO κ)} {un:S→AA Ty rv ro} {pk:FF Ty rv ro S} {q:Bool} (fn:Func)
    (Γ:Nat→FuncId→Option (aK_ κ Ty)) (cs:List (Nat×Cut κ Ty S)) (frz:Bool) (rs:List ResultVar) (m:Nat) (gs:List Bool)
    (hm:P.follows .mixedOrders=true) (hf:P.funcs[f]? =some fn)
    (hb1 : (fn.name == "runtime.NumGoroutine") = false) (hb2 : fn.body = some (fW_ fn)) (hb3 : fn.results.toList = rs)
    (hb:(okC fn.ntmps (fW_ fn)&&(sy_ (tH_ (fW_ fn))&&(Nat.ble vt.length fn.ntmps&&(Nat.beq ot.length m&&Nat.beq gs.length m))))=true)
    (H:∀k,Known P C T (Γ k)) (HQ:∀k,QuietOk (Γ k))
    (hun:∀a,un (Bi_ rv ro pk a)=a)
    (hc:∀c∈cs,zv_ C T fn Γ cs m (nV_ C T frz m rs (dc C rv ro pk)) c)
    (hrun:∀k,ES_ (R:=Option S) vt ot (fun vs os ap=>run C T (Γ k) (lam cs k) (l3_ cs) m (nV_ C T frz m rs (dc C rv ro pk)) 4000 false [.code (fW_ fn)] (iR_ (List.range (vs.map (o5_ (q3_ gs))).length) (vs.map (o5_ (q3_ gs)))) (st_ gs os)=ap (g k))):
    SummOk P C f (sm C S modes vt ot g k0 rv ro un pk q):=by
  simp only [Bool.and_eq_true] at hb
  obtain ⟨hb4,hb5,hb6,hb7,hb8⟩:=hb
  refine CH_ (S:=sm C S modes vt ot g k0 rv ro un pk q) fn Γ cs frz rs m (dc C rv ro pk) hm H HQ hf hb1 hb2 hb3 hb4 hb5 (fun v os r h=> ?_) hc gs (fun args os r h=> ?_)
  ·unfold dc at h
   split at h
   ·rename_i vs hvs
    split at h
    ·rename_i a ha
     cases h
     obtain ⟨h1,h2⟩:=qZ_ HC ha
     show (one (yn_ rv ro (un (Bi_ rv ro pk a))),xG_ rv ro (un (Bi_ rv ro pk a)))=(v,os)
     rw [hun,h1,h2,y9_ hvs (by rw [←h1];exact gI_ rv a)]
    ·cases h
   ·cases h
  ·change (match Dc_ C vt ot args os with | some a=>Bi_ vt ot (g k0) a | none=>none)=some r at h
   split at h
   ·rename_i a ha
    obtain ⟨h1,h2⟩:=qZ_ HC ha
    have hl:args.length=vt.length:=by rw [←h1];exact gI_ vt a
    have hlo:os.length=ot.length:=by rw [←h2];exact dQ_ ot _
    have e7:=Nat.eq_of_beq_eq_true hb7
    have e8:=Nat.eq_of_beq_eq_true hb8
    refine ⟨by have:=Nat.le_of_ble_eq_true hb6;omega,by omega,e8,k0,4000, ?_⟩
    have:=vL_ (hrun k0) a
    rw [h1,h2] at this
    exact this.trans h
   ·cases h
end Km
namespace Km
open Go
theorem bF_ {x y:ByteArray} (h:x.size+y.size≤140737488355328):jI_ x y=some (x++y):=by simp [jI_,h]
theorem ba_ {α:Type} {b:Nat} {xs ys:List α} (h:(xs.length+ys.length)*b≤140737488355328):app b xs ys=some (xs++ys):=by simp [app,h]
theorem cY_ {n:Nat} {lo hi:Int} (h:0≤lo∧lo≤hi∧hi≤n):wnd n lo hi=some (lo.toNat,hi.toNat):=by simp [wnd,h]
theorem ju_ {α:Type} (xs:List α) (i:Nat):idx xs (i:Int)=xs[i]? :=by
  unfold idx
  rw [if_neg (by omega)];simp
theorem zQ_ {α:Type} {xs:List α} {i:Nat} (h:i<xs.length):idx xs (i:Int)=some xs[i]:=by rw [ju_];exact List.getElem?_eq_getElem h
theorem CG_ {a b:Int} (h:b≠0):qN_ a b=some (a.tmod b):=by simp [qN_,h]
theorem CJ_ {a b:Int} (h:b≠0):Ad_ a b=some (a.tdiv b):=by simp [Ad_,h]
theorem w64 {n:Int} (h: -9223372036854775808≤n∧n≤9223372036854775807):IntKind.wrap .i64 n=n:=by rw [IntKind.wrap_i64];omega
theorem bg_ (x y:ByteArray):(x++y).size=x.size+y.size:=by simp
theorem gs_ (bs:List Int):(iJ_ bs).size=bs.length:=by
  have:∀(bs:List Int) (s:ByteArray),(bs.foldl (fun r n=>r.push (UInt8.ofNat n.toNat)) s).size=s.size+bs.length:=by
    intro bs
    induction bs with
    | nil=>intro s;simp
    | cons b bs ih=>intro s;simp only [List.foldl_cons,ih,ByteArray.size_push,List.length_cons];omega
  unfold iJ_;rw [this];simp
end Km
namespace Km
open Go
variable {α β S R:Type}
def Wp (f:Nat→Option R) (Q:R→Prop):Prop:=∃r,Q r∧∃N,∀k,N≤k→f k=some r
theorem Wp.ret {r:R} {Q:R→Prop} (h:Q r):Wp (fun _=>some r) Q:=⟨r,h,0,fun _ _=>rfl⟩
theorem Wp.bind {f:Nat→Option α} {g:Nat→α→Option R} {P:α→Prop} {Q:R→Prop} (h:Wp f P) (h':∀x,P x→Wp (fun k=>g k x) Q):Wp (fun k=>(f k).bind (g k)) Q:=by
  obtain ⟨x,hx,N,hN⟩:=h
  obtain ⟨r,hr,M,hM⟩:=h' x hx
  exact ⟨r,hr,max N M,fun k hk=>by show (f k).bind (g k)=some r;rw [hN k (by omega)];exact hM k (by omega)⟩
theorem Wp.opt {o:Option α} {x:α} {g:Nat→α→Option R} {Q:R→Prop} (h:o=some x) (h':Wp (fun k=>g k x) Q):Wp (fun k=>o.bind (g k)) Q:=by
  subst h;exact h'
theorem Wp.mono {f:Nat→Option R} {P Q:R→Prop} (h:Wp f P) (h':∀x,P x→Q x):Wp f Q:=by
  obtain ⟨x,hx,N⟩:=h;exact ⟨x,h' x hx,N⟩
theorem Wp.step {f:Nat→Option R} {Q:R→Prop} (h:Wp (fun k=>f (k+1)) Q):Wp f Q:=by
  obtain ⟨x,hx,N,hN⟩:=h
  exact ⟨x,hx,N+1,fun k hk=>by
    have:f (k-1+1)=some x:=hN (k-1) (by omega)
    rwa [show k-1+1=k by omega] at this⟩
theorem Wp.ite {p:Prop} [Decidable p] {f g:Nat→Option R} {Q:R→Prop} (h1:p→Wp f Q) (h2:¬p→Wp g Q):Wp (fun k=>if p then f k else g k) Q:=by
  by_cases h:p
  ·simpa [h] using h1 h
  ·simpa [h] using h2 h
theorem Wp.bif {b:Bool} {f g:Nat→Option R} {Q:R→Prop} (h1:b=true→Wp f Q) (h2:b=false→Wp g Q):Wp (fun k=>bif b then f k else g k) Q:=by
  cases b
  ·exact h2 rfl
  ·exact h1 rfl
theorem Wp.dec {p:Prop} [Decidable p] {f g:Nat→Option R} {Q:R→Prop} (h1:p→Wp f Q) (h2:¬p→Wp g Q):Wp (fun k=>bif decide p then f k else g k) Q:=
  Wp.bif (fun h=>h1 (of_decide_eq_true h)) (fun h=>h2 (of_decide_eq_false h))
theorem Wp.not {b:Bool} {f g:Nat→Option R} {Q:R→Prop} (h1:b=false→Wp f Q) (h2:b=true→Wp g Q):Wp (fun k=>bif !b then f k else g k) Q:=
  Wp.bif (fun h=>h1 (by simpa using h)) (fun h=>h2 (by simpa using h))
theorem Wp.exists {f:Nat→Option R} {r:R} (h:Wp f (· =r)):∃k,f k=some r:=by
  obtain ⟨x,rfl,N,hN⟩:=h;exact ⟨N,hN N (Nat.le_refl _)⟩
theorem Wp.uniq {f:Nat→Option R} {P Q:R→Prop} (h:Wp f P) (h':Wp f Q):∃r,P r∧Q r∧Wp f (· =r):=by
  obtain ⟨x,hx,N,hN⟩:=h
  obtain ⟨y,hy,M,hM⟩:=h'
  have e:=(hN (max N M) (by omega)).symm.trans (hM (max N M) (by omega))
  cases e
  exact ⟨x,hx,hy,x,rfl,N,hN⟩
noncomputable def ans [Inhabited R] (f:Nat→Option R):R:=by
  classical exact if h:∃r,Wp f (· =r) then Classical.choose h else default
theorem Wp.ans_eq [Inhabited R] {f:Nat→Option R} {Q:R→Prop} (h:Wp f Q):Q (ans f)∧Wp f (· =ans f):=by
  obtain ⟨x,hx,N,hN⟩:=h
  have he:∃r,Wp f (· =r):=⟨x,x,rfl,N,hN⟩
  have hw:Wp f (· =ans f):=by unfold ans;rw [dif_pos he];exact Classical.choose_spec he
  obtain ⟨r,h1,h2,_⟩:=Wp.uniq ⟨x,hx,N,hN⟩ hw
  exact ⟨h2▸h1,hw⟩
theorem Wp.loop {n:Nat} {f:Nat→Nat→S→Option R} {Inv:Nat→S→Prop} {Q:R→Prop} (hstep:∀i s,i<n→Inv i s→(∀s',Inv (i+1) s'→Wp (fun k=>f k (i+1) s') Q)→Wp (fun k=>f k i s) Q)
    (hlast:∀s,Inv n s→Wp (fun k=>f k n s) Q):∀(d i:Nat) (s:S),i+d=n→Inv i s→Wp (fun k=>f k i s) Q
  | 0,i,s,h,hi=>by
    obtain rfl:i=n:=by omega
    exact hlast s hi
  | d+1,i,s,h,hi=>hstep i s (by omega) hi fun s' hs'=>Wp.loop hstep hlast d (i+1) s' (by omega) hs'
theorem aM_ {n:Int} (h1: -9223372036854775808≤n) (h2:n≤9223372036854775807):IntKind.wrap .i64 n=n:=w64 ⟨h1,h2⟩
theorem rW_ {xs:List α} {i:Nat} (h:i<xs.length):idx xs (i:Int)=some xs[i]:=zQ_ h
theorem BB_ {xs:List α} {i:Nat} (h:i<xs.length):xs[(i:Int).toNat]? =some xs[i]:=by rw [Int.toNat_natCast];exact List.getElem?_eq_getElem h
theorem hn_ (i:Nat):(i:Int)+1=((i+1:Nat):Int):=by omega
theorem af_ {p:Prop} [Decidable p] {x y:R}:(bif decide p then x else y)=if p then x else y:=by by_cases h:p<;>simp [h]
theorem aH_ {b:Bool} {x y:R}:(bif !b then x else y)=bif b then y else x:=by cases b<;>rfl
theorem ea_ {a b:Int} {x y:R}:(bif a==b then x else y)=if a=b then x else y:=by
  by_cases h:a=b
  ·simp [h]
  ·rw [if_neg h,show (a==b)=false by simpa using h];rfl
theorem d8_ {a b:Int} {x y:R}:(bif a !=b then x else y)=if a=b then y else x:=by
  by_cases h:a=b
  ·simp [h]
  ·rw [if_neg h,show (a !=b)=true by simpa using h];rfl
theorem s0_ {a b:ByteArray}:a.toList=b.toList↔a=b:=by
  constructor
  ·intro h
   rw [Go.ByteArray.toList_eq,Go.ByteArray.toList_eq] at h
   apply ByteArray.ext;apply Array.ext';exact h
  ·intro h;rw [h]
theorem C8_ {a b:ByteArray}:(a.toList==b.toList)=decide (a=b):=by
  by_cases h:a=b
  ·simp [h]
  ·simp only [h,decide_false,beq_eq_false_iff_ne,ne_eq];rw [s0_];exact h
theorem cB_ {a b:ByteArray} {x y:R}:(bif a.toList==b.toList then x else y)=if a=b then x else y:=by rw [C8_,af_]
theorem cZ_ {a b:Bool} {x y:R}:(bif a==b then x else y)=if a=b then x else y:=by cases a<;>cases b<;>rfl
theorem aA_ {pre t:List α} {x:α}:idx (pre++x::t) (pre.length:Int)=some x:=by rw [ju_];simp
theorem by_ {pre t:List α} {x:α}:(pre++x::t)[Int.toNat (pre.length:Int)]? =some x:=by simp
theorem set_mid {pre t:List α} {x y:α}:(pre++x::t).set (Int.toNat (pre.length:Int)) y=pre++y::t:=by simp
theorem a3_ {pre t:List α} {x:α}:((pre.length:Int)<((pre++x::t).length:Int)):=by simp;omega
theorem aI_ (pre t:List α) (x:α):pre++x::t=(pre++[x])++t:=by simp
theorem aW_ (pre:List α) (x:α):(pre.length:Int)+1=((pre++[x]).length:Int):=by simp
theorem k1_ {b:Nat} {n:Nat} (h:n*b≤140737488355328):room b (n:Int)=some n:=by
  unfold room
  have h':(n:Int)*(b:Int)≤140737488355328:=by
    have:((n*b:Nat):Int)≤((140737488355328:Nat):Int):=Int.ofNat_le.mpr h
    rw [Int.natCast_mul] at this;exact this
  rw [if_pos ⟨Int.natCast_nonneg n,h'⟩,Int.toNat_natCast]
theorem a2_ {a b:Int} (ha:0≤a) (hb:0<b):qN_ a b=some (a%b):=by rw [CG_ (by omega),Int.tmod_eq_emod_of_nonneg ha]
theorem wn_ {a b:Int} (ha:0≤a) (hb:0<b):Ad_ a b=some (a/b):=by rw [CJ_ (by omega),Int.tdiv_eq_ediv_of_nonneg ha]
end Km
