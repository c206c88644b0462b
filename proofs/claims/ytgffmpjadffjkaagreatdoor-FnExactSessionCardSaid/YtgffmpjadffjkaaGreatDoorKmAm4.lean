/- A part of the proof of FnExactSession: an abstract machine over the program, sound by its theorems. There is no condition. -/
import Derived.Test.YtgffmpjadffjkaaGreatDoorKmAm3
import Derived.KernelRfl
import Derived.Below
import Derived.ChangeArms
import Derived.IntWalk
import Derived.Laws.Strings
set_option linter.unusedVariables false
set_option linter.unusedSimpArgs false
namespace Km
open Go
variable {κ:Type} {Ty:κ→Type} {R α:Type}
theorem EF (f:List (List Nat)→Oper→List Nat):∀(os:List Oper) (acc:List (List Nat)),∃m,os.foldl (fun acc o=>acc++[f acc o]) acc=acc++m
  | [],acc=>⟨[],by simp⟩
  | o::os,acc=>by
    obtain ⟨m,h⟩:=EF f os (acc++[f acc o])
    exact ⟨f acc o::m,by simp [h]⟩
theorem KB {i:Nat}:∀{l:List Nat},i∈OX l↔i∈l
  | []=>Iff.rfl
  | j::l=>by
    simp only [OX]
    split
    ·rename_i h
     have hj:=(lB _ _).mp h
     rw [KB,List.mem_cons]
     exact ⟨.inr,fun h=>h.elim (fun e=>e▸hj) id⟩
    ·simp only [List.mem_cons,KB]
theorem RQ:∀(os:List Oper) (acc:List (List Nat)) (i e:Nat),acc.length≤i→e∈(os.foldl (fun acc o=>acc++[OX ((hU o).flatMap fun d=>d::acc.getD d [])]) acc).getD i []→
    ∃o,os[i-acc.length]? =some o∧∃d∈hU o,e=d∨e∈(os.foldl (fun acc o=>acc++[OX ((hU o).flatMap fun d=>d::acc.getD d [])]) acc).getD d []
  | [],acc,i,e,hi,h=>by
    simp only [List.foldl_nil] at h
    simp [List.getElem?_eq_none hi] at h
  | o::os,acc,i,e,hi,h=>by
    simp only [List.foldl_cons] at h⊢
    obtain ⟨m,hm⟩:=EF (fun acc o=>OX ((hU o).flatMap fun d=>d::acc.getD d [])) os (acc++[OX ((hU o).flatMap fun d=>d::acc.getD d [])])
    by_cases he:i=acc.length
    ·subst he
     refine ⟨o,by simp, ?_⟩
     rw [hm] at h
     simp only [List.append_assoc,List.getD_eq_getElem?_getD] at h
     rw [List.getElem?_append_right (Nat.le_refl _)] at h
     simp only [Nat.sub_self,List.cons_append,List.nil_append,List.getElem?_cons_zero,Option.getD_some,KB,List.mem_flatMap,List.mem_cons] at h
     obtain ⟨d,hd,h⟩:=h
     refine ⟨d,hd,h.imp id fun h=> ?_⟩
     rw [hm]
     by_cases hlt:d<acc.length
     ·simp only [List.append_assoc,List.getD_eq_getElem?_getD]
      rw [List.getElem?_append_left hlt];exact h
     ·rw [List.getElem?_eq_none (by omega)] at h;simp at h
    ·obtain ⟨o',h1,h2⟩:=RQ os _ i e (by simp;omega) h
     refine ⟨o', ?_,h2⟩
     simp only [List.length_append,List.length_cons,List.length_nil] at h1
     rw [show i-acc.length=(i-(acc.length+(0+1)))+1 by omega];simpa using h1
theorem GX {os:List Oper} {i e:Nat} (h:e∈(PK os).getD i []):∃o,os[i]? =some o∧∃d∈hU o,e=d∨e∈(PK os).getD d []:=by
  have:=RQ os [] i e (Nat.zero_le _) h
  exact this
theorem G7 {n:Nat}:∀{l:List Nat},O2 l n=true→∀i∈l,i<n
  | [],_,i,hi=>by simp at hi
  | j::l,h,i,hi=>by
    simp only [O2] at h
    split at h
    ·rename_i hb
     simp only [List.mem_cons] at hi
     rcases hi with rfl | hi
     ·exact Nat.blt_eq.mp hb
     ·exact G7 h i hi
    ·cases h
section
variable {P:Program} {C:Cod κ Ty} {T:TypeId→Option (TI κ Ty)} {Γ:FuncId→Option (bT κ Ty)} {objs objs':aJ κ Ty} {env env':Env κ Ty}
variable {Mut:Nat→Prop} {Lent:Org κ Ty} {w0 w w':World} {ρ ρ' ρ2:Nat→Loc} {a:Act} {tm:Array Value} {all:Array Oper}
theorem XS:∀{l:List (Nat×Nat)} {j i:Nat},cY_ l j i=true→(j,i)∈l
  | [],_,_,h=>by cases h
  | (a,b)::l,j,i,h=>by
    simp only [cY_] at h
    split at h
    ·rename_i e
     simp only [Bool.and_eq_true] at e
     rw [Nat.eq_of_beq_eq_true e.1,Nat.eq_of_beq_eq_true e.2];exact List.mem_cons_self ..
    ·exact List.mem_cons_of_mem _ (XS h)
def Chk (ex:List (Nat×Nat)) (all:Array Oper) (anc:List (List Nat)) (x y:Nat×Oper×AP):Prop:=cY_ ex x.1 y.1=true∨x.1∈anc.getD y.1 []∨(EB all x.2.1 y.2.1=true∧BY x.2.2 y.2.2=true)
def d0_ (ex:List (Nat×Nat)) (anc:List (List Nat)) (x y:Nat×Oper×AP):Prop:=cY_ ex x.1 y.1=true∨x.1∈anc.getD y.1 []∨BY x.2.2 y.2.2=true
theorem zJ {ex:List (Nat×Nat)} {anc:List (List Nat)} {i:Nat} {o:Oper} {f:AP}:∀{log:List (Nat×Oper×AP)},IC ex i (anc.getD i []) f log=true→∀x∈log,d0_ ex anc x (i,o,f)
  | [],_,x,hx=>by simp at hx
  | (j,p,g)::l,h,x,hx=>by
    simp only [IC] at h
    split at h
    ·rename_i hc
     simp only [List.mem_cons] at hx
     rcases hx with rfl | hx
     ·simp only [Bool.or_eq_true] at hc
      rcases hc with hc | hc | hc
      ·exact .inl hc
      ·exact .inr (.inl ((lB _ _).mp hc))
      ·exact .inr (.inr hc)
     ·exact zJ h x hx
    ·cases h
theorem XO {f:AP} (h:cU_ f=true):f.loud=false∧f.writes=[]:=by
  unfold cU_ at h
  split at h
  ·cases h
  ·rename_i hl;exact ⟨hl,isNil_iff.mp h⟩
theorem cg_ (l:List Nat):disj l []=true:=(CH _ _).mpr fun i _ h=>by simp at h
theorem eb_ {f g:AP} (hf:cU_ f=true) (hg:cU_ g=true):BY f g=true:=by
  obtain ⟨f1,f2⟩:=XO hf
  obtain ⟨g1,g2⟩:=XO hg
  unfold BY
  rw [f1,f2,g2]
  simp [cg_]
def aS_ (ex:List (Nat×Nat)) (all:Array Oper) (anc:List (List Nat)) (x y:Nat×Oper):Prop:=cY_ ex x.1 y.1=true∨x.1∈anc.getD y.1 []∨EB all x.2 y.2=true
theorem KD {ex:List (Nat×Nat)} {anc:List (List Nat)} {i:Nat} {o:Oper}:∀{l:List (Nat×Oper)},WV ex all anc i o l=true→∀x∈l,aS_ ex all anc (i,o) x
  | [],_,x,hx=>by simp at hx
  | (j,p)::l,h,x,hx=>by
    simp only [WV] at h
    split at h
    ·rename_i hc
     simp only [List.mem_cons] at hx
     rcases hx with rfl | hx
     ·simp only [Bool.or_eq_true] at hc
      rcases hc with hc | hc | hc
      ·exact .inl hc
      ·exact .inr (.inl ((lB _ _).mp hc))
      ·exact .inr (.inr hc)
     ·exact KD h x hx
    ·cases h
theorem GZ {ex:List (Nat×Nat)} {anc:List (List Nat)}:∀{l:List (Nat×Oper)},QY ex all anc l=true→l.Pairwise (aS_ ex all anc)∧∀x∈l,∀d∈hU x.2,d<x.1
  | [],_=>⟨.nil,fun x hx=>by simp at hx⟩
  | (i,o)::l,h=>by
    simp only [QY] at h
    split at h
    ·rename_i hc
     simp only [Bool.and_eq_true] at hc
     obtain ⟨h1,h2⟩:=GZ h
     refine ⟨.cons (KD hc.2) h1,fun x hx d hd=> ?_⟩
     simp only [List.mem_cons] at hx
     rcases hx with rfl | hx
     ·exact G7 hc.1 d hd
     ·exact h2 x hx d hd
    ·cases h
theorem XC {ex:List (Nat×Nat)} {anc:List (List Nat)}:∀{l:List (Nat×Oper×AP)},l.Pairwise (d0_ ex anc)→(l.map fun x=>(x.1,x.2.1)).Pairwise (aS_ ex all anc)→l.Pairwise (Chk ex all anc)
  | [],_,_=> .nil
  | x::l,h,g=>by
    obtain ⟨h1,h2⟩:=List.pairwise_cons.mp h
    simp only [List.map_cons] at g
    obtain ⟨g1,g2⟩:=List.pairwise_cons.mp g
    refine .cons (fun y hy=> ?_) (XC h2 g2)
    have a:=h1 y hy
    have b:=g1 _ (List.mem_map_of_mem hy)
    rcases a with a | a | a
    ·exact .inl a
    ·exact .inr (.inl a)
    ·rcases b with b | b | b
     ·exact .inl b
     ·exact .inr (.inl b)
     ·exact .inr (.inr ⟨b,a⟩)
theorem num_mem:∀{os:List Oper} {n i:Nat} {o:Oper},(i,o)∈num n os↔n≤i∧os[i-n]? =some o
  | [],n,i,o=>by simp [num]
  | p::os,n,i,o=>by
    simp only [num,List.mem_cons,Prod.mk.injEq]
    rw [num_mem]
    constructor
    ·rintro (⟨rfl,rfl⟩ | ⟨h1,h2⟩)
     ·simp
     ·refine ⟨by omega, ?_⟩
      rw [show i-n=(i-(n+1))+1 by omega];simpa using h2
    ·rintro ⟨h1,h2⟩
     by_cases e:i=n
     ·subst e;simp at h2;exact .inl ⟨rfl,h2.symm⟩
     ·refine .inr ⟨by omega, ?_⟩
      rw [show i-n=(i-(n+1))+1 by omega] at h2;simpa using h2
theorem M9:∀(os:List Oper) (n:Nat),(num n os).Pairwise fun x y=>x.1<y.1
  | [],_=> .nil
  | o::os,n=> .cons (fun x hx=>by
    obtain ⟨i,o'⟩:=x
    have:=(num_mem.mp hx).1
    exact this) (M9 os (n+1))
theorem C9:∀(os:List Oper) (n:Nat),(num n os).length=os.length
  | [],n=>rfl
  | o::os,n=>by simp [num,C9 os]
theorem ZV {o:Oper} {K:Env κ Ty→Option R} {r:R} (h:gn_ all o env K=some r):∃env1,K env1=some r∧∀t,look env1 t=look env t:=by
  unfold gn_ at h
  split at h
  ·exact ⟨env,h,fun _=>rfl⟩
  ·split at h
   ·exact ⟨env,h,fun _=>rfl⟩
   ·rename_i d hd
    split at h
    ·rename_i b hb
     refine ⟨_,BT h,fun t=> ?_⟩
     rw [m5]
     split
     ·rename_i e;rw [e,hb]
     ·rfl
    ·exact ⟨env,h,fun _=>rfl⟩
theorem XI {ex:List (Nat×Nat)} {anc:List (List Nat)} {K:Env κ Ty→aJ κ Ty→Option R} {r:R}:∀{os:List (Nat×Oper)} {log logN:List (Nat×Oper×AP)} {env:Env κ Ty} {objs:aJ κ Ty},(∀x∈log,x∈logN∨cU_ x.2.2=true)→PF C T ex Γ all anc os log logN env objs K=some r→
    ∃l e2 o2 e3,Tr C T Γ all os env objs l e2 o2∧K e3 o2=some r∧(∀t,look e3 t=look e2 t)∧l.Pairwise (d0_ ex anc)∧(∀x∈log,∀y∈l,d0_ ex anc x y)
  | [],log,logN,env,objs,_,h=>⟨[],env,objs,env, .nil,h,fun _=>rfl, .nil,fun x _ y hy=>by simp at hy⟩
  | (i,o)::os,log,logN,env,objs,hN,h=>by
    simp only [PF] at h
    obtain ⟨env0,h,g0⟩:=ZV h
    have fin:∀(logN':List (Nat×Oper×AP)),(∀x∈((i,o,fE C T Γ all o env0 objs)::log),x∈logN'∨cU_ x.2.2=true)→O2 (fE C T Γ all o env0 objs).reads objs.length=true→(∀x∈log,d0_ ex anc x (i,o,fE C T Γ all o env0 objs))→
     (xY C T Γ all o env0 objs fun env' objs'=>PF C T ex Γ all anc os ((i,o,fE C T Γ all o env0 objs)::log) logN' env' objs' K)=some r→
     ∃l e2 o2 e3,Tr C T Γ all ((i,o)::os) env objs l e2 o2∧K e3 o2=some r∧(∀t,look e3 t=look e2 t)∧l.Pairwise (d0_ ex anc)∧(∀x∈log,∀y∈l,d0_ ex anc x y):=by
      intro logN' hN' c2 c3 h
      obtain ⟨v,o1,env1,d1,d2,d3⟩:=XX h
      obtain ⟨l,e2,o2,e3,t1,t2,t3,t4,t5⟩:=XI hN' d2
      obtain ⟨e2',s1,s2⟩:=t1.look (env':=put o env0 v) (fun t=>(d3 t).symm)
      have tr0:Tr C T Γ all ((i,o)::os) env0 objs _ e2' o2:= .cons d1 (G7 c2) s1
      obtain ⟨e2'',u1,u2⟩:=tr0.look (env':=env) (fun t=>(g0 t).symm)
      refine ⟨_,e2'',o2,e3,u1,t2,fun t=>(t3 t).trans ((s2 t).symm.trans (u2 t).symm), .cons (fun y hy=>t5 _ (List.mem_cons_self ..) y hy) t4,fun x hx y hy=> ?_⟩
      simp only [List.mem_cons] at hy
      rcases hy with rfl | hy
      ·exact c3 x hx
      ·exact t5 x (List.mem_cons_of_mem _ hx) y hy
    replace h:(match cU_ (fE C T Γ all o env0 objs) with
      | true=>(match O2 (fE C T Γ all o env0 objs).reads objs.length&&IC ex i (anc.getD i []) (fE C T Γ all o env0 objs) logN with
        | true=>xY C T Γ all o env0 objs fun env' objs'=>PF C T ex Γ all anc os ((i,o,fE C T Γ all o env0 objs)::log) logN env' objs' K
        | false=>none)
      | false=>(match O2 (fE C T Γ all o env0 objs).reads objs.length&&IC ex i (anc.getD i []) (fE C T Γ all o env0 objs) log with
        | true=>xY C T Γ all o env0 objs fun env' objs'=>PF C T ex Γ all anc os ((i,o,fE C T Γ all o env0 objs)::log) ((i,o,fE C T Γ all o env0 objs)::logN) env' objs' K
        | false=>none))=some r:=h
    split at h
    ·rename_i htm
     split at h
     ·rename_i hc
      simp only [Bool.and_eq_true] at hc
      refine fin logN (fun x hx=> ?_) hc.1 (fun x hx=> ?_) h
      ·simp only [List.mem_cons] at hx
       rcases hx with rfl | hx
       ·exact .inr htm
       ·exact hN x hx
      ·rcases hN x hx with h1 | h1
       ·exact zJ hc.2 x h1
       ·exact .inr (.inr (eb_ h1 htm))
     ·cases h
    ·rename_i htm
     split at h
     ·rename_i hc
      simp only [Bool.and_eq_true] at hc
      refine fin _ (fun x hx=> ?_) hc.1 (fun x hx=>zJ hc.2 x hx) h
      simp only [List.mem_cons] at hx⊢
      rcases hx with rfl | hx
      ·exact .inl (.inl rfl)
      ·exact (hN x hx).imp .inr id
     ·cases h
theorem Tr.heads {L:List (Nat×Oper)} {l:List (Nat×Oper×AP)} {e2:Env κ Ty} {o2:aJ κ Ty} (h:Tr C T Γ all L env objs l e2 o2):l.map (fun x=>(x.1,x.2.1))=L:=by
  induction h with
  | nil=>rfl
  | cons hd hr ht ih=>simp [ih]
def EZ (T:TypeId→Option (TI κ Ty)) (o:Oper) (env:Env κ Ty):List Nat:=o.op.operands.toList.flatMap fun x=>cR (iO T env 0 x)
theorem RV:∀{xs:List Operand} {ts:List TypeId},∀i∈(jL T env xs ts).flatMap cR,i∈xs.flatMap fun x=>cR (iO T env 0 x)
  | [],ts,i,hi=>by simp [jL] at hi
  | x::xs,[],i,hi=>by simp [jL] at hi
  | x::xs,t::ts,i,hi=>by
    simp only [jL,List.flatMap_cons,List.mem_append] at hi⊢
    exact hi.imp (fun h=>by rw [xH 0 t];exact h) (RV i)
theorem MC {o:Oper} (h:(a8 C T Γ o env objs).loud=false):∀i∈(a8 C T Γ o env objs).reads,i∈EZ T o env:=by
  intro i hi
  obtain ⟨dst,op,type,pos,after,guard⟩:=o
  simp only [EZ]
  cases op with
  | buildSlice t n ps=>
    simp only [a8] at hi h
    split at h
    ·rename_i hnil;rw [hnil] at hi;simp at hi
    ·split at h
     ·rename_i hk;simp [hk] at hi
     ·cases h
  | load t a=>simpa [a8,fF,Op.operands] using hi
  | convert s d x=>
    simp only [a8,fF] at hi h
    rw [xH _ 0] at hi
    split at hi
    ·split at hi
     ·simp at hi
     ·simpa [Op.operands] using hi
    ·simp at hi
  | nilCheck x=>
    simp only [a8,fF] at hi
    rw [xH _ 0] at hi
    simpa [Op.operands] using hi
  | indexAddr t x y=>
    simp only [a8,fF] at hi
    rw [xH _ 0] at hi
    simp only [Op.operands];simp;exact .inl hi
  | slice t x lo hi' mx=>
    simp only [a8,fF] at hi
    rw [xH _ 0] at hi
    simp only [Op.operands];simp;exact .inl hi
  | fieldAddr s x f=>simpa [a8,fF,Op.operands] using hi
  | lookup t m x ok=>
    cases ok with
    | true=>simp [a8] at hi
    | false=>
    simp only [a8,fF] at hi h
    split at hi
    ·rename_i ti ht
     simp only [ht] at h
     split at hi
     ·rename_i kt et k v hs
      simp only [hs] at h
      split at hi
      ·rename_i te hte
       simp only [hte] at h
       split at hi
       ·simp only [Op.operands];simp;exact .inl hi
       ·rename_i hz
        split at h
        ·rename_i z hz';exact absurd hz' (hz z)
        ·cases h
      ·simp at hi
     ·simp at hi
    ·simp at hi
  | call c=>
    have key:∀i∈(jL T env c.args.toList c.argTypes.toList).flatMap cR,i∈(Op.call c).operands.toList.flatMap fun x=>cR (iO T env 0 x):=fun i hi=>by
      have:=RV i hi
      simp only [List.mem_flatMap] at this⊢
      obtain ⟨x,hx,h⟩:=this
      exact ⟨x,by simp only [Op.operands,Call.operands];simp;exact .inr (by simpa using hx),h⟩
    simp only [a8] at hi h
    split at hi
    ·split at hi
     ·exact key i hi
     ·exact key i hi
     ·simp_all
    ·split at hi
     ·split at hi
      ·split at hi
       ·exact key i hi
       ·simp_all
      ·simp at hi
     ·simp at hi
    ·simp at hi
  | _=>simp_all [a8]
theorem V3 {o:Oper} (h:(fE C T Γ all o env objs).loud=false):∀i∈(fE C T Γ all o env objs).reads,i∈EZ T o env:=by
  unfold fE at h⊢
  split
  ·rename_i hg;rw [hg] at h;exact MC h
  ·rename_i j want hg
   rw [hg] at h;dsimp only at h
   split
   ·intro i hi;simp at hi
   ·rename_i d hd
    rw [hd] at h;dsimp only at h
    split
    ·rename_i b hb
     rw [hb] at h;dsimp only at h
     split
     ·rename_i he;rw [he] at h;exact MC h
     ·intro i hi;simp at hi
    ·intro i hi;simp at hi
    ·intro i hi;simp at hi
theorem Tr.foot_front {i:Nat} {oi:Oper} {f:AP} {L2:List (Nat×Oper)} {l2:List (Nat×Oper×AP)} {e2:Env κ Ty} {o2:aJ κ Ty}:∀{L1:List (Nat×Oper)} {l1:List (Nat×Oper×AP)} {env:Env κ Ty} {objs:aJ κ Ty},
    L1.length=l1.length→Tr C T Γ all (L1++(i,oi)::L2) env objs (l1++(i,oi,f)::l2) e2 o2→(∀x∈l1,EB all x.2.1 oi=true)→
    (f.loud=false→∀id∈f.reads,id∈EZ T oi env)∧∃objs1:aJ κ Ty,(∀id∈f.reads,id<objs1.length)∧((∀x∈l1,x.2.2.loud=false)→QuietOk Γ→objs1=objs)
  | [],[],env,objs,_,h,_=>by
    cases h with
    | cons hd hr ht=>exact ⟨fun hl=>V3 hl,objs,hr,fun _ _=>rfl⟩
  | [],_::_,_,_,hl,_,_=>by simp at hl
  | _::_,[],_,_,hl,_,_=>by simp at hl
  | (j,oj)::L1,x::l1,env,objs,hl,h,hc=>by
    simp only [List.cons_append] at h
    cases h with
    | cons hd hr ht=>
      rename_i vj oa
      obtain ⟨h1,o1,h2,h3⟩:=Tr.foot_front (by simpa using hl) ht (fun x hx=>hc x (List.mem_cons_of_mem _ hx))
      obtain ⟨p1,p2,p3⟩:=JM (hc _ (List.mem_cons_self ..))
      refine ⟨fun hq id hid=> ?_,o1,h2,fun ha hQ=> ?_⟩
      ·have:=h1 hq id hid
       have ha:AgreeO all oi env (put oj env vj):=KI p1
       simp only [EZ,List.mem_flatMap] at this⊢
       obtain ⟨x,hx,h⟩:=this
       exact ⟨x,hx,by rw [xJ ha.ops 0 hx] at h;exact h⟩
      ·have:=h3 (fun x hx=>ha x (List.mem_cons_of_mem _ hx)) hQ
       rw [this]
       exact ((D2 hQ hd).2 (ha _ (List.mem_cons_self ..))).1
theorem ai_ (HT:TOk P C T) (S:SRel C Mut Lent w0 ρ env objs a.tmps w) (o:Oper):∀i∈EZ T o env,i<objs.length:=by
  intro i hi
  simp only [EZ,List.mem_flatMap] at hi
  obtain ⟨x,hx,h⟩:=hi
  exact zN (aT HT S 0 x) i h
theorem Z7 (hdep:∀(k:Nat) (o:Oper),all[k]? =some o→∀d∈hU o,d<k) {listed:Array Bool} (hls:listed.size=all.size) (hr:Region.ready .any all listed=[]):∀(n k:Nat) (o:Oper),k<n→all[k]? =some o→listed.getD k true=false→False:=by
  intro n
  induction n with
  | zero=>intro k o hk;omega
  | succ n ih=>
    intro k o hk ho hl
    have:k∈Region.ready .any all listed:=mem_ready.mpr ⟨hl,o,ho,fun e he hb=> ?_⟩
    ·rw [hr] at this;simp at this
    ·have hdm:e.on∈hU o:=by
       simp only [hU,List.mem_map,List.mem_filter]
       exact ⟨e,⟨by simpa using he,hb⟩,rfl⟩
     have hlt:=hdep k o ho _ hdm
     have hi:=(Array.getElem?_eq_some_iff.mp ho).1
     by_cases hu:listed.getD e.on false=true
     ·exact hu
     ·exfalso
      have hsz':e.on<listed.size:=by omega
      have hu':listed.getD e.on true=false:=by
        simp only [Array.getD,hsz',dite_true] at hu⊢
        simpa using hu
      exact ih e.on all[e.on] (by omega) (Array.getElem?_eq_getElem (by omega)) hu'
theorem zB {l:Array Bool} {i k:Nat} (h:l.getD k true=true):(l.setIfInBounds i true).getD k true=true:=by
  by_cases hk:k=i
  ·subst hk
   simp only [Array.getD]
   split
   ·simp
   ·rfl
  ·rw [getD_set_ne true (Ne.symm hk)];exact h
structure fB_ (C:Cod κ Ty) (T:TypeId→Option (TI κ Ty)) (Γ:FuncId→Option (bT κ Ty)) (all:Array Oper) (ex:List (Nat×Nat)) (L:List (Nat×Oper)) (l:List (Nat×Oper×AP)) (listed:Array Bool) (env:Env κ Ty) (objs:aJ κ Ty) (e2:Env κ Ty) (o2:aJ κ Ty):Prop where
  tr:∃e2',Tr C T Γ all L env objs l e2' o2∧∀t,look e2' t=look e2 t
  chk:l.Pairwise (Chk ex all (PK all.toList))
  nodup:(L.map (·.1)).Nodup
  mem:∀i o,(i,o)∈L↔all[i]? =some o∧listed.getD i true=false
theorem X5 (H:Known P C T Γ) (hQ:QuietOk Γ) {ex:List (Nat×Nat)} {e2:Env κ Ty} {o2:aJ κ Ty} (hdep:∀(k:Nat) (o:Oper),all[k]? =some o→∀d∈hU o,d<k) {L:List (Nat×Oper)} {l:List (Nat×Oper×AP)} {listed:Array Bool}
    (hS:∀(o:Oper),∀i∈EZ T o env,i<objs.length) (F:fB_ C T Γ all ex L l listed env objs e2 o2) (hls:listed.size=all.size) (hcl:∀k o,all[k]? =some o→listed.getD k false=true→∀d∈hU o,listed.getD d false=true)
    {i:Nat} {o:Oper} (h0:listed.getD i true=false) (ho:all[i]? =some o) (hall:∀e∈o.after,Region.binds .any e=true→listed.getD e.on false=true) (hex:∀a b,(a,b)∈ex→b=i→listed.getD a true=true):
    ∃v o1 env1 L' l',NP C T Γ all o env objs v o1∧xY C T Γ all o env objs (fun e b=>some (e,b))=some (env1,o1)∧fB_ C T Γ all ex L' l' (listed.setIfInBounds i true) env1 o1 e2 o2∧L'.length+1=L.length∧(∀x∈l',x∈l)∧∀x∈L',x.1≠i:=by
  obtain ⟨⟨e2',ht,he⟩,hp,hs,hL⟩:=F
  have hmem:=(hL i o).mpr ⟨ho,h0⟩
  obtain ⟨L1,L2,rfl⟩:=List.append_of_mem hmem
  have hh:=ht.heads
  obtain ⟨l1,x,l2,rfl,hl1,hx⟩:∃l1 x l2,l=l1++x::l2∧L1.length=l1.length∧(x.1,x.2.1)=(i,o):=by
    have hlen:l.length=(L1++(i,o)::L2).length:=by rw [←hh];simp
    refine ⟨l.take L1.length,l[L1.length]'(by rw [hlen];simp),l.drop (L1.length+1),by simp,by simp [hlen], ?_⟩
    have:(l.map fun x=>(x.1,x.2.1))[L1.length]? =some (i,o):=by rw [hh];simp
    simp only [List.getElem?_map,Option.map_eq_some_iff] at this
    obtain ⟨y,h1,h2⟩:=this
    rw [List.getElem?_eq_getElem (by rw [hlen];simp)] at h1
    cases h1;exact h2
  obtain ⟨i',o',f⟩:=x
  simp only [Prod.mk.injEq] at hx
  obtain ⟨rfl,rfl⟩:=hx
  have hanc:∀n k,k<n→listed.getD k false=true→∀e∈(PK all.toList).getD k [],listed.getD e false=true:=by
    intro n
    induction n with
    | zero=>intro k hk;omega
    | succ n ihn=>
      intro k hk hlk e hek
      obtain ⟨p,hp1,d,hd1,hd2⟩:=GX hek
      have hp1:all[k]? =some p:=by simpa using hp1
      have hdl:=hcl k p hp1 hlk d hd1
      rcases hd2 with rfl | hd2
      ·exact hdl
      ·exact ihn d (by have:=hdep k p hp1 d hd1;omega) hdl e hd2
  have hfree:∀x∈l1,EB all x.2.1 o'=true∧BY x.2.2 f=true:=by
    intro x hx
    have hxm:(x.1,x.2.1)∈L1++(i',o')::L2:=by rw [←hh];exact List.mem_map.mpr ⟨x,by simp [hx],rfl⟩
    have hxu:=((hL _ _).mp hxm)
    rcases (List.pairwise_append.mp hp).2.2 x hx _ (List.mem_cons_self ..) with h | h | h
    ·exfalso
     have h3:=hex x.1 i' (XS h) rfl
     rw [hxu.2] at h3;cases h3
    ·exfalso
     obtain ⟨p,hp1,d,hd1,hd2⟩:=GX h
     have hp1:all[i']? =some p:=by simpa using hp1
     rw [ho] at hp1;cases hp1
     have hdl:listed.getD d false=true:=by
       simp only [hU,List.mem_map,List.mem_filter] at hd1
       obtain ⟨e,⟨e1,e2⟩,rfl⟩:=hd1
       exact hall e (by simpa using e1) e2
     have hxl:listed.getD x.1 false=true:=by
       rcases hd2 with hd2 | hd2
       ·rw [hd2];exact hdl
       ·exact hanc (d+1) d (by omega) hdl _ hd2
     have hxs:x.1<listed.size:=by rw [hls];exact (Array.getElem?_eq_some_iff.mp hxu.1).1
     have:=hxu.2
     simp only [Array.getD,hxs,dite_true] at this hxl
     rw [this] at hxl;cases hxl
    ·exact h
  obtain ⟨q1,oq,q2,q3⟩:=ht.foot_front hl1 (fun x hx=>(hfree x hx).1)
  have hreads:∀id∈f.reads,id<objs.length:=by
    cases hlf:f.loud with
    | false=>exact fun id hid=>hS o' id (q1 hlf id hid)
    | true=>
      have:=q3 (fun x hx=>by
        rcases (MH (hfree x hx).2).1 with h | h
        ·exact h
        ·rw [hlf] at h;cases h) hQ
      rw [this] at q2;exact q2
  obtain ⟨v,o1,e3,r1,r2,r3,r4⟩:=ht.front hQ hl1 hfree hreads
  obtain ⟨env1,s1,s2⟩:=ZG r1
  have hsub:(L1++L2).Sublist (L1++(i',o')::L2):=List.Sublist.append_left (List.sublist_cons_self _ _) _
  have hsubl:(l1++l2).Sublist (l1++(i',o',f)::l2):=List.Sublist.append_left (List.sublist_cons_self _ _) _
  have hne:∀x∈L1++L2,x.1≠i':=by
    intro x hx
    simp only [List.map_append,List.map_cons] at hs
    have hpw:=List.nodup_append.mp hs
    simp only [List.mem_append] at hx
    rcases hx with hx | hx
    ·exact hpw.2.2 x.1 (List.mem_map_of_mem hx) i' (List.mem_cons_self ..)
    ·have:=(List.nodup_cons.mp hpw.2.1).1
     rintro e
     exact this (e▸List.mem_map_of_mem hx)
  have hil:i'<listed.size:=by rw [hls];exact (Array.getElem?_eq_some_iff.mp ho).1
  obtain ⟨e4,t1,t2⟩:=r3.look (env':=env1) s1
  refine ⟨v,o1,env1,L1++L2,l1++l2,r1,s2,⟨⟨e4,t1,fun t=>(t2 t).trans ((r4 t).trans (he t))⟩,hp.sublist hsubl,hs.sublist (hsub.map _),fun k p=> ?_⟩,by simp;omega,fun x hx=>hsubl.subset hx,hne⟩
  constructor
  ·intro hm
   obtain ⟨m1,m2⟩:=(hL k p).mp (hsub.subset hm)
   exact ⟨m1,by rw [getD_set_ne true (Ne.symm (hne _ hm))];exact m2⟩
  ·rintro ⟨m1,m2⟩
   have hki:k≠i':=by
     rintro rfl
     simp [Array.getD,hil] at m2
   rw [getD_set_ne true (Ne.symm hki)] at m2
   have:=(hL k p).mpr ⟨m1,m2⟩
   simp only [List.mem_append,List.mem_cons,Prod.mk.injEq] at this⊢
   rcases this with h | ⟨h,_⟩ | h
   ·exact .inl h
   ·exact absurd h hki
   ·exact .inr h
theorem H2 {listed:Array Bool} {i:Nat} {o:Oper} (ho:all[i]? =some o) (hall:∀e∈o.after,Region.binds .any e=true→listed.getD e.on false=true) (hcl:∀k o,all[k]? =some o→listed.getD k false=true→∀d∈hU o,listed.getD d false=true):
    ∀k o,all[k]? =some o→(listed.setIfInBounds i true).getD k false=true→∀d∈hU o,(listed.setIfInBounds i true).getD d false=true:=by
  intro k p hk hlk d hdd
  by_cases hki:k=i
  ·subst hki
   rw [ho] at hk;cases hk
   simp only [hU,List.mem_map,List.mem_filter] at hdd
   obtain ⟨e,⟨e1,e2⟩,rfl⟩:=hdd
   exact getD_set_true (hall e (by simpa using e1) e2)
  ·rw [getD_set_ne false (Ne.symm hki)] at hlk
   exact getD_set_true (hcl k p hk hlk d hdd)
theorem elemN_mem':∀{l:List Nat} {i:Nat},rG i l=true↔i∈l:=by
  intro l
  induction l with
  | nil=>intro i;simp [rG]
  | cons j l ih=>
    intro i
    simp only [rG,List.mem_cons]
    split
    ·rename_i e
     have:=Nat.eq_of_beq_eq_true e
     simp [this]
    ·rename_i e
     rw [ih]
     constructor
     ·exact .inr
     ·rintro (h | h)
      ·subst h;simp at e
      ·exact h
theorem anyN_iff {p:Nat→Bool}:∀{l:List Nat},dK_ p l=true↔∃i∈l,p i=true:=by
  intro l
  induction l with
  | nil=>simp [dK_]
  | cons j l ih=>
    simp only [dK_]
    split
    ·rename_i e;simp [e]
    ·rename_i e;rw [ih];simp [e]
theorem leastN_iff {anc:List (List Nat)} {R:List Nat} {i:Nat}:D8 anc R i=true↔∀j∈R,j∉anc.getD i []:=by
  unfold D8
  rw [Bool.not_eq_true',←Bool.not_eq_true,anyN_iff]
  constructor
  ·intro h j hj hm;exact h ⟨j,hj,elemN_mem'.mpr hm⟩
  ·rintro h ⟨j,hj,hm⟩;exact h j hj (elemN_mem'.mp hm)
theorem A8:∀{l:List Nat} {i j:Nat},l.Nodup→(j∈ZN i l↔j∈l∧j≠i)
  | [],i,j,_=>by simp [ZN]
  | x::l,i,j,h=>by
    obtain ⟨h1,h2⟩:=List.nodup_cons.mp h
    simp only [ZN]
    split
    ·rename_i e
     have:=Nat.eq_of_beq_eq_true e
     subst this
     simp only [List.mem_cons]
     constructor
     ·intro hj;exact ⟨.inr hj,fun e=>h1 (e▸hj)⟩
     ·rintro ⟨rfl | hj,hn⟩
      ·exact absurd rfl hn
      ·exact hj
    ·rename_i e
     have hx:x≠i:=fun he=>by subst he;simp at e
     simp only [List.mem_cons,A8 h2]
     constructor
     ·rintro (rfl | ⟨hj,hn⟩)
      ·exact ⟨.inl rfl,hx⟩
      ·exact ⟨.inr hj,hn⟩
     ·rintro ⟨rfl | hj,hn⟩
      ·exact .inl rfl
      ·exact .inr ⟨hj,hn⟩
theorem xQ:∀{l:List Nat} {i:Nat},l.Nodup→(ZN i l).Nodup
  | [],i,_=> .nil
  | x::l,i,h=>by
    obtain ⟨h1,h2⟩:=List.nodup_cons.mp h
    simp only [ZN]
    split
    ·exact h2
    ·exact List.nodup_cons.mpr ⟨fun hm=>h1 ((A8 h2).mp hm).1,xQ h2⟩
theorem GG {anc:List (List Nat)}:∀{n:Nat} {R τ:List Nat},R.Nodup→τ∈UH anc n R→∀i∈τ,i∈R
  | 0,R,τ,_,h,i,hi=>by
    simp only [UH,List.mem_singleton] at h;subst h;simp at hi
  | n+1,R,τ,hR,h,i,hi=>by
    simp only [UH,List.mem_flatMap] at h
    obtain ⟨j,hj,h⟩:=h
    split at h
    ·obtain ⟨τ',h',rfl⟩:=List.mem_map.mp h
     rcases List.mem_cons.mp hi with rfl | hi
     ·exact hj
     ·exact ((A8 hR).mp (GG (xQ hR) h' i hi)).1
    ·simp at h
theorem PP {anc:List (List Nat)} {n:Nat} {R τ:List Nat} {i:Nat} (hi:i∈R) (hl:D8 anc R i=true) (h:τ∈UH anc n (ZN i R)):i::τ∈UH anc (n+1) R:=by
  simp only [UH,List.mem_flatMap]
  exact ⟨i,hi,by rw [hl];exact List.mem_map.mpr ⟨τ,h,rfl⟩⟩
theorem RY {anc:List (List Nat)} {n:Nat} {R:List Nat} {i:Nat} (h:live anc (n+1) R=true) (hi:i∈R) (hl:D8 anc R i=true):live anc n (ZN i R)=true:=by
  simp only [live] at h
  split at h
  ·split at h
   ·cases h
   ·rename_i e
    have e:=Bool.not_eq_true _▸e
    by_cases hv:live anc n (ZN i R)=true
    ·exact hv
    ·exfalso
     apply e
     refine anyN_iff.mpr ⟨i,hi, ?_⟩
     rw [hl];simpa using hv
  ·cases h
theorem vU {anc:List (List Nat)}:∀{n:Nat} {R:List Nat},live anc n R=true→∃τ,τ∈UH anc n R
  | 0,R,h=>⟨[],by simp [UH]⟩
  | n+1,R,h=>by
    have h':=h
    simp only [live] at h
    split at h
    ·rename_i e
     obtain ⟨i,hi,hl⟩:=anyN_iff.mp e
     obtain ⟨τ,ht⟩:=vU (RY h' hi hl)
     exact ⟨_,PP hi hl ht⟩
    ·cases h
theorem bd_ {anc:List (List Nat)} {R:List Nat} (h:live anc 0 R=true):R=[]:=by
  cases R with
  | nil=>rfl
  | cons=>cases h
theorem zP:∀{d t:List Nat} {a b:Nat},(a,b)∈oE (d++t)→(b∈d)∨(a∈d∧b∈t)∨(a,b)∈oE t
  | [],t,a,b,h=> .inr (.inr h)
  | x::d,t,a,b,h=>by
    simp only [List.cons_append,oE,List.mem_append,List.mem_map] at h
    rcases h with ⟨c,hc,e⟩ | h
    ·cases e
     rcases hc with hc | hc
     ·exact .inl (List.mem_cons_of_mem _ hc)
     ·exact .inr (.inl ⟨List.mem_cons_self ..,hc⟩)
    ·rcases zP h with h | ⟨h1,h2⟩ | h
     ·exact .inl (List.mem_cons_of_mem _ h)
     ·exact .inr (.inl ⟨List.mem_cons_of_mem _ h1,h2⟩)
     ·exact .inr (.inr h)
theorem zR:∀{t:List Nat} {a b:Nat},(a,b)∈oE t→b∈t.tail
  | [],_,_,h=>by cases h
  | x::t,a,b,h=>by
    simp only [oE,List.mem_append,List.mem_map] at h
    rcases h with ⟨c,hc,e⟩ | h
    ·cases e;exact hc
    ·exact List.mem_of_mem_tail (zR h)
theorem MA {listed:Array Bool} (hdep:∀(k:Nat) (o:Oper),all[k]? =some o→∀d∈hU o,d<k) (hcl:∀k o,all[k]? =some o→listed.getD k false=true→∀d∈hU o,listed.getD d false=true):
    ∀n k,k<n→listed.getD k false=true→∀e∈(PK all.toList).getD k [],listed.getD e false=true:=by
  intro n
  induction n with
  | zero=>intro k hk;omega
  | succ n ihn=>
    intro k hk hlk e hek
    obtain ⟨p,hp1,d,hd1,hd2⟩:=GX hek
    have hp1:all[k]? =some p:=by simpa using hp1
    have hdl:=hcl k p hp1 hlk d hd1
    rcases hd2 with rfl | hd2
    ·exact hdl
    ·exact ihn d (by have:=hdep k p hp1 d hd1;omega) hdl e hd2
theorem Y0 [GlobOk C Mut Lent w0] (H:Known P C T Γ) (hQ:QuietOk Γ) {nt:Nat} {Q:Exit→Act→World→Prop} (hd:∀o∈all.toList,∀d,o.dst=some d→d<nt)
    (hdep:∀(k:Nat) (o:Oper),all[k]? =some o→∀d∈hU o,d<k) (df:List Deferred):
    ∀(fuel n:Nat) (R dn:List Nat) (listed:Array Bool) (env:Env κ Ty) (objs:aJ κ Ty) (ρ:Nat→Loc) (a:Act) (w:World),
     live (PK all.toList) n R=true→R.Nodup→(∀i∈R,i<all.size∧listed.getD i true=false)→(∀i∈dn,listed.getD i true=true)→
     (∀τ∈UH (PK all.toList) n R,∃L l e2 o2,L.length≤fuel∧fB_ C T Γ all (oE (dn++τ)) L l listed env objs e2 o2∧
       ∀ρ' a' w' env',(∀t,look env' t=look e2 t)→SRel C Mut Lent w0 ρ' env' o2 a'.tmps w'→a'.tmps.size=nt→a'.defers=df→Q .normal a' w')→
     SRel C Mut Lent w0 ρ env objs a.tmps w→a.tmps.size=nt→a.defers=df→
     listed.size=all.size→(∀k o,all[k]? =some o→listed.getD k false=true→∀d∈hU o,listed.getD d false=true)→
     wpAny P .any all Q fuel listed a w:=by
  intro fuel
  induction fuel with
  | zero=>
    intro n R dn listed env objs ρ a w hlv hRn hR hdn F S hsz hdf hls hcl
    obtain ⟨τ,hτ⟩:=vU hlv
    obtain ⟨L,l,e2,o2,hlen,⟨⟨e2',ht,he⟩,hp,hs,hL⟩,hn⟩:=F τ hτ
    obtain rfl:L=[]:=List.length_eq_zero_iff.mp (by omega)
    cases ht
    refine ⟨?_,hn ρ a w env he S hsz hdf⟩
    rw [List.eq_nil_iff_forall_not_mem]
    intro j hj
    obtain ⟨h0,o,ho,_⟩:=mem_ready.mp hj
    have:=(hL j o).mpr ⟨ho,h0⟩
    simp at this
  | succ fuel ih=>
    intro n R dn listed env objs ρ a w hlv hRn hR hdn F S hsz hdf hls hcl
    refine ⟨fun hr=> ?_,fun i hi=> ?_⟩
    ·obtain ⟨τ,hτ⟩:=vU hlv
     obtain ⟨L,l,e2,o2,hlen,⟨⟨e2',ht,he⟩,hp,hs,hL⟩,hn⟩:=F τ hτ
     cases ht with
     | nil=>exact hn ρ a w env he S hsz hdf
     | cons hdo hrd htt=>
       rename_i i o L' v o1 l'
       exfalso
       obtain ⟨h1,h2⟩:=(hL i o).mp (List.mem_cons_self ..)
       exact Z7 hdep hls hr (i+1) i o (by omega) h1 h2
    ·obtain ⟨h0,o,ho,hall⟩:=mem_ready.mp hi
     have hil:i<listed.size:=by rw [hls];exact (Array.getElem?_eq_some_iff.mp ho).1
     unfold wpOp
     rw [ho];dsimp only
     have step:∀(m:Nat) (R' dn':List Nat),live (PK all.toList) m R'=true→R'.Nodup→(∀j∈R',j<all.size∧(listed.setIfInBounds i true).getD j true=false)→(∀j∈dn',(listed.setIfInBounds i true).getD j true=true)→
      (∀τ∈UH (PK all.toList) m R',∃τ0∈UH (PK all.toList) n R,dn'++τ=dn++τ0∧∀a b,(a,b)∈oE (dn++τ0)→b=i→listed.getD a true=true)→
      ∃env1 o1,xY C T Γ all o env objs (fun e b=>some (e,b))=some (env1,o1)∧∀ρ' a' w',SRel C Mut Lent w0 ρ' env1 o1 a'.tmps w'→a'.tmps.size=a.tmps.size→a'.defers=a.defers→wpAny P .any all Q fuel (listed.setIfInBounds i true) a' w':=by
       intro m R' dn' hlv' hRn' hR' hdn' hτs
       have one:∀τ∈UH (PK all.toList) m R',∃env1 o1 L l e2 o2,xY C T Γ all o env objs (fun e b=>some (e,b))=some (env1,o1)∧L.length≤fuel∧fB_ C T Γ all (oE (dn'++τ)) L l (listed.setIfInBounds i true) env1 o1 e2 o2∧
        ∀ρ' a' w' env',(∀t,look env' t=look e2 t)→SRel C Mut Lent w0 ρ' env' o2 a'.tmps w'→a'.tmps.size=nt→a'.defers=df→Q .normal a' w':=fun τ hτ=>by
         obtain ⟨τ0,h1,h2,h3⟩:=hτs τ hτ
         obtain ⟨L,l,e2,o2,hlen,G,hn⟩:=F τ0 h1
         obtain ⟨v,o1,env1,L',l',r1,s2,G',hlen',_,_⟩:=X5 H hQ hdep (fun o=>ai_ H.ty S o) G hls hcl h0 ho hall h3
         exact ⟨env1,o1,L',l',e2,o2,s2,by omega,by rw [h2];exact G',hn⟩
       obtain ⟨τ,hτ⟩:=vU hlv'
       obtain ⟨env1,o1,_,_,_,_,s2,_⟩:=one τ hτ
       refine ⟨env1,o1,s2,fun ρ' a' w' S' hz hdf'=> ?_⟩
       refine ih m R' dn' _ env1 o1 ρ' a' w' hlv' hRn' hR' hdn' (fun τ hτ=> ?_) S' (hz.trans hsz) (hdf'.trans hdf) (by simpa using hls) (H2 ho hall hcl)
       obtain ⟨env1',o1',L,l,e2,o2,s2',hlen,G,hn⟩:=one τ hτ
       rw [s2] at s2';cases s2'
       exact ⟨L,l,e2,o2,hlen,G,hn⟩
     have go:∃env1 o1,xY C T Γ all o env objs (fun e b=>some (e,b))=some (env1,o1)∧∀ρ' a' w',SRel C Mut Lent w0 ρ' env1 o1 a'.tmps w'→a'.tmps.size=a.tmps.size→a'.defers=a.defers→wpAny P .any all Q fuel (listed.setIfInBounds i true) a' w':=by
       by_cases hiR:i∈R
       ·
         cases n with
         | zero=>rw [bd_ hlv] at hiR;cases hiR
         | succ n=>
           have hal:=MA hdep (H2 ho hall hcl) (i+1) i (by omega) (by simp [Array.getD,hil])
           have hle:D8 (PK all.toList) R i=true:=leastN_iff.mpr fun j hj hm=>by
             obtain ⟨p,hp1,d,hd1,hd2⟩:=GX hm
             have hp1:all[i]? =some p:=by simpa using hp1
             rw [ho] at hp1;cases hp1
             have hdl:listed.getD d false=true:=by
               simp only [hU,List.mem_map,List.mem_filter] at hd1
               obtain ⟨e,⟨e1,e2⟩,rfl⟩:=hd1
               exact hall e (by simpa using e1) e2
             have hjl:listed.getD j false=true:=by
               rcases hd2 with rfl | hd2
               ·exact hdl
               ·exact MA hdep hcl (d+1) d (by omega) hdl j hd2
             obtain ⟨j1,j2⟩:=hR j hj
             have hjs:j<listed.size:=by rw [hls];exact j1
             simp [Array.getD,hjs] at hjl j2
             rw [hjl] at j2;cases j2
           refine step n (ZN i R) (dn++[i]) (RY hlv hiR hle) (xQ hRn) (fun j hj=> ?_) (fun j hj=> ?_) (fun τ hτ=> ?_)
           ·obtain ⟨j1,j2⟩:=(A8 hRn).mp hj
            refine ⟨(hR j j1).1, ?_⟩
            rw [getD_set_ne true (Ne.symm j2)];exact (hR j j1).2
           ·rcases List.mem_append.mp hj with hj | hj
            ·exact zB (hdn j hj)
            ·simp only [List.mem_singleton] at hj;subst hj;simp [Array.getD,hil]
           ·refine ⟨i::τ,PP hiR hle hτ,by simp,fun a b hab hb=> ?_⟩
            subst hb
            rcases zP hab with h | ⟨h,_⟩ | h
            ·have:=hdn _ h;rw [h0] at this;cases this
            ·exact hdn _ h
            ·have:=GG (xQ hRn) hτ _ (zR h)
             exact absurd rfl ((A8 hRn).mp this).2
       ·refine step n R dn hlv hRn (fun j hj=> ?_) (fun j hj=>zB (hdn j hj)) (fun τ hτ=>⟨τ,hτ,rfl,fun a b hab hb=> ?_⟩)
        ·refine ⟨(hR j hj).1, ?_⟩
         rw [getD_set_ne true (fun e:i=j=>hiR (by rw [e];exact hj))];exact (hR j hj).2
        ·subst hb
         rcases zP hab with h | ⟨_,h⟩ | h
         ·have:=hdn _ h;rw [h0] at this;cases this
         ·exact absurd (GG hRn hτ _ h) hiR
         ·exact absurd (GG hRn hτ _ (List.mem_of_mem_tail (zR h))) hiR
     obtain ⟨env1,o1,s2,hgo'⟩:=go
     have hgo:∀env' objs' ρ' a' w',(some (env',objs'):Option (Env κ Ty×aJ κ Ty))=some (env1,o1)→SRel C Mut Lent w0 ρ' env' objs' a'.tmps w'→a'.tmps.size=a.tmps.size→a'.defers=a.defers→
      wpAny P .any all Q fuel (listed.setIfInBounds i true) a' w':=by
       intro env' objs' ρ' a' w' heq S' hz hdf'
       cases heq
       exact hgo' ρ' a' w' S' hz hdf'
     have hst:=IW (next:=wpAny P .any all Q fuel (listed.setIfInBounds i true)) (Q:=Q) H S (hd:=fun d hdd=>by rw [hsz];exact hd o (by simpa using Array.mem_of_getElem? ho) d hdd) s2 hgo
     split at hst
     ·rename_i hw;rw [if_pos hw];exact .inl hst
     ·rename_i hw;rw [if_neg hw];exact hst
theorem pB:∀{l:List (Nat×Oper)},l.Pairwise (fun x y=>x.1<y.1)→(l.map (·.1)).Nodup
  | [],_=> .nil
  | x::l,h=>by
    obtain ⟨h1,h2⟩:=List.pairwise_cons.mp h
    simp only [List.map_cons,List.nodup_cons]
    refine ⟨fun hm=> ?_,pB h2⟩
    obtain ⟨y,hy,e⟩:=List.mem_map.mp hm
    have:=h1 y hy;omega
theorem ae_ (anc:List (List Nat)) (a:Nat) (l:List (Nat×Oper)):(ez_ anc l a).Perm l:=by
  unfold ez_
  refine List.perm_append_comm.trans ?_
  exact List.filter_append_perm (behind anc a) l
theorem aF_ {x y:Option R} {r:R} (h:both x y=some r):x=some r∧y=some r:=by
  unfold both at h
  split at h
  ·rename_i e;exact ⟨h,e▸h⟩
  ·cases h
theorem MP:∀{l:List (Option R)} {r:R},WR l=some r→∀x∈l,x=some r
  | [],r,h,x,hx=>by cases hx
  | [y],r,h,x,hx=>by
    simp only [List.mem_singleton] at hx;subst hx;exact h
  | y::z::l,r,h,x,hx=>by
    obtain ⟨h1,h2⟩:=aF_ (show both y (WR (z::l))=some r from h)
    rcases List.mem_cons.mp hx with rfl | hx
    ·exact h1
    ·exact MP h2 x hx
theorem EN {anc:List (List Nat)} {l:List (Nat×Oper)}:∀{es:List (List Nat)},GN all anc l es=true→∀τ∈es,QY (oE τ) all anc (AN anc l τ)=true
  | [],_,τ,h=>by cases h
  | t::es,h,τ,ht=>by
    simp only [GN] at h
    split at h
    ·rename_i e
     rcases List.mem_cons.mp ht with rfl | ht
     ·exact e
     ·exact EN h τ ht
    ·cases h
theorem L6 (anc:List (List Nat)):∀(t:List Nat) (l:List (Nat×Oper)),(t.foldl (ez_ anc) l).Perm l
  | [],l=> .refl _
  | x::t,l=>(L6 anc t (ez_ anc l x)).trans (ae_ anc x l)
theorem Q5 (anc:List (List Nat)) (l:List (Nat×Oper)) (τ:List Nat):(AN anc l τ).Perm l:=by
  unfold AN
  split
  ·exact .refl _
  ·exact L6 anc τ.tail l
theorem G3:∀{l:List Nat},bY_ l=true→l.Nodup
  | [],_=> .nil
  | i::l,h=>by
    simp only [bY_] at h
    split at h
    ·cases h
    ·rename_i e
     refine List.nodup_cons.mpr ⟨fun hm=> ?_,G3 h⟩
     have:=elemN_mem'.mpr hm
     rw [e] at this
     cases this
theorem cO_ {n:Nat}:∀{l:List Nat},inN n l=true→∀i∈l,i<n
  | [],_,i,h=>by cases h
  | j::l,h,i,hi=>by
    simp only [inN] at h
    split at h
    ·rename_i e
     rcases List.mem_cons.mp hi with rfl | hi
     ·exact Nat.blt_eq.mp e
     ·exact cO_ h i hi
    ·cases h
theorem VN [GlobOk C Mut Lent w0] (H:Known P C T Γ) (hQ:QuietOk Γ) {all:Array Oper} {nt:Nat} {K:Env κ Ty→aJ κ Ty→Option R} {r:R} {Q:Exit→Act→World→Prop}
    (hd:∀o∈all.toList,∀d,o.dst=some d→d<nt) (hsz:a.tmps.size=nt) (S:SRel C Mut Lent w0 ρ env objs a.tmps w) (h:dz_ C T Γ all env objs K=some r)
    (hn:∀env' objs' ρ' a' w',K env' objs'=some r→SRel C Mut Lent w0 ρ' env' objs' a'.tmps w'→a'.tmps.size=nt→a'.defers=a.defers→Q .normal a' w'):
    wpAny P .any all Q all.size (Array.replicate all.size false) a w:=by
  have hlist:∀i o,(i,o)∈num 0 all.toList↔all[i]? =some o∧(Array.replicate all.size false).getD i true=false:=fun i o=>by
    rw [num_mem]
    constructor
    ·rintro ⟨_,h⟩
     have h:all[i]? =some o:=by simpa using h
     have:=(Array.getElem?_eq_some_iff.mp h).1
     exact ⟨h,by simp [Array.getD,this]⟩
    ·rintro ⟨h,_⟩
     exact ⟨Nat.zero_le _,by simpa using h⟩
  have hcl:∀k o,all[k]? =some o→(Array.replicate all.size false).getD k false=true→∀d∈hU o,(Array.replicate all.size false).getD d false=true:=fun k o hk hl=>by
    exfalso
    have:=(Array.getElem?_eq_some_iff.mp hk).1
    simp [Array.getD,this] at hl
  have hdepOf:∀{L:List (Nat×Oper)},L.Perm (num 0 all.toList)→(∀x∈L,∀d∈hU x.2,d<x.1)→∀(k:Nat) (o:Oper),all[k]? =some o→∀d∈hU o,d<k:=fun hp h6 k o hk d hdd=>by
    have hk0:(Array.replicate all.size false).getD k true=false:=by
      have:=(Array.getElem?_eq_some_iff.mp hk).1
      simp [Array.getD,this]
    exact h6 (k,o) (hp.mem_iff.mpr ((hlist k o).mpr ⟨hk,hk0⟩)) d hdd
  unfold dz_ at h
  dsimp only at h
  split at h
  case h_2=>cases h
  rename_i hck
  simp only [Bool.and_eq_true] at hck
  obtain ⟨hlv,hdi,hin,hap⟩:=hck
  generalize hW:eB_ Γ (PK all.toList) (num 0 all.toList)=W at*
  have hall1:∀τ∈UH (PK all.toList) W.length W,PF C T (oE τ) Γ all (PK all.toList) (AN (PK all.toList) (num 0 all.toList) τ) [] [] env objs K=some r:=fun τ hτ=>MP h _ (List.mem_map.mpr ⟨τ,hτ,rfl⟩)
  have hap1:=fun τ hτ=>GZ (EN hap τ hτ)
  have hp:∀τ,(AN (PK all.toList) (num 0 all.toList) τ).Perm (num 0 all.toList):=fun τ=>Q5 _ _ _
  obtain ⟨τ0,hτ0⟩:=vU hlv
  refine Y0 H hQ hd (hdepOf (hp τ0) (hap1 τ0 hτ0).2) a.defers all.size W.length W [] _ env objs ρ a w hlv (G3 hdi) (fun i hi=> ?_) (fun i hi=>by simp at hi) (fun τ hτ=> ?_) S hsz rfl (by simp) hcl
  ·have:=cO_ hin i hi
   rw [C9] at this
   have:i<all.size:=by simpa using this
   exact ⟨this,by simp [Array.getD,this]⟩
  ·obtain ⟨l,e2,o2,e3,h1,h2,h3,h4,_⟩:=XI (fun x hx=>by simp at hx) (hall1 τ hτ)
   replace h4:=XC h4 (by rw [h1.heads];exact (hap1 τ hτ).1)
   refine ⟨_,l,e2,o2,by rw [(hp τ).length_eq,C9];simp,⟨⟨e2,h1,fun _=>rfl⟩,by simpa using h4,((hp τ).map _).nodup_iff.mpr (pB (M9 _ _)),fun i o=>by rw [(hp τ).mem_iff];exact hlist i o⟩,fun ρ' a' w' env' he S' hz hdf=> ?_⟩
   exact hn e3 o2 ρ' a' w' h2 (S'.setEnv fun i=>by rw [h3 i,←he i];exact S'.env i) hz hdf
theorem SRel.drawn (S:SRel C Mut Lent w0 ρ env objs tm w) (n:Nat):SRel C Mut Lent w0 ρ env objs tm {w with drawn:=n}:=by
  have W:WStep w {w with drawn:=n} (bH ρ objs) (bH ρ objs):=⟨fun _ _ _=>rfl,Nat.le_refl _,fun _ h=> .inl h⟩
  exact S.step W (Nat.le_refl _) (fun _=> .refl _) (fun id=>ORel.step W (Nat.le_refl _) (fun _=> .refl _) (S.ob id) rfl rfl (fun _ _=>rfl)) (fun i j b hi hj=>S.inj i j b hi hj) rfl rfl rfl
end
end Km
namespace Km
open Go
variable {κ:Type} {Ty:κ→Type} {R:Type}
def PJ:Code→List Nat
  | .seq a b=>PJ a++PJ b
  | .block _ c=>PJ c
  | .loop c=>PJ c
  | .cond _ a b=>PJ a++PJ b
  | .region i _ _=>[i]
  | _=>[]
def okC (nt:Nat):Code→Bool
  | .seq a b=>okC nt a&&okC nt b
  | .block _ c=>okC nt c
  | .loop c=>okC nt c
  | .cond _ a b=>okC nt a&&okC nt b
  | .region _ ops _=>ops.toList.all fun o=>match o.dst with | some d=>Nat.blt d nt | none=>true
  | _=>true
def M1:List Nat→Bool
  | []=>true
  | i::l=>match rG i l with | true=>false | false=>M1 l
theorem MU:∀{l:List Nat},M1 l=true→l.Nodup
  | [],_=>List.nodup_nil
  | i::l,h=>by
    simp only [M1] at h
    split at h
    ·cases h
    ·rename_i hi
     exact List.nodup_cons.mpr ⟨fun hm=>(by rw [(lB i l).mpr hm] at hi;cases hi),MU h⟩
theorem i6 {id:Nat}:∀(c:Code) (k t:List It),dX id c k=some t→id∈PJ c
  | .seq a b,k,t,h=>by
    simp only [dX] at h
    split at h
    ·rename_i t' h';simp [PJ,i6 a _ _ h']
    ·simp [PJ,i6 b _ _ h]
  | .block j c,k,t,h=>by simp only [dX] at h;exact i6 c _ _ h
  | .loop c,k,t,h=>by simp only [dX] at h;exact i6 c _ _ h
  | .cond q a b,k,t,h=>by
    simp only [dX] at h
    split at h
    ·rename_i t' h';simp [PJ,i6 a _ _ h']
    ·simp [PJ,i6 b _ _ h]
  | .region i ops d,k,t,h=>by
    simp only [dX] at h
    split at h
    ·rename_i hb;simp [PJ,Nat.eq_of_beq_eq_true hb]
    ·cases h
  | .skip,k,t,h=>by simp [dX] at h
  | .exit _,k,t,h=>by simp [dX] at h
  | .ret,k,t,h=>by simp [dX] at h
  | .label _,k,t,h=>by simp [dX] at h
  | .goto _,k,t,h=>by simp [dX] at h
def Piece (nt:Nat) (body c:Code) (k:List It):Prop:=okC nt c=true∧(PJ c).Nodup∧∀id t,dX id c k=some t→dX id body []=some t
def Pos (nt:Nat) (body:Code):List It→Prop
  | []=>True
  | .code c::k=>Piece nt body c k∧Pos nt body k
  | .inBlock _::k=>Pos nt body k
  | .inLoop c::k=>Piece nt body c (.inLoop c::k)∧Pos nt body k
def uY:It→Item
  | .code c=> .code c
  | .inBlock id=> .inBlock id
  | .inLoop c=> .inLoop c
theorem tV {id:Nat}:∀{k k':List It},rI id k=some k'→exitTo id (k.map uY)=some (k'.map uY)
  | [],_,h=>by simp [rI] at h
  | .inBlock j::l,k',h=>by
    simp only [rI] at h
    simp only [List.map_cons,uY,exitTo]
    split at h
    ·rename_i hb;have:=Nat.eq_of_beq_eq_true hb;cases h;simp [this]
    ·rename_i hb
     have:(j==id)=false:=by
       cases hc:j==id with
       | false=>rfl
       | true=>have:=eq_of_beq hc;subst this;simp at hb
     rw [if_neg (by simp [this])]
     exact tV h
  | .code _::l,k',h=>by
    simp only [rI] at h
    simp only [List.map_cons,uY,exitTo]
    exact tV h
  | .inLoop _::l,k',h=>by
    simp only [rI] at h
    simp only [List.map_cons,uY,exitTo]
    exact tV h
theorem xR {nt:Nat} {body:Code} {id:Nat}:∀{k k':List It},rI id k=some k'→Pos nt body k→Pos nt body k'
  | [],_,h,_=>by simp [rI] at h
  | .inBlock j::l,k',h,p=>by
    simp only [rI] at h
    split at h
    ·cases h;exact p
    ·exact xR h p
  | .code _::l,k',h,p=>by
    simp only [rI] at h
    exact xR h p.2
  | .inLoop _::l,k',h,p=>by
    simp only [rI] at h
    exact xR h p.2
theorem Piece.seq {nt:Nat} {body a b:Code} {k:List It} (h:Piece nt body (.seq a b) k):Piece nt body a (.code b::k)∧Piece nt body b k:=by
  obtain ⟨h1,h2,h3⟩:=h
  simp only [okC,Bool.and_eq_true] at h1
  simp only [PJ,List.nodup_append] at h2
  refine ⟨⟨h1.1,h2.1,fun id t h=>h3 id t (by simp [dX,h])⟩,⟨h1.2,h2.2.1,fun id t h=>h3 id t ?_⟩⟩
  have:dX id a (.code b::k)=none:=by
    cases he:dX id a (.code b::k) with
    | none=>rfl
    | some t'=>exact absurd rfl (h2.2.2 id (i6 _ _ _ he) id (i6 _ _ _ h))
  simp [dX,this,h]
theorem Piece.cond {nt:Nat} {body a b:Code} {q:Operand} {k:List It} (h:Piece nt body (.cond q a b) k):Piece nt body a k∧Piece nt body b k:=by
  obtain ⟨h1,h2,h3⟩:=h
  simp only [okC,Bool.and_eq_true] at h1
  simp only [PJ,List.nodup_append] at h2
  refine ⟨⟨h1.1,h2.1,fun id t h=>h3 id t (by simp [dX,h])⟩,⟨h1.2,h2.2.1,fun id t h=>h3 id t ?_⟩⟩
  have:dX id a k=none:=by
    cases he:dX id a k with
    | none=>rfl
    | some t'=>exact absurd rfl (h2.2.2 id (i6 _ _ _ he) id (i6 _ _ _ h))
  simp [dX,this,h]
theorem Piece.block {nt:Nat} {body c:Code} {j:Nat} {k:List It} (h:Piece nt body (.block j c) k):Piece nt body c (.inBlock j::k):=⟨h.1,h.2.1,fun id t e=>h.2.2 id t e⟩
theorem Piece.loop {nt:Nat} {body c:Code} {k:List It} (h:Piece nt body (.loop c) k):Piece nt body c (.inLoop c::k):=⟨h.1,h.2.1,fun id t e=>h.2.2 id t e⟩
section
variable {P:Program} {C:Cod κ Ty} {T:TypeId→Option (TI κ Ty)} {Γ:FuncId→Option (bT κ Ty)}
variable {Mut:Nat→Prop} {Lent:Org κ Ty} {w0 w w':World} {ρ ρ' ρ2:Nat→Loc} {env:Env κ Ty} {objs objs' objs2:aJ κ Ty} {a:Act} {tm:Array Value}
theorem V8 (S:SRel C Mut Lent w0 ρ env objs tm w):∀(slots:List Nat),ORL C w Mut ρ objs (slots.map (look env)) (slots.map fun i=>tm[i]?)
  | []=>trivial
  | i::l=>by
    refine ⟨?_,V8 S l⟩
    rcases S.env i with h | ⟨u,h1,h2⟩
    ·rw [h]
     show OR C w Mut ρ objs .undef tm[i]?
     cases ht:tm[i]? with
     | none=>exact rfl
     | some u=>exact VRel.undef (u:=u)
    ·simp only [h1];exact h2
theorem RJ:∀{slots:List Nat} {vs:List (AV κ Ty)},ORL C w Mut ρ objs vs (slots.map fun i=>tm[i]?)→
    ∀i,look (wB slots vs) i= .undef∨∃u,tm[i]? =some u∧VRel C w Mut ρ objs (look (wB slots vs) i) u
  | [],[],h,i=> .inl rfl
  | [],_::_,h,i=>h.elim
  | _::_,[],h,i=>h.elim
  | j::l,v::vs,h,i=>by
    simp only [wB,m5]
    split
    ·rename_i e;subst e
     have:=h.1
     cases ht:tm[i]? with
     | none=>simp only [ht] at this;exact .inl this
     | some u=>simp only [ht] at this;exact .inr ⟨u,rfl,this⟩
    ·exact RJ h.2 i
theorem bg_ [GlobOk C Mut Lent w0] {Γ:Nat→FuncId→Option (bT κ Ty)} {Λ:Nat→Nat→List (AV κ Ty)→aJ κ Ty→Option R} {cuts:List (Nat×List Nat)} {fin:Env κ Ty→aJ κ Ty→Option R} {nt:Nat} {body:Code} {cs:List Frame} {b:Frame}
    (hm:P.follows .mixedOrders=true) (H:∀k,Known P C T (Γ k)) (HQ:∀k,QuietOk (Γ k)) (hbody:Piece nt body body [])
    (h0:∀id vs os,Λ 0 id vs os=none)
    (h1:∀k id vs os r slots,UC cuts id=some slots→Λ (k+1) id vs os=some r→∃n todo,dX id body []=some todo∧run C T (Γ k) (Λ k) cuts Lent.objs.length fin n true todo (wB slots vs) os=some r)
    {r:R}:∀(k n:Nat) (fresh:Bool) (todo:List It) (env:Env κ Ty) (objs:aJ κ Ty) (ρ:Nat→Loc) (a:Act) (w:World),Pos nt body todo→a.tmps.size=nt→a.defers=[]→
    SRel C Mut Lent w0 ρ env objs a.tmps w→run C T (Γ k) (Λ k) cuts Lent.objs.length fin n fresh todo env objs=some r→
    ∃a' w' todo' env' objs' ρ',Steps P (lone (b.at a (todo.map uY)) cs w) (lone {b.at a' todo' with mode:= .returning} cs w')∧a'.defers=[]∧a'.tmps.size=nt∧fin env' objs'=some r∧SRel C Mut Lent w0 ρ' env' objs' a'.tmps w':=by
  intro k
  induction k with
  | zero=> ?_
  | succ k ihk=> ?_
  all_goals
    intro n
    induction n with
    | zero=>intro fresh todo env objs ρ a w _ _ _ _ h;simp [run] at h
    | succ n ih=> ?_
    intro fresh todo env objs ρ a w p hsz hdf S h
    have key:∀{m':Machine},Steps P (lone (b.at a (todo.map uY)) cs w) m'→(∃a' w' todo' env' objs' ρ',Steps P m' (lone {b.at a' todo' with mode:= .returning} cs w')∧a'.defers=[]∧a'.tmps.size=nt∧fin env' objs'=some r∧SRel C Mut Lent w0 ρ' env' objs' a'.tmps w')→
     ∃a' w' todo' env' objs' ρ',Steps P (lone (b.at a (todo.map uY)) cs w) (lone {b.at a' todo' with mode:= .returning} cs w')∧a'.defers=[]∧a'.tmps.size=nt∧fin env' objs'=some r∧SRel C Mut Lent w0 ρ' env' objs' a'.tmps w':=
      fun hs ⟨a',w',todo',env',objs',ρ',g1,g2⟩=>⟨a',w',todo',env',objs',ρ',hs.trans g1,g2⟩
    unfold run at h
    split at h
    ·exact ⟨a,w,_,env,objs,ρ, .one step_end,hdf,hsz,h,S⟩
    ·exact key (.one step_inBlock) (ih _ _ _ _ ρ a w p hsz hdf S h)
    ·exact key (.one step_inLoop) (ih _ _ _ _ ρ a w (by exact ⟨p.1,p⟩) hsz hdf S h)
    ·rename_i c l
     obtain ⟨p1,p2⟩:=p
     split at h
     ·exact key (.one step_skip) (ih _ _ _ _ ρ a w p2 hsz hdf S h)
     ·obtain ⟨q1,q2⟩:=p1.seq
      exact key (.one step_seq) (ih _ _ _ _ ρ a w (by exact ⟨q1,q2,p2⟩) hsz hdf S h)
     ·exact key (.one step_block) (ih _ _ _ _ ρ a w (by exact ⟨p1.block,p2⟩) hsz hdf S h)
     ·exact key (.one step_loop) (ih _ _ _ _ ρ a w (by exact ⟨p1.loop,p1.loop,p2⟩) hsz hdf S h)
     ·split at h
      ·rename_i k' hk'
       exact key (.one (step_exit (tV hk'))) (ih _ _ _ _ ρ a w (xR hk' p2) hsz hdf S h)
      ·cases h
     ·exact ⟨a,w,_,env,objs,ρ, .one step_ret,hdf,hsz,h,S⟩
     ·rename_i q x y
      obtain ⟨q1,q2⟩:=p1.cond
      split at h
      ·rename_i t ht
       have h:=BT h
       have hq:=aT (H 0).ty S 0 q
       rw [ht] at hq
       have hq:=(a7 hq).1
       have hset:∀t',t'=t→SRel C Mut Lent w0 ρ (gj_ env q t') objs a.tmps w:=by
         intro t' e;subst e
         cases q with
         | tmp d=>
           refine S.know ?_
           cases hd:a.tmps[d]? with
           | none=>simp [Act.eval,hd,Go.undef] at hq
           | some u=>simp [Act.eval,hd] at hq;subst hq;exact ⟨_,rfl, .lit rfl⟩
         | const v=>exact S
         | global v=>exact S
         | func v=>exact S
       have hst:=step_cond (P:=P) (b:=b) (a:=a) (k:=l.map uY) (cs:=cs) (w:=w) (x:=x) (y:=y) hq
       cases t with
       | true=>exact key (.one hst) (ih _ (.code x::l) _ _ ρ a w ⟨q1,p2⟩ hsz hdf (hset true rfl) h)
       | false=>exact key (.one hst) (ih _ (.code y::l) _ _ ρ a w ⟨q2,p2⟩ hsz hdf (hset false rfl) h)
      ·cases h
     ·rename_i id ops draw
      have hd:∀o∈ops.toList,∀d,o.dst=some d→d<nt:=by
        have:=p1.1
        simp only [okC,List.all_eq_true] at this
        intro o ho d hdd
        have:=this o ho
        rw [hdd] at this
        exact Nat.blt_eq.mp this |>fun h=>h
      split at h
      ·rename_i slots hc
       have hc:UC cuts id=some slots:=by
         revert hc;cases fresh
         ·exact fun h=>h
         ·intro h;cases h
       have h:_=some r:=h
       dsimp only at h
       first
       | (rw [h0] at h;cases h;done)
       | (obtain ⟨n',todo',e1,e2⟩:=h1 k id _ _ r slots hc h
          have e3:=p1.2.2 id (.code (.region id ops draw)::l) (by simp [dX])
          rw [e1] at e3;cases e3
          obtain ⟨ρ',S',hv⟩:=BL (H 0).cod S (V8 S slots)
          exact ihk n' true _ _ _ ρ' a w ⟨p1,p2⟩ hsz hdf (S'.setEnv (RJ hv)) e2)
      ·let Q:Exit→Act→World→Prop:=fun e a' w'=>e= .normal∧∃a'' w'' todo' env' objs' ρ',Steps P (lone (b.at a' (l.map uY)) cs w') (lone {b.at a'' todo' with mode:= .returning} cs w'')∧a''.defers=[]∧a''.tmps.size=nt∧fin env' objs'=some r∧SRel C Mut Lent w0 ρ' env' objs' a''.tmps w''
       have hfin:(Code.region id ops draw).wp P Q a w→∃a' w' todo' env' objs' ρ',Steps P (lone (b.at a ((It.code (.region id ops draw)::l).map uY)) cs w) (lone {b.at a' todo' with mode:= .returning} cs w')∧a'.defers=[]∧a'.tmps.size=nt∧fin env' objs'=some r∧SRel C Mut Lent w0 ρ' env' objs' a'.tmps w':=by
         intro hw
         obtain ⟨e,a',w',⟨rfl,hQ⟩,harr⟩:=hw b (l.map uY) cs
         exact key harr hQ
       split at h
       ·exact hfin (wp_region_any hm (VN (H _) (HQ _) hd hsz (S.drawn _) h fun env' objs' ρ' a' w' hK S' hz hdf'=>⟨rfl,ih _ _ _ _ ρ' a' w' p2 hz (hdf'.trans hdf) S' hK⟩))
       ·refine hfin (wp_region ?_)
        rw [List.range_eq_range']
        have:=MX (Q:=Q) (H _) ops.toList 0 env objs ρ a w (all:=ops) (nt:=nt) (fun k=>by simp) hd hsz S h fun env' objs' ρ' a' w' hK S' hz hdf'=>⟨rfl,ih _ _ _ _ ρ' a' w' p2 hz (hdf'.trans hdf) S' hK⟩
        simpa using this
     ·cases h
end
end Km
namespace Km
open Go
variable {κ:Type} {Ty:κ→Type} {R:Type}
section
variable {P:Program} {C:Cod κ Ty} {T:TypeId→Option (TI κ Ty)} {Γ:FuncId→Option (bT κ Ty)}
variable {Mut:Nat→Prop} {Lent:Org κ Ty} {w0 w w':World} {ρ ρ' ρ2:Nat→Loc} {env:Env κ Ty} {objs objs' objs2:aJ κ Ty} {a:Act} {tm:Array Value}
def VL (C:Cod κ Ty) (w:World) (Mut:Nat→Prop) (ρ:Nat→Loc) (objs:aJ κ Ty) (vs:List (AV κ Ty)) (us:List Value):Prop:=
  us.length=vs.length∧∀(j:Nat) (v:AV κ Ty) (u:Value),vs[j]? =some v→us[j]? =some u→VRel C w Mut ρ objs v u
theorem VL.weak {vs:List (AV κ Ty)} {us:List Value} (h:VL C w Mut ρ objs vs us) (hw:Weaker objs objs'):VL C w Mut ρ objs' vs us:=
  ⟨h.1,fun j v u a b=>hw.rel (h.2 j v u a b)⟩
theorem VL.cons {v:AV κ Ty} {vs:List (AV κ Ty)} {u:Value} {us:List Value} (h:VRel C w Mut ρ objs v u) (h':VL C w Mut ρ objs vs us):VL C w Mut ρ objs (v::vs) (u::us):=
  ⟨by simp [h'.1],fun j x y a b=>by
    cases j with
    | zero=>simp at a b;subst a;subst b;exact h
    | succ j=>exact h'.2 j x y (by simpa using a) (by simpa using b)⟩
theorem VL.tail {v:AV κ Ty} {vs:List (AV κ Ty)} {u:Value} {us:List Value} (h:VL C w Mut ρ objs (v::vs) (u::us)):VL C w Mut ρ objs vs us:=
  ⟨by simpa using h.1,fun j x y a b=>h.2 (j+1) x y (by simpa using a) (by simpa using b)⟩
theorem ZT {v:AV κ Ty} {u:Value} (h:VRel C w Mut ρ objs v u) (hv:(∃x,v= .lit x)∨(∃i,v= .own i)∨(∃t,v= .nil t)∨(∃b t xs,v= .inl b t xs)):bD u=true:=by
  rcases hv with ⟨x,rfl⟩ | ⟨i,rfl⟩ | ⟨t,rfl⟩ | ⟨b,t,xs,rfl⟩<;>cases h<;>first | rfl | assumption
theorem DP (HC:bG C):∀(vs:List (AV κ Ty)) (us:List Value) (objs:aJ κ Ty) (K:List (AV κ Ty)→aJ κ Ty→Option R) (r:R),SRel C Mut Lent w0 ρ env objs tm w→VL C w Mut ρ objs vs us→
    dC_ C objs vs K=some r→∃vs' objs',K vs' objs'=some r∧SRel C Mut Lent w0 ρ env objs' tm w∧VL C w Mut ρ objs' vs' us∧Weaker objs objs'
  | [],us,objs,K,r,S,hv,h=>⟨[],objs,h,S,hv, .refl _⟩
  | v::vs,us,objs,K,r,S,hv,h=>by
    obtain ⟨u,us,rfl⟩:∃u us',us=u::us':=by have:=hv.1;cases us with | nil=>simp at this | cons u us=>exact ⟨u,us,rfl⟩
    have hu:VRel C w Mut ρ objs v u:=hv.2 0 v u rfl rfl
    by_cases hag:∃cs,v= .agg cs
    ·obtain ⟨cs,rfl⟩:=hag
     simp only [dC_] at h
     cases hu with
     | agg hl hcell hrel=>
       rename_i us0
       obtain ⟨ns,o1,g1,g2,g3,g4⟩:=oU HC cs us0 objs _ r S ⟨hl,hcell,hrel⟩ h
       obtain ⟨vs',o2,k1,k2,k3,k4⟩:=DP HC vs us o1 _ r g2 (hv.tail.weak g4) g1
       exact ⟨_,o2,k1,k2, .cons (k4.rel g3.agg) k3,g4.trans k4⟩
    ·have e:dC_ C objs (v::vs) K=jH C false objs [v] fun cs' o=>dC_ C o vs fun vs' o'=>K (cs'++vs') o':=by
       cases v<;>first | rfl | exact absurd ⟨_,rfl⟩ hag
     rw [e] at h
     have hcell:bD u=true:=ZT hu (by
       cases v with
       | lit x=>exact .inl ⟨_,rfl⟩
       | own i=>exact .inr (.inl ⟨_,rfl⟩)
       | nil t=>exact .inr (.inr (.inl ⟨_,rfl⟩))
       | inl b t xs=>exact .inr (.inr (.inr ⟨_,_,_,rfl⟩))
       | agg cs=>exact absurd ⟨_,rfl⟩ hag
       | _=>simp [jH] at h)
     obtain ⟨ns,o1,g1,g2,g3,g4⟩:=oU HC [v] [u] objs _ r S ⟨rfl,fun j x hj=>by
       cases j with
       | zero=>simp at hj;subst hj;exact hcell
       | succ j=>simp at hj,fun j x y a b=>by
       cases j with
       | zero=>simp at a b;subst a;subst b;exact hu
       | succ j=>simp at a⟩ h
     obtain ⟨vs',o2,k1,k2,k3,k4⟩:=DP HC vs us o1 _ r g2 (hv.tail.weak g4) g1
     obtain ⟨n,rfl⟩:∃n,ns=[n]:=by
       have:=g3.1
       match ns,this with
       | [n],_=>exact ⟨n,rfl⟩
       | [],h=>simp at h
       | _::_::_,h=>simp at h
     exact ⟨_,o2,k1,k2, .cons (k4.rel (g3.2.2 0 n u rfl rfl)) k3,g4.trans k4⟩
theorem fa_ {vs:List (AV κ Ty)} {us:List Value} (h:VL C w Mut ρ objs vs us):ORL C w Mut ρ objs vs (us.map some):=rM h.1 h.2
theorem fo_ {vs:List (AV κ Ty)} {us:List Value} (h:ORL C w Mut ρ objs vs (us.map some)):VL C w Mut ρ objs vs us:=sB h
def e9_ (C:Cod κ Ty) (Mut:Nat→Prop) (Lent:Org κ Ty) (w0:World) (v:AV κ Ty) (objs:aJ κ Ty) (u:Value) (w:World):Prop:=
  ∃ρ,VRel C w Mut ρ objs v u∧SRel C Mut Lent w0 ρ [] objs #[] w∧(∀o∈objs,KE C o=true)∧(∀vs,v= .tup vs→vs.all vE=true)∧((∀vs,v≠ .tup vs)→vE v=true)
def fk_ (us:List Value):Value:=match us with | [u]=>u | us=> .tuple us.toArray
theorem ed_ {vs:List (AV κ Ty)} {us:List Value} (h:VL C w Mut ρ objs vs us):VRel C w Mut ρ objs (one vs) (fk_ us):=by
  have hlen:=h.1
  match vs,us with
  | [v],[u]=>exact h.2 0 v u rfl rfl
  | [],[]=>exact .tup h.1 h.2
  | _::_::_,_::_::_=>exact .tup h.1 h.2
  | [],_::_=>simp at hlen
  | _::_,[]=>simp at hlen
  | [_],_::_::_=>simp at hlen
  | _::_::_,[_]=>simp at hlen
theorem T4 (HC:bG C) (S:SRel C Mut Lent w0 ρ env objs tm w) {id:Nat} {K:aJ κ Ty→Option R} {r:R} (h:dZ_ id objs K=some r):
    ∃objs',K objs'=some r∧SRel C Mut Lent w0 ρ env objs' tm w∧∀v u,VRel C w Mut ρ objs v u→VRel C w Mut ρ objs' v u:=by
  unfold dZ_ at h
  split at h
  ·rename_i t xs n e
   obtain ⟨_,hn,h⟩:=bind_some h
   have hn:n=xs.length:=by
     by_cases e:n=xs.length
     ·exact e
     ·rw [if_neg e] at hn;cases hn
   have hlt:=(List.getElem?_eq_some_iff.mp e).1
   have g1:(objs.set id (.rw t xs 0 none))[id]? =some (.rw t xs 0 none):=by simp [hlt]
   have g3:∀k,k≠id→(objs.set id (AObj.rw t xs 0 none))[k]? =objs[k]? :=fun k h=>List.getElem?_set_ne (Ne.symm h)
   have hft:∀k b,aH ρ (objs.set id (AObj.rw t xs 0 none)) k b→aH ρ objs k b:=fun k b h=>by
     by_cases h1:k=id
     ·subst h1
      unfold aH at h⊢
      rw [g1] at h;rw [e];exact h
     ·unfold aH at h⊢;rw [g3 k h1] at h;exact h
   have W:WStep w w (bH ρ objs) (bH ρ (objs.set id (.rw t xs 0 none))):=WStep.same fun b ⟨k,hk⟩=>⟨k,hft k b hk⟩
   have hlen:objs.length≤(objs.set id (AObj.rw t xs 0 none)).length:=by simp
   have hcm:∀k,Compat ρ objs ρ (objs.set id (.rw t xs 0 none)) k:=fun k=>by
     by_cases h1:k=id
     ·subst h1;unfold Compat;rw [e];exact .inl ⟨xs,cL g1,rfl, .refl _⟩
     ·exact Compat.of_eq (fun _=>g3 k h1) (fun _=>rfl)
   refine ⟨_,h,S.step W hlen hcm (fun k=> ?_) (fun i j b hi hj=>S.inj i j b (hft i b hi) (hft j b hj)) rfl rfl rfl,fun v u h=>h.step W hlen hcm⟩
   by_cases h1:k=id
   ·subst h1
    have ho:=S.ob k
    simp only [ORel,e] at ho
    unfold ORel
    rw [g1]
    have ho':=ho.step W hlen hcm (fun _ _=>rfl)
    refine {ho' with cell:=fun i x j cl hx hj=> ?_}
    obtain ⟨v,a1,a2⟩:=ho'.cell i x j cl hx hj
    have hi:=(List.getElem?_eq_some_iff.mp hx).1
    rw [cw_,if_pos (by omega)] at a2
    exact ⟨v,a1,a2⟩
   ·exact ORel.step W hlen hcm (S.ob k) (g3 k h1) rfl (fun _ _=>rfl)
  ·exact ⟨objs,h,S,fun v u h=>h⟩
theorem H4 (HC:bG C) {K:aJ κ Ty→Option R} {r:R}:∀(n:Nat) {objs:aJ κ Ty},SRel C Mut Lent w0 ρ env objs tm w→dQ_ n objs K=some r→
    ∃objs',K objs'=some r∧SRel C Mut Lent w0 ρ env objs' tm w∧∀v u,VRel C w Mut ρ objs v u→VRel C w Mut ρ objs' v u
  | 0,objs,S,h=>⟨objs,h,S,fun v u h=>h⟩
  | n+1,objs,S,h=>by
    obtain ⟨o1,h1,S1,v1⟩:=T4 HC S h
    obtain ⟨o2,h2,S2,v2⟩:=H4 HC n S1 h1
    exact ⟨o2,h2,S2,fun v u h=>v2 v u (v1 v u h)⟩
theorem VL.map (h:∀v u,VRel C w Mut ρ objs v u→VRel C w Mut ρ' objs' v u) {vs:List (AV κ Ty)} {us:List Value} (x:VL C w Mut ρ objs vs us):VL C w Mut ρ' objs' vs us:=⟨x.1,fun j v u a b=>h _ _ (x.2 j v u a b)⟩
theorem CX (HC:bG C) (S:SRel C Mut Lent w0 ρ env objs tm w) {dec:AV κ Ty→aJ κ Ty→Option R} {vs:List (AV κ Ty)} {us:List Value} {r:R} (hv:VL C w Mut ρ objs vs us)
    (h:OO C Lent.objs.length dec vs objs=some r):∃v objs',dec v objs'=some r∧e9_ C Mut Lent w0 v objs' (fk_ us) w:=by
  unfold OO at h
  dsimp only at h
  obtain ⟨ρ',S',hv'⟩:=BL HC S (fa_ hv)
  generalize AH C Lent.objs.length vs objs=q at h S' hv'
  obtain ⟨vs',objs'⟩:=q
  dsimp only at h S' hv'
  have hvl0:=fo_ hv'
  clear hv'
  replace h:=H4 HC _ S' h
  clear S'
  obtain ⟨objs2,h,S',v2⟩:=h
  have hvl:=VL.map v2 hvl0
  clear v2 hvl0
  revert h hvl S'
  generalize objs2=objs'
  intro h S' hvl
  split at h
  ·rename_i hs
   simp only [Bool.and_eq_true] at hs
   refine ⟨_,objs',h,ρ',ed_ hvl,S'.setEnv (fun i=> .inl rfl),by simpa [List.all_eq_true] using hs.2,fun xs e=> ?_,fun hn=> ?_⟩
   ·match vs',hs.1 with
    | [],_=>cases e;rfl
    | [x],hs1=>
      simp only [one] at e
      subst e
      simp [vE] at hs1
    | x::y::l,hs1=>cases e;exact hs1
   ·match vs',hs.1 with
    | [],_=>exact absurd rfl (hn [])
    | [x],hs1=>show vE x=true;simpa using hs1
    | x::y::l,_=>exact absurd rfl (hn _)
  ·cases h
def dp_ (rs:List ResultVar) (tm:Array Value):Sem (List Value):=rs.mapM fun
  | .tmp t=>pure (tm.getD t undef)
  | .cell a t=>do loadVar t (←asAddr (tm.getD a undef))
theorem C7 (HT:TOk P C T) (HC:bG C) (S:SRel C Mut Lent w0 ρ env objs tm w):∀(rs:List ResultVar) {K:List (AV κ Ty)→Option R} {r:R},ej_ C T env objs rs K=some r→
    ∃vs us,K vs=some r∧VL C w Mut ρ objs vs us∧(dp_ rs tm).run P w= .ok us w
  | [],K,r,h=>⟨[],[],h,⟨rfl,fun j v u h=>by simp at h⟩,by simp [dp_]⟩
  | .tmp t::rs,K,r,h=>by
    simp only [ej_] at h
    obtain ⟨vs,us,h1,h2,h3⟩:=C7 HT HC S rs h
    refine ⟨_,_,h1, .cons (PD (a:=⟨tm,[]⟩) S t) h2, ?_⟩
    unfold dp_ at h3⊢
    simp only [List.mapM_cons,Sem.run_bind,Sem.run_pure,Result.andThen_ok,h3]
  | .cell c t::rs,K,r,h=>by
    simp only [ej_] at h
    split at h
    ·rename_i ti ht
     obtain ⟨v,u,h1,h2,h3⟩:=J4 (P:=P) (a:=⟨tm,[]⟩) HT HC S ht (PD (a:=⟨tm,[]⟩) S c) h
     obtain ⟨vs,us,k1,k2,k3⟩:=C7 HT HC S rs h1
     refine ⟨_,_,k1, .cons h3 k2, ?_⟩
     have h4:(do loadVar t (←asAddr (tm.getD c undef)):Sem Value).run P w= .ok u w:=by
       generalize tm.getD c undef=q at h2⊢
       cases q<;>first
         | (simp [Instr.loadAt,Instr.sureAddr] at h2;done)
         | (rename_i p;cases p<;>first
             | (simp [Instr.loadAt,Instr.sureAddr] at h2;done)
             | simpa [Instr.loadAt,Instr.sureAddr,asAddr] using h2)
     unfold dp_ at k3⊢
     rw [List.mapM_cons,Sem.run_bind]
     dsimp only
     rw [h4,Result.andThen_ok,Sem.run_bind,k3]
     simp only [Result.andThen_ok,Sem.run_pure]
    ·cases h
theorem SF (HT:TOk P C T) (HC:bG C) (S:SRel C Mut Lent w0 ρ env objs tm w) {frz:Bool} {rs:List ResultVar} {dec:AV κ Ty→aJ κ Ty→Option R} {r:R}
    (h:ER C T frz Lent.objs.length rs dec env objs=some r):∃v objs' us,dec v objs'=some r∧e9_ C Mut Lent w0 v objs' (fk_ us) w∧(dp_ rs tm).run P w= .ok us w:=by
  unfold ER at h
  obtain ⟨vs,us,h,hv,hr⟩:=C7 HT HC S rs h
  split at h
  ·obtain ⟨vs',o1,g1,g2,g3,_⟩:=DP HC _ _ objs _ r S hv h
   obtain ⟨v,os,k1,k2⟩:=CX HC g2 g3 g1
   exact ⟨v,os,us,k1,k2,hr⟩
  ·obtain ⟨v,os,k1,k2⟩:=CX HC S hv h
   exact ⟨v,os,us,k1,k2,hr⟩
theorem V4 {fn:Func} {rs:List ResultVar} (h:fn.results.toList=rs) {tm:Array Value} {w:World} {us:List Value} (hr:(dp_ rs tm).run P w= .ok us w):(results fn tm).run P w= .ok (fk_ us) w:=by
  have hm:fn.results=rs.toArray:=by apply Array.ext';simpa using h
  unfold dp_ at hr
  unfold results
  rw [hm]
  simp only [List.mapM_toArray,Sem.run_bind,map_eq_pure_bind,Sem.run_pure]
  have e:∀(g g':ResultVar→Sem Value),g=g'→(List.mapM g rs).run P w= .ok us w→(List.mapM g' rs).run P w= .ok us w:=fun g g' h=>by rw [h];exact id
  rw [e _ _ (by funext r;cases r<;>rfl) hr]
  simp only [Result.andThen_ok]
  congr 1
  match us with
  | []=>rfl
  | [i]=>rfl
  | i::j::l=>simp [fk_]
def cz_:List Bool→Nat→Nat→List Nat
  | [],_,_=>[]
  | g::gs,i,m=>(if g then [i] else [])++cz_ gs (i+1) m
def KQ (gs:List Bool) (i:Nat):Option Nat:=match gs.getD i false with
  | true=>(match yY (cz_ gs 0 0) i 0 with | some k=>some (gs.length+k) | none=>none)
  | false=>some i
def ND (gs:List Bool) (objs:aJ κ Ty):aJ κ Ty:=
  (List.range gs.length).map (fun i=>match gs.getD i false with | true=> .dead | false=>(match objs[i]? with | some o=>yF (KQ gs) o | none=> .dead))++
  (cz_ gs 0 0).map (fun i=>match objs[i]? with | some o=>yF (KQ gs) o | none=> .dead)
def b3_ (gs:List Bool) (ρ:Nat→Loc):Nat→Loc:=fun j=>if j<gs.length then ρ j else ρ ((cz_ gs 0 0).getD (j-gs.length) 0)
theorem givN_mem {gs:List Bool} {m:Nat}:∀{i j:Nat},j∈cz_ gs i m↔i≤j∧gs.getD (j-i) false=true:=by
  induction gs with
  | nil=>intro i j;simp [cz_]
  | cons g gs ih=>
    intro i j
    simp only [cz_,List.mem_append,ih]
    constructor
    ·rintro (h | ⟨h1,h2⟩)
     ·cases g<;>simp at h
      subst h;simp
     ·refine ⟨by omega, ?_⟩
      rw [show j-i=(j-(i+1))+1 by omega];simpa using h2
    ·rintro ⟨h1,h2⟩
     by_cases e:j=i
     ·subst e;simp at h2;subst h2;simp
     ·refine .inr ⟨by omega, ?_⟩
      rw [show j-i=(j-(i+1))+1 by omega] at h2;simpa using h2
theorem X0 {gs:List Bool} {m:Nat}:∀{i:Nat},(cz_ gs i m).Nodup:=by
  induction gs with
  | nil=>intro i;exact .nil
  | cons g gs ih=>
    intro i
    simp only [cz_]
    cases g
    ·simpa using ih
    ·simp only [if_true,List.cons_append,List.nil_append,List.nodup_cons]
     exact ⟨fun h=>by have:=(givN_mem.mp h).1;omega,ih⟩
theorem OZ {gs:List Bool} {objs:aJ κ Ty} (ρ:Nat→Loc) (hl:objs.length=gs.length):Ren (KQ gs) ρ objs (b3_ gs ρ) (ND gs objs):=by
  intro i j o hg ho
  have hi:=(List.getElem?_eq_some_iff.mp ho).1
  unfold KQ at hg
  split at hg
  ·rename_i hb
   split at hg
   ·rename_i k hk
    cases hg
    obtain ⟨_,hk2⟩:=qF hk
    rw [Nat.sub_zero] at hk2
    constructor
    ·unfold ND
     rw [List.getElem?_append_right (by simp)]
     obtain ⟨n,e⟩:=w8 (yF (KQ gs) o)
     exact ⟨n,by rw [←e];simp only [List.length_map,List.length_range,Nat.add_sub_cancel_left,List.getElem?_map,hk2,Option.map_some,ho]⟩
    ·have:¬(gs.length+k<gs.length):=by omega
     unfold b3_
     rw [if_neg this]
     simp [List.getD,hk2]
   ·cases hg
  ·rename_i hb
   cases hg
   constructor
   ·unfold ND
    rw [List.getElem?_append_left (by simp;omega)]
    simp only [List.getElem?_map]
    rw [List.getElem?_range (by omega)]
    obtain ⟨n,e⟩:=w8 (yF (KQ gs) o)
    exact ⟨n,by rw [←e];simp only [Option.map_some,hb,ho]⟩
   ·simp [b3_];omega
theorem SA {gs:List Bool} {objs:aJ κ Ty} (hl:objs.length=gs.length) {j:Nat} {o:AObj κ Ty} (h:(ND gs objs)[j]? =some o) (hd:o≠ .dead):∃i,KQ gs i=some j∧i<objs.length∧objs[i]?.map (yF (KQ gs))=some o:=by
  unfold ND at h
  by_cases hj:j<gs.length
  ·rw [List.getElem?_append_left (by simpa using hj)] at h
   simp only [List.getElem?_map] at h
   rw [List.getElem?_range hj] at h
   simp only [Option.map_some,Option.some.injEq] at h
   split at h
   ·exact absurd h.symm hd
   ·rename_i hb
    refine ⟨j,by unfold KQ;rw [hb],by omega, ?_⟩
    rw [List.getElem?_eq_getElem (by omega:j<objs.length)] at h⊢
    simp only [Option.map_some];rw [←h]
  ·rw [List.getElem?_append_right (by simp;omega)] at h
   simp only [List.length_map,List.length_range,List.getElem?_map,Option.map_eq_some_iff] at h
   obtain ⟨i,h1,h2⟩:=h
   have hm:=givN_mem.mp (List.mem_of_getElem? h1)
   rw [Nat.sub_zero] at hm
   have hlt:i<gs.length:=by
     rcases Nat.lt_or_ge i gs.length with h | h
     ·exact h
     ·have:=hm.2;rw [List.getD_eq_getElem?_getD,List.getElem?_eq_none h] at this;cases this
   refine ⟨i, ?_,by omega, ?_⟩
   ·unfold KQ
    rw [hm.2,NW X0 h1]
    show some (gs.length+(j-gs.length))=some j
    congr 1;omega
   ·rw [List.getElem?_eq_getElem (by omega:i<objs.length)] at h2⊢
    simp only [Option.map_some];rw [←h2]
theorem GK {gs:List Bool} {objs:aJ κ Ty} {ρ:Nat→Loc} (hl:objs.length=gs.length) {j b:Nat} (h:aH (b3_ gs ρ) (ND gs objs) j b):∃i,KQ gs i=some j∧aH ρ objs i b:=by
  have hd:∃o,(ND gs objs)[j]? =some o∧o≠ .dead:=by
    unfold aH at h
    split at h
    ·rename_i cs e;exact ⟨_,e,fun h=>by cases h⟩
    ·rename_i t xs e;exact ⟨_,e,fun h=>by cases h⟩
    ·rename_i e;exact ⟨_,e,fun h=>by cases h⟩
    ·rename_i e;exact ⟨_,e,fun h=>by cases h⟩
    ·rename_i e;exact ⟨_,e,fun h=>by cases h⟩
    ·exact h.elim
  obtain ⟨o,ho,hne⟩:=hd
  obtain ⟨i,hi,hlt,_⟩:=SA hl ho hne
  have hob:objs[i]? =some objs[i]:=List.getElem?_eq_getElem hlt
  obtain ⟨g1,g2⟩:=OZ ρ hl i j _ hi hob
  exact ⟨i,hi,DK hob g1 g2 h⟩
theorem Q7 {gs:List Bool} {objs:aJ κ Ty} (ρ:Nat→Loc) (hl:objs.length=gs.length):FS true Mut ρ objs Mut (b3_ gs ρ) (ND gs objs):=by
  intro b k _ h h'
  rcases h' with ⟨j,hj⟩ | ⟨hb,hm⟩
  ·obtain ⟨i,_,hi⟩:=GK hl hj
   exact h (.inl ⟨i,hi⟩)
  ·exact h (.inr ⟨hb,hm⟩)
theorem SRel.give (HC:bG C) (S:SRel C Mut ⟨ρ,objs⟩ w ρ [] objs tm w) {gs:List Bool} (hl:objs.length=gs.length):
    SRel C Mut ⟨ρ,objs⟩ w (b3_ gs ρ) [] (ND gs objs) tm w:=by
  refine {S with env:=fun i=> .inl rfl,ob:=fun j=> ?_,inj:=fun i j b hi hj=> ?_,live:=fun b ⟨j,hj⟩=> ?_,comp:=fun i=> ?_,len:= ?_}
  ·by_cases hd:∃o,(ND gs objs)[j]? =some o∧o≠ .dead
   ·obtain ⟨o,ho,hne⟩:=hd
    obtain ⟨i,hi,hlt,_⟩:=SA hl ho hne
    exact ORel.ren HC (OZ ρ hl) (Q7 ρ hl) hi (List.getElem?_eq_getElem hlt) (fun h=>by cases h) (S.ob i)
   ·unfold ORel
    split
    ·rename_i cs e;exact absurd ⟨_,e,fun h=>by cases h⟩ hd
    ·rename_i t xs e;exact absurd ⟨_,e,fun h=>by cases h⟩ hd
    ·rename_i e;exact absurd ⟨_,e,fun h=>by cases h⟩ hd
    ·rename_i e;exact absurd ⟨_,e,fun h=>by cases h⟩ hd
    ·rename_i e;exact absurd ⟨_,e,fun h=>by cases h⟩ hd
    ·trivial
  ·obtain ⟨p,h1,h2⟩:=GK hl hi
   obtain ⟨q,g1,g2⟩:=GK hl hj
   have:=S.inj p q b h2 g2
   subst this
   rw [h1] at g1;cases g1;rfl
  ·obtain ⟨i,_,hi⟩:=GK hl hj
   exact S.live b ⟨i,hi⟩
  ·show CompW ρ objs (b3_ gs ρ) (ND gs objs) i
   by_cases hi:i<objs.length
   ·have hob:objs[i]? =some objs[i]:=List.getElem?_eq_getElem hi
    cases hb:gs.getD i false with
    | true=>
      have hdead:(ND gs objs)[i]? =some .dead:=by
        unfold ND
        rw [List.getElem?_append_left (by simp;omega)]
        simp only [List.getElem?_map]
        rw [List.getElem?_range (by omega)]
        simp only [Option.map_some,hb]
      unfold CompW Compat
      rw [hob]
      cases objs[i] with
      | rw t xs g hh=>exact .inr (aX hdead)
      | rp t xs n=>exact .inr (aX hdead)
      | dead=>exact (aX hdead)
      | box cs=>exact .inr (aX hdead)
      | sl t xs=>exact .inr (aX hdead)
      | mp k v es hh=>exact .inr (aX hdead)
    | false=>
      obtain ⟨⟨n0,g1⟩,g2⟩:=OZ ρ hl i i _ (by unfold KQ;rw [hb]) hob
      unfold CompW Compat
      rw [hob]
      cases ho:objs[i] with
      | rw t xs g hh=>
        rw [ho] at g1
        cases hh with
        | none=>exact .inl ⟨xs,_,none,g1,rfl,by rw [g2];exact .refl _⟩
        | some p=>exact .inr (aX g1)
      | rp t xs n=>rw [ho] at g1;exact .inl ⟨xs,gJ g1,rfl,by rw [g2];exact .refl _⟩
      | dead=>rw [ho] at g1;exact (aX g1)
      | box cs=>rw [ho] at g1;exact .inl ⟨_,g1,g2⟩
      | sl t xs=>rw [ho] at g1;exact .inl ⟨xs,g1,rfl,g2⟩
      | mp k v es hh=>rw [ho] at g1;exact .inl ⟨es,_,g1,by rw [g2]⟩
   ·unfold CompW Compat
    rw [List.getElem?_eq_none (by omega)];trivial
  ·show objs.length≤(ND gs objs).length
   simp [ND];omega
theorem ZJ {f:FuncId} {fn:Func} {body:Code} {S:bT κ Ty} {Γ:Nat→FuncId→Option (bT κ Ty)} {Λ:Nat→Nat→List (AV κ Ty)→aJ κ Ty→Option S.R} {cuts:List (Nat×List Nat)} {frz:Bool} {rs:List ResultVar} {m:Nat}
    {dec:AV κ Ty→aJ κ Ty→Option S.R}
    (hm : P.follows .mixedOrders = true) (H : ∀ k, Known P C T (Γ k)) (HQ : ∀ k, QuietOk (Γ k)) (hf : P.funcs[f]? = some fn) (hname : (fn.name == "runtime.NumGoroutine") = false) (hb : fn.body = some body) (hres : fn.results.toList = rs)
    (hok:okC fn.ntmps body=true) (hdup:M1 (PJ body)=true) (hdec:∀v os r,dec v os=some r→S.ret r=(v,os))
    (h0:∀id vs os,Λ 0 id vs os=none)
    (h1:∀k id vs os r slots,UC cuts id=some slots→Λ (k+1) id vs os=some r→∃n todo,dX id body []=some todo∧run C T (Γ k) (Λ k) cuts m (ER C T frz m rs dec) n true todo (wB slots vs) os=some r)
    (gs:List Bool)
    (hrun:∀args os r,S.run args os=some r→args.length≤fn.ntmps∧os.length=m∧gs.length=m∧∃k n,run C T (Γ k) (Λ k) cuts m (ER C T frz m rs dec) n false [.code body] (wB (List.range (args.map (GT (KQ gs))).length) (args.map (GT (KQ gs)))) (ND gs os)=some r):
    SummOk P C f S:=by
  refine ⟨⟨fn,hf,hname,by simp [hb]⟩,fun args0 objs0 r hr Mut ρ0 vals w hlen0 hrel0 S00 hgb hgp=> ?_⟩
  haveI:GlobOk C Mut ⟨ρ0,objs0⟩ w:=⟨fun b hb=>⟨hgb b hb,fun hf=>(S00.live b hf).1 (hgb b hb)⟩,hgp⟩
  obtain ⟨hle0,hml,hgl,k,n,hrun⟩:=hrun args0 objs0 r hr
  have hgo:objs0.length=gs.length:=by omega
  have S0:=SRel.give (H 0).cod S00 hgo
  have hrel:∀(j:Nat) (x:AV κ Ty) (u:Value),(args0.map (GT (KQ gs)))[j]? =some x→vals[j]? =some u→VRel C w Mut (b3_ gs ρ0) (ND gs objs0) x u:=fun j x u hx hu=>by
    simp only [List.getElem?_map,Option.map_eq_some_iff] at hx
    obtain ⟨y,hy,rfl⟩:=hx
    exact GW (H 0).cod (OZ ρ0 hgo) (Q7 ρ0 hgo) (fun h=>by cases h) (fun h=>by cases h) (hrel0 j y u hy hu)
  have hlen:vals.size=(args0.map (GT (KQ gs))).length:=by simpa using hlen0
  have hle:(args0.map (GT (KQ gs))).length≤fn.ntmps:=by simpa using hle0
  revert S0 hrel hlen hle hrun
  generalize args0.map (GT (KQ gs))=args
  generalize ND gs objs0=objs
  generalize b3_ gs ρ0=ρ
  intro hrun S0 hrel hlen hle
  intro cs
  let b:Frame:={(default:Frame) with fn:=f,kind:= .normal}
  let a:Act:={tmps:=vals++Array.replicate (fn.ntmps-vals.size) undef,defers:=[]}
  have henter:Frame.enter P f vals .normal=b.at a [.code body]:=by
    simp [Frame.enter,Frame.at,hf,hb,b,a]
  have hbody:Piece fn.ntmps body body []:=⟨hok,MU hdup,fun id t h=>h⟩
  have hsz:a.tmps.size=fn.ntmps:=by simp [a];omega
  have hpre:∀(n:Nat) (xs:List (AV κ Ty)) (i:Nat),look (wB (List.range' n xs.length) xs) i= .undef∨∃j,i=n+j∧∃x,xs[j]? =some x∧look (wB (List.range' n xs.length) xs) i=x:=by
    intro n xs
    induction xs generalizing n with
    | nil=>intro i;exact .inl rfl
    | cons x xs ih=>
      intro i
      simp only [List.length_cons,List.range'_succ,wB,m5]
      split
      ·rename_i e;exact .inr ⟨0,by omega,x,rfl,rfl⟩
      ·rcases ih (n+1) i with h | ⟨j,h1,y,h2,h3⟩
       ·exact .inl h
       ·exact .inr ⟨j+1,by omega,y,by simpa using h2,h3⟩
  have S1:SRel C Mut ⟨ρ0,objs0⟩ w ρ (wB (List.range args.length) args) objs a.tmps w:=S0.setEnv fun i=>by
    rw [List.range_eq_range']
    rcases hpre 0 args i with h | ⟨j,h1,x,h2,h3⟩
    ·exact .inl h
    ·have hj:=(List.getElem?_eq_some_iff.mp h2).1
     have hij:i=j:=by omega
     subst hij
     have hv:vals[i]? =some (vals[i]'(by omega)):=Array.getElem?_eq_getElem _
     refine .inr ⟨_, ?_,by rw [h3];exact hrel i x _ h2 hv⟩
     simp only [a]
     rw [Array.getElem?_append_left (by omega)];exact hv
  subst hml
  obtain ⟨a',w',todo',env',objs',ρ',g1,g2,g3,g4,g5⟩:=bg_ (Lent:=⟨ρ0,objs0⟩) (b:=b) (cs:=cs) hm H HQ hbody h0 h1 k n false [.code body] _ objs ρ a w ⟨hbody,trivial⟩ hsz rfl S1 hrun
  obtain ⟨v,os,us,k1,⟨ρ2,k2,k3,k4,k5,k6⟩,kr⟩:=SF (P:=P) (H 0).ty (H 0).cod g5 g4
  have hret:=hdec v os r k1
  refine ⟨.returned _,w',{b.at a' todo' with mode:= .returning},⟨_,ρ2,rfl, ?_, ?_, ?_, ?_, ?_⟩, ?_,rfl,rfl,g2,rfl,fn,hf,V4 hres kr⟩
  ·rw [hret];exact k2
  ·rw [hret];exact k3
  ·rw [hret];exact k4
  ·rw [hret];exact k5
  ·rw [hret];exact k6
  ·rw [henter];exact g1
end
end Km
namespace Km
open Go
universe u
variable {κ:Type} {Ty:κ→Type} {R:Type}
def aW {α:Type u}:List (Nat×α)→Nat→Option α
  | [],_=>none
  | (j,v)::l,i=>match Nat.beq j i with | true=>some v | false=>aW l i
theorem lG {α:Type u}:∀{l:List (Nat×α)} {i:Nat} {v:α},aW l i=some v→(i,v)∈l
  | [],i,v,h=>by cases h
  | (j,x)::l,i,v,h=>by
    simp only [aW] at h
    split at h
    ·rename_i hb;have:=Nat.eq_of_beq_eq_true hb;cases h;subst this;simp
    ·exact List.mem_cons_of_mem _ (lG h)
def DX:List Value→Bool
  | []=>true
  | v::l=>bD v&&DX l
theorem tT:∀{l:List Value},DX l=true→∀v∈l,bD v=true
  | [],_,v,hv=>by simp at hv
  | x::l,h,v,hv=>by
    simp only [DX,Bool.and_eq_true] at h
    simp only [List.mem_cons] at hv
    rcases hv with rfl | hv
    ·exact h.1
    ·exact tT h.2 v hv
def GF (P:Program):List Field→Bool
  | []=>true
  | f::fs=>(match P.info? f.type with | some i=> !(Nat.beq i.size 0) | none=>false)&&GF P fs
theorem EK {P:Program}:∀{l:List Field},GF P l=true→∀f∈l,∃i,P.info? f.type=some i∧i.size≠0
  | [],_,v,hv=>by simp at hv
  | x::l,h,v,hv=>by
    simp only [GF,Bool.and_eq_true] at h
    simp only [List.mem_cons] at hv
    rcases hv with rfl | hv
    ·have h:=h.1
     split at h
     ·rename_i i hi
      refine ⟨i,hi,fun e=> ?_⟩
      rw [e] at h;simp at h
     ·cases h
    ·exact EK h.2 v hv
def cd_:List Field→Bool
  | []=>true
  | f :: fs => f.name != "_" && cd_ fs
theorem R9 : ∀ {l : List Field}, cd_ l = true → ∀ f ∈ l, f.name ≠ "_"
  | [],_,v,hv=>by simp at hv
  | x::l,h,v,hv=>by
    simp only [cd_,Bool.and_eq_true] at h
    simp only [List.mem_cons] at hv
    rcases hv with rfl | hv
    ·simpa using h.1
    ·exact R9 h.2 v hv
theorem toList_inj {a b:ByteArray} (h:a.toList=b.toList):a=b:=by
  rw [Go.ByteArray.toList_eq,Go.ByteArray.toList_eq] at h
  apply ByteArray.ext;apply Array.ext';exact h
def WP (T:TypeId→Option (TI κ Ty)):List (Nat×TypeId)→Bool
  | []=>true
  | f::fs=>(match T f.2 with | some tf=>(match tf.shp with | .int _=>true | .str=>true | _=>false) | none=>false)&&WP T fs
theorem MG {T:TypeId→Option (TI κ Ty)}:∀{l:List (Nat×TypeId)},WP T l=true→∀f∈l,∃tf,T f.2=some tf∧((∃q,tf.shp= .int q)∨tf.shp= .str)
  | [],_,v,hv=>by simp at hv
  | x::l,h,v,hv=>by
    simp only [WP,Bool.and_eq_true] at h
    simp only [List.mem_cons] at hv
    rcases hv with rfl | hv
    ·have h:=h.1
     split at h
     ·rename_i tf hf
      refine ⟨tf,hf, ?_⟩
      split at h
      ·rename_i k hk;exact .inl ⟨k,hk⟩
      ·rename_i hk;exact .inr hk
      ·cases h
     ·cases h
    ·exact MG h.2 v hv
def aN_:AV κ Ty→Bool
  | .lit v=>(match v with | .int .. =>true | .string _=>true | _=>false)
  | _=>false
theorem ZF {c:AV κ Ty} (h:aN_ c=true):(∃q n,c= .lit (.int q n))∨∃s,c= .lit (.string s):=by
  unfold aN_ at h
  split at h
  ·split at h
   ·exact .inl ⟨_,_,rfl⟩
   ·exact .inr ⟨_,rfl⟩
   ·cases h
  ·cases h
structure cO (P:Program) (C:Cod κ Ty) (T:TypeId→Option (TI κ Ty)) (t:TypeId) (ti:TI κ Ty):Prop where
  info:∃i z d,P.info? t=some i∧i.size=ti.size∧i.bytes=ti.bytes∧i.zero=some z∧z.cells.toList.map some=ti.zero.map c6_∧DX z.cells.toList=true∧P.underlying t=some d∧(match d with | .struct _=>true | .array .. =>true | _=>false)=ti.agg∧
    (match ti.shp with
     | .int k=>d= .int k
     | .bool=>d= .bool
     | .str=>d= .string
     | .struct fs=>∃fields,d= .struct fields∧fields.toList.map (fun f=>(f.offset,f.type))=fs∧GF P fields.toList=true∧P.stoodInHeld t=false∧P.eqGuardType P.depth t=false∧cd_ fields.toList=true
     | .arr n e s=>d= .array n e∧(∃i,P.info? e=some i∧i.size=C.sz s∧i.bytes=C.by' s)∧∃te,T e=some te∧te.zero.length=C.sz s∧ti.zero=(List.replicate n te.zero).flatten
     | .map kt et k v=>d= .map kt et∧(∀x y,aeq T 8 kt (.agg (C.enc k x)) (.agg (C.enc k y))=some (C.keq k x y))∧(∃tk fs,T kt=some tk∧tk.shp= .struct fs∧WP T fs=true)∧(∀x,(C.enc k x).all aN_=true)∧
        ∃i z,P.info? et=some i∧i.zero=some z∧bD z=true
     | .slice e s=>(d= .slice e∧∃i,P.info? e=some i∧i.size=C.sz s∧i.bytes=C.by' s)∧∃i z,P.info? e=some i∧i.zero=some z∧z.cells.size=C.sz s∧DX z.cells.toList=true∧0<C.by' s
     | .other=>True)
theorem TOk.of {P:Program} {C:Cod κ Ty} {l:List (Nat×TI κ Ty)} (h:∀e∈l,cO P C (aW l) e.1 e.2) (hk:l.all (fun e=>b2_ C e.2.shp)=true):TOk P C (aW l):=by
  have key:∀t ti,aW l t=some ti→cO P C (aW l) t ti:=fun t ti ht=>h _ (lG ht)
  refine ⟨fun t ti ht=> ?_,fun t ti ht=> ?_,fun t ti k ht hs=> ?_,fun t ti ht hs=> ?_,fun t ti ht hs=> ?_,fun t ti fs ht hs=> ?_,fun t ti fs ht hs=> ?_,fun t ti n e s ht hs=> ?_,fun t ti kt et k v ht hs=> ?_,fun t ti e s ht hs=> ?_,fun t ti ht=>List.all_eq_true.mp hk _ (lG ht)⟩<;>
    obtain ⟨i,z,d,h1,h2,h3,h4,h5,h6,h7,h8,h9⟩:=(key t ti ht).info
  ·exact ⟨i,z,h1,h2,h3,h4,h5,tT h6⟩
  ·exact ⟨d,h7,h8⟩
  ·rw [hs] at h9;rw [h7,h9]
  ·rw [hs] at h9;rw [h7,h9]
  ·rw [hs] at h9;rw [h7,h9]
  ·rw [hs] at h9
   obtain ⟨fields,k1,k2,k3,_⟩:=h9
   exact ⟨fields,by rw [h7,k1],k2,EK k3⟩
  ·rw [hs] at h9
   obtain ⟨fields,k1,k2,k3,k4,k5,k6⟩:=h9
   refine ⟨k4,k5,fun fs' hf=> ?_⟩
   rw [h7,k1] at hf;cases hf
   exact R9 k6
  ·rw [hs] at h9
   exact ⟨by rw [h7,h9.1],h9.2⟩
  ·rw [hs] at h9
   obtain ⟨k1,k2,⟨tk,fs,k3,k4,k5⟩,k6,k7⟩:=h9
   exact ⟨by rw [h7,k1],k2,⟨tk,fs,k3,k4,MG k5⟩,fun x c hc=>ZF (List.all_eq_true.mp (k6 x) c hc),k7⟩
  ·rw [hs] at h9
   exact ⟨by rw [h7,h9.1.1],h9.1.2⟩
theorem EOk.of {P:Program} {C:Cod κ Ty} {l:List (Nat×TI κ Ty)} (h:∀e∈l,cO P C (aW l) e.1 e.2):EOk P C (aW l):=by
  intro t ti e s ht hs
  obtain ⟨i,z,d,h1,h2,h3,h4,h5,h6,h7,h8,h9⟩:=(h _ (lG ht)).info
  rw [hs] at h9
  obtain ⟨_,i',z',k1,k2,k3,k4,k5⟩:=h9
  exact ⟨i',z',k1,k2,k3,tT k4,k5⟩
theorem Known.of {P:Program} {C:Cod κ Ty} {T:TypeId→Option (TI κ Ty)} {l:List (Nat×bT κ Ty)} (h1:TOk P C T) (h2:EOk P C T) (h3:bG C) (h4:∀e∈l,SummOk P C e.1 e.2) (h5:GOk P C):Known P C T (aW l):=
  ⟨h1,h2,h3,fun f S h=>h4 _ (lG h),h5⟩
theorem QuietOk.of {l:List (Nat×bT κ Ty)} (h:∀e∈l,e.2.quiet=true→∀r,(e.2.ret r).2=[]∧cR (e.2.ret r).1=[]):QuietOk (aW l):=fun f S hf=>h _ (lG hf)
end Km
namespace Km
open Go
universe u
variable {κ:Type} {Ty:κ→Type} {R:Type}
theorem aB {α:Type u} {p:α→Prop}:∀e∈([]:List α),p e:=fun _ h=>by cases h
theorem all_cons {α:Type u} {p:α→Prop} {a:α} {l:List α} (h:p a) (t:∀e∈l,p e):∀e∈a::l,p e:=fun e he=>by
  cases he with
  | head=>exact h
  | tail _ he=>exact t e he
structure Cut (κ:Type) (Ty:κ→Type) (R:Type) where
  slots:List Nat
  fn:Nat→List (AV κ Ty)→aJ κ Ty→Option R
def lam (cs:List (Nat×Cut κ Ty R)) (k id:Nat) (vs:List (AV κ Ty)) (os:aJ κ Ty):Option R:=
  match aW cs id with | some c=>c.fn k vs os | none=>none
def B1 (cs:List (Nat×Cut κ Ty R)):List (Nat×List Nat):=cs.map fun c=>(c.1,c.2.slots)
def SN (id:Nat) (body:Code):List It:=(dX id body []).getD []
def pE (f:Func):Code:=f.body.getD .skip
theorem HJ:∀{cs:List (Nat×Cut κ Ty R)} {id:Nat} {slots:List Nat},UC (B1 cs) id=some slots→∃c,aW cs id=some c∧slots=c.slots
  | [],id,slots,h=>by cases h
  | (j,c)::cs,id,slots,h=>by
    simp only [B1,List.map_cons,UC] at h
    simp only [aW]
    cases hb:Nat.beq j id with
    | true=>rw [hb] at h;cases h;exact ⟨c,rfl,rfl⟩
    | false=>rw [hb] at h;exact HJ h
section
variable {P:Program} {C:Cod κ Ty} {T:TypeId→Option (TI κ Ty)}
theorem ec_ {f:FuncId} (fn:Func) {S:bT κ Ty} (Γ:Nat→FuncId→Option (bT κ Ty)) (cs:List (Nat×Cut κ Ty S.R)) (frz:Bool) (rs:List ResultVar) (m:Nat) (dec:AV κ Ty→aJ κ Ty→Option S.R)
    (hm : P.follows .mixedOrders = true) (H : ∀ k, Known P C T (Γ k)) (HQ : ∀ k, QuietOk (Γ k)) (hf : P.funcs[f]? = some fn) (hname : (fn.name == "runtime.NumGoroutine") = false) (hb : fn.body = some (pE fn)) (hres : fn.results.toList = rs)
    (hok:okC fn.ntmps (pE fn)=true) (hdup:M1 (PJ (pE fn))=true) (hdec:∀v os r,dec v os=some r→S.ret r=(v,os))
    (hc:∀c∈cs,(∀vs os,c.2.fn 0 vs os=none)∧(dX c.1 (pE fn) []).isSome=true∧
      ∀k vs os r,c.2.fn (k+1) vs os=some r→∃n,run C T (Γ k) (lam cs k) (B1 cs) m (ER C T frz m rs dec) n true (SN c.1 (pE fn)) (wB c.2.slots vs) os=some r)
    (gs:List Bool)
    (hrun:∀args os r,S.run args os=some r→args.length≤fn.ntmps∧os.length=m∧gs.length=m∧∃k n,run C T (Γ k) (lam cs k) (B1 cs) m (ER C T frz m rs dec) n false [.code (pE fn)] (wB (List.range (args.map (GT (KQ gs))).length) (args.map (GT (KQ gs)))) (ND gs os)=some r):
    SummOk P C f S:=by
  refine ZJ (Λ:=lam cs) (cuts:=B1 cs) (frz:=frz) (rs:=rs) (m:=m) (dec:=dec) hm H HQ hf hname hb hres hok hdup hdec (fun id vs os=> ?_) (fun k id vs os r slots hs h=> ?_) gs hrun
  ·unfold lam
   split
   ·rename_i c h;exact (hc _ (lG h)).1 vs os
   ·rfl
  ·obtain ⟨c,h1,rfl⟩:=HJ hs
   unfold lam at h
   rw [h1] at h
   obtain ⟨_,k2,k3⟩:=hc _ (lG h1)
   obtain ⟨n,hn⟩:=k3 k vs os r h
   cases ht:dX id (pE fn) [] with
   | none=>rw [ht] at k2;cases k2
   | some t=>exact ⟨n,t,rfl,by rw [SN,ht] at hn;exact hn⟩
end
end Km
namespace Km
open Go Go.RowKit
variable {κ:Type} {Ty:κ→Type} {R:Type} {P:Program} {C:Cod κ Ty}
theorem SRel.zero (w:World) (hlt:∀b,C.gb b→b<w.heap.size):SRel C C.gb ⟨fun _=>⟨0,0,0,dE⟩,[]⟩ w (fun _=>⟨0,0,0,dE⟩) [] ([]:aJ κ Ty) #[] w:=
  SRel.start (fun id=>by simp [ORel]) (fun i j b h=>by simp [aH] at h) (fun b ⟨i,h⟩=>by simp [aH] at h) hlt
theorem SummOk.calls {f:FuncId} {S:bT κ Ty} (h:SummOk P C f S) {args:List (AV κ Ty)} {r:S.R} (hr:S.run args []=some r) {vals:Array Value} {w:World} (hgp:C.gp w) (hlt:∀b,C.gb b→b<w.heap.size) (hl:vals.size=args.length)
    (hrel:∀(j:Nat) (x:AV κ Ty) (u:Value),args[j]? =some x→vals[j]? =some u→VRel C w C.gb (fun _=>⟨0,0,0,dE⟩) [] x u) {v:Value} (hret:(S.ret r).1= .lit v):
    Calls P f vals w fun e w'=>e= .returned v∧Below w.heap.size w w':=by
  refine (h.2 args [] r hr C.gb (fun _=>⟨0,0,0,dE⟩) vals w hl hrel (SRel.zero w hlt) (fun b hb=>hb) hgp).mono ?_
  rintro e w' ⟨u,ρ',rfl,h1,h2,_⟩
  rw [hret] at h1
  obtain ⟨rfl,_⟩:=a7 h1
  refine ⟨rfl,h2.os,h2.tape,h2.output,h2.size,fun k hk=>h2.frame k hk (fun ⟨i,hi⟩=>by simp [aH] at hi)⟩
theorem rel_lits {w:World} {Mut:Nat→Prop} {ρ:Nat→Loc} {objs:aJ κ Ty} {vs:List Value} (h:DX vs=true):∀(j:Nat) (x:AV κ Ty) (u:Value),(vs.map AV.lit)[j]? =some x→vs.toArray[j]? =some u→VRel C w Mut ρ objs x u:=by
  intro j x u hx hu
  simp only [List.getElem?_map,Option.map_eq_some_iff] at hx
  obtain ⟨q,hv,rfl⟩:=hx
  have h1:vs[j]? =some u:=by simpa using hu
  have h2:q=u:=by rw [hv] at h1;exact Option.some.inj h1
  rw [h2]
  exact .lit (tT h u (List.mem_of_getElem? h1))
end Km
namespace Km
open Go
variable {κ:Type} {Ty:κ→Type} {R:Type} {P:Program} {C:Cod κ Ty} {T:TypeId→Option (TI κ Ty)} {H:Type} {enc:TypeId×Value→H}
def W3 (C:Cod κ Ty) (T:TypeId→Option (TI κ Ty)):Nat→TypeId→List (AV κ Ty)→Prop
  | 0,_,_=>False
  | n+1,t,avs=>match T t with
    | none=>False
    | some ti=>match ti.shp with
      | .int k=>∃i,avs=[.lit (.int k i)]∧(Lit.int k i).wf=true
      | .bool=>∃b,avs=[.lit (.bool b)]
      | .str=>∃s,avs=[.lit (.string s)]∧s.size≤maxLen
      | .slice e s=>∃xs:List (Ty s),avs=[.inl false s xs]∧xs.length≤maxLen∧∀x∈xs,W3 C T n e (C.enc s x)
      | .struct fs=>avs.length=ti.size∧∀f∈fs,∃tf,T f.2=some tf∧W3 C T n f.2 ((avs.drop f.1).take tf.size)
      | _=>False
def NO (bo:κ→Bool):Shp κ→Bool | .int _=>true | .bool=>true | .str=>true | .slice _ s=> !(bo s) | .struct _=>true | _=>false
def laid (C:Cod κ Ty) (T:TypeId→Option (TI κ Ty)):Nat→List (Nat×TypeId)→Option Nat
  | n,[]=>some n
  | n,(d,t)::fs=>match T t with
    | some ti=>(match Nat.beq d n&&NO C.bor ti.shp with | true=>laid C T (n+ti.size) fs | false=>none)
    | none=>none
theorem cellsOf_size (HT:TOk P C T) {t:TypeId} {ti:TI κ Ty} (h:T t=some ti):P.cellsOf t=ti.size:=by
  obtain ⟨i,z,h1,h2,_⟩:=HT.info t ti h
  simp [Program.cellsOf,h1,h2]
variable {W:World} {base:Nat} {sp:Nat→Bool} {held:Bool} {ρ:Nat→Loc}
theorem av_ {a:AV κ Ty} {u:Value} {w:World} {Mut:Nat→Prop} {objs:aJ κ Ty} (hc:bD u=true) (h:VRel C w Mut ρ objs a u):Cells C w Mut ρ objs [a] [u]:=
  ⟨rfl,fun j v hj=>by
    cases j with
    | zero=>simp at hj;subst hj;exact hc
    | succ j=>simp at hj,fun j cl v a b=>by
    cases j with
    | zero=>simp at a b;subst a;subst b;exact h
    | succ j=>simp at a⟩
structure FullC (C:Cod κ Ty) (T:TypeId→Option (TI κ Ty)):Prop where
  laid:∀t ti fs,T t=some ti→ti.shp= .struct fs→laid C T 0 fs=some ti.size
  elem:∀t ti e s,T t=some ti→ti.shp= .slice e s→∃te,T e=some te∧NO C.bor te.shp=true
  full:∀t ti e s n avs,T t=some ti→ti.shp= .slice e s→C.bor s=false→W3 C T n e avs→∃x,C.enc s x=avs
  sz:∀s,0<C.sz s
def NR (C:Cod κ Ty) (T:TypeId→Option (TI κ Ty)) (e:Nat×TI κ Ty):Bool:=match e.2.shp with
  | .struct fs=>(match laid C T 0 fs with | some n=>Nat.beq n e.2.size | none=>false)
  | .slice e2 _=>(match T e2 with | some te=>NO C.bor te.shp | none=>false)
  | _=>true
theorem FullC.of {C:Cod κ Ty} {l:List (Nat×TI κ Ty)} (h1:l.all (NR C (aW l))=true) (h2:∀e∈l,∀e2 s n avs,e.2.shp= .slice e2 s→C.bor s=false→W3 C (aW l) n e2 avs→∃x,C.enc s x=avs) (h3:∀s,0<C.sz s) (h4:True):FullC C (aW l):=by
  have key:∀t ti,aW l t=some ti→NR C (aW l) (t,ti)=true:=fun t ti ht=>(List.all_eq_true.mp h1) _ (lG ht)
  refine ⟨fun t ti fs ht hs=> ?_,fun t ti e s ht hs=> ?_,fun t ti e s n avs ht hs=>h2 _ (lG ht) e s n avs hs,h3⟩
  ·have:=key t ti ht
   simp only [NR,hs] at this
   split at this
   ·rename_i n hn;rw [hn,Nat.eq_of_beq_eq_true this]
   ·cases this
  ·have:=key t ti ht
   simp only [NR,hs] at this
   split at this
   ·rename_i te hte;exact ⟨te,hte,this⟩
   ·cases this
end Km
namespace Km
open Go
inductive T1 (κ:Type) where
  | i (k:IntKind) | b | s | l (b:Bool) (t:κ) | o (id:Nat) | r (id off:Nat) | m (id:Nat) | n (t:κ) | u | v | p | sb (id:Nat) | e (id off:Nat) | z (id off:Nat) | w (id:Nat) | a (id off:Nat) | y (id:Nat) | f
inductive T2 (κ:Type) where
  | c (t:T1 κ) | g (ts:List (T1 κ))
inductive TO (κ:Type) where
  | d | x (ts:List (T1 κ)) | l (t:κ) | m (k v:κ) | w (t:κ) | q (t:κ)
variable {κ:Type} {Ty:κ→Type} {R X Y:Type}
def L1 (Ty:κ→Type):T1 κ→Type
  | .i _=>Int
  | .b=>Bool
  | .s=>ByteArray
  | .l _ t=>List (Ty t)
  | .sb _=>Nat×Nat
  | .e _ _=>Nat
  | .a _ _=>Nat
  | .y _=>Bool
  | _=>Unit
def FL (Ty:κ→Type) (t:T1 κ) (Y:Type):Type:=match t with
  | .i _=>Int→Y
  | .b=>Bool→Y
  | .s=>ByteArray→Y
  | .l _ t=>List (Ty t)→Y
  | .sb _=>Nat→Nat→Y
  | .e _ _=>Nat→Y
  | .a _ _=>Nat→Y
  | .y _=>Bool→Y
  | _=>Y
def bpv (id:Nat):Bool→AV κ Ty | true=> .ref id 0 | false=> .lit (.pointer none)
def mk1:(t:T1 κ)→L1 Ty t→AV κ Ty
  | .i k,a=> .lit (.int k a)
  | .b,a=> .lit (.bool a)
  | .s,a=> .lit (.string a)
  | .l b t,a=> .inl b t a
  | .sb id,a=> .sub id a.1 a.2
  | .e id off,a=> .eref id a off
  | .w id,_=> .rwv id
  | .a id off,a=> .rwp id a off
  | .y id,a=>bpv id a
  | .o id,_=> .own id
  | .r id off,_=> .ref id off
  | .m id,_=> .mapv id
  | .n t,_=> .nil t
  | .u,_=> .undef
  | .v,_=> .void
  | .p,_=> .lit (.pointer none)
  | .f,_=> .lit .nilIface
  | .z id off,_=> .eref id 0 off
def apL:(t:T1 κ)→FL Ty t Y→L1 Ty t→Y
  | .i _,f,a=>f a
  | .b,f,a=>f a
  | .s,f,a=>f a
  | .l _ _,f,a=>f a
  | .sb _,f,a=>f a.1 a.2
  | .e _ _,f,a=>f a
  | .a _ _,f,a=>f a
  | .y _,f,a=>f a
  | .w _,f,_=>f
  | .o _,f,_=>f
  | .r _ _,f,_=>f
  | .m _,f,_=>f
  | .n _,f,_=>f
  | .u,f,_=>f
  | .v,f,_=>f
  | .p,f,_=>f
  | .f,f,_=>f
  | .z _ _,f,_=>f
def gI (k:IntKind):AV κ Ty→Option Int
  | .lit u=>(match u with | .int k' n=>(match decide (k'=k) with | true=>some n | false=>none) | _=>none)
  | _=>none
def gB:AV κ Ty→Option Bool
  | .lit u=>(match u with | .bool n=>some n | _=>none)
  | _=>none
def gS:AV κ Ty→Option ByteArray
  | .lit u=>(match u with | .string n=>some n | _=>none)
  | _=>none
def gL (C:Cod κ Ty) (b:Bool) (t:κ):AV κ Ty→Option (List (Ty t))
  | .inl b' t' xs=>(match decide (b'=b) with | true=>C.cast t' t xs | false=>none)
  | _=>none
def gSb (id:Nat):AV κ Ty→Option (Nat×Nat)
  | .sub id' lo hi=>(match Nat.beq id' id with | true=>some (lo,hi) | false=>none)
  | _=>none
def gE (id off:Nat):AV κ Ty→Option Nat
  | .eref id' i off'=>(match Nat.beq id' id&&Nat.beq off' off with | true=>some i | false=>none)
  | _=>none
def gA (id off:Nat):AV κ Ty→Option Nat
  | .rwp id' i off'=>(match Nat.beq id' id&&Nat.beq off' off with | true=>some i | false=>none)
  | _=>none
def gY (id:Nat):AV κ Ty→Option Bool
  | .ref id' off=>(match Nat.beq id' id&&Nat.beq off 0 with | true=>some true | false=>none)
  | .lit u=>(match u with | .pointer q=>(match q with | none=>some false | some _=>none) | _=>none)
  | _=>none
def isV (C:Cod κ Ty):T1 κ→AV κ Ty→Bool
  | .o id, .own id'=>Nat.beq id' id
  | .r id off, .ref id' off'=>Nat.beq id' id&&Nat.beq off' off
  | .m id, .mapv id'=>Nat.beq id' id
  | .w id, .rwv id'=>Nat.beq id' id
  | .n t, .nil t'=>C.same t' t
  | .u, .undef=>true
  | .v, .void=>true
  | .p, .lit u=>(match u with | .pointer q=>(match q with | none=>true | some _=>false) | _=>false)
  | .f, .lit u=>(match u with | .nilIface=>true | _=>false)
  | .z id off, .eref id' i off'=>Nat.beq id' id&&(Nat.beq off' off&&Nat.beq i 0)
  | _,_=>false
def f6_ (C:Cod κ Ty):(t:T1 κ)→AV κ Ty→Option (L1 Ty t)
  | .i k,v=>gI k v
  | .b,v=>gB v
  | .s,v=>gS v
  | .l b t,v=>gL C b t v
  | .sb id,v=>gSb id v
  | .e id off,v=>gE id off v
  | .a id off,v=>gA id off v
  | .y id,v=>gY id v
  | .w id,v=>match isV C (.w id) v with | true=>some () | false=>none
  | .o id,v=>match isV C (.o id) v with | true=>some () | false=>none
  | .r id off,v=>match isV C (.r id off) v with | true=>some () | false=>none
  | .m id,v=>match isV C (.m id) v with | true=>some () | false=>none
  | .n t,v=>match isV C (.n t) v with | true=>some () | false=>none
  | .u,v=>match isV C .u v with | true=>some () | false=>none
  | .v,v=>match isV C .v v with | true=>some () | false=>none
  | .p,v=>match isV C .p v with | true=>some () | false=>none
  | .f,v=>match isV C .f v with | true=>some () | false=>none
  | .z id off,v=>match isV C (.z id off) v with | true=>some () | false=>none
theorem dl_ {C:Cod κ Ty} (HC:bG C) {s t:κ} {xs:List (Ty s)} {ys:List (Ty t)} (h:C.cast s t xs=some ys) {b:Bool}:AV.inl (κ:=κ) (Ty:=Ty) b t ys= .inl b s xs:=by
  obtain ⟨e,h⟩:=HC.cast s t xs ys h
  subst e;subst h;rfl
theorem bP_ {b:Bool} {a:Unit} {x:Option Unit} (h:(match b with | true=>some () | false=>none)=x) (hx:x=some a):b=true:=by
  cases b with
  | true=>rfl
  | false=>subst h;cases hx
theorem gr_ {C:Cod κ Ty} {id:Nat} {v:AV κ Ty} (h:isV C (.o id) v=true):v= .own id:=by
  cases v<;>first | (have:=Nat.eq_of_beq_eq_true h;subst this;rfl) | cases h
theorem fL_ {C:Cod κ Ty} {id off:Nat} {v:AV κ Ty} (h:isV C (.r id off) v=true):v= .ref id off:=by
  cases v<;>first | (simp only [isV,Bool.and_eq_true] at h;have h1:=Nat.eq_of_beq_eq_true h.1;have h2:=Nat.eq_of_beq_eq_true h.2;subst h1;subst h2;rfl) | cases h
theorem gi_ {C:Cod κ Ty} {id:Nat} {v:AV κ Ty} (h:isV C (.m id) v=true):v= .mapv id:=by
  cases v<;>first | (have:=Nat.eq_of_beq_eq_true h;subst this;rfl) | cases h
theorem gg_ {C:Cod κ Ty} {id:Nat} {v:AV κ Ty} (h:isV C (.w id) v=true):v= .rwv id:=by
  cases v<;>first | (have:=Nat.eq_of_beq_eq_true h;subst this;rfl) | cases h
theorem f3_ {C:Cod κ Ty} (HC:bG C) {t:κ} {v:AV κ Ty} (h:isV C (.n t) v=true):v= .nil t:=by
  cases v<;>first | (have:=HC.same _ _ h;subst this;rfl) | cases h
theorem fF_ {C:Cod κ Ty} {v:AV κ Ty} (h:isV C .u v=true):v= .undef:=by cases v<;>first | rfl | cases h
theorem gx_ {C:Cod κ Ty} {v:AV κ Ty} (h:isV C .v v=true):v= .void:=by cases v<;>first | rfl | cases h
theorem fI_ {C:Cod κ Ty} {v:AV κ Ty} (h:isV C .p v=true):v= .lit (.pointer none):=by
  cases v with
  | lit u=>cases u with
    | pointer q=>cases q with
      | none=>rfl
      | some _=>cases h
    | _=>cases h
  | _=>cases h
theorem gl_ {C:Cod κ Ty} {v:AV κ Ty} (h:isV C .f v=true):v= .lit .nilIface:=by
  cases v with
  | lit u=>cases u<;>first | rfl | cases h
  | _=>cases h
theorem fG_ {C:Cod κ Ty} {id off:Nat} {v:AV κ Ty} (h:isV C (.z id off) v=true):v= .eref id 0 off:=by
  cases v with
  | eref id' i off'=>
    simp only [isV,Bool.and_eq_true] at h
    have h1:=Nat.eq_of_beq_eq_true h.1;have h2:=Nat.eq_of_beq_eq_true h.2.1;have h3:=Nat.eq_of_beq_eq_true h.2.2
    subst h1;subst h2;subst h3;rfl
  | _=>cases h
theorem bw_ {C:Cod κ Ty} (HC:bG C):∀(t:T1 κ) (v:AV κ Ty) (a:L1 Ty t),f6_ C t v=some a→mk1 t a=v
  | .i k,v,a,h=>by
    change gI k v=some a at h
    cases v with
    | lit u=>cases u with
      | int k' n=>
        simp only [gI] at h
        by_cases e:k'=k
        ·subst e;simp only [decide_true] at h;cases h;rfl
        ·simp only [e,decide_false] at h;cases h
      | _=>cases h
    | _=>cases h
  | .b,v,a,h=>by
    change gB v=some a at h
    cases v with
    | lit u=>cases u with
      | bool n=>cases h;rfl
      | _=>cases h
    | _=>cases h
  | .s,v,a,h=>by
    change gS v=some a at h
    cases v with
    | lit u=>cases u with
      | string n=>cases h;rfl
      | _=>cases h
    | _=>cases h
  | .l b t,v,a,h=>by
    change gL C b t v=some a at h
    cases v with
    | inl b' t' xs=>
      simp only [gL] at h
      by_cases e:b'=b
      ·subst e;simp only [decide_true] at h;exact dl_ HC h
      ·simp only [e,decide_false] at h;cases h
    | _=>cases h
  | .sb id,v,a,h=>by
    change gSb id v=some a at h
    cases v with
    | sub id' lo hi=>
      simp only [gSb] at h
      split at h
      ·rename_i hb;have:=Nat.eq_of_beq_eq_true hb;subst this;cases h;rfl
      ·cases h
    | _=>cases h
  | .e id off,v,a,h=>by
    change gE id off v=some a at h
    cases v with
    | eref id' i off'=>
      simp only [gE] at h
      split at h
      ·rename_i hb
       simp only [Bool.and_eq_true] at hb
       have h1:=Nat.eq_of_beq_eq_true hb.1;have h2:=Nat.eq_of_beq_eq_true hb.2
       subst h1;subst h2;cases h;rfl
      ·cases h
    | _=>cases h
  | .a id off,v,a,h=>by
    change gA id off v=some a at h
    cases v with
    | rwp id' i off'=>
      simp only [gA] at h
      split at h
      ·rename_i hb
       simp only [Bool.and_eq_true] at hb
       have h1:=Nat.eq_of_beq_eq_true hb.1;have h2:=Nat.eq_of_beq_eq_true hb.2
       subst h1;subst h2;cases h;rfl
      ·cases h
    | _=>cases h
  | .y id,v,a,h=>by
    change gY id v=some a at h
    cases v with
    | ref id' off=>
      simp only [gY] at h
      split at h
      ·rename_i hb
       simp only [Bool.and_eq_true] at hb
       have h1:=Nat.eq_of_beq_eq_true hb.1;have h2:=Nat.eq_of_beq_eq_true hb.2
       subst h1;subst h2;cases h;rfl
      ·cases h
    | lit u=>cases u with
      | pointer q=>cases q with
        | none=>cases h;rfl
        | some _=>cases h
      | _=>cases h
    | _=>cases h
  | .w id,v,a,h=>(gg_ (bP_ rfl h)).symm
  | .o id,v,a,h=>(gr_ (bP_ rfl h)).symm
  | .r id off,v,a,h=>(fL_ (bP_ rfl h)).symm
  | .m id,v,a,h=>(gi_ (bP_ rfl h)).symm
  | .n t,v,a,h=>(f3_ HC (bP_ rfl h)).symm
  | .u,v,a,h=>(fF_ (bP_ rfl h)).symm
  | .v,v,a,h=>(gx_ (bP_ rfl h)).symm
  | .p,v,a,h=>(fI_ (bP_ rfl h)).symm
  | .f,v,a,h=>(gl_ (bP_ rfl h)).symm
  | .z id off,v,a,h=>(fG_ (bP_ rfl h)).symm
def A1 (Ty:κ→Type):List (T1 κ)→Type→Type
  | [],X=>X
  | t::ts,X=>L1 Ty t×A1 Ty ts X
def F1 (Ty:κ→Type):List (T1 κ)→Type→Type
  | [],X=>X
  | t::ts,X=>FL Ty t (F1 Ty ts X)
def C1:(ts:List (T1 κ))→A1 Ty ts X→List (AV κ Ty)×X
  | [],a=>([],a)
  | t::ts,a=>(mk1 t a.1::(C1 ts a.2).1,(C1 ts a.2).2)
def RR:(ts:List (T1 κ))→F1 Ty ts Y→A1 Ty ts X→Y×X
  | [],f,a=>(f,a)
  | t::ts,f,a=>RR ts (apL t f a.1) a.2
def eH_ (C:Cod κ Ty):(ts:List (T1 κ))→List (AV κ Ty)→X→Option (A1 Ty ts X)
  | [],vs,x=>match vs with | []=>some x | _::_=>none
  | t::ts,vs,x=>match vs with
    | []=>none
    | v::vs=>(match f6_ C t v,eH_ C ts vs x with
      | some l,some a=>some (l,a)
      | _,_=>none)
theorem HN {C:Cod κ Ty} (HC:bG C):∀(ts:List (T1 κ)) (vs:List (AV κ Ty)) (x:X) (a:A1 Ty ts X),eH_ C ts vs x=some a→C1 ts a=(vs,x)
  | [],vs,x,a,h=>by
    cases vs with
    | nil=>cases h;rfl
    | cons _ _=>cases h
  | t::ts,vs,x,a,h=>by
    cases vs with
    | nil=>cases h
    | cons v vs=>
      simp only [eH_] at h
      split at h
      ·rename_i l b hl hb
       cases h
       simp only [C1,HN HC ts vs x b hb,bw_ HC t v l hl]
      ·cases h
def A2 (Ty:κ→Type):List (T2 κ)→Type→Type
  | [],X=>X
  | .c t::ts,X=>L1 Ty t×A2 Ty ts X
  | .g cs::ts,X=>A1 Ty cs (A2 Ty ts X)
def F2 (Ty:κ→Type):List (T2 κ)→Type→Type
  | [],X=>X
  | .c t::ts,X=>FL Ty t (F2 Ty ts X)
  | .g cs::ts,X=>F1 Ty cs (F2 Ty ts X)
def xX:(ts:List (T2 κ))→A2 Ty ts X→List (AV κ Ty)×X
  | [],a=>([],a)
  | .c t::ts,a=>(mk1 t a.1::(xX ts a.2).1,(xX ts a.2).2)
  | .g cs::ts,a=>let p:=C1 (X:=A2 Ty ts X) cs a;(.agg p.1::(xX ts p.2).1,(xX ts p.2).2)
def b7_:(ts:List (T2 κ))→F2 Ty ts Y→A2 Ty ts X→Y×X
  | [],f,a=>(f,a)
  | .c t::ts,f,a=>b7_ ts (apL t f a.1) a.2
  | .g cs::ts,f,a=>let p:=RR (Y:=F2 Ty ts Y) (X:=A2 Ty ts X) cs f a;b7_ ts p.1 p.2
def c9_:AV κ Ty→Option (List (AV κ Ty))
  | .agg us=>some us
  | _=>none
theorem aW_ {v:AV κ Ty} {us:List (AV κ Ty)} (h:c9_ v=some us):v= .agg us:=by cases v<;>first | (cases h;rfl) | cases h
def ek_ (C:Cod κ Ty):(ts:List (T2 κ))→List (AV κ Ty)→X→Option (A2 Ty ts X)
  | [],vs,x=>match vs with | []=>some x | _::_=>none
  | .c t::ts,vs,x=>match vs with
    | []=>none
    | v::vs=>(match f6_ C t v,ek_ C ts vs x with
      | some l,some a=>some (l,a)
      | _,_=>none)
  | .g cs::ts,vs,x=>match vs with
    | []=>none
    | v::vs=>(match c9_ v with
      | none=>none
      | some us=>(match ek_ C ts vs x with
        | none=>none
        | some a=>eH_ C cs us a))
theorem IR {C:Cod κ Ty} (HC:bG C):∀(ts:List (T2 κ)) (vs:List (AV κ Ty)) (x:X) (a:A2 Ty ts X),ek_ C ts vs x=some a→xX ts a=(vs,x)
  | [],vs,x,a,h=>by
    cases vs with
    | nil=>cases h;rfl
    | cons _ _=>cases h
  | .c t::ts,vs,x,a,h=>by
    cases vs with
    | nil=>cases h
    | cons v vs=>
      simp only [ek_] at h
      split at h
      ·rename_i l b hl hb
       cases h
       simp only [xX,IR HC ts vs x b hb,bw_ HC t v l hl]
      ·cases h
  | .g cs::ts,vs,x,a,h=>by
    cases vs with
    | nil=>cases h
    | cons v vs=>
      simp only [ek_] at h
      split at h
      ·cases h
      ·rename_i us hu
       split at h
       ·cases h
       ·rename_i b hb
        simp only [xX,HN HC cs us b a h,IR HC ts vs x b hb,aW_ hu]
def AO (Ty:κ→Type):List (TO κ)→Type
  | []=>Unit
  | .d::os=>AO Ty os
  | .x cs::os=>A1 Ty cs (AO Ty os)
  | .l t::os=>List (Ty t)×AO Ty os
  | .m k v::os=>List (Ty k×Ty v)×AO Ty os
  | .w t::os=>List (Ty t)×AO Ty os
  | .q t::os=>List (Ty t)×Nat×AO Ty os
def FO (Ty:κ→Type):List (TO κ)→Type→Type
  | [],X=>X
  | .d::os,X=>FO Ty os X
  | .x cs::os,X=>F1 Ty cs (FO Ty os X)
  | .l t::os,X=>List (Ty t)→FO Ty os X
  | .m k v::os,X=>List (Ty k×Ty v)→FO Ty os X
  | .w t::os,X=>List (Ty t)→FO Ty os X
  | .q t::os,X=>List (Ty t)→Nat→FO Ty os X
def sN:(os:List (TO κ))→AO Ty os→aJ κ Ty
  | [],a=>[]
  | .d::os,a=> .dead::sN os a
  | .x cs::os,a=>let p:=C1 (X:=AO Ty os) cs a; .box p.1::sN os p.2
  | .l t::os,a=> .sl t a.1::sN os a.2
  | .m k v::os,a=> .mp k v a.1 none::sN os a.2
  | .w t::os,a=> .rw t a.1 0 none::sN os a.2
  | .q t::os,a=> .rp t a.1 a.2.1::sN os a.2.2
def ZZ:(os:List (TO κ))→FO Ty os Y→AO Ty os→Y
  | [],f,a=>f
  | .d::os,f,a=>ZZ os f a
  | .x cs::os,f,a=>let p:=RR (Y:=FO Ty os Y) (X:=AO Ty os) cs f a;ZZ os p.1 p.2
  | .l t::os,f,a=>ZZ os (f a.1) a.2
  | .m k v::os,f,a=>ZZ os (f a.1) a.2
  | .w t::os,f,a=>ZZ os (f a.1) a.2
  | .q t::os,f,a=>ZZ os (f a.1 a.2.1) a.2.2
def c5_:AObj κ Ty→Bool | .dead=>true | _=>false
def gA_:AObj κ Ty→Option (List (AV κ Ty)) | .box us=>some us | _=>none
def slC (C:Cod κ Ty) (t:κ):AObj κ Ty→Option (List (Ty t)) | .sl t' xs=>C.cast t' t xs | _=>none
def mpC (C:Cod κ Ty) (k v:κ):AObj κ Ty→Option (List (Ty k×Ty v)) | .mp k' v' es h=>(match h with | none=>C.mcast k' v' k v es | some _=>none) | _=>none
def rwC (C:Cod κ Ty) (t:κ):AObj κ Ty→Option (List (Ty t)) | .rw t' xs g h=>(match h with | none=>(match Nat.beq g 0 with | true=>C.cast t' t xs | false=>none) | some _=>none) | _=>none
def rpC (C:Cod κ Ty) (t:κ):AObj κ Ty→Option (List (Ty t)×Nat) | .rp t' xs n=>(match C.cast t' t xs with | some ys=>some (ys,n) | none=>none) | _=>none
theorem bA_ {o:AObj κ Ty} (h:c5_ o=true):o= .dead:=by cases o<;>first | rfl | cases h
theorem ef_ {o:AObj κ Ty} {us:List (AV κ Ty)} (h:gA_ o=some us):o= .box us:=by cases o<;>first | (cases h;rfl) | cases h
theorem e0_ {C:Cod κ Ty} (HC:bG C) {t:κ} {o:AObj κ Ty} {ys:List (Ty t)} (h:slC C t o=some ys):o= .sl t ys:=by
  cases o with
  | sl t' xs=>
    obtain ⟨e,h⟩:=HC.cast t' t xs ys h
    subst e;subst h;rfl
  | _=>cases h
theorem eO_ {C:Cod κ Ty} (HC:bG C) {t:κ} {o:AObj κ Ty} {ys:List (Ty t)} (h:rwC C t o=some ys):o= .rw t ys 0 none:=by
  cases o with
  | rw t' xs g ho=>
    cases ho with
    | none=>
      simp only [rwC] at h
      split at h
      ·rename_i hb
       have:=Nat.eq_of_beq_eq_true hb
       subst this
       obtain ⟨e,h⟩:=HC.cast t' t xs ys h
       subst e;subst h;rfl
      ·cases h
    | some _=>cases h
  | _=>cases h
theorem eG_ {C:Cod κ Ty} (HC:bG C) {t:κ} {o:AObj κ Ty} {ys:List (Ty t)×Nat} (h:rpC C t o=some ys):o= .rp t ys.1 ys.2:=by
  cases o with
  | rp t' xs n=>
    simp only [rpC] at h
    split at h
    ·rename_i zs hc
     obtain ⟨e,hc⟩:=HC.cast t' t xs zs hc
     subst e;subst hc;cases h;rfl
    ·cases h
  | _=>cases h
theorem eS_ {C:Cod κ Ty} (HC:bG C) {k v:κ} {o:AObj κ Ty} {ys:List (Ty k×Ty v)} (h:mpC C k v o=some ys):o= .mp k v ys none:=by
  cases o with
  | mp k' v' es ho=>
    cases ho with
    | none=>
      obtain ⟨e1,e2,h⟩:=HC.mcast k' v' k v es ys h
      subst e1;subst e2;subst h;rfl
    | some _=>cases h
  | _=>cases h
def WU (C:Cod κ Ty):(os:List (TO κ))→aJ κ Ty→Option (AO Ty os)
  | [],ob=>match ob with | []=>some () | _::_=>none
  | .d::os,ob=>match ob with
    | []=>none
    | o::ob=>(match c5_ o with | true=>WU C os ob | false=>none)
  | .x cs::os,ob=>match ob with
    | []=>none
    | o::ob=>(match gA_ o with
      | none=>none
      | some us=>(match WU C os ob with
        | none=>none
        | some a=>eH_ C cs us a))
  | .l t::os,ob=>match ob with
    | []=>none
    | o::ob=>(match slC C t o,WU C os ob with
      | some ys,some a=>some (ys,a)
      | _,_=>none)
  | .m k v::os,ob=>match ob with
    | []=>none
    | o::ob=>(match mpC C k v o,WU C os ob with
      | some ys,some a=>some (ys,a)
      | _,_=>none)
  | .w t::os,ob=>match ob with
    | []=>none
    | o::ob=>(match rwC C t o,WU C os ob with
      | some ys,some a=>some (ys,a)
      | _,_=>none)
  | .q t::os,ob=>match ob with
    | []=>none
    | o::ob=>(match rpC C t o,WU C os ob with
      | some ys,some a=>some (ys.1,ys.2,a)
      | _,_=>none)
theorem qN {C:Cod κ Ty} (HC:bG C):∀(os:List (TO κ)) (ob:aJ κ Ty) (a:AO Ty os),WU C os ob=some a→sN os a=ob
  | [],ob,a,h=>by
    cases ob with
    | nil=>rfl
    | cons _ _=>cases h
  | .d::os,ob,a,h=>by
    cases ob with
    | nil=>cases h
    | cons o ob=>
      simp only [WU] at h
      split at h
      ·rename_i hd
       simp only [sN,qN HC os ob a h,bA_ hd]
      ·cases h
  | .x cs::os,ob,a,h=>by
    cases ob with
    | nil=>cases h
    | cons o ob=>
      simp only [WU] at h
      split at h
      ·cases h
      ·rename_i us hu
       split at h
       ·cases h
       ·rename_i b hb
        simp only [sN,HN HC cs us b a h,qN HC os ob b hb,ef_ hu]
  | .l t::os,ob,a,h=>by
    cases ob with
    | nil=>cases h
    | cons o ob=>
      simp only [WU] at h
      split at h
      ·rename_i ys b hu hb
       cases h
       simp only [sN,qN HC os ob b hb,e0_ HC hu]
      ·cases h
  | .m k v::os,ob,a,h=>by
    cases ob with
    | nil=>cases h
    | cons o ob=>
      simp only [WU] at h
      split at h
      ·rename_i ys b hu hb
       cases h
       simp only [sN,qN HC os ob b hb,eS_ HC hu]
      ·cases h
  | .w t::os,ob,a,h=>by
    cases ob with
    | nil=>cases h
    | cons o ob=>
      simp only [WU] at h
      split at h
      ·rename_i ys b hu hb
       cases h
       simp only [sN,qN HC os ob b hb,eO_ HC hu]
      ·cases h
  | .q t::os,ob,a,h=>by
    cases ob with
    | nil=>cases h
    | cons o ob=>
      simp only [WU] at h
      split at h
      ·rename_i ys b hu hb
       cases h
       simp only [sN,qN HC os ob b hb,eG_ HC hu]
      ·cases h
abbrev AA (Ty:κ→Type) (vt:List (T2 κ)) (ot:List (TO κ)):Type:=A2 Ty vt (AO Ty ot)
abbrev FF (Ty:κ→Type) (vt:List (T2 κ)) (ot:List (TO κ)) (R:Type):Type:=F2 Ty vt (FO Ty ot R)
def ZM (vt:List (T2 κ)) (ot:List (TO κ)) (f:FF Ty vt ot R) (a:AA Ty vt ot):R:=let p:=b7_ vt f a;ZZ ot p.1 p.2
def UK (vt:List (T2 κ)) (ot:List (TO κ)) (a:AA Ty vt ot):List (AV κ Ty):=(xX vt a).1
def VE (vt:List (T2 κ)) (ot:List (TO κ)) (a:AA Ty vt ot):aJ κ Ty:=sN ot (xX vt a).2
def cL_ (C:Cod κ Ty) (vt:List (T2 κ)) (ot:List (TO κ)) (vs:List (AV κ Ty)) (os:aJ κ Ty):Option (AA Ty vt ot):=
  match WU C ot os with | some x=>ek_ C vt vs x | none=>none
theorem BN {C:Cod κ Ty} (HC:bG C) {vt:List (T2 κ)} {ot:List (TO κ)} {vs:List (AV κ Ty)} {os:aJ κ Ty} {a:AA Ty vt ot} (h:cL_ C vt ot vs os=some a):UK vt ot a=vs∧VE vt ot a=os:=by
  unfold cL_ at h
  split at h
  ·rename_i x hx
   have h1:=IR HC vt vs x a h
   have h2:=qN HC ot os x hx
   simp only [UK,VE,h1]
   exact ⟨trivial,h2⟩
  ·cases h
def ct (C:Cod κ Ty) (slots:List Nat) (vt:List (T2 κ)) (ot:List (TO κ)) (f:Nat→FF Ty vt ot (Option R)):Cut κ Ty R:=
  ⟨slots,fun k vs os=>match cL_ C vt ot vs os with | some a=>ZM vt ot (f k) a | none=>none⟩
def sm (C:Cod κ Ty) (R:Type) (modes:List GP) (vt:List (T2 κ)) (ot:List (TO κ)) (f:Nat→FF Ty vt ot (Option R)) (k:Nat) (rv:List (T2 κ)) (ro:List (TO κ)) (un:R→AA Ty rv ro) (_pk:FF Ty rv ro R) (quiet:Bool):bT κ Ty where
  R:=R
  modes:=modes
  run:=fun args objs=>match cL_ C vt ot args objs with | some a=>ZM vt ot (f k) a | none=>none
  ret:=fun r=>(one (UK rv ro (un r)),VE rv ro (un r))
  quiet:=quiet
theorem JL {C:Cod κ Ty} (HC:bG C) {R:Type} {modes:List GP} {vt:List (T2 κ)} {ot:List (TO κ)} {f:Nat→FF Ty vt ot (Option R)} {k:Nat} {rv:List (T2 κ)} {ro:List (TO κ)} {un:R→AA Ty rv ro} {pk:FF Ty rv ro R} {q:Bool} {args:List (AV κ Ty)} {objs:aJ κ Ty} {r:R}
    (h:(sm C R modes vt ot f k rv ro un pk q).run args objs=some r):∃a,args=UK vt ot a∧objs=VE vt ot a∧ZM vt ot (f k) a=some r:=by
  change (match cL_ C vt ot args objs with | some a=>ZM vt ot (f k) a | none=>none)=some r at h
  split at h
  ·rename_i a ha
   obtain ⟨h1,h2⟩:=BN HC ha
   exact ⟨a,h1.symm,h2.symm,h⟩
  ·cases h
def gz_:AV κ Ty→Option (List (AV κ Ty)) | .tup vs=>some vs | _=>none
theorem dR_ {v:AV κ Ty} {us:List (AV κ Ty)} (h:gz_ v=some us):v= .tup us:=by cases v<;>first | (cases h;rfl) | cases h
def d1_ (n:Nat) (v:AV κ Ty):Option (List (AV κ Ty)):=match Nat.beq n 1 with | true=>some [v] | false=>gz_ v
def dc (C:Cod κ Ty) (rv:List (T2 κ)) (ro:List (TO κ)) (pk:FF Ty rv ro R) (v:AV κ Ty) (os:aJ κ Ty):Option R:=
  match d1_ rv.length v with
  | some vs=>(match cL_ C rv ro vs os with | some a=>some (ZM rv ro pk a) | none=>none)
  | none=>none
theorem sG:∀(ts:List (T2 κ)) (a:A2 Ty ts X),(xX ts a).1.length=ts.length
  | [],a=>rfl
  | .c t::ts,a=>by simp only [xX,List.length_cons,sG ts]
  | .g cs::ts,a=>by simp only [xX,List.length_cons,sG ts]
theorem jU:∀(os:List (TO κ)) (a:AO Ty os),(sN os a).length=os.length
  | [],a=>rfl
  | .d::os,a=>congrArg (· +1) (jU os a)
  | .x cs::os,a=>by simp only [sN,List.length_cons,jU os]
  | .l t::os,a=>by simp only [sN,List.length_cons,jU os]
  | .m k v::os,a=>by simp only [sN,List.length_cons,jU os]
  | .w t::os,a=>by simp only [sN,List.length_cons,jU os]
  | .q t::os,a=>by simp only [sN,List.length_cons,jU os]
theorem aA_ {n:Nat} {v:AV κ Ty} {vs:List (AV κ Ty)} (h:d1_ n v=some vs) (hl:vs.length=n):one vs=v:=by
  unfold d1_ at h
  cases hn:Nat.beq n 1 with
  | true=>rw [hn] at h;cases h;rfl
  | false=>
    rw [hn] at h
    have:=dR_ h
    subst this
    match vs,hl with
    | [],_=>rfl
    | [x],hl=>rw [←hl] at hn;cases hn
    | _::_::_,_=>rfl
def fQ_:(t:T1 κ)→(AV κ Ty→(FL Ty t Y→Y)→Prop)→Prop
  | .i k,K=>∀n:Int,K (.lit (.int k n)) (fun f=>f n)
  | .b,K=>∀n:Bool,K (.lit (.bool n)) (fun f=>f n)
  | .s,K=>∀n:ByteArray,K (.lit (.string n)) (fun f=>f n)
  | .l b t,K=>∀n:List (Ty t),K (.inl b t n) (fun f=>f n)
  | .sb id,K=>∀m n:Nat,K (.sub id m n) (fun f=>f m n)
  | .e id off,K=>∀n:Nat,K (.eref id n off) (fun f=>f n)
  | .a id off,K=>∀n:Nat,K (.rwp id n off) (fun f=>f n)
  | .y id,K=>∀n:Bool,K (bpv id n) (fun f=>f n)
  | .w id,K=>K (.rwv id) (fun f=>f)
  | .o id,K=>K (.own id) (fun f=>f)
  | .r id off,K=>K (.ref id off) (fun f=>f)
  | .m id,K=>K (.mapv id) (fun f=>f)
  | .n t,K=>K (.nil t) (fun f=>f)
  | .u,K=>K .undef (fun f=>f)
  | .v,K=>K .void (fun f=>f)
  | .p,K=>K (.lit (.pointer none)) (fun f=>f)
  | .f,K=>K (.lit .nilIface) (fun f=>f)
  | .z id off,K=>K (.eref id 0 off) (fun f=>f)
theorem bM_ (t:T1 κ) (K:AV κ Ty→(FL Ty t Y→Y)→Prop) (h:fQ_ t K) (a:L1 Ty t):K (mk1 t a) (fun f=>apL t f a):=by
  cases t<;>first | exact h a | exact h a.1 a.2 | exact h
def fy_:(ts:List (T1 κ))→(List (AV κ Ty)→(F1 Ty ts Y→Y)→Prop)→Prop
  | [],K=>K [] (fun f=>f)
  | t::ts,K=>fQ_ t (fun v ap=>fy_ ts (fun vs ap'=>K (v::vs) (fun f=>ap' (ap f))))
theorem VU:∀(ts:List (T1 κ)) (K:List (AV κ Ty)→(F1 Ty ts Y→Y)→Prop),fy_ ts K→∀a:A1 Ty ts X,K (C1 ts a).1 (fun f=>(RR ts f a).1)
  | [],K,h,a=>h
  | t::ts,K,h,a=>VU ts _ (bM_ t _ h a.1) a.2
theorem GE:∀(ts:List (T1 κ)) (f:F1 Ty ts Y) (a:A1 Ty ts X),(RR ts f a).2=(C1 ts a).2
  | [],f,a=>rfl
  | t::ts,f,a=>GE ts (apL t f a.1) a.2
def fA_:(ts:List (T2 κ))→(List (AV κ Ty)→(F2 Ty ts Y→Y)→Prop)→Prop
  | [],K=>K [] (fun f=>f)
  | .c t::ts,K=>fQ_ t (fun v ap=>fA_ ts (fun vs ap'=>K (v::vs) (fun f=>ap' (ap f))))
  | .g cs::ts,K=>fy_ cs (fun us ap=>fA_ ts (fun vs ap'=>K (.agg us::vs) (fun f=>ap' (ap f))))
theorem TH:∀(ts:List (T2 κ)) (K:List (AV κ Ty)→(F2 Ty ts Y→Y)→Prop),fA_ ts K→∀a:A2 Ty ts X,K (xX ts a).1 (fun f=>(b7_ ts f a).1)
  | [],K,h,a=>h
  | .c t::ts,K,h,a=>TH ts _ (bM_ t _ h a.1) a.2
  | .g cs::ts,K,h,a=>by
    have:=TH ts _ (VU (X:=A2 Ty ts X) cs _ h a) (C1 (X:=A2 Ty ts X) cs a).2
    have e:(fun f:F1 Ty cs (F2 Ty ts Y)=>(b7_ ts (RR (X:=A2 Ty ts X) cs f a).1 (RR (X:=A2 Ty ts X) cs f a).2).1)=fun f=>(b7_ ts (RR (X:=A2 Ty ts X) cs f a).1 (C1 (X:=A2 Ty ts X) cs a).2).1:=funext fun f=>by rw [GE cs f a]
    show K _ (fun f:F1 Ty cs (F2 Ty ts Y)=>(b7_ ts (RR (X:=A2 Ty ts X) cs f a).1 (RR (X:=A2 Ty ts X) cs f a).2).1)
    rw [e]
    exact this
theorem NN:∀(ts:List (T2 κ)) (f:F2 Ty ts Y) (a:A2 Ty ts X),(b7_ ts f a).2=(xX ts a).2
  | [],f,a=>rfl
  | .c t::ts,f,a=>NN ts (apL t f a.1) a.2
  | .g cs::ts,f,a=>by
    have e:=GE (Y:=F2 Ty ts Y) (X:=A2 Ty ts X) cs f a
    show (b7_ ts (RR (Y:=F2 Ty ts Y) (X:=A2 Ty ts X) cs f a).1 (RR (Y:=F2 Ty ts Y) (X:=A2 Ty ts X) cs f a).2).2=(xX ts (C1 (X:=A2 Ty ts X) cs a).2).2
    rw [e]
    exact NN ts _ _
def c7_:(os:List (TO κ))→(aJ κ Ty→(FO Ty os Y→Y)→Prop)→Prop
  | [],K=>K [] (fun f=>f)
  | .d::os,K=>c7_ os (fun ob ap=>K (.dead::ob) ap)
  | .x cs::os,K=>fy_ cs (fun us ap=>c7_ os (fun ob ap'=>K (.box us::ob) (fun f=>ap' (ap f))))
  | .l t::os,K=>∀xs:List (Ty t),c7_ os (fun ob ap=>K (.sl t xs::ob) (fun f=>ap (f xs)))
  | .m k v::os,K=>∀xs:List (Ty k×Ty v),c7_ os (fun ob ap=>K (.mp k v xs none::ob) (fun f=>ap (f xs)))
  | .w t::os,K=>∀xs:List (Ty t),c7_ os (fun ob ap=>K (.rw t xs 0 none::ob) (fun f=>ap (f xs)))
  | .q t::os,K=>∀(xs:List (Ty t)) (n:Nat),c7_ os (fun ob ap=>K (.rp t xs n::ob) (fun f=>ap (f xs n)))
theorem zK:∀(os:List (TO κ)) (K:aJ κ Ty→(FO Ty os Y→Y)→Prop),c7_ os K→∀a:AO Ty os,K (sN os a) (fun f=>ZZ os f a)
  | [],K,h,a=>h
  | .d::os,K,h,a=>zK os _ h a
  | .x cs::os,K,h,a=>by
    have:=zK os _ (VU (X:=AO Ty os) cs _ h a) (C1 (X:=AO Ty os) cs a).2
    have e:(fun f:F1 Ty cs (FO Ty os Y)=>ZZ os (RR (X:=AO Ty os) cs f a).1 (RR (X:=AO Ty os) cs f a).2)=fun f=>ZZ os (RR (X:=AO Ty os) cs f a).1 (C1 (X:=AO Ty os) cs a).2:=funext fun f=>by rw [GE cs f a]
    show K _ (fun f:F1 Ty cs (FO Ty os Y)=>ZZ os (RR (X:=AO Ty os) cs f a).1 (RR (X:=AO Ty os) cs f a).2)
    rw [e]
    exact this
  | .l t::os,K,h,a=>zK os _ (h a.1) a.2
  | .m k v::os,K,h,a=>zK os _ (h a.1) a.2
  | .w t::os,K,h,a=>zK os _ (h a.1) a.2
  | .q t::os,K,h,a=>zK os _ (h a.1 a.2.1) a.2.2
def fl_ (vt:List (T2 κ)) (ot:List (TO κ)) (K:List (AV κ Ty)→aJ κ Ty→(FF Ty vt ot R→R)→Prop):Prop:=
  fA_ (Y:=FO Ty ot R) vt (fun vs ap=>c7_ ot (fun os ap'=>K vs os (fun f=>ap' (ap f))))
theorem NX {vt:List (T2 κ)} {ot:List (TO κ)} {K:List (AV κ Ty)→aJ κ Ty→(FF Ty vt ot R→R)→Prop} (h:fl_ vt ot K) (a:AA Ty vt ot):K (UK vt ot a) (VE vt ot a) (fun f=>ZM vt ot f a):=by
  have:=zK ot _ (TH (X:=AO Ty ot) vt _ h a) (xX vt a).2
  unfold UK VE ZM
  simp only [NN]
  exact this
def bu_ (C:Cod κ Ty) (T:TypeId→Option (TI κ Ty)) (fn:Func) (Γ:Nat→FuncId→Option (bT κ Ty)) (cs:List (Nat×Cut κ Ty R)) (m:Nat) (fin:Env κ Ty→aJ κ Ty→Option R) (c:Nat×Cut κ Ty R):Prop:=
  (∀vs os,c.2.fn 0 vs os=none)∧(dX c.1 (pE fn) []).isSome=true∧
     ∀k vs os r,c.2.fn (k+1) vs os=some r→∃n,run C T (Γ k) (lam cs k) (B1 cs) m fin n true (SN c.1 (pE fn)) (wB c.2.slots vs) os=some r
theorem aO {C:Cod κ Ty} (HC:bG C) {T:TypeId→Option (TI κ Ty)} {fn:Func} {Γ:Nat→FuncId→Option (bT κ Ty)} {cs:List (Nat×Cut κ Ty R)} {m:Nat} {fin:Env κ Ty→aJ κ Ty→Option R} {id:Nat} {slots:List Nat} {vt:List (T2 κ)} {ot:List (TO κ)} {f:Nat→FF Ty vt ot (Option R)}
    (there:(dX id (pE fn) []).isSome=true) (zero:fl_ (R:=Option R) vt ot (fun _ _ ap=>ap (f 0)=none))
    (step:∀k,fl_ (R:=Option R) vt ot (fun vs os ap=>run C T (Γ k) (lam cs k) (B1 cs) m fin 4000 true (SN id (pE fn)) (wB slots vs) os=ap (f (k+1)))):bu_ C T fn Γ cs m fin (id,ct C slots vt ot f):=by
  refine ⟨fun vs os=> ?_,there,fun k vs os r h=> ?_⟩
  ·simp only [ct]
   split
   ·exact NX zero _
   ·rfl
  ·simp only [ct] at h
   split at h
   ·rename_i a ha
    obtain ⟨h1,h2⟩:=BN HC ha
    refine ⟨4000, ?_⟩
    show run C T (Γ k) (lam cs k) (B1 cs) m fin 4000 true (SN id (pE fn)) (wB slots vs) os=some r
    rw [←h1,←h2];exact (NX (step k) a).trans h
   ·cases h
theorem bA {P:Program} {C:Cod κ Ty} {T:TypeId→Option (TI κ Ty)} (HC:bG C) {f:FuncId} {S:Type} {modes:List GP} {vt:List (T2 κ)} {ot:List (TO κ)} {g:Nat→FF Ty vt ot (Option S)} {k0:Nat} {rv:List (T2 κ)} {ro:List (TO κ)} {un:S→AA Ty rv ro} {pk:FF Ty rv ro S} {q:Bool} (fn:Func)
    (Γ:Nat→FuncId→Option (bT κ Ty)) (cs:List (Nat×Cut κ Ty S)) (frz:Bool) (rs:List ResultVar) (m:Nat) (gs:List Bool)
    (hm:P.follows .mixedOrders=true) (hf:P.funcs[f]? =some fn)
    (hb1 : (fn.name == "runtime.NumGoroutine") = false) (hb2 : fn.body = some (pE fn)) (hb3 : fn.results.toList = rs)
    (hb:(okC fn.ntmps (pE fn)&&(M1 (PJ (pE fn))&&(Nat.ble vt.length fn.ntmps&&(Nat.beq ot.length m&&Nat.beq gs.length m))))=true)
    (H:∀k,Known P C T (Γ k)) (HQ:∀k,QuietOk (Γ k))
    (hun:∀a,un (ZM rv ro pk a)=a)
    (hc:∀c∈cs,bu_ C T fn Γ cs m (ER C T frz m rs (dc C rv ro pk)) c)
    (hrun:∀k,fl_ (R:=Option S) vt ot (fun vs os ap=>run C T (Γ k) (lam cs k) (B1 cs) m (ER C T frz m rs (dc C rv ro pk)) 4000 false [.code (pE fn)] (wB (List.range (vs.map (GT (KQ gs))).length) (vs.map (GT (KQ gs)))) (ND gs os)=ap (g k))):
    SummOk P C f (sm C S modes vt ot g k0 rv ro un pk q):=by
  simp only [Bool.and_eq_true] at hb
  obtain ⟨hb4,hb5,hb6,hb7,hb8⟩:=hb
  refine ec_ (S:=sm C S modes vt ot g k0 rv ro un pk q) fn Γ cs frz rs m (dc C rv ro pk) hm H HQ hf hb1 hb2 hb3 hb4 hb5 (fun v os r h=> ?_) hc gs (fun args os r h=> ?_)
  ·unfold dc at h
   split at h
   ·rename_i vs hvs
    split at h
    ·rename_i a ha
     cases h
     obtain ⟨h1,h2⟩:=BN HC ha
     show (one (UK rv ro (un (ZM rv ro pk a))),VE rv ro (un (ZM rv ro pk a)))=(v,os)
     rw [hun,h1,h2,aA_ hvs (by rw [←h1];exact sG rv a)]
    ·cases h
   ·cases h
  ·change (match cL_ C vt ot args os with | some a=>ZM vt ot (g k0) a | none=>none)=some r at h
   split at h
   ·rename_i a ha
    obtain ⟨h1,h2⟩:=BN HC ha
    have hl:args.length=vt.length:=by rw [←h1];exact sG vt a
    have hlo:os.length=ot.length:=by rw [←h2];exact jU ot _
    have e7:=Nat.eq_of_beq_eq_true hb7
    have e8:=Nat.eq_of_beq_eq_true hb8
    refine ⟨by have:=Nat.le_of_ble_eq_true hb6;omega,by omega,e8,k0,4000, ?_⟩
    have:=NX (hrun k0) a
    rw [h1,h2] at this
    exact this.trans h
   ·cases h
theorem dP_ {P:Program} {C:Cod κ Ty} {f:FuncId} {S:Type} {modes:List GP} {vt:List (T2 κ)} {ot:List (TO κ)} {g:Nat→FF Ty vt ot (Option S)} {k0:Nat} {rv:List (T2 κ)} {ro:List (TO κ)} {un:S→AA Ty rv ro} {pk:FF Ty rv ro S} {q:Bool} (fn:Func)
    (hf : P.funcs[f]? = some fn) (hb1 : (fn.name == "runtime.NumGoroutine") = false) (hb2 : fn.body.isSome = true) (hz : fl_ (R := Option S) vt ot (fun _ _ ap => ap (g k0) = none)) :
    SummOk P C f (sm C S modes vt ot g k0 rv ro un pk q):=by
  refine ⟨⟨fn,hf,hb1,hb2⟩,fun args os r h=> ?_⟩
  exfalso
  change (match cL_ C vt ot args os with | some a=>ZM vt ot (g k0) a | none=>none)=some r at h
  split at h
  ·rename_i a ha
   have hn:=NX (R:=Option S) hz a
   exact absurd (hn.symm.trans h) (fun e=>by cases e)
  ·cases h
end Km
namespace Km
open Go
theorem aY {x y:ByteArray} (h:x.size+y.size≤140737488355328):iY x y=some (x++y):=by simp [iY,h]
theorem bI {α:Type} {b:Nat} {xs ys:List α} (h:(xs.length+ys.length)*b≤140737488355328):app b xs ys=some (xs++ys):=by simp [app,h]
theorem dF {n:Nat} {lo hi:Int} (h:0≤lo∧lo≤hi∧hi≤n):wnd n lo hi=some (lo.toNat,hi.toNat):=by simp [wnd,h]
theorem j8 {α:Type} (xs:List α) (i:Nat):idx xs (i:Int)=xs[i]? :=by
  unfold idx
  rw [if_neg (by omega)];simp
theorem SK {α:Type} {xs:List α} {i:Nat} (h:i<xs.length):idx xs (i:Int)=some xs[i]:=by rw [j8];exact List.getElem?_eq_getElem h
theorem df_ {a b:Int} (h:b≠0):KP a b=some (a.tmod b):=by simp [KP,h]
theorem dE_ {a b:Int} (h:b≠0):VX a b=some (a.tdiv b):=by simp [VX,h]
theorem w64 {n:Int} (h: -9223372036854775808≤n∧n≤9223372036854775807):IntKind.wrap .i64 n=n:=by rw [IntKind.wrap_i64];omega
theorem aG (x y:ByteArray):(x++y).size=x.size+y.size:=by simp
theorem tQ (bs:List Int):(m6 bs).size=bs.length:=by
  have:∀(bs:List Int) (s:ByteArray),(bs.foldl (fun r n=>r.push (UInt8.ofNat n.toNat)) s).size=s.size+bs.length:=by
    intro bs
    induction bs with
    | nil=>intro s;simp
    | cons b bs ih=>intro s;simp only [List.foldl_cons,ih,ByteArray.size_push,List.length_cons];omega
  unfold m6;rw [this];simp
end Km
namespace Km
open Go
variable {α β S R:Type}
def Wp (f:Nat→Option R) (Q:R→Prop):Prop:=∃r,Q r∧∃N,∀k,N≤k→f k=some r
theorem Wp.ret {r:R} {Q:R→Prop} (h:Q r):Wp (fun _=>some r) Q:=⟨r,h,0,fun _ _=>rfl⟩
theorem Wp.bind {f:Nat→Option α} {g:Nat→α→Option R} {P:α→Prop} {Q:R→Prop} (h:Wp f P) (h':∀x,P x→Wp (fun k=>g k x) Q):Wp (fun k=>(f k).bind (g k)) Q:=by
  obtain ⟨x,hx,N,hN⟩:=h
  obtain ⟨r,hr,M,hM⟩:=h' x hx
  exact ⟨r,hr,max N M,fun k hk=>by show (f k).bind (g k)=some r;rw [hN k (by omega)];exact hM k (by omega)⟩
theorem Wp.opt {o:Option α} {x:α} {g:Nat→α→Option R} {Q:R→Prop} (h:o=some x) (h':Wp (fun k=>g k x) Q):Wp (fun k=>o.bind (g k)) Q:=by
  subst h;exact h'
theorem Wp.mono {f:Nat→Option R} {P Q:R→Prop} (h:Wp f P) (h':∀x,P x→Q x):Wp f Q:=by
  obtain ⟨x,hx,N⟩:=h;exact ⟨x,h' x hx,N⟩
theorem Wp.step {f:Nat→Option R} {Q:R→Prop} (h:Wp (fun k=>f (k+1)) Q):Wp f Q:=by
  obtain ⟨x,hx,N,hN⟩:=h
  exact ⟨x,hx,N+1,fun k hk=>by
    have:f (k-1+1)=some x:=hN (k-1) (by omega)
    rwa [show k-1+1=k by omega] at this⟩
theorem Wp.ite {p:Prop} [Decidable p] {f g:Nat→Option R} {Q:R→Prop} (h1:p→Wp f Q) (h2:¬p→Wp g Q):Wp (fun k=>if p then f k else g k) Q:=by
  by_cases h:p
  ·simpa [h] using h1 h
  ·simpa [h] using h2 h
theorem Wp.bif {b:Bool} {f g:Nat→Option R} {Q:R→Prop} (h1:b=true→Wp f Q) (h2:b=false→Wp g Q):Wp (fun k=>bif b then f k else g k) Q:=by
  cases b
  ·exact h2 rfl
  ·exact h1 rfl
theorem Wp.dec {p:Prop} [Decidable p] {f g:Nat→Option R} {Q:R→Prop} (h1:p→Wp f Q) (h2:¬p→Wp g Q):Wp (fun k=>bif decide p then f k else g k) Q:=
  Wp.bif (fun h=>h1 (of_decide_eq_true h)) (fun h=>h2 (of_decide_eq_false h))
theorem Wp.not {b:Bool} {f g:Nat→Option R} {Q:R→Prop} (h1:b=false→Wp f Q) (h2:b=true→Wp g Q):Wp (fun k=>bif !b then f k else g k) Q:=
  Wp.bif (fun h=>h1 (by simpa using h)) (fun h=>h2 (by simpa using h))
theorem Wp.exists {f:Nat→Option R} {r:R} (h:Wp f (· =r)):∃k,f k=some r:=by
  obtain ⟨x,rfl,N,hN⟩:=h;exact ⟨N,hN N (Nat.le_refl _)⟩
noncomputable def ans [Inhabited R] (f:Nat→Option R):R:=by
  classical exact if h:∃r,Wp f (· =r) then Classical.choose h else default
theorem Wp.loop {n:Nat} {f:Nat→Nat→S→Option R} {Inv:Nat→S→Prop} {Q:R→Prop} (hstep:∀i s,i<n→Inv i s→(∀s',Inv (i+1) s'→Wp (fun k=>f k (i+1) s') Q)→Wp (fun k=>f k i s) Q)
    (hlast:∀s,Inv n s→Wp (fun k=>f k n s) Q):∀(d i:Nat) (s:S),i+d=n→Inv i s→Wp (fun k=>f k i s) Q
  | 0,i,s,h,hi=>by
    obtain rfl:i=n:=by omega
    exact hlast s hi
  | d+1,i,s,h,hi=>hstep i s (by omega) hi fun s' hs'=>Wp.loop hstep hlast d (i+1) s' (by omega) hs'
theorem bR {n:Int} (h1: -9223372036854775808≤n) (h2:n≤9223372036854775807):IntKind.wrap .i64 n=n:=w64 ⟨h1,h2⟩
theorem gG_ {xs:List α} {i:Nat} (h:i<xs.length):idx xs (i:Int)=some xs[i]:=SK h
theorem gB_ {xs:List α} {i:Nat} (h:i<xs.length):xs[(i:Int).toNat]? =some xs[i]:=by rw [Int.toNat_natCast];exact List.getElem?_eq_getElem h
theorem dm_ (i:Nat):(i:Int)+1=((i+1:Nat):Int):=by omega
theorem aL {p:Prop} [Decidable p] {x y:R}:(bif decide p then x else y)=if p then x else y:=by by_cases h:p<;>simp [h]
theorem b9 {b:Bool} {x y:R}:(bif !b then x else y)=bif b then y else x:=by cases b<;>rfl
theorem lW {a b:Int} {x y:R}:(bif a==b then x else y)=if a=b then x else y:=by
  by_cases h:a=b
  ·simp [h]
  ·rw [if_neg h,show (a==b)=false by simpa using h];rfl
theorem AX {a b:Int} {x y:R}:(bif a !=b then x else y)=if a=b then y else x:=by
  by_cases h:a=b
  ·simp [h]
  ·rw [if_neg h,show (a !=b)=true by simpa using h];rfl
theorem OS {a b:ByteArray}:a.toList=b.toList↔a=b:=by
  constructor
  ·intro h
   rw [Go.ByteArray.toList_eq,Go.ByteArray.toList_eq] at h
   apply ByteArray.ext;apply Array.ext';exact h
  ·intro h;rw [h]
theorem cV_ {a b:ByteArray}:(a.toList==b.toList)=decide (a=b):=by
  by_cases h:a=b
  ·simp [h]
  ·simp only [h,decide_false,beq_eq_false_iff_ne,ne_eq];rw [OS];exact h
theorem nO {a b:ByteArray} {x y:R}:(bif a.toList==b.toList then x else y)=if a=b then x else y:=by rw [cV_,aL]
theorem bJ {pre t:List α} {x:α}:idx (pre++x::t) (pre.length:Int)=some x:=by rw [j8];simp
theorem jQ {pre t:List α} {x:α}:(pre++x::t)[Int.toNat (pre.length:Int)]? =some x:=by simp
theorem set_mid {pre t:List α} {x y:α}:(pre++x::t).set (Int.toNat (pre.length:Int)) y=pre++y::t:=by simp
theorem hP {pre t:List α} {x:α}:((pre.length:Int)<((pre++x::t).length:Int)):=by simp;omega
theorem cK (pre t:List α) (x:α):pre++x::t=(pre++[x])++t:=by simp
theorem bS (pre:List α) (x:α):(pre.length:Int)+1=((pre++[x]).length:Int):=by simp
theorem dU_ {b:Nat} {n:Nat} (h:n*b≤140737488355328):room b (n:Int)=some n:=by
  unfold room
  have h':(n:Int)*(b:Int)≤140737488355328:=by
    have:((n*b:Nat):Int)≤((140737488355328:Nat):Int):=Int.ofNat_le.mpr h
    rw [Int.natCast_mul] at this;exact this
  rw [if_pos ⟨Int.natCast_nonneg n,h'⟩,Int.toNat_natCast]
theorem nW {a b:Int} (ha:0≤a) (hb:0<b):KP a b=some (a%b):=by rw [df_ (by omega),Int.tmod_eq_emod_of_nonneg ha]
theorem DI {a b:Int} (ha:0≤a) (hb:0<b):VX a b=some (a/b):=by rw [dE_ (by omega),Int.tdiv_eq_ediv_of_nonneg ha]
end Km
