/- A part of the proof of FnLines: an abstract machine over the program, sound by its theorems. There is no condition. -/
import Derived.Test.YtgffmpjadffjkaaGreatDoorKmAm3
import Derived.KernelRfl
import Derived.Below
import Derived.ChangeArms
import Derived.IntWalk
import Derived.Laws.Strings
set_option linter.unusedVariables false
set_option linter.unusedSimpArgs false
namespace Km
open Go
variable {κ:Type} {Ty:κ→Type} {R α:Type}
theorem F3 (f:List (List Nat)→Oper→List Nat):∀(os:List Oper) (acc:List (List Nat)),∃m,os.foldl (fun acc o=>acc++[f acc o]) acc=acc++m
  | [],acc=>⟨[],by simp⟩
  | o::os,acc=>by
    obtain ⟨m,h⟩:=F3 f os (acc++[f acc o])
    exact ⟨f acc o::m,by simp [h]⟩
theorem LB {i:Nat}:∀{l:List Nat},i∈QI l↔i∈l
  | []=>Iff.rfl
  | j::l=>by
    simp only [QI]
    split
    ·rename_i h
     have hj:=(lG _ _).mp h
     rw [LB,List.mem_cons]
     exact ⟨.inr,fun h=>h.elim (fun e=>e▸hj) id⟩
    ·simp only [List.mem_cons,LB]
theorem TY:∀(os:List Oper) (acc:List (List Nat)) (i e:Nat),acc.length≤i→e∈(os.foldl (fun acc o=>acc++[QI ((iC o).flatMap fun d=>d::acc.getD d [])]) acc).getD i []→
    ∃o,os[i-acc.length]? =some o∧∃d∈iC o,e=d∨e∈(os.foldl (fun acc o=>acc++[QI ((iC o).flatMap fun d=>d::acc.getD d [])]) acc).getD d []
  | [],acc,i,e,hi,h=>by
    simp only [List.foldl_nil] at h
    simp [List.getElem?_eq_none hi] at h
  | o::os,acc,i,e,hi,h=>by
    simp only [List.foldl_cons] at h⊢
    obtain ⟨m,hm⟩:=F3 (fun acc o=>QI ((iC o).flatMap fun d=>d::acc.getD d [])) os (acc++[QI ((iC o).flatMap fun d=>d::acc.getD d [])])
    by_cases he:i=acc.length
    ·subst he
     refine ⟨o,by simp, ?_⟩
     rw [hm] at h
     simp only [List.append_assoc,List.getD_eq_getElem?_getD] at h
     rw [List.getElem?_append_right (Nat.le_refl _)] at h
     simp only [Nat.sub_self,List.cons_append,List.nil_append,List.getElem?_cons_zero,Option.getD_some,LB,List.mem_flatMap,List.mem_cons] at h
     obtain ⟨d,hd,h⟩:=h
     refine ⟨d,hd,h.imp id fun h=> ?_⟩
     rw [hm]
     by_cases hlt:d<acc.length
     ·simp only [List.append_assoc,List.getD_eq_getElem?_getD]
      rw [List.getElem?_append_left hlt];exact h
     ·rw [List.getElem?_eq_none (by omega)] at h;simp at h
    ·obtain ⟨o',h1,h2⟩:=TY os _ i e (by simp;omega) h
     refine ⟨o', ?_,h2⟩
     simp only [List.length_append,List.length_cons,List.length_nil] at h1
     rw [show i-acc.length=(i-(acc.length+(0+1)))+1 by omega];simpa using h1
theorem HM {os:List Oper} {i e:Nat} (h:e∈(QM os).getD i []):∃o,os[i]? =some o∧∃d∈iC o,e=d∨e∈(QM os).getD d []:=by
  have:=TY os [] i e (Nat.zero_le _) h
  exact this
theorem KB {n:Nat}:∀{l:List Nat},PP l n=true→∀i∈l,i<n
  | [],_,i,hi=>by simp at hi
  | j::l,h,i,hi=>by
    simp only [PP] at h
    split at h
    ·rename_i hb
     simp only [List.mem_cons] at hi
     rcases hi with rfl | hi
     ·exact Nat.blt_eq.mp hb
     ·exact KB h i hi
    ·cases h
section
variable {P:Program} {C:Cod κ Ty} {T:TypeId→Option (TI κ Ty)} {Γ:FuncId→Option (bU κ Ty)} {objs objs':aH κ Ty} {env env':Env κ Ty}
variable {Mut:Nat→Prop} {Lent:Org κ Ty} {w0 w w':World} {ρ ρ' ρ2:Nat→Loc} {a:Act} {tm:Array Value} {all:Array Oper}
theorem YE:∀{l:List (Nat×Nat)} {j i:Nat},dz_ l j i=true→(j,i)∈l
  | [],_,_,h=>by cases h
  | (a,b)::l,j,i,h=>by
    simp only [dz_] at h
    split at h
    ·rename_i e
     simp only [Bool.and_eq_true] at e
     rw [Nat.eq_of_beq_eq_true e.1,Nat.eq_of_beq_eq_true e.2];exact List.mem_cons_self ..
    ·exact List.mem_cons_of_mem _ (YE h)
def Chk (ex:List (Nat×Nat)) (all:Array Oper) (anc:List (List Nat)) (x y:Nat×Oper×BI):Prop:=dz_ ex x.1 y.1=true∨x.1∈anc.getD y.1 []∨(FM all x.2.1 y.2.1=true∧B4 x.2.2 y.2.2=true)
def em_ (ex:List (Nat×Nat)) (anc:List (List Nat)) (x y:Nat×Oper×BI):Prop:=dz_ ex x.1 y.1=true∨x.1∈anc.getD y.1 []∨B4 x.2.2 y.2.2=true
theorem AW {ex:List (Nat×Nat)} {anc:List (List Nat)} {i:Nat} {o:Oper} {f:BI}:∀{log:List (Nat×Oper×BI)},KQ ex i (anc.getD i []) f log=true→∀x∈log,em_ ex anc x (i,o,f)
  | [],_,x,hx=>by simp at hx
  | (j,p,g)::l,h,x,hx=>by
    simp only [KQ] at h
    split at h
    ·rename_i hc
     simp only [List.mem_cons] at hx
     rcases hx with rfl | hx
     ·simp only [Bool.or_eq_true] at hc
      rcases hc with hc | hc | hc
      ·exact .inl hc
      ·exact .inr (.inl ((lG _ _).mp hc))
      ·exact .inr (.inr hc)
     ·exact AW h x hx
    ·cases h
theorem YF {f:BI} (h:dM_ f=true):f.loud=false∧f.writes=[]:=by
  unfold dM_ at h
  split at h
  ·cases h
  ·rename_i hl;exact ⟨hl,isNil_iff.mp h⟩
theorem de_ (l:List Nat):disj l []=true:=(CT _ _).mpr fun i _ h=>by simp at h
theorem e6_ {f g:BI} (hf:dM_ f=true) (hg:dM_ g=true):B4 f g=true:=by
  obtain ⟨f1,f2⟩:=YF hf
  obtain ⟨g1,g2⟩:=YF hg
  unfold B4
  rw [f1,f2,g2]
  simp [de_]
def bt_ (ex:List (Nat×Nat)) (all:Array Oper) (anc:List (List Nat)) (x y:Nat×Oper):Prop:=dz_ ex x.1 y.1=true∨x.1∈anc.getD y.1 []∨FM all x.2 y.2=true
theorem JJ {ex:List (Nat×Nat)} {anc:List (List Nat)} {i:Nat} {o:Oper}:∀{l:List (Nat×Oper)},XD ex all anc i o l=true→∀x∈l,bt_ ex all anc (i,o) x
  | [],_,x,hx=>by simp at hx
  | (j,p)::l,h,x,hx=>by
    simp only [XD] at h
    split at h
    ·rename_i hc
     simp only [List.mem_cons] at hx
     rcases hx with rfl | hx
     ·simp only [Bool.or_eq_true] at hc
      rcases hc with hc | hc | hc
      ·exact .inl hc
      ·exact .inr (.inl ((lG _ _).mp hc))
      ·exact .inr (.inr hc)
     ·exact JJ h x hx
    ·cases h
theorem JN {ex:List (Nat×Nat)} {anc:List (List Nat)}:∀{l:List (Nat×Oper)},TU ex all anc l=true→l.Pairwise (bt_ ex all anc)∧∀x∈l,∀d∈iC x.2,d<x.1
  | [],_=>⟨.nil,fun x hx=>by simp at hx⟩
  | (i,o)::l,h=>by
    simp only [TU] at h
    split at h
    ·rename_i hc
     simp only [Bool.and_eq_true] at hc
     obtain ⟨h1,h2⟩:=JN h
     refine ⟨.cons (JJ hc.2) h1,fun x hx d hd=> ?_⟩
     simp only [List.mem_cons] at hx
     rcases hx with rfl | hx
     ·exact KB hc.1 d hd
     ·exact h2 x hx d hd
    ·cases h
theorem X5 {ex:List (Nat×Nat)} {anc:List (List Nat)}:∀{l:List (Nat×Oper×BI)},l.Pairwise (em_ ex anc)→(l.map fun x=>(x.1,x.2.1)).Pairwise (bt_ ex all anc)→l.Pairwise (Chk ex all anc)
  | [],_,_=> .nil
  | x::l,h,g=>by
    obtain ⟨h1,h2⟩:=List.pairwise_cons.mp h
    simp only [List.map_cons] at g
    obtain ⟨g1,g2⟩:=List.pairwise_cons.mp g
    refine .cons (fun y hy=> ?_) (X5 h2 g2)
    have a:=h1 y hy
    have b:=g1 _ (List.mem_map_of_mem hy)
    rcases a with a | a | a
    ·exact .inl a
    ·exact .inr (.inl a)
    ·rcases b with b | b | b
     ·exact .inl b
     ·exact .inr (.inl b)
     ·exact .inr (.inr ⟨b,a⟩)
theorem num_mem:∀{os:List Oper} {n i:Nat} {o:Oper},(i,o)∈num n os↔n≤i∧os[i-n]? =some o
  | [],n,i,o=>by simp [num]
  | p::os,n,i,o=>by
    simp only [num,List.mem_cons,Prod.mk.injEq]
    rw [num_mem]
    constructor
    ·rintro (⟨rfl,rfl⟩ | ⟨h1,h2⟩)
     ·simp
     ·refine ⟨by omega, ?_⟩
      rw [show i-n=(i-(n+1))+1 by omega];simpa using h2
    ·rintro ⟨h1,h2⟩
     by_cases e:i=n
     ·subst e;simp at h2;exact .inl ⟨rfl,h2.symm⟩
     ·refine .inr ⟨by omega, ?_⟩
      rw [show i-n=(i-(n+1))+1 by omega] at h2;simpa using h2
theorem OF:∀(os:List Oper) (n:Nat),(num n os).Pairwise fun x y=>x.1<y.1
  | [],_=> .nil
  | o::os,n=> .cons (fun x hx=>by
    obtain ⟨i,o'⟩:=x
    have:=(num_mem.mp hx).1
    exact this) (OF os (n+1))
theorem D2:∀(os:List Oper) (n:Nat),(num n os).length=os.length
  | [],n=>rfl
  | o::os,n=>by simp [num,D2 os]
theorem b8_ {o:Oper} {K:Env κ Ty→Option R} {r:R} (h:gA_ all o env K=some r):∃env1,K env1=some r∧∀t,look env1 t=look env t:=by
  unfold gA_ at h
  split at h
  ·exact ⟨env,h,fun _=>rfl⟩
  ·split at h
   ·exact ⟨env,h,fun _=>rfl⟩
   ·rename_i d hd
    split at h
    ·rename_i b hb
     refine ⟨_,BJ h,fun t=> ?_⟩
     rw [nN]
     split
     ·rename_i e;rw [e,hb]
     ·rfl
    ·exact ⟨env,h,fun _=>rfl⟩
theorem YV {ex:List (Nat×Nat)} {anc:List (List Nat)} {K:Env κ Ty→aH κ Ty→Option R} {r:R}:∀{os:List (Nat×Oper)} {log logN:List (Nat×Oper×BI)} {env:Env κ Ty} {objs:aH κ Ty},(∀x∈log,x∈logN∨dM_ x.2.2=true)→QD C T ex Γ all anc os log logN env objs K=some r→
    ∃l e2 o2 e3,Tr C T Γ all os env objs l e2 o2∧K e3 o2=some r∧(∀t,look e3 t=look e2 t)∧l.Pairwise (em_ ex anc)∧(∀x∈log,∀y∈l,em_ ex anc x y)
  | [],log,logN,env,objs,_,h=>⟨[],env,objs,env, .nil,h,fun _=>rfl, .nil,fun x _ y hy=>by simp at hy⟩
  | (i,o)::os,log,logN,env,objs,hN,h=>by
    simp only [QD] at h
    obtain ⟨env0,h,g0⟩:=b8_ h
    have fin:∀(logN':List (Nat×Oper×BI)),(∀x∈((i,o,fH C T Γ all o env0 objs)::log),x∈logN'∨dM_ x.2.2=true)→PP (fH C T Γ all o env0 objs).reads objs.length=true→(∀x∈log,em_ ex anc x (i,o,fH C T Γ all o env0 objs))→
     (yN C T Γ all o env0 objs fun env' objs'=>QD C T ex Γ all anc os ((i,o,fH C T Γ all o env0 objs)::log) logN' env' objs' K)=some r→
     ∃l e2 o2 e3,Tr C T Γ all ((i,o)::os) env objs l e2 o2∧K e3 o2=some r∧(∀t,look e3 t=look e2 t)∧l.Pairwise (em_ ex anc)∧(∀x∈log,∀y∈l,em_ ex anc x y):=by
      intro logN' hN' c2 c3 h
      obtain ⟨v,o1,env1,d1,d2,d3⟩:=Z5 h
      obtain ⟨l,e2,o2,e3,t1,t2,t3,t4,t5⟩:=YV hN' d2
      obtain ⟨e2',s1,s2⟩:=t1.look (env':=put o env0 v) (fun t=>(d3 t).symm)
      have tr0:Tr C T Γ all ((i,o)::os) env0 objs _ e2' o2:= .cons d1 (KB c2) s1
      obtain ⟨e2'',u1,u2⟩:=tr0.look (env':=env) (fun t=>(g0 t).symm)
      refine ⟨_,e2'',o2,e3,u1,t2,fun t=>(t3 t).trans ((s2 t).symm.trans (u2 t).symm), .cons (fun y hy=>t5 _ (List.mem_cons_self ..) y hy) t4,fun x hx y hy=> ?_⟩
      simp only [List.mem_cons] at hy
      rcases hy with rfl | hy
      ·exact c3 x hx
      ·exact t5 x (List.mem_cons_of_mem _ hx) y hy
    replace h:(match dM_ (fH C T Γ all o env0 objs) with
      | true=>(match PP (fH C T Γ all o env0 objs).reads objs.length&&KQ ex i (anc.getD i []) (fH C T Γ all o env0 objs) logN with
        | true=>yN C T Γ all o env0 objs fun env' objs'=>QD C T ex Γ all anc os ((i,o,fH C T Γ all o env0 objs)::log) logN env' objs' K
        | false=>none)
      | false=>(match PP (fH C T Γ all o env0 objs).reads objs.length&&KQ ex i (anc.getD i []) (fH C T Γ all o env0 objs) log with
        | true=>yN C T Γ all o env0 objs fun env' objs'=>QD C T ex Γ all anc os ((i,o,fH C T Γ all o env0 objs)::log) ((i,o,fH C T Γ all o env0 objs)::logN) env' objs' K
        | false=>none))=some r:=h
    split at h
    ·rename_i htm
     split at h
     ·rename_i hc
      simp only [Bool.and_eq_true] at hc
      refine fin logN (fun x hx=> ?_) hc.1 (fun x hx=> ?_) h
      ·simp only [List.mem_cons] at hx
       rcases hx with rfl | hx
       ·exact .inr htm
       ·exact hN x hx
      ·rcases hN x hx with h1 | h1
       ·exact AW hc.2 x h1
       ·exact .inr (.inr (e6_ h1 htm))
     ·cases h
    ·rename_i htm
     split at h
     ·rename_i hc
      simp only [Bool.and_eq_true] at hc
      refine fin _ (fun x hx=> ?_) hc.1 (fun x hx=>AW hc.2 x hx) h
      simp only [List.mem_cons] at hx⊢
      rcases hx with rfl | hx
      ·exact .inl (.inl rfl)
      ·exact (hN x hx).imp .inr id
     ·cases h
theorem Tr.heads {L:List (Nat×Oper)} {l:List (Nat×Oper×BI)} {e2:Env κ Ty} {o2:aH κ Ty} (h:Tr C T Γ all L env objs l e2 o2):l.map (fun x=>(x.1,x.2.1))=L:=by
  induction h with
  | nil=>rfl
  | cons hd hr ht ih=>simp [ih]
def E8 (T:TypeId→Option (TI κ Ty)) (o:Oper) (env:Env κ Ty):List Nat:=o.op.operands.toList.flatMap fun x=>cU (iV T env 0 x)
theorem QY:∀{xs:List Operand} {ts:List TypeId},∀i∈(jQ T env xs ts).flatMap cU,i∈xs.flatMap fun x=>cU (iV T env 0 x)
  | [],ts,i,hi=>by simp [jQ] at hi
  | x::xs,[],i,hi=>by simp [jQ] at hi
  | x::xs,t::ts,i,hi=>by
    simp only [jQ,List.flatMap_cons,List.mem_append] at hi⊢
    exact hi.imp (fun h=>by rw [yB 0 t];exact h) (QY i)
theorem NM {o:Oper} (h:(bB C T Γ o env objs).loud=false):∀i∈(bB C T Γ o env objs).reads,i∈E8 T o env:=by
  intro i hi
  obtain ⟨dst,op,type,pos,after,guard⟩:=o
  simp only [E8]
  cases op with
  | buildSlice t n ps=>
    simp only [bB] at hi h
    split at h
    ·rename_i hnil;rw [hnil] at hi;simp at hi
    ·split at h
     ·rename_i hk;simp [hk] at hi
     ·cases h
  | load t a=>simpa [bB,fG,Op.operands] using hi
  | convert s d x=>
    simp only [bB,fG] at hi h
    rw [yB _ 0] at hi
    split at hi
    ·split at hi
     ·simp at hi
     ·simpa [Op.operands] using hi
    ·simp at hi
  | nilCheck x=>
    simp only [bB,fG] at hi
    rw [yB _ 0] at hi
    simpa [Op.operands] using hi
  | indexAddr t x y=>
    simp only [bB,fG] at hi
    rw [yB _ 0] at hi
    simp only [Op.operands];simp;exact .inl hi
  | slice t x lo hi' mx=>
    simp only [bB,fG] at hi
    rw [yB _ 0] at hi
    simp only [Op.operands];simp;exact .inl hi
  | fieldAddr s x f=>simpa [bB,fG,Op.operands] using hi
  | lookup t m x ok=>
    cases ok with
    | true=>simp [bB] at hi
    | false=>
    simp only [bB,fG] at hi h
    split at hi
    ·rename_i ti ht
     simp only [ht] at h
     split at hi
     ·rename_i kt et k v hs
      simp only [hs] at h
      split at hi
      ·rename_i te hte
       simp only [hte] at h
       split at hi
       ·simp only [Op.operands];simp;exact .inl hi
       ·rename_i hz
        split at h
        ·rename_i z hz';exact absurd hz' (hz z)
        ·cases h
      ·simp at hi
     ·simp at hi
    ·simp at hi
  | call c=>
    have key:∀i∈(jQ T env c.args.toList c.argTypes.toList).flatMap cU,i∈(Op.call c).operands.toList.flatMap fun x=>cU (iV T env 0 x):=fun i hi=>by
      have:=QY i hi
      simp only [List.mem_flatMap] at this⊢
      obtain ⟨x,hx,h⟩:=this
      exact ⟨x,by simp only [Op.operands,Call.operands];simp;exact .inr (by simpa using hx),h⟩
    simp only [bB] at hi h
    split at hi
    ·split at hi
     ·exact key i hi
     ·exact key i hi
     ·simp_all
    ·split at hi
     ·split at hi
      ·split at hi
       ·exact key i hi
       ·simp_all
      ·simp at hi
     ·simp at hi
    ·simp at hi
  | _=>simp_all [bB]
theorem VF {o:Oper} (h:(fH C T Γ all o env objs).loud=false):∀i∈(fH C T Γ all o env objs).reads,i∈E8 T o env:=by
  unfold fH at h⊢
  split
  ·rename_i hg;rw [hg] at h;exact NM h
  ·rename_i j want hg
   rw [hg] at h;dsimp only at h
   split
   ·intro i hi;simp at hi
   ·rename_i d hd
    rw [hd] at h;dsimp only at h
    split
    ·rename_i b hb
     rw [hb] at h;dsimp only at h
     split
     ·rename_i he;rw [he] at h;exact NM h
     ·intro i hi;simp at hi
    ·intro i hi;simp at hi
    ·intro i hi;simp at hi
theorem Tr.foot_front {i:Nat} {oi:Oper} {f:BI} {L2:List (Nat×Oper)} {l2:List (Nat×Oper×BI)} {e2:Env κ Ty} {o2:aH κ Ty}:∀{L1:List (Nat×Oper)} {l1:List (Nat×Oper×BI)} {env:Env κ Ty} {objs:aH κ Ty},
    L1.length=l1.length→Tr C T Γ all (L1++(i,oi)::L2) env objs (l1++(i,oi,f)::l2) e2 o2→(∀x∈l1,FM all x.2.1 oi=true)→
    (f.loud=false→∀id∈f.reads,id∈E8 T oi env)∧∃objs1:aH κ Ty,(∀id∈f.reads,id<objs1.length)∧((∀x∈l1,x.2.2.loud=false)→QuietOk Γ→objs1=objs)
  | [],[],env,objs,_,h,_=>by
    cases h with
    | cons hd hr ht=>exact ⟨fun hl=>VF hl,objs,hr,fun _ _=>rfl⟩
  | [],_::_,_,_,hl,_,_=>by simp at hl
  | _::_,[],_,_,hl,_,_=>by simp at hl
  | (j,oj)::L1,x::l1,env,objs,hl,h,hc=>by
    simp only [List.cons_append] at h
    cases h with
    | cons hd hr ht=>
      rename_i vj oa
      obtain ⟨h1,o1,h2,h3⟩:=Tr.foot_front (by simpa using hl) ht (fun x hx=>hc x (List.mem_cons_of_mem _ hx))
      obtain ⟨p1,p2,p3⟩:=IG (hc _ (List.mem_cons_self ..))
      refine ⟨fun hq id hid=> ?_,o1,h2,fun ha hQ=> ?_⟩
      ·have:=h1 hq id hid
       have ha:AgreeO all oi env (put oj env vj):=KR p1
       simp only [E8,List.mem_flatMap] at this⊢
       obtain ⟨x,hx,h⟩:=this
       exact ⟨x,hx,by rw [yD ha.ops 0 hx] at h;exact h⟩
      ·have:=h3 (fun x hx=>ha x (List.mem_cons_of_mem _ hx)) hQ
       rw [this]
       exact ((ES hQ hd).2 (ha _ (List.mem_cons_self ..))).1
theorem bW_ (HT:TOk P C T) (S:SRel C Mut Lent w0 ρ env objs a.tmps w) (o:Oper):∀i∈E8 T o env,i<objs.length:=by
  intro i hi
  simp only [E8,List.mem_flatMap] at hi
  obtain ⟨x,hx,h⟩:=hi
  exact AC (aX HT S 0 x) i h
theorem a2_ (hdep:∀(k:Nat) (o:Oper),all[k]? =some o→∀d∈iC o,d<k) {listed:Array Bool} (hls:listed.size=all.size) (hr:Region.ready .any all listed=[]):∀(n k:Nat) (o:Oper),k<n→all[k]? =some o→listed.getD k true=false→False:=by
  intro n
  induction n with
  | zero=>intro k o hk;omega
  | succ n ih=>
    intro k o hk ho hl
    have:k∈Region.ready .any all listed:=mem_ready.mpr ⟨hl,o,ho,fun e he hb=> ?_⟩
    ·rw [hr] at this;simp at this
    ·have hdm:e.on∈iC o:=by
       simp only [iC,List.mem_map,List.mem_filter]
       exact ⟨e,⟨by simpa using he,hb⟩,rfl⟩
     have hlt:=hdep k o ho _ hdm
     have hi:=(Array.getElem?_eq_some_iff.mp ho).1
     by_cases hu:listed.getD e.on false=true
     ·exact hu
     ·exfalso
      have hsz':e.on<listed.size:=by omega
      have hu':listed.getD e.on true=false:=by
        simp only [Array.getD,hsz',dite_true] at hu⊢
        simpa using hu
      exact ih e.on all[e.on] (by omega) (Array.getElem?_eq_getElem (by omega)) hu'
theorem zV {l:Array Bool} {i k:Nat} (h:l.getD k true=true):(l.setIfInBounds i true).getD k true=true:=by
  by_cases hk:k=i
  ·subst hk
   simp only [Array.getD]
   split
   ·simp
   ·rfl
  ·rw [getD_set_ne true (Ne.symm hk)];exact h
structure gt_ (C:Cod κ Ty) (T:TypeId→Option (TI κ Ty)) (Γ:FuncId→Option (bU κ Ty)) (all:Array Oper) (ex:List (Nat×Nat)) (L:List (Nat×Oper)) (l:List (Nat×Oper×BI)) (listed:Array Bool) (env:Env κ Ty) (objs:aH κ Ty) (e2:Env κ Ty) (o2:aH κ Ty):Prop where
  tr:∃e2',Tr C T Γ all L env objs l e2' o2∧∀t,look e2' t=look e2 t
  chk:l.Pairwise (Chk ex all (QM all.toList))
  nodup:(L.map (·.1)).Nodup
  mem:∀i o,(i,o)∈L↔all[i]? =some o∧listed.getD i true=false
theorem Y8 (H:Known P C T Γ) (hQ:QuietOk Γ) {ex:List (Nat×Nat)} {e2:Env κ Ty} {o2:aH κ Ty} (hdep:∀(k:Nat) (o:Oper),all[k]? =some o→∀d∈iC o,d<k) {L:List (Nat×Oper)} {l:List (Nat×Oper×BI)} {listed:Array Bool}
    (hS:∀(o:Oper),∀i∈E8 T o env,i<objs.length) (F:gt_ C T Γ all ex L l listed env objs e2 o2) (hls:listed.size=all.size) (hcl:∀k o,all[k]? =some o→listed.getD k false=true→∀d∈iC o,listed.getD d false=true)
    {i:Nat} {o:Oper} (h0:listed.getD i true=false) (ho:all[i]? =some o) (hall:∀e∈o.after,Region.binds .any e=true→listed.getD e.on false=true) (hex:∀a b,(a,b)∈ex→b=i→listed.getD a true=true):
    ∃v o1 env1 L' l',PD C T Γ all o env objs v o1∧yN C T Γ all o env objs (fun e b=>some (e,b))=some (env1,o1)∧gt_ C T Γ all ex L' l' (listed.setIfInBounds i true) env1 o1 e2 o2∧L'.length+1=L.length∧(∀x∈l',x∈l)∧∀x∈L',x.1≠i:=by
  obtain ⟨⟨e2',ht,he⟩,hp,hs,hL⟩:=F
  have hmem:=(hL i o).mpr ⟨ho,h0⟩
  obtain ⟨L1,L2,rfl⟩:=List.append_of_mem hmem
  have hh:=ht.heads
  obtain ⟨l1,x,l2,rfl,hl1,hx⟩:∃l1 x l2,l=l1++x::l2∧L1.length=l1.length∧(x.1,x.2.1)=(i,o):=by
    have hlen:l.length=(L1++(i,o)::L2).length:=by rw [←hh];simp
    refine ⟨l.take L1.length,l[L1.length]'(by rw [hlen];simp),l.drop (L1.length+1),by simp,by simp [hlen], ?_⟩
    have:(l.map fun x=>(x.1,x.2.1))[L1.length]? =some (i,o):=by rw [hh];simp
    simp only [List.getElem?_map,Option.map_eq_some_iff] at this
    obtain ⟨y,h1,h2⟩:=this
    rw [List.getElem?_eq_getElem (by rw [hlen];simp)] at h1
    cases h1;exact h2
  obtain ⟨i',o',f⟩:=x
  simp only [Prod.mk.injEq] at hx
  obtain ⟨rfl,rfl⟩:=hx
  have hanc:∀n k,k<n→listed.getD k false=true→∀e∈(QM all.toList).getD k [],listed.getD e false=true:=by
    intro n
    induction n with
    | zero=>intro k hk;omega
    | succ n ihn=>
      intro k hk hlk e hek
      obtain ⟨p,hp1,d,hd1,hd2⟩:=HM hek
      have hp1:all[k]? =some p:=by simpa using hp1
      have hdl:=hcl k p hp1 hlk d hd1
      rcases hd2 with rfl | hd2
      ·exact hdl
      ·exact ihn d (by have:=hdep k p hp1 d hd1;omega) hdl e hd2
  have hfree:∀x∈l1,FM all x.2.1 o'=true∧B4 x.2.2 f=true:=by
    intro x hx
    have hxm:(x.1,x.2.1)∈L1++(i',o')::L2:=by rw [←hh];exact List.mem_map.mpr ⟨x,by simp [hx],rfl⟩
    have hxu:=((hL _ _).mp hxm)
    rcases (List.pairwise_append.mp hp).2.2 x hx _ (List.mem_cons_self ..) with h | h | h
    ·exfalso
     have h3:=hex x.1 i' (YE h) rfl
     rw [hxu.2] at h3;cases h3
    ·exfalso
     obtain ⟨p,hp1,d,hd1,hd2⟩:=HM h
     have hp1:all[i']? =some p:=by simpa using hp1
     rw [ho] at hp1;cases hp1
     have hdl:listed.getD d false=true:=by
       simp only [iC,List.mem_map,List.mem_filter] at hd1
       obtain ⟨e,⟨e1,e2⟩,rfl⟩:=hd1
       exact hall e (by simpa using e1) e2
     have hxl:listed.getD x.1 false=true:=by
       rcases hd2 with hd2 | hd2
       ·rw [hd2];exact hdl
       ·exact hanc (d+1) d (by omega) hdl _ hd2
     have hxs:x.1<listed.size:=by rw [hls];exact (Array.getElem?_eq_some_iff.mp hxu.1).1
     have:=hxu.2
     simp only [Array.getD,hxs,dite_true] at this hxl
     rw [this] at hxl;cases hxl
    ·exact h
  obtain ⟨q1,oq,q2,q3⟩:=ht.foot_front hl1 (fun x hx=>(hfree x hx).1)
  have hreads:∀id∈f.reads,id<objs.length:=by
    cases hlf:f.loud with
    | false=>exact fun id hid=>hS o' id (q1 hlf id hid)
    | true=>
      have:=q3 (fun x hx=>by
        rcases (OB (hfree x hx).2).1 with h | h
        ·exact h
        ·rw [hlf] at h;cases h) hQ
      rw [this] at q2;exact q2
  obtain ⟨v,o1,e3,r1,r2,r3,r4⟩:=ht.front hQ hl1 hfree hreads
  obtain ⟨env1,s1,s2⟩:=Z0 r1
  have hsub:(L1++L2).Sublist (L1++(i',o')::L2):=List.Sublist.append_left (List.sublist_cons_self _ _) _
  have hsubl:(l1++l2).Sublist (l1++(i',o',f)::l2):=List.Sublist.append_left (List.sublist_cons_self _ _) _
  have hne:∀x∈L1++L2,x.1≠i':=by
    intro x hx
    simp only [List.map_append,List.map_cons] at hs
    have hpw:=List.nodup_append.mp hs
    simp only [List.mem_append] at hx
    rcases hx with hx | hx
    ·exact hpw.2.2 x.1 (List.mem_map_of_mem hx) i' (List.mem_cons_self ..)
    ·have:=(List.nodup_cons.mp hpw.2.1).1
     rintro e
     exact this (e▸List.mem_map_of_mem hx)
  have hil:i'<listed.size:=by rw [hls];exact (Array.getElem?_eq_some_iff.mp ho).1
  obtain ⟨e4,t1,t2⟩:=r3.look (env':=env1) s1
  refine ⟨v,o1,env1,L1++L2,l1++l2,r1,s2,⟨⟨e4,t1,fun t=>(t2 t).trans ((r4 t).trans (he t))⟩,hp.sublist hsubl,hs.sublist (hsub.map _),fun k p=> ?_⟩,by simp;omega,fun x hx=>hsubl.subset hx,hne⟩
  constructor
  ·intro hm
   obtain ⟨m1,m2⟩:=(hL k p).mp (hsub.subset hm)
   exact ⟨m1,by rw [getD_set_ne true (Ne.symm (hne _ hm))];exact m2⟩
  ·rintro ⟨m1,m2⟩
   have hki:k≠i':=by
     rintro rfl
     simp [Array.getD,hil] at m2
   rw [getD_set_ne true (Ne.symm hki)] at m2
   have:=(hL k p).mpr ⟨m1,m2⟩
   simp only [List.mem_append,List.mem_cons,Prod.mk.injEq] at this⊢
   rcases this with h | ⟨h,_⟩ | h
   ·exact .inl h
   ·exact absurd h hki
   ·exact .inr h
theorem KZ {listed:Array Bool} {i:Nat} {o:Oper} (ho:all[i]? =some o) (hall:∀e∈o.after,Region.binds .any e=true→listed.getD e.on false=true) (hcl:∀k o,all[k]? =some o→listed.getD k false=true→∀d∈iC o,listed.getD d false=true):
    ∀k o,all[k]? =some o→(listed.setIfInBounds i true).getD k false=true→∀d∈iC o,(listed.setIfInBounds i true).getD d false=true:=by
  intro k p hk hlk d hdd
  by_cases hki:k=i
  ·subst hki
   rw [ho] at hk;cases hk
   simp only [iC,List.mem_map,List.mem_filter] at hdd
   obtain ⟨e,⟨e1,e2⟩,rfl⟩:=hdd
   exact getD_set_true (hall e (by simpa using e1) e2)
  ·rw [getD_set_ne false (Ne.symm hki)] at hlk
   exact getD_set_true (hcl k p hk hlk d hdd)
theorem elemN_mem':∀{l:List Nat} {i:Nat},rR i l=true↔i∈l:=by
  intro l
  induction l with
  | nil=>intro i;simp [rR]
  | cons j l ih=>
    intro i
    simp only [rR,List.mem_cons]
    split
    ·rename_i e
     have:=Nat.eq_of_beq_eq_true e
     simp [this]
    ·rename_i e
     rw [ih]
     constructor
     ·exact .inr
     ·rintro (h | h)
      ·subst h;simp at e
      ·exact h
theorem anyN_iff {p:Nat→Bool}:∀{l:List Nat},e3_ p l=true↔∃i∈l,p i=true:=by
  intro l
  induction l with
  | nil=>simp [e3_]
  | cons j l ih=>
    simp only [e3_]
    split
    ·rename_i e;simp [e]
    ·rename_i e;rw [ih];simp [e]
theorem leastN_iff {anc:List (List Nat)} {R:List Nat} {i:Nat}:FG anc R i=true↔∀j∈R,j∉anc.getD i []:=by
  unfold FG
  rw [Bool.not_eq_true',←Bool.not_eq_true,anyN_iff]
  constructor
  ·intro h j hj hm;exact h ⟨j,hj,elemN_mem'.mpr hm⟩
  ·rintro h ⟨j,hj,hm⟩;exact h j hj (elemN_mem'.mp hm)
theorem C5:∀{l:List Nat} {i j:Nat},l.Nodup→(j∈aw_ i l↔j∈l∧j≠i)
  | [],i,j,_=>by simp [aw_]
  | x::l,i,j,h=>by
    obtain ⟨h1,h2⟩:=List.nodup_cons.mp h
    simp only [aw_]
    split
    ·rename_i e
     have:=Nat.eq_of_beq_eq_true e
     subst this
     simp only [List.mem_cons]
     constructor
     ·intro hj;exact ⟨.inr hj,fun e=>h1 (e▸hj)⟩
     ·rintro ⟨rfl | hj,hn⟩
      ·exact absurd rfl hn
      ·exact hj
    ·rename_i e
     have hx:x≠i:=fun he=>by subst he;simp at e
     simp only [List.mem_cons,C5 h2]
     constructor
     ·rintro (rfl | ⟨hj,hn⟩)
      ·exact ⟨.inl rfl,hx⟩
      ·exact ⟨.inr hj,hn⟩
     ·rintro ⟨rfl | hj,hn⟩
      ·exact .inl rfl
      ·exact .inr ⟨hj,hn⟩
theorem yA:∀{l:List Nat} {i:Nat},l.Nodup→(aw_ i l).Nodup
  | [],i,_=> .nil
  | x::l,i,h=>by
    obtain ⟨h1,h2⟩:=List.nodup_cons.mp h
    simp only [aw_]
    split
    ·exact h2
    ·exact List.nodup_cons.mpr ⟨fun hm=>h1 ((C5 h2).mp hm).1,yA h2⟩
theorem HL {anc:List (List Nat)}:∀{n:Nat} {R τ:List Nat},R.Nodup→τ∈U6 anc n R→∀i∈τ,i∈R
  | 0,R,τ,_,h,i,hi=>by
    simp only [U6,List.mem_singleton] at h;subst h;simp at hi
  | n+1,R,τ,hR,h,i,hi=>by
    simp only [U6,List.mem_flatMap] at h
    obtain ⟨j,hj,h⟩:=h
    split at h
    ·obtain ⟨τ',h',rfl⟩:=List.mem_map.mp h
     rcases List.mem_cons.mp hi with rfl | hi
     ·exact hj
     ·exact ((C5 hR).mp (HL (yA hR) h' i hi)).1
    ·simp at h
theorem UC {anc:List (List Nat)} {n:Nat} {R τ:List Nat} {i:Nat} (hi:i∈R) (hl:FG anc R i=true) (h:τ∈U6 anc n (aw_ i R)):i::τ∈U6 anc (n+1) R:=by
  simp only [U6,List.mem_flatMap]
  exact ⟨i,hi,by rw [hl];exact List.mem_map.mpr ⟨τ,h,rfl⟩⟩
theorem TX {anc:List (List Nat)} {n:Nat} {R:List Nat} {i:Nat} (h:live anc (n+1) R=true) (hi:i∈R) (hl:FG anc R i=true):live anc n (aw_ i R)=true:=by
  simp only [live] at h
  split at h
  ·split at h
   ·cases h
   ·rename_i e
    have e:=Bool.not_eq_true _▸e
    by_cases hv:live anc n (aw_ i R)=true
    ·exact hv
    ·exfalso
     apply e
     refine anyN_iff.mpr ⟨i,hi, ?_⟩
     rw [hl];simpa using hv
  ·cases h
theorem wO {anc:List (List Nat)}:∀{n:Nat} {R:List Nat},live anc n R=true→∃τ,τ∈U6 anc n R
  | 0,R,h=>⟨[],by simp [U6]⟩
  | n+1,R,h=>by
    have h':=h
    simp only [live] at h
    split at h
    ·rename_i e
     obtain ⟨i,hi,hl⟩:=anyN_iff.mp e
     obtain ⟨τ,ht⟩:=wO (TX h' hi hl)
     exact ⟨_,UC hi hl ht⟩
    ·cases h
theorem b9_ {anc:List (List Nat)} {R:List Nat} (h:live anc 0 R=true):R=[]:=by
  cases R with
  | nil=>rfl
  | cons=>cases h
theorem AL:∀{d t:List Nat} {a b:Nat},(a,b)∈oC (d++t)→(b∈d)∨(a∈d∧b∈t)∨(a,b)∈oC t
  | [],t,a,b,h=> .inr (.inr h)
  | x::d,t,a,b,h=>by
    simp only [List.cons_append,oC,List.mem_append,List.mem_map] at h
    rcases h with ⟨c,hc,e⟩ | h
    ·cases e
     rcases hc with hc | hc
     ·exact .inl (List.mem_cons_of_mem _ hc)
     ·exact .inr (.inl ⟨List.mem_cons_self ..,hc⟩)
    ·rcases AL h with h | ⟨h1,h2⟩ | h
     ·exact .inl (List.mem_cons_of_mem _ h)
     ·exact .inr (.inl ⟨List.mem_cons_of_mem _ h1,h2⟩)
     ·exact .inr (.inr h)
theorem A4:∀{t:List Nat} {a b:Nat},(a,b)∈oC t→b∈t.tail
  | [],_,_,h=>by cases h
  | x::t,a,b,h=>by
    simp only [oC,List.mem_append,List.mem_map] at h
    rcases h with ⟨c,hc,e⟩ | h
    ·cases e;exact hc
    ·exact List.mem_of_mem_tail (A4 h)
theorem NW {listed:Array Bool} (hdep:∀(k:Nat) (o:Oper),all[k]? =some o→∀d∈iC o,d<k) (hcl:∀k o,all[k]? =some o→listed.getD k false=true→∀d∈iC o,listed.getD d false=true):
    ∀n k,k<n→listed.getD k false=true→∀e∈(QM all.toList).getD k [],listed.getD e false=true:=by
  intro n
  induction n with
  | zero=>intro k hk;omega
  | succ n ihn=>
    intro k hk hlk e hek
    obtain ⟨p,hp1,d,hd1,hd2⟩:=HM hek
    have hp1:all[k]? =some p:=by simpa using hp1
    have hdl:=hcl k p hp1 hlk d hd1
    rcases hd2 with rfl | hd2
    ·exact hdl
    ·exact ihn d (by have:=hdep k p hp1 d hd1;omega) hdl e hd2
theorem Z6 [GlobOk C Mut Lent w0] (H:Known P C T Γ) (hQ:QuietOk Γ) {nt:Nat} {Q:Exit→Act→World→Prop} (hd:∀o∈all.toList,∀d,o.dst=some d→d<nt)
    (hdep:∀(k:Nat) (o:Oper),all[k]? =some o→∀d∈iC o,d<k) (df:List Deferred):
    ∀(fuel n:Nat) (R dn:List Nat) (listed:Array Bool) (env:Env κ Ty) (objs:aH κ Ty) (ρ:Nat→Loc) (a:Act) (w:World),
     live (QM all.toList) n R=true→R.Nodup→(∀i∈R,i<all.size∧listed.getD i true=false)→(∀i∈dn,listed.getD i true=true)→
     (∀τ∈U6 (QM all.toList) n R,∃L l e2 o2,L.length≤fuel∧gt_ C T Γ all (oC (dn++τ)) L l listed env objs e2 o2∧
       ∀ρ' a' w' env',(∀t,look env' t=look e2 t)→SRel C Mut Lent w0 ρ' env' o2 a'.tmps w'→a'.tmps.size=nt→a'.defers=df→Q .normal a' w')→
     SRel C Mut Lent w0 ρ env objs a.tmps w→a.tmps.size=nt→a.defers=df→
     listed.size=all.size→(∀k o,all[k]? =some o→listed.getD k false=true→∀d∈iC o,listed.getD d false=true)→
     wpAny P .any all Q fuel listed a w:=by
  intro fuel
  induction fuel with
  | zero=>
    intro n R dn listed env objs ρ a w hlv hRn hR hdn F S hsz hdf hls hcl
    obtain ⟨τ,hτ⟩:=wO hlv
    obtain ⟨L,l,e2,o2,hlen,⟨⟨e2',ht,he⟩,hp,hs,hL⟩,hn⟩:=F τ hτ
    obtain rfl:L=[]:=List.length_eq_zero_iff.mp (by omega)
    cases ht
    refine ⟨?_,hn ρ a w env he S hsz hdf⟩
    rw [List.eq_nil_iff_forall_not_mem]
    intro j hj
    obtain ⟨h0,o,ho,_⟩:=mem_ready.mp hj
    have:=(hL j o).mpr ⟨ho,h0⟩
    simp at this
  | succ fuel ih=>
    intro n R dn listed env objs ρ a w hlv hRn hR hdn F S hsz hdf hls hcl
    refine ⟨fun hr=> ?_,fun i hi=> ?_⟩
    ·obtain ⟨τ,hτ⟩:=wO hlv
     obtain ⟨L,l,e2,o2,hlen,⟨⟨e2',ht,he⟩,hp,hs,hL⟩,hn⟩:=F τ hτ
     cases ht with
     | nil=>exact hn ρ a w env he S hsz hdf
     | cons hdo hrd htt=>
       rename_i i o L' v o1 l'
       exfalso
       obtain ⟨h1,h2⟩:=(hL i o).mp (List.mem_cons_self ..)
       exact a2_ hdep hls hr (i+1) i o (by omega) h1 h2
    ·obtain ⟨h0,o,ho,hall⟩:=mem_ready.mp hi
     have hil:i<listed.size:=by rw [hls];exact (Array.getElem?_eq_some_iff.mp ho).1
     unfold wpOp
     rw [ho];dsimp only
     have step:∀(m:Nat) (R' dn':List Nat),live (QM all.toList) m R'=true→R'.Nodup→(∀j∈R',j<all.size∧(listed.setIfInBounds i true).getD j true=false)→(∀j∈dn',(listed.setIfInBounds i true).getD j true=true)→
      (∀τ∈U6 (QM all.toList) m R',∃τ0∈U6 (QM all.toList) n R,dn'++τ=dn++τ0∧∀a b,(a,b)∈oC (dn++τ0)→b=i→listed.getD a true=true)→
      ∃env1 o1,yN C T Γ all o env objs (fun e b=>some (e,b))=some (env1,o1)∧∀ρ' a' w',SRel C Mut Lent w0 ρ' env1 o1 a'.tmps w'→a'.tmps.size=a.tmps.size→a'.defers=a.defers→wpAny P .any all Q fuel (listed.setIfInBounds i true) a' w':=by
       intro m R' dn' hlv' hRn' hR' hdn' hτs
       have one:∀τ∈U6 (QM all.toList) m R',∃env1 o1 L l e2 o2,yN C T Γ all o env objs (fun e b=>some (e,b))=some (env1,o1)∧L.length≤fuel∧gt_ C T Γ all (oC (dn'++τ)) L l (listed.setIfInBounds i true) env1 o1 e2 o2∧
        ∀ρ' a' w' env',(∀t,look env' t=look e2 t)→SRel C Mut Lent w0 ρ' env' o2 a'.tmps w'→a'.tmps.size=nt→a'.defers=df→Q .normal a' w':=fun τ hτ=>by
         obtain ⟨τ0,h1,h2,h3⟩:=hτs τ hτ
         obtain ⟨L,l,e2,o2,hlen,G,hn⟩:=F τ0 h1
         obtain ⟨v,o1,env1,L',l',r1,s2,G',hlen',_,_⟩:=Y8 H hQ hdep (fun o=>bW_ H.ty S o) G hls hcl h0 ho hall h3
         exact ⟨env1,o1,L',l',e2,o2,s2,by omega,by rw [h2];exact G',hn⟩
       obtain ⟨τ,hτ⟩:=wO hlv'
       obtain ⟨env1,o1,_,_,_,_,s2,_⟩:=one τ hτ
       refine ⟨env1,o1,s2,fun ρ' a' w' S' hz hdf'=> ?_⟩
       refine ih m R' dn' _ env1 o1 ρ' a' w' hlv' hRn' hR' hdn' (fun τ hτ=> ?_) S' (hz.trans hsz) (hdf'.trans hdf) (by simpa using hls) (KZ ho hall hcl)
       obtain ⟨env1',o1',L,l,e2,o2,s2',hlen,G,hn⟩:=one τ hτ
       rw [s2] at s2';cases s2'
       exact ⟨L,l,e2,o2,hlen,G,hn⟩
     have go:∃env1 o1,yN C T Γ all o env objs (fun e b=>some (e,b))=some (env1,o1)∧∀ρ' a' w',SRel C Mut Lent w0 ρ' env1 o1 a'.tmps w'→a'.tmps.size=a.tmps.size→a'.defers=a.defers→wpAny P .any all Q fuel (listed.setIfInBounds i true) a' w':=by
       by_cases hiR:i∈R
       ·
         cases n with
         | zero=>rw [b9_ hlv] at hiR;cases hiR
         | succ n=>
           have hal:=NW hdep (KZ ho hall hcl) (i+1) i (by omega) (by simp [Array.getD,hil])
           have hle:FG (QM all.toList) R i=true:=leastN_iff.mpr fun j hj hm=>by
             obtain ⟨p,hp1,d,hd1,hd2⟩:=HM hm
             have hp1:all[i]? =some p:=by simpa using hp1
             rw [ho] at hp1;cases hp1
             have hdl:listed.getD d false=true:=by
               simp only [iC,List.mem_map,List.mem_filter] at hd1
               obtain ⟨e,⟨e1,e2⟩,rfl⟩:=hd1
               exact hall e (by simpa using e1) e2
             have hjl:listed.getD j false=true:=by
               rcases hd2 with rfl | hd2
               ·exact hdl
               ·exact NW hdep hcl (d+1) d (by omega) hdl j hd2
             obtain ⟨j1,j2⟩:=hR j hj
             have hjs:j<listed.size:=by rw [hls];exact j1
             simp [Array.getD,hjs] at hjl j2
             rw [hjl] at j2;cases j2
           refine step n (aw_ i R) (dn++[i]) (TX hlv hiR hle) (yA hRn) (fun j hj=> ?_) (fun j hj=> ?_) (fun τ hτ=> ?_)
           ·obtain ⟨j1,j2⟩:=(C5 hRn).mp hj
            refine ⟨(hR j j1).1, ?_⟩
            rw [getD_set_ne true (Ne.symm j2)];exact (hR j j1).2
           ·rcases List.mem_append.mp hj with hj | hj
            ·exact zV (hdn j hj)
            ·simp only [List.mem_singleton] at hj;subst hj;simp [Array.getD,hil]
           ·refine ⟨i::τ,UC hiR hle hτ,by simp,fun a b hab hb=> ?_⟩
            subst hb
            rcases AL hab with h | ⟨h,_⟩ | h
            ·have:=hdn _ h;rw [h0] at this;cases this
            ·exact hdn _ h
            ·have:=HL (yA hRn) hτ _ (A4 h)
             exact absurd rfl ((C5 hRn).mp this).2
       ·refine step n R dn hlv hRn (fun j hj=> ?_) (fun j hj=>zV (hdn j hj)) (fun τ hτ=>⟨τ,hτ,rfl,fun a b hab hb=> ?_⟩)
        ·refine ⟨(hR j hj).1, ?_⟩
         rw [getD_set_ne true (fun e:i=j=>hiR (by rw [e];exact hj))];exact (hR j hj).2
        ·subst hb
         rcases AL hab with h | ⟨_,h⟩ | h
         ·have:=hdn _ h;rw [h0] at this;cases this
         ·exact absurd (HL hRn hτ _ h) hiR
         ·exact absurd (HL hRn hτ _ (List.mem_of_mem_tail (A4 h))) hiR
     obtain ⟨env1,o1,s2,hgo'⟩:=go
     have hgo:∀env' objs' ρ' a' w',(some (env',objs'):Option (Env κ Ty×aH κ Ty))=some (env1,o1)→SRel C Mut Lent w0 ρ' env' objs' a'.tmps w'→a'.tmps.size=a.tmps.size→a'.defers=a.defers→
      wpAny P .any all Q fuel (listed.setIfInBounds i true) a' w':=by
       intro env' objs' ρ' a' w' heq S' hz hdf'
       cases heq
       exact hgo' ρ' a' w' S' hz hdf'
     have hst:=H5 (next:=wpAny P .any all Q fuel (listed.setIfInBounds i true)) (Q:=Q) H S (hd:=fun d hdd=>by rw [hsz];exact hd o (by simpa using Array.mem_of_getElem? ho) d hdd) s2 hgo
     split at hst
     ·rename_i hw;rw [if_pos hw];exact .inl hst
     ·rename_i hw;rw [if_neg hw];exact hst
theorem pP:∀{l:List (Nat×Oper)},l.Pairwise (fun x y=>x.1<y.1)→(l.map (·.1)).Nodup
  | [],_=> .nil
  | x::l,h=>by
    obtain ⟨h1,h2⟩:=List.pairwise_cons.mp h
    simp only [List.map_cons,List.nodup_cons]
    refine ⟨fun hm=> ?_,pP h2⟩
    obtain ⟨y,hy,e⟩:=List.mem_map.mp hm
    have:=h1 y hy;omega
theorem a8_ (anc:List (List Nat)) (a:Nat) (l:List (Nat×Oper)):(fY_ anc l a).Perm l:=by
  unfold fY_
  refine List.perm_append_comm.trans ?_
  exact List.filter_append_perm (behind anc a) l
theorem bN_ {x y:Option R} {r:R} (h:both x y=some r):x=some r∧y=some r:=by
  unfold both at h
  split at h
  ·rename_i e;exact ⟨h,e▸h⟩
  ·cases h
theorem OD:∀{l:List (Option R)} {r:R},XU l=some r→∀x∈l,x=some r
  | [],r,h,x,hx=>by cases hx
  | [y],r,h,x,hx=>by
    simp only [List.mem_singleton] at hx;subst hx;exact h
  | y::z::l,r,h,x,hx=>by
    obtain ⟨h1,h2⟩:=bN_ (show both y (XU (z::l))=some r from h)
    rcases List.mem_cons.mp hx with rfl | hx
    ·exact h1
    ·exact OD h2 x hx
theorem FY {anc:List (List Nat)} {l:List (Nat×Oper)}:∀{es:List (List Nat)},G6 all anc l es=true→∀τ∈es,TU (oC τ) all anc (AR anc l τ)=true
  | [],_,τ,h=>by cases h
  | t::es,h,τ,ht=>by
    simp only [G6] at h
    split at h
    ·rename_i e
     rcases List.mem_cons.mp ht with rfl | ht
     ·exact e
     ·exact FY h τ ht
    ·cases h
theorem NE (anc:List (List Nat)):∀(t:List Nat) (l:List (Nat×Oper)),(t.foldl (fY_ anc) l).Perm l
  | [],l=> .refl _
  | x::t,l=>(NE anc t (fY_ anc l x)).trans (a8_ anc x l)
theorem Q7 (anc:List (List Nat)) (l:List (Nat×Oper)) (τ:List Nat):(AR anc l τ).Perm l:=by
  unfold AR
  split
  ·exact .refl _
  ·exact NE anc τ.tail l
theorem LI:∀{l:List Nat},c7_ l=true→l.Nodup
  | [],_=> .nil
  | i::l,h=>by
    simp only [c7_] at h
    split at h
    ·cases h
    ·rename_i e
     refine List.nodup_cons.mpr ⟨fun hm=> ?_,LI h⟩
     have:=elemN_mem'.mpr hm
     rw [e] at this
     cases this
theorem dV_ {n:Nat}:∀{l:List Nat},inN n l=true→∀i∈l,i<n
  | [],_,i,h=>by cases h
  | j::l,h,i,hi=>by
    simp only [inN] at h
    split at h
    ·rename_i e
     rcases List.mem_cons.mp hi with rfl | hi
     ·exact Nat.blt_eq.mp e
     ·exact dV_ h i hi
    ·cases h
theorem V9 [GlobOk C Mut Lent w0] (H:Known P C T Γ) (hQ:QuietOk Γ) {all:Array Oper} {nt:Nat} {K:Env κ Ty→aH κ Ty→Option R} {r:R} {Q:Exit→Act→World→Prop}
    (hd:∀o∈all.toList,∀d,o.dst=some d→d<nt) (hsz:a.tmps.size=nt) (S:SRel C Mut Lent w0 ρ env objs a.tmps w) (h:eu_ C T Γ all env objs K=some r)
    (hn:∀env' objs' ρ' a' w',K env' objs'=some r→SRel C Mut Lent w0 ρ' env' objs' a'.tmps w'→a'.tmps.size=nt→a'.defers=a.defers→Q .normal a' w'):
    wpAny P .any all Q all.size (Array.replicate all.size false) a w:=by
  have hlist:∀i o,(i,o)∈num 0 all.toList↔all[i]? =some o∧(Array.replicate all.size false).getD i true=false:=fun i o=>by
    rw [num_mem]
    constructor
    ·rintro ⟨_,h⟩
     have h:all[i]? =some o:=by simpa using h
     have:=(Array.getElem?_eq_some_iff.mp h).1
     exact ⟨h,by simp [Array.getD,this]⟩
    ·rintro ⟨h,_⟩
     exact ⟨Nat.zero_le _,by simpa using h⟩
  have hcl:∀k o,all[k]? =some o→(Array.replicate all.size false).getD k false=true→∀d∈iC o,(Array.replicate all.size false).getD d false=true:=fun k o hk hl=>by
    exfalso
    have:=(Array.getElem?_eq_some_iff.mp hk).1
    simp [Array.getD,this] at hl
  have hdepOf:∀{L:List (Nat×Oper)},L.Perm (num 0 all.toList)→(∀x∈L,∀d∈iC x.2,d<x.1)→∀(k:Nat) (o:Oper),all[k]? =some o→∀d∈iC o,d<k:=fun hp h6 k o hk d hdd=>by
    have hk0:(Array.replicate all.size false).getD k true=false:=by
      have:=(Array.getElem?_eq_some_iff.mp hk).1
      simp [Array.getD,this]
    exact h6 (k,o) (hp.mem_iff.mpr ((hlist k o).mpr ⟨hk,hk0⟩)) d hdd
  unfold eu_ at h
  dsimp only at h
  split at h
  case h_2=>cases h
  rename_i hck
  simp only [Bool.and_eq_true] at hck
  obtain ⟨hlv,hdi,hin,hap⟩:=hck
  generalize hW:fK_ Γ (QM all.toList) (num 0 all.toList)=W at*
  have hall1:∀τ∈U6 (QM all.toList) W.length W,QD C T (oC τ) Γ all (QM all.toList) (AR (QM all.toList) (num 0 all.toList) τ) [] [] env objs K=some r:=fun τ hτ=>OD h _ (List.mem_map.mpr ⟨τ,hτ,rfl⟩)
  have hap1:=fun τ hτ=>JN (FY hap τ hτ)
  have hp:∀τ,(AR (QM all.toList) (num 0 all.toList) τ).Perm (num 0 all.toList):=fun τ=>Q7 _ _ _
  obtain ⟨τ0,hτ0⟩:=wO hlv
  refine Z6 H hQ hd (hdepOf (hp τ0) (hap1 τ0 hτ0).2) a.defers all.size W.length W [] _ env objs ρ a w hlv (LI hdi) (fun i hi=> ?_) (fun i hi=>by simp at hi) (fun τ hτ=> ?_) S hsz rfl (by simp) hcl
  ·have:=dV_ hin i hi
   rw [D2] at this
   have:i<all.size:=by simpa using this
   exact ⟨this,by simp [Array.getD,this]⟩
  ·obtain ⟨l,e2,o2,e3,h1,h2,h3,h4,_⟩:=YV (fun x hx=>by simp at hx) (hall1 τ hτ)
   replace h4:=X5 h4 (by rw [h1.heads];exact (hap1 τ hτ).1)
   refine ⟨_,l,e2,o2,by rw [(hp τ).length_eq,D2];simp,⟨⟨e2,h1,fun _=>rfl⟩,by simpa using h4,((hp τ).map _).nodup_iff.mpr (pP (OF _ _)),fun i o=>by rw [(hp τ).mem_iff];exact hlist i o⟩,fun ρ' a' w' env' he S' hz hdf=> ?_⟩
   exact hn e3 o2 ρ' a' w' h2 (S'.setEnv fun i=>by rw [h3 i,←he i];exact S'.env i) hz hdf
theorem SRel.drawn (S:SRel C Mut Lent w0 ρ env objs tm w) (n:Nat):SRel C Mut Lent w0 ρ env objs tm {w with drawn:=n}:=by
  have W:WStep w {w with drawn:=n} (bJ ρ objs) (bJ ρ objs):=⟨fun _ _ _=>rfl,Nat.le_refl _,fun _ h=> .inl h⟩
  exact S.step W (Nat.le_refl _) (fun _=> .refl _) (fun id=>ORel.step W (Nat.le_refl _) (fun _=> .refl _) (S.ob id) rfl rfl (fun _ _=>rfl)) (fun i j b hi hj=>S.inj i j b hi hj) rfl rfl rfl
end
end Km
namespace Km
open Go
variable {κ:Type} {Ty:κ→Type} {R:Type}
def QL:Code→List Nat
  | .seq a b=>QL a++QL b
  | .block _ c=>QL c
  | .loop c=>QL c
  | .cond _ a b=>QL a++QL b
  | .region i _ _=>[i]
  | _=>[]
def okC (nt:Nat):Code→Bool
  | .seq a b=>okC nt a&&okC nt b
  | .block _ c=>okC nt c
  | .loop c=>okC nt c
  | .cond _ a b=>okC nt a&&okC nt b
  | .region _ ops _=>ops.toList.all fun o=>match o.dst with | some d=>Nat.blt d nt | none=>true
  | _=>true
def OM:List Nat→Bool
  | []=>true
  | i::l=>match rR i l with | true=>false | false=>OM l
theorem M7:∀{l:List Nat},OM l=true→l.Nodup
  | [],_=>List.nodup_nil
  | i::l,h=>by
    simp only [OM] at h
    split at h
    ·cases h
    ·rename_i hi
     exact List.nodup_cons.mpr ⟨fun hm=>(by rw [(lG i l).mpr hm] at hi;cases hi),M7 h⟩
theorem jB {id:Nat}:∀(c:Code) (k t:List It),dX id c k=some t→id∈QL c
  | .seq a b,k,t,h=>by
    simp only [dX] at h
    split at h
    ·rename_i t' h';simp [QL,jB a _ _ h']
    ·simp [QL,jB b _ _ h]
  | .block j c,k,t,h=>by simp only [dX] at h;exact jB c _ _ h
  | .loop c,k,t,h=>by simp only [dX] at h;exact jB c _ _ h
  | .cond q a b,k,t,h=>by
    simp only [dX] at h
    split at h
    ·rename_i t' h';simp [QL,jB a _ _ h']
    ·simp [QL,jB b _ _ h]
  | .region i ops d,k,t,h=>by
    simp only [dX] at h
    split at h
    ·rename_i hb;simp [QL,Nat.eq_of_beq_eq_true hb]
    ·cases h
  | .skip,k,t,h=>by simp [dX] at h
  | .exit _,k,t,h=>by simp [dX] at h
  | .ret,k,t,h=>by simp [dX] at h
  | .label _,k,t,h=>by simp [dX] at h
  | .goto _,k,t,h=>by simp [dX] at h
def Piece (nt:Nat) (body c:Code) (k:List It):Prop:=okC nt c=true∧(QL c).Nodup∧∀id t,dX id c k=some t→dX id body []=some t
def Pos (nt:Nat) (body:Code):List It→Prop
  | []=>True
  | .code c::k=>Piece nt body c k∧Pos nt body k
  | .inBlock _::k=>Pos nt body k
  | .inLoop c::k=>Piece nt body c (.inLoop c::k)∧Pos nt body k
def vV:It→Item
  | .code c=> .code c
  | .inBlock id=> .inBlock id
  | .inLoop c=> .inLoop c
theorem uR {id:Nat}:∀{k k':List It},sA id k=some k'→exitTo id (k.map vV)=some (k'.map vV)
  | [],_,h=>by simp [sA] at h
  | .inBlock j::l,k',h=>by
    simp only [sA] at h
    simp only [List.map_cons,vV,exitTo]
    split at h
    ·rename_i hb;have:=Nat.eq_of_beq_eq_true hb;cases h;simp [this]
    ·rename_i hb
     have:(j==id)=false:=by
       cases hc:j==id with
       | false=>rfl
       | true=>have:=eq_of_beq hc;subst this;simp at hb
     rw [if_neg (by simp [this])]
     exact uR h
  | .code _::l,k',h=>by
    simp only [sA] at h
    simp only [List.map_cons,vV,exitTo]
    exact uR h
  | .inLoop _::l,k',h=>by
    simp only [sA] at h
    simp only [List.map_cons,vV,exitTo]
    exact uR h
theorem xZ {nt:Nat} {body:Code} {id:Nat}:∀{k k':List It},sA id k=some k'→Pos nt body k→Pos nt body k'
  | [],_,h,_=>by simp [sA] at h
  | .inBlock j::l,k',h,p=>by
    simp only [sA] at h
    split at h
    ·cases h;exact p
    ·exact xZ h p
  | .code _::l,k',h,p=>by
    simp only [sA] at h
    exact xZ h p.2
  | .inLoop _::l,k',h,p=>by
    simp only [sA] at h
    exact xZ h p.2
theorem Piece.seq {nt:Nat} {body a b:Code} {k:List It} (h:Piece nt body (.seq a b) k):Piece nt body a (.code b::k)∧Piece nt body b k:=by
  obtain ⟨h1,h2,h3⟩:=h
  simp only [okC,Bool.and_eq_true] at h1
  simp only [QL,List.nodup_append] at h2
  refine ⟨⟨h1.1,h2.1,fun id t h=>h3 id t (by simp [dX,h])⟩,⟨h1.2,h2.2.1,fun id t h=>h3 id t ?_⟩⟩
  have:dX id a (.code b::k)=none:=by
    cases he:dX id a (.code b::k) with
    | none=>rfl
    | some t'=>exact absurd rfl (h2.2.2 id (jB _ _ _ he) id (jB _ _ _ h))
  simp [dX,this,h]
theorem Piece.cond {nt:Nat} {body a b:Code} {q:Operand} {k:List It} (h:Piece nt body (.cond q a b) k):Piece nt body a k∧Piece nt body b k:=by
  obtain ⟨h1,h2,h3⟩:=h
  simp only [okC,Bool.and_eq_true] at h1
  simp only [QL,List.nodup_append] at h2
  refine ⟨⟨h1.1,h2.1,fun id t h=>h3 id t (by simp [dX,h])⟩,⟨h1.2,h2.2.1,fun id t h=>h3 id t ?_⟩⟩
  have:dX id a k=none:=by
    cases he:dX id a k with
    | none=>rfl
    | some t'=>exact absurd rfl (h2.2.2 id (jB _ _ _ he) id (jB _ _ _ h))
  simp [dX,this,h]
theorem Piece.block {nt:Nat} {body c:Code} {j:Nat} {k:List It} (h:Piece nt body (.block j c) k):Piece nt body c (.inBlock j::k):=⟨h.1,h.2.1,fun id t e=>h.2.2 id t e⟩
theorem Piece.loop {nt:Nat} {body c:Code} {k:List It} (h:Piece nt body (.loop c) k):Piece nt body c (.inLoop c::k):=⟨h.1,h.2.1,fun id t e=>h.2.2 id t e⟩
section
variable {P:Program} {C:Cod κ Ty} {T:TypeId→Option (TI κ Ty)} {Γ:FuncId→Option (bU κ Ty)}
variable {Mut:Nat→Prop} {Lent:Org κ Ty} {w0 w w':World} {ρ ρ' ρ2:Nat→Loc} {env:Env κ Ty} {objs objs' objs2:aH κ Ty} {a:Act} {tm:Array Value}
theorem XW (S:SRel C Mut Lent w0 ρ env objs tm w):∀(slots:List Nat),ORL C w Mut ρ objs (slots.map (look env)) (slots.map fun i=>tm[i]?)
  | []=>trivial
  | i::l=>by
    refine ⟨?_,XW S l⟩
    rcases S.env i with h | ⟨u,h1,h2⟩
    ·rw [h]
     show OR C w Mut ρ objs .undef tm[i]?
     cases ht:tm[i]? with
     | none=>exact rfl
     | some u=>exact VRel.undef (u:=u)
    ·simp only [h1];exact h2
theorem TT:∀{slots:List Nat} {vs:List (AV κ Ty)},ORL C w Mut ρ objs vs (slots.map fun i=>tm[i]?)→
    ∀i,look (xP slots vs) i= .undef∨∃u,tm[i]? =some u∧VRel C w Mut ρ objs (look (xP slots vs) i) u
  | [],[],h,i=> .inl rfl
  | [],_::_,h,i=>h.elim
  | _::_,[],h,i=>h.elim
  | j::l,v::vs,h,i=>by
    simp only [xP,nN]
    split
    ·rename_i e;subst e
     have:=h.1
     cases ht:tm[i]? with
     | none=>simp only [ht] at this;exact .inl this
     | some u=>simp only [ht] at this;exact .inr ⟨u,rfl,this⟩
    ·exact TT h.2 i
theorem bQ_ [GlobOk C Mut Lent w0] {Γ:Nat→FuncId→Option (bU κ Ty)} {Λ:Nat→Nat→List (AV κ Ty)→aH κ Ty→Option R} {cuts:List (Nat×List Nat)} {fin:Env κ Ty→aH κ Ty→Option R} {nt:Nat} {body:Code} {cs:List Frame} {b:Frame}
    (hm:P.follows .mixedOrders=true) (H:∀k,Known P C T (Γ k)) (HQ:∀k,QuietOk (Γ k)) (hbody:Piece nt body body [])
    (h0:∀id vs os,Λ 0 id vs os=none)
    (h1:∀k id vs os r slots,V2 cuts id=some slots→Λ (k+1) id vs os=some r→∃n todo,dX id body []=some todo∧run C T (Γ k) (Λ k) cuts Lent.objs.length fin n true todo (xP slots vs) os=some r)
    {r:R}:∀(k n:Nat) (fresh:Bool) (todo:List It) (env:Env κ Ty) (objs:aH κ Ty) (ρ:Nat→Loc) (a:Act) (w:World),Pos nt body todo→a.tmps.size=nt→a.defers=[]→
    SRel C Mut Lent w0 ρ env objs a.tmps w→run C T (Γ k) (Λ k) cuts Lent.objs.length fin n fresh todo env objs=some r→
    ∃a' w' todo' env' objs' ρ',Steps P (lone (b.at a (todo.map vV)) cs w) (lone {b.at a' todo' with mode:= .returning} cs w')∧a'.defers=[]∧a'.tmps.size=nt∧fin env' objs'=some r∧SRel C Mut Lent w0 ρ' env' objs' a'.tmps w':=by
  intro k
  induction k with
  | zero=> ?_
  | succ k ihk=> ?_
  all_goals
    intro n
    induction n with
    | zero=>intro fresh todo env objs ρ a w _ _ _ _ h;simp [run] at h
    | succ n ih=> ?_
    intro fresh todo env objs ρ a w p hsz hdf S h
    have key:∀{m':Machine},Steps P (lone (b.at a (todo.map vV)) cs w) m'→(∃a' w' todo' env' objs' ρ',Steps P m' (lone {b.at a' todo' with mode:= .returning} cs w')∧a'.defers=[]∧a'.tmps.size=nt∧fin env' objs'=some r∧SRel C Mut Lent w0 ρ' env' objs' a'.tmps w')→
     ∃a' w' todo' env' objs' ρ',Steps P (lone (b.at a (todo.map vV)) cs w) (lone {b.at a' todo' with mode:= .returning} cs w')∧a'.defers=[]∧a'.tmps.size=nt∧fin env' objs'=some r∧SRel C Mut Lent w0 ρ' env' objs' a'.tmps w':=
      fun hs ⟨a',w',todo',env',objs',ρ',g1,g2⟩=>⟨a',w',todo',env',objs',ρ',hs.trans g1,g2⟩
    unfold run at h
    split at h
    ·exact ⟨a,w,_,env,objs,ρ, .one step_end,hdf,hsz,h,S⟩
    ·exact key (.one step_inBlock) (ih _ _ _ _ ρ a w p hsz hdf S h)
    ·exact key (.one step_inLoop) (ih _ _ _ _ ρ a w (by exact ⟨p.1,p⟩) hsz hdf S h)
    ·rename_i c l
     obtain ⟨p1,p2⟩:=p
     split at h
     ·exact key (.one step_skip) (ih _ _ _ _ ρ a w p2 hsz hdf S h)
     ·obtain ⟨q1,q2⟩:=p1.seq
      exact key (.one step_seq) (ih _ _ _ _ ρ a w (by exact ⟨q1,q2,p2⟩) hsz hdf S h)
     ·exact key (.one step_block) (ih _ _ _ _ ρ a w (by exact ⟨p1.block,p2⟩) hsz hdf S h)
     ·exact key (.one step_loop) (ih _ _ _ _ ρ a w (by exact ⟨p1.loop,p1.loop,p2⟩) hsz hdf S h)
     ·split at h
      ·rename_i k' hk'
       exact key (.one (step_exit (uR hk'))) (ih _ _ _ _ ρ a w (xZ hk' p2) hsz hdf S h)
      ·cases h
     ·exact ⟨a,w,_,env,objs,ρ, .one step_ret,hdf,hsz,h,S⟩
     ·rename_i q x y
      obtain ⟨q1,q2⟩:=p1.cond
      split at h
      ·rename_i t ht
       have h:=BJ h
       have hq:=aX (H 0).ty S 0 q
       rw [ht] at hq
       have hq:=(a7 hq).1
       have hset:∀t',t'=t→SRel C Mut Lent w0 ρ (gF_ env q t') objs a.tmps w:=by
         intro t' e;subst e
         cases q with
         | tmp d=>
           refine S.know ?_
           cases hd:a.tmps[d]? with
           | none=>simp [Act.eval,hd,Go.undef] at hq
           | some u=>simp [Act.eval,hd] at hq;subst hq;exact ⟨_,rfl, .lit rfl⟩
         | const v=>exact S
         | global v=>exact S
         | func v=>exact S
       have hst:=step_cond (P:=P) (b:=b) (a:=a) (k:=l.map vV) (cs:=cs) (w:=w) (x:=x) (y:=y) hq
       cases t with
       | true=>exact key (.one hst) (ih _ (.code x::l) _ _ ρ a w ⟨q1,p2⟩ hsz hdf (hset true rfl) h)
       | false=>exact key (.one hst) (ih _ (.code y::l) _ _ ρ a w ⟨q2,p2⟩ hsz hdf (hset false rfl) h)
      ·cases h
     ·rename_i id ops draw
      have hd:∀o∈ops.toList,∀d,o.dst=some d→d<nt:=by
        have:=p1.1
        simp only [okC,List.all_eq_true] at this
        intro o ho d hdd
        have:=this o ho
        rw [hdd] at this
        exact Nat.blt_eq.mp this |>fun h=>h
      split at h
      ·rename_i slots hc
       have hc:V2 cuts id=some slots:=by
         revert hc;cases fresh
         ·exact fun h=>h
         ·intro h;cases h
       have h:_=some r:=h
       dsimp only at h
       first
       | (rw [h0] at h;cases h;done)
       | (obtain ⟨n',todo',e1,e2⟩:=h1 k id _ _ r slots hc h
          have e3:=p1.2.2 id (.code (.region id ops draw)::l) (by simp [dX])
          rw [e1] at e3;cases e3
          obtain ⟨ρ',S',hv⟩:=CP (H 0).cod S (XW S slots)
          exact ihk n' true _ _ _ ρ' a w ⟨p1,p2⟩ hsz hdf (S'.setEnv (TT hv)) e2)
      ·let Q:Exit→Act→World→Prop:=fun e a' w'=>e= .normal∧∃a'' w'' todo' env' objs' ρ',Steps P (lone (b.at a' (l.map vV)) cs w') (lone {b.at a'' todo' with mode:= .returning} cs w'')∧a''.defers=[]∧a''.tmps.size=nt∧fin env' objs'=some r∧SRel C Mut Lent w0 ρ' env' objs' a''.tmps w''
       have hfin:(Code.region id ops draw).wp P Q a w→∃a' w' todo' env' objs' ρ',Steps P (lone (b.at a ((It.code (.region id ops draw)::l).map vV)) cs w) (lone {b.at a' todo' with mode:= .returning} cs w')∧a'.defers=[]∧a'.tmps.size=nt∧fin env' objs'=some r∧SRel C Mut Lent w0 ρ' env' objs' a'.tmps w':=by
         intro hw
         obtain ⟨e,a',w',⟨rfl,hQ⟩,harr⟩:=hw b (l.map vV) cs
         exact key harr hQ
       split at h
       ·exact hfin (wp_region_any hm (V9 (H _) (HQ _) hd hsz (S.drawn _) h fun env' objs' ρ' a' w' hK S' hz hdf'=>⟨rfl,ih _ _ _ _ ρ' a' w' p2 hz (hdf'.trans hdf) S' hK⟩))
       ·refine hfin (wp_region ?_)
        rw [List.range_eq_range']
        have:=OH (Q:=Q) (H _) ops.toList 0 env objs ρ a w (all:=ops) (nt:=nt) (fun k=>by simp) hd hsz S h fun env' objs' ρ' a' w' hK S' hz hdf'=>⟨rfl,ih _ _ _ _ ρ' a' w' p2 hz (hdf'.trans hdf) S' hK⟩
        simpa using this
     ·cases h
end
end Km
namespace Km
open Go
variable {κ:Type} {Ty:κ→Type} {R:Type}
section
variable {P:Program} {C:Cod κ Ty} {T:TypeId→Option (TI κ Ty)} {Γ:FuncId→Option (bU κ Ty)}
variable {Mut:Nat→Prop} {Lent:Org κ Ty} {w0 w w':World} {ρ ρ' ρ2:Nat→Loc} {env:Env κ Ty} {objs objs' objs2:aH κ Ty} {a:Act} {tm:Array Value}
def VL (C:Cod κ Ty) (w:World) (Mut:Nat→Prop) (ρ:Nat→Loc) (objs:aH κ Ty) (vs:List (AV κ Ty)) (us:List Value):Prop:=
  us.length=vs.length∧∀(j:Nat) (v:AV κ Ty) (u:Value),vs[j]? =some v→us[j]? =some u→VRel C w Mut ρ objs v u
theorem VL.weak {vs:List (AV κ Ty)} {us:List Value} (h:VL C w Mut ρ objs vs us) (hw:Weaker objs objs'):VL C w Mut ρ objs' vs us:=
  ⟨h.1,fun j v u a b=>hw.rel (h.2 j v u a b)⟩
theorem VL.cons {v:AV κ Ty} {vs:List (AV κ Ty)} {u:Value} {us:List Value} (h:VRel C w Mut ρ objs v u) (h':VL C w Mut ρ objs vs us):VL C w Mut ρ objs (v::vs) (u::us):=
  ⟨by simp [h'.1],fun j x y a b=>by
    cases j with
    | zero=>simp at a b;subst a;subst b;exact h
    | succ j=>exact h'.2 j x y (by simpa using a) (by simpa using b)⟩
theorem VL.tail {v:AV κ Ty} {vs:List (AV κ Ty)} {u:Value} {us:List Value} (h:VL C w Mut ρ objs (v::vs) (u::us)):VL C w Mut ρ objs vs us:=
  ⟨by simpa using h.1,fun j x y a b=>h.2 (j+1) x y (by simpa using a) (by simpa using b)⟩
theorem aM_ {v:AV κ Ty} {u:Value} (h:VRel C w Mut ρ objs v u) (hv:(∃x,v= .lit x)∨(∃i,v= .own i)∨(∃t,v= .nil t)∨(∃b t xs,v= .inl b t xs)):bD u=true:=by
  rcases hv with ⟨x,rfl⟩ | ⟨i,rfl⟩ | ⟨t,rfl⟩ | ⟨b,t,xs,rfl⟩<;>cases h<;>first | rfl | assumption
theorem EI (HC:bH C):∀(vs:List (AV κ Ty)) (us:List Value) (objs:aH κ Ty) (K:List (AV κ Ty)→aH κ Ty→Option R) (r:R),SRel C Mut Lent w0 ρ env objs tm w→VL C w Mut ρ objs vs us→
    ec_ C objs vs K=some r→∃vs' objs',K vs' objs'=some r∧SRel C Mut Lent w0 ρ env objs' tm w∧VL C w Mut ρ objs' vs' us∧Weaker objs objs'
  | [],us,objs,K,r,S,hv,h=>⟨[],objs,h,S,hv, .refl _⟩
  | v::vs,us,objs,K,r,S,hv,h=>by
    obtain ⟨u,us,rfl⟩:∃u us',us=u::us':=by have:=hv.1;cases us with | nil=>simp at this | cons u us=>exact ⟨u,us,rfl⟩
    have hu:VRel C w Mut ρ objs v u:=hv.2 0 v u rfl rfl
    by_cases hag:∃cs,v= .agg cs
    ·obtain ⟨cs,rfl⟩:=hag
     simp only [ec_] at h
     cases hu with
     | agg hl hcell hrel=>
       rename_i us0
       obtain ⟨ns,o1,g1,g2,g3,g4⟩:=o9 HC cs us0 objs _ r S ⟨hl,hcell,hrel⟩ h
       obtain ⟨vs',o2,k1,k2,k3,k4⟩:=EI HC vs us o1 _ r g2 (hv.tail.weak g4) g1
       exact ⟨_,o2,k1,k2, .cons (k4.rel g3.agg) k3,g4.trans k4⟩
    ·have e:ec_ C objs (v::vs) K=jK C false objs [v] fun cs' o=>ec_ C o vs fun vs' o'=>K (cs'++vs') o':=by
       cases v<;>first | rfl | exact absurd ⟨_,rfl⟩ hag
     rw [e] at h
     have hcell:bD u=true:=aM_ hu (by
       cases v with
       | lit x=>exact .inl ⟨_,rfl⟩
       | own i=>exact .inr (.inl ⟨_,rfl⟩)
       | nil t=>exact .inr (.inr (.inl ⟨_,rfl⟩))
       | inl b t xs=>exact .inr (.inr (.inr ⟨_,_,_,rfl⟩))
       | agg cs=>exact absurd ⟨_,rfl⟩ hag
       | _=>simp [jK] at h)
     obtain ⟨ns,o1,g1,g2,g3,g4⟩:=o9 HC [v] [u] objs _ r S ⟨rfl,fun j x hj=>by
       cases j with
       | zero=>simp at hj;subst hj;exact hcell
       | succ j=>simp at hj,fun j x y a b=>by
       cases j with
       | zero=>simp at a b;subst a;subst b;exact hu
       | succ j=>simp at a⟩ h
     obtain ⟨vs',o2,k1,k2,k3,k4⟩:=EI HC vs us o1 _ r g2 (hv.tail.weak g4) g1
     obtain ⟨n,rfl⟩:∃n,ns=[n]:=by
       have:=g3.1
       match ns,this with
       | [n],_=>exact ⟨n,rfl⟩
       | [],h=>simp at h
       | _::_::_,h=>simp at h
     exact ⟨_,o2,k1,k2, .cons (k4.rel (g3.2.2 0 n u rfl rfl)) k3,g4.trans k4⟩
theorem fu_ {vs:List (AV κ Ty)} {us:List Value} (h:VL C w Mut ρ objs vs us):ORL C w Mut ρ objs vs (us.map some):=sU h.1 h.2
theorem gg_ {vs:List (AV κ Ty)} {us:List Value} (h:ORL C w Mut ρ objs vs (us.map some)):VL C w Mut ρ objs vs us:=rU h
def gc_ (C:Cod κ Ty) (Mut:Nat→Prop) (Lent:Org κ Ty) (w0:World) (v:AV κ Ty) (objs:aH κ Ty) (u:Value) (w:World):Prop:=
  ∃ρ,VRel C w Mut ρ objs v u∧SRel C Mut Lent w0 ρ [] objs #[] w∧(∀o∈objs,IE C o=true)∧(∀vs,v= .tup vs→vs.all vZ=true)∧((∀vs,v≠ .tup vs)→vZ v=true)
def fS_ (us:List Value):Value:=match us with | [u]=>u | us=> .tuple us.toArray
theorem e9_ {vs:List (AV κ Ty)} {us:List Value} (h:VL C w Mut ρ objs vs us):VRel C w Mut ρ objs (one vs) (fS_ us):=by
  have hlen:=h.1
  match vs,us with
  | [v],[u]=>exact h.2 0 v u rfl rfl
  | [],[]=>exact .tup h.1 h.2
  | _::_::_,_::_::_=>exact .tup h.1 h.2
  | [],_::_=>simp at hlen
  | _::_,[]=>simp at hlen
  | [_],_::_::_=>simp at hlen
  | _::_::_,[_]=>simp at hlen
theorem U0 (HC:bH C) (S:SRel C Mut Lent w0 ρ env objs tm w) {id:Nat} {K:aH κ Ty→Option R} {r:R} (h:d5_ id objs K=some r):
    ∃objs',K objs'=some r∧SRel C Mut Lent w0 ρ env objs' tm w∧∀v u,VRel C w Mut ρ objs v u→VRel C w Mut ρ objs' v u:=by
  unfold d5_ at h
  split at h
  ·rename_i t xs n e
   obtain ⟨_,hn,h⟩:=bind_some h
   have hn:n=xs.length:=by
     by_cases e:n=xs.length
     ·exact e
     ·rw [if_neg e] at hn;cases hn
   have hlt:=(List.getElem?_eq_some_iff.mp e).1
   have g1:(objs.set id (.rw t xs 0 none))[id]? =some (.rw t xs 0 none):=by simp [hlt]
   have g3:∀k,k≠id→(objs.set id (AObj.rw t xs 0 none))[k]? =objs[k]? :=fun k h=>List.getElem?_set_ne (Ne.symm h)
   have hft:∀k b,aG ρ (objs.set id (AObj.rw t xs 0 none)) k b→aG ρ objs k b:=fun k b h=>by
     by_cases h1:k=id
     ·subst h1
      unfold aG at h⊢
      rw [g1] at h;rw [e];exact h
     ·unfold aG at h⊢;rw [g3 k h1] at h;exact h
   have W:WStep w w (bJ ρ objs) (bJ ρ (objs.set id (.rw t xs 0 none))):=WStep.same fun b ⟨k,hk⟩=>⟨k,hft k b hk⟩
   have hlen:objs.length≤(objs.set id (AObj.rw t xs 0 none)).length:=by simp
   have hcm:∀k,Compat ρ objs ρ (objs.set id (.rw t xs 0 none)) k:=fun k=>by
     by_cases h1:k=id
     ·subst h1;unfold Compat;rw [e];exact .inl ⟨xs,cO g1,rfl, .refl _⟩
     ·exact Compat.of_eq (fun _=>g3 k h1) (fun _=>rfl)
   refine ⟨_,h,S.step W hlen hcm (fun k=> ?_) (fun i j b hi hj=>S.inj i j b (hft i b hi) (hft j b hj)) rfl rfl rfl,fun v u h=>h.step W hlen hcm⟩
   by_cases h1:k=id
   ·subst h1
    have ho:=S.ob k
    simp only [ORel,e] at ho
    unfold ORel
    rw [g1]
    have ho':=ho.step W hlen hcm (fun _ _=>rfl)
    refine {ho' with cell:=fun i x j cl hx hj=> ?_}
    obtain ⟨v,a1,a2⟩:=ho'.cell i x j cl hx hj
    have hi:=(List.getElem?_eq_some_iff.mp hx).1
    rw [dr_,if_pos (by omega)] at a2
    exact ⟨v,a1,a2⟩
   ·exact ORel.step W hlen hcm (S.ob k) (g3 k h1) rfl (fun _ _=>rfl)
  ·exact ⟨objs,h,S,fun v u h=>h⟩
theorem IS (HC:bH C) {K:aH κ Ty→Option R} {r:R}:∀(n:Nat) {objs:aH κ Ty},SRel C Mut Lent w0 ρ env objs tm w→eo_ n objs K=some r→
    ∃objs',K objs'=some r∧SRel C Mut Lent w0 ρ env objs' tm w∧∀v u,VRel C w Mut ρ objs v u→VRel C w Mut ρ objs' v u
  | 0,objs,S,h=>⟨objs,h,S,fun v u h=>h⟩
  | n+1,objs,S,h=>by
    obtain ⟨o1,h1,S1,v1⟩:=U0 HC S h
    obtain ⟨o2,h2,S2,v2⟩:=IS HC n S1 h1
    exact ⟨o2,h2,S2,fun v u h=>v2 v u (v1 v u h)⟩
theorem VL.map (h:∀v u,VRel C w Mut ρ objs v u→VRel C w Mut ρ' objs' v u) {vs:List (AV κ Ty)} {us:List Value} (x:VL C w Mut ρ objs vs us):VL C w Mut ρ' objs' vs us:=⟨x.1,fun j v u a b=>h _ _ (x.2 j v u a b)⟩
theorem CO (HC:bH C) (S:SRel C Mut Lent w0 ρ env objs tm w) {dec:AV κ Ty→aH κ Ty→Option R} {vs:List (AV κ Ty)} {us:List Value} {r:R} (hv:VL C w Mut ρ objs vs us)
    (h:PE C Lent.objs.length dec vs objs=some r):∃v objs',dec v objs'=some r∧gc_ C Mut Lent w0 v objs' (fS_ us) w:=by
  unfold PE at h
  dsimp only at h
  obtain ⟨ρ',S',hv'⟩:=CP HC S (fu_ hv)
  generalize AT C Lent.objs.length vs objs=q at h S' hv'
  obtain ⟨vs',objs'⟩:=q
  dsimp only at h S' hv'
  have hvl0:=gg_ hv'
  clear hv'
  replace h:=IS HC _ S' h
  clear S'
  obtain ⟨objs2,h,S',v2⟩:=h
  have hvl:=VL.map v2 hvl0
  clear v2 hvl0
  revert h hvl S'
  generalize objs2=objs'
  intro h S' hvl
  split at h
  ·rename_i hs
   simp only [Bool.and_eq_true] at hs
   refine ⟨_,objs',h,ρ',e9_ hvl,S'.setEnv (fun i=> .inl rfl),by simpa [List.all_eq_true] using hs.2,fun xs e=> ?_,fun hn=> ?_⟩
   ·match vs',hs.1 with
    | [],_=>cases e;rfl
    | [x],hs1=>
      simp only [one] at e
      subst e
      simp [vZ] at hs1
    | x::y::l,hs1=>cases e;exact hs1
   ·match vs',hs.1 with
    | [],_=>exact absurd rfl (hn [])
    | [x],hs1=>show vZ x=true;simpa using hs1
    | x::y::l,_=>exact absurd rfl (hn _)
  ·cases h
def e4_ (rs:List ResultVar) (tm:Array Value):Sem (List Value):=rs.mapM fun
  | .tmp t=>pure (tm.getD t undef)
  | .cell a t=>do loadVar t (←asAddr (tm.getD a undef))
theorem EO (HT:TOk P C T) (HC:bH C) (S:SRel C Mut Lent w0 ρ env objs tm w):∀(rs:List ResultVar) {K:List (AV κ Ty)→Option R} {r:R},fi_ C T env objs rs K=some r→
    ∃vs us,K vs=some r∧VL C w Mut ρ objs vs us∧(e4_ rs tm).run P w= .ok us w
  | [],K,r,h=>⟨[],[],h,⟨rfl,fun j v u h=>by simp at h⟩,by simp [e4_]⟩
  | .tmp t::rs,K,r,h=>by
    simp only [fi_] at h
    obtain ⟨vs,us,h1,h2,h3⟩:=EO HT HC S rs h
    refine ⟨_,_,h1, .cons (P0 (a:=⟨tm,[]⟩) S t) h2, ?_⟩
    unfold e4_ at h3⊢
    simp only [List.mapM_cons,Sem.run_bind,Sem.run_pure,Result.andThen_ok,h3]
  | .cell c t::rs,K,r,h=>by
    simp only [fi_] at h
    split at h
    ·rename_i ti ht
     obtain ⟨v,u,h1,h2,h3⟩:=LH (P:=P) (a:=⟨tm,[]⟩) HT HC S ht (P0 (a:=⟨tm,[]⟩) S c) h
     obtain ⟨vs,us,k1,k2,k3⟩:=EO HT HC S rs h1
     refine ⟨_,_,k1, .cons h3 k2, ?_⟩
     have h4:(do loadVar t (←asAddr (tm.getD c undef)):Sem Value).run P w= .ok u w:=by
       generalize tm.getD c undef=q at h2⊢
       cases q<;>first
         | (simp [Instr.loadAt,Instr.sureAddr] at h2;done)
         | (rename_i p;cases p<;>first
             | (simp [Instr.loadAt,Instr.sureAddr] at h2;done)
             | simpa [Instr.loadAt,Instr.sureAddr,asAddr] using h2)
     unfold e4_ at k3⊢
     rw [List.mapM_cons,Sem.run_bind]
     dsimp only
     rw [h4,Result.andThen_ok,Sem.run_bind,k3]
     simp only [Result.andThen_ok,Sem.run_pure]
    ·cases h
theorem S6 (HT:TOk P C T) (HC:bH C) (S:SRel C Mut Lent w0 ρ env objs tm w) {frz:Bool} {rs:List ResultVar} {dec:AV κ Ty→aH κ Ty→Option R} {r:R}
    (h:EY C T frz Lent.objs.length rs dec env objs=some r):∃v objs' us,dec v objs'=some r∧gc_ C Mut Lent w0 v objs' (fS_ us) w∧(e4_ rs tm).run P w= .ok us w:=by
  unfold EY at h
  obtain ⟨vs,us,h,hv,hr⟩:=EO HT HC S rs h
  split at h
  ·obtain ⟨vs',o1,g1,g2,g3,_⟩:=EI HC _ _ objs _ r S hv h
   obtain ⟨v,os,k1,k2⟩:=CO HC g2 g3 g1
   exact ⟨v,os,us,k1,k2,hr⟩
  ·obtain ⟨v,os,k1,k2⟩:=CO HC S hv h
   exact ⟨v,os,us,k1,k2,hr⟩
theorem VV {fn:Func} {rs:List ResultVar} (h:fn.results.toList=rs) {tm:Array Value} {w:World} {us:List Value} (hr:(e4_ rs tm).run P w= .ok us w):(results fn tm).run P w= .ok (fS_ us) w:=by
  have hm:fn.results=rs.toArray:=by apply Array.ext';simpa using h
  unfold e4_ at hr
  unfold results
  rw [hm]
  simp only [List.mapM_toArray,Sem.run_bind,map_eq_pure_bind,Sem.run_pure]
  have e:∀(g g':ResultVar→Sem Value),g=g'→(List.mapM g rs).run P w= .ok us w→(List.mapM g' rs).run P w= .ok us w:=fun g g' h=>by rw [h];exact id
  rw [e _ _ (by funext r;cases r<;>rfl) hr]
  simp only [Result.andThen_ok]
  congr 1
  match us with
  | []=>rfl
  | [i]=>rfl
  | i::j::l=>simp [fS_]
def cG_:List Bool→Nat→Nat→List Nat
  | [],_,_=>[]
  | g::gs,i,m=>(if g then [i] else [])++cG_ gs (i+1) m
def LM (gs:List Bool) (i:Nat):Option Nat:=match gs.getD i false with
  | true=>(match zH (cG_ gs 0 0) i 0 with | some k=>some (gs.length+k) | none=>none)
  | false=>some i
def OL (gs:List Bool) (objs:aH κ Ty):aH κ Ty:=
  (List.range gs.length).map (fun i=>match gs.getD i false with | true=> .dead | false=>(match objs[i]? with | some o=>yV (LM gs) o | none=> .dead))++
  (cG_ gs 0 0).map (fun i=>match objs[i]? with | some o=>yV (LM gs) o | none=> .dead)
def cS_ (gs:List Bool) (ρ:Nat→Loc):Nat→Loc:=fun j=>if j<gs.length then ρ j else ρ ((cG_ gs 0 0).getD (j-gs.length) 0)
theorem givN_mem {gs:List Bool} {m:Nat}:∀{i j:Nat},j∈cG_ gs i m↔i≤j∧gs.getD (j-i) false=true:=by
  induction gs with
  | nil=>intro i j;simp [cG_]
  | cons g gs ih=>
    intro i j
    simp only [cG_,List.mem_append,ih]
    constructor
    ·rintro (h | ⟨h1,h2⟩)
     ·cases g<;>simp at h
      subst h;simp
     ·refine ⟨by omega, ?_⟩
      rw [show j-i=(j-(i+1))+1 by omega];simpa using h2
    ·rintro ⟨h1,h2⟩
     by_cases e:j=i
     ·subst e;simp at h2;subst h2;simp
     ·refine .inr ⟨by omega, ?_⟩
      rw [show j-i=(j-(i+1))+1 by omega] at h2;simpa using h2
theorem ZY {gs:List Bool} {m:Nat}:∀{i:Nat},(cG_ gs i m).Nodup:=by
  induction gs with
  | nil=>intro i;exact .nil
  | cons g gs ih=>
    intro i
    simp only [cG_]
    cases g
    ·simpa using ih
    ·simp only [if_true,List.cons_append,List.nil_append,List.nodup_cons]
     exact ⟨fun h=>by have:=(givN_mem.mp h).1;omega,ih⟩
theorem OY {gs:List Bool} {objs:aH κ Ty} (ρ:Nat→Loc) (hl:objs.length=gs.length):Ren (LM gs) ρ objs (cS_ gs ρ) (OL gs objs):=by
  intro i j o hg ho
  have hi:=(List.getElem?_eq_some_iff.mp ho).1
  unfold LM at hg
  split at hg
  ·rename_i hb
   split at hg
   ·rename_i k hk
    cases hg
    obtain ⟨_,hk2⟩:=rD hk
    rw [Nat.sub_zero] at hk2
    constructor
    ·unfold OL
     rw [List.getElem?_append_right (by simp)]
     obtain ⟨n,e⟩:=wX (yV (LM gs) o)
     exact ⟨n,by rw [←e];simp only [List.length_map,List.length_range,Nat.add_sub_cancel_left,List.getElem?_map,hk2,Option.map_some,ho]⟩
    ·have:¬(gs.length+k<gs.length):=by omega
     unfold cS_
     rw [if_neg this]
     simp [List.getD,hk2]
   ·cases hg
  ·rename_i hb
   cases hg
   constructor
   ·unfold OL
    rw [List.getElem?_append_left (by simp;omega)]
    simp only [List.getElem?_map]
    rw [List.getElem?_range (by omega)]
    obtain ⟨n,e⟩:=wX (yV (LM gs) o)
    exact ⟨n,by rw [←e];simp only [Option.map_some,hb,ho]⟩
   ·simp [cS_];omega
theorem SH {gs:List Bool} {objs:aH κ Ty} (hl:objs.length=gs.length) {j:Nat} {o:AObj κ Ty} (h:(OL gs objs)[j]? =some o) (hd:o≠ .dead):∃i,LM gs i=some j∧i<objs.length∧objs[i]?.map (yV (LM gs))=some o:=by
  unfold OL at h
  by_cases hj:j<gs.length
  ·rw [List.getElem?_append_left (by simpa using hj)] at h
   simp only [List.getElem?_map] at h
   rw [List.getElem?_range hj] at h
   simp only [Option.map_some,Option.some.injEq] at h
   split at h
   ·exact absurd h.symm hd
   ·rename_i hb
    refine ⟨j,by unfold LM;rw [hb],by omega, ?_⟩
    rw [List.getElem?_eq_getElem (by omega:j<objs.length)] at h⊢
    simp only [Option.map_some];rw [←h]
  ·rw [List.getElem?_append_right (by simp;omega)] at h
   simp only [List.length_map,List.length_range,List.getElem?_map,Option.map_eq_some_iff] at h
   obtain ⟨i,h1,h2⟩:=h
   have hm:=givN_mem.mp (List.mem_of_getElem? h1)
   rw [Nat.sub_zero] at hm
   have hlt:i<gs.length:=by
     rcases Nat.lt_or_ge i gs.length with h | h
     ·exact h
     ·have:=hm.2;rw [List.getD_eq_getElem?_getD,List.getElem?_eq_none h] at this;cases this
   refine ⟨i, ?_,by omega, ?_⟩
   ·unfold LM
    rw [hm.2,PF ZY h1]
    show some (gs.length+(j-gs.length))=some j
    congr 1;omega
   ·rw [List.getElem?_eq_getElem (by omega:i<objs.length)] at h2⊢
    simp only [Option.map_some];rw [←h2]
theorem HS {gs:List Bool} {objs:aH κ Ty} {ρ:Nat→Loc} (hl:objs.length=gs.length) {j b:Nat} (h:aG (cS_ gs ρ) (OL gs objs) j b):∃i,LM gs i=some j∧aG ρ objs i b:=by
  have hd:∃o,(OL gs objs)[j]? =some o∧o≠ .dead:=by
    unfold aG at h
    split at h
    ·rename_i cs e;exact ⟨_,e,fun h=>by cases h⟩
    ·rename_i t xs e;exact ⟨_,e,fun h=>by cases h⟩
    ·rename_i e;exact ⟨_,e,fun h=>by cases h⟩
    ·rename_i e;exact ⟨_,e,fun h=>by cases h⟩
    ·rename_i e;exact ⟨_,e,fun h=>by cases h⟩
    ·exact h.elim
  obtain ⟨o,ho,hne⟩:=hd
  obtain ⟨i,hi,hlt,_⟩:=SH hl ho hne
  have hob:objs[i]? =some objs[i]:=List.getElem?_eq_getElem hlt
  obtain ⟨g1,g2⟩:=OY ρ hl i j _ hi hob
  exact ⟨i,hi,EM hob g1 g2 h⟩
theorem SD {gs:List Bool} {objs:aH κ Ty} (ρ:Nat→Loc) (hl:objs.length=gs.length):GK true Mut ρ objs Mut (cS_ gs ρ) (OL gs objs):=by
  intro b k _ h h'
  rcases h' with ⟨j,hj⟩ | ⟨hb,hm⟩
  ·obtain ⟨i,_,hi⟩:=HS hl hj
   exact h (.inl ⟨i,hi⟩)
  ·exact h (.inr ⟨hb,hm⟩)
theorem SRel.give (HC:bH C) (S:SRel C Mut ⟨ρ,objs⟩ w ρ [] objs tm w) {gs:List Bool} (hl:objs.length=gs.length):
    SRel C Mut ⟨ρ,objs⟩ w (cS_ gs ρ) [] (OL gs objs) tm w:=by
  refine {S with env:=fun i=> .inl rfl,ob:=fun j=> ?_,inj:=fun i j b hi hj=> ?_,live:=fun b ⟨j,hj⟩=> ?_,comp:=fun i=> ?_,len:= ?_}
  ·by_cases hd:∃o,(OL gs objs)[j]? =some o∧o≠ .dead
   ·obtain ⟨o,ho,hne⟩:=hd
    obtain ⟨i,hi,hlt,_⟩:=SH hl ho hne
    exact ORel.ren HC (OY ρ hl) (SD ρ hl) hi (List.getElem?_eq_getElem hlt) (fun h=>by cases h) (S.ob i)
   ·unfold ORel
    split
    ·rename_i cs e;exact absurd ⟨_,e,fun h=>by cases h⟩ hd
    ·rename_i t xs e;exact absurd ⟨_,e,fun h=>by cases h⟩ hd
    ·rename_i e;exact absurd ⟨_,e,fun h=>by cases h⟩ hd
    ·rename_i e;exact absurd ⟨_,e,fun h=>by cases h⟩ hd
    ·rename_i e;exact absurd ⟨_,e,fun h=>by cases h⟩ hd
    ·trivial
  ·obtain ⟨p,h1,h2⟩:=HS hl hi
   obtain ⟨q,g1,g2⟩:=HS hl hj
   have:=S.inj p q b h2 g2
   subst this
   rw [h1] at g1;cases g1;rfl
  ·obtain ⟨i,_,hi⟩:=HS hl hj
   exact S.live b ⟨i,hi⟩
  ·show CompW ρ objs (cS_ gs ρ) (OL gs objs) i
   by_cases hi:i<objs.length
   ·have hob:objs[i]? =some objs[i]:=List.getElem?_eq_getElem hi
    cases hb:gs.getD i false with
    | true=>
      have hdead:(OL gs objs)[i]? =some .dead:=by
        unfold OL
        rw [List.getElem?_append_left (by simp;omega)]
        simp only [List.getElem?_map]
        rw [List.getElem?_range (by omega)]
        simp only [Option.map_some,hb]
      unfold CompW Compat
      rw [hob]
      cases objs[i] with
      | rw t xs g hh=>exact .inr (aZ hdead)
      | rp t xs n=>exact .inr (aZ hdead)
      | dead=>exact (aZ hdead)
      | box cs=>exact .inr (aZ hdead)
      | sl t xs=>exact .inr (aZ hdead)
      | mp k v es hh=>exact .inr (aZ hdead)
    | false=>
      obtain ⟨⟨n0,g1⟩,g2⟩:=OY ρ hl i i _ (by unfold LM;rw [hb]) hob
      unfold CompW Compat
      rw [hob]
      cases ho:objs[i] with
      | rw t xs g hh=>
        rw [ho] at g1
        cases hh with
        | none=>exact .inl ⟨xs,_,none,g1,rfl,by rw [g2];exact .refl _⟩
        | some p=>exact .inr (aZ g1)
      | rp t xs n=>rw [ho] at g1;exact .inl ⟨xs,gO g1,rfl,by rw [g2];exact .refl _⟩
      | dead=>rw [ho] at g1;exact (aZ g1)
      | box cs=>rw [ho] at g1;exact .inl ⟨_,g1,g2⟩
      | sl t xs=>rw [ho] at g1;exact .inl ⟨xs,g1,rfl,g2⟩
      | mp k v es hh=>rw [ho] at g1;exact .inl ⟨es,_,g1,by rw [g2]⟩
   ·unfold CompW Compat
    rw [List.getElem?_eq_none (by omega)];trivial
  ·show objs.length≤(OL gs objs).length
   simp [OL];omega
theorem ac_ {f:FuncId} {fn:Func} {body:Code} {S:bU κ Ty} {Γ:Nat→FuncId→Option (bU κ Ty)} {Λ:Nat→Nat→List (AV κ Ty)→aH κ Ty→Option S.R} {cuts:List (Nat×List Nat)} {frz:Bool} {rs:List ResultVar} {m:Nat}
    {dec:AV κ Ty→aH κ Ty→Option S.R}
    (hm : P.follows .mixedOrders = true) (H : ∀ k, Known P C T (Γ k)) (HQ : ∀ k, QuietOk (Γ k)) (hf : P.funcs[f]? = some fn) (hname : (fn.name == "runtime.NumGoroutine") = false) (hb : fn.body = some body) (hres : fn.results.toList = rs)
    (hok:okC fn.ntmps body=true) (hdup:OM (QL body)=true) (hdec:∀v os r,dec v os=some r→S.ret r=(v,os))
    (h0:∀id vs os,Λ 0 id vs os=none)
    (h1:∀k id vs os r slots,V2 cuts id=some slots→Λ (k+1) id vs os=some r→∃n todo,dX id body []=some todo∧run C T (Γ k) (Λ k) cuts m (EY C T frz m rs dec) n true todo (xP slots vs) os=some r)
    (gs:List Bool)
    (hrun:∀args os r,S.run args os=some r→args.length≤fn.ntmps∧os.length=m∧gs.length=m∧∃k n,run C T (Γ k) (Λ k) cuts m (EY C T frz m rs dec) n false [.code body] (xP (List.range (args.map (HW (LM gs))).length) (args.map (HW (LM gs)))) (OL gs os)=some r):
    SummOk P C f S:=by
  refine ⟨⟨fn,hf,hname,by simp [hb]⟩,fun args0 objs0 r hr Mut ρ0 vals w hlen0 hrel0 S00 hgb hgp=> ?_⟩
  haveI:GlobOk C Mut ⟨ρ0,objs0⟩ w:=⟨fun b hb=>⟨hgb b hb,fun hf=>(S00.live b hf).1 (hgb b hb)⟩,hgp⟩
  obtain ⟨hle0,hml,hgl,k,n,hrun⟩:=hrun args0 objs0 r hr
  have hgo:objs0.length=gs.length:=by omega
  have S0:=SRel.give (H 0).cod S00 hgo
  have hrel:∀(j:Nat) (x:AV κ Ty) (u:Value),(args0.map (HW (LM gs)))[j]? =some x→vals[j]? =some u→VRel C w Mut (cS_ gs ρ0) (OL gs objs0) x u:=fun j x u hx hu=>by
    simp only [List.getElem?_map,Option.map_eq_some_iff] at hx
    obtain ⟨y,hy,rfl⟩:=hx
    exact G9 (H 0).cod (OY ρ0 hgo) (SD ρ0 hgo) (fun h=>by cases h) (fun h=>by cases h) (hrel0 j y u hy hu)
  have hlen:vals.size=(args0.map (HW (LM gs))).length:=by simpa using hlen0
  have hle:(args0.map (HW (LM gs))).length≤fn.ntmps:=by simpa using hle0
  revert S0 hrel hlen hle hrun
  generalize args0.map (HW (LM gs))=args
  generalize OL gs objs0=objs
  generalize cS_ gs ρ0=ρ
  intro hrun S0 hrel hlen hle
  intro cs
  let b:Frame:={(default:Frame) with fn:=f,kind:= .normal}
  let a:Act:={tmps:=vals++Array.replicate (fn.ntmps-vals.size) undef,defers:=[]}
  have henter:Frame.enter P f vals .normal=b.at a [.code body]:=by
    simp [Frame.enter,Frame.at,hf,hb,b,a]
  have hbody:Piece fn.ntmps body body []:=⟨hok,M7 hdup,fun id t h=>h⟩
  have hsz:a.tmps.size=fn.ntmps:=by simp [a];omega
  have hpre:∀(n:Nat) (xs:List (AV κ Ty)) (i:Nat),look (xP (List.range' n xs.length) xs) i= .undef∨∃j,i=n+j∧∃x,xs[j]? =some x∧look (xP (List.range' n xs.length) xs) i=x:=by
    intro n xs
    induction xs generalizing n with
    | nil=>intro i;exact .inl rfl
    | cons x xs ih=>
      intro i
      simp only [List.length_cons,List.range'_succ,xP,nN]
      split
      ·rename_i e;exact .inr ⟨0,by omega,x,rfl,rfl⟩
      ·rcases ih (n+1) i with h | ⟨j,h1,y,h2,h3⟩
       ·exact .inl h
       ·exact .inr ⟨j+1,by omega,y,by simpa using h2,h3⟩
  have S1:SRel C Mut ⟨ρ0,objs0⟩ w ρ (xP (List.range args.length) args) objs a.tmps w:=S0.setEnv fun i=>by
    rw [List.range_eq_range']
    rcases hpre 0 args i with h | ⟨j,h1,x,h2,h3⟩
    ·exact .inl h
    ·have hj:=(List.getElem?_eq_some_iff.mp h2).1
     have hij:i=j:=by omega
     subst hij
     have hv:vals[i]? =some (vals[i]'(by omega)):=Array.getElem?_eq_getElem _
     refine .inr ⟨_, ?_,by rw [h3];exact hrel i x _ h2 hv⟩
     simp only [a]
     rw [Array.getElem?_append_left (by omega)];exact hv
  subst hml
  obtain ⟨a',w',todo',env',objs',ρ',g1,g2,g3,g4,g5⟩:=bQ_ (Lent:=⟨ρ0,objs0⟩) (b:=b) (cs:=cs) hm H HQ hbody h0 h1 k n false [.code body] _ objs ρ a w ⟨hbody,trivial⟩ hsz rfl S1 hrun
  obtain ⟨v,os,us,k1,⟨ρ2,k2,k3,k4,k5,k6⟩,kr⟩:=S6 (P:=P) (H 0).ty (H 0).cod g5 g4
  have hret:=hdec v os r k1
  refine ⟨.returned _,w',{b.at a' todo' with mode:= .returning},⟨_,ρ2,rfl, ?_, ?_, ?_, ?_, ?_⟩, ?_,rfl,rfl,g2,rfl,fn,hf,VV hres kr⟩
  ·rw [hret];exact k2
  ·rw [hret];exact k3
  ·rw [hret];exact k4
  ·rw [hret];exact k5
  ·rw [hret];exact k6
  ·rw [henter];exact g1
end
end Km
namespace Km
open Go
universe u
variable {κ:Type} {Ty:κ→Type} {R:Type}
def aU {α:Type u}:List (Nat×α)→Nat→Option α
  | [],_=>none
  | (j,v)::l,i=>match Nat.beq j i with | true=>some v | false=>aU l i
theorem lB {α:Type u}:∀{l:List (Nat×α)} {i:Nat} {v:α},aU l i=some v→(i,v)∈l
  | [],i,v,h=>by cases h
  | (j,x)::l,i,v,h=>by
    simp only [aU] at h
    split at h
    ·rename_i hb;have:=Nat.eq_of_beq_eq_true hb;cases h;subst this;simp
    ·exact List.mem_cons_of_mem _ (lB h)
def JY:List Value→Bool
  | []=>true
  | v::l=>bD v&&JY l
theorem AK:∀{l:List Value},JY l=true→∀v∈l,bD v=true
  | [],_,v,hv=>by simp at hv
  | x::l,h,v,hv=>by
    simp only [JY,Bool.and_eq_true] at h
    simp only [List.mem_cons] at hv
    rcases hv with rfl | hv
    ·exact h.1
    ·exact AK h.2 v hv
def HR (P:Program):List Field→Bool
  | []=>true
  | f::fs=>(match P.info? f.type with | some i=> !(Nat.beq i.size 0) | none=>false)&&HR P fs
theorem EX {P:Program}:∀{l:List Field},HR P l=true→∀f∈l,∃i,P.info? f.type=some i∧i.size≠0
  | [],_,v,hv=>by simp at hv
  | x::l,h,v,hv=>by
    simp only [HR,Bool.and_eq_true] at h
    simp only [List.mem_cons] at hv
    rcases hv with rfl | hv
    ·have h:=h.1
     split at h
     ·rename_i i hi
      refine ⟨i,hi,fun e=> ?_⟩
      rw [e] at h;simp at h
     ·cases h
    ·exact EX h.2 v hv
def cC_:List Field→Bool
  | []=>true
  | f :: fs => f.name != "_" && cC_ fs
theorem UB : ∀ {l : List Field}, cC_ l = true → ∀ f ∈ l, f.name ≠ "_"
  | [],_,v,hv=>by simp at hv
  | x::l,h,v,hv=>by
    simp only [cC_,Bool.and_eq_true] at h
    simp only [List.mem_cons] at hv
    rcases hv with rfl | hv
    ·simpa using h.1
    ·exact UB h.2 v hv
theorem toList_inj {a b:ByteArray} (h:a.toList=b.toList):a=b:=by
  rw [Go.ByteArray.toList_eq,Go.ByteArray.toList_eq] at h
  apply ByteArray.ext;apply Array.ext';exact h
def YR (T:TypeId→Option (TI κ Ty)):List (Nat×TypeId)→Bool
  | []=>true
  | f::fs=>(match T f.2 with | some tf=>(match tf.shp with | .int _=>true | .str=>true | _=>false) | none=>false)&&YR T fs
theorem NJ {T:TypeId→Option (TI κ Ty)}:∀{l:List (Nat×TypeId)},YR T l=true→∀f∈l,∃tf,T f.2=some tf∧((∃q,tf.shp= .int q)∨tf.shp= .str)
  | [],_,v,hv=>by simp at hv
  | x::l,h,v,hv=>by
    simp only [YR,Bool.and_eq_true] at h
    simp only [List.mem_cons] at hv
    rcases hv with rfl | hv
    ·have h:=h.1
     split at h
     ·rename_i tf hf
      refine ⟨tf,hf, ?_⟩
      split at h
      ·rename_i k hk;exact .inl ⟨k,hk⟩
      ·rename_i hk;exact .inr hk
      ·cases h
     ·cases h
    ·exact NJ h.2 v hv
def aD_:AV κ Ty→Bool
  | .lit v=>(match v with | .int .. =>true | .string _=>true | _=>false)
  | _=>false
theorem Y3 {c:AV κ Ty} (h:aD_ c=true):(∃q n,c= .lit (.int q n))∨∃s,c= .lit (.string s):=by
  unfold aD_ at h
  split at h
  ·split at h
   ·exact .inl ⟨_,_,rfl⟩
   ·exact .inr ⟨_,rfl⟩
   ·cases h
  ·cases h
structure cP (P:Program) (C:Cod κ Ty) (T:TypeId→Option (TI κ Ty)) (t:TypeId) (ti:TI κ Ty):Prop where
  info:∃i z d,P.info? t=some i∧i.size=ti.size∧i.bytes=ti.bytes∧i.zero=some z∧z.cells.toList.map some=ti.zero.map d2_∧JY z.cells.toList=true∧P.underlying t=some d∧(match d with | .struct _=>true | .array .. =>true | _=>false)=ti.agg∧
    (match ti.shp with
     | .int k=>d= .int k
     | .bool=>d= .bool
     | .str=>d= .string
     | .struct fs=>∃fields,d= .struct fields∧fields.toList.map (fun f=>(f.offset,f.type))=fs∧HR P fields.toList=true∧P.stoodInHeld t=false∧P.eqGuardType P.depth t=false∧cC_ fields.toList=true
     | .arr n e s=>d= .array n e∧(∃i,P.info? e=some i∧i.size=C.sz s∧i.bytes=C.by' s)∧∃te,T e=some te∧te.zero.length=C.sz s∧ti.zero=(List.replicate n te.zero).flatten
     | .map kt et k v=>d= .map kt et∧(∀x y,aeq T 8 kt (.agg (C.enc k x)) (.agg (C.enc k y))=some (C.keq k x y))∧(∃tk fs,T kt=some tk∧tk.shp= .struct fs∧YR T fs=true)∧(∀x,(C.enc k x).all aD_=true)∧
        ∃i z,P.info? et=some i∧i.zero=some z∧bD z=true
     | .slice e s=>(d= .slice e∧∃i,P.info? e=some i∧i.size=C.sz s∧i.bytes=C.by' s)∧∃i z,P.info? e=some i∧i.zero=some z∧z.cells.size=C.sz s∧JY z.cells.toList=true∧0<C.by' s
     | .other=>True)
theorem TOk.of {P:Program} {C:Cod κ Ty} {l:List (Nat×TI κ Ty)} (h:∀e∈l,cP P C (aU l) e.1 e.2) (hk:l.all (fun e=>c8_ C e.2.shp)=true):TOk P C (aU l):=by
  have key:∀t ti,aU l t=some ti→cP P C (aU l) t ti:=fun t ti ht=>h _ (lB ht)
  refine ⟨fun t ti ht=> ?_,fun t ti ht=> ?_,fun t ti k ht hs=> ?_,fun t ti ht hs=> ?_,fun t ti ht hs=> ?_,fun t ti fs ht hs=> ?_,fun t ti fs ht hs=> ?_,fun t ti n e s ht hs=> ?_,fun t ti kt et k v ht hs=> ?_,fun t ti e s ht hs=> ?_,fun t ti ht=>List.all_eq_true.mp hk _ (lB ht)⟩<;>
    obtain ⟨i,z,d,h1,h2,h3,h4,h5,h6,h7,h8,h9⟩:=(key t ti ht).info
  ·exact ⟨i,z,h1,h2,h3,h4,h5,AK h6⟩
  ·exact ⟨d,h7,h8⟩
  ·rw [hs] at h9;rw [h7,h9]
  ·rw [hs] at h9;rw [h7,h9]
  ·rw [hs] at h9;rw [h7,h9]
  ·rw [hs] at h9
   obtain ⟨fields,k1,k2,k3,_⟩:=h9
   exact ⟨fields,by rw [h7,k1],k2,EX k3⟩
  ·rw [hs] at h9
   obtain ⟨fields,k1,k2,k3,k4,k5,k6⟩:=h9
   refine ⟨k4,k5,fun fs' hf=> ?_⟩
   rw [h7,k1] at hf;cases hf
   exact UB k6
  ·rw [hs] at h9
   exact ⟨by rw [h7,h9.1],h9.2⟩
  ·rw [hs] at h9
   obtain ⟨k1,k2,⟨tk,fs,k3,k4,k5⟩,k6,k7⟩:=h9
   exact ⟨by rw [h7,k1],k2,⟨tk,fs,k3,k4,NJ k5⟩,fun x c hc=>Y3 (List.all_eq_true.mp (k6 x) c hc),k7⟩
  ·rw [hs] at h9
   exact ⟨by rw [h7,h9.1.1],h9.1.2⟩
theorem EOk.of {P:Program} {C:Cod κ Ty} {l:List (Nat×TI κ Ty)} (h:∀e∈l,cP P C (aU l) e.1 e.2):EOk P C (aU l):=by
  intro t ti e s ht hs
  obtain ⟨i,z,d,h1,h2,h3,h4,h5,h6,h7,h8,h9⟩:=(h _ (lB ht)).info
  rw [hs] at h9
  obtain ⟨_,i',z',k1,k2,k3,k4,k5⟩:=h9
  exact ⟨i',z',k1,k2,k3,AK k4,k5⟩
theorem Known.of {P:Program} {C:Cod κ Ty} {T:TypeId→Option (TI κ Ty)} {l:List (Nat×bU κ Ty)} (h1:TOk P C T) (h2:EOk P C T) (h3:bH C) (h4:∀e∈l,SummOk P C e.1 e.2) (h5:GOk P C):Known P C T (aU l):=
  ⟨h1,h2,h3,fun f S h=>h4 _ (lB h),h5⟩
theorem QuietOk.of {l:List (Nat×bU κ Ty)} (h:∀e∈l,e.2.quiet=true→∀r,(e.2.ret r).2=[]∧cU (e.2.ret r).1=[]):QuietOk (aU l):=fun f S hf=>h _ (lB hf)
end Km
namespace Km
open Go
universe u
variable {κ:Type} {Ty:κ→Type} {R:Type}
theorem aB {α:Type u} {p:α→Prop}:∀e∈([]:List α),p e:=fun _ h=>by cases h
theorem all_cons {α:Type u} {p:α→Prop} {a:α} {l:List α} (h:p a) (t:∀e∈l,p e):∀e∈a::l,p e:=fun e he=>by
  cases he with
  | head=>exact h
  | tail _ he=>exact t e he
structure Cut (κ:Type) (Ty:κ→Type) (R:Type) where
  slots:List Nat
  fn:Nat→List (AV κ Ty)→aH κ Ty→Option R
def lam (cs:List (Nat×Cut κ Ty R)) (k id:Nat) (vs:List (AV κ Ty)) (os:aH κ Ty):Option R:=
  match aU cs id with | some c=>c.fn k vs os | none=>none
def BP (cs:List (Nat×Cut κ Ty R)):List (Nat×List Nat):=cs.map fun c=>(c.1,c.2.slots)
def S5 (id:Nat) (body:Code):List It:=(dX id body []).getD []
def pO (f:Func):Code:=f.body.getD .skip
theorem KS:∀{cs:List (Nat×Cut κ Ty R)} {id:Nat} {slots:List Nat},V2 (BP cs) id=some slots→∃c,aU cs id=some c∧slots=c.slots
  | [],id,slots,h=>by cases h
  | (j,c)::cs,id,slots,h=>by
    simp only [BP,List.map_cons,V2] at h
    simp only [aU]
    cases hb:Nat.beq j id with
    | true=>rw [hb] at h;cases h;exact ⟨c,rfl,rfl⟩
    | false=>rw [hb] at h;exact KS h
section
variable {P:Program} {C:Cod κ Ty} {T:TypeId→Option (TI κ Ty)}
theorem eI_ {f:FuncId} (fn:Func) {S:bU κ Ty} (Γ:Nat→FuncId→Option (bU κ Ty)) (cs:List (Nat×Cut κ Ty S.R)) (frz:Bool) (rs:List ResultVar) (m:Nat) (dec:AV κ Ty→aH κ Ty→Option S.R)
    (hm : P.follows .mixedOrders = true) (H : ∀ k, Known P C T (Γ k)) (HQ : ∀ k, QuietOk (Γ k)) (hf : P.funcs[f]? = some fn) (hname : (fn.name == "runtime.NumGoroutine") = false) (hb : fn.body = some (pO fn)) (hres : fn.results.toList = rs)
    (hok:okC fn.ntmps (pO fn)=true) (hdup:OM (QL (pO fn))=true) (hdec:∀v os r,dec v os=some r→S.ret r=(v,os))
    (hc:∀c∈cs,(∀vs os,c.2.fn 0 vs os=none)∧(dX c.1 (pO fn) []).isSome=true∧
      ∀k vs os r,c.2.fn (k+1) vs os=some r→∃n,run C T (Γ k) (lam cs k) (BP cs) m (EY C T frz m rs dec) n true (S5 c.1 (pO fn)) (xP c.2.slots vs) os=some r)
    (gs:List Bool)
    (hrun:∀args os r,S.run args os=some r→args.length≤fn.ntmps∧os.length=m∧gs.length=m∧∃k n,run C T (Γ k) (lam cs k) (BP cs) m (EY C T frz m rs dec) n false [.code (pO fn)] (xP (List.range (args.map (HW (LM gs))).length) (args.map (HW (LM gs)))) (OL gs os)=some r):
    SummOk P C f S:=by
  refine ac_ (Λ:=lam cs) (cuts:=BP cs) (frz:=frz) (rs:=rs) (m:=m) (dec:=dec) hm H HQ hf hname hb hres hok hdup hdec (fun id vs os=> ?_) (fun k id vs os r slots hs h=> ?_) gs hrun
  ·unfold lam
   split
   ·rename_i c h;exact (hc _ (lB h)).1 vs os
   ·rfl
  ·obtain ⟨c,h1,rfl⟩:=KS hs
   unfold lam at h
   rw [h1] at h
   obtain ⟨_,k2,k3⟩:=hc _ (lB h1)
   obtain ⟨n,hn⟩:=k3 k vs os r h
   cases ht:dX id (pO fn) [] with
   | none=>rw [ht] at k2;cases k2
   | some t=>exact ⟨n,t,rfl,by rw [S5,ht] at hn;exact hn⟩
end
end Km
namespace Km
open Go Go.RowKit
variable {κ:Type} {Ty:κ→Type} {R:Type} {P:Program} {C:Cod κ Ty}
theorem SRel.zero (w:World) (hlt:∀b,C.gb b→b<w.heap.size):SRel C C.gb ⟨fun _=>⟨0,0,0,noSub⟩,[]⟩ w (fun _=>⟨0,0,0,noSub⟩) [] ([]:aH κ Ty) #[] w:=
  SRel.start (fun id=>by simp [ORel]) (fun i j b h=>by simp [aG] at h) (fun b ⟨i,h⟩=>by simp [aG] at h) hlt
theorem SummOk.calls {f:FuncId} {S:bU κ Ty} (h:SummOk P C f S) {args:List (AV κ Ty)} {r:S.R} (hr:S.run args []=some r) {vals:Array Value} {w:World} (hgp:C.gp w) (hlt:∀b,C.gb b→b<w.heap.size) (hl:vals.size=args.length)
    (hrel:∀(j:Nat) (x:AV κ Ty) (u:Value),args[j]? =some x→vals[j]? =some u→VRel C w C.gb (fun _=>⟨0,0,0,noSub⟩) [] x u) {v:Value} (hret:(S.ret r).1= .lit v):
    Calls P f vals w fun e w'=>e= .returned v∧Below w.heap.size w w':=by
  refine (h.2 args [] r hr C.gb (fun _=>⟨0,0,0,noSub⟩) vals w hl hrel (SRel.zero w hlt) (fun b hb=>hb) hgp).mono ?_
  rintro e w' ⟨u,ρ',rfl,h1,h2,_⟩
  rw [hret] at h1
  obtain ⟨rfl,_⟩:=a7 h1
  refine ⟨rfl,h2.os,h2.tape,h2.output,h2.size,fun k hk=>h2.frame k hk (fun ⟨i,hi⟩=>by simp [aG] at hi)⟩
end Km
namespace Km
open Go
variable {κ:Type} {Ty:κ→Type} {R:Type} {P:Program} {C:Cod κ Ty} {T:TypeId→Option (TI κ Ty)} {H:Type} {enc:TypeId×Value→H}
def oS (C:Cod κ Ty) (T:TypeId→Option (TI κ Ty)):Nat→TypeId→List (AV κ Ty)→Prop
  | 0,_,_=>False
  | n+1,t,avs=>match T t with
    | none=>False
    | some ti=>match ti.shp with
      | .int k=>∃i,avs=[.lit (.int k i)]∧(Lit.int k i).wf=true
      | .bool=>∃b,avs=[.lit (.bool b)]
      | .str=>∃s,avs=[.lit (.string s)]∧s.size≤maxLen
      | .slice e s=>∃xs:List (Ty s),avs=[.inl false s xs]∧xs.length≤maxLen∧∀x∈xs,oS C T n e (C.enc s x)
      | .struct fs=>avs.length=ti.size∧∀f∈fs,∃tf,T f.2=some tf∧oS C T n f.2 ((avs.drop f.1).take tf.size)
      | _=>False
def sS (bo:κ→Bool):Shp κ→Bool | .int _=>true | .bool=>true | .str=>true | .slice _ s=> !(bo s) | .struct _=>true | _=>false
def laid (C:Cod κ Ty) (T:TypeId→Option (TI κ Ty)):Nat→List (Nat×TypeId)→Option Nat
  | n,[]=>some n
  | n,(d,t)::fs=>match T t with
    | some ti=>(match Nat.beq d n&&sS C.bor ti.shp with | true=>laid C T (n+ti.size) fs | false=>none)
    | none=>none
theorem cellsOf_size (HT:TOk P C T) {t:TypeId} {ti:TI κ Ty} (h:T t=some ti):P.cellsOf t=ti.size:=by
  obtain ⟨i,z,h1,h2,_⟩:=HT.info t ti h
  simp [Program.cellsOf,h1,h2]
variable {W:World} {base:Nat} {sp:Nat→Bool} {held:Bool} {ρ:Nat→Loc}
theorem TP {as bs:List (AV κ Ty)} {us vs:List Value} {w:World} {Mut:Nat→Prop} {objs:aH κ Ty} (h:Cells C w Mut ρ objs as us) (h':Cells C w Mut ρ objs bs vs):Cells C w Mut ρ objs (as++bs) (us++vs):=by
  obtain ⟨h1,h2,h3⟩:=h
  obtain ⟨g1,g2,g3⟩:=h'
  refine ⟨by simp [h1,g1],fun j u hj=> ?_,fun j cl u hj hu=> ?_⟩
  ·by_cases hlt:j<us.length
   ·rw [List.getElem?_append_left hlt] at hj;exact h2 j u hj
   ·rw [List.getElem?_append_right (by omega)] at hj;exact g2 _ u hj
  ·by_cases hlt:j<us.length
   ·rw [List.getElem?_append_left hlt] at hu
    rw [List.getElem?_append_left (by omega)] at hj
    exact h3 j cl u hj hu
   ·rw [List.getElem?_append_right (by omega)] at hu
    rw [List.getElem?_append_right (by omega),←h1] at hj
    exact g3 _ cl u hj hu
theorem tM {a:AV κ Ty} {u:Value} {w:World} {Mut:Nat→Prop} {objs:aH κ Ty} (hc:bD u=true) (h:VRel C w Mut ρ objs a u):Cells C w Mut ρ objs [a] [u]:=
  ⟨rfl,fun j v hj=>by
    cases j with
    | zero=>simp at hj;subst hj;exact hc
    | succ j=>simp at hj,fun j cl v a b=>by
    cases j with
    | zero=>simp at a b;subst a;subst b;exact h
    | succ j=>simp at a⟩
theorem H0 (HT:TOk P C T) {n:Nat} {cs:List Value} (ih:∀(t:TypeId) (cs:List Value) (x:DataW H×List MemPlace) (ti:TI κ Ty),T t=some ti→sS C.bor ti.shp=true→DataW.trod enc P W base sp held n t cs=some x→∃avs,oS C T n t avs∧Cells C W (fun _=>False) ρ [] avs cs):
    ∀(fs:List (Nat×TypeId)) (off tot:Nat),laid C T off fs=some tot→cs.length=tot→(∀f∈fs,∃x,DataW.trod enc P W base sp held n f.2 ((cs.drop f.1).take (P.cellsOf f.2))=some x)→
     off≤tot∧∃avs:List (AV κ Ty),Cells C W (fun _=>False) ρ [] avs (cs.drop off)∧∀f∈fs,off≤f.1∧∃tf,T f.2=some tf∧oS C T n f.2 ((avs.drop (f.1-off)).take tf.size)
  | [],off,tot,hl,hlen,_=>by
    simp only [laid,Option.some.injEq] at hl
    subst hl
    refine ⟨Nat.le_refl _,[], ?_,fun f hf=>by simp at hf⟩
    rw [List.drop_eq_nil_of_le (by omega)]
    exact ⟨rfl,fun j u h=>by simp at h,fun j cl u h=>by simp at h⟩
  | (d,t)::fs,off,tot,hl,hlen,h=>by
    simp only [laid] at hl
    split at hl
    ·rename_i ti hti
     split at hl
     ·rename_i hb
      simp only [Bool.and_eq_true] at hb
      have hd:=Nat.eq_of_beq_eq_true hb.1
      subst hd
      obtain ⟨k1,avs2,k2,k3⟩:=H0 HT ih fs (d+ti.size) tot hl hlen (fun f hf=>h f (List.mem_cons_of_mem _ hf))
      obtain ⟨x,hx⟩:=h (d,t) (List.mem_cons_self ..)
      dsimp only at hx
      rw [cellsOf_size HT hti] at hx
      obtain ⟨avs1,g1,g2⟩:=ih t _ x ti hti hb.2 hx
      have hl1:avs1.length=ti.size:=by rw [←g2.1];simp;omega
      refine ⟨by omega,avs1++avs2, ?_,fun f hf=> ?_⟩
      ·have:=TP g2 k2
       rwa [show (cs.drop d).take ti.size++cs.drop (d+ti.size)=cs.drop d by rw [←List.drop_drop];exact List.take_append_drop _ _] at this
      ·simp only [List.mem_cons] at hf
       rcases hf with rfl | hf
       ·refine ⟨Nat.le_refl _,ti,hti, ?_⟩
        dsimp only
        rw [Nat.sub_self,List.drop_zero,←hl1,List.take_left']
        ·exact g1
        ·rfl
       ·obtain ⟨m1,tf,m2,m3⟩:=k3 f hf
        refine ⟨by omega,tf,m2, ?_⟩
        rw [List.drop_append,List.drop_eq_nil_of_le (by omega),List.nil_append,hl1,show f.1-d-ti.size=f.1-(d+ti.size) by omega]
        exact m3
     ·cases hl
    ·cases hl
structure FullC (C:Cod κ Ty) (T:TypeId→Option (TI κ Ty)):Prop where
  laid:∀t ti fs,T t=some ti→ti.shp= .struct fs→laid C T 0 fs=some ti.size
  elem:∀t ti e s,T t=some ti→ti.shp= .slice e s→∃te,T e=some te∧sS C.bor te.shp=true
  full:∀t ti e s n avs,T t=some ti→ti.shp= .slice e s→C.bor s=false→oS C T n e avs→∃x,C.enc s x=avs
  sz:∀s,0<C.sz s
theorem IU {α:Type} {p:Nat→α→Prop}:∀(n:Nat),(∀i,i<n→∃x,p i x)→∃xs:List α,xs.length=n∧∀i x,xs[i]? =some x→p i x
  | 0,_=>⟨[],rfl,fun i x h=>by simp at h⟩
  | n+1,h=>by
    obtain ⟨xs,h1,h2⟩:=IU n (fun i hi=>h i (by omega))
    obtain ⟨x,hx⟩:=h n (by omega)
    refine ⟨xs++[x],by simp [h1],fun i y hy=> ?_⟩
    by_cases hi:i<n
    ·rw [List.getElem?_append_left (by omega)] at hy;exact h2 i y hy
    ·rw [List.getElem?_append_right (by omega)] at hy
     have hlt:=(List.getElem?_eq_some_iff.mp hy).1
     simp at hlt
     have:i=n:=by omega
     subst this
     rw [h1] at hy;simp at hy;subst hy;exact hx
theorem ZB {w:World} {a:Addr} {n:Nat} {cs:List Value} (h:w.cells? base a n=some cs):cs.length=n∧∀i,i<n→w.cell? (a.add i)=cs[i]? :=by
  unfold World.cells? at h
  split at h
  ·exact ⟨by simpa using mapM_some_length h,fun i hi=>mapM_some_get h i i (by simp [hi])⟩
  ·cases h
theorem trod_shaped (HT:TOk P C T) (HC:bH C) (HF:FullC C T):∀(fuel:Nat) (t:TypeId) (cs:List Value) (x:DataW H×List MemPlace) (ti:TI κ Ty),T t=some ti→sS C.bor ti.shp=true→
    DataW.trod enc P W base sp held fuel t cs=some x→∃avs,oS C T fuel t avs∧Cells C W (fun _=>False) ρ [] avs cs
  | 0,t,cs,x,ti,_,_,h=>by simp [DataW.trod] at h
  | fuel+1,t,cs,x,ti,ht,hp,h=>by
    cases hs:ti.shp with
    | int k=>
      obtain ⟨n,rfl,_,hw⟩:=DataW.trod_int (HT.int t ti k ht hs) h
      exact ⟨[.lit (.int k n)],by simp only [oS,ht,hs];exact ⟨n,rfl,hw⟩,tM rfl (.lit rfl)⟩
    | bool=>
      obtain ⟨b,rfl,_⟩:=DataW.trod_bool (HT.bool t ti ht hs) h
      exact ⟨[.lit (.bool b)],by simp only [oS,ht,hs];exact ⟨b,rfl⟩,tM rfl (.lit rfl)⟩
    | str=>
      obtain ⟨s,rfl,_,hl⟩:=DataW.trod_string (HT.str t ti ht hs) h
      exact ⟨[.lit (.string s)],by simp only [oS,ht,hs];exact ⟨s,rfl,hl⟩,tM rfl (.lit rfl)⟩
    | struct fs=>
      obtain ⟨fields,u1,u2,u3⟩:=HT.struct t ti fs ht hs
      obtain ⟨xs,n,hn,_,hl,hxl,hx⟩:=DataW.trod_struct u1 h
      cases hn
      rw [cellsOf_size HT ht] at hl
      obtain ⟨_,avs,k1,k2⟩:=H0 (ρ:=ρ) HT (trod_shaped HT HC HF fuel) fs 0 ti.size (HF.laid t ti fs ht hs) hl (fun f hf=>by
        rw [←u2,List.mem_map] at hf
        obtain ⟨fl,hfl,rfl⟩:=hf
        obtain ⟨i,hi⟩:=List.getElem?_of_mem hfl
        have hi':fields[i]? =some fl:=by simpa using hi
        have hlt:=(Array.getElem?_eq_some_iff.mp hi').1
        have:=hx i fl hi'
        exact ⟨xs[i]'(by omega),by rw [this];exact List.getElem?_eq_getElem _⟩)
      rw [List.drop_zero] at k1
      refine ⟨avs, ?_,k1⟩
      simp only [oS,ht,hs]
      refine ⟨by rw [←k1.1];exact hl,fun f hf=> ?_⟩
      obtain ⟨_,tf,m1,m2⟩:=k2 f hf
      exact ⟨tf,m1,by simpa using m2⟩
    | slice e s=>
      obtain ⟨u1,i,hi,hi2,_⟩:=HT.slice t ti e s ht hs
      obtain ⟨te,hte,hpe⟩:=HF.elem t ti e s ht hs
      have hsz:P.cellsOf e=C.sz s:=by simp [Program.cellsOf,hi,hi2]
      rcases DataW.trod_slice u1 h with ⟨rfl,_⟩ | ⟨a,len,cap,elems,rest,n,hn,rfl,_,hb,hlc,hcap,hel,hget,_⟩
      ·refine ⟨[.inl false s []],by simp only [oS,ht,hs];exact ⟨[],rfl,Nat.zero_le _,fun x hx=>by simp at hx⟩,tM rfl ?_⟩
       exact .inl (xs:=[]) (blk:=0) (off:=0) (vals:=fun _ _=>Go.undef) (fun _=>by rw [hs] at hp;simpa [sS] using hp) (Nat.le_refl _) (fun h=>absurd rfl h) (fun i x j cl hx=>by simp at hx) (fun i x j cl hx=>by simp at hx)
      ·cases hn
       have hrow:∀i,i<len→∃y:Ty s,oS C T fuel e (C.enc s y)∧∃us,Cells C W (fun _=>False) ρ [] (C.enc s y) us∧us.length=C.sz s∧∀j,j<C.sz s→W.cell? ((a.add (i*C.sz s)).add j)=us[j]? :=fun i hi'=>by
         have h1:=hget i hi'
         rw [hsz,List.getElem?_eq_getElem (by omega),Option.bind_eq_some_iff] at h1
         obtain ⟨us,h2,h3⟩:=h1
         obtain ⟨avs,k1,k2⟩:=trod_shaped HT HC HF fuel e us _ te hte hpe h3
         obtain ⟨y,rfl⟩:=HF.full t ti e s fuel avs ht hs (by rw [hs] at hp;simpa [sS] using hp) k1
         obtain ⟨g1,g2⟩:=ZB h2
         exact ⟨y,k1,us,k2,g1,g2⟩
       obtain ⟨ys,hy1,hy2⟩:=IU len hrow
       have hspot:ys≠[]→a=at' a.block a.off∧a.block<W.heap.size:=fun hne=>by
         have hpos:=List.length_pos_iff.mpr hne
         obtain ⟨_,us,_,hul,hu⟩:=hy2 0 ys[0] (List.getElem?_eq_getElem hpos)
         have h0:=hu 0 (HF.sz s)
         have hsz0:=HF.sz s
         rw [List.getElem?_eq_getElem (by omega)] at h0
         simp only [Nat.zero_mul,Addr.add,if_true] at h0
         refine ⟨?_,U4 h0⟩
         obtain ⟨ab,ao,asp⟩:=a
         cases asp with
         | none=>rfl
         | some q=>
           simp only [World.cell?] at h0
           split at h0
           ·simp at h0
           ·cases h0
       refine ⟨[.inl false s ys],by
         simp only [oS,ht,hs]
         exact ⟨ys,rfl,by omega,fun x hx=>by
           obtain ⟨i,hi'⟩:=List.getElem?_of_mem hx
           exact (hy2 i x hi').1⟩,tM rfl ?_⟩
       have hadd:ys≠[]→∀i j,(a.add (i*C.sz s)).add j=at' a.block (a.off+i*C.sz s+j):=fun hne i j=>by
         obtain ⟨e1,_⟩:=hspot hne
         rw [e1,nZ,nZ]
       have:=VRel.inl (C:=C) (w:=W) (Mut:=fun _=>False) (ρ:=ρ) (objs:=[]) (b:=false) (t:=s) (xs:=ys) (A:=some a) (c:=cap) (blk:=a.block) (off:=a.off)
         (vals:=fun i j=>(W.cell? ((a.add (i*C.sz s)).add j)).getD Go.undef) (fun _=>by rw [hs] at hp;simpa [sS] using hp) (by omega)
         (fun hne=>⟨congrArg some (hspot hne).1,(hspot hne).2,fun hx=>by
           rcases hx with ⟨k,hk⟩ | ⟨_,hk⟩
           ·simp [aG] at hk
           ·exact hk⟩)
         (fun i x j cl hx hj=>by
           have hne:ys≠[]:=List.ne_nil_of_mem (List.mem_of_getElem? hx)
           obtain ⟨_,us,k1,k2,k3⟩:=hy2 i x hx
           have hjl:=(List.getElem?_eq_some_iff.mp hj).1
           rw [HC.len] at hjl
           have:=k3 j hjl
           rw [←hadd hne,this,List.getElem?_eq_getElem (by omega)];rfl)
         (fun i x j cl hx hj=>by
           obtain ⟨_,us,k1,k2,k3⟩:=hy2 i x hx
           have hjl:=(List.getElem?_eq_some_iff.mp hj).1
           rw [HC.len] at hjl
           have:=k3 j hjl
           rw [this,List.getElem?_eq_getElem (by omega)]
           exact k1.2.2 j cl _ hj (List.getElem?_eq_getElem (by omega)))
       rw [hy1] at this
       exact this
    | arr n e s=>rw [hs] at hp;cases hp
    | map kt et k v=>rw [hs] at hp;cases hp
    | other=>rw [hs] at hp;cases hp
def QA (C:Cod κ Ty) (T:TypeId→Option (TI κ Ty)) (e:Nat×TI κ Ty):Bool:=match e.2.shp with
  | .struct fs=>(match laid C T 0 fs with | some n=>Nat.beq n e.2.size | none=>false)
  | .slice e2 _=>(match T e2 with | some te=>sS C.bor te.shp | none=>false)
  | _=>true
theorem FullC.of {C:Cod κ Ty} {l:List (Nat×TI κ Ty)} (h1:l.all (QA C (aU l))=true) (h2:∀e∈l,∀e2 s n avs,e.2.shp= .slice e2 s→C.bor s=false→oS C (aU l) n e2 avs→∃x,C.enc s x=avs) (h3:∀s,0<C.sz s) (h4:True):FullC C (aU l):=by
  have key:∀t ti,aU l t=some ti→QA C (aU l) (t,ti)=true:=fun t ti ht=>(List.all_eq_true.mp h1) _ (lB ht)
  refine ⟨fun t ti fs ht hs=> ?_,fun t ti e s ht hs=> ?_,fun t ti e s n avs ht hs=>h2 _ (lB ht) e s n avs hs,h3⟩
  ·have:=key t ti ht
   simp only [QA,hs] at this
   split at this
   ·rename_i n hn;rw [hn,Nat.eq_of_beq_eq_true this]
   ·cases this
  ·have:=key t ti ht
   simp only [QA,hs] at this
   split at this
   ·rename_i te hte;exact ⟨te,hte,this⟩
   ·cases this
end Km
namespace Km
open Go
inductive T1 (κ:Type) where
  | i (k:IntKind) | b | s | l (b:Bool) (t:κ) | o (id:Nat) | r (id off:Nat) | m (id:Nat) | n (t:κ) | u | v | p | sb (id:Nat) | e (id off:Nat) | z (id off:Nat) | w (id:Nat) | a (id off:Nat) | y (id:Nat) | f
inductive T2 (κ:Type) where
  | c (t:T1 κ) | g (ts:List (T1 κ))
inductive TO (κ:Type) where
  | d | x (ts:List (T1 κ)) | l (t:κ) | m (k v:κ) | w (t:κ) | q (t:κ)
variable {κ:Type} {Ty:κ→Type} {R X Y:Type}
def L1 (Ty:κ→Type):T1 κ→Type
  | .i _=>Int
  | .b=>Bool
  | .s=>ByteArray
  | .l _ t=>List (Ty t)
  | .sb _=>Nat×Nat
  | .e _ _=>Nat
  | .a _ _=>Nat
  | .y _=>Bool
  | _=>Unit
def FL (Ty:κ→Type) (t:T1 κ) (Y:Type):Type:=match t with
  | .i _=>Int→Y
  | .b=>Bool→Y
  | .s=>ByteArray→Y
  | .l _ t=>List (Ty t)→Y
  | .sb _=>Nat→Nat→Y
  | .e _ _=>Nat→Y
  | .a _ _=>Nat→Y
  | .y _=>Bool→Y
  | _=>Y
def bpv (id:Nat):Bool→AV κ Ty | true=> .ref id 0 | false=> .lit (.pointer none)
def mk1:(t:T1 κ)→L1 Ty t→AV κ Ty
  | .i k,a=> .lit (.int k a)
  | .b,a=> .lit (.bool a)
  | .s,a=> .lit (.string a)
  | .l b t,a=> .inl b t a
  | .sb id,a=> .sub id a.1 a.2
  | .e id off,a=> .eref id a off
  | .w id,_=> .rwv id
  | .a id off,a=> .rwp id a off
  | .y id,a=>bpv id a
  | .o id,_=> .own id
  | .r id off,_=> .ref id off
  | .m id,_=> .mapv id
  | .n t,_=> .nil t
  | .u,_=> .undef
  | .v,_=> .void
  | .p,_=> .lit (.pointer none)
  | .f,_=> .lit .nilIface
  | .z id off,_=> .eref id 0 off
def apL:(t:T1 κ)→FL Ty t Y→L1 Ty t→Y
  | .i _,f,a=>f a
  | .b,f,a=>f a
  | .s,f,a=>f a
  | .l _ _,f,a=>f a
  | .sb _,f,a=>f a.1 a.2
  | .e _ _,f,a=>f a
  | .a _ _,f,a=>f a
  | .y _,f,a=>f a
  | .w _,f,_=>f
  | .o _,f,_=>f
  | .r _ _,f,_=>f
  | .m _,f,_=>f
  | .n _,f,_=>f
  | .u,f,_=>f
  | .v,f,_=>f
  | .p,f,_=>f
  | .f,f,_=>f
  | .z _ _,f,_=>f
def gI (k:IntKind):AV κ Ty→Option Int
  | .lit u=>(match u with | .int k' n=>(match decide (k'=k) with | true=>some n | false=>none) | _=>none)
  | _=>none
def gB:AV κ Ty→Option Bool
  | .lit u=>(match u with | .bool n=>some n | _=>none)
  | _=>none
def gS:AV κ Ty→Option ByteArray
  | .lit u=>(match u with | .string n=>some n | _=>none)
  | _=>none
def gL (C:Cod κ Ty) (b:Bool) (t:κ):AV κ Ty→Option (List (Ty t))
  | .inl b' t' xs=>(match decide (b'=b) with | true=>C.cast t' t xs | false=>none)
  | _=>none
def gSb (id:Nat):AV κ Ty→Option (Nat×Nat)
  | .sub id' lo hi=>(match Nat.beq id' id with | true=>some (lo,hi) | false=>none)
  | _=>none
def gE (id off:Nat):AV κ Ty→Option Nat
  | .eref id' i off'=>(match Nat.beq id' id&&Nat.beq off' off with | true=>some i | false=>none)
  | _=>none
def gA (id off:Nat):AV κ Ty→Option Nat
  | .rwp id' i off'=>(match Nat.beq id' id&&Nat.beq off' off with | true=>some i | false=>none)
  | _=>none
def gY (id:Nat):AV κ Ty→Option Bool
  | .ref id' off=>(match Nat.beq id' id&&Nat.beq off 0 with | true=>some true | false=>none)
  | .lit u=>(match u with | .pointer q=>(match q with | none=>some false | some _=>none) | _=>none)
  | _=>none
def isV (C:Cod κ Ty):T1 κ→AV κ Ty→Bool
  | .o id, .own id'=>Nat.beq id' id
  | .r id off, .ref id' off'=>Nat.beq id' id&&Nat.beq off' off
  | .m id, .mapv id'=>Nat.beq id' id
  | .w id, .rwv id'=>Nat.beq id' id
  | .n t, .nil t'=>C.same t' t
  | .u, .undef=>true
  | .v, .void=>true
  | .p, .lit u=>(match u with | .pointer q=>(match q with | none=>true | some _=>false) | _=>false)
  | .f, .lit u=>(match u with | .nilIface=>true | _=>false)
  | .z id off, .eref id' i off'=>Nat.beq id' id&&(Nat.beq off' off&&Nat.beq i 0)
  | _,_=>false
def gC_ (C:Cod κ Ty):(t:T1 κ)→AV κ Ty→Option (L1 Ty t)
  | .i k,v=>gI k v
  | .b,v=>gB v
  | .s,v=>gS v
  | .l b t,v=>gL C b t v
  | .sb id,v=>gSb id v
  | .e id off,v=>gE id off v
  | .a id off,v=>gA id off v
  | .y id,v=>gY id v
  | .w id,v=>match isV C (.w id) v with | true=>some () | false=>none
  | .o id,v=>match isV C (.o id) v with | true=>some () | false=>none
  | .r id off,v=>match isV C (.r id off) v with | true=>some () | false=>none
  | .m id,v=>match isV C (.m id) v with | true=>some () | false=>none
  | .n t,v=>match isV C (.n t) v with | true=>some () | false=>none
  | .u,v=>match isV C .u v with | true=>some () | false=>none
  | .v,v=>match isV C .v v with | true=>some () | false=>none
  | .p,v=>match isV C .p v with | true=>some () | false=>none
  | .f,v=>match isV C .f v with | true=>some () | false=>none
  | .z id off,v=>match isV C (.z id off) v with | true=>some () | false=>none
theorem d9_ {C:Cod κ Ty} (HC:bH C) {s t:κ} {xs:List (Ty s)} {ys:List (Ty t)} (h:C.cast s t xs=some ys) {b:Bool}:AV.inl (κ:=κ) (Ty:=Ty) b t ys= .inl b s xs:=by
  obtain ⟨e,h⟩:=HC.cast s t xs ys h
  subst e;subst h;rfl
theorem cB_ {b:Bool} {a:Unit} {x:Option Unit} (h:(match b with | true=>some () | false=>none)=x) (hx:x=some a):b=true:=by
  cases b with
  | true=>rfl
  | false=>subst h;cases hx
theorem g5_ {C:Cod κ Ty} {id:Nat} {v:AV κ Ty} (h:isV C (.o id) v=true):v= .own id:=by
  cases v<;>first | (have:=Nat.eq_of_beq_eq_true h;subst this;rfl) | cases h
theorem gL_ {C:Cod κ Ty} {id off:Nat} {v:AV κ Ty} (h:isV C (.r id off) v=true):v= .ref id off:=by
  cases v<;>first | (simp only [isV,Bool.and_eq_true] at h;have h1:=Nat.eq_of_beq_eq_true h.1;have h2:=Nat.eq_of_beq_eq_true h.2;subst h1;subst h2;rfl) | cases h
theorem g0_ {C:Cod κ Ty} {id:Nat} {v:AV κ Ty} (h:isV C (.m id) v=true):v= .mapv id:=by
  cases v<;>first | (have:=Nat.eq_of_beq_eq_true h;subst this;rfl) | cases h
theorem gY_ {C:Cod κ Ty} {id:Nat} {v:AV κ Ty} (h:isV C (.w id) v=true):v= .rwv id:=by
  cases v<;>first | (have:=Nat.eq_of_beq_eq_true h;subst this;rfl) | cases h
theorem hj_ {C:Cod κ Ty} (HC:bH C) {t:κ} {v:AV κ Ty} (h:isV C (.n t) v=true):v= .nil t:=by
  cases v<;>first | (have:=HC.same _ _ h;subst this;rfl) | cases h
theorem gy_ {C:Cod κ Ty} {v:AV κ Ty} (h:isV C .u v=true):v= .undef:=by cases v<;>first | rfl | cases h
theorem g3_ {C:Cod κ Ty} {v:AV κ Ty} (h:isV C .v v=true):v= .void:=by cases v<;>first | rfl | cases h
theorem gu_ {C:Cod κ Ty} {v:AV κ Ty} (h:isV C .p v=true):v= .lit (.pointer none):=by
  cases v with
  | lit u=>cases u with
    | pointer q=>cases q with
      | none=>rfl
      | some _=>cases h
    | _=>cases h
  | _=>cases h
theorem hk_ {C:Cod κ Ty} {v:AV κ Ty} (h:isV C .f v=true):v= .lit .nilIface:=by
  cases v with
  | lit u=>cases u<;>first | rfl | cases h
  | _=>cases h
theorem gS_ {C:Cod κ Ty} {id off:Nat} {v:AV κ Ty} (h:isV C (.z id off) v=true):v= .eref id 0 off:=by
  cases v with
  | eref id' i off'=>
    simp only [isV,Bool.and_eq_true] at h
    have h1:=Nat.eq_of_beq_eq_true h.1;have h2:=Nat.eq_of_beq_eq_true h.2.1;have h3:=Nat.eq_of_beq_eq_true h.2.2
    subst h1;subst h2;subst h3;rfl
  | _=>cases h
theorem cs_ {C:Cod κ Ty} (HC:bH C):∀(t:T1 κ) (v:AV κ Ty) (a:L1 Ty t),gC_ C t v=some a→mk1 t a=v
  | .i k,v,a,h=>by
    change gI k v=some a at h
    cases v with
    | lit u=>cases u with
      | int k' n=>
        simp only [gI] at h
        by_cases e:k'=k
        ·subst e;simp only [decide_true] at h;cases h;rfl
        ·simp only [e,decide_false] at h;cases h
      | _=>cases h
    | _=>cases h
  | .b,v,a,h=>by
    change gB v=some a at h
    cases v with
    | lit u=>cases u with
      | bool n=>cases h;rfl
      | _=>cases h
    | _=>cases h
  | .s,v,a,h=>by
    change gS v=some a at h
    cases v with
    | lit u=>cases u with
      | string n=>cases h;rfl
      | _=>cases h
    | _=>cases h
  | .l b t,v,a,h=>by
    change gL C b t v=some a at h
    cases v with
    | inl b' t' xs=>
      simp only [gL] at h
      by_cases e:b'=b
      ·subst e;simp only [decide_true] at h;exact d9_ HC h
      ·simp only [e,decide_false] at h;cases h
    | _=>cases h
  | .sb id,v,a,h=>by
    change gSb id v=some a at h
    cases v with
    | sub id' lo hi=>
      simp only [gSb] at h
      split at h
      ·rename_i hb;have:=Nat.eq_of_beq_eq_true hb;subst this;cases h;rfl
      ·cases h
    | _=>cases h
  | .e id off,v,a,h=>by
    change gE id off v=some a at h
    cases v with
    | eref id' i off'=>
      simp only [gE] at h
      split at h
      ·rename_i hb
       simp only [Bool.and_eq_true] at hb
       have h1:=Nat.eq_of_beq_eq_true hb.1;have h2:=Nat.eq_of_beq_eq_true hb.2
       subst h1;subst h2;cases h;rfl
      ·cases h
    | _=>cases h
  | .a id off,v,a,h=>by
    change gA id off v=some a at h
    cases v with
    | rwp id' i off'=>
      simp only [gA] at h
      split at h
      ·rename_i hb
       simp only [Bool.and_eq_true] at hb
       have h1:=Nat.eq_of_beq_eq_true hb.1;have h2:=Nat.eq_of_beq_eq_true hb.2
       subst h1;subst h2;cases h;rfl
      ·cases h
    | _=>cases h
  | .y id,v,a,h=>by
    change gY id v=some a at h
    cases v with
    | ref id' off=>
      simp only [gY] at h
      split at h
      ·rename_i hb
       simp only [Bool.and_eq_true] at hb
       have h1:=Nat.eq_of_beq_eq_true hb.1;have h2:=Nat.eq_of_beq_eq_true hb.2
       subst h1;subst h2;cases h;rfl
      ·cases h
    | lit u=>cases u with
      | pointer q=>cases q with
        | none=>cases h;rfl
        | some _=>cases h
      | _=>cases h
    | _=>cases h
  | .w id,v,a,h=>(gY_ (cB_ rfl h)).symm
  | .o id,v,a,h=>(g5_ (cB_ rfl h)).symm
  | .r id off,v,a,h=>(gL_ (cB_ rfl h)).symm
  | .m id,v,a,h=>(g0_ (cB_ rfl h)).symm
  | .n t,v,a,h=>(hj_ HC (cB_ rfl h)).symm
  | .u,v,a,h=>(gy_ (cB_ rfl h)).symm
  | .v,v,a,h=>(g3_ (cB_ rfl h)).symm
  | .p,v,a,h=>(gu_ (cB_ rfl h)).symm
  | .f,v,a,h=>(hk_ (cB_ rfl h)).symm
  | .z id off,v,a,h=>(gS_ (cB_ rfl h)).symm
def A1 (Ty:κ→Type):List (T1 κ)→Type→Type
  | [],X=>X
  | t::ts,X=>L1 Ty t×A1 Ty ts X
def F1 (Ty:κ→Type):List (T1 κ)→Type→Type
  | [],X=>X
  | t::ts,X=>FL Ty t (F1 Ty ts X)
def EK:(ts:List (T1 κ))→A1 Ty ts X→List (AV κ Ty)×X
  | [],a=>([],a)
  | t::ts,a=>(mk1 t a.1::(EK ts a.2).1,(EK ts a.2).2)
def TS:(ts:List (T1 κ))→F1 Ty ts Y→A1 Ty ts X→Y×X
  | [],f,a=>(f,a)
  | t::ts,f,a=>TS ts (apL t f a.1) a.2
def gl_ (C:Cod κ Ty):(ts:List (T1 κ))→List (AV κ Ty)→X→Option (A1 Ty ts X)
  | [],vs,x=>match vs with | []=>some x | _::_=>none
  | t::ts,vs,x=>match vs with
    | []=>none
    | v::vs=>(match gC_ C t v,gl_ C ts vs x with
      | some l,some a=>some (l,a)
      | _,_=>none)
theorem K4 {C:Cod κ Ty} (HC:bH C):∀(ts:List (T1 κ)) (vs:List (AV κ Ty)) (x:X) (a:A1 Ty ts X),gl_ C ts vs x=some a→EK ts a=(vs,x)
  | [],vs,x,a,h=>by
    cases vs with
    | nil=>cases h;rfl
    | cons _ _=>cases h
  | t::ts,vs,x,a,h=>by
    cases vs with
    | nil=>cases h
    | cons v vs=>
      simp only [gl_] at h
      split at h
      ·rename_i l b hl hb
       cases h
       simp only [EK,K4 HC ts vs x b hb,cs_ HC t v l hl]
      ·cases h
def A2 (Ty:κ→Type):List (T2 κ)→Type→Type
  | [],X=>X
  | .c t::ts,X=>L1 Ty t×A2 Ty ts X
  | .g cs::ts,X=>A1 Ty cs (A2 Ty ts X)
def F2 (Ty:κ→Type):List (T2 κ)→Type→Type
  | [],X=>X
  | .c t::ts,X=>FL Ty t (F2 Ty ts X)
  | .g cs::ts,X=>F1 Ty cs (F2 Ty ts X)
def yS:(ts:List (T2 κ))→A2 Ty ts X→List (AV κ Ty)×X
  | [],a=>([],a)
  | .c t::ts,a=>(mk1 t a.1::(yS ts a.2).1,(yS ts a.2).2)
  | .g cs::ts,a=>let p:=EK (X:=A2 Ty ts X) cs a;(.agg p.1::(yS ts p.2).1,(yS ts p.2).2)
def cV_:(ts:List (T2 κ))→F2 Ty ts Y→A2 Ty ts X→Y×X
  | [],f,a=>(f,a)
  | .c t::ts,f,a=>cV_ ts (apL t f a.1) a.2
  | .g cs::ts,f,a=>let p:=TS (Y:=F2 Ty ts Y) (X:=A2 Ty ts X) cs f a;cV_ ts p.1 p.2
def dH_:AV κ Ty→Option (List (AV κ Ty))
  | .agg us=>some us
  | _=>none
theorem cn_ {v:AV κ Ty} {us:List (AV κ Ty)} (h:dH_ v=some us):v= .agg us:=by cases v<;>first | (cases h;rfl) | cases h
def fh_ (C:Cod κ Ty):(ts:List (T2 κ))→List (AV κ Ty)→X→Option (A2 Ty ts X)
  | [],vs,x=>match vs with | []=>some x | _::_=>none
  | .c t::ts,vs,x=>match vs with
    | []=>none
    | v::vs=>(match gC_ C t v,fh_ C ts vs x with
      | some l,some a=>some (l,a)
      | _,_=>none)
  | .g cs::ts,vs,x=>match vs with
    | []=>none
    | v::vs=>(match dH_ v with
      | none=>none
      | some us=>(match fh_ C ts vs x with
        | none=>none
        | some a=>gl_ C cs us a))
theorem H6 {C:Cod κ Ty} (HC:bH C):∀(ts:List (T2 κ)) (vs:List (AV κ Ty)) (x:X) (a:A2 Ty ts X),fh_ C ts vs x=some a→yS ts a=(vs,x)
  | [],vs,x,a,h=>by
    cases vs with
    | nil=>cases h;rfl
    | cons _ _=>cases h
  | .c t::ts,vs,x,a,h=>by
    cases vs with
    | nil=>cases h
    | cons v vs=>
      simp only [fh_] at h
      split at h
      ·rename_i l b hl hb
       cases h
       simp only [yS,H6 HC ts vs x b hb,cs_ HC t v l hl]
      ·cases h
  | .g cs::ts,vs,x,a,h=>by
    cases vs with
    | nil=>cases h
    | cons v vs=>
      simp only [fh_] at h
      split at h
      ·cases h
      ·rename_i us hu
       split at h
       ·cases h
       ·rename_i b hb
        simp only [yS,K4 HC cs us b a h,H6 HC ts vs x b hb,cn_ hu]
def AO (Ty:κ→Type):List (TO κ)→Type
  | []=>Unit
  | .d::os=>AO Ty os
  | .x cs::os=>A1 Ty cs (AO Ty os)
  | .l t::os=>List (Ty t)×AO Ty os
  | .m k v::os=>List (Ty k×Ty v)×AO Ty os
  | .w t::os=>List (Ty t)×AO Ty os
  | .q t::os=>List (Ty t)×Nat×AO Ty os
def FO (Ty:κ→Type):List (TO κ)→Type→Type
  | [],X=>X
  | .d::os,X=>FO Ty os X
  | .x cs::os,X=>F1 Ty cs (FO Ty os X)
  | .l t::os,X=>List (Ty t)→FO Ty os X
  | .m k v::os,X=>List (Ty k×Ty v)→FO Ty os X
  | .w t::os,X=>List (Ty t)→FO Ty os X
  | .q t::os,X=>List (Ty t)→Nat→FO Ty os X
def tC:(os:List (TO κ))→AO Ty os→aH κ Ty
  | [],a=>[]
  | .d::os,a=> .dead::tC os a
  | .x cs::os,a=>let p:=EK (X:=AO Ty os) cs a; .box p.1::tC os p.2
  | .l t::os,a=> .sl t a.1::tC os a.2
  | .m k v::os,a=> .mp k v a.1 none::tC os a.2
  | .w t::os,a=> .rw t a.1 0 none::tC os a.2
  | .q t::os,a=> .rp t a.1 a.2.1::tC os a.2.2
def aC_:(os:List (TO κ))→FO Ty os Y→AO Ty os→Y
  | [],f,a=>f
  | .d::os,f,a=>aC_ os f a
  | .x cs::os,f,a=>let p:=TS (Y:=FO Ty os Y) (X:=AO Ty os) cs f a;aC_ os p.1 p.2
  | .l t::os,f,a=>aC_ os (f a.1) a.2
  | .m k v::os,f,a=>aC_ os (f a.1) a.2
  | .w t::os,f,a=>aC_ os (f a.1) a.2
  | .q t::os,f,a=>aC_ os (f a.1 a.2.1) a.2.2
def dI_:AObj κ Ty→Bool | .dead=>true | _=>false
def hA_:AObj κ Ty→Option (List (AV κ Ty)) | .box us=>some us | _=>none
def slC (C:Cod κ Ty) (t:κ):AObj κ Ty→Option (List (Ty t)) | .sl t' xs=>C.cast t' t xs | _=>none
def mpC (C:Cod κ Ty) (k v:κ):AObj κ Ty→Option (List (Ty k×Ty v)) | .mp k' v' es h=>(match h with | none=>C.mcast k' v' k v es | some _=>none) | _=>none
def rwC (C:Cod κ Ty) (t:κ):AObj κ Ty→Option (List (Ty t)) | .rw t' xs g h=>(match h with | none=>(match Nat.beq g 0 with | true=>C.cast t' t xs | false=>none) | some _=>none) | _=>none
def rpC (C:Cod κ Ty) (t:κ):AObj κ Ty→Option (List (Ty t)×Nat) | .rp t' xs n=>(match C.cast t' t xs with | some ys=>some (ys,n) | none=>none) | _=>none
theorem aT_ {o:AObj κ Ty} (h:dI_ o=true):o= .dead:=by cases o<;>first | rfl | cases h
theorem eC_ {o:AObj κ Ty} {us:List (AV κ Ty)} (h:hA_ o=some us):o= .box us:=by cases o<;>first | (cases h;rfl) | cases h
theorem fp_ {C:Cod κ Ty} (HC:bH C) {t:κ} {o:AObj κ Ty} {ys:List (Ty t)} (h:slC C t o=some ys):o= .sl t ys:=by
  cases o with
  | sl t' xs=>
    obtain ⟨e,h⟩:=HC.cast t' t xs ys h
    subst e;subst h;rfl
  | _=>cases h
theorem fW_ {C:Cod κ Ty} (HC:bH C) {t:κ} {o:AObj κ Ty} {ys:List (Ty t)} (h:rwC C t o=some ys):o= .rw t ys 0 none:=by
  cases o with
  | rw t' xs g ho=>
    cases ho with
    | none=>
      simp only [rwC] at h
      split at h
      ·rename_i hb
       have:=Nat.eq_of_beq_eq_true hb
       subst this
       obtain ⟨e,h⟩:=HC.cast t' t xs ys h
       subst e;subst h;rfl
      ·cases h
    | some _=>cases h
  | _=>cases h
theorem fv_ {C:Cod κ Ty} (HC:bH C) {t:κ} {o:AObj κ Ty} {ys:List (Ty t)×Nat} (h:rpC C t o=some ys):o= .rp t ys.1 ys.2:=by
  cases o with
  | rp t' xs n=>
    simp only [rpC] at h
    split at h
    ·rename_i zs hc
     obtain ⟨e,hc⟩:=HC.cast t' t xs zs hc
     subst e;subst hc;cases h;rfl
    ·cases h
  | _=>cases h
theorem fE_ {C:Cod κ Ty} (HC:bH C) {k v:κ} {o:AObj κ Ty} {ys:List (Ty k×Ty v)} (h:mpC C k v o=some ys):o= .mp k v ys none:=by
  cases o with
  | mp k' v' es ho=>
    cases ho with
    | none=>
      obtain ⟨e1,e2,h⟩:=HC.mcast k' v' k v es ys h
      subst e1;subst e2;subst h;rfl
    | some _=>cases h
  | _=>cases h
def YK (C:Cod κ Ty):(os:List (TO κ))→aH κ Ty→Option (AO Ty os)
  | [],ob=>match ob with | []=>some () | _::_=>none
  | .d::os,ob=>match ob with
    | []=>none
    | o::ob=>(match dI_ o with | true=>YK C os ob | false=>none)
  | .x cs::os,ob=>match ob with
    | []=>none
    | o::ob=>(match hA_ o with
      | none=>none
      | some us=>(match YK C os ob with
        | none=>none
        | some a=>gl_ C cs us a))
  | .l t::os,ob=>match ob with
    | []=>none
    | o::ob=>(match slC C t o,YK C os ob with
      | some ys,some a=>some (ys,a)
      | _,_=>none)
  | .m k v::os,ob=>match ob with
    | []=>none
    | o::ob=>(match mpC C k v o,YK C os ob with
      | some ys,some a=>some (ys,a)
      | _,_=>none)
  | .w t::os,ob=>match ob with
    | []=>none
    | o::ob=>(match rwC C t o,YK C os ob with
      | some ys,some a=>some (ys,a)
      | _,_=>none)
  | .q t::os,ob=>match ob with
    | []=>none
    | o::ob=>(match rpC C t o,YK C os ob with
      | some ys,some a=>some (ys.1,ys.2,a)
      | _,_=>none)
theorem qR {C:Cod κ Ty} (HC:bH C):∀(os:List (TO κ)) (ob:aH κ Ty) (a:AO Ty os),YK C os ob=some a→tC os a=ob
  | [],ob,a,h=>by
    cases ob with
    | nil=>rfl
    | cons _ _=>cases h
  | .d::os,ob,a,h=>by
    cases ob with
    | nil=>cases h
    | cons o ob=>
      simp only [YK] at h
      split at h
      ·rename_i hd
       simp only [tC,qR HC os ob a h,aT_ hd]
      ·cases h
  | .x cs::os,ob,a,h=>by
    cases ob with
    | nil=>cases h
    | cons o ob=>
      simp only [YK] at h
      split at h
      ·cases h
      ·rename_i us hu
       split at h
       ·cases h
       ·rename_i b hb
        simp only [tC,K4 HC cs us b a h,qR HC os ob b hb,eC_ hu]
  | .l t::os,ob,a,h=>by
    cases ob with
    | nil=>cases h
    | cons o ob=>
      simp only [YK] at h
      split at h
      ·rename_i ys b hu hb
       cases h
       simp only [tC,qR HC os ob b hb,fp_ HC hu]
      ·cases h
  | .m k v::os,ob,a,h=>by
    cases ob with
    | nil=>cases h
    | cons o ob=>
      simp only [YK] at h
      split at h
      ·rename_i ys b hu hb
       cases h
       simp only [tC,qR HC os ob b hb,fE_ HC hu]
      ·cases h
  | .w t::os,ob,a,h=>by
    cases ob with
    | nil=>cases h
    | cons o ob=>
      simp only [YK] at h
      split at h
      ·rename_i ys b hu hb
       cases h
       simp only [tC,qR HC os ob b hb,fW_ HC hu]
      ·cases h
  | .q t::os,ob,a,h=>by
    cases ob with
    | nil=>cases h
    | cons o ob=>
      simp only [YK] at h
      split at h
      ·rename_i ys b hu hb
       cases h
       simp only [tC,qR HC os ob b hb,fv_ HC hu]
      ·cases h
abbrev AA (Ty:κ→Type) (vt:List (T2 κ)) (ot:List (TO κ)):Type:=A2 Ty vt (AO Ty ot)
abbrev FF (Ty:κ→Type) (vt:List (T2 κ)) (ot:List (TO κ)) (R:Type):Type:=F2 Ty vt (FO Ty ot R)
def aq_ (vt:List (T2 κ)) (ot:List (TO κ)) (f:FF Ty vt ot R) (a:AA Ty vt ot):R:=let p:=cV_ vt f a;aC_ ot p.1 p.2
def VM (vt:List (T2 κ)) (ot:List (TO κ)) (a:AA Ty vt ot):List (AV κ Ty):=(yS vt a).1
def VR (vt:List (T2 κ)) (ot:List (TO κ)) (a:AA Ty vt ot):aH κ Ty:=tC ot (yS vt a).2
def dy_ (C:Cod κ Ty) (vt:List (T2 κ)) (ot:List (TO κ)) (vs:List (AV κ Ty)) (os:aH κ Ty):Option (AA Ty vt ot):=
  match YK C ot os with | some x=>fh_ C vt vs x | none=>none
theorem CH {C:Cod κ Ty} (HC:bH C) {vt:List (T2 κ)} {ot:List (TO κ)} {vs:List (AV κ Ty)} {os:aH κ Ty} {a:AA Ty vt ot} (h:dy_ C vt ot vs os=some a):VM vt ot a=vs∧VR vt ot a=os:=by
  unfold dy_ at h
  split at h
  ·rename_i x hx
   have h1:=H6 HC vt vs x a h
   have h2:=qR HC ot os x hx
   simp only [VM,VR,h1]
   exact ⟨trivial,h2⟩
  ·cases h
def ct (C:Cod κ Ty) (slots:List Nat) (vt:List (T2 κ)) (ot:List (TO κ)) (f:Nat→FF Ty vt ot (Option R)):Cut κ Ty R:=
  ⟨slots,fun k vs os=>match dy_ C vt ot vs os with | some a=>aq_ vt ot (f k) a | none=>none⟩
def sm (C:Cod κ Ty) (R:Type) (modes:List G7) (vt:List (T2 κ)) (ot:List (TO κ)) (f:Nat→FF Ty vt ot (Option R)) (k:Nat) (rv:List (T2 κ)) (ro:List (TO κ)) (un:R→AA Ty rv ro) (_pk:FF Ty rv ro R) (quiet:Bool):bU κ Ty where
  R:=R
  modes:=modes
  run:=fun args objs=>match dy_ C vt ot args objs with | some a=>aq_ vt ot (f k) a | none=>none
  ret:=fun r=>(one (VM rv ro (un r)),VR rv ro (un r))
  quiet:=quiet
theorem KP {C:Cod κ Ty} (HC:bH C) {R:Type} {modes:List G7} {vt:List (T2 κ)} {ot:List (TO κ)} {f:Nat→FF Ty vt ot (Option R)} {k:Nat} {rv:List (T2 κ)} {ro:List (TO κ)} {un:R→AA Ty rv ro} {pk:FF Ty rv ro R} {q:Bool} {args:List (AV κ Ty)} {objs:aH κ Ty} {r:R}
    (h:(sm C R modes vt ot f k rv ro un pk q).run args objs=some r):∃a,args=VM vt ot a∧objs=VR vt ot a∧aq_ vt ot (f k) a=some r:=by
  change (match dy_ C vt ot args objs with | some a=>aq_ vt ot (f k) a | none=>none)=some r at h
  split at h
  ·rename_i a ha
   obtain ⟨h1,h2⟩:=CH HC ha
   exact ⟨a,h1.symm,h2.symm,h⟩
  ·cases h
def hF_:AV κ Ty→Option (List (AV κ Ty)) | .tup vs=>some vs | _=>none
theorem ew_ {v:AV κ Ty} {us:List (AV κ Ty)} (h:hF_ v=some us):v= .tup us:=by cases v<;>first | (cases h;rfl) | cases h
def eH_ (n:Nat) (v:AV κ Ty):Option (List (AV κ Ty)):=match Nat.beq n 1 with | true=>some [v] | false=>hF_ v
def dc (C:Cod κ Ty) (rv:List (T2 κ)) (ro:List (TO κ)) (pk:FF Ty rv ro R) (v:AV κ Ty) (os:aH κ Ty):Option R:=
  match eH_ rv.length v with
  | some vs=>(match dy_ C rv ro vs os with | some a=>some (aq_ rv ro pk a) | none=>none)
  | none=>none
theorem sL:∀(ts:List (T2 κ)) (a:A2 Ty ts X),(yS ts a).1.length=ts.length
  | [],a=>rfl
  | .c t::ts,a=>by simp only [yS,List.length_cons,sL ts]
  | .g cs::ts,a=>by simp only [yS,List.length_cons,sL ts]
theorem jU:∀(os:List (TO κ)) (a:AO Ty os),(tC os a).length=os.length
  | [],a=>rfl
  | .d::os,a=>congrArg (· +1) (jU os a)
  | .x cs::os,a=>by simp only [tC,List.length_cons,jU os]
  | .l t::os,a=>by simp only [tC,List.length_cons,jU os]
  | .m k v::os,a=>by simp only [tC,List.length_cons,jU os]
  | .w t::os,a=>by simp only [tC,List.length_cons,jU os]
  | .q t::os,a=>by simp only [tC,List.length_cons,jU os]
theorem cj_ {n:Nat} {v:AV κ Ty} {vs:List (AV κ Ty)} (h:eH_ n v=some vs) (hl:vs.length=n):one vs=v:=by
  unfold eH_ at h
  cases hn:Nat.beq n 1 with
  | true=>rw [hn] at h;cases h;rfl
  | false=>
    rw [hn] at h
    have:=ew_ h
    subst this
    match vs,hl with
    | [],_=>rfl
    | [x],hl=>rw [←hl] at hn;cases hn
    | _::_::_,_=>rfl
def g1_:(t:T1 κ)→(AV κ Ty→(FL Ty t Y→Y)→Prop)→Prop
  | .i k,K=>∀n:Int,K (.lit (.int k n)) (fun f=>f n)
  | .b,K=>∀n:Bool,K (.lit (.bool n)) (fun f=>f n)
  | .s,K=>∀n:ByteArray,K (.lit (.string n)) (fun f=>f n)
  | .l b t,K=>∀n:List (Ty t),K (.inl b t n) (fun f=>f n)
  | .sb id,K=>∀m n:Nat,K (.sub id m n) (fun f=>f m n)
  | .e id off,K=>∀n:Nat,K (.eref id n off) (fun f=>f n)
  | .a id off,K=>∀n:Nat,K (.rwp id n off) (fun f=>f n)
  | .y id,K=>∀n:Bool,K (bpv id n) (fun f=>f n)
  | .w id,K=>K (.rwv id) (fun f=>f)
  | .o id,K=>K (.own id) (fun f=>f)
  | .r id off,K=>K (.ref id off) (fun f=>f)
  | .m id,K=>K (.mapv id) (fun f=>f)
  | .n t,K=>K (.nil t) (fun f=>f)
  | .u,K=>K .undef (fun f=>f)
  | .v,K=>K .void (fun f=>f)
  | .p,K=>K (.lit (.pointer none)) (fun f=>f)
  | .f,K=>K (.lit .nilIface) (fun f=>f)
  | .z id off,K=>K (.eref id 0 off) (fun f=>f)
theorem ba_ (t:T1 κ) (K:AV κ Ty→(FL Ty t Y→Y)→Prop) (h:g1_ t K) (a:L1 Ty t):K (mk1 t a) (fun f=>apL t f a):=by
  cases t<;>first | exact h a | exact h a.1 a.2 | exact h
def gs_:(ts:List (T1 κ))→(List (AV κ Ty)→(F1 Ty ts Y→Y)→Prop)→Prop
  | [],K=>K [] (fun f=>f)
  | t::ts,K=>g1_ t (fun v ap=>gs_ ts (fun vs ap'=>K (v::vs) (fun f=>ap' (ap f))))
theorem V3:∀(ts:List (T1 κ)) (K:List (AV κ Ty)→(F1 Ty ts Y→Y)→Prop),gs_ ts K→∀a:A1 Ty ts X,K (EK ts a).1 (fun f=>(TS ts f a).1)
  | [],K,h,a=>h
  | t::ts,K,h,a=>V3 ts _ (ba_ t _ h a.1) a.2
theorem HV:∀(ts:List (T1 κ)) (f:F1 Ty ts Y) (a:A1 Ty ts X),(TS ts f a).2=(EK ts a).2
  | [],f,a=>rfl
  | t::ts,f,a=>HV ts (apL t f a.1) a.2
def gr_:(ts:List (T2 κ))→(List (AV κ Ty)→(F2 Ty ts Y→Y)→Prop)→Prop
  | [],K=>K [] (fun f=>f)
  | .c t::ts,K=>g1_ t (fun v ap=>gr_ ts (fun vs ap'=>K (v::vs) (fun f=>ap' (ap f))))
  | .g cs::ts,K=>gs_ cs (fun us ap=>gr_ ts (fun vs ap'=>K (.agg us::vs) (fun f=>ap' (ap f))))
theorem W1:∀(ts:List (T2 κ)) (K:List (AV κ Ty)→(F2 Ty ts Y→Y)→Prop),gr_ ts K→∀a:A2 Ty ts X,K (yS ts a).1 (fun f=>(cV_ ts f a).1)
  | [],K,h,a=>h
  | .c t::ts,K,h,a=>W1 ts _ (ba_ t _ h a.1) a.2
  | .g cs::ts,K,h,a=>by
    have:=W1 ts _ (V3 (X:=A2 Ty ts X) cs _ h a) (EK (X:=A2 Ty ts X) cs a).2
    have e:(fun f:F1 Ty cs (F2 Ty ts Y)=>(cV_ ts (TS (X:=A2 Ty ts X) cs f a).1 (TS (X:=A2 Ty ts X) cs f a).2).1)=fun f=>(cV_ ts (TS (X:=A2 Ty ts X) cs f a).1 (EK (X:=A2 Ty ts X) cs a).2).1:=funext fun f=>by rw [HV cs f a]
    show K _ (fun f:F1 Ty cs (F2 Ty ts Y)=>(cV_ ts (TS (X:=A2 Ty ts X) cs f a).1 (TS (X:=A2 Ty ts X) cs f a).2).1)
    rw [e]
    exact this
theorem QH:∀(ts:List (T2 κ)) (f:F2 Ty ts Y) (a:A2 Ty ts X),(cV_ ts f a).2=(yS ts a).2
  | [],f,a=>rfl
  | .c t::ts,f,a=>QH ts (apL t f a.1) a.2
  | .g cs::ts,f,a=>by
    have e:=HV (Y:=F2 Ty ts Y) (X:=A2 Ty ts X) cs f a
    show (cV_ ts (TS (Y:=F2 Ty ts Y) (X:=A2 Ty ts X) cs f a).1 (TS (Y:=F2 Ty ts Y) (X:=A2 Ty ts X) cs f a).2).2=(yS ts (EK (X:=A2 Ty ts X) cs a).2).2
    rw [e]
    exact QH ts _ _
def dC_:(os:List (TO κ))→(aH κ Ty→(FO Ty os Y→Y)→Prop)→Prop
  | [],K=>K [] (fun f=>f)
  | .d::os,K=>dC_ os (fun ob ap=>K (.dead::ob) ap)
  | .x cs::os,K=>gs_ cs (fun us ap=>dC_ os (fun ob ap'=>K (.box us::ob) (fun f=>ap' (ap f))))
  | .l t::os,K=>∀xs:List (Ty t),dC_ os (fun ob ap=>K (.sl t xs::ob) (fun f=>ap (f xs)))
  | .m k v::os,K=>∀xs:List (Ty k×Ty v),dC_ os (fun ob ap=>K (.mp k v xs none::ob) (fun f=>ap (f xs)))
  | .w t::os,K=>∀xs:List (Ty t),dC_ os (fun ob ap=>K (.rw t xs 0 none::ob) (fun f=>ap (f xs)))
  | .q t::os,K=>∀(xs:List (Ty t)) (n:Nat),dC_ os (fun ob ap=>K (.rp t xs n::ob) (fun f=>ap (f xs n)))
theorem AB:∀(os:List (TO κ)) (K:aH κ Ty→(FO Ty os Y→Y)→Prop),dC_ os K→∀a:AO Ty os,K (tC os a) (fun f=>aC_ os f a)
  | [],K,h,a=>h
  | .d::os,K,h,a=>AB os _ h a
  | .x cs::os,K,h,a=>by
    have:=AB os _ (V3 (X:=AO Ty os) cs _ h a) (EK (X:=AO Ty os) cs a).2
    have e:(fun f:F1 Ty cs (FO Ty os Y)=>aC_ os (TS (X:=AO Ty os) cs f a).1 (TS (X:=AO Ty os) cs f a).2)=fun f=>aC_ os (TS (X:=AO Ty os) cs f a).1 (EK (X:=AO Ty os) cs a).2:=funext fun f=>by rw [HV cs f a]
    show K _ (fun f:F1 Ty cs (FO Ty os Y)=>aC_ os (TS (X:=AO Ty os) cs f a).1 (TS (X:=AO Ty os) cs f a).2)
    rw [e]
    exact this
  | .l t::os,K,h,a=>AB os _ (h a.1) a.2
  | .m k v::os,K,h,a=>AB os _ (h a.1) a.2
  | .w t::os,K,h,a=>AB os _ (h a.1) a.2
  | .q t::os,K,h,a=>AB os _ (h a.1 a.2.1) a.2.2
def fs_ (vt:List (T2 κ)) (ot:List (TO κ)) (K:List (AV κ Ty)→aH κ Ty→(FF Ty vt ot R→R)→Prop):Prop:=
  gr_ (Y:=FO Ty ot R) vt (fun vs ap=>dC_ ot (fun os ap'=>K vs os (fun f=>ap' (ap f))))
theorem QC {vt:List (T2 κ)} {ot:List (TO κ)} {K:List (AV κ Ty)→aH κ Ty→(FF Ty vt ot R→R)→Prop} (h:fs_ vt ot K) (a:AA Ty vt ot):K (VM vt ot a) (VR vt ot a) (fun f=>aq_ vt ot f a):=by
  have:=AB ot _ (W1 (X:=AO Ty ot) vt _ h a) (yS vt a).2
  unfold VM VR aq_
  simp only [QH]
  exact this
def ch_ (C:Cod κ Ty) (T:TypeId→Option (TI κ Ty)) (fn:Func) (Γ:Nat→FuncId→Option (bU κ Ty)) (cs:List (Nat×Cut κ Ty R)) (m:Nat) (fin:Env κ Ty→aH κ Ty→Option R) (c:Nat×Cut κ Ty R):Prop:=
  (∀vs os,c.2.fn 0 vs os=none)∧(dX c.1 (pO fn) []).isSome=true∧
     ∀k vs os r,c.2.fn (k+1) vs os=some r→∃n,run C T (Γ k) (lam cs k) (BP cs) m fin n true (S5 c.1 (pO fn)) (xP c.2.slots vs) os=some r
theorem aI {C:Cod κ Ty} (HC:bH C) {T:TypeId→Option (TI κ Ty)} {fn:Func} {Γ:Nat→FuncId→Option (bU κ Ty)} {cs:List (Nat×Cut κ Ty R)} {m:Nat} {fin:Env κ Ty→aH κ Ty→Option R} {id:Nat} {slots:List Nat} {vt:List (T2 κ)} {ot:List (TO κ)} {f:Nat→FF Ty vt ot (Option R)}
    (there:(dX id (pO fn) []).isSome=true) (zero:fs_ (R:=Option R) vt ot (fun _ _ ap=>ap (f 0)=none))
    (step:∀k,fs_ (R:=Option R) vt ot (fun vs os ap=>run C T (Γ k) (lam cs k) (BP cs) m fin 4000 true (S5 id (pO fn)) (xP slots vs) os=ap (f (k+1)))):ch_ C T fn Γ cs m fin (id,ct C slots vt ot f):=by
  refine ⟨fun vs os=> ?_,there,fun k vs os r h=> ?_⟩
  ·simp only [ct]
   split
   ·exact QC zero _
   ·rfl
  ·simp only [ct] at h
   split at h
   ·rename_i a ha
    obtain ⟨h1,h2⟩:=CH HC ha
    refine ⟨4000, ?_⟩
    show run C T (Γ k) (lam cs k) (BP cs) m fin 4000 true (S5 id (pO fn)) (xP slots vs) os=some r
    rw [←h1,←h2];exact (QC (step k) a).trans h
   ·cases h
theorem bA {P:Program} {C:Cod κ Ty} {T:TypeId→Option (TI κ Ty)} (HC:bH C) {f:FuncId} {S:Type} {modes:List G7} {vt:List (T2 κ)} {ot:List (TO κ)} {g:Nat→FF Ty vt ot (Option S)} {k0:Nat} {rv:List (T2 κ)} {ro:List (TO κ)} {un:S→AA Ty rv ro} {pk:FF Ty rv ro S} {q:Bool} (fn:Func)
    (Γ:Nat→FuncId→Option (bU κ Ty)) (cs:List (Nat×Cut κ Ty S)) (frz:Bool) (rs:List ResultVar) (m:Nat) (gs:List Bool)
    (hm:P.follows .mixedOrders=true) (hf:P.funcs[f]? =some fn)
    (hb1 : (fn.name == "runtime.NumGoroutine") = false) (hb2 : fn.body = some (pO fn)) (hb3 : fn.results.toList = rs)
    (hb:(okC fn.ntmps (pO fn)&&(OM (QL (pO fn))&&(Nat.ble vt.length fn.ntmps&&(Nat.beq ot.length m&&Nat.beq gs.length m))))=true)
    (H:∀k,Known P C T (Γ k)) (HQ:∀k,QuietOk (Γ k))
    (hun:∀a,un (aq_ rv ro pk a)=a)
    (hc:∀c∈cs,ch_ C T fn Γ cs m (EY C T frz m rs (dc C rv ro pk)) c)
    (hrun:∀k,fs_ (R:=Option S) vt ot (fun vs os ap=>run C T (Γ k) (lam cs k) (BP cs) m (EY C T frz m rs (dc C rv ro pk)) 4000 false [.code (pO fn)] (xP (List.range (vs.map (HW (LM gs))).length) (vs.map (HW (LM gs)))) (OL gs os)=ap (g k))):
    SummOk P C f (sm C S modes vt ot g k0 rv ro un pk q):=by
  simp only [Bool.and_eq_true] at hb
  obtain ⟨hb4,hb5,hb6,hb7,hb8⟩:=hb
  refine eI_ (S:=sm C S modes vt ot g k0 rv ro un pk q) fn Γ cs frz rs m (dc C rv ro pk) hm H HQ hf hb1 hb2 hb3 hb4 hb5 (fun v os r h=> ?_) hc gs (fun args os r h=> ?_)
  ·unfold dc at h
   split at h
   ·rename_i vs hvs
    split at h
    ·rename_i a ha
     cases h
     obtain ⟨h1,h2⟩:=CH HC ha
     show (one (VM rv ro (un (aq_ rv ro pk a))),VR rv ro (un (aq_ rv ro pk a)))=(v,os)
     rw [hun,h1,h2,cj_ hvs (by rw [←h1];exact sL rv a)]
    ·cases h
   ·cases h
  ·change (match dy_ C vt ot args os with | some a=>aq_ vt ot (g k0) a | none=>none)=some r at h
   split at h
   ·rename_i a ha
    obtain ⟨h1,h2⟩:=CH HC ha
    have hl:args.length=vt.length:=by rw [←h1];exact sL vt a
    have hlo:os.length=ot.length:=by rw [←h2];exact jU ot _
    have e7:=Nat.eq_of_beq_eq_true hb7
    have e8:=Nat.eq_of_beq_eq_true hb8
    refine ⟨by have:=Nat.le_of_ble_eq_true hb6;omega,by omega,e8,k0,4000, ?_⟩
    have:=QC (hrun k0) a
    rw [h1,h2] at this
    exact this.trans h
   ·cases h
theorem d8_ {P:Program} {C:Cod κ Ty} {f:FuncId} {S:Type} {modes:List G7} {vt:List (T2 κ)} {ot:List (TO κ)} {g:Nat→FF Ty vt ot (Option S)} {k0:Nat} {rv:List (T2 κ)} {ro:List (TO κ)} {un:S→AA Ty rv ro} {pk:FF Ty rv ro S} {q:Bool} (fn:Func)
    (hf : P.funcs[f]? = some fn) (hb1 : (fn.name == "runtime.NumGoroutine") = false) (hb2 : fn.body.isSome = true) (hz : fs_ (R := Option S) vt ot (fun _ _ ap => ap (g k0) = none)) :
    SummOk P C f (sm C S modes vt ot g k0 rv ro un pk q):=by
  refine ⟨⟨fn,hf,hb1,hb2⟩,fun args os r h=> ?_⟩
  exfalso
  change (match dy_ C vt ot args os with | some a=>aq_ vt ot (g k0) a | none=>none)=some r at h
  split at h
  ·rename_i a ha
   have hn:=QC (R:=Option S) hz a
   exact absurd (hn.symm.trans h) (fun e=>by cases e)
  ·cases h
end Km
namespace Km
open Go
theorem aP {x y:ByteArray} (h:x.size+y.size≤140737488355328):dK x y=some (x++y):=by simp [dK,h]
theorem bP {α:Type} {b:Nat} {xs ys:List α} (h:(xs.length+ys.length)*b≤140737488355328):app b xs ys=some (xs++ys):=by simp [app,h]
theorem bX {n:Nat} {lo hi:Int} (h:0≤lo∧lo≤hi∧hi≤n):wnd n lo hi=some (lo.toNat,hi.toNat):=by simp [wnd,h]
theorem kB {α:Type} (xs:List α) (i:Nat):idx xs (i:Int)=xs[i]? :=by
  unfold idx
  rw [if_neg (by omega)];simp
theorem ST {α:Type} {xs:List α} {i:Nat} (h:i<xs.length):idx xs (i:Int)=some xs[i]:=by rw [kB];exact List.getElem?_eq_getElem h
theorem eO_ {a b:Int} (h:b≠0):J0 a b=some (a.tmod b):=by simp [J0,h]
theorem eV_ {a b:Int} (h:b≠0):UH a b=some (a.tdiv b):=by simp [UH,h]
theorem w64 {n:Int} (h: -9223372036854775808≤n∧n≤9223372036854775807):IntKind.wrap .i64 n=n:=by rw [IntKind.wrap_i64];omega
theorem aD (x y:ByteArray):(x++y).size=x.size+y.size:=by simp
theorem kZ (bs:List Int):(mD bs).size=bs.length:=by
  have:∀(bs:List Int) (s:ByteArray),(bs.foldl (fun r n=>r.push (UInt8.ofNat n.toNat)) s).size=s.size+bs.length:=by
    intro bs
    induction bs with
    | nil=>intro s;simp
    | cons b bs ih=>intro s;simp only [List.foldl_cons,ih,ByteArray.size_push,List.length_cons];omega
  unfold mD;rw [this];simp
end Km
namespace Km
open Go
variable {α β S R:Type}
def Wp (f:Nat→Option R) (Q:R→Prop):Prop:=∃r,Q r∧∃N,∀k,N≤k→f k=some r
theorem Wp.ret {r:R} {Q:R→Prop} (h:Q r):Wp (fun _=>some r) Q:=⟨r,h,0,fun _ _=>rfl⟩
theorem Wp.bind {f:Nat→Option α} {g:Nat→α→Option R} {P:α→Prop} {Q:R→Prop} (h:Wp f P) (h':∀x,P x→Wp (fun k=>g k x) Q):Wp (fun k=>(f k).bind (g k)) Q:=by
  obtain ⟨x,hx,N,hN⟩:=h
  obtain ⟨r,hr,M,hM⟩:=h' x hx
  exact ⟨r,hr,max N M,fun k hk=>by show (f k).bind (g k)=some r;rw [hN k (by omega)];exact hM k (by omega)⟩
theorem Wp.opt {o:Option α} {x:α} {g:Nat→α→Option R} {Q:R→Prop} (h:o=some x) (h':Wp (fun k=>g k x) Q):Wp (fun k=>o.bind (g k)) Q:=by
  subst h;exact h'
theorem Wp.mono {f:Nat→Option R} {P Q:R→Prop} (h:Wp f P) (h':∀x,P x→Q x):Wp f Q:=by
  obtain ⟨x,hx,N⟩:=h;exact ⟨x,h' x hx,N⟩
theorem Wp.step {f:Nat→Option R} {Q:R→Prop} (h:Wp (fun k=>f (k+1)) Q):Wp f Q:=by
  obtain ⟨x,hx,N,hN⟩:=h
  exact ⟨x,hx,N+1,fun k hk=>by
    have:f (k-1+1)=some x:=hN (k-1) (by omega)
    rwa [show k-1+1=k by omega] at this⟩
theorem Wp.ite {p:Prop} [Decidable p] {f g:Nat→Option R} {Q:R→Prop} (h1:p→Wp f Q) (h2:¬p→Wp g Q):Wp (fun k=>if p then f k else g k) Q:=by
  by_cases h:p
  ·simpa [h] using h1 h
  ·simpa [h] using h2 h
theorem Wp.bif {b:Bool} {f g:Nat→Option R} {Q:R→Prop} (h1:b=true→Wp f Q) (h2:b=false→Wp g Q):Wp (fun k=>bif b then f k else g k) Q:=by
  cases b
  ·exact h2 rfl
  ·exact h1 rfl
theorem Wp.dec {p:Prop} [Decidable p] {f g:Nat→Option R} {Q:R→Prop} (h1:p→Wp f Q) (h2:¬p→Wp g Q):Wp (fun k=>bif decide p then f k else g k) Q:=
  Wp.bif (fun h=>h1 (of_decide_eq_true h)) (fun h=>h2 (of_decide_eq_false h))
theorem Wp.not {b:Bool} {f g:Nat→Option R} {Q:R→Prop} (h1:b=false→Wp f Q) (h2:b=true→Wp g Q):Wp (fun k=>bif !b then f k else g k) Q:=
  Wp.bif (fun h=>h1 (by simpa using h)) (fun h=>h2 (by simpa using h))
theorem Wp.exists {f:Nat→Option R} {r:R} (h:Wp f (· =r)):∃k,f k=some r:=by
  obtain ⟨x,rfl,N,hN⟩:=h;exact ⟨N,hN N (Nat.le_refl _)⟩
noncomputable def ans [Inhabited R] (f:Nat→Option R):R:=by
  classical exact if h:∃r,Wp f (· =r) then Classical.choose h else default
theorem Wp.loop {n:Nat} {f:Nat→Nat→S→Option R} {Inv:Nat→S→Prop} {Q:R→Prop} (hstep:∀i s,i<n→Inv i s→(∀s',Inv (i+1) s'→Wp (fun k=>f k (i+1) s') Q)→Wp (fun k=>f k i s) Q)
    (hlast:∀s,Inv n s→Wp (fun k=>f k n s) Q):∀(d i:Nat) (s:S),i+d=n→Inv i s→Wp (fun k=>f k i s) Q
  | 0,i,s,h,hi=>by
    obtain rfl:i=n:=by omega
    exact hlast s hi
  | d+1,i,s,h,hi=>hstep i s (by omega) hi fun s' hs'=>Wp.loop hstep hlast d (i+1) s' (by omega) hs'
theorem bQ {n:Int} (h1: -9223372036854775808≤n) (h2:n≤9223372036854775807):IntKind.wrap .i64 n=n:=w64 ⟨h1,h2⟩
theorem hv_ {xs:List α} {i:Nat} (h:i<xs.length):idx xs (i:Int)=some xs[i]:=ST h
theorem hB_ {xs:List α} {i:Nat} (h:i<xs.length):xs[(i:Int).toNat]? =some xs[i]:=by rw [Int.toNat_natCast];exact List.getElem?_eq_getElem h
theorem cO_ (i:Nat):(i:Int)+1=((i+1:Nat):Int):=by omega
theorem aJ {p:Prop} [Decidable p] {x y:R}:(bif decide p then x else y)=if p then x else y:=by by_cases h:p<;>simp [h]
theorem cE {b:Bool} {x y:R}:(bif !b then x else y)=bif b then y else x:=by cases b<;>rfl
theorem kH {a b:Int} {x y:R}:(bif a==b then x else y)=if a=b then x else y:=by
  by_cases h:a=b
  ·simp [h]
  ·rw [if_neg h,show (a==b)=false by simpa using h];rfl
theorem DD {a b:Int} {x y:R}:(bif a !=b then x else y)=if a=b then y else x:=by
  by_cases h:a=b
  ·simp [h]
  ·rw [if_neg h,show (a !=b)=true by simpa using h];rfl
theorem OO {a b:ByteArray}:a.toList=b.toList↔a=b:=by
  constructor
  ·intro h
   rw [Go.ByteArray.toList_eq,Go.ByteArray.toList_eq] at h
   apply ByteArray.ext;apply Array.ext';exact h
  ·intro h;rw [h]
theorem dE_ {a b:ByteArray}:(a.toList==b.toList)=decide (a=b):=by
  by_cases h:a=b
  ·simp [h]
  ·simp only [h,decide_false,beq_eq_false_iff_ne,ne_eq];rw [OO];exact h
theorem oA {a b:ByteArray} {x y:R}:(bif a.toList==b.toList then x else y)=if a=b then x else y:=by rw [dE_,aJ]
theorem bK {pre t:List α} {x:α}:idx (pre++x::t) (pre.length:Int)=some x:=by rw [kB];simp
theorem j5 {pre t:List α} {x:α}:(pre++x::t)[Int.toNat (pre.length:Int)]? =some x:=by simp
theorem set_mid {pre t:List α} {x y:α}:(pre++x::t).set (Int.toNat (pre.length:Int)) y=pre++y::t:=by simp
theorem iE {pre t:List α} {x:α}:((pre.length:Int)<((pre++x::t).length:Int)):=by simp;omega
theorem cM (pre t:List α) (x:α):pre++x::t=(pre++[x])++t:=by simp
theorem bV (pre:List α) (x:α):(pre.length:Int)+1=((pre++[x]).length:Int):=by simp
theorem eJ_ {b:Nat} {n:Nat} (h:n*b≤140737488355328):room b (n:Int)=some n:=by
  unfold room
  have h':(n:Int)*(b:Int)≤140737488355328:=by
    have:((n*b:Nat):Int)≤((140737488355328:Nat):Int):=Int.ofNat_le.mpr h
    rw [Int.natCast_mul] at this;exact this
  rw [if_pos ⟨Int.natCast_nonneg n,h'⟩,Int.toNat_natCast]
theorem kW {a b:Int} (ha:0≤a) (hb:0<b):J0 a b=some (a%b):=by rw [eO_ (by omega),Int.tmod_eq_emod_of_nonneg ha]
theorem uV {a b:Int} (ha:0≤a) (hb:0<b):UH a b=some (a/b):=by rw [eV_ (by omega),Int.tdiv_eq_ediv_of_nonneg ha]
end Km
